/- A logic of trees over the model's steps, and the contracts of the functions that the laws reach: part 13 of 14. -/
import Derived.Test.YtekkpfbjnjjcbaaGreatDoorB12
section
set_option linter.unusedVariables false
set_option linter.unusedSimpArgs false
set_option linter.unusedSectionVars false
namespace Go.Proofs.YtekkpfbjnjjcbaaGreatDoor
open Go.Ac Go.MapKept
attribute [local irreducible] awp awpL Ev Ev2 EvS thenQ blockQ retQ PCalls OCalls YieldOk IterC
set_option linter.unusedSimpArgs false
set_option linter.unusedVariables false
variable {g : List (Nat × List AV)}
set_option maxRecDepth 4000 in
set_option maxHeartbeats 2000000 in
theorem EqualFunc_spec (a b : List Op) (ha : FitO a) (hb : FitO b) : PCalls Tryz.prog g 67 [encOps a, encOps b, .fn 68 [] []] (vb (decide (a = b))) := by
  have hal := ha.1
  have hbl := hb.1
  have n1 : (!true) = false := rfl
  have n2 : (!false) = true := rfl
  refine pcalls' Tryz.func67 Tryz.ntmps67 rfl rfl rfl ?_
  by_cases hl : a.length = b.length
  · have c0 : (!decide ((a.length : Int) = b.length)) = false := by simp; omega
    repeat' (first
     | refine stn [] ?_
     | ((with_reducible refine is_gd ?_); refine awpL_split rfl rfl (fun h => ?_) (fun h => ?_))
     | ((with_reducible refine is_awp ?_); refine awp_cond rfl (fun h => ?_) (fun h => ?_))
     | fail)
    refine awp_for (α := Nat) 0 (fun k => [(1, encOps b), (2, .fn 68 [] []), (15, encOps a), (16, vi a.length), (17, vi k)]) (fun _ => []) (fun k => k ≤ a.length ∧ a.take k = b.take k) (fun k => a.length - k) 0
      ⟨(.cons rfl rfl (.cons rfl rfl (.cons rfl rfl (.cons rfl rfl (.cons rfl rfl .nil))))), rfl, rfl, rfl⟩ ⟨Nat.zero_le _, rfl⟩ ?_
    rintro k ⟨hk, hf⟩
    cases ht : a[k]? with
    | none =>
      have hge : a.length ≤ k := by simpa using ht
      have c1 : decide ((k : Int) < a.length) = false := decide_eq_false (by omega)
      have he : a = b := by
        rw [List.take_of_length_le hge, List.take_of_length_le (by omega)] at hf; exact hf
      repeat' (first
       | refine stn [] ?_
       | ((with_reducible refine is_gd ?_); refine awpL_split rfl rfl (fun h => ?_) (fun h => ?_))
       | ((with_reducible refine is_awp ?_); refine awp_cond rfl (fun h => ?_) (fun h => ?_))
       | fail)
      refine retP rfl ?_
      simp [ex, he]
    | some x =>
      have hlt : k < a.length := (List.getElem?_eq_some_iff.1 ht).1
      obtain ⟨y, hy⟩ : ∃ y, b[k]? = some y := ⟨_, List.getElem?_eq_getElem (by omega)⟩
      have c1 : decide ((k : Int) < a.length) = true := decide_eq_true (by omega)
      have h1 := op_get ht
      have h2 := op_get hy
      have hS := Same_spec (g := g) x y (by have := ha.2 x (List.mem_of_getElem? ht); omega) (by have := hb.2 y (List.mem_of_getElem? hy); omega)
      by_cases hxy : x = y
      · rw [decide_eq_true hxy] at hS
        repeat' (first
         | ((with_reducible refine is_un ?_); refine awpL_callF rfl rfl rfl hS rfl ?_)
         | refine stn [] ?_
         | ((with_reducible refine is_gd ?_); refine awpL_split rfl rfl (fun h => ?_) (fun h => ?_))
         | ((with_reducible refine is_awp ?_); refine awp_cond rfl (fun h => ?_) (fun h => ?_))
         | fail)
        exact ⟨k + 1, ⟨(.cons rfl rfl (.cons rfl rfl (.cons rfl rfl (.cons rfl rfl (.cons rfl rfl .nil))))), rfl, rfl, rfl⟩, ⟨by omega, by rw [List.take_add_one, List.take_add_one, hf, ht, hy, hxy]⟩, by omega⟩
      · rw [decide_eq_false hxy] at hS
        repeat' (first
         | ((with_reducible refine is_un ?_); refine awpL_callF rfl rfl rfl hS rfl ?_)
         | refine stn [] ?_
         | ((with_reducible refine is_gd ?_); refine awpL_split rfl rfl (fun h => ?_) (fun h => ?_))
         | ((with_reducible refine is_awp ?_); refine awp_cond rfl (fun h => ?_) (fun h => ?_))
         | fail)
        refine retP rfl ?_
        have : a ≠ b := fun e => hxy (by rw [e, hy] at ht; exact (Option.some.inj ht).symm)
        simp [ex, this]
  · have c0 : (!decide ((a.length : Int) = b.length)) = true := by simp; omega
    repeat' (first
     | refine stn [] ?_
     | ((with_reducible refine is_gd ?_); refine awpL_split rfl rfl (fun h => ?_) (fun h => ?_))
     | ((with_reducible refine is_awp ?_); refine awp_cond rfl (fun h => ?_) (fun h => ?_))
     | fail)
    refine retP rfl ?_
    have : a ≠ b := fun e => hl (by rw [e])
    simp [ex, this]
theorem rep_eq (a b : Replica) : decide (a = b) = (decide (a.dev = b.dev) && (decide (a.seen = b.seen) && decide (a.ops = b.ops))) := by
  rcases a with ⟨a1, a2, a3⟩
  rcases b with ⟨b1, b2, b3⟩
  simp only [Replica.mk.injEq, Bool.decide_and]
theorem SameRep_spec (a b : Replica) (ha : FitO a.ops) (hb : FitO b.ops) (sa : a.seen.length ≤ 1000000) (sb : b.seen.length ≤ 1000000) : PCalls Tryz.prog g 38 [.agg (repC a), .agg (repC b)] (vb (decide (a = b))) := by
  have hE := eqInts_spec (g := g) a.seen b.seen sa sb
  have hO := EqualFunc_spec (g := g) a.ops b.ops ha hb
  rw [rep_eq]
  refine pcalls' Tryz.func38 Tryz.ntmps38 rfl rfl rfl ?_
  cases d1 : decide (a.dev = b.dev) with
  | false =>
    repeat' (first
     | refine stn [] ?_
     | ((with_reducible refine is_gd ?_); refine awpL_split rfl rfl (fun h => ?_) (fun h => ?_))
     | ((with_reducible refine is_awp ?_); refine awp_cond rfl (fun h => ?_) (fun h => ?_))
     | fail)
    exact retP rfl rfl
  | true =>
  cases d2 : decide (a.seen = b.seen) with
  | false =>
    rw [d2] at hE
    repeat' (first
     | refine stn [] ?_
     | ((with_reducible refine is_gd ?_); refine awpL_split rfl rfl (fun h => ?_) (fun h => ?_))
     | ((with_reducible refine is_awp ?_); refine awp_cond rfl (fun h => ?_) (fun h => ?_))
     | fail)
    exact retP rfl rfl
  | true =>
  rw [d2] at hE
  cases d3 : decide (a.ops = b.ops) with
  | false =>
    rw [d3] at hO
    repeat' (first
     | refine stn [] ?_
     | ((with_reducible refine is_gd ?_); refine awpL_split rfl rfl (fun h => ?_) (fun h => ?_))
     | ((with_reducible refine is_awp ?_); refine awp_cond rfl (fun h => ?_) (fun h => ?_))
     | fail)
    exact retP rfl rfl
  | true =>
    rw [d3] at hO
    repeat' (first
     | refine stn [] ?_
     | ((with_reducible refine is_gd ?_); refine awpL_split rfl rfl (fun h => ?_) (fun h => ?_))
     | ((with_reducible refine is_awp ?_); refine awp_cond rfl (fun h => ?_) (fun h => ?_))
     | fail)
    exact retP rfl rfl
end Go.Proofs.YtekkpfbjnjjcbaaGreatDoor
end
section
set_option linter.unusedVariables false
set_option linter.unusedSimpArgs false
set_option linter.unusedSectionVars false
namespace Go.Proofs.YtekkpfbjnjjcbaaGreatDoor
open Go.Ac
attribute [local irreducible] awp awpL Ev Ev2 EvS thenQ blockQ retQ PCalls OCalls YieldOk IterC
set_option linter.unusedSimpArgs false
set_option linter.unusedVariables false
variable {g : List (Nat × List AV)}
def valEq : List Value → List Value → Option Bool
  | [.int .i64 a, .int .i64 b, .int .i64 c, .string s], [.int .i64 a', .int .i64 b', .int .i64 c', .string s'] => some ((a == a' && b == b') && (c == c' && s.toList == s'.toList))
  | _, _ => none
theorem valEq_T : EqT Tryz.prog 59 valEq := by
  intro xs ys b w h
  unfold valEq at h
  split at h
  · rename_i a b c s a' b' c' s'
    have h := Option.some.inj h
    subst h
    have u3 := Tryz.underlying3
    have a3 := Tryz.isAgg3
    have z3 := Tryz.sizeOf3
    have u9 := Tryz.underlying9
    have a9 := Tryz.isAgg9
    have z9 := Tryz.sizeOf9
    have a7 := Tryz.isAgg57
    have z7 := Tryz.sizeOf57
    have hS : Tryz.prog.underlying 59 = some (.struct (Tryz.prog.fieldsOf 59)) := by kernel_rfl
    have hsp : ∀ w, (Op.equalIn 9999 57 (.agg #[.int .i64 a, .int .i64 b]) (.agg #[.int .i64 a', .int .i64 b'])).run Tryz.prog w = .ok (a == a' && b == b') w := by
      intro w
      rw [show (9999 : Nat) = 9998 + 1 from rfl, run_equalIn_agg w 9998 _ _ _ (show Tryz.prog.underlying 57 = some (.struct (Tryz.prog.fieldsOf 57)) by kernel_rfl) (by kernel_rfl)]
      simp only [Program.fieldsOf, Tryz.underlying57]
      go_simp
      by_cases h1 : a = a' <;> by_cases h2 : b = b' <;> simp [h1, h2]
    rw [show (10000 : Nat) = 9999 + 1 from rfl, run_equalIn_agg w 9999 _ _ _ hS (by kernel_rfl)]
    simp only [Program.fieldsOf, Tryz.underlying59]
    go_simp
    by_cases h1 : a = a' <;> by_cases h2 : b = b' <;> by_cases h3 : c = c' <;> by_cases h7 : s.toList = s'.toList <;> simp [h1, h2, h3, h7]
  · cases h
theorem val_eq (a b : Val) : ((a.at_.count == b.at_.count && a.at_.dev == b.at_.dev) && (a.n == b.n && a.text.toList == b.text.toList)) = decide (a = b) := by
  have hb : ∀ s t : ByteArray, (s.toList == t.toList) = decide (s = t) := beq_bytes
  have hi : ∀ (a b : Int), (a == b) = decide (a = b) := fun a b => by by_cases h : a = b <;> simp [h]
  rcases a with ⟨⟨a1, a2⟩, a3, a4⟩
  rcases b with ⟨⟨b1, b2⟩, b3, b4⟩
  simp only [hb, hi, Val.mk.injEq, Stamp.mk.injEq, Bool.decide_and]
theorem note_eqb (a b : Note) : ((a.id == b.id && (a.tier == b.tier && (a.parent == b.parent && ((a.span.fro == b.span.fro && a.span.til == b.span.til) && (a.rank == b.rank && a.text.toList == b.text.toList)))))) = decide (a = b) := by
  have hb : ∀ s t : ByteArray, (s.toList == t.toList) = decide (s = t) := beq_bytes
  have hi : ∀ (a b : Int), (a == b) = decide (a = b) := fun a b => by by_cases h : a = b <;> simp [h]
  rcases a with ⟨a1, a2, a3, ⟨a4, a5⟩, a6, a7⟩
  rcases b with ⟨b1, b2, b3, ⟨b4, b5⟩, b6, b7⟩
  simp only [hb, hi, Note.mk.injEq, Span.mk.injEq, Bool.decide_and]
set_option maxHeartbeats 1000000 in
theorem listed_spec (a b : List Val) (ha : a.length ≤ 1000000) (hb : b.length ≤ 1000000) : PCalls Tryz.prog g 50 [encVals a, encVals b] (vb (decide (a = b))) := by
  refine pcalls' Tryz.func50 Tryz.ntmps50 rfl rfl rfl ?_
  by_cases hl : a.length = b.length
  · have c0 : (!decide ((a.length : Int) = b.length)) = false := by simp; omega
    repeat' (first
     | refine stn [] ?_
     | ((with_reducible refine is_gd ?_); refine awpL_split rfl rfl (fun h => ?_) (fun h => ?_))
     | ((with_reducible refine is_awp ?_); refine awp_cond rfl (fun h => ?_) (fun h => ?_))
     | fail)
    refine awp_for (α := Nat) 0 (fun k => [(0, encVals a), (1, encVals b), (5, vi k)]) (fun _ => []) (fun k => k ≤ a.length ∧ a.take k = b.take k) (fun k => a.length - k) 0
      ⟨(.cons rfl rfl (.cons rfl rfl (.cons rfl rfl .nil))), rfl, rfl, rfl⟩ ⟨Nat.zero_le _, rfl⟩ ?_
    rintro k ⟨hk, hf⟩
    cases ht : a[k]? with
    | none =>
      have hge : a.length ≤ k := by simpa using ht
      have c1 : decide ((k : Int) < a.length) = false := by simp; omega
      have he : a = b := by
        rw [List.take_of_length_le hge, List.take_of_length_le (by omega)] at hf; exact hf
      repeat' (first
       | refine stn [] ?_
       | ((with_reducible refine is_gd ?_); refine awpL_split rfl rfl (fun h => ?_) (fun h => ?_))
       | ((with_reducible refine is_awp ?_); refine awp_cond rfl (fun h => ?_) (fun h => ?_))
       | fail)
      refine retP rfl ?_
      simp [ex, he]
    | some x =>
      have hlt : k < a.length := (List.getElem?_eq_some_iff.1 ht).1
      obtain ⟨y, hy⟩ : ∃ y, b[k]? = some y := ⟨_, List.getElem?_eq_getElem (by omega)⟩
      have c1 : decide ((k : Int) < a.length) = true := by simp; omega
      have h1 := val_get ht
      have h2 := val_get hy
      have e1 := val_eq x y
      by_cases hxy : x = y
      · rw [decide_eq_true hxy] at e1
        have n1 : (!true) = false := rfl
        repeat' (first
         | ((with_reducible refine isD_un ?_); refine awpD_un (as_ev (fun _ => ev_neA (b := true) valEq_T (by kernel_rfl) rfl rfl rfl rfl (by rw [← e1]; rfl)) rfl rfl) (by (try simp only [List.nil_append, List.cons_append]); (try rfl)) ?_)
         | ((with_reducible refine isD_gd ?_); refine awpD_gd rfl rfl (by first | with_reducible rfl | with_reducible assumption) (as_ev (fun _ => ev_neA (b := true) valEq_T (by kernel_rfl) rfl rfl rfl rfl (by rw [← e1]; rfl)) rfl rfl) (by (try simp only [List.nil_append, List.cons_append]); (try rfl)) ?_)
         | refine st [] ?_
         | ((with_reducible refine is_gd ?_); refine awpL_split rfl rfl (fun h => ?_) (fun h => ?_))
         | ((with_reducible refine isD_gd ?_); ((fail_if_success (refine isD_kn (c := true) rfl (by first | with_reducible rfl | with_reducible assumption) ?_)); (fail_if_success (refine isD_kn (c := false) rfl (by first | with_reducible rfl | with_reducible assumption) ?_)); refine awpD_split rfl (fun h => ?_) (fun h => ?_)))
         | ((with_reducible refine is_awp ?_); refine awp_cond rfl (fun h => ?_) (fun h => ?_))
         | fail)
        exact ⟨k + 1, ⟨(.cons rfl rfl (.cons rfl rfl (.cons rfl rfl .nil))), rfl, rfl, rfl⟩, ⟨by omega, by rw [List.take_add_one, List.take_add_one, hf, ht, hy, hxy]⟩, by omega⟩
      · rw [decide_eq_false hxy] at e1
        have n1 : (!false) = true := rfl
        repeat' (first
         | ((with_reducible refine isD_un ?_); refine awpD_un (as_ev (fun _ => ev_neA (b := false) valEq_T (by kernel_rfl) rfl rfl rfl rfl (by rw [← e1]; rfl)) rfl rfl) (by (try simp only [List.nil_append, List.cons_append]); (try rfl)) ?_)
         | ((with_reducible refine isD_gd ?_); refine awpD_gd rfl rfl (by first | with_reducible rfl | with_reducible assumption) (as_ev (fun _ => ev_neA (b := false) valEq_T (by kernel_rfl) rfl rfl rfl rfl (by rw [← e1]; rfl)) rfl rfl) (by (try simp only [List.nil_append, List.cons_append]); (try rfl)) ?_)
         | refine st [] ?_
         | ((with_reducible refine is_gd ?_); refine awpL_split rfl rfl (fun h => ?_) (fun h => ?_))
         | ((with_reducible refine isD_gd ?_); ((fail_if_success (refine isD_kn (c := true) rfl (by first | with_reducible rfl | with_reducible assumption) ?_)); (fail_if_success (refine isD_kn (c := false) rfl (by first | with_reducible rfl | with_reducible assumption) ?_)); refine awpD_split rfl (fun h => ?_) (fun h => ?_)))
         | ((with_reducible refine is_awp ?_); refine awp_cond rfl (fun h => ?_) (fun h => ?_))
         | fail)
        refine retP rfl ?_
        have : a ≠ b := fun e => hxy (by rw [e, hy] at ht; exact (Option.some.inj ht).symm)
        simp [ex, this]
  · have c0 : (!decide ((a.length : Int) = b.length)) = true := by simp; omega
    repeat' (first
     | refine stn [] ?_
     | ((with_reducible refine is_gd ?_); refine awpL_split rfl rfl (fun h => ?_) (fun h => ?_))
     | ((with_reducible refine is_awp ?_); refine awp_cond rfl (fun h => ?_) (fun h => ?_))
     | fail)
    refine retP rfl ?_
    have : a ≠ b := fun e => hl (by rw [e])
    simp [ex, this]
def FitC (c : Cell) : Prop := c.text.length ≤ 100000 ∧ c.fro.length ≤ 100000 ∧ c.til.length ≤ 100000
set_option maxRecDepth 8000 in
set_option maxHeartbeats 2000000 in
theorem Equal_spec (a : Cell) (ha : FitC a) : PCalls Tryz.prog g 21 [.agg (cellC a), .agg (cellC a)] (vb true) := by
  have h1 := listed_spec (g := g) a.text a.text (by have := ha.1; omega) (by have := ha.1; omega)
  have h2 := listed_spec (g := g) a.fro a.fro (by have := ha.2.1; omega) (by have := ha.2.1; omega)
  have h3 := listed_spec (g := g) a.til a.til (by have := ha.2.2; omega) (by have := ha.2.2; omega)
  rw [decide_eq_true rfl] at h1 h2 h3
  obtain ⟨n, hn⟩ : ∃ n, n = a.rec_ := ⟨_, rfl⟩
  have e1 := note_eqb a.note a.note
  rw [decide_eq_true rfl] at e1
  have e0 : decide (a.rec_ = a.rec_) = true := decide_eq_true rfl
  refine pcalls' Tryz.func21 Tryz.ntmps21 rfl rfl rfl ?_
  repeat' (first
   | ((with_reducible refine is_un ?_); refine awpL_ev (ev_eqA (b := true) noteEq_T (by kernel_rfl) rfl rfl rfl rfl (by rw [← e1]; rfl)) rfl ?_)
   | ((with_reducible refine isD_un ?_); refine awpD_un (as_ev (fun _ => ev_eqA (b := true) noteEq_T (by kernel_rfl) rfl rfl rfl rfl (by rw [← e1]; rfl)) rfl rfl) (by (try simp only [List.nil_append, List.cons_append]); (try rfl)) ?_)
   | ((with_reducible refine isD_gd ?_); refine awpD_gd rfl rfl (by first | with_reducible rfl | with_reducible assumption) (as_ev (fun _ => ev_eqA (b := true) noteEq_T (by kernel_rfl) rfl rfl rfl rfl (by rw [← e1]; rfl)) rfl rfl) (by (try simp only [List.nil_append, List.cons_append]); (try rfl)) ?_)
   | refine st [] ?_
   | ((with_reducible refine is_gd ?_); refine awpL_split rfl rfl (fun h => ?_) (fun h => ?_))
   | ((with_reducible refine isD_gd ?_); ((fail_if_success (refine isD_kn (c := true) rfl (by first | with_reducible rfl | with_reducible assumption) ?_)); (fail_if_success (refine isD_kn (c := false) rfl (by first | with_reducible rfl | with_reducible assumption) ?_)); refine awpD_split rfl (fun h => ?_) (fun h => ?_)))
   | ((with_reducible refine is_awp ?_); refine awp_cond rfl (fun h => ?_) (fun h => ?_))
   | fail)
  exact retP rfl rfl
def FitCs (l : List Cell) : Prop := l.length ≤ 100000 ∧ ∀ c ∈ l, FitC c
theorem cell_get {l : List Cell} {k : Nat} {t : Cell} (h : l[k]? = some t) : 0 ≤ (k : Int) ∧ (l.map cellC)[(k : Int).toNat]? = some (cellC t) := ⟨by omega, by simp [h]⟩
set_option maxHeartbeats 1000000 in
theorem SameCells_spec (a : List Cell) (ha : FitCs a) : PCalls Tryz.prog g 18 [encCells a, encCells a] (vb true) := by
  refine pcalls' Tryz.func18 Tryz.ntmps18 rfl rfl rfl ?_
  have hal := ha.1
  have c0 : (!decide ((a.length : Int) = a.length)) = false := by simp
  repeat' (first
   | refine stn [] ?_
   | ((with_reducible refine is_gd ?_); refine awpL_split rfl rfl (fun h => ?_) (fun h => ?_))
   | ((with_reducible refine is_awp ?_); refine awp_cond rfl (fun h => ?_) (fun h => ?_))
   | fail)
  refine awp_for (α := Nat) 0 (fun k => [(0, encCells a), (1, encCells a), (5, vi k)]) (fun _ => []) (fun k => k ≤ a.length) (fun k => a.length - k) 0
    ⟨(.cons rfl rfl (.cons rfl rfl (.cons rfl rfl .nil))), rfl, rfl, rfl⟩ (Nat.zero_le _) ?_
  rintro k hk
  cases ht : a[k]? with
  | none =>
    have hge : a.length ≤ k := by simpa using ht
    have c1 : decide ((k : Int) < a.length) = false := by simp; omega
    repeat' (first
     | refine stn [] ?_
     | ((with_reducible refine is_gd ?_); refine awpL_split rfl rfl (fun h => ?_) (fun h => ?_))
     | ((with_reducible refine is_awp ?_); refine awp_cond rfl (fun h => ?_) (fun h => ?_))
     | fail)
    exact retP rfl rfl
  | some x =>
    have hlt : k < a.length := (List.getElem?_eq_some_iff.1 ht).1
    have c1 : decide ((k : Int) < a.length) = true := by simp; omega
    have h1 := cell_get ht
    have h3 := Equal_spec (g := g) x (ha.2 x (List.mem_of_getElem? ht))
    have n1 : (!true) = false := rfl
    repeat' (first
     | refine st [] ?_
     | ((with_reducible refine is_gd ?_); refine awpL_split rfl rfl (fun h => ?_) (fun h => ?_))
     | ((with_reducible refine isD_gd ?_); ((fail_if_success (refine isD_kn (c := true) rfl (by first | with_reducible rfl | with_reducible assumption) ?_)); (fail_if_success (refine isD_kn (c := false) rfl (by first | with_reducible rfl | with_reducible assumption) ?_)); refine awpD_split rfl (fun h => ?_) (fun h => ?_)))
     | ((with_reducible refine is_awp ?_); refine awp_cond rfl (fun h => ?_) (fun h => ?_))
     | fail)
    exact ⟨k + 1, ⟨(.cons rfl rfl (.cons rfl rfl (.cons rfl rfl .nil))), rfl, rfl, rfl⟩, by omega, by omega⟩
end Go.Proofs.YtekkpfbjnjjcbaaGreatDoor
end
section
set_option linter.unusedVariables false
set_option linter.unusedSimpArgs false
set_option linter.unusedSectionVars false
namespace Go.Proofs.YtekkpfbjnjjcbaaGreatDoor
open Go.Ac Go.MapKept
attribute [local irreducible] awp awpL Ev Ev2 EvS thenQ blockQ retQ PCalls OCalls YieldOk IterC
set_option linter.unusedSimpArgs false
set_option linter.unusedVariables false
variable {g : List (Nat × List AV)}
abbrev lastV (o : Option Val) : AV := .tup [.agg (valC (o.getD zeroVal)), vb o.isSome]
theorem last_val {l : List Val} {p : Val} (h : l.getLast? = some p) : 0 < l.length ∧ 0 ≤ (l.length : Int) - 1 ∧ (l.map valC)[((l.length : Int) - 1).toNat]? = some (valC p) := by
  rw [List.getLast?_eq_getElem?] at h
  have hpos : 0 < l.length := by
    cases l with
    | nil => simp at h
    | cons x r => simp
  refine ⟨hpos, by omega, ?_⟩
  rw [show ((l.length : Int) - 1).toNat = l.length - 1 by omega, List.getElem?_map, h]; rfl
theorem last_nil {l : List Val} (h : l.getLast? = none) : l.length = 0 := by simpa using h
set_option maxHeartbeats 1000000 in
theorem last_spec (l : List Val) (hl : l.length ≤ 1000000) : PCalls Tryz.prog g 51 [encVals l] (lastV l.getLast?) := by
  refine pcalls' Tryz.func51 Tryz.ntmps51 rfl rfl rfl ?_
  cases hq : l.getLast? with
  | none =>
    have c1 : decide ((l.length : Int) = 0) = true := decide_eq_true (by have := last_nil hq; omega)
    repeat' (first
     | refine stn [2] ?_
     | ((with_reducible refine is_gd ?_); refine awpL_split rfl rfl (fun h => ?_) (fun h => ?_))
     | ((with_reducible refine is_awp ?_); refine awp_cond rfl (fun h => ?_) (fun h => ?_))
     | fail)
    exact retP rfl rfl
  | some p =>
    obtain ⟨h1, h2⟩ := last_val hq
    have c1 : decide ((l.length : Int) = 0) = false := decide_eq_false (by omega)
    repeat' (first
     | refine stn [2] ?_
     | ((with_reducible refine is_gd ?_); refine awpL_split rfl rfl (fun h => ?_) (fun h => ?_))
     | ((with_reducible refine is_awp ?_); refine awp_cond rfl (fun h => ?_) (fun h => ?_))
     | fail)
    exact retP rfl rfl
set_option maxRecDepth 8000 in
set_option maxHeartbeats 4000000 in
theorem Current_spec (c : Cell) (hc : FitC c) : PCalls Tryz.prog g 22 [.agg (cellC c)] (.agg (noteC (current c))) := by
  obtain ⟨k0, k1, k2⟩ := hc
  have l0 := last_spec (g := g) c.text (by omega)
  have l1 := last_spec (g := g) c.fro (by omega)
  have l2 := last_spec (g := g) c.til (by omega)
  refine pcalls' Tryz.func22 Tryz.ntmps22 rfl rfl rfl ?_
  cases q0 : c.text.getLast? with
  | none =>
    rw [lastV, q0] at l0
    simp only [Option.getD_none, Option.isSome_none] at l0
    cases q1 : c.fro.getLast? with
    | none =>
      rw [lastV, q1] at l1
      simp only [Option.getD_none, Option.isSome_none] at l1
      cases q2 : c.til.getLast? with
      | none =>
        rw [lastV, q2] at l2
        simp only [Option.getD_none, Option.isSome_none] at l2
        repeat' (first
         | refine stn [2, 3] ?_
         | ((with_reducible refine is_gd ?_); refine awpL_split rfl rfl (fun h => ?_) (fun h => ?_))
         | ((with_reducible refine is_awp ?_); refine awp_cond rfl (fun h => ?_) (fun h => ?_))
         | fail)
        refine retP rfl ?_
        unfold current
        simp only [q0, q1, q2]
        rfl
      | some p2 =>
        rw [lastV, q2] at l2
        simp only [Option.getD_some, Option.isSome_some] at l2
        repeat' (first
         | refine stn [2, 3] ?_
         | ((with_reducible refine is_gd ?_); refine awpL_split rfl rfl (fun h => ?_) (fun h => ?_))
         | ((with_reducible refine is_awp ?_); refine awp_cond rfl (fun h => ?_) (fun h => ?_))
         | fail)
        refine retP rfl ?_
        unfold current
        simp only [q0, q1, q2]
        rfl
    | some p1 =>
      rw [lastV, q1] at l1
      simp only [Option.getD_some, Option.isSome_some] at l1
      cases q2 : c.til.getLast? with
      | none =>
        rw [lastV, q2] at l2
        simp only [Option.getD_none, Option.isSome_none] at l2
        repeat' (first
         | refine stn [2, 3] ?_
         | ((with_reducible refine is_gd ?_); refine awpL_split rfl rfl (fun h => ?_) (fun h => ?_))
         | ((with_reducible refine is_awp ?_); refine awp_cond rfl (fun h => ?_) (fun h => ?_))
         | fail)
        refine retP rfl ?_
        unfold current
        simp only [q0, q1, q2]
        rfl
      | some p2 =>
        rw [lastV, q2] at l2
        simp only [Option.getD_some, Option.isSome_some] at l2
        repeat' (first
         | refine stn [2, 3] ?_
         | ((with_reducible refine is_gd ?_); refine awpL_split rfl rfl (fun h => ?_) (fun h => ?_))
         | ((with_reducible refine is_awp ?_); refine awp_cond rfl (fun h => ?_) (fun h => ?_))
         | fail)
        refine retP rfl ?_
        unfold current
        simp only [q0, q1, q2]
        rfl
  | some p0 =>
    rw [lastV, q0] at l0
    simp only [Option.getD_some, Option.isSome_some] at l0
    cases q1 : c.fro.getLast? with
    | none =>
      rw [lastV, q1] at l1
      simp only [Option.getD_none, Option.isSome_none] at l1
      cases q2 : c.til.getLast? with
      | none =>
        rw [lastV, q2] at l2
        simp only [Option.getD_none, Option.isSome_none] at l2
        repeat' (first
         | refine stn [2, 3] ?_
         | ((with_reducible refine is_gd ?_); refine awpL_split rfl rfl (fun h => ?_) (fun h => ?_))
         | ((with_reducible refine is_awp ?_); refine awp_cond rfl (fun h => ?_) (fun h => ?_))
         | fail)
        refine retP rfl ?_
        unfold current
        simp only [q0, q1, q2]
        rfl
      | some p2 =>
        rw [lastV, q2] at l2
        simp only [Option.getD_some, Option.isSome_some] at l2
        repeat' (first
         | refine stn [2, 3] ?_
         | ((with_reducible refine is_gd ?_); refine awpL_split rfl rfl (fun h => ?_) (fun h => ?_))
         | ((with_reducible refine is_awp ?_); refine awp_cond rfl (fun h => ?_) (fun h => ?_))
         | fail)
        refine retP rfl ?_
        unfold current
        simp only [q0, q1, q2]
        rfl
    | some p1 =>
      rw [lastV, q1] at l1
      simp only [Option.getD_some, Option.isSome_some] at l1
      cases q2 : c.til.getLast? with
      | none =>
        rw [lastV, q2] at l2
        simp only [Option.getD_none, Option.isSome_none] at l2
        repeat' (first
         | refine stn [2, 3] ?_
         | ((with_reducible refine is_gd ?_); refine awpL_split rfl rfl (fun h => ?_) (fun h => ?_))
         | ((with_reducible refine is_awp ?_); refine awp_cond rfl (fun h => ?_) (fun h => ?_))
         | fail)
        refine retP rfl ?_
        unfold current
        simp only [q0, q1, q2]
        rfl
      | some p2 =>
        rw [lastV, q2] at l2
        simp only [Option.getD_some, Option.isSome_some] at l2
        repeat' (first
         | refine stn [2, 3] ?_
         | ((with_reducible refine is_gd ?_); refine awpL_split rfl rfl (fun h => ?_) (fun h => ?_))
         | ((with_reducible refine is_awp ?_); refine awp_cond rfl (fun h => ?_) (fun h => ?_))
         | fail)
        refine retP rfl ?_
        unfold current
        simp only [q0, q1, q2]
        rfl
set_option maxRecDepth 8000 in
set_option maxHeartbeats 4000000 in
theorem rCurrent_spec (c : Cell) (hc : FitC c) : PCalls Tryz.prog g 23 [.agg (cellC c)] (.agg (noteC (current c))) := by
  obtain ⟨k0, k1, k2⟩ := hc
  refine pcalls' Tryz.func23 Tryz.ntmps23 rfl rfl rfl ?_
  cases q0 : c.text.getLast? with
  | none =>
    have d0 : decide ((0 : Int) < c.text.length) = false := decide_eq_false (by have := last_nil q0; omega)
    cases q1 : c.fro.getLast? with
    | none =>
      have d1 : decide ((0 : Int) < c.fro.length) = false := decide_eq_false (by have := last_nil q1; omega)
      cases q2 : c.til.getLast? with
      | none =>
        have d2 : decide ((0 : Int) < c.til.length) = false := decide_eq_false (by have := last_nil q2; omega)
        repeat' (first
         | refine stn [2, 3] ?_
         | ((with_reducible refine is_gd ?_); refine awpL_split rfl rfl (fun h => ?_) (fun h => ?_))
         | ((with_reducible refine is_awp ?_); refine awp_cond rfl (fun h => ?_) (fun h => ?_))
         | fail)
        refine retP rfl ?_
        unfold current
        simp only [q0, q1, q2]
        rfl
      | some p2 =>
        obtain ⟨a2, b2⟩ := last_val q2
        have d2 : decide ((0 : Int) < c.til.length) = true := decide_eq_true (by omega)
        repeat' (first
         | refine stn [2, 3] ?_
         | ((with_reducible refine is_gd ?_); refine awpL_split rfl rfl (fun h => ?_) (fun h => ?_))
         | ((with_reducible refine is_awp ?_); refine awp_cond rfl (fun h => ?_) (fun h => ?_))
         | fail)
        refine retP rfl ?_
        unfold current
        simp only [q0, q1, q2]
        rfl
    | some p1 =>
      obtain ⟨a1, b1⟩ := last_val q1
      have d1 : decide ((0 : Int) < c.fro.length) = true := decide_eq_true (by omega)
      cases q2 : c.til.getLast? with
      | none =>
        have d2 : decide ((0 : Int) < c.til.length) = false := decide_eq_false (by have := last_nil q2; omega)
        repeat' (first
         | refine stn [2, 3] ?_
         | ((with_reducible refine is_gd ?_); refine awpL_split rfl rfl (fun h => ?_) (fun h => ?_))
         | ((with_reducible refine is_awp ?_); refine awp_cond rfl (fun h => ?_) (fun h => ?_))
         | fail)
        refine retP rfl ?_
        unfold current
        simp only [q0, q1, q2]
        rfl
      | some p2 =>
        obtain ⟨a2, b2⟩ := last_val q2
        have d2 : decide ((0 : Int) < c.til.length) = true := decide_eq_true (by omega)
        repeat' (first
         | refine stn [2, 3] ?_
         | ((with_reducible refine is_gd ?_); refine awpL_split rfl rfl (fun h => ?_) (fun h => ?_))
         | ((with_reducible refine is_awp ?_); refine awp_cond rfl (fun h => ?_) (fun h => ?_))
         | fail)
        refine retP rfl ?_
        unfold current
        simp only [q0, q1, q2]
        rfl
  | some p0 =>
    obtain ⟨a0, b0⟩ := last_val q0
    have d0 : decide ((0 : Int) < c.text.length) = true := decide_eq_true (by omega)
    cases q1 : c.fro.getLast? with
    | none =>
      have d1 : decide ((0 : Int) < c.fro.length) = false := decide_eq_false (by have := last_nil q1; omega)
      cases q2 : c.til.getLast? with
      | none =>
        have d2 : decide ((0 : Int) < c.til.length) = false := decide_eq_false (by have := last_nil q2; omega)
        repeat' (first
         | refine stn [2, 3] ?_
         | ((with_reducible refine is_gd ?_); refine awpL_split rfl rfl (fun h => ?_) (fun h => ?_))
         | ((with_reducible refine is_awp ?_); refine awp_cond rfl (fun h => ?_) (fun h => ?_))
         | fail)
        refine retP rfl ?_
        unfold current
        simp only [q0, q1, q2]
        rfl
      | some p2 =>
        obtain ⟨a2, b2⟩ := last_val q2
        have d2 : decide ((0 : Int) < c.til.length) = true := decide_eq_true (by omega)
        repeat' (first
         | refine stn [2, 3] ?_
         | ((with_reducible refine is_gd ?_); refine awpL_split rfl rfl (fun h => ?_) (fun h => ?_))
         | ((with_reducible refine is_awp ?_); refine awp_cond rfl (fun h => ?_) (fun h => ?_))
         | fail)
        refine retP rfl ?_
        unfold current
        simp only [q0, q1, q2]
        rfl
    | some p1 =>
      obtain ⟨a1, b1⟩ := last_val q1
      have d1 : decide ((0 : Int) < c.fro.length) = true := decide_eq_true (by omega)
      cases q2 : c.til.getLast? with
      | none =>
        have d2 : decide ((0 : Int) < c.til.length) = false := decide_eq_false (by have := last_nil q2; omega)
        repeat' (first
         | refine stn [2, 3] ?_
         | ((with_reducible refine is_gd ?_); refine awpL_split rfl rfl (fun h => ?_) (fun h => ?_))
         | ((with_reducible refine is_awp ?_); refine awp_cond rfl (fun h => ?_) (fun h => ?_))
         | fail)
        refine retP rfl ?_
        unfold current
        simp only [q0, q1, q2]
        rfl
      | some p2 =>
        obtain ⟨a2, b2⟩ := last_val q2
        have d2 : decide ((0 : Int) < c.til.length) = true := decide_eq_true (by omega)
        repeat' (first
         | refine stn [2, 3] ?_
         | ((with_reducible refine is_gd ?_); refine awpL_split rfl rfl (fun h => ?_) (fun h => ?_))
         | ((with_reducible refine is_awp ?_); refine awp_cond rfl (fun h => ?_) (fun h => ?_))
         | fail)
        refine retP rfl ?_
        unfold current
        simp only [q0, q1, q2]
        rfl
end Go.Proofs.YtekkpfbjnjjcbaaGreatDoor
end
section
set_option linter.unusedVariables false
set_option linter.unusedSimpArgs false
set_option linter.unusedSectionVars false
namespace Go.Proofs.YtekkpfbjnjjcbaaGreatDoor
open Go.Ac Go.MapKept
attribute [local irreducible] awp awpL Ev Ev2 EvS thenQ blockQ retQ PCalls OCalls YieldOk IterC ICalls
set_option linter.unusedSimpArgs false
set_option linter.unusedVariables false
theorem New_spec {g : List (Nat × List AV)} (dev : Int) : PCalls Tryz.prog g 36 [vi dev] (mergeV (newR dev)) := by
  have hJ := JoinP_nn (g := g)
  refine pcalls' Tryz.func36 Tryz.ntmps36 rfl rfl rfl ?_
  by_cases h1 : dev < 1
  · have c1 : decide (dev < 1) = true := decide_eq_true h1
    rw [show newR dev = (zeroRep, 1) by unfold newR; rw [if_neg (by simp [within]; omega)]; rfl]
    repeat' (first
     | refine stn [2] ?_
     | ((with_reducible refine is_gd ?_); refine awpL_split rfl rfl (fun h => ?_) (fun h => ?_))
     | ((with_reducible refine is_awp ?_); refine awp_cond rfl (fun h => ?_) (fun h => ?_))
     | fail)
    exact retLe rfl (le_zeroM _)
  have c1 : decide (dev < 1) = false := decide_eq_false h1
  by_cases h2 : 15 < dev
  · have c2 : decide (15 < dev) = true := decide_eq_true h2
    rw [show newR dev = (zeroRep, 1) by unfold newR; rw [if_neg (by simp [within]; omega)]; rfl]
    repeat' (first
     | refine stn [2] ?_
     | ((with_reducible refine is_gd ?_); refine awpL_split rfl rfl (fun h => ?_) (fun h => ?_))
     | ((with_reducible refine is_awp ?_); refine awp_cond rfl (fun h => ?_) (fun h => ?_))
     | fail)
    exact retLe rfl (le_zeroM _)
  have c2 : decide (15 < dev) = false := decide_eq_false h2
  rw [show newR dev = (⟨dev, seenL [], []⟩, 0) by unfold newR; rw [if_pos (by simp [within]; omega)]; rfl]
  repeat' (first
   | refine stn [2] ?_
   | ((with_reducible refine is_gd ?_); refine awpL_split rfl rfl (fun h => ?_) (fun h => ?_))
   | ((with_reducible refine is_awp ?_); refine awp_cond rfl (fun h => ?_) (fun h => ?_))
   | fail)
  exact retLe rfl (Le.tup (.cons (Le.agg (.cons (Le.rfl' _) (.cons (Le.rfl' _) (.cons (Le.nil 15) .nil)))) (.cons (Le.rfl' _) .nil)))
end Go.Proofs.YtekkpfbjnjjcbaaGreatDoor
end
section
set_option linter.unusedVariables false
set_option linter.unusedSimpArgs false
set_option linter.unusedSectionVars false
namespace Go.Proofs.YtekkpfbjnjjcbaaGreatDoor
open Go.Ac Go.MapKept
attribute [local irreducible] awp awpL Ev Ev2 EvS thenQ blockQ retQ PCalls OCalls YieldOk IterC ICalls
set_option linter.unusedSimpArgs false
set_option linter.unusedVariables false
def Held (l : List Op) : Prop := ∀ o ∈ l, (o.text.size : Int) ≤ 281474976710656 ∧ (o.note.text.size : Int) ≤ 281474976710656 ∧ (o.over.length : Int) ≤ 281474976710656
theorem sizeF_le {n : Int} {o : Op} (h : (o.text.size : Int) ≤ 281474976710656 ∧ (o.note.text.size : Int) ≤ 281474976710656 ∧ (o.over.length : Int) ≤ 281474976710656) : n ≤ sizeF n o ∧ sizeF n o ≤ n + 900000000000000 := by
  unfold sizeF; omega
theorem sizeL_le {l : List Op} (h : Held l) : 0 ≤ sizeL l ∧ sizeL l ≤ (l.length : Int) * 900000000000000 := by
  have H : ∀ (k : List Op) (n : Int), (∀ o ∈ k, o ∈ l) → n ≤ k.foldl sizeF n ∧ k.foldl sizeF n ≤ n + (k.length : Int) * 900000000000000 := by
    intro k
    induction k with
    | nil => intro n _; simp
    | cons o r ih =>
      intro n hk
      obtain ⟨h1, h2⟩ := sizeF_le (n := n) (h o (hk o (List.mem_cons_self ..)))
      obtain ⟨h3, h4⟩ := ih (sizeF n o) (fun p hp => hk p (List.mem_cons_of_mem _ hp))
      simp only [List.foldl_cons, List.length_cons]
      omega
  have := H l 0 (fun o h => h)
  unfold sizeL
  omega
set_option maxRecDepth 4000 in
set_option maxHeartbeats 2000000 in
theorem size_spec {g : List (Nat × List AV)} (l : List Op) (hl : l.length ≤ 420) (hh : Held l) : PCalls Tryz.prog g 35 [encOps l] (vi (sizeL l)) := by
  refine pcalls' Tryz.func35 Tryz.ntmps35 rfl rfl rfl ?_
  repeat' (first
   | refine stn [] ?_
   | ((with_reducible refine is_gd ?_); refine awpL_split rfl rfl (fun h => ?_) (fun h => ?_))
   | ((with_reducible refine is_awp ?_); refine awp_cond rfl (fun h => ?_) (fun h => ?_))
   | fail)
  refine awp_for (α := Nat) 0 (fun k => [(0, encOps l), (3, vi (sizeL (l.take k))), (4, vi k)]) (fun _ => []) (fun k => k ≤ l.length) (fun k => l.length - k) 0
    ⟨(.cons rfl rfl (.cons rfl rfl (.cons rfl rfl .nil))), rfl, rfl, rfl⟩ (Nat.zero_le _) ?_
  rintro k hk
  cases ht : l[k]? with
  | none =>
    have hge : l.length ≤ k := by simpa using ht
    have c1 : decide ((k : Int) < l.length) = false := decide_eq_false (by omega)
    rw [List.take_of_length_le hge]
    repeat' (first
     | refine stn [] ?_
     | ((with_reducible refine is_gd ?_); refine awpL_split rfl rfl (fun h => ?_) (fun h => ?_))
     | ((with_reducible refine is_awp ?_); refine awp_cond rfl (fun h => ?_) (fun h => ?_))
     | fail)
    exact retP rfl rfl
  | some x =>
    have hlt : k < l.length := (List.getElem?_eq_some_iff.1 ht).1
    have c1 : decide ((k : Int) < l.length) = true := decide_eq_true (by omega)
    have h1 := op_get ht
    have hx := hh x (List.mem_of_getElem? ht)
    have hb := sizeL_le (l := l.take k) (fun o ho => hh o (List.mem_of_mem_take ho))
    have hbl : ((l.take k).length : Int) ≤ 420 := by rw [List.length_take]; omega
    have hS : sizeL (l.take (k + 1)) = sizeL (l.take k) + 20 + (x.text.size : Int) + (x.note.text.size : Int) + (x.over.length : Int) := by rw [List.take_add_one, ht, Option.toList_some, sizeL_snoc]; rfl
    generalize sizeL (l.take k) = n at hb hS ⊢
    have hn : 0 ≤ n ∧ n ≤ 400000000000000000 := by omega
    repeat' (first
     | ((with_reducible refine is_draw ?_); refine awp_drawT 24 (by simp only [List.take_succ_cons, List.take_zero, List.take_nil]; rfl) (by simp only [List.drop_succ_cons, List.drop_zero, List.drop_nil]; rfl) (by kernel_rfl) rfl rfl rfl rfl (by repeat' (first | exact Strip.nil | apply Strip.keep rfl | apply Strip.drop rfl)) ?_)
     | refine st [] ?_
     | ((with_reducible refine is_gd ?_); refine awpL_split rfl rfl (fun h => ?_) (fun h => ?_))
     | ((with_reducible refine isD_gd ?_); ((fail_if_success (refine isD_kn (c := true) rfl (by first | with_reducible rfl | with_reducible assumption) ?_)); (fail_if_success (refine isD_kn (c := false) rfl (by first | with_reducible rfl | with_reducible assumption) ?_)); refine awpD_split rfl (fun h => ?_) (fun h => ?_)))
     | ((with_reducible refine is_awp ?_); refine awp_cond rfl (fun h => ?_) (fun h => ?_))
     | fail)
    exact ⟨k + 1, by rw [hS]; exact ⟨(.cons rfl rfl (.cons rfl rfl (.cons rfl rfl .nil))), rfl, rfl, rfl⟩, by omega, by omega⟩
theorem few_spec {g : List (Nat × List AV)} (r : Replica) (hh : Held r.ops) : PCalls Tryz.prog g 11 [.agg (repC r)] (vb (fewR r)) := by
  refine pcalls' Tryz.func11 Tryz.ntmps11 rfl rfl rfl ?_
  by_cases h1 : r.seen.length ≤ 100
  · have c1 : decide ((r.seen.length : Int) ≤ 100) = true := decide_eq_true (by omega)
    by_cases h2 : r.ops.length ≤ 420
    · have c2 : decide ((r.ops.length : Int) ≤ 420) = true := decide_eq_true (by omega)
      have hS := size_spec (g := g) r.ops h2 hh
      repeat' (first
       | refine stn [] ?_
       | ((with_reducible refine is_gd ?_); refine awpL_split rfl rfl (fun h => ?_) (fun h => ?_))
       | ((with_reducible refine is_awp ?_); refine awp_cond rfl (fun h => ?_) (fun h => ?_))
       | fail)
      refine retP rfl ?_
      simp [ex, fewR, h1, h2]
    · have c2 : decide ((r.ops.length : Int) ≤ 420) = false := decide_eq_false (by omega)
      repeat' (first
       | refine stn [] ?_
       | ((with_reducible refine is_gd ?_); refine awpL_split rfl rfl (fun h => ?_) (fun h => ?_))
       | ((with_reducible refine is_awp ?_); refine awp_cond rfl (fun h => ?_) (fun h => ?_))
       | fail)
      refine retP rfl ?_
      simp [ex, fewR, h2]
  · have c1 : decide ((r.seen.length : Int) ≤ 100) = false := decide_eq_false (by omega)
    repeat' (first
     | refine stn [] ?_
     | ((with_reducible refine is_gd ?_); refine awpL_split rfl rfl (fun h => ?_) (fun h => ?_))
     | ((with_reducible refine is_awp ?_); refine awp_cond rfl (fun h => ?_) (fun h => ?_))
     | fail)
    refine retP rfl ?_
    simp [ex, fewR, h1]
end Go.Proofs.YtekkpfbjnjjcbaaGreatDoor
end
section
set_option linter.unusedVariables false
set_option linter.unusedSimpArgs false
set_option linter.unusedSectionVars false
namespace Go.Ac
section
variable {P : Program} {td : TDs} [T : TOK P td] {G : Glo} {N : Nat} {S : SL} {L : List LB} {ty : TypeId} {x : AV}
theorem LF_get {F : Nat → Prop} {w : World} : ∀ {cs : List AV} {ys : List Value} {j : Nat} {x : AV}, LF F w cs ys → cs[j]? = some x → ∃ y, ys[j]? = some y ∧ RF F w x y
  | [], _, j, x, _, h => by simp at h
  | c :: r, ys, j, x, h, hj => by
    simp only [LF] at h
    obtain ⟨y, s, rfl, hx, _, h⟩ := h
    cases j with
    | zero => simp at hj; subst hj; exact ⟨y, rfl, hx⟩
    | succ j => obtain ⟨y', q1, q2⟩ := LF_get (j := j) h (by simpa using hj); exact ⟨y', by simpa using q1, q2⟩
theorem struct_desc {t : Nat} {d : TD} {fs : List (TypeId × Nat)} (ht : lk td t = some d) (hs : d.k = .struct fs) : ∃ fields : Array Field, P.underlying t = some (.struct fields) ∧ fs = fields.toList.map fun f => (f.type, f.offset) := by
  obtain ⟨i, u, z, h1, h2, h3, h4, h5, h6, h7⟩ := tok_parts (P := P) ht
  rw [hs] at h4
  cases u <;> simp only [tk, reduceCtorEq, TK.struct.injEq] at h4
  rename_i fields
  exact ⟨fields, h2, h4.symm⟩
theorem ev_fld_one {t : Nat} {d fd : TD} {fs : List (TypeId × Nat)} {f ft off : Nat} {u : Operand} {cs : List AV} (h : val G S u = some (.agg cs)) (ht : lk td t = some d) (hs : d.k = .struct fs) (hf : fs[f]? = some (ft, off))
    (hft : lk td ft = some fd) (hr : fd.k.row = false) (hx : cs[off]? = some x) : Ev P G N (.field t u f) ty S L x := by
  intro o ho _ cx a hc
  have e1 := val_R hc h
  simp only [R, RF] at e1
  obtain ⟨xs, e1, hl⟩ := e1
  obtain ⟨y, hy, hR⟩ := LF_get hl hx
  simp only [Array.getElem?_toList] at hy
  obtain ⟨fields, h2, rfl⟩ := struct_desc (P := P) ht hs
  simp only [List.getElem?_map, Array.getElem?_toList] at hf
  cases hq : fields[f]? with
  | none => simp [hq] at hf
  | some fl =>
    simp only [hq, Option.map_some, Option.some.injEq, Prod.mk.injEq] at hf
    obtain ⟨rfl, rfl⟩ := hf
    have hag := run_isAgg (P := P) hft cx.w
    rw [hr] at hag
    refine ⟨y, ?_, R.of_RF _ _ _ hR⟩
    simp [execOp, ho, e1, Instr.field, asAgg, run_underlying h2, Result.andThen, hq, part, hag, hy]
end
end Go.Ac
end
