/- A logic of trees over the model's steps, and the contracts of the functions that the laws reach: part 14 of 19. -/
import Derived.Test.YtnacjdaoiepbhaaGreatDoorB13
set_option linter.unusedVariables false
set_option linter.unusedSimpArgs false
set_option linter.unusedSectionVars false
section
namespace Go.Proofs.YtnacjdaoiepbhaaGreatDoor
open Go.Ac Go.MapKept
attribute [local irreducible] awp awpL Ev Ev2 EvS thenQ blockQ retQ PCalls OCalls YieldOk IterC ICalls
variable {g : List (Nat × List AV)}
def makeR (l : List Op) (note : Int) : Option Cite × Int := match addedO l note with
  | none => (none, 9)
  | some o => match cell l note with
    | none => (none, 26)
    | some c => (some ⟨o.rec_, note, (c.text.getLast?.getD zeroVal).at_⟩, 0)
def histL (l : List Op) (note : Int) : List Cite := (l.filter fun o => writes o note 0).map fun o => ⟨o.rec_, note, o.at_⟩
def namedBy (c : Cite) (o : Op) : Bool := writes o c.note 0 && decide ((⟨o.rec_, c.note, o.at_⟩ : Cite) = c)
def resR (l : List Op) (c : Cite) : ByteArray × Int := match l.find? (namedBy c) with
  | none => (.empty, 9)
  | some o => if (cell l c.note).isSome then ((valueOf o 0).text, 0) else (.empty, 26)
def citeEq : List Value → List Value → Option Bool
  | [.int .i64 a, .int .i64 b, .int .i64 c, .int .i64 d], [.int .i64 a', .int .i64 b', .int .i64 c', .int .i64 d'] => some (a == a' && (b == b' && (c == c' && d == d')))
  | _, _ => none
theorem citeEq_T : EqT Tryz.prog 25 citeEq := by
  intro xs ys b w h
  unfold citeEq at h
  split at h
  · rename_i a b c d a' b' c' d'
    have h := Option.some.inj h
    subst h
    have u3 := Tryz.underlying3
    have a3 := Tryz.isAgg3
    have z3 := Tryz.sizeOf3
    have a7 := Tryz.isAgg23
    have z7 := Tryz.sizeOf23
    have hS : Tryz.prog.underlying 25 = some (.struct (Tryz.prog.fieldsOf 25)) := by kernel_rfl
    have hsp : ∀ w, (Op.equalIn 9999 23 (.agg #[.int .i64 c, .int .i64 d]) (.agg #[.int .i64 c', .int .i64 d'])).run Tryz.prog w = .ok (c == c' && d == d') w := by
      intro w
      rw [show (9999 : Nat) = 9998 + 1 from rfl, run_equalIn_agg w 9998 _ _ _ (show Tryz.prog.underlying 23 = some (.struct (Tryz.prog.fieldsOf 23)) by kernel_rfl) (by kernel_rfl)]
      simp only [Program.fieldsOf, Tryz.underlying23]
      go_simp
      by_cases h1 : c = c' <;> by_cases h2 : d = d' <;> simp [h1, h2]
    rw [show (10000 : Nat) = 9999 + 1 from rfl, run_equalIn_agg w 9999 _ _ _ hS (by kernel_rfl)]
    simp only [Program.fieldsOf, Tryz.underlying25]
    go_simp
    by_cases h1 : a = a' <;> by_cases h2 : b = b' <;> by_cases h3 : c = c' <;> by_cases h4 : d = d' <;> simp [h1, h2, h3, h4]
  · cases h
theorem cite_eqb (a b : Cite) : (a.rec_ == b.rec_ && (a.note == b.note && (a.at_.count == b.at_.count && a.at_.dev == b.at_.dev))) = decide (a = b) := by
  obtain ⟨r, n, ⟨c, d⟩⟩ := a
  obtain ⟨r', n', ⟨c', d'⟩⟩ := b
  simp only [Cite.mk.injEq, Stamp.mk.injEq]
  by_cases h1 : r = r' <;> by_cases h2 : n = n' <;> by_cases h3 : c = c' <;> by_cases h4 : d = d' <;> simp [h1, h2, h3, h4]
theorem stamp_eqb (a b : Stamp) : (a.count == b.count && a.dev == b.dev) = decide (a = b) := by
  obtain ⟨c, d⟩ := a
  obtain ⟨c', d'⟩ := b
  simp only [Stamp.mk.injEq]
  by_cases h1 : c = c' <;> by_cases h2 : d = d' <;> simp [h1, h2]
set_option maxHeartbeats 1000000 in
theorem CAdded_spec (r : Replica) (n : Int) (hl : r.ops.length ≤ 1000000) : PCalls Tryz.prog g 45 [.agg (repC r), vi n] (addedV (addedO r.ops n)) := by
  refine pcalls' Tryz.func45 Tryz.ntmps45 rfl rfl rfl ?_
  repeat' (first
   | refine stn [4] ?_
   | ((with_reducible refine is_gd ?_); refine awpL_split rfl rfl (fun h => ?_) (fun h => ?_))
   | ((with_reducible refine is_awp ?_); refine awp_cond rfl (fun h => ?_) (fun h => ?_))
   | fail)
  refine awp_for (α := Nat) 1 (fun k => [(1, vi n), (4, .lp 0 0), (9, encOps r.ops), (10, vi r.ops.length), (11, vi k)]) (fun k => [.box zeroOpC]) (fun k => k ≤ r.ops.length ∧ addedO r.ops n = (r.ops.drop k).find? fun o => decide (o.kind = 0) && decide (o.note.id = n)) (fun k => r.ops.length - k) 0
    ⟨(.cons rfl rfl (.cons rfl rfl (.cons rfl rfl (.cons rfl rfl (.cons rfl rfl .nil))))), rfl, rfl, rfl⟩ ⟨Nat.zero_le _, rfl⟩ ?_
  rintro k ⟨hk, hf⟩
  cases ht : r.ops[k]? with
  | none =>
    have hge : r.ops.length ≤ k := by simpa using ht
    have c1 : decide ((k : Int) < r.ops.length) = false := decide_eq_false (by omega)
    rw [List.drop_of_length_le hge] at hf
    repeat' (first
     | refine stn [4] ?_
     | ((with_reducible refine is_gd ?_); refine awpL_split rfl rfl (fun h => ?_) (fun h => ?_))
     | ((with_reducible refine is_awp ?_); refine awp_cond rfl (fun h => ?_) (fun h => ?_))
     | fail)
    refine retLe rfl ?_
    rw [hf]
    exact Le.tup (.cons (Le.agg le_zeroOp) (.cons (Le.rfl' _) .nil))
  | some x =>
    have hlt : k < r.ops.length := (List.getElem?_eq_some_iff.1 ht).1
    have c1 : decide ((k : Int) < r.ops.length) = true := decide_eq_true (by omega)
    have h1 := op_get ht
    rw [find_drop _ r.ops k x ht] at hf
    by_cases hk0 : x.kind = 0
    · have d1 : decide (x.kind = 0) = true := decide_eq_true hk0
      by_cases hid : x.note.id = n
      · have d2 : decide (x.note.id = n) = true := decide_eq_true hid
        rw [d1, d2] at hf
        repeat' (first
         | refine stn [4] ?_
         | ((with_reducible refine is_gd ?_); refine awpL_split rfl rfl (fun h => ?_) (fun h => ?_))
         | ((with_reducible refine is_awp ?_); refine awp_cond rfl (fun h => ?_) (fun h => ?_))
         | fail)
        refine retP rfl ?_
        rw [hf]; rfl
      · have d2 : decide (x.note.id = n) = false := decide_eq_false hid
        rw [d1, d2] at hf
        repeat' (first
         | refine stn [4] ?_
         | ((with_reducible refine is_gd ?_); refine awpL_split rfl rfl (fun h => ?_) (fun h => ?_))
         | ((with_reducible refine is_awp ?_); refine awp_cond rfl (fun h => ?_) (fun h => ?_))
         | fail)
        exact ⟨k + 1, ⟨(.cons rfl rfl (.cons rfl rfl (.cons rfl rfl (.cons rfl rfl (.cons rfl rfl .nil))))), rfl, rfl, rfl⟩, ⟨by omega, hf⟩, by omega⟩
    · have d1 : decide (x.kind = 0) = false := decide_eq_false hk0
      rw [d1] at hf
      repeat' (first
       | refine stn [4] ?_
       | ((with_reducible refine is_gd ?_); refine awpL_split rfl rfl (fun h => ?_) (fun h => ?_))
       | ((with_reducible refine is_awp ?_); refine awp_cond rfl (fun h => ?_) (fun h => ?_))
       | fail)
      exact ⟨k + 1, ⟨(.cons rfl rfl (.cons rfl rfl (.cons rfl rfl (.cons rfl rfl (.cons rfl rfl .nil))))), rfl, rfl, rfl⟩, ⟨by omega, hf⟩, by omega⟩
set_option maxHeartbeats 1000000 in
theorem rCAdded_spec (r : Replica) (n : Int) (hl : r.ops.length ≤ 1000000) : PCalls Tryz.prog g 46 [.agg (repC r), vi n] (vb (addedO r.ops n).isSome) := by
  refine pcalls' Tryz.func46 Tryz.ntmps46 rfl rfl rfl ?_
  repeat' (first
   | refine stn [] ?_
   | ((with_reducible refine is_gd ?_); refine awpL_split rfl rfl (fun h => ?_) (fun h => ?_))
   | ((with_reducible refine is_awp ?_); refine awp_cond rfl (fun h => ?_) (fun h => ?_))
   | fail)
  refine awp_for (α := Nat) 0 (fun k => [(1, vi n), (2, .fp (repC r)), (5, vi k)]) (fun k => []) (fun k => k ≤ r.ops.length ∧ addedO r.ops n = (r.ops.drop k).find? fun o => decide (o.kind = 0) && decide (o.note.id = n)) (fun k => r.ops.length - k) 0
    ⟨(.cons rfl rfl (.cons rfl rfl (.cons rfl rfl .nil))), rfl, rfl, rfl⟩ ⟨Nat.zero_le _, rfl⟩ ?_
  rintro k ⟨hk, hf⟩
  cases ht : r.ops[k]? with
  | none =>
    have hge : r.ops.length ≤ k := by simpa using ht
    have c1 : decide ((k : Int) < r.ops.length) = false := decide_eq_false (by omega)
    rw [List.drop_of_length_le hge] at hf
    rw [hf]
    repeat' (first
     | refine stn [] ?_
     | ((with_reducible refine is_gd ?_); refine awpL_split rfl rfl (fun h => ?_) (fun h => ?_))
     | ((with_reducible refine is_awp ?_); refine awp_cond rfl (fun h => ?_) (fun h => ?_))
     | fail)
    exact retP rfl rfl
  | some x =>
    have hlt : k < r.ops.length := (List.getElem?_eq_some_iff.1 ht).1
    have c1 : decide ((k : Int) < r.ops.length) = true := decide_eq_true (by omega)
    have h1 := op_get ht
    rw [find_drop _ r.ops k x ht] at hf
    by_cases hk0 : x.kind = 0
    · have d1 : decide (x.kind = 0) = true := decide_eq_true hk0
      by_cases hid : x.note.id = n
      · have d2 : decide (x.note.id = n) = true := decide_eq_true hid
        rw [d1, d2] at hf
        rw [hf]
        repeat' (first
         | refine stn [] ?_
         | ((with_reducible refine is_gd ?_); refine awpL_split rfl rfl (fun h => ?_) (fun h => ?_))
         | ((with_reducible refine is_awp ?_); refine awp_cond rfl (fun h => ?_) (fun h => ?_))
         | fail)
        exact retP rfl rfl
      · have d2 : decide (x.note.id = n) = false := decide_eq_false hid
        rw [d1, d2] at hf
        repeat' (first
         | refine stn [] ?_
         | ((with_reducible refine is_gd ?_); refine awpL_split rfl rfl (fun h => ?_) (fun h => ?_))
         | ((with_reducible refine is_awp ?_); refine awp_cond rfl (fun h => ?_) (fun h => ?_))
         | fail)
        exact ⟨k + 1, ⟨(.cons rfl rfl (.cons rfl rfl (.cons rfl rfl .nil))), rfl, rfl, rfl⟩, ⟨by omega, hf⟩, by omega⟩
    · have d1 : decide (x.kind = 0) = false := decide_eq_false hk0
      rw [d1] at hf
      repeat' (first
       | refine stn [] ?_
       | ((with_reducible refine is_gd ?_); refine awpL_split rfl rfl (fun h => ?_) (fun h => ?_))
       | ((with_reducible refine is_awp ?_); refine awp_cond rfl (fun h => ?_) (fun h => ?_))
       | fail)
      exact ⟨k + 1, ⟨(.cons rfl rfl (.cons rfl rfl (.cons rfl rfl .nil))), rfl, rfl, rfl⟩, ⟨by omega, hf⟩, by omega⟩
abbrev makeV (p : Option Cite × Int) : AV := .tup [.agg (citeC (p.1.getD zeroCite)), vi p.2]
theorem last_some {l : List Val} (h : l.length ≠ 0) : ∃ v, l.getLast? = some v := by
  cases hl : l.getLast? with
  | some v => exact ⟨v, rfl⟩
  | none => exact absurd (last_nil hl) h
set_option maxHeartbeats 2000000 in
theorem Make_spec (r : Replica) (n : Int) (h : FitG r) : PCalls Tryz.prog g 19 [.agg (repC r), vi n] (makeV (makeR r.ops n)) := by
  have hl := h.l
  have hA := CAdded_spec (g := g) r n (by omega)
  have hC := Cell_spec (g := g) r n hl h.o.2 h.g
  have n1 : (!true) = false := rfl
  have n2 : (!false) = true := rfl
  refine pcalls' Tryz.func19 Tryz.ntmps19 rfl rfl rfl ?_
  unfold makeR
  cases ha : addedO r.ops n with
  | none =>
    rw [ha] at hA
    rw [addedV] at hA
    simp only [Option.getD_none, Option.isSome_none, Option.getD_some, Option.isSome_some] at hA
    repeat' (first
     | refine stn [4] ?_
     | ((with_reducible refine is_gd ?_); refine awpL_split rfl rfl (fun h => ?_) (fun h => ?_))
     | ((with_reducible refine is_awp ?_); refine awp_cond rfl (fun h => ?_) (fun h => ?_))
     | fail)
    exact retP rfl rfl
  | some o =>
    rw [ha] at hA
    rw [addedV] at hA
    simp only [Option.getD_none, Option.isSome_none, Option.getD_some, Option.isSome_some] at hA
    simp only
    cases hc : cell r.ops n with
    | none =>
      rw [cellV, hc] at hC
      simp only [Option.getD_none, Option.isSome_none] at hC
      repeat' (first
       | refine st [4] ?_
       | ((with_reducible refine is_gd ?_); refine awpL_split rfl rfl (fun h => ?_) (fun h => ?_))
       | ((with_reducible refine isD_gd ?_); ((fail_if_success (refine isD_kn (c := true) rfl (by first | with_reducible rfl | with_reducible assumption) ?_)); (fail_if_success (refine isD_kn (c := false) rfl (by first | with_reducible rfl | with_reducible assumption) ?_)); refine awpD_split rfl (fun h => ?_) (fun h => ?_)))
       | ((with_reducible refine is_awp ?_); refine awp_cond rfl (fun h => ?_) (fun h => ?_))
       | fail)
      exact retP rfl rfl
    | some c =>
      rw [cellV, hc] at hC
      simp only [Option.getD_some, Option.isSome_some] at hC
      obtain ⟨m1, _, _⟩ := cell_ne h.g hc
      obtain ⟨v, hv⟩ := last_some m1
      obtain ⟨v1, v2, v3⟩ := last_val hv
      have hcl := (cell_fit hl hc).1
      have d1 : decide ((c.text.length : Int) = 0) = false := decide_eq_false (by omega)
      have i1 : 0 ≤ (c.text.length : Int) - 1 ∧ (c.text.map valC)[((c.text.length : Int) - 1).toNat]? = some (valC v) := ⟨v2, v3⟩
      obtain ⟨a, ha', _, _, hr⟩ := cell_inv hc
      rw [ha] at ha'
      cases ha'
      simp only
      rw [hv]
      skip
      repeat' (first
       | refine st [4] ?_
       | ((with_reducible refine is_gd ?_); refine awpL_split rfl rfl (fun h => ?_) (fun h => ?_))
       | ((with_reducible refine isD_gd ?_); ((fail_if_success (refine isD_kn (c := true) rfl (by first | with_reducible rfl | with_reducible assumption) ?_)); (fail_if_success (refine isD_kn (c := false) rfl (by first | with_reducible rfl | with_reducible assumption) ?_)); refine awpD_split rfl (fun h => ?_) (fun h => ?_)))
       | ((with_reducible refine is_awp ?_); refine awp_cond rfl (fun h => ?_) (fun h => ?_))
       | fail)
      refine retP rfl ?_
      rfl
set_option maxHeartbeats 2000000 in
theorem rMake_spec (r : Replica) (n : Int) (h : FitG r) : PCalls Tryz.prog g 21 [.agg (repC r), vi n] (makeV (makeR r.ops n)) := by
  have hl := h.l
  have hA := rCAdded_spec (g := g) r n (by omega)
  have hC := rCell_spec (g := g) r n h.o
  have n1 : (!true) = false := rfl
  have n2 : (!false) = true := rfl
  refine pcalls' Tryz.func21 Tryz.ntmps21 rfl rfl rfl ?_
  unfold makeR
  cases ha : addedO r.ops n with
  | none =>
    rw [ha] at hA
    simp only [Option.isSome_none, Option.isSome_some] at hA
    repeat' (first
     | refine stn [4] ?_
     | ((with_reducible refine is_gd ?_); refine awpL_split rfl rfl (fun h => ?_) (fun h => ?_))
     | ((with_reducible refine is_awp ?_); refine awp_cond rfl (fun h => ?_) (fun h => ?_))
     | fail)
    exact retP rfl rfl
  | some o =>
    rw [ha] at hA
    simp only [Option.isSome_none, Option.isSome_some] at hA
    simp only
    cases hc : cell r.ops n with
    | none =>
      rw [cellV, hc] at hC
      simp only [Option.getD_none, Option.isSome_none] at hC
      repeat' (first
       | refine st [4] ?_
       | ((with_reducible refine is_gd ?_); refine awpL_split rfl rfl (fun h => ?_) (fun h => ?_))
       | ((with_reducible refine isD_gd ?_); ((fail_if_success (refine isD_kn (c := true) rfl (by first | with_reducible rfl | with_reducible assumption) ?_)); (fail_if_success (refine isD_kn (c := false) rfl (by first | with_reducible rfl | with_reducible assumption) ?_)); refine awpD_split rfl (fun h => ?_) (fun h => ?_)))
       | ((with_reducible refine is_awp ?_); refine awp_cond rfl (fun h => ?_) (fun h => ?_))
       | fail)
      exact retP rfl rfl
    | some c =>
      rw [cellV, hc] at hC
      simp only [Option.getD_some, Option.isSome_some] at hC
      obtain ⟨m1, _, _⟩ := cell_ne h.g hc
      obtain ⟨v, hv⟩ := last_some m1
      obtain ⟨v1, v2, v3⟩ := last_val hv
      have hcl := (cell_fit hl hc).1
      have d1 : decide ((c.text.length : Int) = 0) = false := decide_eq_false (by omega)
      have i1 : 0 ≤ (c.text.length : Int) - 1 ∧ (c.text.map valC)[((c.text.length : Int) - 1).toNat]? = some (valC v) := ⟨v2, v3⟩
      obtain ⟨a, ha', _, _, hr⟩ := cell_inv hc
      rw [ha] at ha'
      cases ha'
      simp only
      rw [hv]
      rw [← hr]
      repeat' (first
       | refine st [4] ?_
       | ((with_reducible refine is_gd ?_); refine awpL_split rfl rfl (fun h => ?_) (fun h => ?_))
       | ((with_reducible refine isD_gd ?_); ((fail_if_success (refine isD_kn (c := true) rfl (by first | with_reducible rfl | with_reducible assumption) ?_)); (fail_if_success (refine isD_kn (c := false) rfl (by first | with_reducible rfl | with_reducible assumption) ?_)); refine awpD_split rfl (fun h => ?_) (fun h => ?_)))
       | ((with_reducible refine is_awp ?_); refine awp_cond rfl (fun h => ?_) (fun h => ?_))
       | fail)
      refine retP rfl ?_
      rfl
abbrev encCites (l : List Cite) : AV := .fs 4 l.length (l.map citeC)
theorem cite_get {l : List Cite} {k : Nat} {x : Cite} (h : l[k]? = some x) : 0 ≤ (k : Int) ∧ (l.map citeC)[(k : Int).toNat]? = some (citeC x) := ⟨by omega, by simp [h]⟩
def histK (l : List Op) (note : Int) (k : Nat) : List Cite := histL (l.take k) note
theorem histK_succ {l : List Op} {note : Int} {k : Nat} {o : Op} (h : l[k]? = some o) : histK l note (k + 1) = histK l note k ++ (if writes o note 0 then [⟨o.rec_, note, o.at_⟩] else []) := by
  unfold histK histL
  rw [List.take_add_one, h, List.filter_append, List.map_append]
  congr 1
  by_cases hw : writes o note 0 = true
  · simp [hw]
  · simp [hw]
theorem histK_len (l : List Op) (note : Int) (k : Nat) : (histK l note k).length ≤ l.length := by
  unfold histK histL
  rw [List.length_map]
  exact Nat.le_trans (List.length_filter_le ..) (by rw [List.length_take]; omega)
set_option maxHeartbeats 2000000 in
theorem History_spec (r : Replica) (n : Int) (hl : r.ops.length ≤ 100000) : PCalls Tryz.prog g 23 [.agg (repC r), vi n] (encCites (histL r.ops n)) := by
  refine pcalls' Tryz.func23 Tryz.ntmps23 rfl rfl rfl ?_
  repeat' (first
   | refine stn [] ?_
   | ((with_reducible refine is_gd ?_); refine awpL_split rfl rfl (fun h => ?_) (fun h => ?_))
   | ((with_reducible refine is_awp ?_); refine awp_cond rfl (fun h => ?_) (fun h => ?_))
   | fail)
  refine awp_adopt (t := 5) (E := 25) (sz := 4) rfl rfl rfl ?_
  refine awp_for (α := Nat) 1 (fun k => [(1, vi n), (2, .fp (repC r)), (5, .os 0 0), (9, encOps r.ops), (10, vi r.ops.length), (11, vi k)]) (fun k => [.own 0 25 4 ((histK r.ops n k).map citeC)]) (fun k => k ≤ r.ops.length) (fun k => r.ops.length - k) 0
    ⟨(.cons rfl rfl (.cons rfl rfl (.cons rfl rfl (.cons rfl rfl (.cons rfl rfl (.cons rfl rfl .nil)))))), rfl, rfl, rfl⟩ (Nat.zero_le _) ?_
  rintro k hk
  have hcl := histK_len r.ops n k
  cases ht : r.ops[k]? with
  | none =>
    have hge : r.ops.length ≤ k := by simpa using ht
    have c1 : decide ((k : Int) < r.ops.length) = false := decide_eq_false (by omega)
    have hD : histK r.ops n k = histL r.ops n := by unfold histK; rw [List.take_of_length_le hge]
    rw [hD]
    repeat' (first
     | refine stn [] ?_
     | ((with_reducible refine is_gd ?_); refine awpL_split rfl rfl (fun h => ?_) (fun h => ?_))
     | ((with_reducible refine is_awp ?_); refine awp_cond rfl (fun h => ?_) (fun h => ?_))
     | fail)
    refine retP rfl ?_
    simp [ex]
  | some x =>
    have hlt : k < r.ops.length := (List.getElem?_eq_some_iff.1 ht).1
    have c1 : decide ((k : Int) < r.ops.length) = true := decide_eq_true (by omega)
    have h1 := op_get ht
    have hW := Writes_spec (g := g) x n 0
    have hS := histK_succ (note := n) ht
    generalize hM : histK r.ops n k = M at hS hcl ⊢
    generalize hM' : histK r.ops n (k + 1) = M' at hS
    have hmb : (M.map citeC).length ≤ 100000 := by rw [List.length_map]; omega
    cases hw : writes x n 0 with
    | true =>
      rw [hw] at hW hS
      have hj : M.map citeC ++ [citeC ⟨x.rec_, n, x.at_⟩] = M'.map citeC := by rw [hS]; simp
      repeat' (first
       | ((with_reducible refine is_un ?_); refine awpL_ev2 (ev_app (es' := M'.map citeC) rfl rfl rfl rfl rfl rfl rfl rfl rfl rfl rfl rfl rfl (by simp only [List.length_map, List.length_cons, List.length_nil, List.length_append, List.length_take]; omega) hj rfl) rfl ?_)
       | refine stn [] ?_
       | ((with_reducible refine is_gd ?_); refine awpL_split rfl rfl (fun h => ?_) (fun h => ?_))
       | ((with_reducible refine is_awp ?_); refine awp_cond rfl (fun h => ?_) (fun h => ?_))
       | fail)
      exact ⟨k + 1, by rw [hM']; exact ⟨(.cons rfl rfl (.cons rfl rfl (.cons rfl rfl (.cons rfl rfl (.cons rfl rfl (.cons rfl rfl .nil)))))), rfl, rfl, rfl⟩, by omega, by omega⟩
    | false =>
      rw [hw] at hW hS
      have hS : M' = M := by rw [hS]; simp
      subst hS
      repeat' (first
       | refine stn [] ?_
       | ((with_reducible refine is_gd ?_); refine awpL_split rfl rfl (fun h => ?_) (fun h => ?_))
       | ((with_reducible refine is_awp ?_); refine awp_cond rfl (fun h => ?_) (fun h => ?_))
       | fail)
      exact ⟨k + 1, by rw [hM']; exact ⟨(.cons rfl rfl (.cons rfl rfl (.cons rfl rfl (.cons rfl rfl (.cons rfl rfl (.cons rfl rfl .nil)))))), rfl, rfl, rfl⟩, by omega, by omega⟩
set_option maxHeartbeats 2000000 in
theorem rHistory_spec (r : Replica) (n : Int) (hl : r.ops.length ≤ 100000) : PCalls Tryz.prog g 24 [.agg (repC r), vi n] (encCites (histL r.ops n)) := by
  refine pcalls' Tryz.func24 Tryz.ntmps24 rfl rfl rfl ?_
  repeat' (first
   | ((with_reducible refine is_un ?_); refine awpL_ev2 (ev_bslice_o (t := 42) (n := 0) (es := []) rfl rfl rfl rfl rfl rfl rfl rfl rfl rfl rfl (by (try simp only [List.length_nil, List.length_cons, Nat.reduceAdd]); (try rfl)) (by (try simp only [List.set_cons_zero, List.set_cons_succ, List.nil_append, List.cons_append, List.append_nil, cellsOf, List.take_zero, List.drop_zero, List.take_succ_cons, List.drop_succ_cons, Nat.zero_add, Nat.reduceAdd, List.drop_nil, List.map_cons, List.map_nil]); (try rfl))) rfl ?_)
   | refine stn [] ?_
   | ((with_reducible refine is_gd ?_); refine awpL_split rfl rfl (fun h => ?_) (fun h => ?_))
   | ((with_reducible refine is_awp ?_); refine awp_cond rfl (fun h => ?_) (fun h => ?_))
   | fail)
  refine awp_for (α := Nat) 1 (fun k => [(1, vi n), (2, .fp (repC r)), (5, .os 0 0), (6, vi k)]) (fun k => [.own 0 25 4 ((histK r.ops n k).map citeC)]) (fun k => k ≤ r.ops.length) (fun k => r.ops.length - k) 0
    ⟨(.cons rfl rfl (.cons rfl rfl (.cons rfl rfl (.cons rfl rfl .nil)))), rfl, rfl, rfl⟩ (Nat.zero_le _) ?_
  rintro k hk
  have hcl := histK_len r.ops n k
  cases ht : r.ops[k]? with
  | none =>
    have hge : r.ops.length ≤ k := by simpa using ht
    have c1 : decide ((k : Int) < r.ops.length) = false := decide_eq_false (by omega)
    have hD : histK r.ops n k = histL r.ops n := by unfold histK; rw [List.take_of_length_le hge]
    rw [hD]
    repeat' (first
     | refine stn [] ?_
     | ((with_reducible refine is_gd ?_); refine awpL_split rfl rfl (fun h => ?_) (fun h => ?_))
     | ((with_reducible refine is_awp ?_); refine awp_cond rfl (fun h => ?_) (fun h => ?_))
     | fail)
    refine retP rfl ?_
    simp [ex]
  | some x =>
    have hlt : k < r.ops.length := (List.getElem?_eq_some_iff.1 ht).1
    have c1 : decide ((k : Int) < r.ops.length) = true := decide_eq_true (by omega)
    have h1 := op_get ht
    have hW := rWrites_spec (g := g) x n 0
    have hS := histK_succ (note := n) ht
    generalize hM : histK r.ops n k = M at hS hcl ⊢
    generalize hM' : histK r.ops n (k + 1) = M' at hS
    have hmb : (M.map citeC).length ≤ 100000 := by rw [List.length_map]; omega
    cases hw : writes x n 0 with
    | true =>
      rw [hw] at hW hS
      have hj : M.map citeC ++ [citeC ⟨x.rec_, n, x.at_⟩] = M'.map citeC := by rw [hS]; simp
      repeat' (first
       | ((with_reducible refine is_un ?_); refine awpL_ev2 (ev_app (es' := M'.map citeC) rfl rfl rfl rfl rfl rfl rfl rfl rfl rfl rfl rfl rfl (by simp only [List.length_map, List.length_cons, List.length_nil, List.length_append, List.length_take]; omega) hj rfl) rfl ?_)
       | refine stn [] ?_
       | ((with_reducible refine is_gd ?_); refine awpL_split rfl rfl (fun h => ?_) (fun h => ?_))
       | ((with_reducible refine is_awp ?_); refine awp_cond rfl (fun h => ?_) (fun h => ?_))
       | fail)
      exact ⟨k + 1, by rw [hM']; exact ⟨(.cons rfl rfl (.cons rfl rfl (.cons rfl rfl (.cons rfl rfl .nil)))), rfl, rfl, rfl⟩, by omega, by omega⟩
    | false =>
      rw [hw] at hW hS
      have hS : M' = M := by rw [hS]; simp
      subst hS
      repeat' (first
       | refine stn [] ?_
       | ((with_reducible refine is_gd ?_); refine awpL_split rfl rfl (fun h => ?_) (fun h => ?_))
       | ((with_reducible refine is_awp ?_); refine awp_cond rfl (fun h => ?_) (fun h => ?_))
       | fail)
      exact ⟨k + 1, by rw [hM']; exact ⟨(.cons rfl rfl (.cons rfl rfl (.cons rfl rfl (.cons rfl rfl .nil)))), rfl, rfl, rfl⟩, by omega, by omega⟩
theorem find_drop2 {l : List Op} {f : Op → Bool} {k : Nat} {x : Op} (h : l[k]? = some x) : (l.drop k).find? f = if f x then some x else (l.drop (k + 1)).find? f := by
  have := find_drop f l k x h
  rw [this]
abbrev resV (p : ByteArray × Int) : AV := .tup [.v (.string p.1), vi p.2]
set_option maxHeartbeats 2000000 in
theorem Resolve_spec (r : Replica) (c : Cite) (h : FitG r) : PCalls Tryz.prog g 25 [.agg (repC r), .agg (citeC c)] (resV (resR r.ops c)) := by
  have hl := h.l
  have hC := Cell_spec (g := g) r c.note hl h.o.2 h.g
  have n1 : (!true) = false := rfl
  have n2 : (!false) = true := rfl
  refine pcalls' Tryz.func25 Tryz.ntmps25 rfl rfl rfl ?_
  repeat' (first
   | refine stn [] ?_
   | ((with_reducible refine is_gd ?_); refine awpL_split rfl rfl (fun h => ?_) (fun h => ?_))
   | ((with_reducible refine is_awp ?_); refine awp_cond rfl (fun h => ?_) (fun h => ?_))
   | fail)
  refine awp_for (α := Nat) 0 (fun k => [(2, .fp (repC r)), (3, .fp (citeC c)), (11, encOps r.ops), (12, vi r.ops.length), (13, vi k)]) (fun k => []) (fun k => k ≤ r.ops.length ∧ r.ops.find? (namedBy c) = (r.ops.drop k).find? (namedBy c)) (fun k => r.ops.length - k) 0
    ⟨(.cons rfl rfl (.cons rfl rfl (.cons rfl rfl (.cons rfl rfl (.cons rfl rfl .nil))))), rfl, rfl, rfl⟩ ⟨Nat.zero_le _, rfl⟩ ?_
  rintro k ⟨hk, hf⟩
  cases ht : r.ops[k]? with
  | none =>
    have hge : r.ops.length ≤ k := by simpa using ht
    have c1 : decide ((k : Int) < r.ops.length) = false := decide_eq_false (by omega)
    rw [List.drop_of_length_le hge] at hf
    have hR : resR r.ops c = (.empty, 9) := by unfold resR; rw [hf]; rfl
    rw [hR]
    repeat' (first
     | refine stn [] ?_
     | ((with_reducible refine is_gd ?_); refine awpL_split rfl rfl (fun h => ?_) (fun h => ?_))
     | ((with_reducible refine is_awp ?_); refine awp_cond rfl (fun h => ?_) (fun h => ?_))
     | fail)
    exact retP rfl rfl
  | some x =>
    have hlt : k < r.ops.length := (List.getElem?_eq_some_iff.1 ht).1
    have c1 : decide ((k : Int) < r.ops.length) = true := decide_eq_true (by omega)
    have h1 := op_get ht
    have hW := Writes_spec (g := g) x c.note 0
    rw [find_drop2 ht] at hf
    have q := cite_eqb ⟨x.rec_, c.note, x.at_⟩ c
    cases hw : writes x c.note 0 with
    | false =>
      rw [hw] at hW
      have hn : namedBy c x = false := by simp [namedBy, hw]
      rw [hn] at hf
      repeat' (first
       | refine stn [] ?_
       | ((with_reducible refine is_gd ?_); refine awpL_split rfl rfl (fun h => ?_) (fun h => ?_))
       | ((with_reducible refine is_awp ?_); refine awp_cond rfl (fun h => ?_) (fun h => ?_))
       | fail)
      exact ⟨k + 1, ⟨(.cons rfl rfl (.cons rfl rfl (.cons rfl rfl (.cons rfl rfl (.cons rfl rfl .nil))))), rfl, rfl, rfl⟩, ⟨by omega, hf⟩, by omega⟩
    | true =>
      rw [hw] at hW
      by_cases he : (⟨x.rec_, c.note, x.at_⟩ : Cite) = c
      · have hn : namedBy c x = true := by simp [namedBy, hw, he]
        rw [hn] at hf
        rw [decide_eq_true he] at q
        have hR : resR r.ops c = if (cell r.ops c.note).isSome then ((valueOf x 0).text, 0) else (.empty, 26) := by unfold resR; rw [hf]; rfl
        have hV := Value_spec (g := g) x 0
        cases hc : cell r.ops c.note with
        | none =>
          rw [cellV, hc] at hC
          simp only [Option.getD_none, Option.isSome_none] at hC
          rw [hR, hc]
          repeat' (first
           | ((with_reducible refine is_un ?_); (first | refine awpL_ev (ev_fld_one rfl rfl rfl rfl rfl rfl rfl) rfl ?_ | refine awpL_ev (ev_neA (b := true) citeEq_T (by kernel_rfl) rfl rfl rfl rfl (by rw [← q]; rfl)) rfl ?_))
           | refine stn [] ?_
           | ((with_reducible refine is_gd ?_); refine awpL_split rfl rfl (fun h => ?_) (fun h => ?_))
           | ((with_reducible refine is_awp ?_); refine awp_cond rfl (fun h => ?_) (fun h => ?_))
           | fail)
          exact retP rfl rfl
        | some d =>
          rw [cellV, hc] at hC
          simp only [Option.getD_some, Option.isSome_some] at hC
          rw [hR, hc]
          generalize valueOf x 0 = v at *
          repeat' (first
           | ((with_reducible refine is_un ?_); (first | refine awpL_ev (ev_fld_one rfl rfl rfl rfl rfl rfl rfl) rfl ?_ | refine awpL_ev (ev_neA (b := true) citeEq_T (by kernel_rfl) rfl rfl rfl rfl (by rw [← q]; rfl)) rfl ?_))
           | refine stn [] ?_
           | ((with_reducible refine is_gd ?_); refine awpL_split rfl rfl (fun h => ?_) (fun h => ?_))
           | ((with_reducible refine is_awp ?_); refine awp_cond rfl (fun h => ?_) (fun h => ?_))
           | fail)
          exact retP rfl rfl
      · have hn : namedBy c x = false := by simp [namedBy, hw, he]
        rw [hn] at hf
        rw [decide_eq_false he] at q
        repeat' (first
         | ((with_reducible refine is_un ?_); refine awpL_ev (ev_neA (b := false) citeEq_T (by kernel_rfl) rfl rfl rfl rfl (by rw [← q]; rfl)) rfl ?_)
         | refine stn [] ?_
         | ((with_reducible refine is_gd ?_); refine awpL_split rfl rfl (fun h => ?_) (fun h => ?_))
         | ((with_reducible refine is_awp ?_); refine awp_cond rfl (fun h => ?_) (fun h => ?_))
         | fail)
        exact ⟨k + 1, ⟨(.cons rfl rfl (.cons rfl rfl (.cons rfl rfl (.cons rfl rfl (.cons rfl rfl .nil))))), rfl, rfl, rfl⟩, ⟨by omega, hf⟩, by omega⟩
set_option maxRecDepth 8000 in
set_option maxHeartbeats 2000000 in
theorem rResolve_spec (r : Replica) (c : Cite) (h : FitG r) : PCalls Tryz.prog g 26 [.agg (repC r), .agg (citeC c)] (resV (resR r.ops c)) := by
  have hl := h.l
  have hC := rCell_spec (g := g) r c.note h.o
  have n1 : (!true) = false := rfl
  have n2 : (!false) = true := rfl
  refine pcalls' Tryz.func26 Tryz.ntmps26 rfl rfl rfl ?_
  repeat' (first
   | refine stn [] ?_
   | ((with_reducible refine is_gd ?_); refine awpL_split rfl rfl (fun h => ?_) (fun h => ?_))
   | ((with_reducible refine is_awp ?_); refine awp_cond rfl (fun h => ?_) (fun h => ?_))
   | fail)
  refine awp_for (α := Nat) 0 (fun k => [(2, .fp (repC r)), (3, .fp (citeC c)), (6, vi k)]) (fun k => []) (fun k => k ≤ r.ops.length ∧ r.ops.find? (namedBy c) = (r.ops.drop k).find? (namedBy c)) (fun k => r.ops.length - k) 0
    ⟨(.cons rfl rfl (.cons rfl rfl (.cons rfl rfl .nil))), rfl, rfl, rfl⟩ ⟨Nat.zero_le _, rfl⟩ ?_
  rintro k ⟨hk, hf⟩
  cases ht : r.ops[k]? with
  | none =>
    have hge : r.ops.length ≤ k := by simpa using ht
    have c1 : decide ((k : Int) < r.ops.length) = false := decide_eq_false (by omega)
    rw [List.drop_of_length_le hge] at hf
    have hR : resR r.ops c = (.empty, 9) := by unfold resR; rw [hf]; rfl
    rw [hR]
    repeat' (first
     | refine stn [] ?_
     | ((with_reducible refine is_gd ?_); refine awpL_split rfl rfl (fun h => ?_) (fun h => ?_))
     | ((with_reducible refine is_awp ?_); refine awp_cond rfl (fun h => ?_) (fun h => ?_))
     | fail)
    exact retP rfl rfl
  | some x =>
    have hlt : k < r.ops.length := (List.getElem?_eq_some_iff.1 ht).1
    have c1 : decide ((k : Int) < r.ops.length) = true := decide_eq_true (by omega)
    have h1 := op_get ht
    have hW := rWrites_spec (g := g) x c.note 0
    rw [find_drop2 ht] at hf
    have q := stamp_eqb x.at_ c.at_
    by_cases hs : x.at_ = c.at_
    · rw [decide_eq_true hs] at q
      by_cases hrc : x.rec_ = c.rec_
      · have d2 : (!decide (x.rec_ = c.rec_)) = false := by simp [hrc]
        have he : (⟨x.rec_, c.note, x.at_⟩ : Cite) = c := by rw [hs, hrc]
        cases hw : writes x c.note 0 with
        | false =>
          rw [hw] at hW
          have hn : namedBy c x = false := by simp [namedBy, hw]
          rw [hn] at hf
          repeat' (first
           | ((with_reducible refine is_un ?_); refine awpL_ev (ev_neA (b := true) stampEq_T (by kernel_rfl) rfl rfl rfl rfl (by rw [← q]; rfl)) rfl ?_)
           | refine stn [] ?_
           | ((with_reducible refine is_gd ?_); refine awpL_split rfl rfl (fun h => ?_) (fun h => ?_))
           | ((with_reducible refine is_awp ?_); refine awp_cond rfl (fun h => ?_) (fun h => ?_))
           | fail)
          exact ⟨k + 1, ⟨(.cons rfl rfl (.cons rfl rfl (.cons rfl rfl .nil))), rfl, rfl, rfl⟩, ⟨by omega, hf⟩, by omega⟩
        | true =>
          rw [hw] at hW
          have hn : namedBy c x = true := by simp [namedBy, hw, he]
          rw [hn] at hf
          have hR : resR r.ops c = if (cell r.ops c.note).isSome then ((valueOf x 0).text, 0) else (.empty, 26) := by unfold resR; rw [hf]; rfl
          have hV := rValue_spec (g := g) x 0
          cases hc : cell r.ops c.note with
          | none =>
            rw [cellV, hc] at hC
            simp only [Option.getD_none, Option.isSome_none] at hC
            rw [hR, hc]
            repeat' (first
             | ((with_reducible refine is_un ?_); (first | refine awpL_ev (ev_fld_one rfl rfl rfl rfl rfl rfl rfl) rfl ?_ | refine awpL_ev (ev_neA (b := true) stampEq_T (by kernel_rfl) rfl rfl rfl rfl (by rw [← q]; rfl)) rfl ?_))
             | refine stn [] ?_
             | ((with_reducible refine is_gd ?_); refine awpL_split rfl rfl (fun h => ?_) (fun h => ?_))
             | ((with_reducible refine is_awp ?_); refine awp_cond rfl (fun h => ?_) (fun h => ?_))
             | fail)
            exact retP rfl rfl
          | some d =>
            rw [cellV, hc] at hC
            simp only [Option.getD_some, Option.isSome_some] at hC
            rw [hR, hc]
            generalize valueOf x 0 = v at *
            repeat' (first
             | ((with_reducible refine is_un ?_); (first | refine awpL_ev (ev_fld_one rfl rfl rfl rfl rfl rfl rfl) rfl ?_ | refine awpL_ev (ev_neA (b := true) stampEq_T (by kernel_rfl) rfl rfl rfl rfl (by rw [← q]; rfl)) rfl ?_))
             | refine stn [] ?_
             | ((with_reducible refine is_gd ?_); refine awpL_split rfl rfl (fun h => ?_) (fun h => ?_))
             | ((with_reducible refine is_awp ?_); refine awp_cond rfl (fun h => ?_) (fun h => ?_))
             | fail)
            exact retP rfl rfl
      · have d2 : (!decide (x.rec_ = c.rec_)) = true := by simp [hrc]
        have hn : namedBy c x = false := by simp [namedBy]; intro _ e; exact absurd (congrArg Cite.rec_ e) hrc
        rw [hn] at hf
        repeat' (first
         | ((with_reducible refine is_un ?_); refine awpL_ev (ev_neA (b := true) stampEq_T (by kernel_rfl) rfl rfl rfl rfl (by rw [← q]; rfl)) rfl ?_)
         | refine stn [] ?_
         | ((with_reducible refine is_gd ?_); refine awpL_split rfl rfl (fun h => ?_) (fun h => ?_))
         | ((with_reducible refine is_awp ?_); refine awp_cond rfl (fun h => ?_) (fun h => ?_))
         | fail)
        exact ⟨k + 1, ⟨(.cons rfl rfl (.cons rfl rfl (.cons rfl rfl .nil))), rfl, rfl, rfl⟩, ⟨by omega, hf⟩, by omega⟩
    · rw [decide_eq_false hs] at q
      have hn : namedBy c x = false := by simp [namedBy]; intro _ e; exact absurd (congrArg Cite.at_ e) hs
      rw [hn] at hf
      repeat' (first
       | ((with_reducible refine is_un ?_); refine awpL_ev (ev_neA (b := false) stampEq_T (by kernel_rfl) rfl rfl rfl rfl (by rw [← q]; rfl)) rfl ?_)
       | refine stn [] ?_
       | ((with_reducible refine is_gd ?_); refine awpL_split rfl rfl (fun h => ?_) (fun h => ?_))
       | ((with_reducible refine is_awp ?_); refine awp_cond rfl (fun h => ?_) (fun h => ?_))
       | fail)
      exact ⟨k + 1, ⟨(.cons rfl rfl (.cons rfl rfl (.cons rfl rfl .nil))), rfl, rfl, rfl⟩, ⟨by omega, hf⟩, by omega⟩
set_option maxHeartbeats 2000000 in
theorem CSame_spec (a b : List Cite) (hl : a.length ≤ 1000000) (hb : b.length ≤ 1000000) : PCalls Tryz.prog g 22 [encCites a, encCites b] (vb (decide (a = b))) := by
  have n1 : (!true) = false := rfl
  have n2 : (!false) = true := rfl
  refine pcalls' Tryz.func22 Tryz.ntmps22 rfl rfl rfl ?_
  by_cases hn : a.length = b.length
  · have c0 : (!decide ((a.length : Int) = b.length)) = false := by simp [hn]
    repeat' (first
     | refine stn [] ?_
     | ((with_reducible refine is_gd ?_); refine awpL_split rfl rfl (fun h => ?_) (fun h => ?_))
     | ((with_reducible refine is_awp ?_); refine awp_cond rfl (fun h => ?_) (fun h => ?_))
     | fail)
    refine awp_for (α := Nat) 0 (fun k => [(0, encCites a), (1, encCites b), (5, vi k)]) (fun _ => []) (fun k => k ≤ a.length ∧ a.take k = b.take k) (fun k => a.length - k) 0
      ⟨(.cons rfl rfl (.cons rfl rfl (.cons rfl rfl .nil))), rfl, rfl, rfl⟩ ⟨Nat.zero_le _, rfl⟩ ?_
    rintro k ⟨hk, hf⟩
    cases ht : a[k]? with
    | none =>
      have hge : a.length ≤ k := by simpa using ht
      have c1 : decide ((k : Int) < a.length) = false := decide_eq_false (by omega)
      rw [List.take_of_length_le hge, List.take_of_length_le (by omega)] at hf
      rw [decide_eq_true hf]
      repeat' (first
       | refine stn [] ?_
       | ((with_reducible refine is_gd ?_); refine awpL_split rfl rfl (fun h => ?_) (fun h => ?_))
       | ((with_reducible refine is_awp ?_); refine awp_cond rfl (fun h => ?_) (fun h => ?_))
       | fail)
      exact retP rfl rfl
    | some x =>
      have hlt : k < a.length := (List.getElem?_eq_some_iff.1 ht).1
      have c1 : decide ((k : Int) < a.length) = true := decide_eq_true (by omega)
      obtain ⟨y, hy⟩ : ∃ y, b[k]? = some y := ⟨_, List.getElem?_eq_getElem (by omega)⟩
      have h1 := cite_get ht
      have h2 := cite_get hy
      have q := cite_eqb x y
      by_cases he : x = y
      · rw [decide_eq_true he] at q
        repeat' (first
         | ((with_reducible refine isD_un ?_); refine awpD_un (as_ev (fun _ => ev_neA (b := true) citeEq_T (by kernel_rfl) rfl rfl rfl rfl (by rw [← q]; rfl)) rfl rfl) (by (try simp only [List.nil_append, List.cons_append]); (try rfl)) ?_)
         | ((with_reducible refine isD_gd ?_); refine awpD_gd rfl rfl (by first | with_reducible rfl | with_reducible assumption) (as_ev (fun _ => ev_neA (b := true) citeEq_T (by kernel_rfl) rfl rfl rfl rfl (by rw [← q]; rfl)) rfl rfl) (by (try simp only [List.nil_append, List.cons_append]); (try rfl)) ?_)
         | refine st [] ?_
         | ((with_reducible refine is_gd ?_); refine awpL_split rfl rfl (fun h => ?_) (fun h => ?_))
         | ((with_reducible refine isD_gd ?_); ((fail_if_success (refine isD_kn (c := true) rfl (by first | with_reducible rfl | with_reducible assumption) ?_)); (fail_if_success (refine isD_kn (c := false) rfl (by first | with_reducible rfl | with_reducible assumption) ?_)); refine awpD_split rfl (fun h => ?_) (fun h => ?_)))
         | ((with_reducible refine is_awp ?_); refine awp_cond rfl (fun h => ?_) (fun h => ?_))
         | fail)
        refine ⟨k + 1, ⟨(.cons rfl rfl (.cons rfl rfl (.cons rfl rfl .nil))), rfl, rfl, rfl⟩, ⟨by omega, ?_⟩, by omega⟩
        rw [List.take_add_one, List.take_add_one, hf, ht, hy, he]
      · rw [decide_eq_false he] at q
        have hne : ¬ a = b := fun e => he (by rw [e, hy] at ht; exact (Option.some.inj ht).symm)
        rw [decide_eq_false hne]
        repeat' (first
         | ((with_reducible refine isD_un ?_); refine awpD_un (as_ev (fun _ => ev_neA (b := false) citeEq_T (by kernel_rfl) rfl rfl rfl rfl (by rw [← q]; rfl)) rfl rfl) (by (try simp only [List.nil_append, List.cons_append]); (try rfl)) ?_)
         | ((with_reducible refine isD_gd ?_); refine awpD_gd rfl rfl (by first | with_reducible rfl | with_reducible assumption) (as_ev (fun _ => ev_neA (b := false) citeEq_T (by kernel_rfl) rfl rfl rfl rfl (by rw [← q]; rfl)) rfl rfl) (by (try simp only [List.nil_append, List.cons_append]); (try rfl)) ?_)
         | refine st [] ?_
         | ((with_reducible refine is_gd ?_); refine awpL_split rfl rfl (fun h => ?_) (fun h => ?_))
         | ((with_reducible refine isD_gd ?_); ((fail_if_success (refine isD_kn (c := true) rfl (by first | with_reducible rfl | with_reducible assumption) ?_)); (fail_if_success (refine isD_kn (c := false) rfl (by first | with_reducible rfl | with_reducible assumption) ?_)); refine awpD_split rfl (fun h => ?_) (fun h => ?_)))
         | ((with_reducible refine is_awp ?_); refine awp_cond rfl (fun h => ?_) (fun h => ?_))
         | fail)
        exact retP rfl rfl
  · have c0 : (!decide ((a.length : Int) = b.length)) = true := by simp; omega
    have hne : ¬ a = b := fun e => hn (by rw [e])
    rw [decide_eq_false hne]
    repeat' (first
     | refine stn [] ?_
     | ((with_reducible refine is_gd ?_); refine awpL_split rfl rfl (fun h => ?_) (fun h => ?_))
     | ((with_reducible refine is_awp ?_); refine awp_cond rfl (fun h => ?_) (fun h => ?_))
     | fail)
    exact retP rfl rfl
end Go.Proofs.YtnacjdaoiepbhaaGreatDoor
end
