/- A logic of trees over the model's steps, and the contracts of the functions that the laws reach: part 4 of 10. -/
import Derived.Test.YtekkpfbjnjjcbaaDoorB3
section
set_option linter.unusedVariables false
set_option linter.unusedSimpArgs false
set_option linter.unusedSectionVars false
namespace Go.Proofs.YtekkpfbjnjjcbaaDoor
open Go.Ac
attribute [local irreducible] awp awpL Ev Ev2 EvS thenQ blockQ retQ PCalls OCalls
set_option linter.unusedSimpArgs false
set_option linter.unusedVariables false
variable {g : List (Nat × List AV)}
theorem stamp_ext {x y : Stamp} (h : x.count = y.count ∧ x.dev = y.dev) : x = y := by cases x; cases y; simp_all
def noteEq : List Value → List Value → Option Bool
  | [.int .i64 a, .int .i64 b, .int .i64 c, .int .i64 d, .int .i64 e, .int .i64 f, .string s], [.int .i64 a', .int .i64 b', .int .i64 c', .int .i64 d', .int .i64 e', .int .i64 f', .string s'] =>
    some (a == a' && (b == b' && (c == c' && ((d == d' && e == e') && (f == f' && s.toList == s'.toList)))))
  | _, _ => none
theorem noteEq_T : EqT Tryd.prog 38 noteEq := by
  intro xs ys b w h
  unfold noteEq at h
  split at h
  · rename_i a b c d e f s a' b' c' d' e' f' s'
    have h := Option.some.inj h
    subst h
    have u3 := Tryd.underlying3
    have a3 := Tryd.isAgg3
    have z3 := Tryd.sizeOf3
    have u9 := Tryd.underlying9
    have a9 := Tryd.isAgg9
    have z9 := Tryd.sizeOf9
    have a7 := Tryd.isAgg36
    have z7 := Tryd.sizeOf36
    have hS : Tryd.prog.underlying 38 = some (.struct (Tryd.prog.fieldsOf 38)) := by kernel_rfl
    have hsp : ∀ w, (Op.equalIn 9999 36 (.agg #[.int .i64 d, .int .i64 e]) (.agg #[.int .i64 d', .int .i64 e'])).run Tryd.prog w = .ok (d == d' && e == e') w := by
      intro w
      rw [show (9999 : Nat) = 9998 + 1 from rfl, run_equalIn_agg w 9998 _ _ _ (show Tryd.prog.underlying 36 = some (.struct (Tryd.prog.fieldsOf 36)) by kernel_rfl) (by kernel_rfl)]
      simp only [Program.fieldsOf, Tryd.underlying36]
      go_simp
      by_cases h1 : d = d' <;> by_cases h2 : e = e' <;> simp [h1, h2]
    rw [show (10000 : Nat) = 9999 + 1 from rfl, run_equalIn_agg w 9999 _ _ _ hS (by kernel_rfl)]
    simp only [Program.fieldsOf, Tryd.underlying38]
    go_simp
    by_cases h1 : a = a' <;> by_cases h2 : b = b' <;> by_cases h3 : c = c' <;> by_cases h4 : d = d' <;> by_cases h5 : e = e' <;> by_cases h6 : f = f' <;> by_cases h7 : s.toList = s'.toList <;> simp [h1, h2, h3, h4, h5, h6, h7]
  · cases h
set_option maxHeartbeats 400000 in
theorem eqInts_spec (a b : List Int) (ha : a.length ≤ 1000000) (hb : b.length ≤ 1000000) : PCalls Tryd.prog g 22 [encIs a, encIs b] (vb (decide (a = b))) := by
  refine pcalls' Tryd.func22 Tryd.ntmps22 rfl rfl rfl ?_
  by_cases hl : a.length = b.length
  · have c0 : (!decide ((a.length : Int) = b.length)) = false := by simp; omega
    repeat' (first
     | refine stn [] ?_
     | ((with_reducible refine is_awp ?_); refine awp_cond rfl (fun h => ?_) (fun h => ?_))
     | fail)
    refine awp_for (α := Nat) 0 (fun k => [(0, encIs a), (1, encIs b), (12, vi a.length), (13, vi k)]) (fun _ => []) (fun k => k ≤ a.length ∧ a.take k = b.take k) (fun k => a.length - k) 0
      ⟨(.cons rfl rfl (.cons rfl rfl (.cons rfl rfl (.cons rfl rfl .nil)))), rfl, rfl, rfl⟩ ⟨Nat.zero_le _, rfl⟩ ?_
    rintro k ⟨hk, hf⟩
    cases ht : a[k]? with
    | none =>
      have hge : a.length ≤ k := by simpa using ht
      have c1 : decide ((k : Int) < a.length) = false := by simp; omega
      have he : a = b := by
        rw [List.take_of_length_le hge, List.take_of_length_le (by omega)] at hf; exact hf
      refine runn [] ?_
      refine retP rfl ?_
      simp [ex, he]
    | some x =>
      have hlt : k < a.length := (List.getElem?_eq_some_iff.1 ht).1
      obtain ⟨y, hy⟩ : ∃ y, b[k]? = some y := ⟨_, List.getElem?_eq_getElem (by omega)⟩
      have c1 : decide ((k : Int) < a.length) = true := by simp; omega
      have h1 := int_get ht
      have h2 := int_get hy
      repeat' (first
       | refine st [] ?_
       | ((with_reducible refine is_awp ?_); refine awp_cond rfl (fun h => ?_) (fun h => ?_))
       | fail)
      · refine retP rfl ?_
        have hne : x ≠ y := by simpa using h
        have : a ≠ b := fun e => hne (by rw [e, hy] at ht; exact (Option.some.inj ht).symm)
        simp [ex, this]
      · have he : x = y := by simpa using h
        exact ⟨k + 1, ⟨(.cons rfl rfl (.cons rfl rfl (.cons rfl rfl (.cons rfl rfl .nil)))), rfl, rfl, rfl⟩, ⟨by omega, by rw [List.take_add_one, List.take_add_one, hf, ht, hy, he]⟩, by omega⟩
  · have c0 : (!decide ((a.length : Int) = b.length)) = true := by simp; omega
    refine runn [] ?_
    refine retP rfl ?_
    have : a ≠ b := fun e => hl (by rw [e])
    simp [ex, this]
set_option maxHeartbeats 400000 in
theorem rSameInts_spec (a b : List Int) (ha : a.length ≤ 1000000) (hb : b.length ≤ 1000000) : PCalls Tryd.prog g 18 [encIs a, encIs b] (vb (decide (a = b))) := by
  refine pcalls' Tryd.func18 Tryd.ntmps18 rfl rfl rfl ?_
  by_cases hl : a.length = b.length
  · have c0 : (!decide ((a.length : Int) = b.length)) = false := by simp; omega
    repeat' (first
     | refine stn [] ?_
     | ((with_reducible refine is_awp ?_); refine awp_cond rfl (fun h => ?_) (fun h => ?_))
     | fail)
    refine awp_for (α := Nat) 0 (fun k => [(0, encIs a), (1, encIs b), (12, vi a.length), (13, vi k)]) (fun _ => []) (fun k => k ≤ a.length ∧ a.take k = b.take k) (fun k => a.length - k) 0
      ⟨(.cons rfl rfl (.cons rfl rfl (.cons rfl rfl (.cons rfl rfl .nil)))), rfl, rfl, rfl⟩ ⟨Nat.zero_le _, rfl⟩ ?_
    rintro k ⟨hk, hf⟩
    cases ht : a[k]? with
    | none =>
      have hge : a.length ≤ k := by simpa using ht
      have c1 : decide ((k : Int) < a.length) = false := by simp; omega
      have he : a = b := by
        rw [List.take_of_length_le hge, List.take_of_length_le (by omega)] at hf; exact hf
      refine runn [] ?_
      refine retP rfl ?_
      simp [ex, he]
    | some x =>
      have hlt : k < a.length := (List.getElem?_eq_some_iff.1 ht).1
      obtain ⟨y, hy⟩ : ∃ y, b[k]? = some y := ⟨_, List.getElem?_eq_getElem (by omega)⟩
      have c1 : decide ((k : Int) < a.length) = true := by simp; omega
      have h1 := int_get ht
      have h2 := int_get hy
      repeat' (first
       | refine st [] ?_
       | ((with_reducible refine is_awp ?_); refine awp_cond rfl (fun h => ?_) (fun h => ?_))
       | fail)
      · refine retP rfl ?_
        have hne : x ≠ y := by simpa using h
        have : a ≠ b := fun e => hne (by rw [e, hy] at ht; exact (Option.some.inj ht).symm)
        simp [ex, this]
      · have he : x = y := by simpa using h
        exact ⟨k + 1, ⟨(.cons rfl rfl (.cons rfl rfl (.cons rfl rfl (.cons rfl rfl .nil)))), rfl, rfl, rfl⟩, ⟨by omega, by rw [List.take_add_one, List.take_add_one, hf, ht, hy, he]⟩, by omega⟩
  · have c0 : (!decide ((a.length : Int) = b.length)) = true := by simp; omega
    refine runn [] ?_
    refine retP rfl ?_
    have : a ≠ b := fun e => hl (by rw [e])
    simp [ex, this]
set_option maxHeartbeats 400000 in
theorem eqStamps_spec (a b : List Stamp) (ha : a.length ≤ 1000000) (hb : b.length ≤ 1000000) : PCalls Tryd.prog g 44 [encStamps a, encStamps b] (vb (decide (a = b))) := by
  refine pcalls' Tryd.func44 Tryd.ntmps44 rfl rfl rfl ?_
  by_cases hl : a.length = b.length
  · have c0 : (!decide ((a.length : Int) = b.length)) = false := by simp; omega
    repeat' (first
     | refine stn [] ?_
     | ((with_reducible refine is_awp ?_); refine awp_cond rfl (fun h => ?_) (fun h => ?_))
     | fail)
    refine awp_for (α := Nat) 0 (fun k => [(0, encStamps a), (1, encStamps b), (12, vi a.length), (13, vi k)]) (fun _ => []) (fun k => k ≤ a.length ∧ a.take k = b.take k) (fun k => a.length - k) 0
      ⟨(.cons rfl rfl (.cons rfl rfl (.cons rfl rfl (.cons rfl rfl .nil)))), rfl, rfl, rfl⟩ ⟨Nat.zero_le _, rfl⟩ ?_
    rintro k ⟨hk, hf⟩
    cases ht : a[k]? with
    | none =>
      have hge : a.length ≤ k := by simpa using ht
      have c1 : decide ((k : Int) < a.length) = false := by simp; omega
      have he : a = b := by
        rw [List.take_of_length_le hge, List.take_of_length_le (by omega)] at hf; exact hf
      refine runn [] ?_
      refine retP rfl ?_
      simp [ex, he]
    | some x =>
      have hlt : k < a.length := (List.getElem?_eq_some_iff.1 ht).1
      obtain ⟨y, hy⟩ : ∃ y, b[k]? = some y := ⟨_, List.getElem?_eq_getElem (by omega)⟩
      have c1 : decide ((k : Int) < a.length) = true := by simp; omega
      have h1 := stamp_get ht
      have h2 := stamp_get hy
      repeat' (first
       | ((with_reducible refine isD_un ?_); refine awpD_un (as_ev (fun _ => ev_eq_agg (neg := true) stampEq_T (by kernel_rfl) rfl rfl rfl rfl rfl) rfl rfl) (by (try simp only [List.nil_append, List.cons_append]); (try rfl)) ?_)
       | refine st [] ?_
       | ((with_reducible refine is_awp ?_); refine awp_cond rfl (fun h => ?_) (fun h => ?_))
       | fail)
      · refine retP rfl ?_
        have hne : x ≠ y := by intro e; subst e; simp at h
        have : a ≠ b := fun e => hne (by rw [e, hy] at ht; exact (Option.some.inj ht).symm)
        simp [ex, this]
      · have he : x = y := by exact stamp_ext (by simpa using h)
        exact ⟨k + 1, ⟨(.cons rfl rfl (.cons rfl rfl (.cons rfl rfl (.cons rfl rfl .nil)))), rfl, rfl, rfl⟩, ⟨by omega, by rw [List.take_add_one, List.take_add_one, hf, ht, hy, he]⟩, by omega⟩
  · have c0 : (!decide ((a.length : Int) = b.length)) = true := by simp; omega
    refine runn [] ?_
    refine retP rfl ?_
    have : a ≠ b := fun e => hl (by rw [e])
    simp [ex, this]
theorem op_eq (a b : Op) : decide (a = b) = ((a.at_.count == b.at_.count && a.at_.dev == b.at_.dev) && (decide (a.kind = b.kind) && (decide (a.rec_ = b.rec_) && ((a.note.id == b.note.id && (a.note.tier == b.note.tier && (a.note.parent == b.note.parent && ((a.note.span.fro == b.note.span.fro && a.note.span.til == b.note.span.til) && (a.note.rank == b.note.rank && a.note.text.toList == b.note.text.toList))))) && (decide (a.set = b.set) && (decide (a.n = b.n) && (decide (a.text = b.text) && decide (a.over = b.over)))))))) := by
  have hb : ∀ s t : ByteArray, (s.toList == t.toList) = decide (s = t) := beq_bytes
  rcases a with ⟨⟨a1, a2⟩, a3, a4, ⟨a5, a6, a7, ⟨a8, a9⟩, a10, a11⟩, a12, a13, a14, a15⟩
  rcases b with ⟨⟨b1, b2⟩, b3, b4, ⟨b5, b6, b7, ⟨b8, b9⟩, b10, b11⟩, b12, b13, b14, b15⟩
  simp only [hb, Op.mk.injEq, Stamp.mk.injEq, Note.mk.injEq, Span.mk.injEq, Bool.decide_and]
  simp only [beq_eq_decide']
where
  beq_eq_decide' : ∀ (a b : Int), (a == b) = decide (a = b) := fun a b => by by_cases h : a = b <;> simp [h]
end Go.Proofs.YtekkpfbjnjjcbaaDoor
end
section
set_option linter.unusedVariables false
set_option linter.unusedSimpArgs false
set_option linter.unusedSectionVars false
namespace Go.Proofs.YtekkpfbjnjjcbaaDoor
open Go.Ac
attribute [local irreducible] awp awpL Ev Ev2 EvS thenQ blockQ retQ PCalls OCalls
set_option linter.unusedSimpArgs false
set_option linter.unusedVariables false
variable {g : List (Nat × List AV)}
set_option maxRecDepth 4000 in
set_option maxHeartbeats 1000000 in
theorem Same_spec (a b : Op) (ha : a.over.length ≤ 1000000) (hb : b.over.length ≤ 1000000) : PCalls Tryd.prog g 30 [.agg (opC a), .agg (opC b)] (vb (decide (a = b))) := by
  have h1 := eqStamps_spec (g := g) a.over b.over ha hb
  have hop := op_eq a b
  refine pcalls' Tryd.func30 Tryd.ntmps30 rfl rfl rfl ?_
  repeat' (first
   | ((with_reducible refine is_un ?_); (first | refine awpL_ev (ev_eq_agg (neg := false) stampEq_T (by kernel_rfl) rfl rfl rfl rfl rfl) rfl ?_ | refine awpL_ev (ev_eq_agg (neg := false) noteEq_T (by kernel_rfl) rfl rfl rfl rfl rfl) rfl ?_))
   | refine stn [] ?_
   | ((with_reducible refine is_gd ?_); refine awpL_split rfl rfl (fun h => ?_) (fun h => ?_))
   | fail)
  all_goals refine retP rfl ?_
  all_goals rw [hop]
  all_goals clear h1 hop
  all_goals simp_all [ex]
end Go.Proofs.YtekkpfbjnjjcbaaDoor
end
section
set_option linter.unusedVariables false
set_option linter.unusedSimpArgs false
set_option linter.unusedSectionVars false
namespace Go.Proofs.YtekkpfbjnjjcbaaDoor
open Go.Ac
attribute [local irreducible] awp awpL Ev Ev2 EvS thenQ blockQ retQ PCalls OCalls
set_option linter.unusedSimpArgs false
set_option linter.unusedVariables false
variable {g : List (Nat × List AV)}
set_option maxRecDepth 4000 in
set_option maxHeartbeats 1000000 in
theorem rSame_spec (a b : Op) (ha : a.over.length ≤ 1000000) (hb : b.over.length ≤ 1000000) : PCalls Tryd.prog g 19 [.agg (opC a), .agg (opC b)] (vb (decide (a = b))) := by
  have hop := op_eq a b
  refine pcalls' Tryd.func19 Tryd.ntmps19 rfl rfl rfl ?_
  by_cases hl : a.over.length = b.over.length
  · have c0 : (!decide ((a.over.length : Int) = b.over.length)) = false := by simp; omega
    repeat' (first
     | refine stn [] ?_
     | ((with_reducible refine is_awp ?_); refine awp_cond rfl (fun h => ?_) (fun h => ?_))
     | fail)
    refine awp_for (α := Nat) 0 (fun k => [(2, .fp (opC a)), (3, .fp (opC b)), (15, vi a.over.length), (16, vi k)]) (fun _ => []) (fun k => k ≤ a.over.length ∧ a.over.take k = b.over.take k) (fun k => a.over.length - k) 0
      ⟨(.cons rfl rfl (.cons rfl rfl (.cons rfl rfl (.cons rfl rfl .nil)))), rfl, rfl, rfl⟩ ⟨Nat.zero_le _, rfl⟩ ?_
    rintro k ⟨hk, hf⟩
    cases ht : a.over[k]? with
    | none =>
      have hge : a.over.length ≤ k := by simpa using ht
      have c1 : decide ((k : Int) < a.over.length) = false := by simp; omega
      have he : a.over = b.over := by
        rw [List.take_of_length_le hge, List.take_of_length_le (by omega)] at hf; exact hf
      have he2 : decide (a.over = b.over) = true := by simp [he]
      rw [he2] at hop
      repeat' (first
       | ((with_reducible refine is_un ?_); (first | refine awpL_ev (ev_eq_agg (neg := false) stampEq_T (by kernel_rfl) rfl rfl rfl rfl rfl) rfl ?_ | refine awpL_ev (ev_eq_agg (neg := false) noteEq_T (by kernel_rfl) rfl rfl rfl rfl rfl) rfl ?_))
       | refine stn [] ?_
       | ((with_reducible refine is_gd ?_); refine awpL_split rfl rfl (fun h => ?_) (fun h => ?_))
       | fail)
      all_goals refine retP rfl ?_
      all_goals rw [hop]
      all_goals clear hop he he2 hf
      all_goals simp_all [ex]
    | some x =>
      have hlt : k < a.over.length := (List.getElem?_eq_some_iff.1 ht).1
      obtain ⟨y, hy⟩ : ∃ y, b.over[k]? = some y := ⟨_, List.getElem?_eq_getElem (by omega)⟩
      have c1 : decide ((k : Int) < a.over.length) = true := by simp; omega
      have h1 := stamp_get ht
      have h2 := stamp_get hy
      repeat' (first
       | ((with_reducible refine isD_un ?_); refine awpD_un (as_ev (fun _ => ev_eq_agg (neg := true) stampEq_T (by kernel_rfl) rfl rfl rfl rfl rfl) rfl rfl) (by (try simp only [List.nil_append, List.cons_append]); (try rfl)) ?_)
       | refine st [] ?_
       | ((with_reducible refine is_awp ?_); refine awp_cond rfl (fun h => ?_) (fun h => ?_))
       | fail)
      · refine retP rfl ?_
        have hne : x ≠ y := by intro e; subst e; simp at h
        have : a ≠ b := fun e => hne (by rw [e, hy] at ht; exact (Option.some.inj ht).symm)
        simp [ex, this]
      · have he : x = y := by exact stamp_ext (by simpa using h)
        exact ⟨k + 1, ⟨(.cons rfl rfl (.cons rfl rfl (.cons rfl rfl (.cons rfl rfl .nil)))), rfl, rfl, rfl⟩, ⟨by omega, by rw [List.take_add_one, List.take_add_one, hf, ht, hy, he]⟩, by omega⟩
  · have c0 : (!decide ((a.over.length : Int) = b.over.length)) = true := by simp; omega
    refine runn [] ?_
    refine retP rfl ?_
    have : a ≠ b := fun e => hl (by rw [e])
    simp [ex, this]
end Go.Proofs.YtekkpfbjnjjcbaaDoor
end
section
set_option linter.unusedVariables false
set_option linter.unusedSimpArgs false
set_option linter.unusedSectionVars false
namespace Go.Proofs.YtekkpfbjnjjcbaaDoor
open Go.Ac
attribute [local irreducible] awp awpL Ev Ev2 EvS thenQ blockQ retQ PCalls OCalls
set_option linter.unusedSimpArgs false
set_option linter.unusedVariables false
variable {g : List (Nat × List AV)}
def Fit (l : List Op) : Prop := l.length ≤ 100000 ∧ ∀ o ∈ l, o.over.length ≤ 100000
theorem Fit.get {l : List Op} (h : Fit l) {k : Nat} {o : Op} (hk : l[k]? = some o) : o.over.length ≤ 1000000 := by
  have := h.2 o (List.mem_of_getElem? hk); omega
theorem any_drop {α : Type} (f : α → Bool) (l : List α) (k : Nat) (x : α) (h : l[k]? = some x) : (l.drop k).any f = (f x || (l.drop (k + 1)).any f) := by
  obtain ⟨hlt, rfl⟩ := List.getElem?_eq_some_iff.1 h
  rw [List.drop_eq_getElem_cons hlt]; rfl
end Go.Proofs.YtekkpfbjnjjcbaaDoor
end
section
set_option linter.unusedVariables false
set_option linter.unusedSimpArgs false
set_option linter.unusedSectionVars false
namespace Go.Proofs.YtekkpfbjnjjcbaaDoor
open Go.Ac
attribute [local irreducible] awp awpL Ev Ev2 EvS thenQ blockQ retQ PCalls OCalls
set_option linter.unusedSimpArgs false
set_option linter.unusedVariables false
variable {g : List (Nat × List AV)}
theorem take_map {α : Type} (f : α → List AV) (l : List α) (k : Nat) (x : α) (h : l[k]? = some x) : (l.take k).map f ++ [f x] = (l.take (k + 1)).map f := by
  rw [List.take_add_one, h, List.map_append]; rfl
end Go.Proofs.YtekkpfbjnjjcbaaDoor
end
section
set_option linter.unusedVariables false
set_option linter.unusedSimpArgs false
set_option linter.unusedSectionVars false
namespace Go.Proofs.YtekkpfbjnjjcbaaDoor
open Go.Ac
attribute [local irreducible] awp awpL Ev Ev2 EvS thenQ blockQ retQ PCalls OCalls
set_option linter.unusedSimpArgs false
set_option linter.unusedVariables false
variable {g : List (Nat × List AV)}
def FitR (r : Replica) : Prop := Fit r.ops ∧ r.seen.length ≤ 100000
set_option maxHeartbeats 1000000 in
theorem rSameR_spec (a b : Replica) (ha : FitR a) (hb : FitR b) : PCalls Tryd.prog g 8 [.agg (repC a), .agg (repC b)] (vb (decide (a = b))) := by
  have h1 := rSameInts_spec (g := g) a.seen b.seen (by have := ha.2; omega) (by have := hb.2; omega)
  have ha1 := ha.1.1
  have hb1 := hb.1.1
  have hext : ∀ {a b : Replica}, a.dev = b.dev → a.seen = b.seen → a.ops = b.ops → a = b := fun {a b} h1 h2 h3 => by cases a; cases b; simp_all
  refine pcalls' Tryd.func8 Tryd.ntmps8 rfl rfl rfl ?_
  by_cases hd : a.dev = b.dev
  · have d0 : (!decide (a.dev = b.dev)) = false := by simp [hd]
    by_cases hs : a.seen = b.seen
    · have n1 : (!true) = false := rfl
      rw [decide_eq_true hs] at h1
      by_cases hl : a.ops.length = b.ops.length
      · have c0 : (!decide ((a.ops.length : Int) = b.ops.length)) = false := by simp; omega
        repeat' (first
         | refine stn [] ?_
         | ((with_reducible refine is_awp ?_); refine awp_cond rfl (fun h => ?_) (fun h => ?_))
         | fail)
        refine awp_for (α := Nat) 0 (fun k => [(2, .fp (repC a)), (3, .fp (repC b)), (5, vi k)]) (fun _ => []) (fun k => k ≤ a.ops.length ∧ a.ops.take k = b.ops.take k) (fun k => a.ops.length - k) 0
          ⟨(.cons rfl rfl (.cons rfl rfl (.cons rfl rfl .nil))), rfl, rfl, rfl⟩ ⟨Nat.zero_le _, rfl⟩ ?_
        rintro k ⟨hk, hf⟩
        cases ht : a.ops[k]? with
        | none =>
          have hge : a.ops.length ≤ k := by simpa using ht
          have c1 : decide ((k : Int) < a.ops.length) = false := by simp; omega
          have he : a.ops = b.ops := by
            rw [List.take_of_length_le hge, List.take_of_length_le (by omega)] at hf; exact hf
          refine runn [] ?_
          refine retP rfl ?_
          simp [ex, hext hd hs he]
        | some x =>
          have hlt : k < a.ops.length := (List.getElem?_eq_some_iff.1 ht).1
          obtain ⟨y, hy⟩ : ∃ y, b.ops[k]? = some y := ⟨_, List.getElem?_eq_getElem (by omega)⟩
          have c1 : decide ((k : Int) < a.ops.length) = true := by simp; omega
          have h2 := op_get ht
          have h3 := op_get hy
          have h4 := rSame_spec (g := g) x y (ha.1.get ht) (hb.1.get hy)
          repeat' (first
           | refine st [] ?_
           | ((with_reducible refine is_awp ?_); refine awp_cond rfl (fun h => ?_) (fun h => ?_))
           | fail)
          · refine retP rfl ?_
            have hne : x ≠ y := by simpa using h
            have : a ≠ b := fun e => hne (by rw [e, hy] at ht; exact (Option.some.inj ht).symm)
            simp [ex, this]
          · have he : x = y := by simpa using h
            exact ⟨k + 1, ⟨(.cons rfl rfl (.cons rfl rfl (.cons rfl rfl .nil))), rfl, rfl, rfl⟩, ⟨by omega, by rw [List.take_add_one, List.take_add_one, hf, ht, hy, he]⟩, by omega⟩
      · have c0 : (!decide ((a.ops.length : Int) = b.ops.length)) = true := by simp; omega
        refine runn [] ?_
        refine retP rfl ?_
        have : a ≠ b := fun e => hl (by rw [e])
        simp [ex, this]
    · have n1 : (!false) = true := rfl
      rw [decide_eq_false hs] at h1
      refine runn [] ?_
      refine retP rfl ?_
      have : a ≠ b := fun e => hs (by rw [e])
      simp [ex, this]
  · have d0 : (!decide (a.dev = b.dev)) = true := by simp [hd]
    refine runn [] ?_
    refine retP rfl ?_
    have : a ≠ b := fun e => hd (by rw [e])
    simp [ex, this]
end Go.Proofs.YtekkpfbjnjjcbaaDoor
end
section
set_option linter.unusedVariables false
set_option linter.unusedSimpArgs false
set_option linter.unusedSectionVars false
namespace Go.Proofs.YtekkpfbjnjjcbaaDoor
open Go.Ac
attribute [local irreducible] awp awpL Ev Ev2 EvS thenQ blockQ retQ PCalls OCalls
set_option linter.unusedSimpArgs false
set_option linter.unusedVariables false
variable {g : List (Nat × List AV)}
def start (dev : Int) : Replica := ⟨dev, List.replicate 15 0, []⟩
def addOp (c d : Int) (t : ByteArray) : Op := ⟨⟨c, d⟩, 0, 1, ⟨16 * c + d, 0, 0, ⟨0, 0⟩, 0, t⟩, 0, 0, .empty, []⟩
def opOk (o : Op) : Bool := decide (o.over.length ≤ 20) && decide (o.text.size ≤ 300) && decide (o.note.text.size ≤ 300)
def opsOk (l : List Op) : Bool := decide (l.length ≤ 16) && l.all opOk
theorem all_drop {α : Type} (f : α → Bool) (l : List α) (k : Nat) (x : α) (h : l[k]? = some x) : (l.drop k).all f = (f x && (l.drop (k + 1)).all f) := by
  obtain ⟨hlt, rfl⟩ := List.getElem?_eq_some_iff.1 h
  rw [List.drop_eq_getElem_cons hlt]; rfl
end Go.Proofs.YtekkpfbjnjjcbaaDoor
end
section
set_option linter.unusedVariables false
set_option linter.unusedSimpArgs false
set_option linter.unusedSectionVars false
namespace Go.Proofs.YtekkpfbjnjjcbaaDoor
open Go.Ac
attribute [local irreducible] awp awpL Ev Ev2 EvS thenQ blockQ retQ PCalls OCalls
set_option linter.unusedSimpArgs false
set_option linter.unusedVariables false
variable {g : List (Nat × List AV)}
def missStep (seen : List Int) (most : Int) (out : List Op) (o : Op) : List Op := if (out.length : Int) < most ∧ covers seen o.at_ = false then out ++ [o] else out
def missing (l : List Op) (seen : List Int) (most : Int) : List Op := l.foldl (missStep seen most) []
theorem miss_full (seen : List Int) (most : Int) : ∀ (l out : List Op), most ≤ out.length → l.foldl (missStep seen most) out = out
  | [], out, _ => rfl
  | o :: r, out, h => by
    have : missStep seen most out o = out := by unfold missStep; rw [if_neg (by omega)]
    rw [List.foldl_cons, this, miss_full seen most r out h]
abbrev missK (l : List Op) (seen : List Int) (most : Int) (k : Nat) : List Op := (l.take k).foldl (missStep seen most) []
end Go.Proofs.YtekkpfbjnjjcbaaDoor
end
section
set_option linter.unusedVariables false
set_option linter.unusedSimpArgs false
set_option linter.unusedSectionVars false
namespace Go.Proofs.YtekkpfbjnjjcbaaDoor
open Go.Ac
attribute [local irreducible] awp awpL Ev Ev2 EvS thenQ blockQ retQ PCalls OCalls
set_option linter.unusedSimpArgs false
set_option linter.unusedVariables false
variable {g : List (Nat × List AV)}
end Go.Proofs.YtekkpfbjnjjcbaaDoor
end
section
set_option linter.unusedVariables false
set_option linter.unusedSimpArgs false
set_option linter.unusedSectionVars false
namespace Go.Proofs.YtekkpfbjnjjcbaaDoor
open Go.Ac
attribute [local irreducible] awp awpL Ev Ev2 EvS thenQ blockQ retQ PCalls OCalls
set_option linter.unusedSimpArgs false
set_option linter.unusedVariables false
variable {g : List (Nat × List AV)}
def behind (a b : List Op) : Nat := b.countP fun o => !has a o
abbrev behK (a b : List Op) (k : Nat) : Nat := (b.take k).countP fun o => !has a o
end Go.Proofs.YtekkpfbjnjjcbaaDoor
end
section
set_option linter.unusedVariables false
set_option linter.unusedSimpArgs false
set_option linter.unusedSectionVars false
namespace Go.Proofs.YtekkpfbjnjjcbaaDoor
open Go.Ac
theorem int_chk (b : Bool) (n : Nat) (a : Int) (w : World) : (Instr.checkKey b (n + 1) 3 (.int .i64 a)).run Tryd.prog w = .ok () w := by
  unfold Instr.checkKey
  simp [run_underlying Tryd.underlying3, Result.andThen]
theorem stamp_chk (b : Bool) (a c : Int) (w : World) : (Instr.checkKey b 10000 49 (.agg #[.int .i64 a, .int .i64 c])).run Tryd.prog w = .ok () w := by
  have h1 := int_chk b 9998 a w
  have h2 := int_chk b 9998 c w
  have a3 := Tryd.isAgg3
  have z3 := Tryd.sizeOf3
  rw [show (10000 : Nat) = 9999 + 1 from rfl]
  unfold Instr.checkKey
  simp only [Sem.run_bind, run_underlying Tryd.underlying49, Result.andThen_ok]
  have p0 : (part 3 #[Value.int IntKind.i64 a, Value.int IntKind.i64 c] 0).run Tryd.prog w = .ok (.int .i64 a) w := by simp [part, a3, Result.andThen]
  have p1 : (part 3 #[Value.int IntKind.i64 a, Value.int IntKind.i64 c] 1).run Tryd.prog w = .ok (.int .i64 c) w := by simp [part, a3, Result.andThen]
  simp [p0, p1, h1, h2, Result.andThen]
def isStampV (v : Value) : Prop := ∃ a b, v = .agg #[.int .i64 a, .int .i64 b]
def stampV (s : Stamp) : Value := .agg #[.int .i64 s.count, .int .i64 s.dev]
theorem stampKey : KeyOk Tryd.prog 49 isStampV := by
  refine KeyOk.asks Tryd.underlying49 (fun a b _ _ => by rfl) (fun x y w hx hy => ?_) (fun b k w hk => ?_) (fun k hk => ?_)
  · obtain ⟨a, b, rfl⟩ := hx
    obtain ⟨c, d, rfl⟩ := hy
    refine ⟨_, stampEq_T [.int .i64 a, .int .i64 b] [.int .i64 c, .int .i64 d] _ w rfl, ?_⟩
    simp
  · obtain ⟨a, c, rfl⟩ := hk
    exact stamp_chk b a c w
  · obtain ⟨a, c, rfl⟩ := hk
    simp [Instr.sameBits]
theorem stampV_inj (a b : Stamp) (h : stampV a = stampV b) : a = b := by
  simp [stampV] at h
  exact stamp_ext h
theorem stampV_R (s : Stamp) : ∀ c y, R c (.agg (stampC s)) y → y = stampV s := by
  intro c y h
  simp only [R, RF, stampC, LF] at h
  obtain ⟨xs, rfl, y1, s1, e1, rfl, _, y2, s2, e2, rfl, _, e3⟩ := h
  subst e3 e2
  unfold stampV
  congr 1
  apply Array.ext'
  simpa using e1
theorem stampV_ok (s : Stamp) : isStampV (stampV s) := ⟨_, _, rfl⟩
end Go.Proofs.YtekkpfbjnjjcbaaDoor
end
section
set_option linter.unusedVariables false
set_option linter.unusedSimpArgs false
set_option linter.unusedSectionVars false
namespace Go.Proofs.YtekkpfbjnjjcbaaDoor
open Go.Ac
attribute [local irreducible] awp awpL Ev Ev2 EvS thenQ blockQ retQ PCalls OCalls
set_option linter.unusedSimpArgs false
set_option linter.unusedVariables false
variable {g : List (Nat × List AV)}
abbrev ownM (l : List Op) (k : Nat) : List (Stamp × Op) := (l.take k).foldl (fun m o => aput m o.at_ o) []
def mks (m : List (Stamp × Op)) : List Value := m.map fun p => stampV p.1
def mxs (m : List (Stamp × Op)) : List AV := m.map fun p => .agg (opC p.2)
def unlike (m : List (Stamp × Op)) (o : Op) : Bool := match aget m o.at_ with
  | none => true
  | some y => !decide (y = o)
def behindM (a b : List Op) : Nat := b.countP (unlike (ownM a a.length))
abbrev bmK (m : List (Stamp × Op)) (b : List Op) (k : Nat) : Nat := (b.take k).countP (unlike m)
end Go.Proofs.YtekkpfbjnjjcbaaDoor
namespace Go.Proofs.YtekkpfbjnjjcbaaDoor
open Go.Ac
end Go.Proofs.YtekkpfbjnjjcbaaDoor
end
section
set_option linter.unusedVariables false
set_option linter.unusedSimpArgs false
set_option linter.unusedSectionVars false
namespace Go.Proofs.YtekkpfbjnjjcbaaDoor
open Go.Ac
attribute [local irreducible] awp awpL Ev Ev2 EvS thenQ blockQ retQ PCalls OCalls YieldOk
set_option linter.unusedSimpArgs false
set_option linter.unusedVariables false
variable {g : List (Nat × List AV)}
end Go.Proofs.YtekkpfbjnjjcbaaDoor
end
section
set_option linter.unusedVariables false
set_option linter.unusedSimpArgs false
set_option linter.unusedSectionVars false
namespace Go.Proofs.YtekkpfbjnjjcbaaDoor
open Go.Ac
attribute [local irreducible] awp awpL Ev Ev2 EvS thenQ blockQ retQ PCalls OCalls YieldOk IterC
set_option linter.unusedSimpArgs false
set_option linter.unusedVariables false
variable {g : List (Nat × List AV)}
end Go.Proofs.YtekkpfbjnjjcbaaDoor
end
section
set_option linter.unusedVariables false
set_option linter.unusedSimpArgs false
set_option linter.unusedSectionVars false
namespace Go.Proofs.YtekkpfbjnjjcbaaDoor
open Go.Ac
attribute [local irreducible] awp awpL Ev Ev2 EvS thenQ blockQ retQ PCalls OCalls YieldOk IterC
set_option linter.unusedSimpArgs false
set_option linter.unusedVariables false
variable {g : List (Nat × List AV)}
theorem Fit.take {l : List Op} (h : Fit l) (k : Nat) : Fit (l.take k) := ⟨by have := h.1; rw [List.length_take]; omega, fun o ho => h.2 o (List.mem_of_mem_take ho)⟩
theorem Fit.drop {l : List Op} (h : Fit l) (k : Nat) : Fit (l.drop k) := ⟨by have := h.1; rw [List.length_drop]; omega, fun o ho => h.2 o (List.mem_of_mem_drop ho)⟩
theorem Fit.of_mem {l m : List Op} (h : Fit l) (hl : m.length ≤ l.length) (hm : ∀ o, o ∈ m → o ∈ l) : Fit m := ⟨by have := h.1; omega, fun o ho => h.2 o (hm o ho)⟩
theorem Fit.sorted {l : List Op} (h : Fit l) : Fit (sorted l) := h.of_mem (by rw [sorted_len]; exact Nat.le_refl _) fun o ho => (sorted_mem l o).1 ho
end Go.Proofs.YtekkpfbjnjjcbaaDoor
end
section
set_option linter.unusedVariables false
set_option linter.unusedSimpArgs false
set_option linter.unusedSectionVars false
namespace Go.Proofs.YtekkpfbjnjjcbaaDoor
open Go.Ac
attribute [local irreducible] awp awpL Ev Ev2 EvS thenQ blockQ retQ PCalls OCalls YieldOk IterC
set_option linter.unusedSimpArgs false
set_option linter.unusedVariables false
variable {g : List (Nat × List AV)}
theorem wanted_spec (b : Bool) : PCalls Tryd.prog g 45 [vb b] (vi (wanted b)) := by
  refine pcalls' Tryd.func45 Tryd.ntmps45 rfl rfl rfl ?_
  cases b with
  | false =>
    have n1 : (!false) = true := rfl
    refine runn [] ?_
    exact retP rfl rfl
  | true =>
    have n1 : (!true) = false := rfl
    refine runn [] ?_
    exact retP rfl rfl
abbrev spanC (s : Span) : List AV := [.v (.int .i64 s.fro), .v (.int .i64 s.til)]
theorem spanR_spec (s : Span) : PCalls Tryd.prog g 61 [.agg (spanC s)] (vb (spanRight s)) := by
  refine pcalls' Tryd.func61 Tryd.ntmps61 rfl rfl rfl ?_
  repeat' (first
   | refine stn [] ?_
   | ((with_reducible refine is_gd ?_); refine awpL_split rfl rfl (fun h => ?_) (fun h => ?_))
   | fail)
  all_goals refine retP rfl ?_
  all_goals simp_all [ex, spanRight]
  all_goals omega
set_option maxHeartbeats 400000 in
theorem first_spec (l : List Int) (hl : l.length ≤ 1000000) : PCalls Tryd.prog g 46 [encIs l] (vi (firstE l)) := by
  refine pcalls' Tryd.func46 Tryd.ntmps46 rfl rfl rfl ?_
  repeat' (first
   | refine stn [] ?_
   | ((with_reducible refine is_awp ?_); refine awp_cond rfl (fun h => ?_) (fun h => ?_))
   | fail)
  refine awp_for (α := Nat) 0 (fun k => [(5, encIs l), (6, vi l.length), (7, vi k)]) (fun _ => []) (fun k => k ≤ l.length ∧ l.find? (fun x => decide (x ≠ 0)) = (l.drop k).find? (fun x => decide (x ≠ 0))) (fun k => l.length - k) 0
    ⟨(.cons rfl rfl (.cons rfl rfl (.cons rfl rfl .nil))), rfl, rfl, rfl⟩ ⟨Nat.zero_le _, rfl⟩ ?_
  rintro k ⟨hk, hf⟩
  cases ht : l[k]? with
  | none =>
    have hge : l.length ≤ k := by simpa using ht
    have c1 : decide ((k : Int) < l.length) = false := by simp; omega
    rw [List.drop_of_length_le hge] at hf
    refine runn [] ?_
    refine retP rfl ?_
    rw [firstE, hf]; rfl
  | some t =>
    have hlt : k < l.length := (List.getElem?_eq_some_iff.1 ht).1
    have c1 : decide ((k : Int) < l.length) = true := by simp; omega
    have h1 := int_get ht
    have hd : l.drop k = t :: l.drop (k + 1) := by
      obtain ⟨_, rfl⟩ := List.getElem?_eq_some_iff.1 ht
      exact List.drop_eq_getElem_cons hlt
    rw [hd] at hf
    repeat' (first
     | refine stn [] ?_
     | ((with_reducible refine is_awp ?_); refine awp_cond rfl (fun h => ?_) (fun h => ?_))
     | fail)
    · refine retP rfl ?_
      rw [firstE, hf]
      have : t ≠ 0 := by simpa using h
      simp [this, ex]
    · refine ⟨k + 1, ⟨(.cons rfl rfl (.cons rfl rfl (.cons rfl rfl .nil))), rfl, rfl, rfl⟩, ⟨by omega, ?_⟩, by omega⟩
      rw [hf]
      have : t = 0 := by simpa using h
      simp [this]
theorem wr_spec (o : Op) (f : Int) : PCalls Tryd.prog g 53 [.agg (opC o), vi f] (vb (wrt o f)) := by
  refine pcalls' Tryd.func53 Tryd.ntmps53 rfl rfl rfl ?_
  repeat' (first
   | refine stn [] ?_
   | ((with_reducible refine is_gd ?_); refine awpL_split rfl rfl (fun h => ?_) (fun h => ?_))
   | ((with_reducible refine is_awp ?_); refine awp_cond rfl (fun h => ?_) (fun h => ?_))
   | fail)
  all_goals refine retP rfl ?_
  all_goals simp_all [ex, wrt, within]
  all_goals omega
theorem Writes_spec (o : Op) (n f : Int) : PCalls Tryd.prog g 35 [.agg (opC o), vi n, vi f] (vb (writes o n f)) := by
  have h1 := wr_spec (g := g) o f
  refine pcalls' Tryd.func35 Tryd.ntmps35 rfl rfl rfl ?_
  repeat' (first
   | refine stn [] ?_
   | ((with_reducible refine is_gd ?_); refine awpL_split rfl rfl (fun h => ?_) (fun h => ?_))
   | fail)
  all_goals refine retP rfl ?_
  all_goals clear h1
  all_goals simp_all [ex, writes]
end Go.Proofs.YtekkpfbjnjjcbaaDoor
end
section
set_option linter.unusedVariables false
set_option linter.unusedSimpArgs false
set_option linter.unusedSectionVars false
namespace Go.Proofs.YtekkpfbjnjjcbaaDoor
open Go.Ac
attribute [local irreducible] awp awpL Ev Ev2 EvS thenQ blockQ retQ PCalls OCalls YieldOk IterC
set_option linter.unusedSimpArgs false
set_option linter.unusedVariables false
variable {g : List (Nat × List AV)}
theorem overK_nil (a : Stamp) (p : Option Stamp) : overK a p [] = 0 := by cases p <;> rfl
theorem overK_bad {a s : Stamp} {p : Option Stamp} {r : List Stamp} (h : right s = false ∨ less s a = false) : overK a p (s :: r) = 27 := by cases p <;> rw [overK, if_pos h]
theorem overK_first {a s : Stamp} {r : List Stamp} (h1 : right s = true) (h2 : less s a = true) : overK a none (s :: r) = overK a (some s) r := by rw [overK, if_neg (by simp [h1, h2])]
theorem overK_ord {a s q : Stamp} {r : List Stamp} (h1 : right s = true) (h2 : less s a = true) (h3 : less q s = false) : overK a (some q) (s :: r) = 10 := by rw [overK, if_neg (by simp [h1, h2])]; simp [h3]
theorem overK_next {a s q : Stamp} {r : List Stamp} (h1 : right s = true) (h2 : less s a = true) (h3 : less q s = true) : overK a (some q) (s :: r) = overK a (some s) r := by rw [overK, if_neg (by simp [h1, h2])]; simp [h3]
abbrev prevS (l : List Stamp) (k : Nat) : Option Stamp := if k = 0 then none else l[k - 1]?
theorem prevS_succ {l : List Stamp} {k : Nat} {t : Stamp} (h : l[k]? = some t) : prevS l (k + 1) = some t := by simp [prevS, h]
theorem prevS_pos {l : List Stamp} {k : Nat} (h : k ≠ 0) : prevS l k = l[k - 1]? := by simp [prevS, h]
theorem prevS_zero {l : List Stamp} {k : Nat} (h : k = 0) : prevS l k = none := by simp [prevS, h]
set_option maxHeartbeats 1000000 in
theorem over_spec (o : Op) : PCalls Tryd.prog g 50 [.agg (opC o)] (vi (overE o)) := by
  refine pcalls' Tryd.func50 Tryd.ntmps50 rfl rfl rfl ?_
  by_cases h0 : o.over.length = 0
  · have c0 : decide ((o.over.length : Int) = 0) = true := by simpa using h0
    refine runn [] ?_
    refine retP rfl ?_
    rw [overE, if_pos h0]; rfl
  have c0 : decide ((o.over.length : Int) = 0) = false := by simpa using h0
  by_cases h16 : 16 < o.over.length
  · have c1 : decide ((16 : Int) < o.over.length) = true := by simp; omega
    refine runn [] ?_
    refine retP rfl ?_
    rw [overE, if_neg h0, if_pos h16]; rfl
  have c1 : decide ((16 : Int) < o.over.length) = false := by simp; omega
  have hE : overE o = overK o.at_ none o.over := by rw [overE, if_neg h0, if_neg h16]
  rw [hE]
  repeat' (first
   | refine stn [] ?_
   | ((with_reducible refine is_awp ?_); refine awp_cond rfl (fun h => ?_) (fun h => ?_))
   | fail)
  refine awp_for (α := Nat) 0 (fun k => [(14, encStamps o.over), (15, vi o.over.length), (16, vi k), (1, .fp (opC o))]) (fun _ => []) (fun k => k ≤ o.over.length ∧ overK o.at_ none o.over = overK o.at_ (prevS o.over k) (o.over.drop k)) (fun k => o.over.length - k) 0
    ⟨(.cons rfl rfl (.cons rfl rfl (.cons rfl rfl (.cons rfl rfl .nil)))), rfl, rfl, rfl⟩ ⟨Nat.zero_le _, rfl⟩ ?_
  rintro k ⟨hk, hf⟩
  cases ht : o.over[k]? with
  | none =>
    have hge : o.over.length ≤ k := by simpa using ht
    have c1 : decide ((k : Int) < o.over.length) = false := by simp; omega
    rw [List.drop_of_length_le hge, overK_nil] at hf
    refine runn [] ?_
    refine retP rfl ?_
    rw [hf]; rfl
  | some t =>
    have hlt : k < o.over.length := (List.getElem?_eq_some_iff.1 ht).1
    have c2 : decide ((k : Int) < o.over.length) = true := by simp; omega
    have h1 := stamp_get ht
    have hd : o.over.drop k = t :: o.over.drop (k + 1) := by
      obtain ⟨_, rfl⟩ := List.getElem?_eq_some_iff.1 ht
      exact List.drop_eq_getElem_cons hlt
    rw [hd] at hf
    have hR := Right_spec (g := g) t
    have hL := Less_spec (g := g) t o.at_
    have n1 : (!true) = false := rfl
    have n2 : (!false) = true := rfl
    cases hr : right t with
    | false =>
      rw [hr] at hR
      rw [overK_bad (.inl hr)] at hf
      refine runn [] ?_
      refine retP rfl ?_
      rw [hf]; rfl
    | true =>
      rw [hr] at hR
      cases hl : less t o.at_ with
      | false =>
        rw [hl] at hL
        rw [overK_bad (.inr hl)] at hf
        refine runn [] ?_
        refine retP rfl ?_
        rw [hf]; rfl
      | true =>
        rw [hl] at hL
        by_cases hk0 : k = 0
        · have c3 : decide ((0 : Int) < (k : Int)) = false := by simp; omega
          rw [prevS_zero hk0, overK_first hr hl] at hf
          refine run [] ?_
          exact ⟨k + 1, ⟨(.cons rfl rfl (.cons rfl rfl (.cons rfl rfl (.cons rfl rfl .nil)))), rfl, rfl, rfl⟩, ⟨by omega, by rw [prevS_succ ht]; exact hf⟩, by omega⟩
        · have c3 : decide ((0 : Int) < (k : Int)) = true := by simp; omega
          obtain ⟨q, hq⟩ : ∃ q, o.over[k - 1]? = some q := ⟨_, List.getElem?_eq_getElem (by omega)⟩
          rw [prevS_pos hk0, hq] at hf
          have h2 : 0 ≤ (k : Int) - 1 ∧ (o.over.map stampC)[((k : Int) - 1).toNat]? = some (stampC q) := ⟨by omega, by rw [show ((k : Int) - 1).toNat = k - 1 by omega]; simp [hq]⟩
          have hP := Less_spec (g := g) q t
          cases hp : less q t with
          | false =>
            rw [hp] at hP
            rw [overK_ord hr hl hp] at hf
            refine run [] ?_
            refine retP rfl ?_
            rw [hf]; rfl
          | true =>
            rw [hp] at hP
            rw [overK_next hr hl hp] at hf
            refine run [] ?_
            exact ⟨k + 1, ⟨(.cons rfl rfl (.cons rfl rfl (.cons rfl rfl (.cons rfl rfl .nil)))), rfl, rfl, rfl⟩, ⟨by omega, by rw [prevS_succ ht]; exact hf⟩, by omega⟩
end Go.Proofs.YtekkpfbjnjjcbaaDoor
end
section
set_option linter.unusedVariables false
set_option linter.unusedSimpArgs false
set_option linter.unusedSectionVars false
namespace Go.Proofs.YtekkpfbjnjjcbaaDoor
open Go.Ac
attribute [local irreducible] awp awpL Ev Ev2 EvS thenQ blockQ retQ PCalls OCalls YieldOk IterC
set_option linter.unusedSimpArgs false
set_option linter.unusedVariables false
variable {g : List (Nat × List AV)}
def rOverE (o : Op) : Int := if o.kind = 0 then wanted (decide (o.over.length = 0)) else overE o
end Go.Proofs.YtekkpfbjnjjcbaaDoor
end
section
set_option linter.unusedVariables false
set_option linter.unusedSimpArgs false
set_option linter.unusedSectionVars false
namespace Go.Proofs.YtekkpfbjnjjcbaaDoor
open Go.Ac
attribute [local irreducible] awp awpL Ev Ev2 EvS thenQ blockQ retQ PCalls OCalls YieldOk IterC
set_option linter.unusedSimpArgs false
set_option linter.unusedVariables false
variable {g : List (Nat × List AV)}
def rSetE (o : Op) : Int := if o.kind = 1 then setE o else plainE o
set_option maxHeartbeats 1000000 in
theorem set_spec (hT : ∀ s, PCalls Tryd.prog g 62 [vs s] (vi (textE s))) (o : Op) : PCalls Tryd.prog g 48 [.agg (opC o)] (vi (setE o)) := by
  have h1 := hT o.text
  refine pcalls' Tryd.func48 Tryd.ntmps48 rfl rfl rfl ?_
  repeat' (first
   | refine stn [] ?_
   | ((with_reducible refine is_gd ?_); refine awpL_split rfl rfl (fun h => ?_) (fun h => ?_))
   | ((with_reducible refine is_awp ?_); refine awp_cond rfl (fun h => ?_) (fun h => ?_))
   | fail)
  all_goals refine retP rfl ?_
  all_goals clear h1 hT
  all_goals simp_all [ex, setE, within, emptyB]
  all_goals first | omega | (intros; omega) | (rw [if_pos (by omega)])
def spanEq : List Value → List Value → Option Bool
  | [.int .i64 a, .int .i64 b], [.int .i64 a', .int .i64 b'] => some (a == a' && b == b')
  | _, _ => none
theorem spanEq_T : EqT Tryd.prog 36 spanEq := by
  intro xs ys b w h
  unfold spanEq at h
  split at h
  · rename_i a b a' b'
    have h := Option.some.inj h
    subst h
    have u3 := Tryd.underlying3
    have a3 := Tryd.isAgg3
    have z3 := Tryd.sizeOf3
    have hS : Tryd.prog.underlying 36 = some (.struct (Tryd.prog.fieldsOf 36)) := by kernel_rfl
    rw [show (10000 : Nat) = 9999 + 1 from rfl, run_equalIn_agg w 9999 _ _ _ hS (by kernel_rfl)]
    simp only [Program.fieldsOf, Tryd.underlying36]
    go_simp
    by_cases h1 : a = a' <;> by_cases h2 : b = b' <;> simp [h1, h2]
  · cases h
theorem note_ext_bare (n : Note) : n = bareNote n.id ↔ n.tier = 0 ∧ n.parent = 0 ∧ n.span.fro = 0 ∧ n.span.til = 0 ∧ n.rank = 0 ∧ n.text = .empty := by
  rcases n with ⟨a, b, c, ⟨d, e⟩, f, s⟩
  simp [bareNote, and_assoc]
theorem span_zero (s : Span) : s = ⟨0, 0⟩ ↔ s.fro = 0 ∧ s.til = 0 := by
  rcases s with ⟨a, b⟩; simp
theorem textEmpty (s : ByteArray) : (s.toList == ByteArray.empty.toList) = decide (s = .empty) := beq_bytes s .empty
theorem bare_eq (n : Note) : (n.id == n.id && (n.tier == 0 && (n.parent == 0 && ((n.span.fro == 0 && n.span.til == 0) && (n.rank == 0 && n.text.toList == ByteArray.empty.toList))))) = decide (n = bareNote n.id) := by
  rw [textEmpty, Bool.eq_iff_iff]
  simp only [Bool.and_eq_true, beq_iff_eq, decide_eq_true_eq, note_ext_bare]
  constructor
  · rintro ⟨_, a, b, ⟨c, d⟩, e, f⟩; exact ⟨a, b, c, d, e, f⟩
  · rintro ⟨a, b, c, d, e, f⟩; exact ⟨trivial, a, b, ⟨c, d⟩, e, f⟩
abbrev bareC (id : Int) : List AV := [.v (.int .i64 id), .v (.int .i64 0), .v (.int .i64 0), .v (.int .i64 0), .v (.int .i64 0), .v (.int .i64 0), .v (.string .empty)]
set_option maxHeartbeats 2000000 in
theorem named_spec (o : Op) (hid : -9223372036854775808 ≤ o.note.id ∧ o.note.id ≤ 9223372036854775807) : PCalls Tryd.prog g 49 [.agg (opC o)] (vi (namedE o)) := by
  have h1 := Of_spec (g := g) o.note.id hid
  have h2 := Less_spec (g := g) (stampOf o.note.id) o.at_
  have hb := bare_eq o.note
  refine pcalls' Tryd.func49 Tryd.ntmps49 rfl rfl rfl ?_
  have n1 : (!true) = false := rfl
  have n2 : (!false) = true := rfl
  cases hr : right (stampOf o.note.id) with
  | false =>
    rw [ofR, hr] at h1
    refine runn [] ?_
    refine retP rfl ?_
    simp [ex, namedE, hr]
  | true =>
    rw [ofR, hr, if_pos rfl] at h1
    cases hl : less (stampOf o.note.id) o.at_ with
    | false =>
      rw [hl] at h2
      refine runn [] ?_
      refine retP rfl ?_
      simp [ex, namedE, hl]
    | true =>
      rw [hl] at h2
      cases hq : decide (o.note = bareNote o.note.id) with
      | false =>
        rw [hq] at hb
        repeat' (first
         | ((with_reducible refine is_un ?_); refine awpL_ev (ev_neA (b := false) noteEq_T (by kernel_rfl) rfl rfl rfl rfl (by rw [← hb]; rfl)) rfl ?_)
         | refine stn [] ?_
         | fail)
        refine retP rfl ?_
        have : o.note ≠ bareNote o.note.id := of_decide_eq_false hq
        simp [ex, namedE, this]
      | true =>
        rw [hq] at hb
        repeat' (first
         | ((with_reducible refine is_un ?_); refine awpL_ev (ev_neA (b := true) noteEq_T (by kernel_rfl) rfl rfl rfl rfl (by rw [← hb]; rfl)) rfl ?_)
         | refine stn [] ?_
         | fail)
        refine retP rfl ?_
        have : o.note = bareNote o.note.id := of_decide_eq_true hq
        rw [namedE, if_neg (by rw [hr, hl]; rintro (h | h | h) <;> first | cases h | exact h this)]
        rfl
end Go.Proofs.YtekkpfbjnjjcbaaDoor
end
section
set_option linter.unusedVariables false
set_option linter.unusedSimpArgs false
set_option linter.unusedSectionVars false
namespace Go.Proofs.YtekkpfbjnjjcbaaDoor
open Go.Ac
attribute [local irreducible] awp awpL Ev Ev2 EvS thenQ blockQ retQ PCalls OCalls YieldOk IterC
set_option linter.unusedSimpArgs false
set_option linter.unusedVariables false
variable {g : List (Nat × List AV)}
theorem spanz_eq (s : Span) : (s.fro == 0 && s.til == 0) = decide (s = ⟨0, 0⟩) := by
  rw [Bool.eq_iff_iff]; simp [span_zero]
set_option maxHeartbeats 2000000 in
theorem added_spec (hT : ∀ s, PCalls Tryd.prog g 62 [vs s] (vi (textE s))) (o : Op) : PCalls Tryd.prog g 47 [.agg (opC o)] (vi (addedE o)) := by
  have h1 := hT o.note.text
  have h2 := Id_spec (g := g) o.at_
  have h3 := spanR_spec (g := g) o.note.span
  have hs := spanz_eq o.note.span
  refine pcalls' Tryd.func47 Tryd.ntmps47 rfl rfl rfl ?_
  by_cases hi : o.note.id = idOf o.at_
  · have c0 : (!decide (o.note.id = idOf o.at_)) = false := by simp [hi]
    have n1 : (!true) = false := rfl
    have n2 : (!false) = true := rfl
    cases hz : decide (o.note.span = ⟨0, 0⟩) with
    | true =>
      rw [hz] at hs
      repeat' (first
       | ((with_reducible refine is_un ?_); refine awpL_ev (ev_neA (b := true) spanEq_T (by kernel_rfl) rfl rfl rfl rfl (by rw [← hs]; rfl)) rfl ?_)
       | refine st [] ?_
       | ((with_reducible refine is_gd ?_); refine awpL_split rfl rfl (fun h => ?_) (fun h => ?_))
       | ((with_reducible refine is_awp ?_); refine awp_cond rfl (fun h => ?_) (fun h => ?_))
       | fail)
      all_goals refine retP rfl ?_
      all_goals clear h1 hT h2 h3 hs
      all_goals simp_all [ex, addedE, noteOk, within]
      all_goals first | omega | (intros; omega) | (rw [if_neg (by omega)])
    | false =>
      rw [hz] at hs
      repeat' (first
       | ((with_reducible refine is_un ?_); refine awpL_ev (ev_neA (b := false) spanEq_T (by kernel_rfl) rfl rfl rfl rfl (by rw [← hs]; rfl)) rfl ?_)
       | refine st [] ?_
       | ((with_reducible refine is_gd ?_); refine awpL_split rfl rfl (fun h => ?_) (fun h => ?_))
       | ((with_reducible refine is_awp ?_); refine awp_cond rfl (fun h => ?_) (fun h => ?_))
       | fail)
      all_goals refine retP rfl ?_
      all_goals clear h1 hT h2 h3 hs
      all_goals simp_all [ex, addedE, noteOk, within]
      all_goals first | omega | (intros; omega) | (rw [if_neg (by omega)])
  · have c0 : (!decide (o.note.id = idOf o.at_)) = true := by simp [hi]
    refine run [] ?_
    refine retP rfl ?_
    simp [ex, addedE, hi]
end Go.Proofs.YtekkpfbjnjjcbaaDoor
end
section
set_option linter.unusedVariables false
set_option linter.unusedSimpArgs false
set_option linter.unusedSectionVars false
namespace Go.Proofs.YtekkpfbjnjjcbaaDoor
open Go.Ac
attribute [local irreducible] awp awpL Ev Ev2 EvS thenQ blockQ retQ PCalls OCalls YieldOk IterC
set_option linter.unusedSimpArgs false
set_option linter.unusedVariables false
variable {g : List (Nat × List AV)}
def rNoteE (o : Op) : Int := if o.kind = 0 then addedE o else namedE o
def I64 (n : Int) : Prop := -9223372036854775808 ≤ n ∧ n ≤ 9223372036854775807
theorem firstE3 (a b c : Int) : firstE [a, b, c] = if a ≠ 0 then a else if b ≠ 0 then b else c := by
  unfold firstE
  by_cases h1 : a = 0 <;> by_cases h2 : b = 0 <;> by_cases h3 : c = 0 <;> simp [h1, h2, h3]
end Go.Proofs.YtekkpfbjnjjcbaaDoor
end
