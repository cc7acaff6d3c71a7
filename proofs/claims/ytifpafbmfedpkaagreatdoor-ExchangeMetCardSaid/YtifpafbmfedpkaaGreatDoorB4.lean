/- A logic of trees over the model's steps, and the contracts of the functions that the laws reach: part 4 of 11. -/
import Derived.Test.YtifpafbmfedpkaaGreatDoorB3
section
set_option linter.unusedVariables false
set_option linter.unusedSimpArgs false
set_option linter.unusedSectionVars false
namespace Go.Proofs.YtifpafbmfedpkaaGreatDoor
open Go.Ac
attribute [local irreducible] awp awpL Ev Ev2 EvS thenQ blockQ retQ PCalls OCalls
set_option linter.unusedSimpArgs false
set_option linter.unusedVariables false
variable {g : List (Nat × List AV)}
theorem stamp_ext {x y : Stamp} (h : x.count = y.count ∧ x.dev = y.dev) : x = y := by cases x; cases y; simp_all
def noteEq : List Value → List Value → Option Bool
  | [.int .i64 a, .int .i64 b, .int .i64 c, .int .i64 d, .int .i64 e, .int .i64 f, .string s], [.int .i64 a', .int .i64 b', .int .i64 c', .int .i64 d', .int .i64 e', .int .i64 f', .string s'] =>
    some (a == a' && (b == b' && (c == c' && ((d == d' && e == e') && (f == f' && s.toList == s'.toList)))))
  | _, _ => none
theorem noteEq_T : EqT Tryz.prog 47 noteEq := by
  intro xs ys b w h
  unfold noteEq at h
  split at h
  · rename_i a b c d e f s a' b' c' d' e' f' s'
    have h := Option.some.inj h
    subst h
    have u3 := Tryz.underlying3
    have a3 := Tryz.isAgg3
    have z3 := Tryz.sizeOf3
    have u9 := Tryz.underlying9
    have a9 := Tryz.isAgg9
    have z9 := Tryz.sizeOf9
    have a7 := Tryz.isAgg45
    have z7 := Tryz.sizeOf45
    have hS : Tryz.prog.underlying 47 = some (.struct (Tryz.prog.fieldsOf 47)) := by kernel_rfl
    have hsp : ∀ w, (Op.equalIn 9999 45 (.agg #[.int .i64 d, .int .i64 e]) (.agg #[.int .i64 d', .int .i64 e'])).run Tryz.prog w = .ok (d == d' && e == e') w := by
      intro w
      rw [show (9999 : Nat) = 9998 + 1 from rfl, run_equalIn_agg w 9998 _ _ _ (show Tryz.prog.underlying 45 = some (.struct (Tryz.prog.fieldsOf 45)) by kernel_rfl) (by kernel_rfl)]
      simp only [Program.fieldsOf, Tryz.underlying45]
      go_simp
      by_cases h1 : d = d' <;> by_cases h2 : e = e' <;> simp [h1, h2]
    rw [show (10000 : Nat) = 9999 + 1 from rfl, run_equalIn_agg w 9999 _ _ _ hS (by kernel_rfl)]
    simp only [Program.fieldsOf, Tryz.underlying47]
    go_simp
    by_cases h1 : a = a' <;> by_cases h2 : b = b' <;> by_cases h3 : c = c' <;> by_cases h4 : d = d' <;> by_cases h5 : e = e' <;> by_cases h6 : f = f' <;> by_cases h7 : s.toList = s'.toList <;> simp [h1, h2, h3, h4, h5, h6, h7]
  · cases h
set_option maxHeartbeats 400000 in
theorem eqInts_spec (a b : List Int) (ha : a.length ≤ 1000000) (hb : b.length ≤ 1000000) : PCalls Tryz.prog g 25 [encIs a, encIs b] (vb (decide (a = b))) := by
  refine pcalls' Tryz.func25 Tryz.ntmps25 rfl rfl rfl ?_
  by_cases hl : a.length = b.length
  · have c0 : (!decide ((a.length : Int) = b.length)) = false := by simp; omega
    repeat' (first
     | refine stn [] ?_
     | ((with_reducible refine is_awp ?_); refine awp_cond rfl (fun h => ?_) (fun h => ?_))
     | fail)
    refine awp_for (α := Nat) 0 (fun k => [(0, encIs a), (1, encIs b), (12, vi a.length), (13, vi k)]) (fun _ => []) (fun k => k ≤ a.length ∧ a.take k = b.take k) (fun k => a.length - k) 0
      ⟨(.cons rfl rfl (.cons rfl rfl (.cons rfl rfl (.cons rfl rfl .nil)))), rfl, rfl, rfl⟩ ⟨Nat.zero_le _, rfl⟩ ?_
    rintro k ⟨hk, hf⟩
    cases ht : a[k]? with
    | none =>
      have hge : a.length ≤ k := by simpa using ht
      have c1 : decide ((k : Int) < a.length) = false := by simp; omega
      have he : a = b := by
        rw [List.take_of_length_le hge, List.take_of_length_le (by omega)] at hf; exact hf
      refine runn [] ?_
      refine retP rfl ?_
      simp [ex, he]
    | some x =>
      have hlt : k < a.length := (List.getElem?_eq_some_iff.1 ht).1
      obtain ⟨y, hy⟩ : ∃ y, b[k]? = some y := ⟨_, List.getElem?_eq_getElem (by omega)⟩
      have c1 : decide ((k : Int) < a.length) = true := by simp; omega
      have h1 := int_get ht
      have h2 := int_get hy
      repeat' (first
       | refine st [] ?_
       | ((with_reducible refine is_awp ?_); refine awp_cond rfl (fun h => ?_) (fun h => ?_))
       | fail)
      · refine retP rfl ?_
        have hne : x ≠ y := by simpa using h
        have : a ≠ b := fun e => hne (by rw [e, hy] at ht; exact (Option.some.inj ht).symm)
        simp [ex, this]
      · have he : x = y := by simpa using h
        exact ⟨k + 1, ⟨(.cons rfl rfl (.cons rfl rfl (.cons rfl rfl (.cons rfl rfl .nil)))), rfl, rfl, rfl⟩, ⟨by omega, by rw [List.take_add_one, List.take_add_one, hf, ht, hy, he]⟩, by omega⟩
  · have c0 : (!decide ((a.length : Int) = b.length)) = true := by simp; omega
    refine runn [] ?_
    refine retP rfl ?_
    have : a ≠ b := fun e => hl (by rw [e])
    simp [ex, this]
set_option maxHeartbeats 400000 in
theorem rSameInts_spec (a b : List Int) (ha : a.length ≤ 1000000) (hb : b.length ≤ 1000000) : PCalls Tryz.prog g 20 [encIs a, encIs b] (vb (decide (a = b))) := by
  refine pcalls' Tryz.func20 Tryz.ntmps20 rfl rfl rfl ?_
  by_cases hl : a.length = b.length
  · have c0 : (!decide ((a.length : Int) = b.length)) = false := by simp; omega
    repeat' (first
     | refine stn [] ?_
     | ((with_reducible refine is_awp ?_); refine awp_cond rfl (fun h => ?_) (fun h => ?_))
     | fail)
    refine awp_for (α := Nat) 0 (fun k => [(0, encIs a), (1, encIs b), (12, vi a.length), (13, vi k)]) (fun _ => []) (fun k => k ≤ a.length ∧ a.take k = b.take k) (fun k => a.length - k) 0
      ⟨(.cons rfl rfl (.cons rfl rfl (.cons rfl rfl (.cons rfl rfl .nil)))), rfl, rfl, rfl⟩ ⟨Nat.zero_le _, rfl⟩ ?_
    rintro k ⟨hk, hf⟩
    cases ht : a[k]? with
    | none =>
      have hge : a.length ≤ k := by simpa using ht
      have c1 : decide ((k : Int) < a.length) = false := by simp; omega
      have he : a = b := by
        rw [List.take_of_length_le hge, List.take_of_length_le (by omega)] at hf; exact hf
      refine runn [] ?_
      refine retP rfl ?_
      simp [ex, he]
    | some x =>
      have hlt : k < a.length := (List.getElem?_eq_some_iff.1 ht).1
      obtain ⟨y, hy⟩ : ∃ y, b[k]? = some y := ⟨_, List.getElem?_eq_getElem (by omega)⟩
      have c1 : decide ((k : Int) < a.length) = true := by simp; omega
      have h1 := int_get ht
      have h2 := int_get hy
      repeat' (first
       | refine st [] ?_
       | ((with_reducible refine is_awp ?_); refine awp_cond rfl (fun h => ?_) (fun h => ?_))
       | fail)
      · refine retP rfl ?_
        have hne : x ≠ y := by simpa using h
        have : a ≠ b := fun e => hne (by rw [e, hy] at ht; exact (Option.some.inj ht).symm)
        simp [ex, this]
      · have he : x = y := by simpa using h
        exact ⟨k + 1, ⟨(.cons rfl rfl (.cons rfl rfl (.cons rfl rfl (.cons rfl rfl .nil)))), rfl, rfl, rfl⟩, ⟨by omega, by rw [List.take_add_one, List.take_add_one, hf, ht, hy, he]⟩, by omega⟩
  · have c0 : (!decide ((a.length : Int) = b.length)) = true := by simp; omega
    refine runn [] ?_
    refine retP rfl ?_
    have : a ≠ b := fun e => hl (by rw [e])
    simp [ex, this]
set_option maxHeartbeats 400000 in
theorem eqStamps_spec (a b : List Stamp) (ha : a.length ≤ 1000000) (hb : b.length ≤ 1000000) : PCalls Tryz.prog g 39 [encStamps a, encStamps b] (vb (decide (a = b))) := by
  refine pcalls' Tryz.func39 Tryz.ntmps39 rfl rfl rfl ?_
  by_cases hl : a.length = b.length
  · have c0 : (!decide ((a.length : Int) = b.length)) = false := by simp; omega
    repeat' (first
     | refine stn [] ?_
     | ((with_reducible refine is_awp ?_); refine awp_cond rfl (fun h => ?_) (fun h => ?_))
     | fail)
    refine awp_for (α := Nat) 0 (fun k => [(0, encStamps a), (1, encStamps b), (12, vi a.length), (13, vi k)]) (fun _ => []) (fun k => k ≤ a.length ∧ a.take k = b.take k) (fun k => a.length - k) 0
      ⟨(.cons rfl rfl (.cons rfl rfl (.cons rfl rfl (.cons rfl rfl .nil)))), rfl, rfl, rfl⟩ ⟨Nat.zero_le _, rfl⟩ ?_
    rintro k ⟨hk, hf⟩
    cases ht : a[k]? with
    | none =>
      have hge : a.length ≤ k := by simpa using ht
      have c1 : decide ((k : Int) < a.length) = false := by simp; omega
      have he : a = b := by
        rw [List.take_of_length_le hge, List.take_of_length_le (by omega)] at hf; exact hf
      refine runn [] ?_
      refine retP rfl ?_
      simp [ex, he]
    | some x =>
      have hlt : k < a.length := (List.getElem?_eq_some_iff.1 ht).1
      obtain ⟨y, hy⟩ : ∃ y, b[k]? = some y := ⟨_, List.getElem?_eq_getElem (by omega)⟩
      have c1 : decide ((k : Int) < a.length) = true := by simp; omega
      have h1 := stamp_get ht
      have h2 := stamp_get hy
      repeat' (first
       | ((with_reducible refine isD_un ?_); refine awpD_un (as_ev (fun _ => ev_eq_agg (neg := true) stampEq_T (by kernel_rfl) rfl rfl rfl rfl rfl) rfl rfl) (by (try simp only [List.nil_append, List.cons_append]); (try rfl)) ?_)
       | refine st [] ?_
       | ((with_reducible refine is_awp ?_); refine awp_cond rfl (fun h => ?_) (fun h => ?_))
       | fail)
      · refine retP rfl ?_
        have hne : x ≠ y := by intro e; subst e; simp at h
        have : a ≠ b := fun e => hne (by rw [e, hy] at ht; exact (Option.some.inj ht).symm)
        simp [ex, this]
      · have he : x = y := by exact stamp_ext (by simpa using h)
        exact ⟨k + 1, ⟨(.cons rfl rfl (.cons rfl rfl (.cons rfl rfl (.cons rfl rfl .nil)))), rfl, rfl, rfl⟩, ⟨by omega, by rw [List.take_add_one, List.take_add_one, hf, ht, hy, he]⟩, by omega⟩
  · have c0 : (!decide ((a.length : Int) = b.length)) = true := by simp; omega
    refine runn [] ?_
    refine retP rfl ?_
    have : a ≠ b := fun e => hl (by rw [e])
    simp [ex, this]
theorem op_eq (a b : Op) : decide (a = b) = ((a.at_.count == b.at_.count && a.at_.dev == b.at_.dev) && (decide (a.kind = b.kind) && (decide (a.rec_ = b.rec_) && ((a.note.id == b.note.id && (a.note.tier == b.note.tier && (a.note.parent == b.note.parent && ((a.note.span.fro == b.note.span.fro && a.note.span.til == b.note.span.til) && (a.note.rank == b.note.rank && a.note.text.toList == b.note.text.toList))))) && (decide (a.set = b.set) && (decide (a.n = b.n) && (decide (a.text = b.text) && decide (a.over = b.over)))))))) := by
  have hb : ∀ s t : ByteArray, (s.toList == t.toList) = decide (s = t) := beq_bytes
  rcases a with ⟨⟨a1, a2⟩, a3, a4, ⟨a5, a6, a7, ⟨a8, a9⟩, a10, a11⟩, a12, a13, a14, a15⟩
  rcases b with ⟨⟨b1, b2⟩, b3, b4, ⟨b5, b6, b7, ⟨b8, b9⟩, b10, b11⟩, b12, b13, b14, b15⟩
  simp only [hb, Op.mk.injEq, Stamp.mk.injEq, Note.mk.injEq, Span.mk.injEq, Bool.decide_and]
  simp only [beq_eq_decide']
where
  beq_eq_decide' : ∀ (a b : Int), (a == b) = decide (a = b) := fun a b => by by_cases h : a = b <;> simp [h]
end Go.Proofs.YtifpafbmfedpkaaGreatDoor
end
section
set_option linter.unusedVariables false
set_option linter.unusedSimpArgs false
set_option linter.unusedSectionVars false
namespace Go.Proofs.YtifpafbmfedpkaaGreatDoor
open Go.Ac
attribute [local irreducible] awp awpL Ev Ev2 EvS thenQ blockQ retQ PCalls OCalls
set_option linter.unusedSimpArgs false
set_option linter.unusedVariables false
variable {g : List (Nat × List AV)}
set_option maxRecDepth 4000 in
set_option maxHeartbeats 1000000 in
theorem Same_spec (a b : Op) (ha : a.over.length ≤ 1000000) (hb : b.over.length ≤ 1000000) : PCalls Tryz.prog g 26 [.agg (opC a), .agg (opC b)] (vb (decide (a = b))) := by
  have h1 := eqStamps_spec (g := g) a.over b.over ha hb
  have hop := op_eq a b
  refine pcalls' Tryz.func26 Tryz.ntmps26 rfl rfl rfl ?_
  repeat' (first
   | ((with_reducible refine is_un ?_); (first | refine awpL_ev (ev_eq_agg (neg := false) stampEq_T (by kernel_rfl) rfl rfl rfl rfl rfl) rfl ?_ | refine awpL_ev (ev_eq_agg (neg := false) noteEq_T (by kernel_rfl) rfl rfl rfl rfl rfl) rfl ?_))
   | refine stn [] ?_
   | ((with_reducible refine is_gd ?_); refine awpL_split rfl rfl (fun h => ?_) (fun h => ?_))
   | fail)
  all_goals refine retP rfl ?_
  all_goals rw [hop]
  all_goals clear h1 hop
  all_goals simp_all [ex]
end Go.Proofs.YtifpafbmfedpkaaGreatDoor
end
section
set_option linter.unusedVariables false
set_option linter.unusedSimpArgs false
set_option linter.unusedSectionVars false
namespace Go.Proofs.YtifpafbmfedpkaaGreatDoor
open Go.Ac
attribute [local irreducible] awp awpL Ev Ev2 EvS thenQ blockQ retQ PCalls OCalls
set_option linter.unusedSimpArgs false
set_option linter.unusedVariables false
variable {g : List (Nat × List AV)}
set_option maxRecDepth 4000 in
set_option maxHeartbeats 1000000 in
theorem rSame_spec (a b : Op) (ha : a.over.length ≤ 1000000) (hb : b.over.length ≤ 1000000) : PCalls Tryz.prog g 21 [.agg (opC a), .agg (opC b)] (vb (decide (a = b))) := by
  have hop := op_eq a b
  refine pcalls' Tryz.func21 Tryz.ntmps21 rfl rfl rfl ?_
  by_cases hl : a.over.length = b.over.length
  · have c0 : (!decide ((a.over.length : Int) = b.over.length)) = false := by simp; omega
    repeat' (first
     | refine stn [] ?_
     | ((with_reducible refine is_awp ?_); refine awp_cond rfl (fun h => ?_) (fun h => ?_))
     | fail)
    refine awp_for (α := Nat) 0 (fun k => [(2, .fp (opC a)), (3, .fp (opC b)), (15, vi a.over.length), (16, vi k)]) (fun _ => []) (fun k => k ≤ a.over.length ∧ a.over.take k = b.over.take k) (fun k => a.over.length - k) 0
      ⟨(.cons rfl rfl (.cons rfl rfl (.cons rfl rfl (.cons rfl rfl .nil)))), rfl, rfl, rfl⟩ ⟨Nat.zero_le _, rfl⟩ ?_
    rintro k ⟨hk, hf⟩
    cases ht : a.over[k]? with
    | none =>
      have hge : a.over.length ≤ k := by simpa using ht
      have c1 : decide ((k : Int) < a.over.length) = false := by simp; omega
      have he : a.over = b.over := by
        rw [List.take_of_length_le hge, List.take_of_length_le (by omega)] at hf; exact hf
      have he2 : decide (a.over = b.over) = true := by simp [he]
      rw [he2] at hop
      repeat' (first
       | ((with_reducible refine is_un ?_); (first | refine awpL_ev (ev_eq_agg (neg := false) stampEq_T (by kernel_rfl) rfl rfl rfl rfl rfl) rfl ?_ | refine awpL_ev (ev_eq_agg (neg := false) noteEq_T (by kernel_rfl) rfl rfl rfl rfl rfl) rfl ?_))
       | refine stn [] ?_
       | ((with_reducible refine is_gd ?_); refine awpL_split rfl rfl (fun h => ?_) (fun h => ?_))
       | fail)
      all_goals refine retP rfl ?_
      all_goals rw [hop]
      all_goals clear hop he he2 hf
      all_goals simp_all [ex]
    | some x =>
      have hlt : k < a.over.length := (List.getElem?_eq_some_iff.1 ht).1
      obtain ⟨y, hy⟩ : ∃ y, b.over[k]? = some y := ⟨_, List.getElem?_eq_getElem (by omega)⟩
      have c1 : decide ((k : Int) < a.over.length) = true := by simp; omega
      have h1 := stamp_get ht
      have h2 := stamp_get hy
      repeat' (first
       | ((with_reducible refine isD_un ?_); refine awpD_un (as_ev (fun _ => ev_eq_agg (neg := true) stampEq_T (by kernel_rfl) rfl rfl rfl rfl rfl) rfl rfl) (by (try simp only [List.nil_append, List.cons_append]); (try rfl)) ?_)
       | refine st [] ?_
       | ((with_reducible refine is_awp ?_); refine awp_cond rfl (fun h => ?_) (fun h => ?_))
       | fail)
      · refine retP rfl ?_
        have hne : x ≠ y := by intro e; subst e; simp at h
        have : a ≠ b := fun e => hne (by rw [e, hy] at ht; exact (Option.some.inj ht).symm)
        simp [ex, this]
      · have he : x = y := by exact stamp_ext (by simpa using h)
        exact ⟨k + 1, ⟨(.cons rfl rfl (.cons rfl rfl (.cons rfl rfl (.cons rfl rfl .nil)))), rfl, rfl, rfl⟩, ⟨by omega, by rw [List.take_add_one, List.take_add_one, hf, ht, hy, he]⟩, by omega⟩
  · have c0 : (!decide ((a.over.length : Int) = b.over.length)) = true := by simp; omega
    refine runn [] ?_
    refine retP rfl ?_
    have : a ≠ b := fun e => hl (by rw [e])
    simp [ex, this]
end Go.Proofs.YtifpafbmfedpkaaGreatDoor
end
section
set_option linter.unusedVariables false
set_option linter.unusedSimpArgs false
set_option linter.unusedSectionVars false
namespace Go.Proofs.YtifpafbmfedpkaaGreatDoor
open Go.Ac
attribute [local irreducible] awp awpL Ev Ev2 EvS thenQ blockQ retQ PCalls OCalls
set_option linter.unusedSimpArgs false
set_option linter.unusedVariables false
variable {g : List (Nat × List AV)}
def Fit (l : List Op) : Prop := l.length ≤ 100000 ∧ ∀ o ∈ l, o.over.length ≤ 100000
theorem Fit.get {l : List Op} (h : Fit l) {k : Nat} {o : Op} (hk : l[k]? = some o) : o.over.length ≤ 1000000 := by
  have := h.2 o (List.mem_of_getElem? hk); omega
theorem any_drop {α : Type} (f : α → Bool) (l : List α) (k : Nat) (x : α) (h : l[k]? = some x) : (l.drop k).any f = (f x || (l.drop (k + 1)).any f) := by
  obtain ⟨hlt, rfl⟩ := List.getElem?_eq_some_iff.1 h
  rw [List.drop_eq_getElem_cons hlt]; rfl
end Go.Proofs.YtifpafbmfedpkaaGreatDoor
end
section
set_option linter.unusedVariables false
set_option linter.unusedSimpArgs false
set_option linter.unusedSectionVars false
namespace Go.Proofs.YtifpafbmfedpkaaGreatDoor
open Go.Ac
attribute [local irreducible] awp awpL Ev Ev2 EvS thenQ blockQ retQ PCalls OCalls
set_option linter.unusedSimpArgs false
set_option linter.unusedVariables false
variable {g : List (Nat × List AV)}
theorem take_map {α : Type} (f : α → List AV) (l : List α) (k : Nat) (x : α) (h : l[k]? = some x) : (l.take k).map f ++ [f x] = (l.take (k + 1)).map f := by
  rw [List.take_add_one, h, List.map_append]; rfl
set_option maxHeartbeats 1000000 in
theorem CopyOps_spec (l : List Op) (hl : Fit l) : OCalls Tryz.prog g 19 [encOps l] 50 15 (l.map opC) := by
  refine ocalls' Tryz.func19 Tryz.ntmps19 rfl rfl rfl ?_
  have hl1 := hl.1
  repeat' (first
   | ((with_reducible refine is_un ?_); refine awpL_ev2 (ev_bslice_o (t := 23) (n := 0) (es := []) rfl rfl rfl rfl rfl rfl rfl rfl rfl rfl rfl (by (try simp only [List.length_nil, List.length_cons, Nat.reduceAdd]); (try rfl)) (by (try simp only [List.set_cons_zero, List.set_cons_succ, List.nil_append, List.cons_append, List.append_nil, cellsOf, List.take_zero, List.drop_zero, List.take_succ_cons, List.drop_succ_cons, Nat.zero_add, Nat.reduceAdd, List.drop_nil, List.map_cons, List.map_nil]); (try rfl))) rfl ?_)
   | refine stn [5] ?_
   | ((with_reducible refine is_awp ?_); refine awp_cond rfl (fun h => ?_) (fun h => ?_))
   | fail)
  refine awp_for (α := Nat) 1 (fun k => [(0, encOps l), (3, .os 0 0), (4, vi k)]) (fun k => [.own 0 50 15 ((l.take k).map opC)]) (fun k => k ≤ l.length) (fun k => l.length - k) 0
    ⟨(.cons rfl rfl (.cons rfl rfl (.cons rfl rfl .nil))), rfl, rfl, rfl⟩ (Nat.zero_le _) ?_
  rintro k hk
  cases ht : l[k]? with
  | none =>
    have hge : l.length ≤ k := by simpa using ht
    have c1 : decide ((k : Int) < l.length) = false := by simp; omega
    refine runn [5] ?_
    exact retO rfl (by rw [List.take_of_length_le hge]; rfl)
  | some x =>
    have hlt : k < l.length := (List.getElem?_eq_some_iff.1 ht).1
    have c1 : decide ((k : Int) < l.length) = true := by simp; omega
    have h1 := op_get ht
    have hj := take_map opC l k x ht
    have ho := hl.get ht
    repeat' (first
     | ((with_reducible refine is_un ?_); (first | refine awpL_ev2 (ev_append_zf (n := x.over.length) rfl rfl rfl rfl rfl rfl rfl rfl rfl rfl rfl rfl rfl (by simp only [List.length_map, List.length_cons, List.length_nil, List.length_append, List.length_take]; omega) (by simp only [List.length_map])) rfl ?_ | refine awpL_ev2 (ev_app (es' := (l.take (k + 1)).map opC) (L' := [.own 1 50 15 ((l.take (k + 1)).map opC), .box (opC x)]) rfl rfl rfl rfl rfl rfl rfl rfl rfl rfl rfl rfl rfl (by simp only [List.length_map, List.length_cons, List.length_nil, List.length_append, List.length_take]; omega) hj rfl) rfl ?_ | refine awpL_evS (ev_st_lp (L' := [.own 0 50 15 ((l.take k).map opC), .box (opC x)]) rfl rfl rfl rfl rfl rfl rfl rfl) ?_))
     | refine stn [5] ?_
     | fail)
    exact ⟨k + 1, ⟨(.cons rfl rfl (.cons rfl rfl (.cons rfl rfl .nil))), rfl, rfl, rfl⟩, by omega, by omega⟩
end Go.Proofs.YtifpafbmfedpkaaGreatDoor
end
section
set_option linter.unusedVariables false
set_option linter.unusedSimpArgs false
set_option linter.unusedSectionVars false
namespace Go.Proofs.YtifpafbmfedpkaaGreatDoor
open Go.Ac
attribute [local irreducible] awp awpL Ev Ev2 EvS thenQ blockQ retQ PCalls OCalls
set_option linter.unusedSimpArgs false
set_option linter.unusedVariables false
variable {g : List (Nat × List AV)}
theorem CopyOps_P (l : List Op) (hl : Fit l) : PCalls Tryz.prog g 19 [encOps l] (encOps l) := by
  have := (CopyOps_spec (g := g) l hl).toP
  rw [List.length_map] at this
  exact this
def FitR (r : Replica) : Prop := Fit r.ops ∧ r.seen.length ≤ 100000
set_option maxHeartbeats 1000000 in
theorem Copy_spec (r : Replica) (hr : FitR r) : PCalls Tryz.prog g 7 [.agg (repC r)] (.agg (repC r)) := by
  have h1 := CopyOps_P (g := g) r.ops hr.1
  have hs := hr.2
  refine pcalls' Tryz.func7 Tryz.ntmps7 rfl rfl rfl ?_
  repeat' (first
   | refine awpD_sS rfl rfl (ev_st_lp (L' := [.box (repC r)]) rfl rfl rfl rfl rfl rfl rfl rfl) rfl rfl ?_
   | ((with_reducible refine isD_un ?_); refine awpD_un (as_ev2 (fun _ => ev_append_zf (n := r.seen.length) rfl rfl rfl rfl rfl rfl rfl rfl rfl rfl rfl rfl rfl (by simp only [List.length_map, List.length_cons, List.length_nil, List.length_append, List.length_take]; omega) (by simp only [List.length_map])) rfl rfl) (by (try simp only [List.nil_append, List.cons_append]); (try rfl)) ?_)
   | refine st [2] ?_
   | fail)
  refine retP rfl ?_
  rfl
set_option maxHeartbeats 1000000 in
theorem rSameR_spec (a b : Replica) (ha : FitR a) (hb : FitR b) : PCalls Tryz.prog g 8 [.agg (repC a), .agg (repC b)] (vb (decide (a = b))) := by
  have h1 := rSameInts_spec (g := g) a.seen b.seen (by have := ha.2; omega) (by have := hb.2; omega)
  have ha1 := ha.1.1
  have hb1 := hb.1.1
  have hext : ∀ {a b : Replica}, a.dev = b.dev → a.seen = b.seen → a.ops = b.ops → a = b := fun {a b} h1 h2 h3 => by cases a; cases b; simp_all
  refine pcalls' Tryz.func8 Tryz.ntmps8 rfl rfl rfl ?_
  by_cases hd : a.dev = b.dev
  · have d0 : (!decide (a.dev = b.dev)) = false := by simp [hd]
    by_cases hs : a.seen = b.seen
    · have n1 : (!true) = false := rfl
      rw [decide_eq_true hs] at h1
      by_cases hl : a.ops.length = b.ops.length
      · have c0 : (!decide ((a.ops.length : Int) = b.ops.length)) = false := by simp; omega
        repeat' (first
         | refine stn [] ?_
         | ((with_reducible refine is_awp ?_); refine awp_cond rfl (fun h => ?_) (fun h => ?_))
         | fail)
        refine awp_for (α := Nat) 0 (fun k => [(2, .fp (repC a)), (3, .fp (repC b)), (5, vi k)]) (fun _ => []) (fun k => k ≤ a.ops.length ∧ a.ops.take k = b.ops.take k) (fun k => a.ops.length - k) 0
          ⟨(.cons rfl rfl (.cons rfl rfl (.cons rfl rfl .nil))), rfl, rfl, rfl⟩ ⟨Nat.zero_le _, rfl⟩ ?_
        rintro k ⟨hk, hf⟩
        cases ht : a.ops[k]? with
        | none =>
          have hge : a.ops.length ≤ k := by simpa using ht
          have c1 : decide ((k : Int) < a.ops.length) = false := by simp; omega
          have he : a.ops = b.ops := by
            rw [List.take_of_length_le hge, List.take_of_length_le (by omega)] at hf; exact hf
          refine runn [] ?_
          refine retP rfl ?_
          simp [ex, hext hd hs he]
        | some x =>
          have hlt : k < a.ops.length := (List.getElem?_eq_some_iff.1 ht).1
          obtain ⟨y, hy⟩ : ∃ y, b.ops[k]? = some y := ⟨_, List.getElem?_eq_getElem (by omega)⟩
          have c1 : decide ((k : Int) < a.ops.length) = true := by simp; omega
          have h2 := op_get ht
          have h3 := op_get hy
          have h4 := rSame_spec (g := g) x y (ha.1.get ht) (hb.1.get hy)
          repeat' (first
           | refine st [] ?_
           | ((with_reducible refine is_awp ?_); refine awp_cond rfl (fun h => ?_) (fun h => ?_))
           | fail)
          · refine retP rfl ?_
            have hne : x ≠ y := by simpa using h
            have : a ≠ b := fun e => hne (by rw [e, hy] at ht; exact (Option.some.inj ht).symm)
            simp [ex, this]
          · have he : x = y := by simpa using h
            exact ⟨k + 1, ⟨(.cons rfl rfl (.cons rfl rfl (.cons rfl rfl .nil))), rfl, rfl, rfl⟩, ⟨by omega, by rw [List.take_add_one, List.take_add_one, hf, ht, hy, he]⟩, by omega⟩
      · have c0 : (!decide ((a.ops.length : Int) = b.ops.length)) = true := by simp; omega
        refine runn [] ?_
        refine retP rfl ?_
        have : a ≠ b := fun e => hl (by rw [e])
        simp [ex, this]
    · have n1 : (!false) = true := rfl
      rw [decide_eq_false hs] at h1
      refine runn [] ?_
      refine retP rfl ?_
      have : a ≠ b := fun e => hs (by rw [e])
      simp [ex, this]
  · have d0 : (!decide (a.dev = b.dev)) = true := by simp [hd]
    refine runn [] ?_
    refine retP rfl ?_
    have : a ≠ b := fun e => hd (by rw [e])
    simp [ex, this]
end Go.Proofs.YtifpafbmfedpkaaGreatDoor
end
section
set_option linter.unusedVariables false
set_option linter.unusedSimpArgs false
set_option linter.unusedSectionVars false
namespace Go.Proofs.YtifpafbmfedpkaaGreatDoor
open Go.Ac
attribute [local irreducible] awp awpL Ev Ev2 EvS thenQ blockQ retQ PCalls OCalls
set_option linter.unusedSimpArgs false
set_option linter.unusedVariables false
variable {g : List (Nat × List AV)}
def start (dev : Int) : Replica := ⟨dev, List.replicate 15 0, []⟩
def addOp (c d : Int) (t : ByteArray) : Op := ⟨⟨c, d⟩, 0, 1, ⟨16 * c + d, 0, 0, ⟨0, 0⟩, 0, t⟩, 0, 0, .empty, []⟩
def opOk (o : Op) : Bool := decide (o.over.length ≤ 20) && decide (o.text.size ≤ 300) && decide (o.note.text.size ≤ 300)
def opsOk (l : List Op) : Bool := decide (l.length ≤ 16) && l.all opOk
theorem start_spec (dev : Int) : PCalls Tryz.prog g 16 [vi dev] (.agg (repC (start dev))) := by
  refine pcalls' Tryz.func16 Tryz.ntmps16 rfl rfl rfl ?_
  have hm : (0 : Int) ≤ 15 ∧ (8 : Nat) * (15 : Int) ≤ 281474976710656 ∧ (15 : Int) ≤ 9223372036854775807 := by omega
  repeat' (first
   | ((with_reducible refine is_un ?_); refine awpL_ev2 (ev_make (n := 15) (es := (List.replicate 15 0).map intC) rfl rfl rfl rfl rfl rfl rfl rfl hm rfl rfl rfl) rfl ?_)
   | refine stn [2] ?_
   | fail)
  refine retLe rfl ?_
  exact Le.agg (.cons (Le.rfl' _) (.cons (Le.rfl' _) (.cons (Le.nil 15) .nil)))
theorem add_spec (c d : Int) (t : ByteArray) (hc : 0 ≤ c ∧ c ≤ 1000) (hd : 0 ≤ d ∧ d ≤ 1000) : PCalls Tryz.prog g 17 [vi c, vi d, vs t] (.agg (opC (addOp c d t))) := by
  refine pcalls' Tryz.func17 Tryz.ntmps17 rfl rfl rfl ?_
  have hb : -9223372036854775808 ≤ 16 * c ∧ 16 * c ≤ 9223372036854775807 := by omega
  repeat' (first
   | ((with_reducible refine is_un ?_); refine awpL_ev (ev_mul rfl rfl hb) rfl ?_)
   | refine stn [6] ?_
   | fail)
  refine retLe rfl ?_
  exact Le.agg (.cons (Le.rfl' _) (.cons (Le.rfl' _) (.cons (Le.rfl' _) (.cons (Le.rfl' _) (.cons (Le.rfl' _) (.cons (Le.rfl' _) (.cons (Le.rfl' _) (.cons (Le.rfl' _) (.cons (Le.rfl' _) (.cons (Le.rfl' _) (.cons (Le.rfl' _) (.cons (Le.rfl' _) (.cons (Le.rfl' _) (.cons (Le.rfl' _) (.cons (Le.nil 2) .nil)))))))))))))))
theorem all_drop {α : Type} (f : α → Bool) (l : List α) (k : Nat) (x : α) (h : l[k]? = some x) : (l.drop k).all f = (f x && (l.drop (k + 1)).all f) := by
  obtain ⟨hlt, rfl⟩ := List.getElem?_eq_some_iff.1 h
  rw [List.drop_eq_getElem_cons hlt]; rfl
end Go.Proofs.YtifpafbmfedpkaaGreatDoor
end
section
set_option linter.unusedVariables false
set_option linter.unusedSimpArgs false
set_option linter.unusedSectionVars false
namespace Go.Proofs.YtifpafbmfedpkaaGreatDoor
open Go.Ac
attribute [local irreducible] awp awpL Ev Ev2 EvS thenQ blockQ retQ PCalls OCalls
set_option linter.unusedSimpArgs false
set_option linter.unusedVariables false
variable {g : List (Nat × List AV)}
def missStep (seen : List Int) (most : Int) (out : List Op) (o : Op) : List Op := if (out.length : Int) < most ∧ covers seen o.at_ = false then out ++ [o] else out
def missing (l : List Op) (seen : List Int) (most : Int) : List Op := l.foldl (missStep seen most) []
theorem miss_len (seen : List Int) (most : Int) : ∀ (l out : List Op), (l.foldl (missStep seen most) out).length ≤ out.length + l.length
  | [], out => by simp
  | o :: r, out => by
    have := miss_len seen most r (missStep seen most out o)
    simp only [List.foldl_cons, List.length_cons]
    have h2 : (missStep seen most out o).length ≤ out.length + 1 := by unfold missStep; split <;> simp
    omega
theorem miss_full (seen : List Int) (most : Int) : ∀ (l out : List Op), most ≤ out.length → l.foldl (missStep seen most) out = out
  | [], out, _ => rfl
  | o :: r, out, h => by
    have : missStep seen most out o = out := by unfold missStep; rw [if_neg (by omega)]
    rw [List.foldl_cons, this, miss_full seen most r out h]
abbrev missK (l : List Op) (seen : List Int) (most : Int) (k : Nat) : List Op := (l.take k).foldl (missStep seen most) []
theorem missK_succ {l : List Op} (seen : List Int) (most : Int) {k : Nat} {x : Op} (h : l[k]? = some x) : missK l seen most (k + 1) = missStep seen most (missK l seen most k) x := by
  unfold missK
  rw [List.take_add_one, h, List.foldl_append]; rfl
theorem missK_end {l : List Op} (seen : List Int) (most : Int) {k : Nat} (h : l.length ≤ k) : missK l seen most k = missing l seen most := by
  unfold missK missing; rw [List.take_of_length_le h]
theorem missK_stop {l : List Op} (seen : List Int) (most : Int) {k : Nat} (h : most ≤ (missK l seen most k).length) : missing l seen most = missK l seen most k := by
  unfold missing
  conv => lhs; rw [← List.take_append_drop k l]
  rw [List.foldl_append]
  exact miss_full seen most _ _ h
theorem missK_len (l : List Op) (seen : List Int) (most : Int) (k : Nat) : (missK l seen most k).length ≤ l.length := by
  have h1 := miss_len seen most (l.take k) []
  have h2 : (l.take k).length ≤ l.length := by rw [List.length_take]; omega
  simp only [List.length_nil] at h1
  exact Nat.le_trans h1 (by omega)
set_option maxHeartbeats 1000000 in
theorem Missing_spec (r : Replica) (seen : List Int) (most : Int) (hr : FitR r) (hs : seen.length ≤ 1000000) : OCalls Tryz.prog g 18 [.agg (repC r), encIs seen, vi most] 50 15 ((missing r.ops seen most).map opC) := by
  refine ocalls' Tryz.func18 Tryz.ntmps18 rfl rfl rfl ?_
  have hl1 := hr.1.1
  repeat' (first
   | refine stn [] ?_
   | ((with_reducible refine is_awp ?_); refine awp_cond rfl (fun h => ?_) (fun h => ?_))
   | fail)
  refine awp_adopt (t := 7) (E := 50) (sz := 15) rfl rfl rfl ?_
  refine awp_for (α := Nat) 1 (fun k => [(7, .os 0 0), (11, encOps r.ops), (12, vi r.ops.length), (13, vi k), (1, encIs seen), (2, vi most)]) (fun k => [.own 0 50 15 ((missK r.ops seen most k).map opC)]) (fun k => k ≤ r.ops.length) (fun k => r.ops.length - k) 0
    ⟨(.cons rfl rfl (.cons rfl rfl (.cons rfl rfl (.cons rfl rfl (.cons rfl rfl (.cons rfl rfl .nil)))))), rfl, rfl, rfl⟩ (Nat.zero_le _) ?_
  rintro k hk
  have hlen := missK_len r.ops seen most k
  cases ht : r.ops[k]? with
  | none =>
    have hge : r.ops.length ≤ k := by simpa using ht
    have c1 : decide ((k : Int) < r.ops.length) = false := by simp; omega
    refine runn [] ?_
    exact retO rfl (by rw [← missK_end seen most hge]; rfl)
  | some x =>
    have hlt : k < r.ops.length := (List.getElem?_eq_some_iff.1 ht).1
    have c1 : decide ((k : Int) < r.ops.length) = true := by simp; omega
    have h1 := op_get ht
    have h2 := Covers_spec (g := g) seen x.at_ hs
    have hS := missK_succ seen most ht
    by_cases hm : most ≤ ((missK r.ops seen most k).map opC).length
    · have c2 : decide (most ≤ ((missK r.ops seen most k).map opC).length) = true := by simpa using hm
      refine runn [] ?_
      exact retO rfl (by rw [missK_stop seen most (by simpa using hm)]; rfl)
    · have c2 : decide (most ≤ ((missK r.ops seen most k).map opC).length) = false := by simpa using hm
      have hm' : ((missK r.ops seen most k).length : Int) < most := by simpa using hm
      cases hc : covers seen x.at_ with
      | true =>
        rw [hc] at h2
        have n1 : (!true) = false := rfl
        have hS' : missK r.ops seen most (k + 1) = missK r.ops seen most k := by rw [hS, missStep, if_neg (by rw [hc]; simp)]
        refine runn [] ?_
        exact ⟨k + 1, ⟨(.cons rfl rfl (.cons rfl rfl (.cons rfl rfl (.cons rfl rfl (.cons rfl rfl (.cons rfl rfl .nil)))))), by rw [hS']; rfl, rfl, rfl⟩, by omega, by omega⟩
      | false =>
        rw [hc] at h2
        have n1 : (!false) = true := rfl
        have hS' : missK r.ops seen most (k + 1) = missK r.ops seen most k ++ [x] := by rw [hS, missStep, if_pos ⟨hm', hc⟩]
        have hj : (missK r.ops seen most k).map opC ++ [opC x] = (missK r.ops seen most (k + 1)).map opC := by rw [hS', List.map_append]; rfl
        repeat' (first
         | ((with_reducible refine is_un ?_); refine awpL_ev2 (ev_app (es' := (missK r.ops seen most (k + 1)).map opC) (L' := [.own 1 50 15 ((missK r.ops seen most (k + 1)).map opC), .dead]) rfl rfl rfl rfl rfl rfl rfl rfl rfl rfl rfl rfl rfl (by simp only [List.length_map, List.length_cons, List.length_nil, List.length_append, List.length_take]; omega) hj rfl) rfl ?_)
         | refine stn [] ?_
         | fail)
        exact ⟨k + 1, ⟨(.cons rfl rfl (.cons rfl rfl (.cons rfl rfl (.cons rfl rfl (.cons rfl rfl (.cons rfl rfl .nil)))))), rfl, rfl, rfl⟩, by omega, by omega⟩
end Go.Proofs.YtifpafbmfedpkaaGreatDoor
end
section
set_option linter.unusedVariables false
set_option linter.unusedSimpArgs false
set_option linter.unusedSectionVars false
namespace Go.Proofs.YtifpafbmfedpkaaGreatDoor
open Go.Ac
attribute [local irreducible] awp awpL Ev Ev2 EvS thenQ blockQ retQ PCalls OCalls
set_option linter.unusedSimpArgs false
set_option linter.unusedVariables false
variable {g : List (Nat × List AV)}
end Go.Proofs.YtifpafbmfedpkaaGreatDoor
end
section
set_option linter.unusedVariables false
set_option linter.unusedSimpArgs false
set_option linter.unusedSectionVars false
namespace Go.Proofs.YtifpafbmfedpkaaGreatDoor
open Go.Ac
attribute [local irreducible] awp awpL Ev Ev2 EvS thenQ blockQ retQ PCalls OCalls
set_option linter.unusedSimpArgs false
set_option linter.unusedVariables false
variable {g : List (Nat × List AV)}
def behind (a b : List Op) : Nat := b.countP fun o => !has a o
abbrev behK (a b : List Op) (k : Nat) : Nat := (b.take k).countP fun o => !has a o
end Go.Proofs.YtifpafbmfedpkaaGreatDoor
end
section
set_option linter.unusedVariables false
set_option linter.unusedSimpArgs false
set_option linter.unusedSectionVars false
namespace Go.Proofs.YtifpafbmfedpkaaGreatDoor
open Go.Ac
theorem int_chk (b : Bool) (n : Nat) (a : Int) (w : World) : (Instr.checkKey b (n + 1) 3 (.int .i64 a)).run Tryz.prog w = .ok () w := by
  unfold Instr.checkKey
  simp [run_underlying Tryz.underlying3, Result.andThen]
theorem stamp_chk (b : Bool) (a c : Int) (w : World) : (Instr.checkKey b 10000 43 (.agg #[.int .i64 a, .int .i64 c])).run Tryz.prog w = .ok () w := by
  have h1 := int_chk b 9998 a w
  have h2 := int_chk b 9998 c w
  have a3 := Tryz.isAgg3
  have z3 := Tryz.sizeOf3
  rw [show (10000 : Nat) = 9999 + 1 from rfl]
  unfold Instr.checkKey
  simp only [Sem.run_bind, run_underlying Tryz.underlying43, Result.andThen_ok]
  have p0 : (part 3 #[Value.int IntKind.i64 a, Value.int IntKind.i64 c] 0).run Tryz.prog w = .ok (.int .i64 a) w := by simp [part, a3, Result.andThen]
  have p1 : (part 3 #[Value.int IntKind.i64 a, Value.int IntKind.i64 c] 1).run Tryz.prog w = .ok (.int .i64 c) w := by simp [part, a3, Result.andThen]
  simp [p0, p1, h1, h2, Result.andThen]
def isStampV (v : Value) : Prop := ∃ a b, v = .agg #[.int .i64 a, .int .i64 b]
def stampV (s : Stamp) : Value := .agg #[.int .i64 s.count, .int .i64 s.dev]
theorem stampKey : KeyOk Tryz.prog 43 isStampV := by
  refine KeyOk.asks Tryz.underlying43 (fun a b _ _ => by rfl) (fun x y w hx hy => ?_) (fun b k w hk => ?_) (fun k hk => ?_)
  · obtain ⟨a, b, rfl⟩ := hx
    obtain ⟨c, d, rfl⟩ := hy
    refine ⟨_, stampEq_T [.int .i64 a, .int .i64 b] [.int .i64 c, .int .i64 d] _ w rfl, ?_⟩
    simp
  · obtain ⟨a, c, rfl⟩ := hk
    exact stamp_chk b a c w
  · obtain ⟨a, c, rfl⟩ := hk
    simp [Instr.sameBits]
theorem stampV_inj (a b : Stamp) (h : stampV a = stampV b) : a = b := by
  simp [stampV] at h
  exact stamp_ext h
theorem stampV_R (s : Stamp) : ∀ c y, R c (.agg (stampC s)) y → y = stampV s := by
  intro c y h
  simp only [R, RF, stampC, LF] at h
  obtain ⟨xs, rfl, y1, s1, e1, rfl, _, y2, s2, e2, rfl, _, e3⟩ := h
  subst e3 e2
  unfold stampV
  congr 1
  apply Array.ext'
  simpa using e1
theorem stampV_ok (s : Stamp) : isStampV (stampV s) := ⟨_, _, rfl⟩
end Go.Proofs.YtifpafbmfedpkaaGreatDoor
end
