/- A logic of trees over the model's steps, and the contracts of the functions that the laws reach: part 4 of 15. -/
import Derived.Test.YtnacjdaoiepbhaaGreatDoorC3
set_option linter.unusedVariables false
set_option linter.unusedSimpArgs false
set_option linter.unusedSectionVars false
section
namespace Go.Proofs.YtnacjdaoiepbhaaGreatDoor
open Go.Ac
attribute [local irreducible] awp awpL Ev Ev2 EvS thenQ blockQ retQ PCalls OCalls
variable {g : List (Nat × List AV)}
theorem stamp_ext {x y : Stamp} (h : x.count = y.count ∧ x.dev = y.dev) : x = y := by cases x; cases y; simp_all
def noteEq : List Value → List Value → Option Bool
  | [.int .i64 a, .int .i64 b, .int .i64 c, .int .i64 d, .int .i64 e, .int .i64 f, .string s], [.int .i64 a', .int .i64 b', .int .i64 c', .int .i64 d', .int .i64 e', .int .i64 f', .string s'] =>
    some (a == a' && (b == b' && (c == c' && ((d == d' && e == e') && (f == f' && s.toList == s'.toList)))))
  | _, _ => none
theorem noteEq_T : EqT Tryz.prog 65 noteEq := by
  intro xs ys b w h
  unfold noteEq at h
  split at h
  · rename_i a b c d e f s a' b' c' d' e' f' s'
    have h := Option.some.inj h
    subst h
    have u3 := Tryz.underlying3
    have a3 := Tryz.isAgg3
    have z3 := Tryz.sizeOf3
    have u9 := Tryz.underlying9
    have a9 := Tryz.isAgg9
    have z9 := Tryz.sizeOf9
    have a7 := Tryz.isAgg63
    have z7 := Tryz.sizeOf63
    have hS : Tryz.prog.underlying 65 = some (.struct (Tryz.prog.fieldsOf 65)) := by kernel_rfl
    have hsp : ∀ w, (Op.equalIn 9999 63 (.agg #[.int .i64 d, .int .i64 e]) (.agg #[.int .i64 d', .int .i64 e'])).run Tryz.prog w = .ok (d == d' && e == e') w := by
      intro w
      rw [show (9999 : Nat) = 9998 + 1 from rfl, run_equalIn_agg w 9998 _ _ _ (show Tryz.prog.underlying 63 = some (.struct (Tryz.prog.fieldsOf 63)) by kernel_rfl) (by kernel_rfl)]
      simp only [Program.fieldsOf, Tryz.underlying63]
      go_simp
      by_cases h1 : d = d' <;> by_cases h2 : e = e' <;> simp [h1, h2]
    rw [show (10000 : Nat) = 9999 + 1 from rfl, run_equalIn_agg w 9999 _ _ _ hS (by kernel_rfl)]
    simp only [Program.fieldsOf, Tryz.underlying65]
    go_simp
    by_cases h1 : a = a' <;> by_cases h2 : b = b' <;> by_cases h3 : c = c' <;> by_cases h4 : d = d' <;> by_cases h5 : e = e' <;> by_cases h6 : f = f' <;> by_cases h7 : s.toList = s'.toList <;> simp [h1, h2, h3, h4, h5, h6, h7]
  · cases h
set_option maxHeartbeats 400000 in
theorem eqInts_spec (a b : List Int) (ha : a.length ≤ 1000000) (hb : b.length ≤ 1000000) : PCalls Tryz.prog g 97 [encIs a, encIs b] (vb (decide (a = b))) := by
  refine pcalls' Tryz.func97 Tryz.ntmps97 rfl rfl rfl ?_
  by_cases hl : a.length = b.length
  · have c0 : (!decide ((a.length : Int) = b.length)) = false := by simp; omega
    repeat' (first
     | refine stn [] ?_
     | ((with_reducible refine is_awp ?_); refine awp_cond rfl (fun h => ?_) (fun h => ?_))
     | fail)
    refine awp_for (α := Nat) 0 (fun k => [(0, encIs a), (1, encIs b), (12, vi a.length), (13, vi k)]) (fun _ => []) (fun k => k ≤ a.length ∧ a.take k = b.take k) (fun k => a.length - k) 0
      ⟨(.cons rfl rfl (.cons rfl rfl (.cons rfl rfl (.cons rfl rfl .nil)))), rfl, rfl, rfl⟩ ⟨Nat.zero_le _, rfl⟩ ?_
    rintro k ⟨hk, hf⟩
    cases ht : a[k]? with
    | none =>
      have hge : a.length ≤ k := by simpa using ht
      have c1 : decide ((k : Int) < a.length) = false := by simp; omega
      have he : a = b := by
        rw [List.take_of_length_le hge, List.take_of_length_le (by omega)] at hf; exact hf
      refine runn [] ?_
      refine retP rfl ?_
      simp [ex, he]
    | some x =>
      have hlt : k < a.length := (List.getElem?_eq_some_iff.1 ht).1
      obtain ⟨y, hy⟩ : ∃ y, b[k]? = some y := ⟨_, List.getElem?_eq_getElem (by omega)⟩
      have c1 : decide ((k : Int) < a.length) = true := by simp; omega
      have h1 := int_get ht
      have h2 := int_get hy
      repeat' (first
       | refine st [] ?_
       | ((with_reducible refine is_awp ?_); refine awp_cond rfl (fun h => ?_) (fun h => ?_))
       | fail)
      · refine retP rfl ?_
        have hne : x ≠ y := by simpa using h
        have : a ≠ b := fun e => hne (by rw [e, hy] at ht; exact (Option.some.inj ht).symm)
        simp [ex, this]
      · have he : x = y := by simpa using h
        exact ⟨k + 1, ⟨(.cons rfl rfl (.cons rfl rfl (.cons rfl rfl (.cons rfl rfl .nil)))), rfl, rfl, rfl⟩, ⟨by omega, by rw [List.take_add_one, List.take_add_one, hf, ht, hy, he]⟩, by omega⟩
  · have c0 : (!decide ((a.length : Int) = b.length)) = true := by simp; omega
    refine runn [] ?_
    refine retP rfl ?_
    have : a ≠ b := fun e => hl (by rw [e])
    simp [ex, this]
set_option maxHeartbeats 400000 in
theorem rSameInts_spec (a b : List Int) (ha : a.length ≤ 1000000) (hb : b.length ≤ 1000000) : PCalls Tryz.prog g 74 [encIs a, encIs b] (vb (decide (a = b))) := by
  refine pcalls' Tryz.func74 Tryz.ntmps74 rfl rfl rfl ?_
  by_cases hl : a.length = b.length
  · have c0 : (!decide ((a.length : Int) = b.length)) = false := by simp; omega
    repeat' (first
     | refine stn [] ?_
     | ((with_reducible refine is_awp ?_); refine awp_cond rfl (fun h => ?_) (fun h => ?_))
     | fail)
    refine awp_for (α := Nat) 0 (fun k => [(0, encIs a), (1, encIs b), (12, vi a.length), (13, vi k)]) (fun _ => []) (fun k => k ≤ a.length ∧ a.take k = b.take k) (fun k => a.length - k) 0
      ⟨(.cons rfl rfl (.cons rfl rfl (.cons rfl rfl (.cons rfl rfl .nil)))), rfl, rfl, rfl⟩ ⟨Nat.zero_le _, rfl⟩ ?_
    rintro k ⟨hk, hf⟩
    cases ht : a[k]? with
    | none =>
      have hge : a.length ≤ k := by simpa using ht
      have c1 : decide ((k : Int) < a.length) = false := by simp; omega
      have he : a = b := by
        rw [List.take_of_length_le hge, List.take_of_length_le (by omega)] at hf; exact hf
      refine runn [] ?_
      refine retP rfl ?_
      simp [ex, he]
    | some x =>
      have hlt : k < a.length := (List.getElem?_eq_some_iff.1 ht).1
      obtain ⟨y, hy⟩ : ∃ y, b[k]? = some y := ⟨_, List.getElem?_eq_getElem (by omega)⟩
      have c1 : decide ((k : Int) < a.length) = true := by simp; omega
      have h1 := int_get ht
      have h2 := int_get hy
      repeat' (first
       | refine st [] ?_
       | ((with_reducible refine is_awp ?_); refine awp_cond rfl (fun h => ?_) (fun h => ?_))
       | fail)
      · refine retP rfl ?_
        have hne : x ≠ y := by simpa using h
        have : a ≠ b := fun e => hne (by rw [e, hy] at ht; exact (Option.some.inj ht).symm)
        simp [ex, this]
      · have he : x = y := by simpa using h
        exact ⟨k + 1, ⟨(.cons rfl rfl (.cons rfl rfl (.cons rfl rfl (.cons rfl rfl .nil)))), rfl, rfl, rfl⟩, ⟨by omega, by rw [List.take_add_one, List.take_add_one, hf, ht, hy, he]⟩, by omega⟩
  · have c0 : (!decide ((a.length : Int) = b.length)) = true := by simp; omega
    refine runn [] ?_
    refine retP rfl ?_
    have : a ≠ b := fun e => hl (by rw [e])
    simp [ex, this]
set_option maxHeartbeats 400000 in
theorem eqStamps_spec (a b : List Stamp) (ha : a.length ≤ 1000000) (hb : b.length ≤ 1000000) : PCalls Tryz.prog g 94 [encStamps a, encStamps b] (vb (decide (a = b))) := by
  refine pcalls' Tryz.func94 Tryz.ntmps94 rfl rfl rfl ?_
  by_cases hl : a.length = b.length
  · have c0 : (!decide ((a.length : Int) = b.length)) = false := by simp; omega
    repeat' (first
     | refine stn [] ?_
     | ((with_reducible refine is_awp ?_); refine awp_cond rfl (fun h => ?_) (fun h => ?_))
     | fail)
    refine awp_for (α := Nat) 0 (fun k => [(0, encStamps a), (1, encStamps b), (12, vi a.length), (13, vi k)]) (fun _ => []) (fun k => k ≤ a.length ∧ a.take k = b.take k) (fun k => a.length - k) 0
      ⟨(.cons rfl rfl (.cons rfl rfl (.cons rfl rfl (.cons rfl rfl .nil)))), rfl, rfl, rfl⟩ ⟨Nat.zero_le _, rfl⟩ ?_
    rintro k ⟨hk, hf⟩
    cases ht : a[k]? with
    | none =>
      have hge : a.length ≤ k := by simpa using ht
      have c1 : decide ((k : Int) < a.length) = false := by simp; omega
      have he : a = b := by
        rw [List.take_of_length_le hge, List.take_of_length_le (by omega)] at hf; exact hf
      refine runn [] ?_
      refine retP rfl ?_
      simp [ex, he]
    | some x =>
      have hlt : k < a.length := (List.getElem?_eq_some_iff.1 ht).1
      obtain ⟨y, hy⟩ : ∃ y, b[k]? = some y := ⟨_, List.getElem?_eq_getElem (by omega)⟩
      have c1 : decide ((k : Int) < a.length) = true := by simp; omega
      have h1 := stamp_get ht
      have h2 := stamp_get hy
      repeat' (first
       | ((with_reducible refine isD_un ?_); refine awpD_un (as_ev (fun _ => ev_eq_agg (neg := true) stampEq_T (by kernel_rfl) rfl rfl rfl rfl rfl) rfl rfl) (by (try simp only [List.nil_append, List.cons_append]); (try rfl)) ?_)
       | refine st [] ?_
       | ((with_reducible refine is_awp ?_); refine awp_cond rfl (fun h => ?_) (fun h => ?_))
       | fail)
      · refine retP rfl ?_
        have hne : x ≠ y := by intro e; subst e; simp at h
        have : a ≠ b := fun e => hne (by rw [e, hy] at ht; exact (Option.some.inj ht).symm)
        simp [ex, this]
      · have he : x = y := by exact stamp_ext (by simpa using h)
        exact ⟨k + 1, ⟨(.cons rfl rfl (.cons rfl rfl (.cons rfl rfl (.cons rfl rfl .nil)))), rfl, rfl, rfl⟩, ⟨by omega, by rw [List.take_add_one, List.take_add_one, hf, ht, hy, he]⟩, by omega⟩
  · have c0 : (!decide ((a.length : Int) = b.length)) = true := by simp; omega
    refine runn [] ?_
    refine retP rfl ?_
    have : a ≠ b := fun e => hl (by rw [e])
    simp [ex, this]
theorem op_eq (a b : Op) : decide (a = b) = ((a.at_.count == b.at_.count && a.at_.dev == b.at_.dev) && (decide (a.kind = b.kind) && (decide (a.rec_ = b.rec_) && ((a.note.id == b.note.id && (a.note.tier == b.note.tier && (a.note.parent == b.note.parent && ((a.note.span.fro == b.note.span.fro && a.note.span.til == b.note.span.til) && (a.note.rank == b.note.rank && a.note.text.toList == b.note.text.toList))))) && (decide (a.set = b.set) && (decide (a.n = b.n) && (decide (a.text = b.text) && decide (a.over = b.over)))))))) := by
  have hb : ∀ s t : ByteArray, (s.toList == t.toList) = decide (s = t) := beq_bytes
  rcases a with ⟨⟨a1, a2⟩, a3, a4, ⟨a5, a6, a7, ⟨a8, a9⟩, a10, a11⟩, a12, a13, a14, a15⟩
  rcases b with ⟨⟨b1, b2⟩, b3, b4, ⟨b5, b6, b7, ⟨b8, b9⟩, b10, b11⟩, b12, b13, b14, b15⟩
  simp only [hb, Op.mk.injEq, Stamp.mk.injEq, Note.mk.injEq, Span.mk.injEq, Bool.decide_and]
  simp only [beq_eq_decide']
where
  beq_eq_decide' : ∀ (a b : Int), (a == b) = decide (a = b) := fun a b => by by_cases h : a = b <;> simp [h]
end Go.Proofs.YtnacjdaoiepbhaaGreatDoor
end
section
namespace Go.Proofs.YtnacjdaoiepbhaaGreatDoor
open Go.Ac
attribute [local irreducible] awp awpL Ev Ev2 EvS thenQ blockQ retQ PCalls OCalls
variable {g : List (Nat × List AV)}
set_option maxRecDepth 4000 in
set_option maxHeartbeats 1000000 in
theorem Same_spec (a b : Op) (ha : a.over.length ≤ 1000000) (hb : b.over.length ≤ 1000000) : PCalls Tryz.prog g 64 [.agg (opC a), .agg (opC b)] (vb (decide (a = b))) := by
  have h1 := eqStamps_spec (g := g) a.over b.over ha hb
  have hop := op_eq a b
  refine pcalls' Tryz.func64 Tryz.ntmps64 rfl rfl rfl ?_
  repeat' (first
   | ((with_reducible refine is_un ?_); (first | refine awpL_ev (ev_eq_agg (neg := false) stampEq_T (by kernel_rfl) rfl rfl rfl rfl rfl) rfl ?_ | refine awpL_ev (ev_eq_agg (neg := false) noteEq_T (by kernel_rfl) rfl rfl rfl rfl rfl) rfl ?_))
   | refine stn [] ?_
   | ((with_reducible refine is_gd ?_); refine awpL_split rfl rfl (fun h => ?_) (fun h => ?_))
   | fail)
  all_goals refine retP rfl ?_
  all_goals rw [hop]
  all_goals clear h1 hop
  all_goals simp_all [ex]
end Go.Proofs.YtnacjdaoiepbhaaGreatDoor
end
section
namespace Go.Proofs.YtnacjdaoiepbhaaGreatDoor
open Go.Ac
attribute [local irreducible] awp awpL Ev Ev2 EvS thenQ blockQ retQ PCalls OCalls
variable {g : List (Nat × List AV)}
end Go.Proofs.YtnacjdaoiepbhaaGreatDoor
end
section
namespace Go.Proofs.YtnacjdaoiepbhaaGreatDoor
open Go.Ac
attribute [local irreducible] awp awpL Ev Ev2 EvS thenQ blockQ retQ PCalls OCalls
variable {g : List (Nat × List AV)}
def Fit (l : List Op) : Prop := l.length ≤ 100000 ∧ ∀ o ∈ l, o.over.length ≤ 100000
theorem Fit.get {l : List Op} (h : Fit l) {k : Nat} {o : Op} (hk : l[k]? = some o) : o.over.length ≤ 1000000 := by
  have := h.2 o (List.mem_of_getElem? hk); omega
theorem any_drop {α : Type} (f : α → Bool) (l : List α) (k : Nat) (x : α) (h : l[k]? = some x) : (l.drop k).any f = (f x || (l.drop (k + 1)).any f) := by
  obtain ⟨hlt, rfl⟩ := List.getElem?_eq_some_iff.1 h
  rw [List.drop_eq_getElem_cons hlt]; rfl
end Go.Proofs.YtnacjdaoiepbhaaGreatDoor
end
section
namespace Go.Proofs.YtnacjdaoiepbhaaGreatDoor
open Go.Ac
attribute [local irreducible] awp awpL Ev Ev2 EvS thenQ blockQ retQ PCalls OCalls
variable {g : List (Nat × List AV)}
theorem take_map {α : Type} (f : α → List AV) (l : List α) (k : Nat) (x : α) (h : l[k]? = some x) : (l.take k).map f ++ [f x] = (l.take (k + 1)).map f := by
  rw [List.take_add_one, h, List.map_append]; rfl
set_option maxHeartbeats 1000000 in
theorem CopyOps_spec (l : List Op) (hl : Fit l) : OCalls Tryz.prog g 35 [encOps l] 74 15 (l.map opC) := by
  refine ocalls' Tryz.func35 Tryz.ntmps35 rfl rfl rfl ?_
  have hl1 := hl.1
  repeat' (first
   | ((with_reducible refine is_un ?_); refine awpL_ev2 (ev_bslice_o (t := 35) (n := 0) (es := []) rfl rfl rfl rfl rfl rfl rfl rfl rfl rfl rfl (by (try simp only [List.length_nil, List.length_cons, Nat.reduceAdd]); (try rfl)) (by (try simp only [List.set_cons_zero, List.set_cons_succ, List.nil_append, List.cons_append, List.append_nil, cellsOf, List.take_zero, List.drop_zero, List.take_succ_cons, List.drop_succ_cons, Nat.zero_add, Nat.reduceAdd, List.drop_nil, List.map_cons, List.map_nil]); (try rfl))) rfl ?_)
   | refine stn [5] ?_
   | ((with_reducible refine is_awp ?_); refine awp_cond rfl (fun h => ?_) (fun h => ?_))
   | fail)
  refine awp_for (α := Nat) 1 (fun k => [(0, encOps l), (3, .os 0 0), (4, vi k)]) (fun k => [.own 0 74 15 ((l.take k).map opC)]) (fun k => k ≤ l.length) (fun k => l.length - k) 0
    ⟨(.cons rfl rfl (.cons rfl rfl (.cons rfl rfl .nil))), rfl, rfl, rfl⟩ (Nat.zero_le _) ?_
  rintro k hk
  cases ht : l[k]? with
  | none =>
    have hge : l.length ≤ k := by simpa using ht
    have c1 : decide ((k : Int) < l.length) = false := by simp; omega
    refine runn [5] ?_
    exact retO rfl (by rw [List.take_of_length_le hge]; rfl)
  | some x =>
    have hlt : k < l.length := (List.getElem?_eq_some_iff.1 ht).1
    have c1 : decide ((k : Int) < l.length) = true := by simp; omega
    have h1 := op_get ht
    have hj := take_map opC l k x ht
    have ho := hl.get ht
    repeat' (first
     | ((with_reducible refine is_un ?_); (first | refine awpL_ev2 (ev_append_zf (n := x.over.length) rfl rfl rfl rfl rfl rfl rfl rfl rfl rfl rfl rfl rfl (by simp only [List.length_map, List.length_cons, List.length_nil, List.length_append, List.length_take]; omega) (by simp only [List.length_map])) rfl ?_ | refine awpL_ev2 (ev_app (es' := (l.take (k + 1)).map opC) (L' := [.own 1 74 15 ((l.take (k + 1)).map opC), .box (opC x)]) rfl rfl rfl rfl rfl rfl rfl rfl rfl rfl rfl rfl rfl (by simp only [List.length_map, List.length_cons, List.length_nil, List.length_append, List.length_take]; omega) hj rfl) rfl ?_ | refine awpL_evS (ev_st_lp (L' := [.own 0 74 15 ((l.take k).map opC), .box (opC x)]) rfl rfl rfl rfl rfl rfl rfl rfl) ?_))
     | refine stn [5] ?_
     | fail)
    exact ⟨k + 1, ⟨(.cons rfl rfl (.cons rfl rfl (.cons rfl rfl .nil))), rfl, rfl, rfl⟩, by omega, by omega⟩
end Go.Proofs.YtnacjdaoiepbhaaGreatDoor
end
section
namespace Go.Proofs.YtnacjdaoiepbhaaGreatDoor
open Go.Ac
attribute [local irreducible] awp awpL Ev Ev2 EvS thenQ blockQ retQ PCalls OCalls
variable {g : List (Nat × List AV)}
theorem CopyOps_P (l : List Op) (hl : Fit l) : PCalls Tryz.prog g 35 [encOps l] (encOps l) := by
  have := (CopyOps_spec (g := g) l hl).toP
  rw [List.length_map] at this
  exact this
def FitR (r : Replica) : Prop := Fit r.ops ∧ r.seen.length ≤ 100000
set_option maxHeartbeats 1000000 in
theorem Copy_spec (r : Replica) (hr : FitR r) : PCalls Tryz.prog g 20 [.agg (repC r)] (.agg (repC r)) := by
  have h1 := CopyOps_P (g := g) r.ops hr.1
  have hs := hr.2
  refine pcalls' Tryz.func20 Tryz.ntmps20 rfl rfl rfl ?_
  repeat' (first
   | refine awpD_sS rfl rfl (ev_st_lp (L' := [.box (repC r)]) rfl rfl rfl rfl rfl rfl rfl rfl) rfl rfl ?_
   | ((with_reducible refine isD_un ?_); refine awpD_un (as_ev2 (fun _ => ev_append_zf (n := r.seen.length) rfl rfl rfl rfl rfl rfl rfl rfl rfl rfl rfl rfl rfl (by simp only [List.length_map, List.length_cons, List.length_nil, List.length_append, List.length_take]; omega) (by simp only [List.length_map])) rfl rfl) (by (try simp only [List.nil_append, List.cons_append]); (try rfl)) ?_)
   | refine st [2] ?_
   | fail)
  refine retP rfl ?_
  rfl
end Go.Proofs.YtnacjdaoiepbhaaGreatDoor
end
section
namespace Go.Proofs.YtnacjdaoiepbhaaGreatDoor
open Go.Ac
attribute [local irreducible] awp awpL Ev Ev2 EvS thenQ blockQ retQ PCalls OCalls
variable {g : List (Nat × List AV)}
def start (dev : Int) : Replica := ⟨dev, List.replicate 15 0, []⟩
def addOp (c d : Int) (t : ByteArray) : Op := ⟨⟨c, d⟩, 0, 1, ⟨16 * c + d, 0, 0, ⟨0, 0⟩, 0, t⟩, 0, 0, .empty, []⟩
def opOk (o : Op) : Bool := decide (o.over.length ≤ 20) && decide (o.text.size ≤ 300) && decide (o.note.text.size ≤ 300)
def opsOk (l : List Op) : Bool := decide (l.length ≤ 16) && l.all opOk
theorem all_drop {α : Type} (f : α → Bool) (l : List α) (k : Nat) (x : α) (h : l[k]? = some x) : (l.drop k).all f = (f x && (l.drop (k + 1)).all f) := by
  obtain ⟨hlt, rfl⟩ := List.getElem?_eq_some_iff.1 h
  rw [List.drop_eq_getElem_cons hlt]; rfl
end Go.Proofs.YtnacjdaoiepbhaaGreatDoor
end
section
namespace Go.Proofs.YtnacjdaoiepbhaaGreatDoor
open Go.Ac
attribute [local irreducible] awp awpL Ev Ev2 EvS thenQ blockQ retQ PCalls OCalls
variable {g : List (Nat × List AV)}
def missStep (seen : List Int) (most : Int) (out : List Op) (o : Op) : List Op := if (out.length : Int) < most ∧ covers seen o.at_ = false then out ++ [o] else out
def missing (l : List Op) (seen : List Int) (most : Int) : List Op := l.foldl (missStep seen most) []
theorem miss_full (seen : List Int) (most : Int) : ∀ (l out : List Op), most ≤ out.length → l.foldl (missStep seen most) out = out
  | [], out, _ => rfl
  | o :: r, out, h => by
    have : missStep seen most out o = out := by unfold missStep; rw [if_neg (by omega)]
    rw [List.foldl_cons, this, miss_full seen most r out h]
abbrev missK (l : List Op) (seen : List Int) (most : Int) (k : Nat) : List Op := (l.take k).foldl (missStep seen most) []
end Go.Proofs.YtnacjdaoiepbhaaGreatDoor
end
section
namespace Go.Proofs.YtnacjdaoiepbhaaGreatDoor
open Go.Ac
attribute [local irreducible] awp awpL Ev Ev2 EvS thenQ blockQ retQ PCalls OCalls
variable {g : List (Nat × List AV)}
end Go.Proofs.YtnacjdaoiepbhaaGreatDoor
end
section
namespace Go.Proofs.YtnacjdaoiepbhaaGreatDoor
open Go.Ac
attribute [local irreducible] awp awpL Ev Ev2 EvS thenQ blockQ retQ PCalls OCalls
variable {g : List (Nat × List AV)}
def behind (a b : List Op) : Nat := b.countP fun o => !has a o
abbrev behK (a b : List Op) (k : Nat) : Nat := (b.take k).countP fun o => !has a o
end Go.Proofs.YtnacjdaoiepbhaaGreatDoor
end
section
namespace Go.Proofs.YtnacjdaoiepbhaaGreatDoor
open Go.Ac
theorem int_chk (b : Bool) (n : Nat) (a : Int) (w : World) : (Instr.checkKey b (n + 1) 3 (.int .i64 a)).run Tryz.prog w = .ok () w := by
  unfold Instr.checkKey
  simp [run_underlying Tryz.underlying3, Result.andThen]
theorem stamp_chk (b : Bool) (a c : Int) (w : World) : (Instr.checkKey b 10000 23 (.agg #[.int .i64 a, .int .i64 c])).run Tryz.prog w = .ok () w := by
  have h1 := int_chk b 9998 a w
  have h2 := int_chk b 9998 c w
  have a3 := Tryz.isAgg3
  have z3 := Tryz.sizeOf3
  rw [show (10000 : Nat) = 9999 + 1 from rfl]
  unfold Instr.checkKey
  simp only [Sem.run_bind, run_underlying Tryz.underlying23, Result.andThen_ok]
  have p0 : (part 3 #[Value.int IntKind.i64 a, Value.int IntKind.i64 c] 0).run Tryz.prog w = .ok (.int .i64 a) w := by simp [part, a3, Result.andThen]
  have p1 : (part 3 #[Value.int IntKind.i64 a, Value.int IntKind.i64 c] 1).run Tryz.prog w = .ok (.int .i64 c) w := by simp [part, a3, Result.andThen]
  simp [p0, p1, h1, h2, Result.andThen]
def isStampV (v : Value) : Prop := ∃ a b, v = .agg #[.int .i64 a, .int .i64 b]
def stampV (s : Stamp) : Value := .agg #[.int .i64 s.count, .int .i64 s.dev]
theorem stampKey : KeyOk Tryz.prog 23 isStampV := by
  refine KeyOk.asks Tryz.underlying23 (fun a b _ _ => by rfl) (fun x y w hx hy => ?_) (fun b k w hk => ?_) (fun k hk => ?_)
  · obtain ⟨a, b, rfl⟩ := hx
    obtain ⟨c, d, rfl⟩ := hy
    refine ⟨_, stampEq_T [.int .i64 a, .int .i64 b] [.int .i64 c, .int .i64 d] _ w rfl, ?_⟩
    simp
  · obtain ⟨a, c, rfl⟩ := hk
    exact stamp_chk b a c w
  · obtain ⟨a, c, rfl⟩ := hk
    simp [Instr.sameBits]
theorem stampV_inj (a b : Stamp) (h : stampV a = stampV b) : a = b := by
  simp [stampV] at h
  exact stamp_ext h
theorem stampV_R (s : Stamp) : ∀ c y, R c (.agg (stampC s)) y → y = stampV s := by
  intro c y h
  simp only [R, RF, stampC, LF] at h
  obtain ⟨xs, rfl, y1, s1, e1, rfl, _, y2, s2, e2, rfl, _, e3⟩ := h
  subst e3 e2
  unfold stampV
  congr 1
  apply Array.ext'
  simpa using e1
theorem stampV_ok (s : Stamp) : isStampV (stampV s) := ⟨_, _, rfl⟩
end Go.Proofs.YtnacjdaoiepbhaaGreatDoor
end
section
namespace Go.Proofs.YtnacjdaoiepbhaaGreatDoor
open Go.Ac
attribute [local irreducible] awp awpL Ev Ev2 EvS thenQ blockQ retQ PCalls OCalls
variable {g : List (Nat × List AV)}
abbrev ownM (l : List Op) (k : Nat) : List (Stamp × Op) := (l.take k).foldl (fun m o => aput m o.at_ o) []
def mks (m : List (Stamp × Op)) : List Value := m.map fun p => stampV p.1
def mxs (m : List (Stamp × Op)) : List AV := m.map fun p => .agg (opC p.2)
def unlike (m : List (Stamp × Op)) (o : Op) : Bool := match aget m o.at_ with
  | none => true
  | some y => !decide (y = o)
def behindM (a b : List Op) : Nat := b.countP (unlike (ownM a a.length))
abbrev bmK (m : List (Stamp × Op)) (b : List Op) (k : Nat) : Nat := (b.take k).countP (unlike m)
end Go.Proofs.YtnacjdaoiepbhaaGreatDoor
namespace Go.Proofs.YtnacjdaoiepbhaaGreatDoor
open Go.Ac
end Go.Proofs.YtnacjdaoiepbhaaGreatDoor
end
section
namespace Go.Proofs.YtnacjdaoiepbhaaGreatDoor
open Go.Ac
attribute [local irreducible] awp awpL Ev Ev2 EvS thenQ blockQ retQ PCalls OCalls YieldOk
variable {g : List (Nat × List AV)}
theorem both_get {a b : List Op} {n : Nat} {x : Op} {r : List Op} (h : (both a b).drop n = x :: r) : ((both a b).map fun o => [AV.agg (opC o)])[n]? = some [.agg (opC x)] ∧ (both a b).drop (n + 1) = r := by
  have h1 : (both a b)[n]? = some x := by
    have := congrArg (fun l => l[0]?) h
    simpa using this
  have h2 := congrArg List.tail h
  exact ⟨by simp [h1], by simpa using h2⟩
set_option maxHeartbeats 2000000 in
theorem both1_spec (a b : List Op) (ha : Fit a) (hb : Fit b) : IterC Tryz.prog g 93 [.fp [encOps a], .fp [encOps b]] ((both a b).map fun o => [.agg (opC o)]) := by
  have ha1 := ha.1
  have hb1 := hb.1
  refine iterC Tryz.func93 rfl Tryz.ntmps93 rfl rfl ?_
  intro env yv hy
  repeat' (first
   | refine stn [7] ?_
   | ((with_reducible refine is_awp ?_); refine awp_cond rfl (fun h => ?_) (fun h => ?_))
   | fail)
  refine awp_for2 (α := Nat) (β := Nat) 1 (fun i k => [(0, .v yv), (1, .fp [encOps a]), (2, .fp [encOps b]), (4, vi i), (5, vi k)]) (fun i k => [.ghost (i + k)]) (fun i k => i ≤ a.length ∧ k ≤ b.length ∧ (both a b).drop (i + k) = both (a.drop i) (b.drop k)) (fun i k => a.length - i + (b.length - k)) 0 0
    ⟨(.cons rfl rfl (.cons rfl rfl (.cons rfl rfl (.cons rfl rfl (.cons rfl rfl .nil))))), rfl, rfl, rfl⟩ ⟨Nat.zero_le _, Nat.zero_le _, rfl⟩ ?_
  rintro i k ⟨hi, hk, hd⟩
  cases hx : a[i]? with
  | none =>
    have hgi : a.length ≤ i := by simpa using hx
    have c1 : decide ((i : Int) < a.length) = false := by simp; omega
    have e1 : decide ((i : Int) = a.length) = true := by simp; omega
    rw [List.drop_of_length_le hgi, both_nil] at hd
    cases hz : b[k]? with
    | none =>
      have hgk : b.length ≤ k := by simpa using hz
      have c2 : decide ((k : Int) < b.length) = false := by simp; omega
      have hdone : ((both a b).map fun o => [AV.agg (opC o)]).length = i + k := by rw [List.length_map, both_len]; omega
      refine runn [7] ?_
      exact retIn (r := .tup []) rfl (.inl (by rw [hdone]; rfl))
    | some y =>
      have hlt : k < b.length := (List.getElem?_eq_some_iff.1 hz).1
      have c2 : decide ((k : Int) < b.length) = true := by simp; omega
      have h1 := op_get hz
      have hdk : b.drop k = y :: b.drop (k + 1) := by
        obtain ⟨_, rfl⟩ := List.getElem?_eq_some_iff.1 hz
        exact List.drop_eq_getElem_cons hlt
      obtain ⟨hg, hd'⟩ := both_get (hd.trans hdk)
      have n1 : (!true) = false := rfl
      have n2 : (!false) = true := rfl
      repeat' (first
       | ((with_reducible refine is_un ?_); refine awpL_yield (n := i + k) (k := 0) rfl rfl rfl rfl rfl (hy _ _ hg) rfl rfl rfl ?_ ?_)
       | refine st [7] ?_
       | fail)
      · exact ⟨i, k + 1, ⟨(.cons rfl rfl (.cons rfl rfl (.cons rfl rfl (.cons rfl rfl (.cons rfl rfl .nil))))), rfl, rfl, rfl⟩, ⟨hi, by omega, by rw [List.drop_of_length_le hgi, both_nil]; exact hd'⟩, by omega⟩
      · exact retI (r := .tup []) rfl (.inr rfl)
  | some x =>
    have hli : i < a.length := (List.getElem?_eq_some_iff.1 hx).1
    have c1 : decide ((i : Int) < a.length) = true := by simp; omega
    have e1 : decide ((i : Int) = a.length) = false := by simp; omega
    have h1 := op_get hx
    have hdi : a.drop i = x :: a.drop (i + 1) := by
      obtain ⟨_, rfl⟩ := List.getElem?_eq_some_iff.1 hx
      exact List.drop_eq_getElem_cons hli
    have n1 : (!true) = false := rfl
    have n2 : (!false) = true := rfl
    have hw : ∀ (c : List Op), [LB.ghost (i + k + 1)] = [LB.ghost (i + 1 + k)] := fun _ => by rw [show i + 1 + k = i + k + 1 by omega]
    cases hz : b[k]? with
    | none =>
      have hgk : b.length ≤ k := by simpa using hz
      have c2 : decide ((k : Int) < b.length) = false := by simp; omega
      rw [List.drop_of_length_le hgk, both_nil'] at hd
      obtain ⟨hg, hd'⟩ := both_get (hd.trans hdi)
      repeat' (first
       | ((with_reducible refine is_un ?_); refine awpL_yield (n := i + k) (k := 0) rfl rfl rfl rfl rfl (hy _ _ hg) rfl rfl rfl ?_ ?_)
       | refine st [7] ?_
       | fail)
      · exact ⟨i + 1, k, ⟨(.cons rfl rfl (.cons rfl rfl (.cons rfl rfl (.cons rfl rfl (.cons rfl rfl .nil))))), by rw [show i + 1 + k = i + k + 1 by omega]; rfl, rfl, rfl⟩, ⟨by omega, hk, by rw [List.drop_of_length_le hgk, both_nil', show i + 1 + k = i + k + 1 by omega]; exact hd'⟩, by omega⟩
      · exact retI (r := .tup []) rfl (.inr rfl)
    | some y =>
      have hlt : k < b.length := (List.getElem?_eq_some_iff.1 hz).1
      have c2 : decide ((k : Int) < b.length) = true := by simp; omega
      have h2 := op_get hz
      have hdk : b.drop k = y :: b.drop (k + 1) := by
        obtain ⟨_, rfl⟩ := List.getElem?_eq_some_iff.1 hz
        exact List.drop_eq_getElem_cons hlt
      have hL := Less_spec (g := g) y.at_ x.at_
      rw [hdi, hdk] at hd
      cases hc : less y.at_ x.at_ with
      | true =>
        rw [hc] at hL
        rw [both_right hc] at hd
        obtain ⟨hg, hd'⟩ := both_get hd
        repeat' (first
         | ((with_reducible refine is_un ?_); refine awpL_yield (n := i + k) (k := 0) rfl rfl rfl rfl rfl (hy _ _ hg) rfl rfl rfl ?_ ?_)
         | refine st [7] ?_
         | fail)
        · exact ⟨i, k + 1, ⟨(.cons rfl rfl (.cons rfl rfl (.cons rfl rfl (.cons rfl rfl (.cons rfl rfl .nil))))), rfl, rfl, rfl⟩, ⟨hi, by omega, by rw [hdi]; exact hd'⟩, by omega⟩
        · exact retI (r := .tup []) rfl (.inr rfl)
      | false =>
        rw [hc] at hL
        rw [both_left hc] at hd
        obtain ⟨hg, hd'⟩ := both_get hd
        repeat' (first
         | ((with_reducible refine is_un ?_); refine awpL_yield (n := i + k) (k := 0) rfl rfl rfl rfl rfl (hy _ _ hg) rfl rfl rfl ?_ ?_)
         | refine st [7] ?_
         | fail)
        · exact ⟨i + 1, k, ⟨(.cons rfl rfl (.cons rfl rfl (.cons rfl rfl (.cons rfl rfl (.cons rfl rfl .nil))))), by rw [show i + 1 + k = i + k + 1 by omega]; rfl, rfl, rfl⟩, ⟨by omega, hk, by rw [show i + 1 + k = i + k + 1 by omega, hdk]; exact hd'⟩, by omega⟩
        · exact retI (r := .tup []) rfl (.inr rfl)
end Go.Proofs.YtnacjdaoiepbhaaGreatDoor
end
section
namespace Go.Proofs.YtnacjdaoiepbhaaGreatDoor
open Go.Ac
attribute [local irreducible] awp awpL Ev Ev2 EvS thenQ blockQ retQ PCalls OCalls YieldOk IterC
variable {g : List (Nat × List AV)}
abbrev bothV (a b : List Op) : AV := .fn 93 [] [.fp [encOps a], .fp [encOps b]]
theorem both_spec (a b : List Op) : PCalls Tryz.prog g 62 [encOps a, encOps b] (bothV a b) := by
  refine pcalls' Tryz.func62 Tryz.ntmps62 rfl rfl rfl ?_
  refine runn [] ?_
  refine retP rfl ?_
  rfl
end Go.Proofs.YtnacjdaoiepbhaaGreatDoor
end
section
namespace Go.Proofs.YtnacjdaoiepbhaaGreatDoor
open Go.Ac
attribute [local irreducible] awp awpL Ev Ev2 EvS thenQ blockQ retQ PCalls OCalls YieldOk IterC
variable {g : List (Nat × List AV)}
theorem Fit.take {l : List Op} (h : Fit l) (k : Nat) : Fit (l.take k) := ⟨by have := h.1; rw [List.length_take]; omega, fun o ho => h.2 o (List.mem_of_mem_take ho)⟩
theorem Fit.drop {l : List Op} (h : Fit l) (k : Nat) : Fit (l.drop k) := ⟨by have := h.1; rw [List.length_drop]; omega, fun o ho => h.2 o (List.mem_of_mem_drop ho)⟩
theorem Fit.of_mem {l m : List Op} (h : Fit l) (hl : m.length ≤ l.length) (hm : ∀ o, o ∈ m → o ∈ l) : Fit m := ⟨by have := h.1; omega, fun o ho => h.2 o (hm o ho)⟩
theorem Fit.sorted {l : List Op} (h : Fit l) : Fit (sorted l) := h.of_mem (by rw [sorted_len]; exact Nat.le_refl _) fun o ho => (sorted_mem l o).1 ho
theorem yield_get {l : List Op} {i : Nat} {xs : List AV} (h : (l.map fun o => [AV.agg (opC o)])[i]? = some xs) : ∃ o, l[i]? = some o ∧ xs = [.agg (opC o)] := by
  rw [List.getElem?_map] at h
  cases ho : l[i]? with
  | none => rw [ho] at h; cases h
  | some o => rw [ho] at h; cases h; exact ⟨o, rfl, rfl⟩
set_option maxHeartbeats 2000000 in
theorem sorted_spec : ∀ (n : Nat) (l : List Op), l.length ≤ n → Fit l → PCalls Tryz.prog g 63 [encOps l] (encOps (sorted l)) := by
  intro n
  induction n with
  | zero =>
    intro l hn hl
    refine pcalls' Tryz.func63 Tryz.ntmps63 rfl rfl rfl ?_
    have c0 : decide ((l.length : Int) < 2) = true := by simp; omega
    refine runn [3] ?_
    refine retP rfl ?_
    rw [sorted, if_pos (by omega)]; rfl
  | succ n ih =>
    intro l hn hl
    by_cases h2 : l.length < 2
    · refine pcalls' Tryz.func63 Tryz.ntmps63 rfl rfl rfl ?_
      have c0 : decide ((l.length : Int) < 2) = true := by simp; omega
      refine runn [3] ?_
      refine retP rfl ?_
      rw [sorted, if_pos h2]; rfl
    have hl1 := hl.1
    have hk : (l.length : Int).tdiv 2 = ((l.length / 2 : Nat) : Int) := by rw [Int.tdiv_eq_ediv_of_nonneg (by omega)]; omega
    have h1 := ih (l.take (l.length / 2)) (by rw [List.length_take]; omega) (hl.take _)
    have h3 := ih (l.drop (l.length / 2)) (by rw [List.length_drop]; omega) (hl.drop _)
    have h4 := both_spec (g := g) (sorted (l.take (l.length / 2))) (sorted (l.drop (l.length / 2)))
    have hI := both1_spec (g := g) (sorted (l.take (l.length / 2))) (sorted (l.drop (l.length / 2))) (hl.take _).sorted (hl.drop _).sorted
    have hS : sorted l = both (sorted (l.take (l.length / 2))) (sorted (l.drop (l.length / 2))) := by rw [sorted, if_neg h2]
    have hlen := sorted_len l
    rw [← hS] at hI
    rw [hS] at hlen ⊢
    rw [← hS] at hlen
    generalize hke : l.length / 2 = k at *
    have hkl : k ≤ l.length := by omega
    have hr : (0 : Int) < 2 ∧ -9223372036854775808 ≤ (l.length : Int) ∧ (l.length : Int) ≤ 9223372036854775807 := by omega
    have b1 : (0 : Int) ≤ 0 ∧ (0 : Int) ≤ (k : Int) ∧ (k : Int) ≤ (l.length : Nat) := by omega
    have b2 : (0 : Int) ≤ (k : Int) ∧ (k : Int) ≤ ((l.length : Nat) : Int) ∧ ((l.length : Nat) : Int) ≤ (l.length : Nat) := by omega
    have m1 : ((k : Int) - 0).toNat = (l.take k).length := by rw [List.length_take]; omega
    have m2 : (((l.length : Nat) : Int) - (k : Int)).toNat = (l.drop k).length := by rw [List.length_drop]; omega
    have f1 : ((l.map opC).drop (0 : Int).toNat).take (l.take k).length = (l.take k).map opC := by simp [List.map_take]
    have f2 : ((l.map opC).drop (k : Int).toNat).take (l.drop k).length = (l.drop k).map opC := by simp [List.map_drop, List.take_of_length_le]
    have c0 : decide ((l.length : Int) < 2) = false := by simp; omega
    rw [← hS]
    refine pcalls' Tryz.func63 Tryz.ntmps63 rfl rfl rfl ?_
    repeat' (first
     | ((with_reducible refine isD_un ?_); (first | refine awpD_un (as_ev (fun _ => ev_slice_fs rfl rfl rfl rfl rfl rfl rfl b1 m1 f1) rfl rfl) (by (try simp only [List.nil_append, List.cons_append]); (try rfl)) ?_ | refine awpD_un (as_ev (fun _ => ev_slice_fs rfl rfl rfl rfl rfl rfl rfl b2 m2 f2) rfl rfl) (by (try simp only [List.nil_append, List.cons_append]); (try rfl)) ?_ | refine awpD_un (as_ev (fun _ => ev_tdivE rfl rfl hr hk) rfl rfl) (by (try simp only [List.nil_append, List.cons_append]); (try rfl)) ?_))
     | refine st [3] ?_
     | ((with_reducible refine is_awp ?_); refine awp_cond rfl (fun h => ?_) (fun h => ?_))
     | fail)
    refine awp_adoptC 0 0 74 15 rfl rfl rfl rfl ?_
    refine awp_range (fun i => [.box [.os 1 i], .own i 74 15 (((sorted l).take i).map opC)]) rfl rfl rfl rfl hI rfl (fun _ => rfl) (fun _ => rfl) rfl (fun i xs hx => by obtain ⟨o, _, rfl⟩ := yield_get hx; rfl) ?_ ?_
    · intro i xs lp hx
      obtain ⟨o, ho, rfl⟩ := yield_get hx
      have hj := take_map opC (sorted l) i o ho
      have hil : i < (sorted l).length := (List.getElem?_eq_some_iff.1 ho).1
      refine runn [3] ?_
      refine ⟨rfl, rfl, ?_⟩
      repeat' (first
       | ((with_reducible refine is_un ?_); refine awpL_ev2 (ev_app (es' := ((sorted l).take (i + 1)).map opC) rfl rfl rfl rfl rfl rfl rfl rfl rfl rfl rfl rfl rfl (by simp only [List.length_map, List.length_cons, List.length_nil, List.length_append, List.length_take]; omega) hj rfl) rfl ?_)
       | refine stn [3] ?_
       | fail)
      exact roundN ⟨.nil, rfl, rfl, rfl⟩
    · refine runn [3] ?_
      refine retP rfl ?_
      have e : (sorted l).take ((sorted l).map fun o => [AV.agg (opC o)]).length = sorted l := List.take_of_length_le (by rw [List.length_map]; exact Nat.le_refl _)
      simp only [e]
      simp [ex]
end Go.Proofs.YtnacjdaoiepbhaaGreatDoor
end
section
namespace Go.Proofs.YtnacjdaoiepbhaaGreatDoor
open Go.Ac
attribute [local irreducible] awp awpL Ev Ev2 EvS thenQ blockQ retQ PCalls OCalls YieldOk IterC
variable {g : List (Nat × List AV)}
theorem wanted_spec (b : Bool) : PCalls Tryz.prog g 163 [vb b] (vi (wanted b)) := by
  refine pcalls' Tryz.func163 Tryz.ntmps163 rfl rfl rfl ?_
  cases b with
  | false =>
    have n1 : (!false) = true := rfl
    refine runn [] ?_
    exact retP rfl rfl
  | true =>
    have n1 : (!true) = false := rfl
    refine runn [] ?_
    exact retP rfl rfl
theorem within_spec (a b c : Int) : PCalls Tryz.prog g 109 [vi a, vi b, vi c] (vb (within a b c)) := by
  refine pcalls' Tryz.func109 Tryz.ntmps109 rfl rfl rfl ?_
  repeat' (first
   | refine stn [] ?_
   | ((with_reducible refine is_gd ?_); refine awpL_split rfl rfl (fun h => ?_) (fun h => ?_))
   | fail)
  all_goals refine retP rfl ?_
  all_goals simp_all [ex, within]
  all_goals (intros; omega)
theorem ident_spec (a : Int) : PCalls Tryz.prog g 135 [vi a] (vb (within a 1 1099511627776)) := by
  refine pcalls' Tryz.func135 Tryz.ntmps135 rfl rfl rfl ?_
  repeat' (first
   | refine stn [] ?_
   | ((with_reducible refine is_gd ?_); refine awpL_split rfl rfl (fun h => ?_) (fun h => ?_))
   | fail)
  all_goals refine retP rfl ?_
  all_goals simp_all [ex, within]
  all_goals (intros; omega)
abbrev spanC (s : Span) : List AV := [.v (.int .i64 s.fro), .v (.int .i64 s.til)]
theorem spanR_spec (s : Span) : PCalls Tryz.prog g 85 [.agg (spanC s)] (vb (spanRight s)) := by
  refine pcalls' Tryz.func85 Tryz.ntmps85 rfl rfl rfl ?_
  repeat' (first
   | refine stn [] ?_
   | ((with_reducible refine is_gd ?_); refine awpL_split rfl rfl (fun h => ?_) (fun h => ?_))
   | fail)
  all_goals refine retP rfl ?_
  all_goals simp_all [ex, spanRight]
  all_goals omega
theorem rspanR_spec (s : Span) : PCalls Tryz.prog g 115 [.agg (spanC s)] (vb (spanRight s)) := by
  refine pcalls' Tryz.func115 Tryz.ntmps115 rfl rfl rfl ?_
  repeat' (first
   | refine stn [] ?_
   | ((with_reducible refine is_gd ?_); refine awpL_split rfl rfl (fun h => ?_) (fun h => ?_))
   | fail)
  all_goals refine retP rfl ?_
  all_goals simp_all [ex, spanRight]
  all_goals omega
set_option maxHeartbeats 400000 in
theorem first_spec (l : List Int) (hl : l.length ≤ 1000000) : PCalls Tryz.prog g 164 [encIs l] (vi (firstE l)) := by
  refine pcalls' Tryz.func164 Tryz.ntmps164 rfl rfl rfl ?_
  repeat' (first
   | refine stn [] ?_
   | ((with_reducible refine is_awp ?_); refine awp_cond rfl (fun h => ?_) (fun h => ?_))
   | fail)
  refine awp_for (α := Nat) 0 (fun k => [(5, encIs l), (6, vi l.length), (7, vi k)]) (fun _ => []) (fun k => k ≤ l.length ∧ l.find? (fun x => decide (x ≠ 0)) = (l.drop k).find? (fun x => decide (x ≠ 0))) (fun k => l.length - k) 0
    ⟨(.cons rfl rfl (.cons rfl rfl (.cons rfl rfl .nil))), rfl, rfl, rfl⟩ ⟨Nat.zero_le _, rfl⟩ ?_
  rintro k ⟨hk, hf⟩
  cases ht : l[k]? with
  | none =>
    have hge : l.length ≤ k := by simpa using ht
    have c1 : decide ((k : Int) < l.length) = false := by simp; omega
    rw [List.drop_of_length_le hge] at hf
    refine runn [] ?_
    refine retP rfl ?_
    rw [firstE, hf]; rfl
  | some t =>
    have hlt : k < l.length := (List.getElem?_eq_some_iff.1 ht).1
    have c1 : decide ((k : Int) < l.length) = true := by simp; omega
    have h1 := int_get ht
    have hd : l.drop k = t :: l.drop (k + 1) := by
      obtain ⟨_, rfl⟩ := List.getElem?_eq_some_iff.1 ht
      exact List.drop_eq_getElem_cons hlt
    rw [hd] at hf
    repeat' (first
     | refine stn [] ?_
     | ((with_reducible refine is_awp ?_); refine awp_cond rfl (fun h => ?_) (fun h => ?_))
     | fail)
    · refine retP rfl ?_
      rw [firstE, hf]
      have : t ≠ 0 := by simpa using h
      simp [this, ex]
    · refine ⟨k + 1, ⟨(.cons rfl rfl (.cons rfl rfl (.cons rfl rfl .nil))), rfl, rfl, rfl⟩, ⟨by omega, ?_⟩, by omega⟩
      rw [hf]
      have : t = 0 := by simpa using h
      simp [this]
theorem wr_spec (o : Op) (f : Int) : PCalls Tryz.prog g 79 [.agg (opC o), vi f] (vb (wrt o f)) := by
  refine pcalls' Tryz.func79 Tryz.ntmps79 rfl rfl rfl ?_
  repeat' (first
   | refine stn [] ?_
   | ((with_reducible refine is_gd ?_); refine awpL_split rfl rfl (fun h => ?_) (fun h => ?_))
   | ((with_reducible refine is_awp ?_); refine awp_cond rfl (fun h => ?_) (fun h => ?_))
   | fail)
  all_goals refine retP rfl ?_
  all_goals simp_all [ex, wrt, within]
  all_goals omega
theorem rwr_spec (o : Op) (f : Int) : PCalls Tryz.prog g 80 [.agg (opC o), vi f] (vb (wrt o f)) := by
  have h1 := within_spec (g := g) f 0 2
  refine pcalls' Tryz.func80 Tryz.ntmps80 rfl rfl rfl ?_
  cases hw : within f 0 2 with
  | false =>
    rw [hw] at h1
    refine runn [] ?_
    all_goals refine retP rfl ?_
    all_goals clear h1
    all_goals simp_all [ex, wrt]
  | true =>
    rw [hw] at h1
    repeat' (first
     | refine stn [] ?_
     | ((with_reducible refine is_gd ?_); refine awpL_split rfl rfl (fun h => ?_) (fun h => ?_))
     | fail)
    all_goals refine retP rfl ?_
    all_goals clear h1
    all_goals simp_all [ex, wrt]
theorem Writes_spec (o : Op) (n f : Int) : PCalls Tryz.prog g 48 [.agg (opC o), vi n, vi f] (vb (writes o n f)) := by
  have h1 := wr_spec (g := g) o f
  refine pcalls' Tryz.func48 Tryz.ntmps48 rfl rfl rfl ?_
  repeat' (first
   | refine stn [] ?_
   | ((with_reducible refine is_gd ?_); refine awpL_split rfl rfl (fun h => ?_) (fun h => ?_))
   | fail)
  all_goals refine retP rfl ?_
  all_goals clear h1
  all_goals simp_all [ex, writes]
theorem rWrites_spec (o : Op) (n f : Int) : PCalls Tryz.prog g 49 [.agg (opC o), vi n, vi f] (vb (writes o n f)) := by
  have h1 := rwr_spec (g := g) o f
  refine pcalls' Tryz.func49 Tryz.ntmps49 rfl rfl rfl ?_
  repeat' (first
   | refine stn [] ?_
   | ((with_reducible refine is_gd ?_); refine awpL_split rfl rfl (fun h => ?_) (fun h => ?_))
   | fail)
  all_goals refine retP rfl ?_
  all_goals clear h1
  all_goals simp_all [ex, writes]
end Go.Proofs.YtnacjdaoiepbhaaGreatDoor
end
