/- A logic of trees over the model's steps, and the contracts of the functions that the laws reach: part 9 of 10. -/
import Derived.Test.YtekkpfbjnjjcbaaDoorB8
section
set_option linter.unusedVariables false
set_option linter.unusedSimpArgs false
set_option linter.unusedSectionVars false
namespace Go.Proofs.YtekkpfbjnjjcbaaDoor
open Go.Ac Go.MapKept
attribute [local irreducible] awp awpL Ev Ev2 EvS thenQ blockQ retQ PCalls OCalls YieldOk IterC ICalls
set_option linter.unusedSimpArgs false
set_option linter.unusedVariables false
def livingR (r : Replica) (note : Int) : Cell × Stamp × Int := match addedO r.ops note with
  | none => (zeroCell, ⟨0, 0⟩, 9)
  | some _ => match cell r.ops note with
    | none => (zeroCell, ⟨0, 0⟩, 26)
    | some c => match nextS r.seen r.dev with
      | none => (zeroCell, ⟨0, 0⟩, 27)
      | some s => (c, s, 0)
def livV (p : Cell × Stamp × Int) : AV := .tup [.agg (cellC p.1), .agg (stampC p.2.1), vi p.2.2]
theorem le_zeroL (e : Int) : Le (.tup [.agg zeroCellC, .agg [vi 0, vi 0], vi e]) (livV (zeroCell, ⟨0, 0⟩, e)) := Le.tup (.cons (Le.agg le_zeroCell) (.cons (Le.rfl' _) (.cons (Le.rfl' _) .nil)))
theorem living_cases (r : Replica) (note : Int) : (∃ e, e ≠ 0 ∧ livingR r note = (zeroCell, ⟨0, 0⟩, e) ∧ (∀ f n t, setR r note f n t = (zeroRep, e)) ∧ dropR r note = (zeroRep, e)) ∨
    (∃ a s, livingR r note = (cellOf r.ops note a, s, 0) ∧ (∀ f n t, setR r note f n t = withR r (setOpR s a.rec_ note f n t (atsV (valuesL r.ops note f)))) ∧ dropR r note = withR r (dropOpR s a.rec_ note (overAll r.ops note))) := by
  unfold livingR setR dropR
  cases ha : addedO r.ops note with
  | none => exact .inl ⟨9, by decide, rfl, fun _ _ _ => by cases nextS r.seen r.dev <;> rfl, by cases nextS r.seen r.dev <;> rfl⟩
  | some a =>
    cases hlv : lives r.ops note with
    | false =>
      rw [lives_cellN hlv]
      exact .inl ⟨26, by decide, rfl, fun _ _ _ => by cases nextS r.seen r.dev <;> rfl, by cases nextS r.seen r.dev <;> rfl⟩
    | true =>
      obtain ⟨b, hb, hc⟩ := lives_cell hlv
      rw [ha] at hb
      cases hb
      rw [hc]
      cases hn : nextS r.seen r.dev with
      | none => exact .inl ⟨27, by decide, rfl, fun _ _ _ => rfl, rfl⟩
      | some s => exact .inr ⟨a, s, rfl, fun _ _ _ => rfl, rfl⟩
structure FitG (r : Replica) : Prop where
  o : FitO r.ops
  s : r.seen.length ≤ 1000000
  i : Ids r.ops
  g : Good r.ops
theorem FitG.l {r : Replica} (h : FitG r) : r.ops.length ≤ 100000 := by have := h.o.1; omega
set_option maxRecDepth 8000 in
set_option maxHeartbeats 4000000 in
theorem living_spec {g : List (Nat × List AV)} (r : Replica) (note : Int) (h : FitG r) : PCalls Tryd.prog g 42 [.agg (repC r), vi note] (livV (livingR r note)) := by
  have hA := Added_spec (g := g) r note (by have := h.l; omega)
  rw [addedV] at hA
  have hC := Cell_spec (g := g) r note h.l h.o.2 h.g
  rw [cellV] at hC
  have hN := Next_spec (g := g) r.seen r.dev h.s
  have n1 : (!true) = false := rfl
  have n2 : (!false) = true := rfl
  refine pcalls' Tryd.func42 Tryd.ntmps42 rfl rfl rfl ?_
  unfold livingR
  cases ha : addedO r.ops note with
  | none =>
    rw [ha] at hA
    simp only [Option.getD_none, Option.isSome_none] at hA
    simp only
    repeat' (first
     | refine st [4, 5] ?_
     | ((with_reducible refine is_gd ?_); refine awpL_split rfl rfl (fun h => ?_) (fun h => ?_))
     | ((with_reducible refine isD_gd ?_); ((fail_if_success (refine isD_kn (c := true) rfl (by first | with_reducible rfl | with_reducible assumption) ?_)); (fail_if_success (refine isD_kn (c := false) rfl (by first | with_reducible rfl | with_reducible assumption) ?_)); refine awpD_split rfl (fun h => ?_) (fun h => ?_)))
     | ((with_reducible refine is_awp ?_); refine awp_cond rfl (fun h => ?_) (fun h => ?_))
     | fail)
    exact retLe rfl (le_zeroL _)
  | some a =>
  rw [ha] at hA
  simp only [Option.getD_some, Option.isSome_some] at hA
  cases hc : cell r.ops note with
  | none =>
    rw [hc] at hC
    simp only [Option.getD_none, Option.isSome_none] at hC
    simp only
    repeat' (first
     | refine st [4, 5] ?_
     | ((with_reducible refine is_gd ?_); refine awpL_split rfl rfl (fun h => ?_) (fun h => ?_))
     | ((with_reducible refine isD_gd ?_); ((fail_if_success (refine isD_kn (c := true) rfl (by first | with_reducible rfl | with_reducible assumption) ?_)); (fail_if_success (refine isD_kn (c := false) rfl (by first | with_reducible rfl | with_reducible assumption) ?_)); refine awpD_split rfl (fun h => ?_) (fun h => ?_)))
     | ((with_reducible refine is_awp ?_); refine awp_cond rfl (fun h => ?_) (fun h => ?_))
     | fail)
    exact retLe rfl (le_zeroL _)
  | some c =>
  rw [hc] at hC
  simp only [Option.getD_some, Option.isSome_some] at hC
  cases hn : nextS r.seen r.dev with
  | none =>
    rw [hn] at hN
    simp only [nextP, Option.getD_none, Option.isSome_none] at hN
    simp only
    repeat' (first
     | refine st [4, 5] ?_
     | ((with_reducible refine is_gd ?_); refine awpL_split rfl rfl (fun h => ?_) (fun h => ?_))
     | ((with_reducible refine isD_gd ?_); ((fail_if_success (refine isD_kn (c := true) rfl (by first | with_reducible rfl | with_reducible assumption) ?_)); (fail_if_success (refine isD_kn (c := false) rfl (by first | with_reducible rfl | with_reducible assumption) ?_)); refine awpD_split rfl (fun h => ?_) (fun h => ?_)))
     | ((with_reducible refine is_awp ?_); refine awp_cond rfl (fun h => ?_) (fun h => ?_))
     | fail)
    exact retLe rfl (le_zeroL _)
  | some s =>
    rw [hn] at hN
    simp only [nextP, Option.getD_some, Option.isSome_some] at hN
    simp only
    repeat' (first
     | refine st [4, 5] ?_
     | ((with_reducible refine is_gd ?_); refine awpL_split rfl rfl (fun h => ?_) (fun h => ?_))
     | ((with_reducible refine isD_gd ?_); ((fail_if_success (refine isD_kn (c := true) rfl (by first | with_reducible rfl | with_reducible assumption) ?_)); (fail_if_success (refine isD_kn (c := false) rfl (by first | with_reducible rfl | with_reducible assumption) ?_)); refine awpD_split rfl (fun h => ?_) (fun h => ?_)))
     | ((with_reducible refine is_awp ?_); refine awp_cond rfl (fun h => ?_) (fun h => ?_))
     | fail)
    exact retP rfl rfl
set_option maxRecDepth 8000 in
set_option maxHeartbeats 4000000 in
theorem Set_spec (r : Replica) (note f n : Int) (t : ByteArray) (h : FitG r) (hno : I64 note) : PCalls Tryd.prog GL 25 [.agg (repC r), vi note, vi f, vi n, vs t] (mergeV (setR r note f n t)) := by
  have hL := living_spec (g := GL) r note h
  rw [livV] at hL
  have hV := values_spec (g := GL) r note f h.l h.o.2 h.g
  have hvl := valuesL_len r.ops note f
  have hl := h.o.1
  have hSt : PCalls Tryd.prog GL 43 [.fs 1 1 [[encVals (valuesL r.ops note f)]]] (encStamps (atsV (valuesL r.ops note f))) := stamps_spec [valuesL r.ops note f] (by simp) (fun l hl => by simp only [List.mem_singleton] at hl; subst hl; omega) _ (ats_inc h.g note f) (fun s => by simp)
  refine pcalls' Tryd.func25 Tryd.ntmps25 rfl rfl rfl ?_
  rcases living_cases r note with ⟨e, he, h1, h2, _⟩ | ⟨a, s, h1, h2, _⟩
  · rw [h1] at hL
    rw [h2]
    have c1 : (!decide (e = 0)) = true := by simp [he]
    repeat' (first
     | refine st [10] ?_
     | ((with_reducible refine is_gd ?_); refine awpL_split rfl rfl (fun h => ?_) (fun h => ?_))
     | ((with_reducible refine isD_gd ?_); ((fail_if_success (refine isD_kn (c := true) rfl (by first | with_reducible rfl | with_reducible assumption) ?_)); (fail_if_success (refine isD_kn (c := false) rfl (by first | with_reducible rfl | with_reducible assumption) ?_)); refine awpD_split rfl (fun h => ?_) (fun h => ?_)))
     | ((with_reducible refine is_awp ?_); refine awp_cond rfl (fun h => ?_) (fun h => ?_))
     | fail)
    exact retLe rfl (le_zeroM _)
  · rw [h1] at hL
    rw [h2]
    have c1 : (!decide ((0 : Int) = 0)) = false := rfl
    have hW := with_spec r (setOpR s a.rec_ note f n t (atsV (valuesL r.ops note f))) h.s h.o.1 h.i hno
    rw [mergeV] at hW
    generalize withR r (setOpR s a.rec_ note f n t (atsV (valuesL r.ops note f))) = p at hW ⊢
    repeat' (first
     | refine st [10] ?_
     | ((with_reducible refine is_gd ?_); refine awpL_split rfl rfl (fun h => ?_) (fun h => ?_))
     | ((with_reducible refine isD_gd ?_); ((fail_if_success (refine isD_kn (c := true) rfl (by first | with_reducible rfl | with_reducible assumption) ?_)); (fail_if_success (refine isD_kn (c := false) rfl (by first | with_reducible rfl | with_reducible assumption) ?_)); refine awpD_split rfl (fun h => ?_) (fun h => ?_)))
     | ((with_reducible refine is_awp ?_); refine awp_cond rfl (fun h => ?_) (fun h => ?_))
     | fail)
    exact retP rfl rfl
set_option maxRecDepth 8000 in
set_option maxHeartbeats 4000000 in
theorem Drop_spec (r : Replica) (note : Int) (h : FitG r) (hno : I64 note) : PCalls Tryd.prog GL 26 [.agg (repC r), vi note] (mergeV (dropR r note)) := by
  have hL := living_spec (g := GL) r note h
  rw [livV] at hL
  have hvl := fun f => valuesL_len r.ops note f
  have hl := h.o.1
  have hSt : PCalls Tryd.prog GL 43 [.fs 1 3 [[encVals (valuesL r.ops note 0)], [encVals (valuesL r.ops note 1)], [encVals (valuesL r.ops note 2)]]] (encStamps (overAll r.ops note)) :=
    stamps_spec [valuesL r.ops note 0, valuesL r.ops note 1, valuesL r.ops note 2] (by simp) (fun l hl2 => by
      simp only [List.mem_cons, List.not_mem_nil, or_false] at hl2
      rcases hl2 with rfl | rfl | rfl
      · have := hvl 0; omega
      · have := hvl 1; omega
      · have := hvl 2; omega) _ (overAll_inc h.g note) (fun s => by rw [overAll_iff]; simp)
  refine pcalls' Tryd.func26 Tryd.ntmps26 rfl rfl rfl ?_
  rcases living_cases r note with ⟨e, he, h1, _, h2⟩ | ⟨a, s, h1, _, h2⟩
  · rw [h1] at hL
    rw [h2]
    have c1 : (!decide (e = 0)) = true := by simp [he]
    repeat' (first
     | refine st [4] ?_
     | ((with_reducible refine is_gd ?_); refine awpL_split rfl rfl (fun h => ?_) (fun h => ?_))
     | ((with_reducible refine isD_gd ?_); ((fail_if_success (refine isD_kn (c := true) rfl (by first | with_reducible rfl | with_reducible assumption) ?_)); (fail_if_success (refine isD_kn (c := false) rfl (by first | with_reducible rfl | with_reducible assumption) ?_)); refine awpD_split rfl (fun h => ?_) (fun h => ?_)))
     | ((with_reducible refine is_awp ?_); refine awp_cond rfl (fun h => ?_) (fun h => ?_))
     | fail)
    exact retLe rfl (le_zeroM _)
  · rw [h1] at hL
    rw [h2]
    have c1 : (!decide ((0 : Int) = 0)) = false := rfl
    have hW := with_spec r (dropOpR s a.rec_ note (overAll r.ops note)) h.s h.o.1 h.i hno
    rw [mergeV] at hW
    generalize withR r (dropOpR s a.rec_ note (overAll r.ops note)) = p at hW ⊢
    repeat' (first
     | refine st [4] ?_
     | ((with_reducible refine is_gd ?_); refine awpL_split rfl rfl (fun h => ?_) (fun h => ?_))
     | ((with_reducible refine isD_gd ?_); ((fail_if_success (refine isD_kn (c := true) rfl (by first | with_reducible rfl | with_reducible assumption) ?_)); (fail_if_success (refine isD_kn (c := false) rfl (by first | with_reducible rfl | with_reducible assumption) ?_)); refine awpD_split rfl (fun h => ?_) (fun h => ?_)))
     | ((with_reducible refine is_awp ?_); refine awp_cond rfl (fun h => ?_) (fun h => ?_))
     | fail)
    exact retP rfl rfl
end Go.Proofs.YtekkpfbjnjjcbaaDoor
end
section
set_option linter.unusedVariables false
set_option linter.unusedSimpArgs false
set_option linter.unusedSectionVars false
namespace Go.Proofs.YtekkpfbjnjjcbaaDoor
open Go.Ac Go.MapKept
attribute [local irreducible] awp awpL Ev Ev2 EvS thenQ blockQ retQ PCalls OCalls YieldOk IterC ICalls
set_option linter.unusedSimpArgs false
set_option linter.unusedVariables false
variable {g : List (Nat × List AV)}
def nextR (r : Replica) (note : Int) : Stamp × Op × Int := match addedO r.ops note with
  | none => (⟨0, 0⟩, zeroOp, 9)
  | some a => match lives r.ops note with
    | false => (⟨0, 0⟩, a, 26)
    | true => match nextS r.seen r.dev with
      | none => (⟨0, 0⟩, a, 27)
      | some s => (s, a, 0)
def nextV (p : Stamp × Op × Int) : AV := .tup [.agg (stampC p.1), .agg (opC p.2.1), vi p.2.2]
end Go.Proofs.YtekkpfbjnjjcbaaDoor
end
section
set_option linter.unusedVariables false
set_option linter.unusedSimpArgs false
set_option linter.unusedSectionVars false
namespace Go.Proofs.YtekkpfbjnjjcbaaDoor
open Go.Ac Go.MapKept
attribute [local irreducible] awp awpL Ev Ev2 EvS thenQ blockQ retQ PCalls OCalls YieldOk IterC ICalls
set_option linter.unusedSimpArgs false
set_option linter.unusedVariables false
variable {g : List (Nat × List AV)}
def inF (l : List Op) (note : Int) (x : Op) (f : Int) : Bool := (atsV (valuesL l note f)).any fun q => decide (q = x.at_)
end Go.Proofs.YtekkpfbjnjjcbaaDoor
end
section
set_option linter.unusedVariables false
set_option linter.unusedSimpArgs false
set_option linter.unusedSectionVars false
namespace Go.Proofs.YtekkpfbjnjjcbaaDoor
open Go.Ac Go.MapKept
attribute [local irreducible] awp awpL Ev Ev2 EvS thenQ blockQ retQ PCalls OCalls YieldOk IterC
set_option linter.unusedSimpArgs false
set_option linter.unusedVariables false
variable {g : List (Nat × List AV)}
set_option maxRecDepth 4000 in
set_option maxHeartbeats 2000000 in
theorem EqualFunc_spec (a b : List Op) (ha : FitO a) (hb : FitO b) : PCalls Tryd.prog g 29 [encOps a, encOps b, .fn 30 [] []] (vb (decide (a = b))) := by
  have hal := ha.1
  have hbl := hb.1
  have n1 : (!true) = false := rfl
  have n2 : (!false) = true := rfl
  refine pcalls' Tryd.func29 Tryd.ntmps29 rfl rfl rfl ?_
  by_cases hl : a.length = b.length
  · have c0 : (!decide ((a.length : Int) = b.length)) = false := by simp; omega
    repeat' (first
     | refine stn [] ?_
     | ((with_reducible refine is_gd ?_); refine awpL_split rfl rfl (fun h => ?_) (fun h => ?_))
     | ((with_reducible refine is_awp ?_); refine awp_cond rfl (fun h => ?_) (fun h => ?_))
     | fail)
    refine awp_for (α := Nat) 0 (fun k => [(1, encOps b), (2, .fn 30 [] []), (15, encOps a), (16, vi a.length), (17, vi k)]) (fun _ => []) (fun k => k ≤ a.length ∧ a.take k = b.take k) (fun k => a.length - k) 0
      ⟨(.cons rfl rfl (.cons rfl rfl (.cons rfl rfl (.cons rfl rfl (.cons rfl rfl .nil))))), rfl, rfl, rfl⟩ ⟨Nat.zero_le _, rfl⟩ ?_
    rintro k ⟨hk, hf⟩
    cases ht : a[k]? with
    | none =>
      have hge : a.length ≤ k := by simpa using ht
      have c1 : decide ((k : Int) < a.length) = false := decide_eq_false (by omega)
      have he : a = b := by
        rw [List.take_of_length_le hge, List.take_of_length_le (by omega)] at hf; exact hf
      repeat' (first
       | refine stn [] ?_
       | ((with_reducible refine is_gd ?_); refine awpL_split rfl rfl (fun h => ?_) (fun h => ?_))
       | ((with_reducible refine is_awp ?_); refine awp_cond rfl (fun h => ?_) (fun h => ?_))
       | fail)
      refine retP rfl ?_
      simp [ex, he]
    | some x =>
      have hlt : k < a.length := (List.getElem?_eq_some_iff.1 ht).1
      obtain ⟨y, hy⟩ : ∃ y, b[k]? = some y := ⟨_, List.getElem?_eq_getElem (by omega)⟩
      have c1 : decide ((k : Int) < a.length) = true := decide_eq_true (by omega)
      have h1 := op_get ht
      have h2 := op_get hy
      have hS := Same_spec (g := g) x y (by have := ha.2 x (List.mem_of_getElem? ht); omega) (by have := hb.2 y (List.mem_of_getElem? hy); omega)
      by_cases hxy : x = y
      · rw [decide_eq_true hxy] at hS
        repeat' (first
         | ((with_reducible refine is_un ?_); refine awpL_callF rfl rfl rfl hS rfl ?_)
         | refine stn [] ?_
         | ((with_reducible refine is_gd ?_); refine awpL_split rfl rfl (fun h => ?_) (fun h => ?_))
         | ((with_reducible refine is_awp ?_); refine awp_cond rfl (fun h => ?_) (fun h => ?_))
         | fail)
        exact ⟨k + 1, ⟨(.cons rfl rfl (.cons rfl rfl (.cons rfl rfl (.cons rfl rfl (.cons rfl rfl .nil))))), rfl, rfl, rfl⟩, ⟨by omega, by rw [List.take_add_one, List.take_add_one, hf, ht, hy, hxy]⟩, by omega⟩
      · rw [decide_eq_false hxy] at hS
        repeat' (first
         | ((with_reducible refine is_un ?_); refine awpL_callF rfl rfl rfl hS rfl ?_)
         | refine stn [] ?_
         | ((with_reducible refine is_gd ?_); refine awpL_split rfl rfl (fun h => ?_) (fun h => ?_))
         | ((with_reducible refine is_awp ?_); refine awp_cond rfl (fun h => ?_) (fun h => ?_))
         | fail)
        refine retP rfl ?_
        have : a ≠ b := fun e => hxy (by rw [e, hy] at ht; exact (Option.some.inj ht).symm)
        simp [ex, this]
  · have c0 : (!decide ((a.length : Int) = b.length)) = true := by simp; omega
    repeat' (first
     | refine stn [] ?_
     | ((with_reducible refine is_gd ?_); refine awpL_split rfl rfl (fun h => ?_) (fun h => ?_))
     | ((with_reducible refine is_awp ?_); refine awp_cond rfl (fun h => ?_) (fun h => ?_))
     | fail)
    refine retP rfl ?_
    have : a ≠ b := fun e => hl (by rw [e])
    simp [ex, this]
theorem rep_eq (a b : Replica) : decide (a = b) = (decide (a.dev = b.dev) && (decide (a.seen = b.seen) && decide (a.ops = b.ops))) := by
  rcases a with ⟨a1, a2, a3⟩
  rcases b with ⟨b1, b2, b3⟩
  simp only [Replica.mk.injEq, Bool.decide_and]
theorem SameRep_spec (a b : Replica) (ha : FitO a.ops) (hb : FitO b.ops) (sa : a.seen.length ≤ 1000000) (sb : b.seen.length ≤ 1000000) : PCalls Tryd.prog g 15 [.agg (repC a), .agg (repC b)] (vb (decide (a = b))) := by
  have hE := eqInts_spec (g := g) a.seen b.seen sa sb
  have hO := EqualFunc_spec (g := g) a.ops b.ops ha hb
  rw [rep_eq]
  refine pcalls' Tryd.func15 Tryd.ntmps15 rfl rfl rfl ?_
  cases d1 : decide (a.dev = b.dev) with
  | false =>
    repeat' (first
     | refine stn [] ?_
     | ((with_reducible refine is_gd ?_); refine awpL_split rfl rfl (fun h => ?_) (fun h => ?_))
     | ((with_reducible refine is_awp ?_); refine awp_cond rfl (fun h => ?_) (fun h => ?_))
     | fail)
    exact retP rfl rfl
  | true =>
  cases d2 : decide (a.seen = b.seen) with
  | false =>
    rw [d2] at hE
    repeat' (first
     | refine stn [] ?_
     | ((with_reducible refine is_gd ?_); refine awpL_split rfl rfl (fun h => ?_) (fun h => ?_))
     | ((with_reducible refine is_awp ?_); refine awp_cond rfl (fun h => ?_) (fun h => ?_))
     | fail)
    exact retP rfl rfl
  | true =>
  rw [d2] at hE
  cases d3 : decide (a.ops = b.ops) with
  | false =>
    rw [d3] at hO
    repeat' (first
     | refine stn [] ?_
     | ((with_reducible refine is_gd ?_); refine awpL_split rfl rfl (fun h => ?_) (fun h => ?_))
     | ((with_reducible refine is_awp ?_); refine awp_cond rfl (fun h => ?_) (fun h => ?_))
     | fail)
    exact retP rfl rfl
  | true =>
    rw [d3] at hO
    repeat' (first
     | refine stn [] ?_
     | ((with_reducible refine is_gd ?_); refine awpL_split rfl rfl (fun h => ?_) (fun h => ?_))
     | ((with_reducible refine is_awp ?_); refine awp_cond rfl (fun h => ?_) (fun h => ?_))
     | fail)
    exact retP rfl rfl
end Go.Proofs.YtekkpfbjnjjcbaaDoor
end
section
set_option linter.unusedVariables false
set_option linter.unusedSimpArgs false
set_option linter.unusedSectionVars false
namespace Go.Proofs.YtekkpfbjnjjcbaaDoor
open Go.Ac
attribute [local irreducible] awp awpL Ev Ev2 EvS thenQ blockQ retQ PCalls OCalls YieldOk IterC
set_option linter.unusedSimpArgs false
set_option linter.unusedVariables false
variable {g : List (Nat × List AV)}
def valEq : List Value → List Value → Option Bool
  | [.int .i64 a, .int .i64 b, .int .i64 c, .string s], [.int .i64 a', .int .i64 b', .int .i64 c', .string s'] => some ((a == a' && b == b') && (c == c' && s.toList == s'.toList))
  | _, _ => none
theorem note_eqb (a b : Note) : ((a.id == b.id && (a.tier == b.tier && (a.parent == b.parent && ((a.span.fro == b.span.fro && a.span.til == b.span.til) && (a.rank == b.rank && a.text.toList == b.text.toList)))))) = decide (a = b) := by
  have hb : ∀ s t : ByteArray, (s.toList == t.toList) = decide (s = t) := beq_bytes
  have hi : ∀ (a b : Int), (a == b) = decide (a = b) := fun a b => by by_cases h : a = b <;> simp [h]
  rcases a with ⟨a1, a2, a3, ⟨a4, a5⟩, a6, a7⟩
  rcases b with ⟨b1, b2, b3, ⟨b4, b5⟩, b6, b7⟩
  simp only [hb, hi, Note.mk.injEq, Span.mk.injEq, Bool.decide_and]
def FitC (c : Cell) : Prop := c.text.length ≤ 100000 ∧ c.fro.length ≤ 100000 ∧ c.til.length ≤ 100000
def FitCs (l : List Cell) : Prop := l.length ≤ 100000 ∧ ∀ c ∈ l, FitC c
end Go.Proofs.YtekkpfbjnjjcbaaDoor
end
section
set_option linter.unusedVariables false
set_option linter.unusedSimpArgs false
set_option linter.unusedSectionVars false
namespace Go.Proofs.YtekkpfbjnjjcbaaDoor
open Go.Ac Go.MapKept
attribute [local irreducible] awp awpL Ev Ev2 EvS thenQ blockQ retQ PCalls OCalls YieldOk IterC
set_option linter.unusedSimpArgs false
set_option linter.unusedVariables false
variable {g : List (Nat × List AV)}
abbrev lastV (o : Option Val) : AV := .tup [.agg (valC (o.getD zeroVal)), vb o.isSome]
theorem last_val {l : List Val} {p : Val} (h : l.getLast? = some p) : 0 < l.length ∧ 0 ≤ (l.length : Int) - 1 ∧ (l.map valC)[((l.length : Int) - 1).toNat]? = some (valC p) := by
  rw [List.getLast?_eq_getElem?] at h
  have hpos : 0 < l.length := by
    cases l with
    | nil => simp at h
    | cons x r => simp
  refine ⟨hpos, by omega, ?_⟩
  rw [show ((l.length : Int) - 1).toNat = l.length - 1 by omega, List.getElem?_map, h]; rfl
theorem last_nil {l : List Val} (h : l.getLast? = none) : l.length = 0 := by simpa using h
set_option maxHeartbeats 1000000 in
theorem last_spec (l : List Val) (hl : l.length ≤ 1000000) : PCalls Tryd.prog g 27 [encVals l] (lastV l.getLast?) := by
  refine pcalls' Tryd.func27 Tryd.ntmps27 rfl rfl rfl ?_
  cases hq : l.getLast? with
  | none =>
    have c1 : decide ((l.length : Int) = 0) = true := decide_eq_true (by have := last_nil hq; omega)
    repeat' (first
     | refine stn [2] ?_
     | ((with_reducible refine is_gd ?_); refine awpL_split rfl rfl (fun h => ?_) (fun h => ?_))
     | ((with_reducible refine is_awp ?_); refine awp_cond rfl (fun h => ?_) (fun h => ?_))
     | fail)
    exact retP rfl rfl
  | some p =>
    obtain ⟨h1, h2⟩ := last_val hq
    have c1 : decide ((l.length : Int) = 0) = false := decide_eq_false (by omega)
    repeat' (first
     | refine stn [2] ?_
     | ((with_reducible refine is_gd ?_); refine awpL_split rfl rfl (fun h => ?_) (fun h => ?_))
     | ((with_reducible refine is_awp ?_); refine awp_cond rfl (fun h => ?_) (fun h => ?_))
     | fail)
    exact retP rfl rfl
set_option maxRecDepth 8000 in
set_option maxHeartbeats 4000000 in
theorem Current_spec (c : Cell) (hc : FitC c) : PCalls Tryd.prog g 12 [.agg (cellC c)] (.agg (noteC (current c))) := by
  obtain ⟨k0, k1, k2⟩ := hc
  have l0 := last_spec (g := g) c.text (by omega)
  have l1 := last_spec (g := g) c.fro (by omega)
  have l2 := last_spec (g := g) c.til (by omega)
  refine pcalls' Tryd.func12 Tryd.ntmps12 rfl rfl rfl ?_
  cases q0 : c.text.getLast? with
  | none =>
    rw [lastV, q0] at l0
    simp only [Option.getD_none, Option.isSome_none] at l0
    cases q1 : c.fro.getLast? with
    | none =>
      rw [lastV, q1] at l1
      simp only [Option.getD_none, Option.isSome_none] at l1
      cases q2 : c.til.getLast? with
      | none =>
        rw [lastV, q2] at l2
        simp only [Option.getD_none, Option.isSome_none] at l2
        repeat' (first
         | refine stn [2, 3] ?_
         | ((with_reducible refine is_gd ?_); refine awpL_split rfl rfl (fun h => ?_) (fun h => ?_))
         | ((with_reducible refine is_awp ?_); refine awp_cond rfl (fun h => ?_) (fun h => ?_))
         | fail)
        refine retP rfl ?_
        unfold current
        simp only [q0, q1, q2]
        rfl
      | some p2 =>
        rw [lastV, q2] at l2
        simp only [Option.getD_some, Option.isSome_some] at l2
        repeat' (first
         | refine stn [2, 3] ?_
         | ((with_reducible refine is_gd ?_); refine awpL_split rfl rfl (fun h => ?_) (fun h => ?_))
         | ((with_reducible refine is_awp ?_); refine awp_cond rfl (fun h => ?_) (fun h => ?_))
         | fail)
        refine retP rfl ?_
        unfold current
        simp only [q0, q1, q2]
        rfl
    | some p1 =>
      rw [lastV, q1] at l1
      simp only [Option.getD_some, Option.isSome_some] at l1
      cases q2 : c.til.getLast? with
      | none =>
        rw [lastV, q2] at l2
        simp only [Option.getD_none, Option.isSome_none] at l2
        repeat' (first
         | refine stn [2, 3] ?_
         | ((with_reducible refine is_gd ?_); refine awpL_split rfl rfl (fun h => ?_) (fun h => ?_))
         | ((with_reducible refine is_awp ?_); refine awp_cond rfl (fun h => ?_) (fun h => ?_))
         | fail)
        refine retP rfl ?_
        unfold current
        simp only [q0, q1, q2]
        rfl
      | some p2 =>
        rw [lastV, q2] at l2
        simp only [Option.getD_some, Option.isSome_some] at l2
        repeat' (first
         | refine stn [2, 3] ?_
         | ((with_reducible refine is_gd ?_); refine awpL_split rfl rfl (fun h => ?_) (fun h => ?_))
         | ((with_reducible refine is_awp ?_); refine awp_cond rfl (fun h => ?_) (fun h => ?_))
         | fail)
        refine retP rfl ?_
        unfold current
        simp only [q0, q1, q2]
        rfl
  | some p0 =>
    rw [lastV, q0] at l0
    simp only [Option.getD_some, Option.isSome_some] at l0
    cases q1 : c.fro.getLast? with
    | none =>
      rw [lastV, q1] at l1
      simp only [Option.getD_none, Option.isSome_none] at l1
      cases q2 : c.til.getLast? with
      | none =>
        rw [lastV, q2] at l2
        simp only [Option.getD_none, Option.isSome_none] at l2
        repeat' (first
         | refine stn [2, 3] ?_
         | ((with_reducible refine is_gd ?_); refine awpL_split rfl rfl (fun h => ?_) (fun h => ?_))
         | ((with_reducible refine is_awp ?_); refine awp_cond rfl (fun h => ?_) (fun h => ?_))
         | fail)
        refine retP rfl ?_
        unfold current
        simp only [q0, q1, q2]
        rfl
      | some p2 =>
        rw [lastV, q2] at l2
        simp only [Option.getD_some, Option.isSome_some] at l2
        repeat' (first
         | refine stn [2, 3] ?_
         | ((with_reducible refine is_gd ?_); refine awpL_split rfl rfl (fun h => ?_) (fun h => ?_))
         | ((with_reducible refine is_awp ?_); refine awp_cond rfl (fun h => ?_) (fun h => ?_))
         | fail)
        refine retP rfl ?_
        unfold current
        simp only [q0, q1, q2]
        rfl
    | some p1 =>
      rw [lastV, q1] at l1
      simp only [Option.getD_some, Option.isSome_some] at l1
      cases q2 : c.til.getLast? with
      | none =>
        rw [lastV, q2] at l2
        simp only [Option.getD_none, Option.isSome_none] at l2
        repeat' (first
         | refine stn [2, 3] ?_
         | ((with_reducible refine is_gd ?_); refine awpL_split rfl rfl (fun h => ?_) (fun h => ?_))
         | ((with_reducible refine is_awp ?_); refine awp_cond rfl (fun h => ?_) (fun h => ?_))
         | fail)
        refine retP rfl ?_
        unfold current
        simp only [q0, q1, q2]
        rfl
      | some p2 =>
        rw [lastV, q2] at l2
        simp only [Option.getD_some, Option.isSome_some] at l2
        repeat' (first
         | refine stn [2, 3] ?_
         | ((with_reducible refine is_gd ?_); refine awpL_split rfl rfl (fun h => ?_) (fun h => ?_))
         | ((with_reducible refine is_awp ?_); refine awp_cond rfl (fun h => ?_) (fun h => ?_))
         | fail)
        refine retP rfl ?_
        unfold current
        simp only [q0, q1, q2]
        rfl
set_option maxRecDepth 8000 in
set_option maxHeartbeats 4000000 in
theorem rCurrent_spec (c : Cell) (hc : FitC c) : PCalls Tryd.prog g 13 [.agg (cellC c)] (.agg (noteC (current c))) := by
  obtain ⟨k0, k1, k2⟩ := hc
  refine pcalls' Tryd.func13 Tryd.ntmps13 rfl rfl rfl ?_
  cases q0 : c.text.getLast? with
  | none =>
    have d0 : decide ((0 : Int) < c.text.length) = false := decide_eq_false (by have := last_nil q0; omega)
    cases q1 : c.fro.getLast? with
    | none =>
      have d1 : decide ((0 : Int) < c.fro.length) = false := decide_eq_false (by have := last_nil q1; omega)
      cases q2 : c.til.getLast? with
      | none =>
        have d2 : decide ((0 : Int) < c.til.length) = false := decide_eq_false (by have := last_nil q2; omega)
        repeat' (first
         | refine stn [2, 3] ?_
         | ((with_reducible refine is_gd ?_); refine awpL_split rfl rfl (fun h => ?_) (fun h => ?_))
         | ((with_reducible refine is_awp ?_); refine awp_cond rfl (fun h => ?_) (fun h => ?_))
         | fail)
        refine retP rfl ?_
        unfold current
        simp only [q0, q1, q2]
        rfl
      | some p2 =>
        obtain ⟨a2, b2⟩ := last_val q2
        have d2 : decide ((0 : Int) < c.til.length) = true := decide_eq_true (by omega)
        repeat' (first
         | refine stn [2, 3] ?_
         | ((with_reducible refine is_gd ?_); refine awpL_split rfl rfl (fun h => ?_) (fun h => ?_))
         | ((with_reducible refine is_awp ?_); refine awp_cond rfl (fun h => ?_) (fun h => ?_))
         | fail)
        refine retP rfl ?_
        unfold current
        simp only [q0, q1, q2]
        rfl
    | some p1 =>
      obtain ⟨a1, b1⟩ := last_val q1
      have d1 : decide ((0 : Int) < c.fro.length) = true := decide_eq_true (by omega)
      cases q2 : c.til.getLast? with
      | none =>
        have d2 : decide ((0 : Int) < c.til.length) = false := decide_eq_false (by have := last_nil q2; omega)
        repeat' (first
         | refine stn [2, 3] ?_
         | ((with_reducible refine is_gd ?_); refine awpL_split rfl rfl (fun h => ?_) (fun h => ?_))
         | ((with_reducible refine is_awp ?_); refine awp_cond rfl (fun h => ?_) (fun h => ?_))
         | fail)
        refine retP rfl ?_
        unfold current
        simp only [q0, q1, q2]
        rfl
      | some p2 =>
        obtain ⟨a2, b2⟩ := last_val q2
        have d2 : decide ((0 : Int) < c.til.length) = true := decide_eq_true (by omega)
        repeat' (first
         | refine stn [2, 3] ?_
         | ((with_reducible refine is_gd ?_); refine awpL_split rfl rfl (fun h => ?_) (fun h => ?_))
         | ((with_reducible refine is_awp ?_); refine awp_cond rfl (fun h => ?_) (fun h => ?_))
         | fail)
        refine retP rfl ?_
        unfold current
        simp only [q0, q1, q2]
        rfl
  | some p0 =>
    obtain ⟨a0, b0⟩ := last_val q0
    have d0 : decide ((0 : Int) < c.text.length) = true := decide_eq_true (by omega)
    cases q1 : c.fro.getLast? with
    | none =>
      have d1 : decide ((0 : Int) < c.fro.length) = false := decide_eq_false (by have := last_nil q1; omega)
      cases q2 : c.til.getLast? with
      | none =>
        have d2 : decide ((0 : Int) < c.til.length) = false := decide_eq_false (by have := last_nil q2; omega)
        repeat' (first
         | refine stn [2, 3] ?_
         | ((with_reducible refine is_gd ?_); refine awpL_split rfl rfl (fun h => ?_) (fun h => ?_))
         | ((with_reducible refine is_awp ?_); refine awp_cond rfl (fun h => ?_) (fun h => ?_))
         | fail)
        refine retP rfl ?_
        unfold current
        simp only [q0, q1, q2]
        rfl
      | some p2 =>
        obtain ⟨a2, b2⟩ := last_val q2
        have d2 : decide ((0 : Int) < c.til.length) = true := decide_eq_true (by omega)
        repeat' (first
         | refine stn [2, 3] ?_
         | ((with_reducible refine is_gd ?_); refine awpL_split rfl rfl (fun h => ?_) (fun h => ?_))
         | ((with_reducible refine is_awp ?_); refine awp_cond rfl (fun h => ?_) (fun h => ?_))
         | fail)
        refine retP rfl ?_
        unfold current
        simp only [q0, q1, q2]
        rfl
    | some p1 =>
      obtain ⟨a1, b1⟩ := last_val q1
      have d1 : decide ((0 : Int) < c.fro.length) = true := decide_eq_true (by omega)
      cases q2 : c.til.getLast? with
      | none =>
        have d2 : decide ((0 : Int) < c.til.length) = false := decide_eq_false (by have := last_nil q2; omega)
        repeat' (first
         | refine stn [2, 3] ?_
         | ((with_reducible refine is_gd ?_); refine awpL_split rfl rfl (fun h => ?_) (fun h => ?_))
         | ((with_reducible refine is_awp ?_); refine awp_cond rfl (fun h => ?_) (fun h => ?_))
         | fail)
        refine retP rfl ?_
        unfold current
        simp only [q0, q1, q2]
        rfl
      | some p2 =>
        obtain ⟨a2, b2⟩ := last_val q2
        have d2 : decide ((0 : Int) < c.til.length) = true := decide_eq_true (by omega)
        repeat' (first
         | refine stn [2, 3] ?_
         | ((with_reducible refine is_gd ?_); refine awpL_split rfl rfl (fun h => ?_) (fun h => ?_))
         | ((with_reducible refine is_awp ?_); refine awp_cond rfl (fun h => ?_) (fun h => ?_))
         | fail)
        refine retP rfl ?_
        unfold current
        simp only [q0, q1, q2]
        rfl
end Go.Proofs.YtekkpfbjnjjcbaaDoor
end
section
set_option linter.unusedVariables false
set_option linter.unusedSimpArgs false
set_option linter.unusedSectionVars false
namespace Go.Proofs.YtekkpfbjnjjcbaaDoor
open Go.Ac Go.MapKept
attribute [local irreducible] awp awpL Ev Ev2 EvS thenQ blockQ retQ PCalls OCalls YieldOk IterC ICalls
set_option linter.unusedSimpArgs false
set_option linter.unusedVariables false
theorem New_spec {g : List (Nat × List AV)} (dev : Int) : PCalls Tryd.prog g 6 [vi dev] (mergeV (newR dev)) := by
  have hJ := JoinP_nn (g := g)
  refine pcalls' Tryd.func6 Tryd.ntmps6 rfl rfl rfl ?_
  by_cases h1 : dev < 1
  · have c1 : decide (dev < 1) = true := decide_eq_true h1
    rw [show newR dev = (zeroRep, 1) by unfold newR; rw [if_neg (by simp [within]; omega)]; rfl]
    repeat' (first
     | refine stn [2] ?_
     | ((with_reducible refine is_gd ?_); refine awpL_split rfl rfl (fun h => ?_) (fun h => ?_))
     | ((with_reducible refine is_awp ?_); refine awp_cond rfl (fun h => ?_) (fun h => ?_))
     | fail)
    exact retLe rfl (le_zeroM _)
  have c1 : decide (dev < 1) = false := decide_eq_false h1
  by_cases h2 : 15 < dev
  · have c2 : decide (15 < dev) = true := decide_eq_true h2
    rw [show newR dev = (zeroRep, 1) by unfold newR; rw [if_neg (by simp [within]; omega)]; rfl]
    repeat' (first
     | refine stn [2] ?_
     | ((with_reducible refine is_gd ?_); refine awpL_split rfl rfl (fun h => ?_) (fun h => ?_))
     | ((with_reducible refine is_awp ?_); refine awp_cond rfl (fun h => ?_) (fun h => ?_))
     | fail)
    exact retLe rfl (le_zeroM _)
  have c2 : decide (15 < dev) = false := decide_eq_false h2
  rw [show newR dev = (⟨dev, seenL [], []⟩, 0) by unfold newR; rw [if_pos (by simp [within]; omega)]; rfl]
  repeat' (first
   | refine stn [2] ?_
   | ((with_reducible refine is_gd ?_); refine awpL_split rfl rfl (fun h => ?_) (fun h => ?_))
   | ((with_reducible refine is_awp ?_); refine awp_cond rfl (fun h => ?_) (fun h => ?_))
   | fail)
  exact retLe rfl (Le.tup (.cons (Le.agg (.cons (Le.rfl' _) (.cons (Le.rfl' _) (.cons (Le.nil 15) .nil)))) (.cons (Le.rfl' _) .nil)))
end Go.Proofs.YtekkpfbjnjjcbaaDoor
end
section
set_option linter.unusedVariables false
set_option linter.unusedSimpArgs false
set_option linter.unusedSectionVars false
namespace Go.Proofs.YtekkpfbjnjjcbaaDoor
open Go.Ac Go.MapKept
attribute [local irreducible] awp awpL Ev Ev2 EvS thenQ blockQ retQ PCalls OCalls YieldOk IterC ICalls
set_option linter.unusedSimpArgs false
set_option linter.unusedVariables false
def Held (l : List Op) : Prop := ∀ o ∈ l, (o.text.size : Int) ≤ 281474976710656 ∧ (o.note.text.size : Int) ≤ 281474976710656 ∧ (o.over.length : Int) ≤ 281474976710656
theorem sizeF_le {n : Int} {o : Op} (h : (o.text.size : Int) ≤ 281474976710656 ∧ (o.note.text.size : Int) ≤ 281474976710656 ∧ (o.over.length : Int) ≤ 281474976710656) : n ≤ sizeF n o ∧ sizeF n o ≤ n + 900000000000000 := by
  unfold sizeF; omega
theorem sizeL_le {l : List Op} (h : Held l) : 0 ≤ sizeL l ∧ sizeL l ≤ (l.length : Int) * 900000000000000 := by
  have H : ∀ (k : List Op) (n : Int), (∀ o ∈ k, o ∈ l) → n ≤ k.foldl sizeF n ∧ k.foldl sizeF n ≤ n + (k.length : Int) * 900000000000000 := by
    intro k
    induction k with
    | nil => intro n _; simp
    | cons o r ih =>
      intro n hk
      obtain ⟨h1, h2⟩ := sizeF_le (n := n) (h o (hk o (List.mem_cons_self ..)))
      obtain ⟨h3, h4⟩ := ih (sizeF n o) (fun p hp => hk p (List.mem_cons_of_mem _ hp))
      simp only [List.foldl_cons, List.length_cons]
      omega
  have := H l 0 (fun o h => h)
  unfold sizeL
  omega
set_option maxRecDepth 4000 in
set_option maxHeartbeats 2000000 in
theorem size_spec {g : List (Nat × List AV)} (l : List Op) (hl : l.length ≤ 420) (hh : Held l) : PCalls Tryd.prog g 28 [encOps l] (vi (sizeL l)) := by
  refine pcalls' Tryd.func28 Tryd.ntmps28 rfl rfl rfl ?_
  repeat' (first
   | refine stn [] ?_
   | ((with_reducible refine is_gd ?_); refine awpL_split rfl rfl (fun h => ?_) (fun h => ?_))
   | ((with_reducible refine is_awp ?_); refine awp_cond rfl (fun h => ?_) (fun h => ?_))
   | fail)
  refine awp_for (α := Nat) 0 (fun k => [(0, encOps l), (3, vi (sizeL (l.take k))), (4, vi k)]) (fun _ => []) (fun k => k ≤ l.length) (fun k => l.length - k) 0
    ⟨(.cons rfl rfl (.cons rfl rfl (.cons rfl rfl .nil))), rfl, rfl, rfl⟩ (Nat.zero_le _) ?_
  rintro k hk
  cases ht : l[k]? with
  | none =>
    have hge : l.length ≤ k := by simpa using ht
    have c1 : decide ((k : Int) < l.length) = false := decide_eq_false (by omega)
    rw [List.take_of_length_le hge]
    repeat' (first
     | refine stn [] ?_
     | ((with_reducible refine is_gd ?_); refine awpL_split rfl rfl (fun h => ?_) (fun h => ?_))
     | ((with_reducible refine is_awp ?_); refine awp_cond rfl (fun h => ?_) (fun h => ?_))
     | fail)
    exact retP rfl rfl
  | some x =>
    have hlt : k < l.length := (List.getElem?_eq_some_iff.1 ht).1
    have c1 : decide ((k : Int) < l.length) = true := decide_eq_true (by omega)
    have h1 := op_get ht
    have hx := hh x (List.mem_of_getElem? ht)
    have hb := sizeL_le (l := l.take k) (fun o ho => hh o (List.mem_of_mem_take ho))
    have hbl : ((l.take k).length : Int) ≤ 420 := by rw [List.length_take]; omega
    have hS : sizeL (l.take (k + 1)) = sizeL (l.take k) + 20 + (x.text.size : Int) + (x.note.text.size : Int) + (x.over.length : Int) := by rw [List.take_add_one, ht, Option.toList_some, sizeL_snoc]; rfl
    generalize sizeL (l.take k) = n at hb hS ⊢
    have hn : 0 ≤ n ∧ n ≤ 400000000000000000 := by omega
    repeat' (first
     | ((with_reducible refine is_draw ?_); refine awp_drawT 24 (by simp only [List.take_succ_cons, List.take_zero, List.take_nil]; rfl) (by simp only [List.drop_succ_cons, List.drop_zero, List.drop_nil]; rfl) (by kernel_rfl) rfl rfl rfl rfl (by repeat' (first | exact Strip.nil | apply Strip.keep rfl | apply Strip.drop rfl)) ?_)
     | refine st [] ?_
     | ((with_reducible refine is_gd ?_); refine awpL_split rfl rfl (fun h => ?_) (fun h => ?_))
     | ((with_reducible refine isD_gd ?_); ((fail_if_success (refine isD_kn (c := true) rfl (by first | with_reducible rfl | with_reducible assumption) ?_)); (fail_if_success (refine isD_kn (c := false) rfl (by first | with_reducible rfl | with_reducible assumption) ?_)); refine awpD_split rfl (fun h => ?_) (fun h => ?_)))
     | ((with_reducible refine is_awp ?_); refine awp_cond rfl (fun h => ?_) (fun h => ?_))
     | fail)
    exact ⟨k + 1, by rw [hS]; exact ⟨(.cons rfl rfl (.cons rfl rfl (.cons rfl rfl .nil))), rfl, rfl, rfl⟩, by omega, by omega⟩
theorem few_spec {g : List (Nat × List AV)} (r : Replica) (hh : Held r.ops) : PCalls Tryd.prog g 14 [.agg (repC r)] (vb (fewR r)) := by
  refine pcalls' Tryd.func14 Tryd.ntmps14 rfl rfl rfl ?_
  by_cases h1 : r.seen.length ≤ 100
  · have c1 : decide ((r.seen.length : Int) ≤ 100) = true := decide_eq_true (by omega)
    by_cases h2 : r.ops.length ≤ 420
    · have c2 : decide ((r.ops.length : Int) ≤ 420) = true := decide_eq_true (by omega)
      have hS := size_spec (g := g) r.ops h2 hh
      repeat' (first
       | refine stn [] ?_
       | ((with_reducible refine is_gd ?_); refine awpL_split rfl rfl (fun h => ?_) (fun h => ?_))
       | ((with_reducible refine is_awp ?_); refine awp_cond rfl (fun h => ?_) (fun h => ?_))
       | fail)
      refine retP rfl ?_
      simp [ex, fewR, h1, h2]
    · have c2 : decide ((r.ops.length : Int) ≤ 420) = false := decide_eq_false (by omega)
      repeat' (first
       | refine stn [] ?_
       | ((with_reducible refine is_gd ?_); refine awpL_split rfl rfl (fun h => ?_) (fun h => ?_))
       | ((with_reducible refine is_awp ?_); refine awp_cond rfl (fun h => ?_) (fun h => ?_))
       | fail)
      refine retP rfl ?_
      simp [ex, fewR, h2]
  · have c1 : decide ((r.seen.length : Int) ≤ 100) = false := decide_eq_false (by omega)
    repeat' (first
     | refine stn [] ?_
     | ((with_reducible refine is_gd ?_); refine awpL_split rfl rfl (fun h => ?_) (fun h => ?_))
     | ((with_reducible refine is_awp ?_); refine awp_cond rfl (fun h => ?_) (fun h => ?_))
     | fail)
    refine retP rfl ?_
    simp [ex, fewR, h1]
end Go.Proofs.YtekkpfbjnjjcbaaDoor
end
section
set_option linter.unusedVariables false
set_option linter.unusedSimpArgs false
set_option linter.unusedSectionVars false
namespace Go.Ac
section
variable {P : Program} {td : TDs} [T : TOK P td] {G : Glo} {N : Nat} {S : SL} {L : List LB} {ty : TypeId} {x : AV}
theorem LF_get {F : Nat → Prop} {w : World} : ∀ {cs : List AV} {ys : List Value} {j : Nat} {x : AV}, LF F w cs ys → cs[j]? = some x → ∃ y, ys[j]? = some y ∧ RF F w x y
  | [], _, j, x, _, h => by simp at h
  | c :: r, ys, j, x, h, hj => by
    simp only [LF] at h
    obtain ⟨y, s, rfl, hx, _, h⟩ := h
    cases j with
    | zero => simp at hj; subst hj; exact ⟨y, rfl, hx⟩
    | succ j => obtain ⟨y', q1, q2⟩ := LF_get (j := j) h (by simpa using hj); exact ⟨y', by simpa using q1, q2⟩
theorem struct_desc {t : Nat} {d : TD} {fs : List (TypeId × Nat)} (ht : lk td t = some d) (hs : d.k = .struct fs) : ∃ fields : Array Field, P.underlying t = some (.struct fields) ∧ fs = fields.toList.map fun f => (f.type, f.offset) := by
  obtain ⟨i, u, z, h1, h2, h3, h4, h5, h6, h7⟩ := tok_parts (P := P) ht
  rw [hs] at h4
  cases u <;> simp only [tk, reduceCtorEq, TK.struct.injEq] at h4
  rename_i fields
  exact ⟨fields, h2, h4.symm⟩
theorem ev_fld_one {t : Nat} {d fd : TD} {fs : List (TypeId × Nat)} {f ft off : Nat} {u : Operand} {cs : List AV} (h : val G S u = some (.agg cs)) (ht : lk td t = some d) (hs : d.k = .struct fs) (hf : fs[f]? = some (ft, off))
    (hft : lk td ft = some fd) (hr : fd.k.row = false) (hx : cs[off]? = some x) : Ev P G N (.field t u f) ty S L x := by
  intro o ho _ cx a hc
  have e1 := val_R hc h
  simp only [R, RF] at e1
  obtain ⟨xs, e1, hl⟩ := e1
  obtain ⟨y, hy, hR⟩ := LF_get hl hx
  simp only [Array.getElem?_toList] at hy
  obtain ⟨fields, h2, rfl⟩ := struct_desc (P := P) ht hs
  simp only [List.getElem?_map, Array.getElem?_toList] at hf
  cases hq : fields[f]? with
  | none => simp [hq] at hf
  | some fl =>
    simp only [hq, Option.map_some, Option.some.injEq, Prod.mk.injEq] at hf
    obtain ⟨rfl, rfl⟩ := hf
    have hag := run_isAgg (P := P) hft cx.w
    rw [hr] at hag
    refine ⟨y, ?_, R.of_RF _ _ _ hR⟩
    simp [execOp, ho, e1, Instr.field, asAgg, run_underlying h2, Result.andThen, hq, part, hag, hy]
end
end Go.Ac
end
