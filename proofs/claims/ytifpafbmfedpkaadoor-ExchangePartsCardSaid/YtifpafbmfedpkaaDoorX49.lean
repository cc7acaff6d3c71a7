/- The law Parts. -/
import Derived.Test.YtifpafbmfedpkaaDoorX45
import Derived.Test.YtifpafbmfedpkaaDoorB10
namespace Go.Proofs.YtifpafbmfedpkaaDoor
open Go.Ac Go.MapKept
attribute [local irreducible] awp awpL Ev Ev2 EvS thenQ blockQ retQ PCalls OCalls YieldOk IterC ICalls
set_option linter.unusedSimpArgs false
set_option linter.unusedVariables false

theorem Rounds.fitM {a b x y : Replica} {i : Nat} (h : Rounds a b x y i) (hl : a.ops.length + b.ops.length ≤ 32) (ia : Ids a.ops) (ib : Ids b.ops) (s t : List Int) (n m : Int) : FitM x.ops (missing y.ops s n) ∧ FitM y.ops (missing x.ops t m) := by
  have h1 := h.len
  have l1 := missing_len y.ops s n
  have l2 := missing_len x.ops t m
  have fx := rep_fit h.c.rx
  have fy := rep_fit h.c.ry
  have ix : Ids x.ops := fun o ho => (h.xab o ho).elim (ia o) (ib o)
  have iy : Ids y.ops := fun o ho => (h.yab o ho).elim (ia o) (ib o)
  exact ⟨fitM_of fx.1 (missing_fit fy.1 _ _) (by omega) ix fun o ho => iy o (missing_mem ho), fitM_of fy.1 (missing_fit fx.1 _ _) (by omega) iy fun o ho => ix o (missing_mem ho)⟩
def partN : Option Int → Int
  | none => 1
  | some v => max 1 v
theorem partN_pos (o : Option Int) : 1 ≤ partN o := by
  cases o with
  | none => exact Int.le_refl _
  | some v => simp only [partN]; omega

set_option maxRecDepth 8000 in
set_option maxHeartbeats 8000000 in
theorem law_Parts (a b : Replica) (sizes : List Int) (ia : Ids a.ops) (ib : Ids b.ops) : PCalls Tryd.prog GL 10 [.agg (repC a), .agg (repC b), encIs sizes] (vb true) := by
  have hA := awake_spec
  have hLa := Light_spec (g := GL) a ia
  have hLb := Light_spec (g := GL) b ib
  have n1 : (!true) = false := rfl
  have n2 : (!false) = true := rfl
  refine pcalls' Tryd.func10 Tryd.ntmps10 rfl rfl rfl ?_
  cases la : light a with
  | false =>
    rw [la] at hLa
    refine runn [7, 8] ?_
    exact retP rfl rfl
  | true =>
  rw [la] at hLa
  cases lb : light b with
  | false =>
    rw [lb] at hLb
    refine runn [7, 8] ?_
    exact retP rfl rfl
  | true =>
  rw [lb] at hLb
  have fa := light_fit la
  have fb := light_fit lb
  have hCs := Consistent_spec (g := GL) a b fa fb
  cases hc : half a b && half b a with
  | false =>
    rw [hc] at hCs
    refine runn [7, 8] ?_
    exact retP rfl rfl
  | true =>
  rw [hc] at hCs
  by_cases hs : 20 < sizes.length
  · have c1 : decide ((20 : Int) < sizes.length) = true := decide_eq_true (by omega)
    refine runn [7, 8] ?_
    exact retP rfl rfl
  have c1 : decide ((20 : Int) < sizes.length) = false := decide_eq_false (by omega)
  have hCa := Copy_spec (g := GL) a fa
  have hCb := Copy_spec (g := GL) b fb
  rw [Bool.and_eq_true] at hc
  have hR0 := Rounds.zero la lb hc.1 hc.2
  have hl : a.ops.length + b.ops.length ≤ 32 := by have := (light_rep la).2.1; have := (light_rep lb).2.1; omega
  repeat' (first
   | refine st [7, 8] ?_
   | ((with_reducible refine is_awp ?_); refine awp_cond rfl (fun h => ?_) (fun h => ?_))
   | fail)
  refine awp_for3 (α := Nat) (β := Replica) (γ := Replica) 2 (fun k _ _ => [(2, encIs sizes), (3, .fp (repC a)), (4, .fp (repC b)), (7, .lp 0 0), (8, .lp 1 0), (9, vi k)]) (fun _ x y => [.box (repC x), .box (repC y)]) (fun k x y => k ≤ 20 ∧ Rounds a b x y k) (fun k _ _ => 20 - k) 0 a b
    ⟨(.cons rfl rfl (.cons rfl rfl (.cons rfl rfl (.cons rfl rfl (.cons rfl rfl (.cons rfl rfl .nil)))))), rfl, rfl, rfl⟩ ⟨Nat.zero_le _, hR0⟩ ?_
  rintro k x y ⟨hk, hR⟩
  have fx := rep_fit hR.c.rx
  have fy := rep_fit hR.c.ry
  have hCx := Copy_spec (g := GL) x fx
  have hCy := Copy_spec (g := GL) y fy
  by_cases hk2 : k < 20
  · have c2 : decide ((k : Int) < 20) = true := decide_eq_true (by omega)
    obtain ⟨n, hn⟩ : ∃ n, partN sizes[k]? = n := ⟨_, rfl⟩
    have hn1 := partN_pos sizes[k]?
    rw [hn] at hn1
    obtain ⟨e1, R1, b1⟩ := hR.left hl hn1
    have hMi := MissingP (g := GL) y x.seen n fy (by have := fx.2; omega)
    have mx := (hR.fitM hl ia ib x.seen [] n 0).1
    have hMe := Merge_spec x (missing y.ops x.seen n) mx (repE_inc hR.c.rx)
    rw [mergeV, e1] at hMe
    generalize (merge x (missing y.ops x.seen n)).1 = x1 at *
    obtain ⟨e2, R2⟩ := R1.right b1 hl hn1
    have fx1 := rep_fit R1.c.rx
    have hCx1 := Copy_spec (g := GL) x1 fx1
    have hMi2 := MissingP (g := GL) x1 y.seen n fx1 (by have := fy.2; omega)
    have my := (R1.fitM hl ia ib [] y.seen 0 n).2
    have hMe2 := Merge_spec y (missing x1.ops y.seen n) my (repE_inc R1.c.ry)
    rw [mergeV, e2] at hMe2
    generalize (merge y (missing x1.ops y.seen n)).1 = y1 at *
    have z0 : (!decide ((0 : Int) = 0)) = false := rfl
    cases hv : sizes[k]? with
    | none =>
      rw [hv] at hn
      subst hn
      have hge : sizes.length ≤ k := by simpa using hv
      have c3 : decide ((k : Int) < sizes.length) = false := decide_eq_false (by omega)
      refine run [7, 8] ?_
      exact ⟨k + 1, x1, y1, ⟨(.cons rfl rfl (.cons rfl rfl (.cons rfl rfl (.cons rfl rfl (.cons rfl rfl (.cons rfl rfl .nil)))))), rfl, rfl, rfl⟩, ⟨by omega, R2⟩, by omega⟩
    | some v =>
      rw [hv] at hn
      subst hn
      have hlt : k < sizes.length := (List.getElem?_eq_some_iff.1 hv).1
      have c3 : decide ((k : Int) < sizes.length) = true := decide_eq_true (by omega)
      have g1 := int_get hv
      refine run [7, 8] ?_
      exact ⟨k + 1, x1, y1, ⟨(.cons rfl rfl (.cons rfl rfl (.cons rfl rfl (.cons rfl rfl (.cons rfl rfl (.cons rfl rfl .nil)))))), rfl, rfl, rfl⟩, ⟨by omega, R2⟩, by omega⟩
  · have c2 : decide ((k : Int) < 20) = false := decide_eq_false (by omega)
    have hke : k = 20 := by omega
    subst hke
    obtain ⟨q1, q2, q3, q4⟩ := hR.end_
    have ix := repE_inc hR.c.rx
    have iy := repE_inc hR.c.ry
    have hAg := Agree_spec (g := GL) x y fx fy ix iy
    have hB1 := Behind_eq (g := GL) x a fx fa ix
    have hB2 := Behind_eq (g := GL) x b fx fb ix
    have hMi := MissingP (g := GL) x y.seen 99 fx (by have := fy.2; omega)
    rw [q1] at hAg
    rw [q2] at hB1
    rw [q3] at hB2
    rw [q4] at hMi
    have e0 : decide (((0 : Nat) : Int) = 0) = true := rfl
    have e1 : decide ((([] : List Op).length : Int) = 0) = true := rfl
    refine run [7, 8] ?_
    exact retP rfl rfl
end Go.Proofs.YtifpafbmfedpkaaDoor
