/- The law Met. -/
import Derived.Test.YtifpafbmfedpkaaGreatDoorB11
namespace Go.Proofs.YtifpafbmfedpkaaGreatDoor
open Go.Ac Go.MapKept
attribute [local irreducible] awp awpL Ev Ev2 EvS thenQ blockQ retQ PCalls OCalls YieldOk IterC ICalls
set_option linter.unusedSimpArgs false
set_option linter.unusedVariables false

theorem rep_good {r : Replica} (h : repE r = 0) : Good r.ops := ⟨repE_inc h, repE_ops h⟩
theorem cells_fit (l : List Op) (rc : Int) (hl : l.length ≤ 100000) : FitCs (cells l rc) := by
  have hv : ∀ note f, (valuesL l note f).length ≤ 100000 := fun note f => by
    unfold valuesL
    rw [List.length_map]
    exact Nat.le_trans (List.length_filter_le ..) hl
  have hc : ∀ note c, cell l note = some c → FitC c := fun note c h => by
    unfold cell at h
    split at h
    · cases h
    · split at h
      · cases h; exact ⟨hv _ _, hv _ _, hv _ _⟩
      · cases h
  have H : ∀ (k : List Op) (out : List Cell), (∀ c ∈ out, FitC c) → ∀ c ∈ k.foldl (cellsStep l rc) out, FitC c := by
    intro k
    induction k with
    | nil => intro out h; exact h
    | cons o r ih =>
      intro out h
      refine ih _ ?_
      unfold cellsStep
      split
      · split
        · rename_i c hq
          intro d hd
          rcases List.mem_append.1 hd with g | g
          · exact h d g
          · simp only [List.mem_singleton] at g; subst g; exact hc _ _ hq
        · exact h
      · exact h
  refine ⟨?_, H l [] fun c h => by cases h⟩
  have := cellsK_len l rc l.length
  unfold cellsK at this
  rw [List.take_length] at this
  unfold cells
  omega

set_option maxRecDepth 8000 in
set_option maxHeartbeats 8000000 in
theorem law_Met (a b : Replica) (rc : Int) (ia : Ids a.ops) (ib : Ids b.ops) : PCalls Tryz.prog GL 3 [.agg (repC a), .agg (repC b), vi rc] (vb true) := by
  have hA := awake_spec
  have hLa := Light_spec (g := GL) a ia
  have hLb := Light_spec (g := GL) b ib
  have n1 : (!true) = false := rfl
  have n2 : (!false) = true := rfl
  refine pcalls' Tryz.func3 Tryz.ntmps3 rfl rfl rfl ?_
  cases la : light a with
  | false =>
    rw [la] at hLa
    repeat' (first
     | refine stn [7, 8] ?_
     | ((with_reducible refine is_gd ?_); refine awpL_split rfl rfl (fun h => ?_) (fun h => ?_))
     | ((with_reducible refine is_awp ?_); refine awp_cond rfl (fun h => ?_) (fun h => ?_))
     | fail)
    exact retP rfl rfl
  | true =>
  rw [la] at hLa
  cases lb : light b with
  | false =>
    rw [lb] at hLb
    repeat' (first
     | refine stn [7, 8] ?_
     | ((with_reducible refine is_gd ?_); refine awpL_split rfl rfl (fun h => ?_) (fun h => ?_))
     | ((with_reducible refine is_awp ?_); refine awp_cond rfl (fun h => ?_) (fun h => ?_))
     | fail)
    exact retP rfl rfl
  | true =>
  rw [lb] at hLb
  have fa := light_fit la
  have fb := light_fit lb
  have m1 := light_fitM la lb ia ib
  have m2 := light_fitM lb la ib ia
  have hCa := Copy_spec (g := GL) a fa
  have hCb := Copy_spec (g := GL) b fb
  have hM := Sync_spec a b m1 m2 (light_inc la) (light_inc lb)
  rw [syncV] at hM
  have ha2 := (light_rep la).2.1
  have hb2 := (light_rep lb).2.1
  by_cases he : (sync a b).2.2 = 0
  · have c1 : (!decide ((sync a b).2.2 = 0)) = false := by rw [decide_eq_true he]; rfl
    obtain ⟨s1, s2, s3⟩ := sync_ok he
    obtain ⟨i1, q1, q2, q3, q4, q5⟩ := merge_has (light_inc la) s1
    obtain ⟨j1, r1, r2, r3, r4, r5⟩ := merge_has (light_inc lb) s2
    have hops := sync_ops (light_inc la) (light_inc lb) he
    have ex1 : (sync a b).1 = (merge a b.ops).1 := by rw [s3]
    have ey1 : (sync a b).2.1 = (merge b a.ops).1 := by rw [s3]
    rw [← ex1] at i1 q1 q2 q3 q4 q5
    rw [← ey1] at j1 r1 r2 r3 r4 r5
    generalize (sync a b).1 = x at *
    generalize (sync a b).2.1 = y at *
    have fx := rep_fit q3
    have fy := rep_fit r3
    have hCx := Copy_spec (g := GL) x fx
    have hCy := Copy_spec (g := GL) y fy
    have ix : Ids x.ops := fun o h => ((q1 o).1 h).elim (ia o) (ib o)
    have iy : Ids y.ops := fun o h => ((r1 o).1 h).elim (ib o) (ia o)
    have hKx := Check_spec x (by have := fx.2; omega) ix
    have hKy := Check_spec y (by have := fy.2; omega) iy
    rw [q3] at hKx
    rw [r3] at hKy
    have z0 : (!decide ((0 : Int) = 0)) = false := rfl
    have z1 : (!decide (((0 : Nat) : Int) = 0)) = false := rfl
    have d1 : (!decide (x.dev = a.dev)) = false := by rw [decide_eq_true q2]; rfl
    have d2 : (!decide (y.dev = b.dev)) = false := by rw [decide_eq_true r2]; rfl
    have hAg := Agree_spec (g := GL) x y fx fy i1 j1
    have eag : agree x y = true := by simp [agree, hops, behind_zero.2 (fun (o : Op) (h : o ∈ y.ops) => h)]
    rw [eag] at hAg
    have b1 := Behind_eq (g := GL) x a fx fa i1
    have b2 := Behind_eq (g := GL) x b fx fb i1
    have b3 := Behind_eq (g := GL) y x fy fx j1
    rw [behind_zero.2 (fun o ho => (q1 o).2 (.inl ho))] at b1
    rw [behind_zero.2 (fun o ho => (q1 o).2 (.inr ho))] at b2
    rw [behind_zero.2 (fun o ho => hops ▸ ho)] at b3
    have hxl : x.ops.length ≤ 100000 := fx.1.1
    have cx := fun rc => Cells_spec (g := GL) x rc fx.1.1 fx.1.2 (rep_good q3)
    have cy := fun rc => Cells_spec (g := GL) y rc fy.1.1 fy.1.2 (rep_good r3)
    have hS := fun rc => SameCells_spec (g := GL) (cells x.ops rc) (cells_fit x.ops rc hxl)
    rw [← hops] at cy
    repeat' (first
     | refine st [7, 8] ?_
     | ((with_reducible refine is_gd ?_); refine awpL_split rfl rfl (fun h => ?_) (fun h => ?_))
     | ((with_reducible refine isD_gd ?_); ((fail_if_success (refine isD_kn (c := true) rfl (by first | with_reducible rfl | with_reducible assumption) ?_)); (fail_if_success (refine isD_kn (c := false) rfl (by first | with_reducible rfl | with_reducible assumption) ?_)); refine awpD_split rfl (fun h => ?_) (fun h => ?_)))
     | ((with_reducible refine is_awp ?_); refine awp_cond rfl (fun h => ?_) (fun h => ?_))
     | fail)
    refine awp_for (α := Nat) 2 (fun k => [(2, vi rc), (7, .lp 0 0), (8, .lp 1 0), (10, vi k)]) (fun _ => [.box (repC x), .box (repC y)]) (fun k => 1 ≤ k ∧ k ≤ 4) (fun k => 4 - k) 1
      ⟨(.cons rfl rfl (.cons rfl rfl (.cons rfl rfl (.cons rfl rfl .nil)))), rfl, rfl, rfl⟩ ⟨Nat.le_refl _, by omega⟩ ?_
    rintro k ⟨hk1, hk4⟩
    by_cases hk : k ≤ 3
    · have c2 : decide ((k : Int) ≤ 3) = true := decide_eq_true (by omega)
      have cxk := cx k
      have cyk := cy k
      have hSk := hS k
      repeat' (first
       | refine st [7, 8] ?_
       | ((with_reducible refine is_gd ?_); refine awpL_split rfl rfl (fun h => ?_) (fun h => ?_))
       | ((with_reducible refine isD_gd ?_); ((fail_if_success (refine isD_kn (c := true) rfl (by first | with_reducible rfl | with_reducible assumption) ?_)); (fail_if_success (refine isD_kn (c := false) rfl (by first | with_reducible rfl | with_reducible assumption) ?_)); refine awpD_split rfl (fun h => ?_) (fun h => ?_)))
       | ((with_reducible refine is_awp ?_); refine awp_cond rfl (fun h => ?_) (fun h => ?_))
       | fail)
      exact ⟨k + 1, ⟨(.cons rfl rfl (.cons rfl rfl (.cons rfl rfl (.cons rfl rfl .nil)))), rfl, rfl, rfl⟩, ⟨by omega, by omega⟩, by omega⟩
    · have c2 : decide ((k : Int) ≤ 3) = false := decide_eq_false (by omega)
      have cxk := cx rc
      have cyk := cy rc
      have hSk := hS rc
      repeat' (first
       | refine st [7, 8] ?_
       | ((with_reducible refine is_gd ?_); refine awpL_split rfl rfl (fun h => ?_) (fun h => ?_))
       | ((with_reducible refine isD_gd ?_); ((fail_if_success (refine isD_kn (c := true) rfl (by first | with_reducible rfl | with_reducible assumption) ?_)); (fail_if_success (refine isD_kn (c := false) rfl (by first | with_reducible rfl | with_reducible assumption) ?_)); refine awpD_split rfl (fun h => ?_) (fun h => ?_)))
       | ((with_reducible refine is_awp ?_); refine awp_cond rfl (fun h => ?_) (fun h => ?_))
       | fail)
      exact retP rfl rfl
  · have c1 : (!decide ((sync a b).2.2 = 0)) = true := by rw [decide_eq_false he]; rfl
    obtain ⟨e1, e2⟩ := sync_bad he
    rw [e1, e2] at hM
    have hS1 := rSameR_spec (g := GL) a a fa fa
    have hS2 := rSameR_spec (g := GL) b b fb fb
    rw [decide_eq_true rfl] at hS1 hS2
    repeat' (first
     | refine st [7, 8] ?_
     | ((with_reducible refine is_gd ?_); refine awpL_split rfl rfl (fun h => ?_) (fun h => ?_))
     | ((with_reducible refine isD_gd ?_); ((fail_if_success (refine isD_kn (c := true) rfl (by first | with_reducible rfl | with_reducible assumption) ?_)); (fail_if_success (refine isD_kn (c := false) rfl (by first | with_reducible rfl | with_reducible assumption) ?_)); refine awpD_split rfl (fun h => ?_) (fun h => ?_)))
     | ((with_reducible refine is_awp ?_); refine awp_cond rfl (fun h => ?_) (fun h => ?_))
     | fail)
    exact retP rfl rfl
end Go.Proofs.YtifpafbmfedpkaaGreatDoor
