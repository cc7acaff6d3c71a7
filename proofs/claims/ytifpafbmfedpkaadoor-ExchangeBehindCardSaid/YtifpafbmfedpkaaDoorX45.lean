/- The laws: Syncs, Behind. -/
import Derived.Test.YtifpafbmfedpkaaDoorB10
namespace Go.Proofs.YtifpafbmfedpkaaDoor
open Go.Ac Go.MapKept
attribute [local irreducible] awp awpL Ev Ev2 EvS thenQ blockQ retQ PCalls OCalls YieldOk IterC ICalls
set_option linter.unusedSimpArgs false
set_option linter.unusedVariables false

theorem rep_fit {r : Replica} (h : repE r = 0) : FitR r := by
  obtain ⟨_, h2, _, _, h3⟩ := repE_all h
  exact ⟨⟨by omega, fun o ho => by have := opE_over (repE_ops h o ho); omega⟩, by rw [h2, seenL_len]; omega⟩
theorem sync_fit {a b : Replica} (ha : FitR a) (hb : FitR b) (h1 : FitM a.ops b.ops) (h2 : FitM b.ops a.ops) : FitR (sync a b).1 ∧ FitR (sync a b).2.1 := by
  unfold sync
  split
  · exact ⟨ha, hb⟩
  · split
    · exact ⟨ha, hb⟩
    · exact ⟨merge_fit h1, merge_fit h2⟩
theorem light_fitM {a b : Replica} (ha : light a = true) (hb : light b = true) (ia : Ids a.ops) (ib : Ids b.ops) : FitM a.ops b.ops :=
  fitM_of (light_fit ha).1 (light_fit hb).1 (by have := (light_rep ha).2.1; have := (light_rep hb).2.1; omega) ia ib

set_option maxRecDepth 8000 in
set_option maxHeartbeats 4000000 in
theorem law_Syncs (a b : Replica) (ia : Ids a.ops) (ib : Ids b.ops) : PCalls Tryd.prog GL 5 [.agg (repC a), .agg (repC b)] (vb true) := by
  have hA := awake_spec
  have hLa := Light_spec (g := GL) a ia
  have hLb := Light_spec (g := GL) b ib
  have n1 : (!true) = false := rfl
  have n2 : (!false) = true := rfl
  refine pcalls' Tryd.func5 Tryd.ntmps5 rfl rfl rfl ?_
  cases la : light a with
  | false =>
    rw [la] at hLa
    refine runn [] ?_
    exact retP rfl rfl
  | true =>
    rw [la] at hLa
    cases lb : light b with
    | false =>
      rw [lb] at hLb
      refine runn [] ?_
      exact retP rfl rfl
    | true =>
    rw [lb] at hLb
    have fa := light_fit la
    have fb := light_fit lb
    have m1 := light_fitM la lb ia ib
    have m2 := light_fitM lb la ib ia
    have hCa := Copy_spec (g := GL) a fa
    have hCb := Copy_spec (g := GL) b fb
    have hM := Sync_spec a b m1 m2 (light_inc la) (light_inc lb)
    have hR := rSync_spec (g := GL) a b m1 m2
    rw [syncV] at hM hR
    obtain ⟨f1, f2⟩ := sync_fit fa fb m1 m2
    have hS1 := rSameR_spec (g := GL) (sync a b).1 (sync a b).1 f1 f1
    have hS2 := rSameR_spec (g := GL) (sync a b).2.1 (sync a b).2.1 f2 f2
    rw [decide_eq_true rfl] at hS1 hS2
    have e0 : decide ((sync a b).2.2 = (sync a b).2.2) = true := decide_eq_true rfl
    refine run [] ?_
    exact retP rfl rfl

theorem behind_self (a : List Op) : behind a a = 0 := by
  unfold behind
  rw [List.countP_eq_zero]
  intro o ho
  simp [has_iff.2 ho]
set_option maxRecDepth 8000 in
set_option maxHeartbeats 4000000 in
theorem law_Behind (a b : Replica) (ia : Ids a.ops) (ib : Ids b.ops) : PCalls Tryd.prog GL 6 [.agg (repC a), .agg (repC b)] (vb true) := by
  have hA := awake_spec
  have hLa := Light_spec (g := GL) a ia
  have hLb := Light_spec (g := GL) b ib
  have n1 : (!true) = false := rfl
  have n2 : (!false) = true := rfl
  refine pcalls' Tryd.func6 Tryd.ntmps6 rfl rfl rfl ?_
  cases la : light a with
  | false =>
    rw [la] at hLa
    refine runn [] ?_
    exact retP rfl rfl
  | true =>
    rw [la] at hLa
    cases lb : light b with
    | false =>
      rw [lb] at hLb
      refine runn [] ?_
      exact retP rfl rfl
    | true =>
    rw [lb] at hLb
    have fa := light_fit la
    have fb := light_fit lb
    have hCa := Copy_spec (g := GL) a fa
    have hCb := Copy_spec (g := GL) b fb
    have hB := Behind_eq (g := GL) a b fa fb (light_inc la)
    have hR := rBehind_spec (g := GL) a b fa fb
    have hG := Agree_spec (g := GL) a b fa fb (light_inc la) (light_inc lb)
    have hH := rAgree_spec (g := GL) a b fa fb
    rw [← agree] at hH
    have hS := Agree_spec (g := GL) a a fa fa (light_inc la) (light_inc la)
    have es : agree a a = true := by simp [agree, behind_self]
    rw [es] at hS
    obtain ⟨n, hn⟩ : ∃ n : Nat, n = behind a.ops b.ops := ⟨_, rfl⟩
    obtain ⟨q, hq⟩ : ∃ q : Bool, q = agree a b := ⟨_, rfl⟩
    rw [← hn] at hR
    rw [← hq] at hH
    have e0 : decide (((behind a.ops b.ops : Nat) : Int) = n) = true := by rw [hn]; exact decide_eq_true rfl
    have e1 : (agree a b == q) = true := by rw [hq]; simp
    refine run [] ?_
    exact retP rfl rfl
end Go.Proofs.YtifpafbmfedpkaaDoor
