/- The law Keeps. -/
import Derived.Test.YtifpafbmfedpkaaDoorX45
namespace Go.Proofs.YtifpafbmfedpkaaDoor
open Go.Ac Go.MapKept
attribute [local irreducible] awp awpL Ev Ev2 EvS thenQ blockQ retQ PCalls OCalls YieldOk IterC ICalls
set_option linter.unusedSimpArgs false
set_option linter.unusedVariables false

set_option maxRecDepth 8000 in
set_option maxHeartbeats 8000000 in
theorem law_Keeps (r : Replica) (l : List Op) (hid : Ids r.ops) (hil : Ids l) : PCalls Tryd.prog GL 8 [.agg (repC r), encOps l] (vb true) := by
  have hA := awake_spec
  have hL := Light_spec (g := GL) r hid
  have hO := ops_spec (g := GL) l
  have n1 : (!true) = false := rfl
  have n2 : (!false) = true := rfl
  refine pcalls' Tryd.func8 Tryd.ntmps8 rfl rfl rfl ?_
  cases hl : light r with
  | false =>
    rw [hl] at hL
    refine runn [] ?_
    exact retP rfl rfl
  | true =>
    rw [hl] at hL
    cases ho : opsOk l with
    | false =>
      rw [ho] at hO
      refine runn [] ?_
      exact retP rfl rfl
    | true =>
    rw [ho] at hO
    obtain ⟨o1, o2⟩ := opsOk_spec ho
    have hi := light_inc hl
    have hlr := (light_rep hl).2.1
    have hF := light_fit hl
    have hFl : Fit l := ⟨by omega, fun o hm => by have := o2 o hm; omega⟩
    have m1 := fitM_of hF.1 hFl (by omega) hid hil
    have hC := Copy_spec (g := GL) r hF
    have hCo := CopyOps_P (g := GL) l hFl
    have hM1 := Merge_spec r l m1 hi
    rw [mergeV] at hM1
    have fm := merge_fit m1
    by_cases he : (merge r l).2 = 0
    · have c1 : (!decide ((merge r l).2 = 0)) = false := by rw [decide_eq_true he]; rfl
      obtain ⟨i1, q1, q2, q3, _, q5⟩ := merge_has hi he
      generalize hm : (merge r l).1 = a at *
      have d1 : (!decide (a.dev = r.dev)) = false := by rw [decide_eq_true q2]; rfl
      have n0 : (!decide ((0 : Int) = 0)) = false := rfl
      have hCa := Copy_spec (g := GL) a fm
      have hCk := Check_spec a (by have := fm.2; omega) fun o h => m1.id o ((q1 o).1 h)
      rw [q3] at hCk
      repeat' (first
       | refine stn [] ?_
       | ((with_reducible refine is_awp ?_); refine awp_cond rfl (fun h => ?_) (fun h => ?_))
       | fail)
      refine awp_for (α := Nat) 0 (fun k => [(1, encOps l), (2, .fp (repC r)), (5, .fp (repC a)), (7, vi k)]) (fun _ => []) (fun k => k ≤ r.ops.length) (fun k => r.ops.length - k) 0
        ⟨(.cons rfl rfl (.cons rfl rfl (.cons rfl rfl (.cons rfl rfl .nil)))), rfl, rfl, rfl⟩ (Nat.zero_le _) ?_
      intro k hk
      cases ht : r.ops[k]? with
      | some x =>
        have hlt : k < r.ops.length := (List.getElem?_eq_some_iff.1 ht).1
        have c2 : decide ((k : Int) < r.ops.length) = true := decide_eq_true (by omega)
        have g1 := op_get ht
        have hH := Has_spec (g := GL) a.ops x fm.1 (hF.1.get ht)
        rw [has_iff.2 ((q1 x).2 (.inl (List.mem_of_getElem? ht)))] at hH
        refine run [] ?_
        exact ⟨k + 1, ⟨(.cons rfl rfl (.cons rfl rfl (.cons rfl rfl (.cons rfl rfl .nil)))), rfl, rfl, rfl⟩, by omega, by omega⟩
      | none =>
      have hge : r.ops.length ≤ k := by simpa using ht
      have c2 : decide ((k : Int) < r.ops.length) = false := decide_eq_false (by omega)
      repeat' (first
       | refine stn [] ?_
       | ((with_reducible refine is_awp ?_); refine awp_cond rfl (fun h => ?_) (fun h => ?_))
       | fail)
      refine awp_for (α := Nat) 0 (fun k => [(1, encOps l), (2, .fp (repC r)), (5, .fp (repC a)), (8, vi k)]) (fun _ => []) (fun k => k ≤ l.length) (fun k => l.length - k) 0
        ⟨(.cons rfl rfl (.cons rfl rfl (.cons rfl rfl (.cons rfl rfl .nil)))), rfl, rfl, rfl⟩ (Nat.zero_le _) ?_
      intro k2 hk2
      cases ht2 : l[k2]? with
      | some x =>
        have hlt : k2 < l.length := (List.getElem?_eq_some_iff.1 ht2).1
        have c3 : decide ((k2 : Int) < l.length) = true := decide_eq_true (by omega)
        have g2 := op_get ht2
        have hH := Has_spec (g := GL) a.ops x fm.1 (hFl.get ht2)
        rw [has_iff.2 ((q1 x).2 (.inr (List.mem_of_getElem? ht2)))] at hH
        refine run [] ?_
        exact ⟨k2 + 1, ⟨(.cons rfl rfl (.cons rfl rfl (.cons rfl rfl (.cons rfl rfl .nil)))), rfl, rfl, rfl⟩, by omega, by omega⟩
      | none =>
      have hge2 : l.length ≤ k2 := by simpa using ht2
      have c3 : decide ((k2 : Int) < l.length) = false := decide_eq_false (by omega)
      repeat' (first
       | refine stn [] ?_
       | ((with_reducible refine is_awp ?_); refine awp_cond rfl (fun h => ?_) (fun h => ?_))
       | fail)
      refine awp_for (α := Nat) 0 (fun k => [(1, encOps l), (2, .fp (repC r)), (5, .fp (repC a)), (9, vi k)]) (fun _ => []) (fun k => k ≤ a.ops.length) (fun k => a.ops.length - k) 0
        ⟨(.cons rfl rfl (.cons rfl rfl (.cons rfl rfl (.cons rfl rfl .nil)))), rfl, rfl, rfl⟩ (Nat.zero_le _) ?_
      intro k3 hk3
      have hal := fm.1.1
      cases ht3 : a.ops[k3]? with
      | some x =>
        have hlt : k3 < a.ops.length := (List.getElem?_eq_some_iff.1 ht3).1
        have c4 : decide ((k3 : Int) < a.ops.length) = true := decide_eq_true (by omega)
        have g3 := op_get ht3
        have hH := Has_spec (g := GL) r.ops x hF.1 (fm.1.get ht3)
        have hH2 := Has_spec (g := GL) l x hFl (fm.1.get ht3)
        cases hh : has r.ops x with
        | true =>
          rw [hh] at hH
          refine run [] ?_
          exact ⟨k3 + 1, ⟨(.cons rfl rfl (.cons rfl rfl (.cons rfl rfl (.cons rfl rfl .nil)))), rfl, rfl, rfl⟩, by omega, by omega⟩
        | false =>
          rw [hh] at hH
          have hl2 : has l x = true := by
            rcases (q1 x).1 (List.mem_of_getElem? ht3) with g | g
            · rw [has_iff.2 g] at hh; cases hh
            · exact has_iff.2 g
          rw [hl2] at hH2
          refine run [] ?_
          exact ⟨k3 + 1, ⟨(.cons rfl rfl (.cons rfl rfl (.cons rfl rfl (.cons rfl rfl .nil)))), rfl, rfl, rfl⟩, by omega, by omega⟩
      | none =>
      have hge3 : a.ops.length ≤ k3 := by simpa using ht3
      have c4 : decide ((k3 : Int) < a.ops.length) = false := decide_eq_false (by omega)
      refine runn [] ?_
      exact retP rfl rfl
    · have c1 : (!decide ((merge r l).2 = 0)) = true := by rw [decide_eq_false he]; rfl
      refine runn [] ?_
      exact retP rfl rfl
end Go.Proofs.YtifpafbmfedpkaaDoor
