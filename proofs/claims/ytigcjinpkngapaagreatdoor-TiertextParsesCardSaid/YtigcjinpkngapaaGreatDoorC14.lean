/- A logic of trees over the model's steps, and the contracts of the functions that the laws reach: part 14 of 20. -/
import Derived.Test.YtigcjinpkngapaaGreatDoorC13
import Derived.MapKept
set_option linter.unusedVariables false
set_option linter.unusedSimpArgs false
set_option linter.unusedSectionVars false
section
namespace Go.Proofs.YtigcjinpkngapaaGreatDoor
open Go.Ac
attribute [local irreducible] awp awpL Ev Ev2 EvS thenQ blockQ retQ PCalls OCalls
variable {g : List (Nat × List AV)}
set_option maxHeartbeats 400000 in
theorem wFind_spec (l : List Tier) (name : ByteArray) (hl : l.length ≤ 1000000) : PCalls Tryz.prog g 103 [encTiers l, vs name] (vi (findT l name)) := by
  refine pcalls' Tryz.func103 Tryz.ntmps103 rfl rfl rfl ?_
  repeat' (first
   | refine stn [] ?_
   | ((with_reducible refine is_gd ?_); refine awpL_split rfl rfl (fun h => ?_) (fun h => ?_))
   | ((with_reducible refine is_awp ?_); refine awp_cond rfl (fun h => ?_) (fun h => ?_))
   | fail)
  refine awp_for (α := Nat) 0 (fun k => [(7, encTiers l), (8, vi l.length), (9, vi k), (1, vs name)]) (fun _ => []) (fun k => k ≤ l.length ∧ findT l name = findTF name k (l.drop k)) (fun k => l.length - k) 0
    ⟨(.cons rfl rfl (.cons rfl rfl (.cons rfl rfl (.cons rfl rfl .nil)))), rfl, rfl, rfl⟩ ⟨Nat.zero_le _, rfl⟩ ?_
  rintro k ⟨hk, hf⟩
  cases ht : l[k]? with
  | none =>
    have hge : l.length ≤ k := by simpa using ht
    have c1 : decide ((k : Int) < l.length) = false := decide_eq_false (by omega)
    rw [List.drop_of_length_le hge] at hf
    rw [hf]
    repeat' (first
     | refine stn [] ?_
     | ((with_reducible refine is_gd ?_); refine awpL_split rfl rfl (fun h => ?_) (fun h => ?_))
     | ((with_reducible refine is_awp ?_); refine awp_cond rfl (fun h => ?_) (fun h => ?_))
     | fail)
    exact retP rfl rfl
  | some t =>
    have hlt : k < l.length := (List.getElem?_eq_some_iff.1 ht).1
    have c1 : decide ((k : Int) < l.length) = true := decide_eq_true (by omega)
    have h1 := tierC_get ht
    have hd := findTF_drop name l k t ht
    by_cases e : t.name = name
    · have c2 : decide (t.name = name) = true := decide_eq_true e
      rw [hf, hd, if_pos e]
      repeat' (first
       | refine stn [] ?_
       | ((with_reducible refine is_gd ?_); refine awpL_split rfl rfl (fun h => ?_) (fun h => ?_))
       | ((with_reducible refine is_awp ?_); refine awp_cond rfl (fun h => ?_) (fun h => ?_))
       | fail)
      exact retP rfl rfl
    · have c2 : decide (t.name = name) = false := decide_eq_false e
      rw [if_neg e] at hd
      repeat' (first
       | refine stn [] ?_
       | ((with_reducible refine is_gd ?_); refine awpL_split rfl rfl (fun h => ?_) (fun h => ?_))
       | ((with_reducible refine is_awp ?_); refine awp_cond rfl (fun h => ?_) (fun h => ?_))
       | fail)
      exact ⟨k + 1, ⟨(.cons rfl rfl (.cons rfl rfl (.cons rfl rfl (.cons rfl rfl .nil)))), rfl, rfl, rfl⟩, ⟨by omega, by rw [hf, hd]⟩, by omega⟩
set_option maxHeartbeats 400000 in
theorem wRole_spec (l : List Tier) (role : Int) (hl : l.length ≤ 1000000) : PCalls Tryz.prog g 104 [encTiers l, vi role] (vi (roleT l role)) := by
  refine pcalls' Tryz.func104 Tryz.ntmps104 rfl rfl rfl ?_
  repeat' (first
   | refine stn [] ?_
   | ((with_reducible refine is_gd ?_); refine awpL_split rfl rfl (fun h => ?_) (fun h => ?_))
   | ((with_reducible refine is_awp ?_); refine awp_cond rfl (fun h => ?_) (fun h => ?_))
   | fail)
  refine awp_for (α := Nat) 0 (fun k => [(7, encTiers l), (8, vi l.length), (9, vi k), (1, vi role)]) (fun _ => []) (fun k => k ≤ l.length ∧ roleT l role = roleTF role k (l.drop k)) (fun k => l.length - k) 0
    ⟨(.cons rfl rfl (.cons rfl rfl (.cons rfl rfl (.cons rfl rfl .nil)))), rfl, rfl, rfl⟩ ⟨Nat.zero_le _, rfl⟩ ?_
  rintro k ⟨hk, hf⟩
  cases ht : l[k]? with
  | none =>
    have hge : l.length ≤ k := by simpa using ht
    have c1 : decide ((k : Int) < l.length) = false := decide_eq_false (by omega)
    rw [List.drop_of_length_le hge] at hf
    rw [hf]
    repeat' (first
     | refine stn [] ?_
     | ((with_reducible refine is_gd ?_); refine awpL_split rfl rfl (fun h => ?_) (fun h => ?_))
     | ((with_reducible refine is_awp ?_); refine awp_cond rfl (fun h => ?_) (fun h => ?_))
     | fail)
    exact retP rfl rfl
  | some t =>
    have hlt : k < l.length := (List.getElem?_eq_some_iff.1 ht).1
    have c1 : decide ((k : Int) < l.length) = true := decide_eq_true (by omega)
    have h1 := tierC_get ht
    have hd := roleTF_drop role l k t ht
    by_cases e0 : role = 0
    · have c2 : (!decide (role = 0)) = false := by rw [decide_eq_true e0]; rfl
      rw [if_neg (by simp [e0])] at hd
      repeat' (first
       | refine stn [] ?_
       | ((with_reducible refine is_gd ?_); refine awpL_split rfl rfl (fun h => ?_) (fun h => ?_))
       | ((with_reducible refine is_awp ?_); refine awp_cond rfl (fun h => ?_) (fun h => ?_))
       | fail)
      exact ⟨k + 1, ⟨(.cons rfl rfl (.cons rfl rfl (.cons rfl rfl (.cons rfl rfl .nil)))), rfl, rfl, rfl⟩, ⟨by omega, by rw [hf, hd]⟩, by omega⟩
    have c2 : (!decide (role = 0)) = true := by rw [decide_eq_false e0]; rfl
    by_cases e : t.role = role
    · have c3 : decide (t.role = role) = true := decide_eq_true e
      rw [hf, hd, if_pos ⟨e0, e⟩]
      repeat' (first
       | refine stn [] ?_
       | ((with_reducible refine is_gd ?_); refine awpL_split rfl rfl (fun h => ?_) (fun h => ?_))
       | ((with_reducible refine is_awp ?_); refine awp_cond rfl (fun h => ?_) (fun h => ?_))
       | fail)
      exact retP rfl rfl
    · have c3 : decide (t.role = role) = false := decide_eq_false e
      rw [if_neg (fun h => e h.2)] at hd
      repeat' (first
       | refine stn [] ?_
       | ((with_reducible refine is_gd ?_); refine awpL_split rfl rfl (fun h => ?_) (fun h => ?_))
       | ((with_reducible refine is_awp ?_); refine awp_cond rfl (fun h => ?_) (fun h => ?_))
       | fail)
      exact ⟨k + 1, ⟨(.cons rfl rfl (.cons rfl rfl (.cons rfl rfl (.cons rfl rfl .nil)))), rfl, rfl, rfl⟩, ⟨by omega, by rw [hf, hd]⟩, by omega⟩
set_option maxHeartbeats 1000000 in
theorem wRoles_spec (p t : Tier) : PCalls Tryz.prog g 105 [.agg (tierC p), .agg (tierC t)] (vi (rolesE p.role t)) := by
  refine pcalls' Tryz.func105 Tryz.ntmps105 rfl rfl rfl ?_
  repeat' (first
   | refine st [] ?_
   | ((with_reducible refine is_gd ?_); refine awpL_split rfl rfl (fun h => ?_) (fun h => ?_))
   | ((with_reducible refine isD_gd ?_); ((fail_if_success (refine isD_kn (c := true) rfl qa0 ?_)); (fail_if_success (refine isD_kn (c := false) rfl qa0 ?_)); refine awpD_split rfl (fun h => ?_) (fun h => ?_)))
   | ((with_reducible refine is_awp ?_); refine awp_cond rfl (fun h => ?_) (fun h => ?_))
   | fail)
  all_goals refine retP rfl ?_
  all_goals simp_all [ex, rolesE]
set_option maxHeartbeats 4000000 in
theorem wOne_spec (l : List Tier) (t : Tier) (hl : l.length ≤ 1000000) : PCalls Tryz.prog g 77 [encTiers l, .agg (tierC t)] (vi (tierOne l t)) := by
  refine pcalls' Tryz.func77 Tryz.ntmps77 rfl rfl rfl ?_
  have hN := mName_spec (g := g) t.name
  have hF := wFind_spec (g := g) l t.name hl
  have hR := wRole_spec (g := g) l t.role hl
  have hA := al_spec (g := g) t.kind
  have hr0 := wRoles_spec (g := g) ⟨⟨#[]⟩, 0, -1, 0⟩ t
  have n1 : (!true) = false := rfl
  have n2 : (!false) = true := rfl
  unfold tierOne
  cases hn : nameOk t.name with
  | false =>
    rw [hn] at hN
    rw [if_pos rfl]
    repeat' (first
     | refine stn [] ?_
     | ((with_reducible refine is_gd ?_); refine awpL_split rfl rfl (fun h => ?_) (fun h => ?_))
     | ((with_reducible refine is_awp ?_); refine awp_cond rfl (fun h => ?_) (fun h => ?_))
     | fail)
    exact retP rfl rfl
  | true =>
  rw [hn] at hN
  rw [if_neg (by simp)]
  by_cases f0 : 0 ≤ findT l t.name
  · have c1 : decide (0 ≤ findT l t.name) = true := decide_eq_true f0
    rw [if_pos f0]
    repeat' (first
     | refine stn [] ?_
     | ((with_reducible refine is_gd ?_); refine awpL_split rfl rfl (fun h => ?_) (fun h => ?_))
     | ((with_reducible refine is_awp ?_); refine awp_cond rfl (fun h => ?_) (fun h => ?_))
     | fail)
    exact retP rfl rfl
  have c1 : decide (0 ≤ findT l t.name) = false := decide_eq_false f0
  rw [if_neg f0]
  by_cases k0 : t.kind < 0
  · have c2 : decide (t.kind < 0) = true := decide_eq_true k0
    rw [if_pos (.inl k0)]
    repeat' (first
     | refine stn [] ?_
     | ((with_reducible refine is_gd ?_); refine awpL_split rfl rfl (fun h => ?_) (fun h => ?_))
     | ((with_reducible refine is_awp ?_); refine awp_cond rfl (fun h => ?_) (fun h => ?_))
     | fail)
    exact retP rfl rfl
  have c2 : decide (t.kind < 0) = false := decide_eq_false k0
  by_cases k4 : 4 < t.kind
  · have c3 : decide (4 < t.kind) = true := decide_eq_true k4
    rw [if_pos (.inr k4)]
    repeat' (first
     | refine stn [] ?_
     | ((with_reducible refine is_gd ?_); refine awpL_split rfl rfl (fun h => ?_) (fun h => ?_))
     | ((with_reducible refine is_awp ?_); refine awp_cond rfl (fun h => ?_) (fun h => ?_))
     | fail)
    exact retP rfl rfl
  have c3 : decide (4 < t.kind) = false := decide_eq_false k4
  rw [if_neg (by omega)]
  by_cases r0 : t.role < 0
  · have c4 : decide (t.role < 0) = true := decide_eq_true r0
    rw [if_pos (.inl r0)]
    repeat' (first
     | refine stn [] ?_
     | ((with_reducible refine is_gd ?_); refine awpL_split rfl rfl (fun h => ?_) (fun h => ?_))
     | ((with_reducible refine is_awp ?_); refine awp_cond rfl (fun h => ?_) (fun h => ?_))
     | fail)
    exact retP rfl rfl
  have c4 : decide (t.role < 0) = false := decide_eq_false r0
  by_cases r5 : 5 < t.role
  · have c5 : decide (5 < t.role) = true := decide_eq_true r5
    rw [if_pos (.inr r5)]
    repeat' (first
     | refine stn [] ?_
     | ((with_reducible refine is_gd ?_); refine awpL_split rfl rfl (fun h => ?_) (fun h => ?_))
     | ((with_reducible refine is_awp ?_); refine awp_cond rfl (fun h => ?_) (fun h => ?_))
     | fail)
    exact retP rfl rfl
  have c5 : decide (5 < t.role) = false := decide_eq_false r5
  rw [if_neg (by omega)]
  by_cases g0 : 0 ≤ roleT l t.role
  · have c6 : decide (0 ≤ roleT l t.role) = true := decide_eq_true g0
    rw [if_pos g0]
    repeat' (first
     | refine stn [] ?_
     | ((with_reducible refine is_gd ?_); refine awpL_split rfl rfl (fun h => ?_) (fun h => ?_))
     | ((with_reducible refine is_awp ?_); refine awp_cond rfl (fun h => ?_) (fun h => ?_))
     | fail)
    exact retP rfl rfl
  have c6 : decide (0 ≤ roleT l t.role) = false := decide_eq_false g0
  rw [if_neg g0]
  by_cases kr : t.kind = 0
  · have c7 : decide (t.kind = 0) = true := decide_eq_true kr
    rw [if_pos kr]
    by_cases pp : t.parent = -1
    · have c8 : (!decide (t.parent = -1)) = false := by rw [decide_eq_true pp]; rfl
      rw [if_neg (by simpa using pp)]
      repeat' (first
       | refine st [] ?_
       | ((with_reducible refine is_gd ?_); refine awpL_split rfl rfl (fun h => ?_) (fun h => ?_))
       | ((with_reducible refine isD_gd ?_); ((fail_if_success (refine isD_kn (c := true) rfl qa0 ?_)); (fail_if_success (refine isD_kn (c := false) rfl qa0 ?_)); refine awpD_split rfl (fun h => ?_) (fun h => ?_)))
       | ((with_reducible refine is_awp ?_); refine awp_cond rfl (fun h => ?_) (fun h => ?_))
       | fail)
      exact retP rfl rfl
    · have c8 : (!decide (t.parent = -1)) = true := by rw [decide_eq_false pp]; rfl
      rw [if_pos pp]
      repeat' (first
       | refine stn [] ?_
       | ((with_reducible refine is_gd ?_); refine awpL_split rfl rfl (fun h => ?_) (fun h => ?_))
       | ((with_reducible refine is_awp ?_); refine awp_cond rfl (fun h => ?_) (fun h => ?_))
       | fail)
      exact retP rfl rfl
  have c7 : decide (t.kind = 0) = false := decide_eq_false kr
  rw [if_neg kr]
  by_cases p0 : t.parent < 0
  · have c8 : decide (t.parent < 0) = true := decide_eq_true p0
    rw [if_pos (.inl p0)]
    repeat' (first
     | refine stn [] ?_
     | ((with_reducible refine is_gd ?_); refine awpL_split rfl rfl (fun h => ?_) (fun h => ?_))
     | ((with_reducible refine is_awp ?_); refine awp_cond rfl (fun h => ?_) (fun h => ?_))
     | fail)
    exact retP rfl rfl
  have c8 : decide (t.parent < 0) = false := decide_eq_false p0
  by_cases p1 : (l.length : Int) ≤ t.parent
  · have c9 : decide ((l.length : Int) ≤ t.parent) = true := decide_eq_true p1
    rw [if_pos (.inr p1)]
    repeat' (first
     | refine stn [] ?_
     | ((with_reducible refine is_gd ?_); refine awpL_split rfl rfl (fun h => ?_) (fun h => ?_))
     | ((with_reducible refine is_awp ?_); refine awp_cond rfl (fun h => ?_) (fun h => ?_))
     | fail)
    exact retP rfl rfl
  have c9 : decide ((l.length : Int) ≤ t.parent) = false := decide_eq_false p1
  rw [if_neg (by omega)]
  obtain ⟨p, ht⟩ : ∃ p, l[t.parent.toNat]? = some p := ⟨l[t.parent.toNat]'(by omega), by simp⟩
  have h1 : 0 ≤ t.parent ∧ (l.map tierC)[t.parent.toNat]? = some (tierC p) := ⟨by omega, by simp [ht]⟩
  have hA2 := al_spec (g := g) p.kind
  have hr := wRoles_spec (g := g) p t
  rw [ht]
  simp only
  generalize hv : rolesE p.role t = v at *
  cases b1 : timed t.kind <;> cases b2 : timed p.kind <;> rw [b1] at hA <;> rw [b2] at hA2
  · rw [if_neg (by simp)]
    repeat' (first
     | refine st [] ?_
     | ((with_reducible refine is_gd ?_); refine awpL_split rfl rfl (fun h => ?_) (fun h => ?_))
     | ((with_reducible refine isD_gd ?_); ((fail_if_success (refine isD_kn (c := true) rfl qa0 ?_)); (fail_if_success (refine isD_kn (c := false) rfl qa0 ?_)); refine awpD_split rfl (fun h => ?_) (fun h => ?_)))
     | ((with_reducible refine is_awp ?_); refine awp_cond rfl (fun h => ?_) (fun h => ?_))
     | fail)
    exact retP rfl rfl
  · rw [if_neg (by simp)]
    repeat' (first
     | refine st [] ?_
     | ((with_reducible refine is_gd ?_); refine awpL_split rfl rfl (fun h => ?_) (fun h => ?_))
     | ((with_reducible refine isD_gd ?_); ((fail_if_success (refine isD_kn (c := true) rfl qa0 ?_)); (fail_if_success (refine isD_kn (c := false) rfl qa0 ?_)); refine awpD_split rfl (fun h => ?_) (fun h => ?_)))
     | ((with_reducible refine is_awp ?_); refine awp_cond rfl (fun h => ?_) (fun h => ?_))
     | fail)
    exact retP rfl rfl
  · rw [if_pos (by simp)]
    repeat' (first
     | refine st [] ?_
     | ((with_reducible refine is_gd ?_); refine awpL_split rfl rfl (fun h => ?_) (fun h => ?_))
     | ((with_reducible refine isD_gd ?_); ((fail_if_success (refine isD_kn (c := true) rfl qa0 ?_)); (fail_if_success (refine isD_kn (c := false) rfl qa0 ?_)); refine awpD_split rfl (fun h => ?_) (fun h => ?_)))
     | ((with_reducible refine is_awp ?_); refine awp_cond rfl (fun h => ?_) (fun h => ?_))
     | fail)
    exact retP rfl rfl
  · rw [if_neg (by simp)]
    repeat' (first
     | refine st [] ?_
     | ((with_reducible refine is_gd ?_); refine awpL_split rfl rfl (fun h => ?_) (fun h => ?_))
     | ((with_reducible refine isD_gd ?_); ((fail_if_success (refine isD_kn (c := true) rfl qa0 ?_)); (fail_if_success (refine isD_kn (c := false) rfl qa0 ?_)); refine awpD_split rfl (fun h => ?_) (fun h => ?_)))
     | ((with_reducible refine is_awp ?_); refine awp_cond rfl (fun h => ?_) (fun h => ?_))
     | fail)
    exact retP rfl rfl
set_option maxHeartbeats 1000000 in
theorem wTiers_spec (l : List Tier) : PCalls Tryz.prog g 43 [encTiers l] (vi (tiersE l)) := by
  refine pcalls' Tryz.func43 Tryz.ntmps43 rfl rfl rfl ?_
  by_cases hl : (12 : Int) < l.length
  · have c0 : decide ((12 : Int) < l.length) = true := decide_eq_true hl
    have : tiersE l = 11 := by unfold tiersE; rw [if_pos (by omega)]
    rw [this]
    repeat' (first
     | refine stn [] ?_
     | ((with_reducible refine is_gd ?_); refine awpL_split rfl rfl (fun h => ?_) (fun h => ?_))
     | ((with_reducible refine is_awp ?_); refine awp_cond rfl (fun h => ?_) (fun h => ?_))
     | fail)
    exact retP rfl rfl
  have c0 : decide ((12 : Int) < l.length) = false := decide_eq_false hl
  have hc : tiersE l = tiersEF l l.length 0 := by unfold tiersE; rw [if_neg (by omega)]
  rw [hc]
  repeat' (first
   | refine stn [] ?_
   | ((with_reducible refine is_gd ?_); refine awpL_split rfl rfl (fun h => ?_) (fun h => ?_))
   | ((with_reducible refine is_awp ?_); refine awp_cond rfl (fun h => ?_) (fun h => ?_))
   | fail)
  refine awp_for (α := Nat) 0 (fun k => [(0, encTiers l), (9, vi l.length), (10, vi k)]) (fun _ => []) (fun k => k ≤ l.length ∧ tiersEF l l.length 0 = tiersEF l (l.length - k) k) (fun k => l.length - k) 0
    ⟨(.cons rfl rfl (.cons rfl rfl (.cons rfl rfl .nil))), rfl, rfl, rfl⟩ ⟨Nat.zero_le _, rfl⟩ ?_
  rintro k ⟨hk, hf⟩
  cases ht : l[k]? with
  | none =>
    have hge : l.length ≤ k := by simpa using ht
    have c1 : decide ((k : Int) < l.length) = false := decide_eq_false (by omega)
    rw [hf, show l.length - k = 0 by omega]
    repeat' (first
     | refine stn [] ?_
     | ((with_reducible refine is_gd ?_); refine awpL_split rfl rfl (fun h => ?_) (fun h => ?_))
     | ((with_reducible refine is_awp ?_); refine awp_cond rfl (fun h => ?_) (fun h => ?_))
     | fail)
    exact retP rfl rfl
  | some t =>
    have hlt : k < l.length := (List.getElem?_eq_some_iff.1 ht).1
    have c1 : decide ((k : Int) < l.length) = true := decide_eq_true (by omega)
    have h1 := tierC_get ht
    have hd : tiersEF l (l.length - k) k = if tierOne (l.take k) t ≠ 0 then tierOne (l.take k) t else tiersEF l (l.length - (k + 1)) (k + 1) := by
      rw [show l.length - k = (l.length - (k + 1)) + 1 by omega]; exact tiersEF_step ht
    have ho : PCalls Tryz.prog g 77 [.fs 4 k ((l.map tierC).take k), .agg (tierC t)] (vi (tierOne (l.take k) t)) := by
      have := wOne_spec (g := g) (l.take k) t (by simp; omega)
      rw [encTiers, List.map_take, List.length_take, Nat.min_eq_left (by omega)] at this
      exact this
    have b0 : (0 : Int) ≤ 0 ∧ (0 : Int) ≤ (k : Int) ∧ (k : Int) ≤ (l.length : Nat) := by omega
    have m0 : ((k : Int) - 0).toNat = k := by omega
    have f0 : ((l.map tierC).drop (0 : Int).toNat).take k = (l.map tierC).take k := rfl
    generalize tierOne (l.take k) t = e at *
    by_cases e0 : e = 0
    · have c2 : (!decide (e = 0)) = false := by rw [decide_eq_true e0]; rfl
      rw [if_neg (by simpa using e0)] at hd
      repeat' (first
       | ((with_reducible refine isD_un ?_); refine awpD_un (as_ev (fun _ => ev_slice_fs rfl rfl rfl rfl rfl rfl rfl b0 m0 f0) rfl rfl) qb0 ?_)
       | ((with_reducible refine isD_gd ?_); refine awpD_gd rfl rfl qa0 (as_ev (fun _ => ev_slice_fs rfl rfl rfl rfl rfl rfl rfl b0 m0 f0) rfl rfl) qb0 ?_)
       | refine st [] ?_
       | ((with_reducible refine is_gd ?_); refine awpL_split rfl rfl (fun h => ?_) (fun h => ?_))
       | ((with_reducible refine isD_gd ?_); ((fail_if_success (refine isD_kn (c := true) rfl qa0 ?_)); (fail_if_success (refine isD_kn (c := false) rfl qa0 ?_)); refine awpD_split rfl (fun h => ?_) (fun h => ?_)))
       | ((with_reducible refine is_awp ?_); refine awp_cond rfl (fun h => ?_) (fun h => ?_))
       | fail)
      exact ⟨k + 1, ⟨(.cons rfl rfl (.cons rfl rfl (.cons rfl rfl .nil))), rfl, rfl, rfl⟩, ⟨by omega, by rw [hf, hd]⟩, by omega⟩
    · have c2 : (!decide (e = 0)) = true := by rw [decide_eq_false e0]; rfl
      rw [if_pos e0] at hd
      rw [hf, hd]
      repeat' (first
       | ((with_reducible refine isD_un ?_); refine awpD_un (as_ev (fun _ => ev_slice_fs rfl rfl rfl rfl rfl rfl rfl b0 m0 f0) rfl rfl) qb0 ?_)
       | ((with_reducible refine isD_gd ?_); refine awpD_gd rfl rfl qa0 (as_ev (fun _ => ev_slice_fs rfl rfl rfl rfl rfl rfl rfl b0 m0 f0) rfl rfl) qb0 ?_)
       | refine st [] ?_
       | ((with_reducible refine is_gd ?_); refine awpL_split rfl rfl (fun h => ?_) (fun h => ?_))
       | ((with_reducible refine isD_gd ?_); ((fail_if_success (refine isD_kn (c := true) rfl qa0 ?_)); (fail_if_success (refine isD_kn (c := false) rfl qa0 ?_)); refine awpD_split rfl (fun h => ?_) (fun h => ?_)))
       | ((with_reducible refine is_awp ?_); refine awp_cond rfl (fun h => ?_) (fun h => ?_))
       | fail)
      exact retP rfl rfl
end Go.Proofs.YtigcjinpkngapaaGreatDoor
end
section
namespace Go.Ac
open Go.MapKept
set_option linter.unnecessarySimpa false
variable {P : Program} {td : TDs} [T : TOK P td] {G : Glo} {N : Nat} {Q : AQ} {S : SL} {L : List LB} {op : Op} {ty : TypeId} {x : AV}
theorem ev_lookF {t kt e : Nat} {d : TD} {good : Value → Prop} {u q : Operand} {ks : List Value} {xs : List AV} {kv z : Value} {ok cm : Bool} {r : AV} (K : KeyOk P kt good) (h : val G S u = some (.fm ks xs))
    {ka : AV} (hq : val G S q = some ka) (hka : ∀ c y, R c ka y → y = kv) (ht : lk td t = some d) (hs : d.k = .map kt e) (hz : zeroOf P e = some z) (hzo : z.cells.toList.all (·.oneCell') = true) (hg : ∀ k ∈ ks, good k) (hgk : good kv)
    (hl : MLook ks xs kv (avOf z) x ok) (hnd : ks.Nodup) (hr : r = bif cm then .tup [x, .v (.bool ok)] else x) : Ev P G N (.lookup t u q cm) ty S L r := by
  subst hr
  intro o ho _ cx a hc
  have e0 := val_R hc h
  simp only [R, RF] at e0
  obtain ⟨b, es, clock, e1, h1, h3, h4, h5⟩ := e0
  have e2 := hka _ _ (val_R hc hq)
  obtain ⟨rr, g1, g2⟩ := find_spec K h5 hg hgk
  have main : ∃ v, RF cx.F cx.w x v ∧ (Instr.lookup t (.map (some b)) kv cm).run P cx.w = .ok (if cm then .tuple #[v, .bool ok] else v) cx.w := by
    rcases g2 with ⟨rfl, hn⟩ | ⟨i, en, x', rfl, q1, q2, q3, q4, q5⟩
    · rcases hl with ⟨_, i, h6, _⟩ | ⟨rfl, _, rfl⟩
      · exact absurd (List.mem_of_getElem? h6) hn
      · refine ⟨z, avOf_RF hzo, ?_⟩
        simp [Instr.lookup, run_underlying (map_desc (P := P) ht hs), Result.andThen, Go.MapKept.run_getObj_map h3, K.chk _ _ cx.w hgk, g1, run_zeroOf hz]
    · rcases hl with ⟨rfl, j, h6, h7⟩ | ⟨_, hn, _⟩
      · have := nodup_idx hnd h6 q3
        subst this
        rw [h7] at q4; injection q4 with q4; subst q4
        refine ⟨en.val, q5, ?_⟩
        simp [Instr.lookup, run_underlying (map_desc (P := P) ht hs), Result.andThen, Go.MapKept.run_getObj_map h3, K.chk _ _ cx.w hgk, g1]
      · exact absurd (List.mem_of_getElem? q3) hn
  obtain ⟨v, hv, hrun⟩ := main
  refine ⟨if cm then .tuple #[v, .bool ok] else v, by simp only [execOp, ho, e1, e2, Sem.run_bind, hrun, Result.andThen_ok, Sem.run_pure], ?_⟩
  cases cm with
  | false => exact R.of_RF _ _ _ hv
  | true =>
    simp only [cond_true, if_true, R]
    refine ⟨#[v, .bool ok], rfl, ?_⟩
    simp only [TR]
    exact ⟨v, [.bool ok], rfl, R.of_RF _ _ _ hv, .bool ok, [], rfl, by simp only [R], rfl⟩
end Go.Ac
end
section
namespace Go.Proofs.YtigcjinpkngapaaGreatDoor
open Go.Ac Go.MapKept
attribute [local irreducible] awp awpL Ev Ev2 EvS thenQ blockQ retQ PCalls OCalls
variable {g : List (Nat × List AV)}
def aroundS (d : Doc) (t : Tier) (s : Span) : Span := if t.kind = 0 then ⟨0, d.rec_.length⟩ else s
def withinB (d : Doc) (t : Tier) (n : Note) (s : Span) : Bool := if timed t.kind = true then spanRight n.span && decide ((aroundS d t s).fro ≤ n.span.fro) && decide (n.span.til ≤ (aroundS d t s).til) else decide (n.span = ⟨0, 0⟩)
set_option maxHeartbeats 2000000 in
theorem wWithin_spec (d : Doc) (n p : Note) (t : Tier) (ht : tierAt d.tiers n.tier = some t) (hl : d.tiers.length ≤ 1000000) : PCalls Tryz.prog g 79 [.agg (docC d), .agg (noteC n), .agg (noteC p)] (vb (withinB d t n p.span)) := by
  have hA := Aligned_spec (g := g) d.tiers n.tier hl
  rw [show alignedT d.tiers n.tier = timed t.kind by unfold alignedT; rw [ht]] at hA
  have hR := spanR_spec (g := g) n.span
  have hsz := spanz_eq n.span
  obtain ⟨_, _, g1⟩ := tier_get ht
  have n1 : (!true) = false := rfl
  have n2 : (!false) = true := rfl
  refine pcalls' Tryz.func79 Tryz.ntmps79 rfl rfl rfl ?_
  unfold withinB
  cases htm : timed t.kind with
  | false =>
    rw [htm] at hA
    rw [if_neg (by simp)]
    generalize hz : decide (n.span = ⟨0, 0⟩) = z at hsz ⊢
    repeat' (first
     | ((with_reducible refine is_un ?_); refine awpL_ev (ev_eqA (b := z) spanEq_T (by kernel_rfl) rfl rfl rfl rfl (by rw [← hsz]; rfl)) rfl ?_)
     | refine stn [7] ?_
     | ((with_reducible refine is_gd ?_); refine awpL_split rfl rfl (fun h => ?_) (fun h => ?_))
     | ((with_reducible refine is_awp ?_); refine awp_cond rfl (fun h => ?_) (fun h => ?_))
     | fail)
    exact retP rfl rfl
  | true =>
    rw [htm] at hA
    rw [if_pos rfl]
    unfold aroundS
    by_cases k0 : t.kind = 0
    · have c1 : decide (t.kind = 0) = true := decide_eq_true k0
      rw [if_pos k0]
      cases hr : spanRight n.span with
      | false =>
        rw [hr] at hR
        repeat' (first
         | refine stn [7] ?_
         | ((with_reducible refine is_gd ?_); refine awpL_split rfl rfl (fun h => ?_) (fun h => ?_))
         | ((with_reducible refine is_awp ?_); refine awp_cond rfl (fun h => ?_) (fun h => ?_))
         | fail)
        exact retP rfl rfl
      | true =>
        rw [hr] at hR
        cases c2 : decide ((0 : Int) ≤ n.span.fro) <;> cases c3 : decide (n.span.til ≤ d.rec_.length)
        all_goals
          repeat' (first
           | refine stn [7] ?_
           | ((with_reducible refine is_gd ?_); refine awpL_split rfl rfl (fun h => ?_) (fun h => ?_))
           | ((with_reducible refine is_awp ?_); refine awp_cond rfl (fun h => ?_) (fun h => ?_))
           | fail)
          first
            | exact retP rfl rfl
            | exact retP rfl (by simp only [ex]; rw [c3]; rfl)
    · have c1 : decide (t.kind = 0) = false := decide_eq_false k0
      rw [if_neg k0]
      cases hr : spanRight n.span with
      | false =>
        rw [hr] at hR
        repeat' (first
         | refine stn [7] ?_
         | ((with_reducible refine is_gd ?_); refine awpL_split rfl rfl (fun h => ?_) (fun h => ?_))
         | ((with_reducible refine is_awp ?_); refine awp_cond rfl (fun h => ?_) (fun h => ?_))
         | fail)
        exact retP rfl rfl
      | true =>
        rw [hr] at hR
        cases c2 : decide (p.span.fro ≤ n.span.fro) <;> cases c3 : decide (n.span.til ≤ p.span.til)
        all_goals
          repeat' (first
           | refine stn [7] ?_
           | ((with_reducible refine is_gd ?_); refine awpL_split rfl rfl (fun h => ?_) (fun h => ?_))
           | ((with_reducible refine is_awp ?_); refine awp_cond rfl (fun h => ?_) (fun h => ?_))
           | fail)
          first
            | exact retP rfl rfl
            | exact retP rfl (by simp only [ex]; rw [c3]; rfl)
def nks (m : List (Int × Note)) : List Value := m.map fun p => intV p.1
def nxs (m : List (Int × Note)) : List AV := m.map fun p => .agg (noteC p.2)
theorem nks_ok (m : List (Int × Note)) : ∀ k ∈ nks m, IsKey (.int .i64) k := by
  intro k hk
  obtain ⟨p, _, rfl⟩ := List.mem_map.1 hk
  exact intV_ok _
theorem nks_nd {m : List (Int × Note)} (h : ANd m) : (nks m).Nodup := h.kv intV_inj
theorem n_look (m : List (Int × Note)) (k : Int) : MLook (nks m) (nxs m) (intV k) (avOf (.agg #[.int .i64 0, .int .i64 0, .int .i64 0, .int .i64 0, .int .i64 0, .int .i64 0, .string .empty])) (.agg (noteC ((aget m k).getD noNote))) (aget m k).isSome := by
  have := look_data (kv := intV) (va := fun n : Note => AV.agg (noteC n)) intV_inj m k (avOf (.agg #[.int .i64 0, .int .i64 0, .int .i64 0, .int .i64 0, .int .i64 0, .int .i64 0, .string .empty]))
  cases h : aget m k with
  | none => rw [h] at this; exact this
  | some v => rw [h] at this; exact this
theorem zNt : zeroOf Tryz.prog 55 = some (.agg #[.int .i64 0, .int .i64 0, .int .i64 0, .int .i64 0, .int .i64 0, .int .i64 0, .string .empty]) := by kernel_rfl
theorem placedE_within (d : Doc) (t : Tier) (n : Note) : placedE d t n =
    if (t.kind = 0 ∧ n.parent ≠ 0) ∨ (t.kind ≠ 0 ∧ ((getN d.notes n.parent).isSome = false ∨ ((getN d.notes n.parent).getD noNote).tier ≠ t.parent)) then 13
    else if withinB d t n ((getN d.notes n.parent).getD noNote).span = false then 12 else rankE t n := by
  unfold placedE
  generalize (getN d.notes n.parent).getD noNote = p
  split
  · rfl
  rw [show (if n.rank < 0 ∨ n.rank ≠ 0 ∧ t.kind ≠ 3 then (1 : Int) else 0) = rankE t n from rfl]
  generalize rankE t n = e
  unfold withinB aroundS
  cases htm : timed t.kind with
  | false =>
    have k0 : t.kind ≠ 0 := fun h => by rw [h] at htm; cases htm
    by_cases hs : n.span = ⟨0, 0⟩
    · simp [hs, k0]
    · simp [hs]
  | true =>
    cases hr : spanRight n.span with
    | false => simp
    | true =>
      have hr := (right_iff.1 hr).1
      by_cases k0 : t.kind = 0
      · by_cases h : d.rec_.length < n.span.til
        · have : ¬ n.span.til ≤ d.rec_.length := by omega
          simp [k0, h, this]
        · have : n.span.til ≤ d.rec_.length := by omega
          simp [k0, h, hr, this]
      · by_cases h1 : n.span.fro < p.span.fro
        · have : ¬ p.span.fro ≤ n.span.fro := by omega
          simp [k0, h1, this]
        · have e1 : p.span.fro ≤ n.span.fro := by omega
          by_cases h2 : p.span.til < n.span.til
          · have : ¬ n.span.til ≤ p.span.til := by omega
            simp [k0, h2, this]
          · have : n.span.til ≤ p.span.til := by omega
            simp [k0, h1, h2, e1, this]
set_option maxRecDepth 4000 in
set_option maxHeartbeats 4000000 in
theorem wNote_spec (hu : Utf g) (d : Doc) (m : List (Int × Note)) (hm : ANd m) (hg : ∀ id, aget m id = getN d.notes id) (n : Note) (t : Tier) (ht : tierAt d.tiers n.tier = some t) (hl : d.tiers.length ≤ 1000000) :
    PCalls Tryz.prog g 45 [.agg (docC d), .fm (nks m) (nxs m), .agg (noteC n)] (vi (if textE n.text ≠ 0 then textE n.text else placedE d t n)) := by
  have hT := Text_spec hu n.text
  have hlook := n_look m n.parent
  rw [hg] at hlook
  rw [placedE_within]
  have hand := nks_nd hm
  obtain ⟨_, _, g1⟩ := tier_get ht
  have hW := wWithin_spec (g := g) d n ((getN d.notes n.parent).getD noNote) t ht hl
  have n1 : (!true) = false := rfl
  have n2 : (!false) = true := rfl
  have hrk := rank_cases t n
  generalize hrE : rankE t n = rE at *
  clear hrE
  generalize (getN d.notes n.parent).getD noNote = p at *
  generalize (getN d.notes n.parent).isSome = b at *
  refine pcalls' Tryz.func45 Tryz.ntmps45 rfl rfl rfl ?_
  generalize textE n.text = e at *
  by_cases e0 : e = 0
  case neg =>
    have c0 : (!decide (e = 0)) = true := by rw [decide_eq_false e0]; rfl
    rw [if_pos e0]
    repeat' (first
     | refine stn [] ?_
     | ((with_reducible refine is_gd ?_); refine awpL_split rfl rfl (fun h => ?_) (fun h => ?_))
     | ((with_reducible refine is_awp ?_); refine awp_cond rfl (fun h => ?_) (fun h => ?_))
     | fail)
    exact retP rfl rfl
  have c0 : (!decide (e = 0)) = false := by rw [decide_eq_true e0]; rfl
  rw [if_neg (by simpa using e0)]
  by_cases k0 : t.kind = 0
  · have c1 : decide (t.kind = 0) = true := decide_eq_true k0
    by_cases p0 : n.parent = 0
    · have c2 : (!decide (n.parent = 0)) = false := by rw [decide_eq_true p0]; rfl
      rw [if_neg (by simp [k0, p0])]
      cases hw : withinB d t n p.span with
      | false =>
        rw [hw] at hW
        rw [if_pos rfl]
        repeat' (first
         | ((with_reducible refine is_un ?_); refine awpL_ev (ev_lookF intKey rfl rfl (intV_R _) rfl rfl zNt rfl (nks_ok _) (intV_ok _) hlook hand rfl) rfl ?_)
         | refine stn [] ?_
         | ((with_reducible refine is_gd ?_); refine awpL_split rfl rfl (fun h => ?_) (fun h => ?_))
         | ((with_reducible refine is_awp ?_); refine awp_cond rfl (fun h => ?_) (fun h => ?_))
         | fail)
        exact retP rfl rfl
      | true =>
        rw [hw] at hW
        rw [if_neg (by simp)]
        rcases hrk with ⟨r1, e⟩ | ⟨r1, r2, e⟩ | ⟨r1, r2, r3, e⟩ | ⟨r1, r2, r3, e⟩ <;> subst e
        all_goals
          repeat' (first
           | ((with_reducible refine is_un ?_); refine awpL_ev (ev_lookF intKey rfl rfl (intV_R _) rfl rfl zNt rfl (nks_ok _) (intV_ok _) hlook hand rfl) rfl ?_)
           | refine stn [] ?_
           | ((with_reducible refine is_gd ?_); refine awpL_split rfl rfl (fun h => ?_) (fun h => ?_))
           | ((with_reducible refine is_awp ?_); refine awp_cond rfl (fun h => ?_) (fun h => ?_))
           | fail)
          exact retP rfl rfl
    · have c2 : (!decide (n.parent = 0)) = true := by rw [decide_eq_false p0]; rfl
      rw [if_pos (.inl ⟨k0, p0⟩)]
      repeat' (first
       | ((with_reducible refine is_un ?_); refine awpL_ev (ev_lookF intKey rfl rfl (intV_R _) rfl rfl zNt rfl (nks_ok _) (intV_ok _) hlook hand rfl) rfl ?_)
       | refine stn [] ?_
       | ((with_reducible refine is_gd ?_); refine awpL_split rfl rfl (fun h => ?_) (fun h => ?_))
       | ((with_reducible refine is_awp ?_); refine awp_cond rfl (fun h => ?_) (fun h => ?_))
       | fail)
      exact retP rfl rfl
  · have c1 : decide (t.kind = 0) = false := decide_eq_false k0
    cases b with
    | false =>
      rw [if_pos (.inr ⟨k0, .inl rfl⟩)]
      repeat' (first
       | ((with_reducible refine is_un ?_); refine awpL_ev (ev_lookF intKey rfl rfl (intV_R _) rfl rfl zNt rfl (nks_ok _) (intV_ok _) hlook hand rfl) rfl ?_)
       | refine stn [] ?_
       | ((with_reducible refine is_gd ?_); refine awpL_split rfl rfl (fun h => ?_) (fun h => ?_))
       | ((with_reducible refine is_awp ?_); refine awp_cond rfl (fun h => ?_) (fun h => ?_))
       | fail)
      exact retP rfl rfl
    | true =>
      by_cases q0 : p.tier = t.parent
      · have c3 : (!decide (p.tier = t.parent)) = false := by rw [decide_eq_true q0]; rfl
        rw [if_neg (by simp [k0, q0])]
        cases hw : withinB d t n p.span with
        | false =>
          rw [hw] at hW
          rw [if_pos rfl]
          repeat' (first
           | ((with_reducible refine is_un ?_); refine awpL_ev (ev_lookF intKey rfl rfl (intV_R _) rfl rfl zNt rfl (nks_ok _) (intV_ok _) hlook hand rfl) rfl ?_)
           | refine stn [] ?_
           | ((with_reducible refine is_gd ?_); refine awpL_split rfl rfl (fun h => ?_) (fun h => ?_))
           | ((with_reducible refine is_awp ?_); refine awp_cond rfl (fun h => ?_) (fun h => ?_))
           | fail)
          exact retP rfl rfl
        | true =>
          rw [hw] at hW
          rw [if_neg (by simp)]
          rcases hrk with ⟨r1, e⟩ | ⟨r1, r2, e⟩ | ⟨r1, r2, r3, e⟩ | ⟨r1, r2, r3, e⟩ <;> subst e
          all_goals
            repeat' (first
             | ((with_reducible refine is_un ?_); refine awpL_ev (ev_lookF intKey rfl rfl (intV_R _) rfl rfl zNt rfl (nks_ok _) (intV_ok _) hlook hand rfl) rfl ?_)
             | refine stn [] ?_
             | ((with_reducible refine is_gd ?_); refine awpL_split rfl rfl (fun h => ?_) (fun h => ?_))
             | ((with_reducible refine is_awp ?_); refine awp_cond rfl (fun h => ?_) (fun h => ?_))
             | fail)
            exact retP rfl rfl
      · have c3 : (!decide (p.tier = t.parent)) = true := by rw [decide_eq_false q0]; rfl
        rw [if_pos (.inr ⟨k0, .inr q0⟩)]
        repeat' (first
         | ((with_reducible refine is_un ?_); refine awpL_ev (ev_lookF intKey rfl rfl (intV_R _) rfl rfl zNt rfl (nks_ok _) (intV_ok _) hlook hand rfl) rfl ?_)
         | refine stn [] ?_
         | ((with_reducible refine is_gd ?_); refine awpL_split rfl rfl (fun h => ?_) (fun h => ?_))
         | ((with_reducible refine is_awp ?_); refine awp_cond rfl (fun h => ?_) (fun h => ?_))
         | fail)
        exact retP rfl rfl
def idStep (m : List (Int × Note)) (n : Note) : List (Int × Note) := if (aget m n.id).isSome = true then m else aput m n.id n
def idM (l : List Note) (k : Nat) : List (Int × Note) := (l.take k).foldl idStep []
theorem idM_succ {l : List Note} {k : Nat} {x : Note} (h : l[k]? = some x) : idM l (k + 1) = idStep (idM l k) x := by
  unfold idM
  rw [List.take_add_one, h, List.foldl_append]; rfl
theorem idStep_nd {m : List (Int × Note)} (h : ANd m) (n : Note) : ANd (idStep m n) := by
  unfold idStep
  split
  · exact h
  · exact h.put _ _
theorem idM_nd (l : List Note) (k : Nat) : ANd (idM l k) := by
  unfold idM
  have : ∀ (l : List Note) (m : List (Int × Note)), ANd m → ANd (l.foldl idStep m) := by
    intro l
    induction l with
    | nil => intro m h; exact h
    | cons o r ih => intro m h; exact ih _ (idStep_nd h _)
  exact this _ _ List.nodup_nil
theorem idM_get (l : List Note) (id : Int) : aget (idM l l.length) id = getN l id := by
  have : ∀ (l : List Note) (m : List (Int × Note)), aget (l.foldl idStep m) id = ((aget m id).or (getN l id)) := by
    intro l
    induction l with
    | nil => intro m; simp [getN]
    | cons o r ih =>
      intro m
      rw [List.foldl_cons, ih]
      unfold idStep getN
      rw [List.find?_cons]
      by_cases e : o.id = id
      · subst e
        rw [decide_eq_true rfl]
        cases ho : aget m o.id with
        | some x => simp [ho]
        | none => simp [aget_put]
      · rw [decide_eq_false e]
        split
        · rfl
        · rw [aget_put, if_neg e]
  unfold idM
  rw [List.take_length, this]
  simp [aget]
set_option maxHeartbeats 2000000 in
theorem wById_spec (d : Doc) (hl : d.notes.length ≤ 1000000) : PCalls Tryz.prog g 44 [.agg (docC d)] (.fm (nks (idM d.notes d.notes.length)) (nxs (idM d.notes d.notes.length))) := by
  refine pcalls' Tryz.func44 Tryz.ntmps44 rfl rfl rfl ?_
  have n1 : (!true) = false := rfl
  have n2 : (!false) = true := rfl
  repeat' (first
   | ((with_reducible refine is_un ?_); refine awpL_ev2 (ev_mkmap qf0 qc0) rfl ?_)
   | refine stn [] ?_
   | ((with_reducible refine is_gd ?_); refine awpL_split rfl rfl (fun h => ?_) (fun h => ?_))
   | ((with_reducible refine is_awp ?_); refine awp_cond rfl (fun h => ?_) (fun h => ?_))
   | fail)
  refine awp_for (α := Nat) 1 (fun k => [(3, .mp 0), (10, encNotes d.notes), (11, vi d.notes.length), (12, vi k)]) (fun k => [.map (nks (idM d.notes k)) (nxs (idM d.notes k))]) (fun k => k ≤ d.notes.length) (fun k => d.notes.length - k) 0
    ⟨(.cons rfl rfl (.cons rfl rfl (.cons rfl rfl (.cons rfl rfl .nil)))), rfl, rfl, rfl⟩ (Nat.zero_le _) ?_
  rintro k hk
  cases ht : d.notes[k]? with
  | some x =>
    have hlt : k < d.notes.length := (List.getElem?_eq_some_iff.1 ht).1
    have c1 : decide ((k : Int) < d.notes.length) = true := decide_eq_true (by omega)
    have h1 := note_get ht
    have hS := idM_succ ht
    have hlook := n_look (idM d.notes k) x.id
    have hand := nks_nd (idM_nd d.notes k)
    have hput : MPut (nks (idM d.notes k)) (nxs (idM d.notes k)) (intV x.id) (.agg (noteC x)) (nks (aput (idM d.notes k) x.id x)) (nxs (aput (idM d.notes k) x.id x)) :=
      put_data (kv := intV) (va := fun n => AV.agg (noteC n)) intV_inj (idM d.notes k) x.id x
    unfold idStep at hS
    cases hq : aget (idM d.notes k) x.id with
    | some y =>
      rw [hq] at hlook hS
      simp only [Option.isSome_some, if_true] at hS hlook
      repeat' (first
       | ((with_reducible refine is_un ?_); refine awpL_ev (ev_lookup intKey rfl rfl rfl (intV_R _) rfl rfl zNt rfl (nks_ok _) (intV_ok _) hlook hand rfl) rfl ?_)
       | refine stn [] ?_
       | ((with_reducible refine is_gd ?_); refine awpL_split rfl rfl (fun h => ?_) (fun h => ?_))
       | ((with_reducible refine is_awp ?_); refine awp_cond rfl (fun h => ?_) (fun h => ?_))
       | fail)
      exact ⟨k + 1, by rw [hS]; exact ⟨(.cons rfl rfl (.cons rfl rfl (.cons rfl rfl (.cons rfl rfl .nil)))), rfl, rfl, rfl⟩, by omega, by omega⟩
    | none =>
      rw [hq] at hlook hS
      simp only [Option.isSome_none, Bool.false_eq_true, if_false] at hS hlook
      generalize hM : idM d.notes k = M at *
      generalize hM' : idM d.notes (k + 1) = M' at *
      rw [← hS] at hput
      repeat' (first
       | ((with_reducible refine is_un ?_); (first | refine awpL_ev (ev_lookup intKey rfl rfl rfl (intV_R _) rfl rfl zNt rfl (nks_ok _) (intV_ok _) hlook hand rfl) rfl ?_ | refine awpL_evS (ev_mapUpd (L' := [.map (nks M') (nxs M'), .dead, .dead]) intKey rfl rfl rfl (intV_R _) rfl rfl rfl rfl (nks_ok _) (intV_ok _) hput hand rfl) ?_))
       | refine stn [] ?_
       | ((with_reducible refine is_gd ?_); refine awpL_split rfl rfl (fun h => ?_) (fun h => ?_))
       | ((with_reducible refine is_awp ?_); refine awp_cond rfl (fun h => ?_) (fun h => ?_))
       | fail)
      exact ⟨k + 1, by rw [hM']; exact ⟨(.cons rfl rfl (.cons rfl rfl (.cons rfl rfl (.cons rfl rfl .nil)))), rfl, rfl, rfl⟩, by omega, by omega⟩
  | none =>
    have hge : d.notes.length ≤ k := by simpa using ht
    have c1 : decide ((k : Int) < d.notes.length) = false := decide_eq_false (by omega)
    have hke : k = d.notes.length := by omega
    subst hke
    repeat' (first
     | refine stn [] ?_
     | ((with_reducible refine is_gd ?_); refine awpL_split rfl rfl (fun h => ?_) (fun h => ?_))
     | ((with_reducible refine is_awp ?_); refine awp_cond rfl (fun h => ?_) (fun h => ?_))
     | fail)
    exact retP rfl rfl
end Go.Proofs.YtigcjinpkngapaaGreatDoor
end
section
namespace Go.Proofs.YtigcjinpkngapaaGreatDoor
def keyLt (a b : Note) : Bool := decide (a.parent < b.parent) || decide (a.parent = b.parent) && (decide (a.span.fro < b.span.fro) || decide (a.span.fro = b.span.fro) && decide (a.rank < b.rank))
def SortN (l : List Note) : Prop := l.Pairwise fun a b => keyLt b a = false
theorem key_iff {a b : Note} : keyLt b a = false ↔ a.parent < b.parent ∨ a.parent = b.parent ∧ (a.span.fro < b.span.fro ∨ a.span.fro = b.span.fro ∧ a.rank ≤ b.rank) := by
  rw [Bool.eq_false_iff]
  simp only [keyLt, ne_eq, Bool.or_eq_true, Bool.and_eq_true, decide_eq_true_eq]
  omega
def overN (prev : Option Note) (n : Note) : Bool := match prev with | some q => decide (q.parent = n.parent) && decide (n.span.fro < q.span.til) | none => false
def firstN (prev : Option Note) (n : Note) : Bool := match prev with | some q => !decide (q.parent = n.parent) | none => true
def lastN (n : Note) (r : List Note) : Bool := match r with | m :: _ => !decide (m.parent = n.parent) | [] => true
def badN (kind : Int) (P : Int → Span) (prev : Option Note) (n : Note) (r : List Note) : Bool :=
  if kind = 1 then (firstN prev n && !decide (n.span.fro = (P n.parent).fro)) || (!firstN prev n && !decide ((prev.getD noNote).span.til = n.span.fro)) || (lastN n r && !decide (n.span.til = (P n.parent).til))
  else if kind = 3 then (firstN prev n && !decide (n.rank = 0)) || (!firstN prev n && !decide (n.rank = (prev.getD noNote).rank + 1))
  else if kind = 4 then !firstN prev n
  else false
def badCode (kind : Int) : Int := if kind = 1 then 16 else if kind = 3 then 10 else 8
def tierPF (kind : Int) (P : Int → Span) : Int → Option Note → List Note → Int
  | why, _, [] => why
  | why, prev, n :: r => if timed kind = true ∧ overN prev n = true then 15 else tierPF kind P (if badN kind P prev n r = true then badCode kind else why) (some n) r
def anyOver : Option Note → List Note → Bool
  | _, [] => false
  | prev, n :: r => overN prev n || anyOver (some n) r
def anyBad (kind : Int) (P : Int → Span) : Option Note → List Note → Bool
  | _, [] => false
  | prev, n :: r => badN kind P prev n r || anyBad kind P (some n) r
theorem tierPF_eq (kind : Int) (P : Int → Span) : ∀ (l : List Note) (why : Int) (prev : Option Note), tierPF kind P why prev l = if timed kind = true ∧ anyOver prev l = true then 15 else if anyBad kind P prev l = true then badCode kind else why
  | [], why, prev => by simp [tierPF, anyOver, anyBad]
  | n :: r, why, prev => by
    rw [tierPF, tierPF_eq kind P r]
    simp only [anyOver, anyBad]
    by_cases q1 : timed kind = true <;> by_cases q2 : overN prev n = true <;> by_cases q3 : badN kind P prev n r = true <;> simp [q1, q2, q3]
def badG (kind : Int) (l : List Note) (s : Span) : Bool :=
  if kind = 1 then !covB (l.map (·.span)) s
  else if kind = 3 then !rankedL (l.map (·.rank))
  else if kind = 4 then decide (1 < l.length)
  else false
theorem tierStep_eq (d : Doc) (kind out : Int) (n : Note) : tierStep d kind out n = if badG kind (sibs d n.tier n.parent) ((getN d.notes n.parent).getD noNote).span = true then badCode kind else out := by
  unfold tierStep badG badCode
  simp only
  by_cases h1 : kind = 1
  · subst h1
    cases covB ((sibs d n.tier n.parent).map (·.span)) ((getN d.notes n.parent).getD noNote).span <;> simp
  by_cases h3 : kind = 3
  · subst h3
    cases rankedL ((sibs d n.tier n.parent).map (·.rank)) <;> simp
  by_cases h4 : kind = 4
  · subst h4
    by_cases h : 1 < (sibs d n.tier n.parent).length <;> simp [h]
  simp [h1, h3, h4]
theorem tierE1_eq (d : Doc) (kind tier : Int) : ∀ (l : List Note) (out : Int), tierE1 d kind tier out l =
    if timed kind = true ∧ (l.filter fun n => decide (n.tier = tier)).any (fun n => overlapL ((sibs d tier n.parent).map (·.span))) = true then 15
    else if (l.filter fun n => decide (n.tier = tier)).any (fun n => badG kind (sibs d tier n.parent) ((getN d.notes n.parent).getD noNote).span) = true then badCode kind else out
  | [], out => by simp [tierE1]
  | n :: r, out => by
    rw [tierE1]
    by_cases h : n.tier = tier
    · subst h
      rw [if_neg (by simp), tierE1_eq d kind n.tier r, tierStep_eq]
      simp only [List.filter_cons, decide_true, if_true, List.any_cons]
      by_cases q1 : timed kind = true <;> by_cases q2 : overlapL ((sibs d n.tier n.parent).map (·.span)) = true <;> by_cases q3 : badG kind (sibs d n.tier n.parent) ((getN d.notes n.parent).getD noNote).span = true <;> simp [q1, q2, q3]
    · rw [if_pos h, tierE1_eq d kind tier r]
      simp only [List.filter_cons, decide_eq_false h, Bool.false_eq_true, if_false]
theorem blocks : ∀ (l : List Note), l.Pairwise (fun a b => a.parent ≤ b.parent) → l = [] ∨ ∃ p B R, l = B ++ R ∧ B ≠ [] ∧ (∀ b ∈ B, b.parent = p) ∧ ∀ r ∈ R, r.parent ≠ p
  | [], _ => .inl rfl
  | n :: r, h => by
    right
    rw [List.pairwise_cons] at h
    rcases blocks r h.2 with rfl | ⟨p, B, R, rfl, hB, h1, h2⟩
    · exact ⟨n.parent, [n], [], rfl, by simp, by simp, by simp⟩
    · by_cases hp : p = n.parent
      · exact ⟨p, n :: B, R, rfl, by simp, fun b hb => by
          rcases List.mem_cons.1 hb with rfl | hb
          · exact hp.symm
          · exact h1 b hb, h2⟩
      · refine ⟨n.parent, [n], B ++ R, rfl, by simp, by simp, fun x hx => ?_⟩
        obtain ⟨b, hb⟩ := List.exists_mem_of_ne_nil B hB
        have e1 := h1 b hb
        have e2 := h.1 b (by simp [hb])
        rcases List.mem_append.1 hx with hx | hx
        · rw [h1 x hx]; exact hp
        · have e4 := (List.pairwise_append.1 h.2).2.2 b hb x hx
          omega
def grpOf (l : List Note) (p : Int) : List Note := l.filter fun m => decide (m.parent = p)
theorem grp_all {l : List Note} {p : Int} (h : ∀ b ∈ l, b.parent = p) : grpOf l p = l := List.filter_eq_self.2 fun b hb => by simp [h b hb]
theorem grp_none {l : List Note} {p : Int} (h : ∀ b ∈ l, b.parent ≠ p) : grpOf l p = [] := List.filter_eq_nil_iff.2 fun b hb => by simp [h b hb]
theorem grp_app (a b : List Note) (p : Int) : grpOf (a ++ b) p = grpOf a p ++ grpOf b p := List.filter_append ..
theorem group_any (H : List Note → Prop) (hs : ∀ l, H l → l.Pairwise fun a b => a.parent ≤ b.parent) (ha : ∀ a b, H (a ++ b) → H a ∧ H b)
    (A : List Note → Bool) (f : Int → List Note → Bool) (h0 : A [] = false)
    (hA : ∀ p B R, B ≠ [] → (∀ b ∈ B, b.parent = p) → (∀ r ∈ R, r.parent ≠ p) → A (B ++ R) = (A B || A R))
    (hf : ∀ p B, B ≠ [] → (∀ b ∈ B, b.parent = p) → H B → A B = f p B) :
    ∀ (m : Nat) (l : List Note), l.length ≤ m → H l → A l = l.any fun n => f n.parent (grpOf l n.parent)
  | m, l, hm, hl => by
    rcases blocks l (hs l hl) with rfl | ⟨p, B, R, rfl, hB, h1, h2⟩
    · rw [h0]; rfl
    · obtain ⟨b0, hb0⟩ := List.exists_mem_of_ne_nil B hB
      have hlen : 0 < B.length := List.length_pos_iff.2 hB
      obtain ⟨m, rfl⟩ : ∃ k, m = k + 1 := ⟨m - 1, by simp at hm; omega⟩
      obtain ⟨q1, q2⟩ := ha _ _ hl
      have ih := group_any H hs ha A f h0 hA hf m R (by simp at hm; omega) q2
      rw [hA p B R hB h1 h2, hf p B hB h1 q1, ih, List.any_append]
      have e1 : ∀ b ∈ B, grpOf (B ++ R) b.parent = B := fun b hb => by
        rw [grp_app, h1 b hb, grp_all h1, grp_none h2, List.append_nil]
      have e2 : ∀ r ∈ R, grpOf (B ++ R) r.parent = grpOf R r.parent := fun r hr => by
        rw [grp_app, grp_none (l := B) (fun b hb => by rw [h1 b hb]; exact fun e => h2 r hr e.symm), List.nil_append]
      congr 1
      · rw [Bool.eq_iff_iff, List.any_eq_true]
        constructor
        · intro h; exact ⟨b0, hb0, by rw [e1 b0 hb0, h1 b0 hb0]; exact h⟩
        · rintro ⟨b, hb, h⟩; rw [e1 b hb, h1 b hb] at h; exact h
      · rw [Bool.eq_iff_iff, List.any_eq_true, List.any_eq_true]
        constructor
        · rintro ⟨r, hr, h⟩; exact ⟨r, hr, by rw [e2 r hr]; exact h⟩
        · rintro ⟨r, hr, h⟩; exact ⟨r, hr, by rw [e2 r hr] at h; exact h⟩
theorem over_ne {q : Note} {R : List Note} (h : ∀ r ∈ R, r.parent ≠ q.parent) : anyOver (some q) R = anyOver none R := by
  cases R with
  | nil => rfl
  | cons r t =>
    simp only [anyOver, overN, Bool.false_or]
    rw [decide_eq_false (fun e => h r (by simp) e.symm)]; rfl
theorem over_app : ∀ (B : List Note) (prev : Option Note) (p : Int) (R : List Note), B ≠ [] → (∀ b ∈ B, b.parent = p) → (∀ r ∈ R, r.parent ≠ p) → anyOver prev (B ++ R) = (anyOver prev B || anyOver none R)
  | [b], prev, p, R, _, h1, h2 => by
    simp only [List.cons_append, List.nil_append, anyOver, Bool.or_false]
    rw [over_ne (fun r hr => by rw [h1 b (by simp)]; exact h2 r hr)]
  | b :: c :: B, prev, p, R, _, h1, h2 => by
    rw [List.cons_append, anyOver, anyOver, over_app (c :: B) (some b) p R (by simp) (fun x hx => h1 x (List.mem_cons_of_mem _ hx)) h2, Bool.or_assoc]
theorem bad_ne {kind : Int} {P : Int → Span} {q : Note} {R : List Note} (h : ∀ r ∈ R, r.parent ≠ q.parent) : anyBad kind P (some q) R = anyBad kind P none R := by
  cases R with
  | nil => rfl
  | cons r t =>
    simp only [anyBad]
    congr 1
    have e : decide (q.parent = r.parent) = false := decide_eq_false (fun e => h r (by simp) e.symm)
    simp [badN, firstN, e]
theorem bad_app (kind : Int) (P : Int → Span) : ∀ (B : List Note) (prev : Option Note) (p : Int) (R : List Note), B ≠ [] → (∀ b ∈ B, b.parent = p) → (∀ r ∈ R, r.parent ≠ p) → anyBad kind P prev (B ++ R) = (anyBad kind P prev B || anyBad kind P none R)
  | [b], prev, p, R, _, h1, h2 => by
    simp only [List.cons_append, List.nil_append, anyBad, Bool.or_false]
    rw [bad_ne (fun r hr => by rw [h1 b (by simp)]; exact h2 r hr)]
    congr 1
    have : lastN b R = lastN b [] := by
      cases R with
      | nil => rfl
      | cons r t => simp only [lastN]; rw [decide_eq_false (fun e => h2 r (by simp) (by rw [e]; exact h1 b (by simp)))]; rfl
    simp only [badN, this]
  | b :: c :: B, prev, p, R, _, h1, h2 => by
    rw [List.cons_append, anyBad, anyBad, bad_app kind P (c :: B) (some b) p R (by simp) (fun x hx => h1 x (List.mem_cons_of_mem _ hx)) h2, Bool.or_assoc]
    rfl
theorem overlapL_iff (l : List Span) : overlapL l = false ↔ l.Pairwise fun a b => meet a b = false := by
  have hm : ∀ a b, meet a b = meet b a := fun a b => by simp [meet, Bool.and_comm]
  have gd : ∀ (k : Nat) (h : k < l.length), l.getD k ⟨0, 0⟩ = l[k] := fun k h => by simp [List.getD, h]
  rw [List.pairwise_iff_getElem, Bool.eq_false_iff]
  constructor
  · intro h i j hi hj hij
    rw [Bool.eq_false_iff]
    intro hmm
    apply h
    simp only [overlapL, List.any_eq_true, List.mem_range]
    exact ⟨j, hj, i, hij, by rw [gd j hj, gd i hi, hm]; exact hmm⟩
  · intro h hmm
    simp only [overlapL, List.any_eq_true, List.mem_range] at hmm
    obtain ⟨j, hj, i, hij, hmm⟩ := hmm
    have hi : i < l.length := by omega
    rw [gd j hj, gd i hi, hm, h i j hi hj hij] at hmm
    cases hmm
theorem overlapL_perm {a b : List Span} (h : a.Perm b) : overlapL a = overlapL b := by
  have hm : ∀ {a b : Span}, meet a b = false → meet b a = false := fun {a b} h => by rw [← h]; simp [meet, Bool.and_comm]
  have : overlapL a = false ↔ overlapL b = false := by
    rw [overlapL_iff, overlapL_iff]
    exact h.pairwise_iff hm
  cases ea : overlapL a <;> cases eb : overlapL b <;> simp_all
theorem over_chain : ∀ (B : List Note) (a : Note), (∀ b ∈ a :: B, b.parent = a.parent) → (∀ b ∈ a :: B, b.span.fro < b.span.til) → anyOver (some a) B = false → (a :: B).Pairwise fun x y => x.span.til ≤ y.span.fro
  | [], a, _, _, _ => by simp
  | b :: r, a, h1, h2, h => by
    have hb : b.parent = a.parent := h1 b (by simp)
    simp only [anyOver, overN, Bool.or_eq_false_iff, hb, decide_true, Bool.true_and, decide_eq_false_iff_not] at h
    have ih := over_chain r b (fun x hx => by rw [hb]; exact h1 x (List.mem_cons_of_mem _ hx)) (fun x hx => h2 x (List.mem_cons_of_mem _ hx)) h.2
    rw [List.pairwise_cons]
    refine ⟨fun x hx => ?_, ih⟩
    rcases List.mem_cons.1 hx with rfl | hx
    · omega
    · have := (List.pairwise_cons.1 ih).1 x hx
      have := h2 b (by simp)
      omega
theorem over_none : ∀ (B : List Note) (a : Note), (∀ b ∈ a :: B, b.span.fro < b.span.til) → (a :: B).Pairwise (fun x y => x.parent = y.parent ∧ x.span.fro ≤ y.span.fro) → (a :: B).Pairwise (fun x y => meet x.span y.span = false) → anyOver (some a) B = false
  | [], a, _, _, _ => rfl
  | b :: r, a, h1, h2, h3 => by
    have ih := over_none r b (fun x hx => h1 x (List.mem_cons_of_mem _ hx)) (List.pairwise_cons.1 h2).2 (List.pairwise_cons.1 h3).2
    have e1 := (List.pairwise_cons.1 h2).1 b (by simp)
    have e2 := (List.pairwise_cons.1 h3).1 b (by simp)
    have e3 := h1 b (by simp)
    simp only [meet, Bool.and_eq_false_iff, decide_eq_false_iff_not] at e2
    simp only [anyOver, overN, ih, Bool.or_false, Bool.and_eq_false_iff, decide_eq_false_iff_not]
    omega
theorem over_group {p : Int} {B : List Note} (hB : B ≠ []) (h1 : ∀ b ∈ B, b.parent = p) (h2 : ∀ b ∈ B, b.span.fro < b.span.til) (h3 : SortN B) : anyOver none B = overlapL (B.map (·.span)) := by
  match B, hB with
  | a :: B, _ =>
    have hp : ∀ b ∈ a :: B, b.parent = a.parent := fun b hb => by rw [h1 b hb, h1 a (by simp)]
    have e : anyOver none (a :: B) = anyOver (some a) B := by simp [anyOver, overN]
    rw [e]
    have k : anyOver (some a) B = false ↔ overlapL ((a :: B).map (·.span)) = false := by
      rw [overlapL_iff, List.pairwise_map]
      constructor
      · intro h
        refine (over_chain B a hp h2 h).imp fun {x y} hxy => ?_
        simp only [meet, Bool.and_eq_false_iff, decide_eq_false_iff_not]
        omega
      · intro h
        refine over_none B a h2 ?_ h
        refine h3.imp_of_mem fun {x y} hx hy hxy => ?_
        rw [key_iff] at hxy
        have := h1 x hx
        have := h1 y hy
        omega
    cases ea : anyOver (some a) B <;> cases eb : overlapL ((a :: B).map (·.span)) <;> simp_all
def gapR (til : Int) : Note → List Note → Bool
  | b, [] => !decide (b.span.til = til)
  | b, c :: r => !decide (b.span.til = c.span.fro) || gapR til c r
theorem gapR_iff {til : Int} : ∀ (B : List Note) (b : Note), (b :: B).Pairwise (fun x y => x.span.til ≤ y.span.fro) → (∀ x ∈ b :: B, x.span.fro < x.span.til ∧ x.span.til ≤ til) → (gapR til b B = false ↔ ∀ x, b.span.fro ≤ x → x < til → ∃ t ∈ b :: B, inS x t.span)
  | [], b, _, h2 => by
    have hb := h2 b (by simp)
    simp only [gapR, Bool.not_eq_false', decide_eq_true_eq]
    constructor
    · intro e x h1 h3
      exact ⟨b, by simp, h1, by omega⟩
    · intro h
      rcases Int.lt_or_le b.span.til til with q | q
      · obtain ⟨t, ht, h3⟩ := h b.span.til (by omega) q
        simp only [List.mem_singleton] at ht
        subst ht
        exact absurd h3.2 (by omega)
      · omega
  | c :: r, b, h1, h2 => by
    have hb := h2 b (by simp)
    have hc := h2 c (by simp)
    have hbc := (List.pairwise_cons.1 h1).1 c (by simp)
    have ih := gapR_iff r c (List.pairwise_cons.1 h1).2 (fun x hx => h2 x (List.mem_cons_of_mem _ hx))
    simp only [gapR, Bool.or_eq_false_iff, Bool.not_eq_false', decide_eq_true_eq]
    rw [ih]
    constructor
    · rintro ⟨e, h⟩ x h3 h4
      rcases Int.lt_or_le x b.span.til with q | q
      · exact ⟨b, by simp, h3, q⟩
      · obtain ⟨t, ht, hx⟩ := h x (by omega) h4
        exact ⟨t, List.mem_cons_of_mem _ ht, hx⟩
    · intro h
      refine ⟨?_, fun x h3 h4 => ?_⟩
      · rcases Int.lt_or_le b.span.til c.span.fro with q | q
        · obtain ⟨t, ht, hx⟩ := h b.span.til (by omega) (by omega)
          rcases List.mem_cons.1 ht with rfl | ht
          · exact absurd hx.2 (by omega)
          · rcases List.mem_cons.1 ht with rfl | ht
            · exact absurd hx.1 (by omega)
            · have := (List.pairwise_cons.1 (List.pairwise_cons.1 h1).2).1 t ht
              exact absurd hx.1 (by omega)
        · omega
      · obtain ⟨t, ht, hx⟩ := h x (by omega) h4
        rcases List.mem_cons.1 ht with rfl | ht
        · exact absurd hx.2 (by omega)
        · exact ⟨t, ht, hx⟩
theorem bad1_rest (P : Int → Span) : ∀ (B : List Note) (a : Note), (∀ b ∈ a :: B, b.parent = a.parent) → (lastN a B && !decide (a.span.til = (P a.parent).til) || anyBad 1 P (some a) B) = gapR (P a.parent).til a B
  | [], a, _ => by simp [lastN, anyBad, gapR]
  | b :: r, a, h1 => by
    have hb : b.parent = a.parent := h1 b (by simp)
    have ih := bad1_rest P r b (fun x hx => by rw [hb]; exact h1 x (List.mem_cons_of_mem _ hx))
    rw [hb] at ih
    have hl : lastN a (b :: r) = false := by simp [lastN, hb]
    rw [hl, gapR, ← ih, anyBad]
    simp only [badN, if_true, firstN, hb, decide_true, Bool.not_true, Bool.not_false, Bool.false_and, Bool.true_and, Bool.false_or, Option.getD_some, Bool.or_assoc]
theorem bad_one {p : Int} {B : List Note} {P : Int → Span} (hB : B ≠ []) (h1 : ∀ b ∈ B, b.parent = p) (h2 : ∀ b ∈ B, spanRight b.span = true) (h3 : SortN B) (ho : anyOver none B = false)
    (hP : spanRight (P p) = true) (hw : ∀ b ∈ B, (P p).fro ≤ b.span.fro ∧ b.span.til ≤ (P p).til) : anyBad 1 P none B = !covB (B.map (·.span)) (P p) := by
  match B, hB with
  | a :: B, _ =>
    have hp : ∀ b ∈ a :: B, b.parent = a.parent := fun b hb => by rw [h1 b hb, h1 a (by simp)]
    have hap : a.parent = p := h1 a (by simp)
    have hlt : ∀ b ∈ a :: B, b.span.fro < b.span.til := fun b hb => (right_iff.1 (h2 b hb)).2.1
    have e : anyOver none (a :: B) = anyOver (some a) B := by simp [anyOver, overN]
    rw [e] at ho
    have hch := over_chain B a hp hlt ho
    have hg := gapR_iff (til := (P p).til) B a hch (fun x hx => ⟨hlt x hx, (hw x hx).2⟩)
    have hr := bad1_rest P B a hp
    rw [hap] at hr
    have e2 : anyBad 1 P none (a :: B) = (!decide (a.span.fro = (P p).fro) || gapR (P p).til a B) := by
      rw [← hr]
      simp only [anyBad, badN, if_true, firstN, hap, Bool.true_and, Bool.not_true, Bool.false_and, Bool.or_false, Bool.or_assoc]
    rw [e2]
    have hpr := right_iff.1 hP
    have haw := hw a (by simp)
    have k : (!decide (a.span.fro = (P p).fro) || gapR (P p).til a B) = false ↔ covB ((a :: B).map (·.span)) (P p) = true := by
      rw [covB_iff hP, Bool.or_eq_false_iff, hg, Bool.not_eq_false', decide_eq_true_eq]
      constructor
      · rintro ⟨e, h⟩ x hx
        obtain ⟨t, ht, hx2⟩ := h x (by have := hx.1; omega) hx.2
        exact ⟨t.span, List.mem_map.2 ⟨t, ht, rfl⟩, h2 t ht, hx2⟩
      · intro h
        have e : a.span.fro = (P p).fro := by
          obtain ⟨s, hs, _, hx⟩ := h (P p).fro ⟨Int.le_refl _, by omega⟩
          obtain ⟨t, ht, rfl⟩ := List.mem_map.1 hs
          rcases List.mem_cons.1 ht with rfl | ht'
          · have := hx.1; omega
          · have := (List.pairwise_cons.1 hch).1 t ht'
            have := hlt a (by simp)
            have := hx.1
            omega
        refine ⟨e, fun x h3 h4 => ?_⟩
        obtain ⟨s, hs, _, hx⟩ := h x ⟨by omega, h4⟩
        obtain ⟨t, ht, rfl⟩ := List.mem_map.1 hs
        exact ⟨t, ht, hx⟩
    cases ea : (!decide (a.span.fro = (P p).fro) || gapR (P p).til a B) <;> cases eb : covB ((a :: B).map (·.span)) (P p) <;> simp_all
end Go.Proofs.YtigcjinpkngapaaGreatDoor
end
section
namespace Go.Proofs.YtigcjinpkngapaaGreatDoor
theorem pigeon : ∀ (m : Nat) (l : List Int) (o : Int), (∀ n, n < m → o + (n : Int) ∈ l) → m ≤ l.length
  | 0, _, _, _ => Nat.zero_le _
  | m + 1, l, o, h => by
    have hm := h m (by omega)
    have ih := pigeon m (l.erase (o + (m : Int))) o fun n hn => (List.mem_erase_of_ne (by omega)).2 (h n (by omega))
    rw [List.length_erase_of_mem hm] at ih
    have := List.length_pos_of_mem hm
    omega
def seqR : Note → List Note → Bool
  | _, [] => true
  | b, c :: r => decide (c.rank = b.rank + 1) && seqR c r
theorem seqR_iff : ∀ (B : List Note) (b : Note), seqR b B = true ↔ ∀ i (h : i < (b :: B).length), (b :: B)[i].rank = b.rank + (i : Int)
  | [], b => by
    simp only [seqR, true_iff]
    intro i h
    simp at h
    subst h
    simp
  | c :: r, b => by
    have ih := seqR_iff r c
    simp only [seqR, Bool.and_eq_true, decide_eq_true_eq, ih]
    constructor
    · rintro ⟨e, h⟩ i hi
      match i with
      | 0 => simp
      | i + 1 =>
        have := h i (by simpa using hi)
        rw [List.getElem_cons_succ, this, e]; omega
    · intro h
      have h1 := h 1 (by simp)
      simp only [List.getElem_cons_succ, List.getElem_cons_zero] at h1
      refine ⟨by omega, fun i hi => ?_⟩
      have := h (i + 1) (by simpa using hi)
      rw [List.getElem_cons_succ] at this
      rw [this]; omega
theorem bad3_rest (P : Int → Span) : ∀ (B : List Note) (a : Note), (∀ b ∈ a :: B, b.parent = a.parent) → anyBad 3 P (some a) B = !seqR a B
  | [], a, _ => rfl
  | b :: r, a, h1 => by
    have hb : b.parent = a.parent := h1 b (by simp)
    have ih := bad3_rest P r b (fun x hx => by rw [hb]; exact h1 x (List.mem_cons_of_mem _ hx))
    rw [anyBad, ih]
    simp [badN, firstN, hb, seqR]
theorem bad_three {p : Int} {B : List Note} {P : Int → Span} (hB : B ≠ []) (h1 : ∀ b ∈ B, b.parent = p) (h2 : ∀ b ∈ B, b.span = ⟨0, 0⟩) (h3 : SortN B) (h4 : ∀ b ∈ B, 0 ≤ b.rank) : anyBad 3 P none B = !rankedL (B.map (·.rank)) := by
  match B, hB with
  | a :: B, _ =>
    have hp : ∀ b ∈ a :: B, b.parent = a.parent := fun b hb => by rw [h1 b hb, h1 a (by simp)]
    have e : anyBad 3 P none (a :: B) = !(decide (a.rank = 0) && seqR a B) := by
      rw [anyBad, bad3_rest P B a hp]
      simp [badN, firstN]
    rw [e]
    congr 1
    have hso : (a :: B).Pairwise fun x y => x.rank ≤ y.rank := h3.imp_of_mem fun {x y} hx hy hxy => by
      rw [key_iff, h2 x hx, h2 y hy] at hxy
      have := h1 x hx
      have := h1 y hy
      simp only at hxy
      omega
    generalize hl : a :: B = l at *
    have hlen : (l.map (·.rank)).length = l.length := List.length_map _
    have k1 : (decide (a.rank = 0) && seqR a B) = true ↔ ∀ i (h : i < l.length), l[i].rank = (i : Int) := by
      rw [Bool.and_eq_true, decide_eq_true_eq, seqR_iff]
      subst hl
      constructor
      · rintro ⟨e, h⟩ i hi
        rw [h i hi, e]; omega
      · intro h
        have h0 := h 0 (by simp)
        simp only [List.getElem_cons_zero] at h0
        exact ⟨h0, fun i hi => by rw [h i hi, h0]; simp⟩
    have k2 : rankedL (l.map (·.rank)) = true ↔ ∀ n, n < l.length → (n : Int) ∈ l.map (·.rank) := by
      simp only [rankedL, List.all_eq_true, List.mem_range, hlen, List.any_eq_true, decide_eq_true_eq]
      constructor
      · intro h n hn
        obtain ⟨r, hr, e⟩ := h n hn
        rw [← e]; exact hr
      · intro h n hn
        exact ⟨_, h n hn, rfl⟩
    have k : (∀ i (h : i < l.length), l[i].rank = (i : Int)) ↔ ∀ n, n < l.length → (n : Int) ∈ l.map (·.rank) := by
      constructor
      · intro h n hn
        exact List.mem_map.2 ⟨l[n], List.getElem_mem hn, h n hn⟩
      · intro h i hi
        have hpw := List.pairwise_iff_getElem.1 hso
        rcases Int.lt_trichotomy l[i].rank (i : Int) with q | q | q
        · exfalso
          have := pigeon (l.length - i) ((l.drop (i + 1)).map (·.rank)) (i : Int) fun n hn => by
            obtain ⟨x, hx, e⟩ := List.mem_map.1 (h (i + n) (by omega))
            obtain ⟨j, hj, rfl⟩ := List.getElem_of_mem hx
            refine List.mem_map.2 ⟨l[j], ?_, by rw [e]; omega⟩
            rcases Nat.lt_or_ge i j with g | g
            · rw [List.mem_iff_getElem]
              exact ⟨j - (i + 1), by simp; omega, by simp only [List.getElem_drop]; congr 1; omega⟩
            · exfalso
              rcases Nat.lt_or_ge j i with g2 | g2
              · have := hpw j i hj hi g2
                omega
              · have : j = i := by omega
                subst this
                omega
          simp at this
          omega
        · exact q
        · exfalso
          have := pigeon (i + 1) ((l.take i).map (·.rank)) 0 fun n hn => by
            obtain ⟨x, hx, e⟩ := List.mem_map.1 (h n (by omega))
            obtain ⟨j, hj, rfl⟩ := List.getElem_of_mem hx
            refine List.mem_map.2 ⟨l[j], ?_, by rw [e]; omega⟩
            rcases Nat.lt_or_ge j i with g | g
            · rw [List.mem_iff_getElem]
              exact ⟨j, by simp; omega, by simp⟩
            · exfalso
              rcases Nat.lt_or_ge i j with g2 | g2
              · have := hpw i j hi hj g2
                omega
              · have : j = i := by omega
                subst this
                omega
          simp at this
          omega
    rw [Bool.eq_iff_iff, k1, k2, k]
theorem ranked_perm {a b : List Int} (h : a.Perm b) : rankedL a = rankedL b := by
  simp only [rankedL, h.length_eq]
  congr 1
  funext n
  rw [Bool.eq_iff_iff, List.any_eq_true, List.any_eq_true]
  exact ⟨fun ⟨x, h1, h2⟩ => ⟨x, h.mem_iff.1 h1, h2⟩, fun ⟨x, h1, h2⟩ => ⟨x, h.mem_iff.2 h1, h2⟩⟩
theorem cov_perm {a b : List Span} (h : a.Perm b) {s : Span} (hs : spanRight s = true) : covB a s = covB b s := by
  rw [Bool.eq_iff_iff, covB_iff hs, covB_iff hs]
  exact ⟨fun q p hp => by
    obtain ⟨t, ht, r⟩ := q p hp
    exact ⟨t, h.mem_iff.1 ht, r⟩, fun q p hp => by
    obtain ⟨t, ht, r⟩ := q p hp
    exact ⟨t, h.mem_iff.2 ht, r⟩⟩
theorem bad_four {p : Int} {B : List Note} {P : Int → Span} (hB : B ≠ []) (h1 : ∀ b ∈ B, b.parent = p) : anyBad 4 P none B = decide (1 < B.length) := by
  match B, hB with
  | [a], _ => simp [anyBad, badN, firstN]
  | a :: b :: r, _ =>
    have hp : b.parent = a.parent := by rw [h1 b (by simp), h1 a (by simp)]
    have : decide (1 < (a :: b :: r).length) = true := by simp
    rw [this, anyBad, anyBad]
    simp [badN, firstN, hp]
theorem bad_other {kind : Int} {P : Int → Span} (h : kind ≠ 1 ∧ kind ≠ 3 ∧ kind ≠ 4) : ∀ (l : List Note) (prev : Option Note), anyBad kind P prev l = false
  | [], _ => rfl
  | n :: r, prev => by
    rw [anyBad, bad_other h r]
    simp [badN, h.1, h.2.1, h.2.2]
theorem badG_perm {kind : Int} {a b : List Note} (h : a.Perm b) {s : Span} (hs : kind = 1 → spanRight s = true) : badG kind a s = badG kind b s := by
  unfold badG
  split
  · rename_i h1; rw [cov_perm (h.map _) (hs h1)]
  split
  · rw [ranked_perm (h.map _)]
  split
  · rw [h.length_eq]
  · rfl
structure NoteOk (kind : Int) (P : Int → Span) (n : Note) : Prop where
  s : timed kind = true → spanRight n.span = true
  w : kind = 1 → spanRight (P n.parent) = true ∧ (P n.parent).fro ≤ n.span.fro ∧ n.span.til ≤ (P n.parent).til
  z : timed kind = false → n.span = ⟨0, 0⟩
  r : 0 ≤ n.rank
theorem bad_group {kind : Int} {P : Int → Span} {p : Int} {B : List Note} (hB : B ≠ []) (h1 : ∀ b ∈ B, b.parent = p) (hk : ∀ b ∈ B, NoteOk kind P b) (hs : SortN B) (ho : timed kind = true → anyOver none B = false) : anyBad kind P none B = badG kind B (P p) := by
  obtain ⟨b, hb⟩ := List.exists_mem_of_ne_nil B hB
  by_cases k1 : kind = 1
  · subst k1
    have hw := (hk b hb).w rfl
    rw [h1 b hb] at hw
    exact bad_one hB h1 (fun x hx => (hk x hx).s rfl) hs (ho rfl) hw.1 fun x hx => by
      have := ((hk x hx).w rfl).2
      rwa [h1 x hx] at this
  by_cases k3 : kind = 3
  · subst k3
    exact bad_three hB h1 (fun x hx => (hk x hx).z rfl) hs fun x hx => (hk x hx).r
  by_cases k4 : kind = 4
  · subst k4
    exact bad_four hB h1
  rw [bad_other ⟨k1, k3, k4⟩]
  simp [badG, k1, k3, k4]
theorem sibs_grp {d : Doc} {tier p : Int} : sibs d tier p = grpOf (d.notes.filter fun n => decide (n.tier = tier)) p := by
  unfold sibs grpOf
  rw [List.filter_filter]
  congr 1
  funext n
  rw [Bool.and_comm]
theorem parent_sorted {l : List Note} (h : SortN l) : l.Pairwise fun a b => a.parent ≤ b.parent := h.imp fun {a b} q => by
  rw [key_iff] at q; omega
theorem over_drop : ∀ (a : List Note) (prev : Option Note) (b : List Note), anyOver prev (a ++ b) = false → anyOver prev a = false ∧ ∃ q, anyOver q b = false
  | [], prev, b, h => ⟨rfl, prev, h⟩
  | n :: r, prev, b, h => by
    rw [List.cons_append, anyOver, Bool.or_eq_false_iff] at h
    obtain ⟨h1, h2⟩ := over_drop r (some n) b h.2
    exact ⟨by rw [anyOver, h.1, h1]; rfl, h2⟩
theorem over_split {a b : List Note} (h : anyOver none (a ++ b) = false) : anyOver none a = false ∧ anyOver none b = false := by
  obtain ⟨h1, q, h2⟩ := over_drop a none b h
  refine ⟨h1, ?_⟩
  cases b with
  | nil => rfl
  | cons n r =>
    rw [anyOver, Bool.or_eq_false_iff] at h2
    rw [anyOver, h2.2]; rfl
theorem tierPF_tierE1 {d : Doc} {kind tier : Int} {L : List Note} (hp : L.Perm (d.notes.filter fun n => decide (n.tier = tier))) (hs : SortN L) (hk : ∀ n ∈ L, NoteOk kind (fun p => ((getN d.notes p).getD noNote).span) n) :
    tierPF kind (fun p => ((getN d.notes p).getD noNote).span) 0 none L = tierE1 d kind tier 0 d.notes := by
  rw [tierPF_eq, tierE1_eq]
  generalize hP : (fun p => ((getN d.notes p).getD noNote).span) = P at *
  have hPn : ∀ p, ((getN d.notes p).getD noNote).span = P p := fun p => by rw [← hP]
  simp only [hPn, sibs_grp]
  generalize hF : (d.notes.filter fun n => decide (n.tier = tier)) = F at *
  have hg : ∀ p, (grpOf F p).Perm (grpOf L p) := fun p => (hp.symm).filter _
  have a1 : timed kind = true → anyOver none L = F.any fun n => overlapL ((grpOf F n.parent).map (·.span)) := by
    intro ht
    rw [group_any (fun l => SortN l ∧ ∀ n ∈ l, NoteOk kind P n) (fun l h => parent_sorted h.1) (fun a b h => ⟨⟨(List.pairwise_append.1 h.1).1, fun n hn => h.2 n (by simp [hn])⟩, ⟨(List.pairwise_append.1 h.1).2.1, fun n hn => h.2 n (by simp [hn])⟩⟩)
      (anyOver none) (fun _ l => overlapL (l.map (·.span))) rfl (fun p B R hB h1 h2 => over_app B none p R hB h1 h2) (fun p B hB h1 h2 => over_group hB h1 (fun b hb => (right_iff.1 ((h2.2 b hb).s ht)).2.1) h2.1) L.length L (Nat.le_refl _) ⟨hs, hk⟩]
    rw [Bool.eq_iff_iff, List.any_eq_true, List.any_eq_true]
    constructor
    · rintro ⟨n, hn, h⟩; exact ⟨n, hp.mem_iff.1 hn, by rw [overlapL_perm ((hg n.parent).map _)]; exact h⟩
    · rintro ⟨n, hn, h⟩; exact ⟨n, hp.mem_iff.2 hn, by rw [overlapL_perm ((hg n.parent).map _)] at h; exact h⟩
  have a2 : (timed kind = true → anyOver none L = false) → anyBad kind P none L = F.any fun n => badG kind (grpOf F n.parent) (P n.parent) := by
    intro ho
    rw [group_any (fun l => SortN l ∧ (∀ n ∈ l, NoteOk kind P n) ∧ (timed kind = true → anyOver none l = false)) (fun l h => parent_sorted h.1) ?_
      (anyBad kind P none) (fun p l => badG kind l (P p)) rfl (fun p B R hB h1 h2 => bad_app kind P B none p R hB h1 h2) (fun p B hB h1 h2 => bad_group hB h1 h2.2.1 h2.1 h2.2.2) L.length L (Nat.le_refl _) ⟨hs, hk, ho⟩]
    · rw [Bool.eq_iff_iff, List.any_eq_true, List.any_eq_true]
      have e : ∀ n ∈ F, badG kind (grpOf F n.parent) (P n.parent) = badG kind (grpOf L n.parent) (P n.parent) := fun n hn => badG_perm (hg n.parent) fun h1 => ((hk n (hp.mem_iff.2 hn)).w h1).1
      constructor
      · rintro ⟨n, hn, h⟩; exact ⟨n, hp.mem_iff.1 hn, by rw [e n (hp.mem_iff.1 hn)]; exact h⟩
      · rintro ⟨n, hn, h⟩; exact ⟨n, hp.mem_iff.2 hn, by rw [e n hn] at h; exact h⟩
    · intro a b h
      refine ⟨⟨(List.pairwise_append.1 h.1).1, fun n hn => h.2.1 n (by simp [hn]), fun ht => ?_⟩, ⟨(List.pairwise_append.1 h.1).2.1, fun n hn => h.2.1 n (by simp [hn]), fun ht => ?_⟩⟩
      · exact (over_split (h.2.2 ht)).1
      · exact (over_split (h.2.2 ht)).2
  cases ht : timed kind with
  | true =>
    rw [← a1 ht]
    cases ho : anyOver none L with
    | true => simp
    | false => rw [← a2 (fun _ => ho)]
  | false =>
    rw [← a2 (fun h => by rw [ht] at h; cases h)]
    simp
end Go.Proofs.YtigcjinpkngapaaGreatDoor
end
section
namespace Go.Proofs.YtigcjinpkngapaaGreatDoor
theorem tierOne_up {b : List Tier} {t : Tier} (h : tierOne b t = 0) (hk : t.kind ≠ 0) : 0 ≤ t.parent ∧ ∃ p, b[t.parent.toNat]? = some p ∧ (timed t.kind = true → timed p.kind = true) := by
  have hp := (tierOne_parent h).2.2
  have hp : 0 ≤ t.parent ∧ t.parent < b.length := by
    rcases hp with ⟨e, _⟩ | ⟨_, e⟩
    · exact absurd e hk
    · exact e
  obtain ⟨p, hb⟩ : ∃ p, b[t.parent.toNat]? = some p := ⟨b[t.parent.toNat]'(by omega), by simp⟩
  refine ⟨hp.1, p, hb, fun ht => ?_⟩
  unfold tierOne at h
  split at h
  · cases h
  split at h
  · cases h
  split at h
  · cases h
  split at h
  · cases h
  split at h
  · cases h
  rw [if_neg (by omega), hb] at h
  simp only at h
  split at h
  · cases h
  · rename_i h5
    cases hq : timed p.kind with
    | true => rfl
    | false => exact absurd ⟨ht, hq⟩ h5
structure PlacedOk (d : Doc) (t : Tier) (n : Note) : Prop where
  p : t.kind ≠ 0 → ∃ q, getN d.notes n.parent = some q ∧ q.tier = t.parent
  z : timed t.kind = false → n.span = ⟨0, 0⟩
  s : timed t.kind = true → spanRight n.span = true
  w : timed t.kind = true → t.kind ≠ 0 → ((getN d.notes n.parent).getD noNote).span.fro ≤ n.span.fro ∧ n.span.til ≤ ((getN d.notes n.parent).getD noNote).span.til
  r : 0 ≤ n.rank
theorem placedE_zero {d : Doc} {t : Tier} {n : Note} (h : placedE d t n = 0) : PlacedOk d t n := by
  unfold placedE at h
  split at h
  · cases h
  rename_i h1
  split at h
  · cases h
  rename_i h2
  split at h
  · cases h
  split at h
  · cases h
  rename_i h4
  split at h
  · cases h
  rename_i h5
  refine ⟨fun hk => ?_, fun hz => ?_, fun hz => ?_, fun hz hk => ?_, by omega⟩
  · cases hg : getN d.notes n.parent with
    | none => exact absurd (.inr ⟨hk, .inl (by rw [hg]; rfl)⟩) h1
    | some q =>
      refine ⟨q, rfl, ?_⟩
      rcases Decidable.em (q.tier = t.parent) with e | e
      · exact e
      · exact absurd (.inr ⟨hk, .inr (by rw [hg]; exact e)⟩) h1
  · rcases Decidable.em (n.span = ⟨0, 0⟩) with e | e
    · exact e
    · exact absurd (.inl ⟨hz, e⟩) h2
  · cases hr : spanRight n.span with
    | true => rfl
    | false => exact absurd (.inr ⟨hz, hr⟩) h2
  · have : ¬ (n.span.fro < ((getN d.notes n.parent).getD noNote).span.fro ∨ ((getN d.notes n.parent).getD noNote).span.til < n.span.til) := fun q => h4 ⟨⟨hz, hk⟩, q⟩
    omega
theorem note_known {d : Doc} (hT : tiersE d.tiers = 0) (hN : notesE d none d.notes = 0) {i : Nat} {t : Tier} (ht : d.tiers[i]? = some t) {n : Note} (hn : n ∈ d.notes) (hi : n.tier = (i : Int)) : NoteOk t.kind (fun p => ((getN d.notes p).getD noNote).span) n := by
  have known : ∀ m ∈ d.notes, ∀ (j : Nat) (u : Tier), d.tiers[j]? = some u → m.tier = (j : Int) → PlacedOk d u m := by
    intro m hm j u hu hj
    obtain ⟨q, hq⟩ := notesE_all _ _ hN m hm
    obtain ⟨_, _, _, v, hv, hp⟩ := noteE_zero hq
    obtain ⟨_, v1⟩ := tierAt_some hv
    rw [hj, Int.toNat_natCast, hu] at v1
    injection v1 with e
    subst e
    exact placedE_zero hp
  have k := known n hn i t ht hi
  refine ⟨k.s, fun h1 => ?_, k.z, k.r⟩
  have hk0 : t.kind ≠ 0 := by omega
  have htm : timed t.kind = true := by rw [h1]; rfl
  obtain ⟨q, hq, hqt⟩ := k.p hk0
  obtain ⟨u0, u, hu, hup⟩ := tierOne_up (tiersE_one hT ht) hk0
  have hu2 : d.tiers[t.parent.toNat]? = some u := by
    rw [List.getElem?_take] at hu
    split at hu
    · exact hu
    · cases hu
  have kq := known q (getN_id hq).2 t.parent.toNat u hu2 (by rw [hqt]; omega)
  have hw := k.w htm hk0
  simp only [hq, Option.getD_some] at hw ⊢
  exact ⟨kq.s (hup htm), hw⟩
theorem tier_program {d : Doc} (hT : tiersE d.tiers = 0) (hN : notesE d none d.notes = 0) {i : Nat} {t : Tier} (ht : d.tiers[i]? = some t) {L : List Note} (hp : L.Perm (d.notes.filter fun n => decide (n.tier = (i : Int)))) (hs : SortN L) :
    tierPF t.kind (fun p => ((getN d.notes p).getD noNote).span) 0 none L = tierE d (i : Int) := by
  rw [tierPF_tierE1 hp hs fun n hn => ?_]
  · unfold tierE tierAt
    rw [if_pos (by omega), Int.toNat_natCast, ht]
  · obtain ⟨h1, h2⟩ := List.mem_filter.1 (hp.mem_iff.1 hn)
    exact note_known hT hN ht h1 (by simpa using h2)
end Go.Proofs.YtigcjinpkngapaaGreatDoor
end
