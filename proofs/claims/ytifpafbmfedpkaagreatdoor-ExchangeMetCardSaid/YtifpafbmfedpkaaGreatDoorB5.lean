/- A logic of trees over the model's steps, and the contracts of the functions that the laws reach: part 5 of 11. -/
import Derived.Test.YtifpafbmfedpkaaGreatDoorB4
section
set_option linter.unusedVariables false
set_option linter.unusedSimpArgs false
set_option linter.unusedSectionVars false
namespace Go.Proofs.YtifpafbmfedpkaaGreatDoor
open Go.Ac
attribute [local irreducible] awp awpL Ev Ev2 EvS thenQ blockQ retQ PCalls OCalls
set_option linter.unusedSimpArgs false
set_option linter.unusedVariables false
variable {g : List (Nat × List AV)}
abbrev ownM (l : List Op) (k : Nat) : List (Stamp × Op) := (l.take k).foldl (fun m o => aput m o.at_ o) []
theorem ownM_succ {l : List Op} {k : Nat} {x : Op} (h : l[k]? = some x) : ownM l (k + 1) = aput (ownM l k) x.at_ x := by
  unfold ownM
  rw [List.take_add_one, h, List.foldl_append]; rfl
theorem ownM_nd (l : List Op) (k : Nat) : ANd (ownM l k) := by
  unfold ownM
  have : ∀ (l : List Op) (m : List (Stamp × Op)), ANd m → ANd (l.foldl (fun m o => aput m o.at_ o) m) := by
    intro l
    induction l with
    | nil => intro m h; exact h
    | cons o r ih => intro m h; exact ih _ (h.put _ _)
  exact this _ _ (by simp [ANd])
def mks (m : List (Stamp × Op)) : List Value := m.map fun p => stampV p.1
def mxs (m : List (Stamp × Op)) : List AV := m.map fun p => .agg (opC p.2)
theorem mks_ok (m : List (Stamp × Op)) : ∀ k ∈ mks m, isStampV k := by
  intro k hk
  obtain ⟨p, _, rfl⟩ := List.mem_map.1 hk
  exact stampV_ok _
theorem mks_nd {m : List (Stamp × Op)} (h : ANd m) : (mks m).Nodup := h.kv stampV_inj
def unlike (m : List (Stamp × Op)) (o : Op) : Bool := match aget m o.at_ with
  | none => true
  | some y => !decide (y = o)
def behindM (a b : List Op) : Nat := b.countP (unlike (ownM a a.length))
abbrev bmK (m : List (Stamp × Op)) (b : List Op) (k : Nat) : Nat := (b.take k).countP (unlike m)
theorem bmK_succ {m : List (Stamp × Op)} {b : List Op} {k : Nat} {x : Op} (h : b[k]? = some x) : bmK m b (k + 1) = bmK m b k + (if unlike m x then 1 else 0) := by
  unfold bmK
  rw [List.take_add_one, h, List.countP_append]
  cases hq : unlike m x <;> simp [hq]
theorem bmK_le (m : List (Stamp × Op)) (b : List Op) (k : Nat) : bmK m b k ≤ b.length := Nat.le_trans List.countP_le_length (by rw [List.length_take]; omega)
theorem ownM_mem (l : List Op) : ∀ (k : Nat) (s : Stamp) (y : Op), aget (ownM l k) s = some y → y ∈ l := by
  intro k
  induction k with
  | zero => intro s y h; simp [ownM, aget] at h
  | succ k ih =>
    intro s y h
    cases ht : l[k]? with
    | none =>
      have : ownM l (k + 1) = ownM l k := by unfold ownM; rw [List.take_add_one, ht]; simp
      rw [this] at h; exact ih s y h
    | some x =>
      rw [ownM_succ ht, aget_put] at h
      split at h
      · injection h with h; subst h; exact List.mem_of_getElem? ht
      · exact ih s y h
set_option maxRecDepth 4000 in
set_option maxHeartbeats 2000000 in
theorem Behind_spec (a b : Replica) (ha : FitR a) (hb : FitR b) : PCalls Tryz.prog g 11 [.agg (repC a), .agg (repC b)] (vi (behindM a.ops b.ops)) := by
  have ha1 := ha.1.1
  have hb1 := hb.1.1
  refine pcalls' Tryz.func11 Tryz.ntmps11 rfl rfl rfl ?_
  repeat' (first
   | ((with_reducible refine is_un ?_); refine awpL_ev2 (ev_mkmap (by (try simp only [List.length_nil, List.length_cons, Nat.reduceAdd]); (try rfl)) (by (try simp only [List.set_cons_zero, List.set_cons_succ, List.nil_append, List.cons_append, List.append_nil, cellsOf, List.take_zero, List.drop_zero, List.take_succ_cons, List.drop_succ_cons, Nat.zero_add, Nat.reduceAdd, List.drop_nil, List.map_cons, List.map_nil]); (try rfl))) rfl ?_)
   | refine stn [] ?_
   | ((with_reducible refine is_awp ?_); refine awp_cond rfl (fun h => ?_) (fun h => ?_))
   | fail)
  refine awp_for (α := Nat) 1 (fun k => [(3, .fp (repC b)), (5, .mp 0), (15, encOps a.ops), (16, vi a.ops.length), (17, vi k)]) (fun k => [.map (mks (ownM a.ops k)) (mxs (ownM a.ops k))]) (fun k => k ≤ a.ops.length) (fun k => a.ops.length - k) 0
    ⟨(.cons rfl rfl (.cons rfl rfl (.cons rfl rfl (.cons rfl rfl (.cons rfl rfl .nil))))), rfl, rfl, rfl⟩ (Nat.zero_le _) ?_
  rintro k hk
  cases ht : a.ops[k]? with
  | some x =>
    have hlt : k < a.ops.length := (List.getElem?_eq_some_iff.1 ht).1
    have c1 : decide ((k : Int) < a.ops.length) = true := by simp; omega
    have h1 := op_get ht
    have hput : MPut (mks (ownM a.ops k)) (mxs (ownM a.ops k)) (stampV x.at_) (.agg (opC x)) (mks (ownM a.ops (k + 1))) (mxs (ownM a.ops (k + 1))) := by
      rw [ownM_succ ht]; exact put_data (kv := stampV) (va := fun o => AV.agg (opC o)) stampV_inj (ownM a.ops k) x.at_ x
    repeat' (first
     | ((with_reducible refine is_un ?_); refine awpL_evS (ev_mapUpd (L' := [.map (mks (ownM a.ops (k + 1))) (mxs (ownM a.ops (k + 1))), .dead]) stampKey rfl rfl rfl (stampV_R x.at_) rfl rfl rfl rfl (mks_ok _) (stampV_ok _) hput (mks_nd (ownM_nd _ _)) rfl) ?_)
     | refine stn [] ?_
     | fail)
    exact ⟨k + 1, ⟨(.cons rfl rfl (.cons rfl rfl (.cons rfl rfl (.cons rfl rfl (.cons rfl rfl .nil))))), rfl, rfl, rfl⟩, by omega, by omega⟩
  | none =>
    have hge : a.ops.length ≤ k := by simpa using ht
    have c1 : decide ((k : Int) < a.ops.length) = false := by simp; omega
    have hke : k = a.ops.length := by omega
    subst hke
    repeat' (first
     | refine stn [] ?_
     | ((with_reducible refine is_awp ?_); refine awp_cond rfl (fun h => ?_) (fun h => ?_))
     | fail)
    have hnd := ownM_nd a.ops a.ops.length
    have hmem := ownM_mem a.ops a.ops.length
    rw [behindM]
    generalize ownM a.ops a.ops.length = M at hnd hmem ⊢
    have z52 : zeroOf Tryz.prog 50 = some (.agg #[.int .i64 0, .int .i64 0, .int .i64 0, .int .i64 0, .int .i64 0, .int .i64 0, .int .i64 0, .int .i64 0, .int .i64 0, .int .i64 0, .string .empty, .int .i64 0, .int .i64 0, .string .empty, .slice none 0 0]) := by kernel_rfl
    refine awp_for (α := Nat) 1 (fun k => [(5, .mp 0), (8, vi (bmK M b.ops k)), (27, encOps b.ops), (28, vi b.ops.length), (29, vi k)]) (fun k => [.map (mks M) (mxs M)]) (fun k => k ≤ b.ops.length) (fun k => b.ops.length - k) 0
      ⟨(.cons rfl rfl (.cons rfl rfl (.cons rfl rfl (.cons rfl rfl (.cons rfl rfl .nil))))), rfl, rfl, rfl⟩ (Nat.zero_le _) ?_
    rintro k hk
    have hle := bmK_le M b.ops k
    cases ht : b.ops[k]? with
    | none =>
      have hge : b.ops.length ≤ k := by simpa using ht
      have c1 : decide ((k : Int) < b.ops.length) = false := by simp; omega
      refine runn [] ?_
      refine retP rfl ?_
      rw [show bmK M b.ops k = b.ops.countP (unlike M) by unfold bmK; rw [List.take_of_length_le hge]]
      rfl
    | some x =>
      have hlt : k < b.ops.length := (List.getElem?_eq_some_iff.1 ht).1
      have c1 : decide ((k : Int) < b.ops.length) = true := by simp; omega
      have h1 := op_get ht
      have hS := bmK_succ (m := M) ht
      cases hg : aget M x.at_ with
      | none =>
        have hl : MLook (mks M) (mxs M) (stampV x.at_) (avOf (.agg #[.int .i64 0, .int .i64 0, .int .i64 0, .int .i64 0, .int .i64 0, .int .i64 0, .int .i64 0, .int .i64 0, .int .i64 0, .int .i64 0, .string .empty, .int .i64 0, .int .i64 0, .string .empty, .slice none 0 0])) (avOf (.agg #[.int .i64 0, .int .i64 0, .int .i64 0, .int .i64 0, .int .i64 0, .int .i64 0, .int .i64 0, .int .i64 0, .int .i64 0, .int .i64 0, .string .empty, .int .i64 0, .int .i64 0, .string .empty, .slice none 0 0])) false := by
          have := look_data (kv := stampV) (va := fun o : Op => AV.agg (opC o)) stampV_inj M x.at_ (avOf (.agg #[.int .i64 0, .int .i64 0, .int .i64 0, .int .i64 0, .int .i64 0, .int .i64 0, .int .i64 0, .int .i64 0, .int .i64 0, .int .i64 0, .string .empty, .int .i64 0, .int .i64 0, .string .empty, .slice none 0 0]))
          rw [hg] at this; exact this
        have hu : unlike M x = true := by rw [unlike, hg]
        rw [if_pos hu] at hS
        have n1 : (!false) = true := rfl
        repeat' (first
         | ((with_reducible refine is_un ?_); refine awpL_ev (ev_lookup stampKey rfl rfl rfl (stampV_R x.at_) rfl rfl z52 rfl (mks_ok _) (stampV_ok _) hl (mks_nd hnd) rfl) rfl ?_)
         | refine stn [] ?_
         | fail)
        exact ⟨k + 1, ⟨(.cons rfl rfl (.cons rfl (by rw [hS]; rfl) (.cons rfl rfl (.cons rfl rfl (.cons rfl rfl .nil))))), rfl, rfl, rfl⟩, by omega, by omega⟩
      | some y =>
        have hl : MLook (mks M) (mxs M) (stampV x.at_) (avOf (.agg #[.int .i64 0, .int .i64 0, .int .i64 0, .int .i64 0, .int .i64 0, .int .i64 0, .int .i64 0, .int .i64 0, .int .i64 0, .int .i64 0, .string .empty, .int .i64 0, .int .i64 0, .string .empty, .slice none 0 0])) (.agg (opC y)) true := by
          have := look_data (kv := stampV) (va := fun o : Op => AV.agg (opC o)) stampV_inj M x.at_ (avOf (.agg #[.int .i64 0, .int .i64 0, .int .i64 0, .int .i64 0, .int .i64 0, .int .i64 0, .int .i64 0, .int .i64 0, .int .i64 0, .int .i64 0, .string .empty, .int .i64 0, .int .i64 0, .string .empty, .slice none 0 0]))
          rw [hg] at this; exact this
        have hsame := Same_spec (g := g) y x (by have := ha.1.2 y (hmem _ _ hg); omega) (hb.1.get ht)
        have hu : unlike M x = !decide (y = x) := by rw [unlike, hg]
        have n1 : (!true) = false := rfl
        repeat' (first
         | ((with_reducible refine is_un ?_); refine awpL_ev (ev_lookup stampKey rfl rfl rfl (stampV_R x.at_) rfl rfl z52 rfl (mks_ok _) (stampV_ok _) hl (mks_nd hnd) rfl) rfl ?_)
         | refine stn [] ?_
         | ((with_reducible refine is_awp ?_); refine awp_cond rfl (fun h => ?_) (fun h => ?_))
         | fail)
        · rw [hu, h] at hS
          exact ⟨k + 1, ⟨(.cons rfl rfl (.cons rfl (by rw [hS]; rfl) (.cons rfl rfl (.cons rfl rfl (.cons rfl rfl .nil))))), rfl, rfl, rfl⟩, by omega, by omega⟩
        · rw [hu, h] at hS
          exact ⟨k + 1, ⟨(.cons rfl rfl (.cons rfl (by rw [hS]; rfl) (.cons rfl rfl (.cons rfl rfl (.cons rfl rfl .nil))))), rfl, rfl, rfl⟩, by omega, by omega⟩
end Go.Proofs.YtifpafbmfedpkaaGreatDoor
namespace Go.Proofs.YtifpafbmfedpkaaGreatDoor
open Go.Ac
theorem aget_own : ∀ (l : List Op) (m : List (Stamp × Op)) (s : Stamp), Inc l → aget (l.foldl (fun m o => aput m o.at_ o) m) s = ((l.find? fun o => decide (o.at_ = s)).or (aget m s))
  | [], m, s, _ => rfl
  | o :: r, m, s, h => by
    obtain ⟨h1, h2⟩ := List.pairwise_cons.1 h
    rw [List.foldl_cons, aget_own r _ s h2, List.find?_cons, aget_put]
    by_cases e : o.at_ = s
    · rw [if_pos e, decide_eq_true e]
      have hn : r.find? (fun o => decide (o.at_ = s)) = none := by
        rw [List.find?_eq_none]
        intro p hp hc
        have := h1 p hp
        rw [e] at this
        exact less_ne this (of_decide_eq_true hc).symm
      rw [hn]; rfl
    · rw [if_neg e, decide_eq_false e]
theorem behindM_eq {a : List Op} (h : Inc a) (b : List Op) : behindM a b = behind a b := by
  unfold behindM behind
  congr 1
  funext o
  have hg : aget (ownM a a.length) o.at_ = a.find? fun p => decide (p.at_ = o.at_) := by
    unfold ownM
    rw [List.take_of_length_le (Nat.le_refl _), aget_own a [] o.at_ h]
    cases a.find? (fun p => decide (p.at_ = o.at_)) <;> rfl
  rw [unlike, hg]
  cases hf : a.find? (fun p => decide (p.at_ = o.at_)) with
  | none =>
    have : has a o = false := has_false.2 fun ho => by
      have := List.find?_eq_none.1 hf o ho
      simp at this
    simp [this]
  | some y =>
    have hy := List.mem_of_find?_eq_some hf
    have hat : y.at_ = o.at_ := by have := List.find?_some hf; simpa using this
    by_cases e : y = o
    · subst e; simp [has_iff.2 hy]
    · have : has a o = false := has_false.2 fun ho => e (h.uniq hy ho hat)
      simp [this, e]
end Go.Proofs.YtifpafbmfedpkaaGreatDoor
end
section
set_option linter.unusedVariables false
set_option linter.unusedSimpArgs false
set_option linter.unusedSectionVars false
namespace Go.Proofs.YtifpafbmfedpkaaGreatDoor
open Go.Ac
attribute [local irreducible] awp awpL Ev Ev2 EvS thenQ blockQ retQ PCalls OCalls YieldOk
set_option linter.unusedSimpArgs false
set_option linter.unusedVariables false
variable {g : List (Nat × List AV)}
theorem both_get {a b : List Op} {n : Nat} {x : Op} {r : List Op} (h : (both a b).drop n = x :: r) : ((both a b).map fun o => [AV.agg (opC o)])[n]? = some [.agg (opC x)] ∧ (both a b).drop (n + 1) = r := by
  have h1 : (both a b)[n]? = some x := by
    have := congrArg (fun l => l[0]?) h
    simpa using this
  have h2 := congrArg List.tail h
  exact ⟨by simp [h1], by simpa using h2⟩
set_option maxHeartbeats 2000000 in
theorem both1_spec (a b : List Op) (ha : Fit a) (hb : Fit b) : IterC Tryz.prog g 47 [.fp [encOps a], .fp [encOps b]] ((both a b).map fun o => [.agg (opC o)]) := by
  have ha1 := ha.1
  have hb1 := hb.1
  refine iterC Tryz.func47 rfl Tryz.ntmps47 rfl rfl ?_
  intro env yv hy
  repeat' (first
   | refine stn [7] ?_
   | ((with_reducible refine is_awp ?_); refine awp_cond rfl (fun h => ?_) (fun h => ?_))
   | fail)
  refine awp_for2 (α := Nat) (β := Nat) 1 (fun i k => [(0, .v yv), (1, .fp [encOps a]), (2, .fp [encOps b]), (4, vi i), (5, vi k)]) (fun i k => [.ghost (i + k)]) (fun i k => i ≤ a.length ∧ k ≤ b.length ∧ (both a b).drop (i + k) = both (a.drop i) (b.drop k)) (fun i k => a.length - i + (b.length - k)) 0 0
    ⟨(.cons rfl rfl (.cons rfl rfl (.cons rfl rfl (.cons rfl rfl (.cons rfl rfl .nil))))), rfl, rfl, rfl⟩ ⟨Nat.zero_le _, Nat.zero_le _, rfl⟩ ?_
  rintro i k ⟨hi, hk, hd⟩
  cases hx : a[i]? with
  | none =>
    have hgi : a.length ≤ i := by simpa using hx
    have c1 : decide ((i : Int) < a.length) = false := by simp; omega
    have e1 : decide ((i : Int) = a.length) = true := by simp; omega
    rw [List.drop_of_length_le hgi, both_nil] at hd
    cases hz : b[k]? with
    | none =>
      have hgk : b.length ≤ k := by simpa using hz
      have c2 : decide ((k : Int) < b.length) = false := by simp; omega
      have hdone : ((both a b).map fun o => [AV.agg (opC o)]).length = i + k := by rw [List.length_map, both_len]; omega
      refine runn [7] ?_
      exact retIn (r := .tup []) rfl (.inl (by rw [hdone]; rfl))
    | some y =>
      have hlt : k < b.length := (List.getElem?_eq_some_iff.1 hz).1
      have c2 : decide ((k : Int) < b.length) = true := by simp; omega
      have h1 := op_get hz
      have hdk : b.drop k = y :: b.drop (k + 1) := by
        obtain ⟨_, rfl⟩ := List.getElem?_eq_some_iff.1 hz
        exact List.drop_eq_getElem_cons hlt
      obtain ⟨hg, hd'⟩ := both_get (hd.trans hdk)
      have n1 : (!true) = false := rfl
      have n2 : (!false) = true := rfl
      repeat' (first
       | ((with_reducible refine is_un ?_); refine awpL_yield (n := i + k) (k := 0) rfl rfl rfl rfl rfl (hy _ _ hg) rfl rfl rfl ?_ ?_)
       | refine st [7] ?_
       | fail)
      · exact ⟨i, k + 1, ⟨(.cons rfl rfl (.cons rfl rfl (.cons rfl rfl (.cons rfl rfl (.cons rfl rfl .nil))))), rfl, rfl, rfl⟩, ⟨hi, by omega, by rw [List.drop_of_length_le hgi, both_nil]; exact hd'⟩, by omega⟩
      · exact retI (r := .tup []) rfl (.inr rfl)
  | some x =>
    have hli : i < a.length := (List.getElem?_eq_some_iff.1 hx).1
    have c1 : decide ((i : Int) < a.length) = true := by simp; omega
    have e1 : decide ((i : Int) = a.length) = false := by simp; omega
    have h1 := op_get hx
    have hdi : a.drop i = x :: a.drop (i + 1) := by
      obtain ⟨_, rfl⟩ := List.getElem?_eq_some_iff.1 hx
      exact List.drop_eq_getElem_cons hli
    have n1 : (!true) = false := rfl
    have n2 : (!false) = true := rfl
    have hw : ∀ (c : List Op), [LB.ghost (i + k + 1)] = [LB.ghost (i + 1 + k)] := fun _ => by rw [show i + 1 + k = i + k + 1 by omega]
    cases hz : b[k]? with
    | none =>
      have hgk : b.length ≤ k := by simpa using hz
      have c2 : decide ((k : Int) < b.length) = false := by simp; omega
      rw [List.drop_of_length_le hgk, both_nil'] at hd
      obtain ⟨hg, hd'⟩ := both_get (hd.trans hdi)
      repeat' (first
       | ((with_reducible refine is_un ?_); refine awpL_yield (n := i + k) (k := 0) rfl rfl rfl rfl rfl (hy _ _ hg) rfl rfl rfl ?_ ?_)
       | refine st [7] ?_
       | fail)
      · exact ⟨i + 1, k, ⟨(.cons rfl rfl (.cons rfl rfl (.cons rfl rfl (.cons rfl rfl (.cons rfl rfl .nil))))), by rw [show i + 1 + k = i + k + 1 by omega]; rfl, rfl, rfl⟩, ⟨by omega, hk, by rw [List.drop_of_length_le hgk, both_nil', show i + 1 + k = i + k + 1 by omega]; exact hd'⟩, by omega⟩
      · exact retI (r := .tup []) rfl (.inr rfl)
    | some y =>
      have hlt : k < b.length := (List.getElem?_eq_some_iff.1 hz).1
      have c2 : decide ((k : Int) < b.length) = true := by simp; omega
      have h2 := op_get hz
      have hdk : b.drop k = y :: b.drop (k + 1) := by
        obtain ⟨_, rfl⟩ := List.getElem?_eq_some_iff.1 hz
        exact List.drop_eq_getElem_cons hlt
      have hL := Less_spec (g := g) y.at_ x.at_
      rw [hdi, hdk] at hd
      cases hc : less y.at_ x.at_ with
      | true =>
        rw [hc] at hL
        rw [both_right hc] at hd
        obtain ⟨hg, hd'⟩ := both_get hd
        repeat' (first
         | ((with_reducible refine is_un ?_); refine awpL_yield (n := i + k) (k := 0) rfl rfl rfl rfl rfl (hy _ _ hg) rfl rfl rfl ?_ ?_)
         | refine st [7] ?_
         | fail)
        · exact ⟨i, k + 1, ⟨(.cons rfl rfl (.cons rfl rfl (.cons rfl rfl (.cons rfl rfl (.cons rfl rfl .nil))))), rfl, rfl, rfl⟩, ⟨hi, by omega, by rw [hdi]; exact hd'⟩, by omega⟩
        · exact retI (r := .tup []) rfl (.inr rfl)
      | false =>
        rw [hc] at hL
        rw [both_left hc] at hd
        obtain ⟨hg, hd'⟩ := both_get hd
        repeat' (first
         | ((with_reducible refine is_un ?_); refine awpL_yield (n := i + k) (k := 0) rfl rfl rfl rfl rfl (hy _ _ hg) rfl rfl rfl ?_ ?_)
         | refine st [7] ?_
         | fail)
        · exact ⟨i + 1, k, ⟨(.cons rfl rfl (.cons rfl rfl (.cons rfl rfl (.cons rfl rfl (.cons rfl rfl .nil))))), by rw [show i + 1 + k = i + k + 1 by omega]; rfl, rfl, rfl⟩, ⟨by omega, hk, by rw [show i + 1 + k = i + k + 1 by omega, hdk]; exact hd'⟩, by omega⟩
        · exact retI (r := .tup []) rfl (.inr rfl)
end Go.Proofs.YtifpafbmfedpkaaGreatDoor
end
section
set_option linter.unusedVariables false
set_option linter.unusedSimpArgs false
set_option linter.unusedSectionVars false
namespace Go.Proofs.YtifpafbmfedpkaaGreatDoor
open Go.Ac
attribute [local irreducible] awp awpL Ev Ev2 EvS thenQ blockQ retQ PCalls OCalls YieldOk IterC
set_option linter.unusedSimpArgs false
set_option linter.unusedVariables false
variable {g : List (Nat × List AV)}
abbrev bothV (a b : List Op) : AV := .fn 47 [] [.fp [encOps a], .fp [encOps b]]
theorem both_spec (a b : List Op) : PCalls Tryz.prog g 31 [encOps a, encOps b] (bothV a b) := by
  refine pcalls' Tryz.func31 Tryz.ntmps31 rfl rfl rfl ?_
  refine runn [] ?_
  refine retP rfl ?_
  rfl
end Go.Proofs.YtifpafbmfedpkaaGreatDoor
end
section
set_option linter.unusedVariables false
set_option linter.unusedSimpArgs false
set_option linter.unusedSectionVars false
namespace Go.Proofs.YtifpafbmfedpkaaGreatDoor
open Go.Ac
attribute [local irreducible] awp awpL Ev Ev2 EvS thenQ blockQ retQ PCalls OCalls YieldOk IterC
set_option linter.unusedSimpArgs false
set_option linter.unusedVariables false
variable {g : List (Nat × List AV)}
theorem Fit.take {l : List Op} (h : Fit l) (k : Nat) : Fit (l.take k) := ⟨by have := h.1; rw [List.length_take]; omega, fun o ho => h.2 o (List.mem_of_mem_take ho)⟩
theorem Fit.drop {l : List Op} (h : Fit l) (k : Nat) : Fit (l.drop k) := ⟨by have := h.1; rw [List.length_drop]; omega, fun o ho => h.2 o (List.mem_of_mem_drop ho)⟩
theorem Fit.of_mem {l m : List Op} (h : Fit l) (hl : m.length ≤ l.length) (hm : ∀ o, o ∈ m → o ∈ l) : Fit m := ⟨by have := h.1; omega, fun o ho => h.2 o (hm o ho)⟩
theorem Fit.sorted {l : List Op} (h : Fit l) : Fit (sorted l) := h.of_mem (by rw [sorted_len]; exact Nat.le_refl _) fun o ho => (sorted_mem l o).1 ho
theorem yield_get {l : List Op} {i : Nat} {xs : List AV} (h : (l.map fun o => [AV.agg (opC o)])[i]? = some xs) : ∃ o, l[i]? = some o ∧ xs = [.agg (opC o)] := by
  rw [List.getElem?_map] at h
  cases ho : l[i]? with
  | none => rw [ho] at h; cases h
  | some o => rw [ho] at h; cases h; exact ⟨o, rfl, rfl⟩
set_option maxHeartbeats 2000000 in
theorem sorted_spec : ∀ (n : Nat) (l : List Op), l.length ≤ n → Fit l → PCalls Tryz.prog g 32 [encOps l] (encOps (sorted l)) := by
  intro n
  induction n with
  | zero =>
    intro l hn hl
    refine pcalls' Tryz.func32 Tryz.ntmps32 rfl rfl rfl ?_
    have c0 : decide ((l.length : Int) < 2) = true := by simp; omega
    refine runn [3] ?_
    refine retP rfl ?_
    rw [sorted, if_pos (by omega)]; rfl
  | succ n ih =>
    intro l hn hl
    by_cases h2 : l.length < 2
    · refine pcalls' Tryz.func32 Tryz.ntmps32 rfl rfl rfl ?_
      have c0 : decide ((l.length : Int) < 2) = true := by simp; omega
      refine runn [3] ?_
      refine retP rfl ?_
      rw [sorted, if_pos h2]; rfl
    have hl1 := hl.1
    have hk : (l.length : Int).tdiv 2 = ((l.length / 2 : Nat) : Int) := by rw [Int.tdiv_eq_ediv_of_nonneg (by omega)]; omega
    have h1 := ih (l.take (l.length / 2)) (by rw [List.length_take]; omega) (hl.take _)
    have h3 := ih (l.drop (l.length / 2)) (by rw [List.length_drop]; omega) (hl.drop _)
    have h4 := both_spec (g := g) (sorted (l.take (l.length / 2))) (sorted (l.drop (l.length / 2)))
    have hI := both1_spec (g := g) (sorted (l.take (l.length / 2))) (sorted (l.drop (l.length / 2))) (hl.take _).sorted (hl.drop _).sorted
    have hS : sorted l = both (sorted (l.take (l.length / 2))) (sorted (l.drop (l.length / 2))) := by rw [sorted, if_neg h2]
    have hlen := sorted_len l
    rw [← hS] at hI
    rw [hS] at hlen ⊢
    rw [← hS] at hlen
    generalize hke : l.length / 2 = k at *
    have hkl : k ≤ l.length := by omega
    have hr : (0 : Int) < 2 ∧ -9223372036854775808 ≤ (l.length : Int) ∧ (l.length : Int) ≤ 9223372036854775807 := by omega
    have b1 : (0 : Int) ≤ 0 ∧ (0 : Int) ≤ (k : Int) ∧ (k : Int) ≤ (l.length : Nat) := by omega
    have b2 : (0 : Int) ≤ (k : Int) ∧ (k : Int) ≤ ((l.length : Nat) : Int) ∧ ((l.length : Nat) : Int) ≤ (l.length : Nat) := by omega
    have m1 : ((k : Int) - 0).toNat = (l.take k).length := by rw [List.length_take]; omega
    have m2 : (((l.length : Nat) : Int) - (k : Int)).toNat = (l.drop k).length := by rw [List.length_drop]; omega
    have f1 : ((l.map opC).drop (0 : Int).toNat).take (l.take k).length = (l.take k).map opC := by simp [List.map_take]
    have f2 : ((l.map opC).drop (k : Int).toNat).take (l.drop k).length = (l.drop k).map opC := by simp [List.map_drop, List.take_of_length_le]
    have c0 : decide ((l.length : Int) < 2) = false := by simp; omega
    rw [← hS]
    refine pcalls' Tryz.func32 Tryz.ntmps32 rfl rfl rfl ?_
    repeat' (first
     | ((with_reducible refine isD_un ?_); (first | refine awpD_un (as_ev (fun _ => ev_slice_fs rfl rfl rfl rfl rfl rfl rfl b1 m1 f1) rfl rfl) (by (try simp only [List.nil_append, List.cons_append]); (try rfl)) ?_ | refine awpD_un (as_ev (fun _ => ev_slice_fs rfl rfl rfl rfl rfl rfl rfl b2 m2 f2) rfl rfl) (by (try simp only [List.nil_append, List.cons_append]); (try rfl)) ?_ | refine awpD_un (as_ev (fun _ => ev_tdivE rfl rfl hr hk) rfl rfl) (by (try simp only [List.nil_append, List.cons_append]); (try rfl)) ?_))
     | refine st [3] ?_
     | ((with_reducible refine is_awp ?_); refine awp_cond rfl (fun h => ?_) (fun h => ?_))
     | fail)
    refine awp_adoptC 0 0 50 15 rfl rfl rfl rfl ?_
    refine awp_range (fun i => [.box [.os 1 i], .own i 50 15 (((sorted l).take i).map opC)]) rfl rfl rfl rfl hI rfl (fun _ => rfl) (fun _ => rfl) rfl (fun i xs hx => by obtain ⟨o, _, rfl⟩ := yield_get hx; rfl) ?_ ?_
    · intro i xs lp hx
      obtain ⟨o, ho, rfl⟩ := yield_get hx
      have hj := take_map opC (sorted l) i o ho
      have hil : i < (sorted l).length := (List.getElem?_eq_some_iff.1 ho).1
      refine runn [3] ?_
      refine ⟨rfl, rfl, ?_⟩
      repeat' (first
       | ((with_reducible refine is_un ?_); refine awpL_ev2 (ev_app (es' := ((sorted l).take (i + 1)).map opC) rfl rfl rfl rfl rfl rfl rfl rfl rfl rfl rfl rfl rfl (by simp only [List.length_map, List.length_cons, List.length_nil, List.length_append, List.length_take]; omega) hj rfl) rfl ?_)
       | refine stn [3] ?_
       | fail)
      exact roundN ⟨.nil, rfl, rfl, rfl⟩
    · refine runn [3] ?_
      refine retP rfl ?_
      have e : (sorted l).take ((sorted l).map fun o => [AV.agg (opC o)]).length = sorted l := List.take_of_length_le (by rw [List.length_map]; exact Nat.le_refl _)
      simp only [e]
      simp [ex]
end Go.Proofs.YtifpafbmfedpkaaGreatDoor
end
section
set_option linter.unusedVariables false
set_option linter.unusedSimpArgs false
set_option linter.unusedSectionVars false
namespace Go.Proofs.YtifpafbmfedpkaaGreatDoor
open Go.Ac
attribute [local irreducible] awp awpL Ev Ev2 EvS thenQ blockQ retQ PCalls OCalls YieldOk IterC
set_option linter.unusedSimpArgs false
set_option linter.unusedVariables false
variable {g : List (Nat × List AV)}
theorem wanted_spec (b : Bool) : PCalls Tryz.prog g 48 [vb b] (vi (wanted b)) := by
  refine pcalls' Tryz.func48 Tryz.ntmps48 rfl rfl rfl ?_
  cases b with
  | false =>
    have n1 : (!false) = true := rfl
    refine runn [] ?_
    exact retP rfl rfl
  | true =>
    have n1 : (!true) = false := rfl
    refine runn [] ?_
    exact retP rfl rfl
theorem within_spec (a b c : Int) : PCalls Tryz.prog g 61 [vi a, vi b, vi c] (vb (within a b c)) := by
  refine pcalls' Tryz.func61 Tryz.ntmps61 rfl rfl rfl ?_
  repeat' (first
   | refine stn [] ?_
   | ((with_reducible refine is_gd ?_); refine awpL_split rfl rfl (fun h => ?_) (fun h => ?_))
   | fail)
  all_goals refine retP rfl ?_
  all_goals simp_all [ex, within]
  all_goals (intros; omega)
theorem ident_spec (a : Int) : PCalls Tryz.prog g 62 [vi a] (vb (within a 1 1099511627776)) := by
  refine pcalls' Tryz.func62 Tryz.ntmps62 rfl rfl rfl ?_
  repeat' (first
   | refine stn [] ?_
   | ((with_reducible refine is_gd ?_); refine awpL_split rfl rfl (fun h => ?_) (fun h => ?_))
   | fail)
  all_goals refine retP rfl ?_
  all_goals simp_all [ex, within]
  all_goals (intros; omega)
abbrev spanC (s : Span) : List AV := [.v (.int .i64 s.fro), .v (.int .i64 s.til)]
theorem spanR_spec (s : Span) : PCalls Tryz.prog g 68 [.agg (spanC s)] (vb (spanRight s)) := by
  refine pcalls' Tryz.func68 Tryz.ntmps68 rfl rfl rfl ?_
  repeat' (first
   | refine stn [] ?_
   | ((with_reducible refine is_gd ?_); refine awpL_split rfl rfl (fun h => ?_) (fun h => ?_))
   | fail)
  all_goals refine retP rfl ?_
  all_goals simp_all [ex, spanRight]
  all_goals omega
theorem rspanR_spec (s : Span) : PCalls Tryz.prog g 76 [.agg (spanC s)] (vb (spanRight s)) := by
  refine pcalls' Tryz.func76 Tryz.ntmps76 rfl rfl rfl ?_
  repeat' (first
   | refine stn [] ?_
   | ((with_reducible refine is_gd ?_); refine awpL_split rfl rfl (fun h => ?_) (fun h => ?_))
   | fail)
  all_goals refine retP rfl ?_
  all_goals simp_all [ex, spanRight]
  all_goals omega
set_option maxHeartbeats 400000 in
theorem first_spec (l : List Int) (hl : l.length ≤ 1000000) : PCalls Tryz.prog g 49 [encIs l] (vi (firstE l)) := by
  refine pcalls' Tryz.func49 Tryz.ntmps49 rfl rfl rfl ?_
  repeat' (first
   | refine stn [] ?_
   | ((with_reducible refine is_awp ?_); refine awp_cond rfl (fun h => ?_) (fun h => ?_))
   | fail)
  refine awp_for (α := Nat) 0 (fun k => [(5, encIs l), (6, vi l.length), (7, vi k)]) (fun _ => []) (fun k => k ≤ l.length ∧ l.find? (fun x => decide (x ≠ 0)) = (l.drop k).find? (fun x => decide (x ≠ 0))) (fun k => l.length - k) 0
    ⟨(.cons rfl rfl (.cons rfl rfl (.cons rfl rfl .nil))), rfl, rfl, rfl⟩ ⟨Nat.zero_le _, rfl⟩ ?_
  rintro k ⟨hk, hf⟩
  cases ht : l[k]? with
  | none =>
    have hge : l.length ≤ k := by simpa using ht
    have c1 : decide ((k : Int) < l.length) = false := by simp; omega
    rw [List.drop_of_length_le hge] at hf
    refine runn [] ?_
    refine retP rfl ?_
    rw [firstE, hf]; rfl
  | some t =>
    have hlt : k < l.length := (List.getElem?_eq_some_iff.1 ht).1
    have c1 : decide ((k : Int) < l.length) = true := by simp; omega
    have h1 := int_get ht
    have hd : l.drop k = t :: l.drop (k + 1) := by
      obtain ⟨_, rfl⟩ := List.getElem?_eq_some_iff.1 ht
      exact List.drop_eq_getElem_cons hlt
    rw [hd] at hf
    repeat' (first
     | refine stn [] ?_
     | ((with_reducible refine is_awp ?_); refine awp_cond rfl (fun h => ?_) (fun h => ?_))
     | fail)
    · refine retP rfl ?_
      rw [firstE, hf]
      have : t ≠ 0 := by simpa using h
      simp [this, ex]
    · refine ⟨k + 1, ⟨(.cons rfl rfl (.cons rfl rfl (.cons rfl rfl .nil))), rfl, rfl, rfl⟩, ⟨by omega, ?_⟩, by omega⟩
      rw [hf]
      have : t = 0 := by simpa using h
      simp [this]
theorem wr_spec (o : Op) (f : Int) : PCalls Tryz.prog g 56 [.agg (opC o), vi f] (vb (wrt o f)) := by
  refine pcalls' Tryz.func56 Tryz.ntmps56 rfl rfl rfl ?_
  repeat' (first
   | refine stn [] ?_
   | ((with_reducible refine is_gd ?_); refine awpL_split rfl rfl (fun h => ?_) (fun h => ?_))
   | ((with_reducible refine is_awp ?_); refine awp_cond rfl (fun h => ?_) (fun h => ?_))
   | fail)
  all_goals refine retP rfl ?_
  all_goals simp_all [ex, wrt, within]
  all_goals omega
theorem rwr_spec (o : Op) (f : Int) : PCalls Tryz.prog g 78 [.agg (opC o), vi f] (vb (wrt o f)) := by
  have h1 := within_spec (g := g) f 0 2
  refine pcalls' Tryz.func78 Tryz.ntmps78 rfl rfl rfl ?_
  cases hw : within f 0 2 with
  | false =>
    rw [hw] at h1
    refine runn [] ?_
    all_goals refine retP rfl ?_
    all_goals clear h1
    all_goals simp_all [ex, wrt]
  | true =>
    rw [hw] at h1
    repeat' (first
     | refine stn [] ?_
     | ((with_reducible refine is_gd ?_); refine awpL_split rfl rfl (fun h => ?_) (fun h => ?_))
     | fail)
    all_goals refine retP rfl ?_
    all_goals clear h1
    all_goals simp_all [ex, wrt]
theorem Writes_spec (o : Op) (n f : Int) : PCalls Tryz.prog g 37 [.agg (opC o), vi n, vi f] (vb (writes o n f)) := by
  have h1 := wr_spec (g := g) o f
  refine pcalls' Tryz.func37 Tryz.ntmps37 rfl rfl rfl ?_
  repeat' (first
   | refine stn [] ?_
   | ((with_reducible refine is_gd ?_); refine awpL_split rfl rfl (fun h => ?_) (fun h => ?_))
   | fail)
  all_goals refine retP rfl ?_
  all_goals clear h1
  all_goals simp_all [ex, writes]
theorem rWrites_spec (o : Op) (n f : Int) : PCalls Tryz.prog g 66 [.agg (opC o), vi n, vi f] (vb (writes o n f)) := by
  have h1 := rwr_spec (g := g) o f
  refine pcalls' Tryz.func66 Tryz.ntmps66 rfl rfl rfl ?_
  repeat' (first
   | refine stn [] ?_
   | ((with_reducible refine is_gd ?_); refine awpL_split rfl rfl (fun h => ?_) (fun h => ?_))
   | fail)
  all_goals refine retP rfl ?_
  all_goals clear h1
  all_goals simp_all [ex, writes]
end Go.Proofs.YtifpafbmfedpkaaGreatDoor
end
section
set_option linter.unusedVariables false
set_option linter.unusedSimpArgs false
set_option linter.unusedSectionVars false
namespace Go.Proofs.YtifpafbmfedpkaaGreatDoor
open Go.Ac
attribute [local irreducible] awp awpL Ev Ev2 EvS thenQ blockQ retQ PCalls OCalls YieldOk IterC
set_option linter.unusedSimpArgs false
set_option linter.unusedVariables false
variable {g : List (Nat × List AV)}
theorem overK_nil (a : Stamp) (p : Option Stamp) : overK a p [] = 0 := by cases p <;> rfl
theorem overK_bad {a s : Stamp} {p : Option Stamp} {r : List Stamp} (h : right s = false ∨ less s a = false) : overK a p (s :: r) = 27 := by cases p <;> rw [overK, if_pos h]
theorem overK_first {a s : Stamp} {r : List Stamp} (h1 : right s = true) (h2 : less s a = true) : overK a none (s :: r) = overK a (some s) r := by rw [overK, if_neg (by simp [h1, h2])]
theorem overK_ord {a s q : Stamp} {r : List Stamp} (h1 : right s = true) (h2 : less s a = true) (h3 : less q s = false) : overK a (some q) (s :: r) = 10 := by rw [overK, if_neg (by simp [h1, h2])]; simp [h3]
theorem overK_next {a s q : Stamp} {r : List Stamp} (h1 : right s = true) (h2 : less s a = true) (h3 : less q s = true) : overK a (some q) (s :: r) = overK a (some s) r := by rw [overK, if_neg (by simp [h1, h2])]; simp [h3]
abbrev prevS (l : List Stamp) (k : Nat) : Option Stamp := if k = 0 then none else l[k - 1]?
theorem prevS_succ {l : List Stamp} {k : Nat} {t : Stamp} (h : l[k]? = some t) : prevS l (k + 1) = some t := by simp [prevS, h]
theorem prevS_pos {l : List Stamp} {k : Nat} (h : k ≠ 0) : prevS l k = l[k - 1]? := by simp [prevS, h]
theorem prevS_zero {l : List Stamp} {k : Nat} (h : k = 0) : prevS l k = none := by simp [prevS, h]
set_option maxHeartbeats 1000000 in
theorem over_spec (o : Op) : PCalls Tryz.prog g 53 [.agg (opC o)] (vi (overE o)) := by
  refine pcalls' Tryz.func53 Tryz.ntmps53 rfl rfl rfl ?_
  by_cases h0 : o.over.length = 0
  · have c0 : decide ((o.over.length : Int) = 0) = true := by simpa using h0
    refine runn [] ?_
    refine retP rfl ?_
    rw [overE, if_pos h0]; rfl
  have c0 : decide ((o.over.length : Int) = 0) = false := by simpa using h0
  by_cases h16 : 16 < o.over.length
  · have c1 : decide ((16 : Int) < o.over.length) = true := by simp; omega
    refine runn [] ?_
    refine retP rfl ?_
    rw [overE, if_neg h0, if_pos h16]; rfl
  have c1 : decide ((16 : Int) < o.over.length) = false := by simp; omega
  have hE : overE o = overK o.at_ none o.over := by rw [overE, if_neg h0, if_neg h16]
  rw [hE]
  repeat' (first
   | refine stn [] ?_
   | ((with_reducible refine is_awp ?_); refine awp_cond rfl (fun h => ?_) (fun h => ?_))
   | fail)
  refine awp_for (α := Nat) 0 (fun k => [(14, encStamps o.over), (15, vi o.over.length), (16, vi k), (1, .fp (opC o))]) (fun _ => []) (fun k => k ≤ o.over.length ∧ overK o.at_ none o.over = overK o.at_ (prevS o.over k) (o.over.drop k)) (fun k => o.over.length - k) 0
    ⟨(.cons rfl rfl (.cons rfl rfl (.cons rfl rfl (.cons rfl rfl .nil)))), rfl, rfl, rfl⟩ ⟨Nat.zero_le _, rfl⟩ ?_
  rintro k ⟨hk, hf⟩
  cases ht : o.over[k]? with
  | none =>
    have hge : o.over.length ≤ k := by simpa using ht
    have c1 : decide ((k : Int) < o.over.length) = false := by simp; omega
    rw [List.drop_of_length_le hge, overK_nil] at hf
    refine runn [] ?_
    refine retP rfl ?_
    rw [hf]; rfl
  | some t =>
    have hlt : k < o.over.length := (List.getElem?_eq_some_iff.1 ht).1
    have c2 : decide ((k : Int) < o.over.length) = true := by simp; omega
    have h1 := stamp_get ht
    have hd : o.over.drop k = t :: o.over.drop (k + 1) := by
      obtain ⟨_, rfl⟩ := List.getElem?_eq_some_iff.1 ht
      exact List.drop_eq_getElem_cons hlt
    rw [hd] at hf
    have hR := Right_spec (g := g) t
    have hL := Less_spec (g := g) t o.at_
    have n1 : (!true) = false := rfl
    have n2 : (!false) = true := rfl
    cases hr : right t with
    | false =>
      rw [hr] at hR
      rw [overK_bad (.inl hr)] at hf
      refine runn [] ?_
      refine retP rfl ?_
      rw [hf]; rfl
    | true =>
      rw [hr] at hR
      cases hl : less t o.at_ with
      | false =>
        rw [hl] at hL
        rw [overK_bad (.inr hl)] at hf
        refine runn [] ?_
        refine retP rfl ?_
        rw [hf]; rfl
      | true =>
        rw [hl] at hL
        by_cases hk0 : k = 0
        · have c3 : decide ((0 : Int) < (k : Int)) = false := by simp; omega
          rw [prevS_zero hk0, overK_first hr hl] at hf
          refine run [] ?_
          exact ⟨k + 1, ⟨(.cons rfl rfl (.cons rfl rfl (.cons rfl rfl (.cons rfl rfl .nil)))), rfl, rfl, rfl⟩, ⟨by omega, by rw [prevS_succ ht]; exact hf⟩, by omega⟩
        · have c3 : decide ((0 : Int) < (k : Int)) = true := by simp; omega
          obtain ⟨q, hq⟩ : ∃ q, o.over[k - 1]? = some q := ⟨_, List.getElem?_eq_getElem (by omega)⟩
          rw [prevS_pos hk0, hq] at hf
          have h2 : 0 ≤ (k : Int) - 1 ∧ (o.over.map stampC)[((k : Int) - 1).toNat]? = some (stampC q) := ⟨by omega, by rw [show ((k : Int) - 1).toNat = k - 1 by omega]; simp [hq]⟩
          have hP := Less_spec (g := g) q t
          cases hp : less q t with
          | false =>
            rw [hp] at hP
            rw [overK_ord hr hl hp] at hf
            refine run [] ?_
            refine retP rfl ?_
            rw [hf]; rfl
          | true =>
            rw [hp] at hP
            rw [overK_next hr hl hp] at hf
            refine run [] ?_
            exact ⟨k + 1, ⟨(.cons rfl rfl (.cons rfl rfl (.cons rfl rfl (.cons rfl rfl .nil)))), rfl, rfl, rfl⟩, ⟨by omega, by rw [prevS_succ ht]; exact hf⟩, by omega⟩
end Go.Proofs.YtifpafbmfedpkaaGreatDoor
end
section
set_option linter.unusedVariables false
set_option linter.unusedSimpArgs false
set_option linter.unusedSectionVars false
namespace Go.Proofs.YtifpafbmfedpkaaGreatDoor
open Go.Ac
attribute [local irreducible] awp awpL Ev Ev2 EvS thenQ blockQ retQ PCalls OCalls YieldOk IterC
set_option linter.unusedSimpArgs false
set_option linter.unusedVariables false
variable {g : List (Nat × List AV)}
def rOverE (o : Op) : Int := if o.kind = 0 then wanted (decide (o.over.length = 0)) else overE o
set_option maxHeartbeats 1000000 in
theorem rOver_spec (o : Op) : PCalls Tryz.prog g 65 [.agg (opC o)] (vi (rOverE o)) := by
  refine pcalls' Tryz.func65 Tryz.ntmps65 rfl rfl rfl ?_
  by_cases hk0 : o.kind = 0
  · have d0 : decide (o.kind = 0) = true := by simpa using hk0
    by_cases h0 : o.over.length = 0
    · have c0 : decide ((0 : Int) < o.over.length) = false := decide_eq_false (by omega)
      refine runn [] ?_
      refine retP rfl ?_
      rw [rOverE, if_pos hk0, decide_eq_true h0]; rfl
    · have c0 : decide ((0 : Int) < o.over.length) = true := decide_eq_true (by omega)
      refine runn [] ?_
      refine retP rfl ?_
      rw [rOverE, if_pos hk0, decide_eq_false h0]; rfl
  have d0 : decide (o.kind = 0) = false := by simpa using hk0
  have hE0 : rOverE o = overE o := by rw [rOverE, if_neg hk0]
  rw [hE0]
  by_cases h0 : o.over.length = 0
  · have c0 : decide ((o.over.length : Int) = 0) = true := by simpa using h0
    refine runn [] ?_
    refine retP rfl ?_
    rw [overE, if_pos h0]; rfl
  have c0 : decide ((o.over.length : Int) = 0) = false := by simpa using h0
  by_cases h16 : 16 < o.over.length
  · have c1 : decide ((16 : Int) < o.over.length) = true := by simp; omega
    refine runn [] ?_
    refine retP rfl ?_
    rw [overE, if_neg h0, if_pos h16]; rfl
  have c1 : decide ((16 : Int) < o.over.length) = false := by simp; omega
  have hE : overE o = overK o.at_ none o.over := by rw [overE, if_neg h0, if_neg h16]
  rw [hE]
  repeat' (first
   | refine stn [] ?_
   | ((with_reducible refine is_awp ?_); refine awp_cond rfl (fun h => ?_) (fun h => ?_))
   | fail)
  refine awp_for (α := Nat) 0 (fun k => [(21, vi o.over.length), (22, vi k), (1, .fp (opC o))]) (fun _ => []) (fun k => k ≤ o.over.length ∧ overK o.at_ none o.over = overK o.at_ (prevS o.over k) (o.over.drop k)) (fun k => o.over.length - k) 0
    ⟨(.cons rfl rfl (.cons rfl rfl (.cons rfl rfl .nil))), rfl, rfl, rfl⟩ ⟨Nat.zero_le _, rfl⟩ ?_
  rintro k ⟨hk, hf⟩
  cases ht : o.over[k]? with
  | none =>
    have hge : o.over.length ≤ k := by simpa using ht
    have c1 : decide ((k : Int) < o.over.length) = false := by simp; omega
    rw [List.drop_of_length_le hge, overK_nil] at hf
    refine runn [] ?_
    refine retP rfl ?_
    rw [hf]; rfl
  | some t =>
    have hlt : k < o.over.length := (List.getElem?_eq_some_iff.1 ht).1
    have c2 : decide ((k : Int) < o.over.length) = true := by simp; omega
    have h1 := stamp_get ht
    have hd : o.over.drop k = t :: o.over.drop (k + 1) := by
      obtain ⟨_, rfl⟩ := List.getElem?_eq_some_iff.1 ht
      exact List.drop_eq_getElem_cons hlt
    rw [hd] at hf
    have hR := rRight_spec (g := g) t
    have hL := rLess_spec (g := g) t o.at_
    have n1 : (!true) = false := rfl
    have n2 : (!false) = true := rfl
    cases hr : right t with
    | false =>
      rw [hr] at hR
      rw [overK_bad (.inl hr)] at hf
      refine run [] ?_
      refine retP rfl ?_
      rw [hf]; rfl
    | true =>
      rw [hr] at hR
      cases hl : less t o.at_ with
      | false =>
        rw [hl] at hL
        rw [overK_bad (.inr hl)] at hf
        refine run [] ?_
        refine retP rfl ?_
        rw [hf]; rfl
      | true =>
        rw [hl] at hL
        by_cases hk0 : k = 0
        · have c3 : decide ((0 : Int) < (k : Int)) = false := by simp; omega
          rw [prevS_zero hk0, overK_first hr hl] at hf
          refine run [] ?_
          exact ⟨k + 1, ⟨(.cons rfl rfl (.cons rfl rfl (.cons rfl rfl .nil))), rfl, rfl, rfl⟩, ⟨by omega, by rw [prevS_succ ht]; exact hf⟩, by omega⟩
        · have c3 : decide ((0 : Int) < (k : Int)) = true := by simp; omega
          obtain ⟨q, hq⟩ : ∃ q, o.over[k - 1]? = some q := ⟨_, List.getElem?_eq_getElem (by omega)⟩
          rw [prevS_pos hk0, hq] at hf
          have h2 : 0 ≤ (k : Int) - 1 ∧ (o.over.map stampC)[((k : Int) - 1).toNat]? = some (stampC q) := ⟨by omega, by rw [show ((k : Int) - 1).toNat = k - 1 by omega]; simp [hq]⟩
          have hP := rLess_spec (g := g) q t
          cases hp : less q t with
          | false =>
            rw [hp] at hP
            rw [overK_ord hr hl hp] at hf
            refine run [] ?_
            refine retP rfl ?_
            rw [hf]; rfl
          | true =>
            rw [hp] at hP
            rw [overK_next hr hl hp] at hf
            refine run [] ?_
            exact ⟨k + 1, ⟨(.cons rfl rfl (.cons rfl rfl (.cons rfl rfl .nil))), rfl, rfl, rfl⟩, ⟨by omega, by rw [prevS_succ ht]; exact hf⟩, by omega⟩
end Go.Proofs.YtifpafbmfedpkaaGreatDoor
end
section
set_option linter.unusedVariables false
set_option linter.unusedSimpArgs false
set_option linter.unusedSectionVars false
namespace Go.Proofs.YtifpafbmfedpkaaGreatDoor
open Go.Ac
attribute [local irreducible] awp awpL Ev Ev2 EvS thenQ blockQ retQ PCalls OCalls YieldOk IterC
set_option linter.unusedSimpArgs false
set_option linter.unusedVariables false
variable {g : List (Nat × List AV)}
def rSetE (o : Op) : Int := if o.kind = 1 then setE o else plainE o
set_option maxHeartbeats 1000000 in
theorem set_spec (hT : ∀ s, PCalls Tryz.prog g 69 [vs s] (vi (textE s))) (o : Op) : PCalls Tryz.prog g 51 [.agg (opC o)] (vi (setE o)) := by
  have h1 := hT o.text
  refine pcalls' Tryz.func51 Tryz.ntmps51 rfl rfl rfl ?_
  repeat' (first
   | refine stn [] ?_
   | ((with_reducible refine is_gd ?_); refine awpL_split rfl rfl (fun h => ?_) (fun h => ?_))
   | ((with_reducible refine is_awp ?_); refine awp_cond rfl (fun h => ?_) (fun h => ?_))
   | fail)
  all_goals refine retP rfl ?_
  all_goals clear h1 hT
  all_goals simp_all [ex, setE, within, emptyB]
  all_goals first | omega | (intros; omega) | (rw [if_pos (by omega)])
set_option maxHeartbeats 2000000 in
theorem rSet_spec (hT : ∀ s, PCalls Tryz.prog g 77 [vs s] (vi (textE s))) (o : Op) : PCalls Tryz.prog g 64 [.agg (opC o)] (vi (rSetE o)) := by
  have h1 := hT o.text
  have h2 := within_spec (g := g) o.set 0 2
  have h3 := within_spec (g := g) o.n 0 86400000
  refine pcalls' Tryz.func64 Tryz.ntmps64 rfl rfl rfl ?_
  repeat' (first
   | refine stn [] ?_
   | ((with_reducible refine is_gd ?_); refine awpL_split rfl rfl (fun h => ?_) (fun h => ?_))
   | ((with_reducible refine is_awp ?_); refine awp_cond rfl (fun h => ?_) (fun h => ?_))
   | fail)
  all_goals refine retP rfl ?_
  all_goals clear h1 hT h2 h3
  all_goals simp_all [ex, rSetE, setE, within, plainE, wanted, emptyB]
  all_goals first | omega | (intros; omega) | (rw [if_pos (by omega)])
def spanEq : List Value → List Value → Option Bool
  | [.int .i64 a, .int .i64 b], [.int .i64 a', .int .i64 b'] => some (a == a' && b == b')
  | _, _ => none
theorem spanEq_T : EqT Tryz.prog 45 spanEq := by
  intro xs ys b w h
  unfold spanEq at h
  split at h
  · rename_i a b a' b'
    have h := Option.some.inj h
    subst h
    have u3 := Tryz.underlying3
    have a3 := Tryz.isAgg3
    have z3 := Tryz.sizeOf3
    have hS : Tryz.prog.underlying 45 = some (.struct (Tryz.prog.fieldsOf 45)) := by kernel_rfl
    rw [show (10000 : Nat) = 9999 + 1 from rfl, run_equalIn_agg w 9999 _ _ _ hS (by kernel_rfl)]
    simp only [Program.fieldsOf, Tryz.underlying45]
    go_simp
    by_cases h1 : a = a' <;> by_cases h2 : b = b' <;> simp [h1, h2]
  · cases h
theorem note_ext_bare (n : Note) : n = bareNote n.id ↔ n.tier = 0 ∧ n.parent = 0 ∧ n.span.fro = 0 ∧ n.span.til = 0 ∧ n.rank = 0 ∧ n.text = .empty := by
  rcases n with ⟨a, b, c, ⟨d, e⟩, f, s⟩
  simp [bareNote, and_assoc]
theorem span_zero (s : Span) : s = ⟨0, 0⟩ ↔ s.fro = 0 ∧ s.til = 0 := by
  rcases s with ⟨a, b⟩; simp
theorem textEmpty (s : ByteArray) : (s.toList == ByteArray.empty.toList) = decide (s = .empty) := beq_bytes s .empty
theorem bare_eq (n : Note) : (n.id == n.id && (n.tier == 0 && (n.parent == 0 && ((n.span.fro == 0 && n.span.til == 0) && (n.rank == 0 && n.text.toList == ByteArray.empty.toList))))) = decide (n = bareNote n.id) := by
  rw [textEmpty, Bool.eq_iff_iff]
  simp only [Bool.and_eq_true, beq_iff_eq, decide_eq_true_eq, note_ext_bare]
  constructor
  · rintro ⟨_, a, b, ⟨c, d⟩, e, f⟩; exact ⟨a, b, c, d, e, f⟩
  · rintro ⟨a, b, c, d, e, f⟩; exact ⟨trivial, a, b, ⟨c, d⟩, e, f⟩
abbrev bareC (id : Int) : List AV := [.v (.int .i64 id), .v (.int .i64 0), .v (.int .i64 0), .v (.int .i64 0), .v (.int .i64 0), .v (.int .i64 0), .v (.string .empty)]
set_option maxHeartbeats 2000000 in
theorem named_spec (o : Op) (hid : -9223372036854775808 ≤ o.note.id ∧ o.note.id ≤ 9223372036854775807) : PCalls Tryz.prog g 52 [.agg (opC o)] (vi (namedE o)) := by
  have h1 := Of_spec (g := g) o.note.id hid
  have h2 := Less_spec (g := g) (stampOf o.note.id) o.at_
  have hb := bare_eq o.note
  refine pcalls' Tryz.func52 Tryz.ntmps52 rfl rfl rfl ?_
  have n1 : (!true) = false := rfl
  have n2 : (!false) = true := rfl
  cases hr : right (stampOf o.note.id) with
  | false =>
    rw [ofR, hr] at h1
    refine runn [] ?_
    refine retP rfl ?_
    simp [ex, namedE, hr]
  | true =>
    rw [ofR, hr, if_pos rfl] at h1
    cases hl : less (stampOf o.note.id) o.at_ with
    | false =>
      rw [hl] at h2
      refine runn [] ?_
      refine retP rfl ?_
      simp [ex, namedE, hl]
    | true =>
      rw [hl] at h2
      cases hq : decide (o.note = bareNote o.note.id) with
      | false =>
        rw [hq] at hb
        repeat' (first
         | ((with_reducible refine is_un ?_); refine awpL_ev (ev_neA (b := false) noteEq_T (by kernel_rfl) rfl rfl rfl rfl (by rw [← hb]; rfl)) rfl ?_)
         | refine stn [] ?_
         | fail)
        refine retP rfl ?_
        have : o.note ≠ bareNote o.note.id := of_decide_eq_false hq
        simp [ex, namedE, this]
      | true =>
        rw [hq] at hb
        repeat' (first
         | ((with_reducible refine is_un ?_); refine awpL_ev (ev_neA (b := true) noteEq_T (by kernel_rfl) rfl rfl rfl rfl (by rw [← hb]; rfl)) rfl ?_)
         | refine stn [] ?_
         | fail)
        refine retP rfl ?_
        have : o.note = bareNote o.note.id := of_decide_eq_true hq
        rw [namedE, if_neg (by rw [hr, hl]; rintro (h | h | h) <;> first | cases h | exact h this)]
        rfl
end Go.Proofs.YtifpafbmfedpkaaGreatDoor
end
