/- A logic of trees over the model's steps, and the contracts of the functions that the laws reach: part 5 of 10. -/
import Derived.Test.YtifpafbmfedpkaaDoorB4
import Derived.Lib.ValidLaws
section
set_option linter.unusedVariables false
set_option linter.unusedSimpArgs false
set_option linter.unusedSectionVars false
namespace Go.Proofs.YtifpafbmfedpkaaDoor
open Go.Ac
attribute [local irreducible] awp awpL Ev Ev2 EvS thenQ blockQ retQ PCalls OCalls
set_option linter.unusedSimpArgs false
set_option linter.unusedVariables false
variable {g : List (Nat × List AV)}
def behind (a b : List Op) : Nat := b.countP fun o => !has a o
abbrev behK (a b : List Op) (k : Nat) : Nat := (b.take k).countP fun o => !has a o
theorem behK_succ {a b : List Op} {k : Nat} {x : Op} (h : b[k]? = some x) : behK a b (k + 1) = behK a b k + (if has a x then 0 else 1) := by
  unfold behK
  rw [List.take_add_one, h, List.countP_append]
  cases hq : has a x <;> simp [hq]
theorem behK_le (a b : List Op) (k : Nat) : behK a b k ≤ b.length := Nat.le_trans List.countP_le_length (by rw [List.length_take]; omega)
theorem behK_end {a b : List Op} {k : Nat} (h : b.length ≤ k) : behK a b k = behind a b := by unfold behK behind; rw [List.take_of_length_le h]
set_option maxHeartbeats 1000000 in
theorem rBehind_spec (a b : Replica) (ha : FitR a) (hb : FitR b) : PCalls Tryd.prog g 26 [.agg (repC a), .agg (repC b)] (vi (behind a.ops b.ops)) := by
  refine pcalls' Tryd.func26 Tryd.ntmps26 rfl rfl rfl ?_
  have hl1 := hb.1.1
  repeat' (first
   | refine stn [] ?_
   | ((with_reducible refine is_awp ?_); refine awp_cond rfl (fun h => ?_) (fun h => ?_))
   | fail)
  refine awp_for (α := Nat) 0 (fun k => [(2, .fp (repC a)), (3, .fp (repC b)), (5, vi (behK a.ops b.ops k)), (6, vi k)]) (fun _ => []) (fun k => k ≤ b.ops.length) (fun k => b.ops.length - k) 0
    ⟨(.cons rfl rfl (.cons rfl rfl (.cons rfl rfl (.cons rfl rfl .nil)))), rfl, rfl, rfl⟩ (Nat.zero_le _) ?_
  rintro k hk
  have hle := behK_le a.ops b.ops k
  cases ht : b.ops[k]? with
  | none =>
    have hge : b.ops.length ≤ k := by simpa using ht
    have c1 : decide ((k : Int) < b.ops.length) = false := by simp; omega
    refine runn [] ?_
    refine retP rfl ?_
    rw [← behK_end hge]; rfl
  | some x =>
    have hlt : k < b.ops.length := (List.getElem?_eq_some_iff.1 ht).1
    have c1 : decide ((k : Int) < b.ops.length) = true := by simp; omega
    have h1 := op_get ht
    have h2 := Has_spec (g := g) a.ops x ha.1 (hb.1.get ht)
    have hS := behK_succ (a := a.ops) ht
    cases hc : has a.ops x with
    | true =>
      rw [hc] at h2 hS
      have n1 : (!true) = false := rfl
      refine run [] ?_
      exact ⟨k + 1, ⟨(.cons rfl rfl (.cons rfl rfl (.cons rfl (by rw [hS]; rfl) (.cons rfl rfl .nil)))), rfl, rfl, rfl⟩, by omega, by omega⟩
    | false =>
      rw [hc] at h2 hS
      have n1 : (!false) = true := rfl
      refine run [] ?_
      exact ⟨k + 1, ⟨(.cons rfl rfl (.cons rfl rfl (.cons rfl (by rw [hS]; rfl) (.cons rfl rfl .nil)))), rfl, rfl, rfl⟩, by omega, by omega⟩
theorem rAgree_spec (a b : Replica) (ha : FitR a) (hb : FitR b) : PCalls Tryd.prog g 28 [.agg (repC a), .agg (repC b)] (vb (decide (behind a.ops b.ops = 0) && decide (behind b.ops a.ops = 0))) := by
  have h1 := rBehind_spec (g := g) a b ha hb
  have h2 := rBehind_spec (g := g) b a hb ha
  refine pcalls' Tryd.func28 Tryd.ntmps28 rfl rfl rfl ?_
  repeat' (first
   | refine stn [] ?_
   | ((with_reducible refine is_gd ?_); refine awpL_split rfl rfl (fun h => ?_) (fun h => ?_))
   | fail)
  all_goals refine retP rfl ?_
  all_goals clear h1 h2
  all_goals simp_all [ex]
  all_goals omega
end Go.Proofs.YtifpafbmfedpkaaDoor
end
section
set_option linter.unusedVariables false
set_option linter.unusedSimpArgs false
set_option linter.unusedSectionVars false
namespace Go.Proofs.YtifpafbmfedpkaaDoor
open Go.Ac
theorem int_chk (b : Bool) (n : Nat) (a : Int) (w : World) : (Instr.checkKey b (n + 1) 3 (.int .i64 a)).run Tryd.prog w = .ok () w := by
  unfold Instr.checkKey
  simp [run_underlying Tryd.underlying3, Result.andThen]
theorem stamp_chk (b : Bool) (a c : Int) (w : World) : (Instr.checkKey b 10000 45 (.agg #[.int .i64 a, .int .i64 c])).run Tryd.prog w = .ok () w := by
  have h1 := int_chk b 9998 a w
  have h2 := int_chk b 9998 c w
  have a3 := Tryd.isAgg3
  have z3 := Tryd.sizeOf3
  rw [show (10000 : Nat) = 9999 + 1 from rfl]
  unfold Instr.checkKey
  simp only [Sem.run_bind, run_underlying Tryd.underlying45, Result.andThen_ok]
  have p0 : (part 3 #[Value.int IntKind.i64 a, Value.int IntKind.i64 c] 0).run Tryd.prog w = .ok (.int .i64 a) w := by simp [part, a3, Result.andThen]
  have p1 : (part 3 #[Value.int IntKind.i64 a, Value.int IntKind.i64 c] 1).run Tryd.prog w = .ok (.int .i64 c) w := by simp [part, a3, Result.andThen]
  simp [p0, p1, h1, h2, Result.andThen]
def isStampV (v : Value) : Prop := ∃ a b, v = .agg #[.int .i64 a, .int .i64 b]
def stampV (s : Stamp) : Value := .agg #[.int .i64 s.count, .int .i64 s.dev]
theorem stampKey : KeyOk Tryd.prog 45 isStampV := by
  refine KeyOk.asks Tryd.underlying45 (fun a b _ _ => by rfl) (fun x y w hx hy => ?_) (fun b k w hk => ?_) (fun k hk => ?_)
  · obtain ⟨a, b, rfl⟩ := hx
    obtain ⟨c, d, rfl⟩ := hy
    refine ⟨_, stampEq_T [.int .i64 a, .int .i64 b] [.int .i64 c, .int .i64 d] _ w rfl, ?_⟩
    simp
  · obtain ⟨a, c, rfl⟩ := hk
    exact stamp_chk b a c w
  · obtain ⟨a, c, rfl⟩ := hk
    simp [Instr.sameBits]
theorem stampV_inj (a b : Stamp) (h : stampV a = stampV b) : a = b := by
  simp [stampV] at h
  exact stamp_ext h
theorem stampV_R (s : Stamp) : ∀ c y, R c (.agg (stampC s)) y → y = stampV s := by
  intro c y h
  simp only [R, RF, stampC, LF] at h
  obtain ⟨xs, rfl, y1, s1, e1, rfl, _, y2, s2, e2, rfl, _, e3⟩ := h
  subst e3 e2
  unfold stampV
  congr 1
  apply Array.ext'
  simpa using e1
theorem stampV_ok (s : Stamp) : isStampV (stampV s) := ⟨_, _, rfl⟩
end Go.Proofs.YtifpafbmfedpkaaDoor
end
section
set_option linter.unusedVariables false
set_option linter.unusedSimpArgs false
set_option linter.unusedSectionVars false
namespace Go.Proofs.YtifpafbmfedpkaaDoor
open Go.Ac
attribute [local irreducible] awp awpL Ev Ev2 EvS thenQ blockQ retQ PCalls OCalls
set_option linter.unusedSimpArgs false
set_option linter.unusedVariables false
variable {g : List (Nat × List AV)}
abbrev ownM (l : List Op) (k : Nat) : List (Stamp × Op) := (l.take k).foldl (fun m o => aput m o.at_ o) []
theorem ownM_succ {l : List Op} {k : Nat} {x : Op} (h : l[k]? = some x) : ownM l (k + 1) = aput (ownM l k) x.at_ x := by
  unfold ownM
  rw [List.take_add_one, h, List.foldl_append]; rfl
theorem ownM_nd (l : List Op) (k : Nat) : ANd (ownM l k) := by
  unfold ownM
  have : ∀ (l : List Op) (m : List (Stamp × Op)), ANd m → ANd (l.foldl (fun m o => aput m o.at_ o) m) := by
    intro l
    induction l with
    | nil => intro m h; exact h
    | cons o r ih => intro m h; exact ih _ (h.put _ _)
  exact this _ _ (by simp [ANd])
def mks (m : List (Stamp × Op)) : List Value := m.map fun p => stampV p.1
def mxs (m : List (Stamp × Op)) : List AV := m.map fun p => .agg (opC p.2)
theorem mks_ok (m : List (Stamp × Op)) : ∀ k ∈ mks m, isStampV k := by
  intro k hk
  obtain ⟨p, _, rfl⟩ := List.mem_map.1 hk
  exact stampV_ok _
theorem mks_nd {m : List (Stamp × Op)} (h : ANd m) : (mks m).Nodup := h.kv stampV_inj
def unlike (m : List (Stamp × Op)) (o : Op) : Bool := match aget m o.at_ with
  | none => true
  | some y => !decide (y = o)
def behindM (a b : List Op) : Nat := b.countP (unlike (ownM a a.length))
abbrev bmK (m : List (Stamp × Op)) (b : List Op) (k : Nat) : Nat := (b.take k).countP (unlike m)
theorem bmK_succ {m : List (Stamp × Op)} {b : List Op} {k : Nat} {x : Op} (h : b[k]? = some x) : bmK m b (k + 1) = bmK m b k + (if unlike m x then 1 else 0) := by
  unfold bmK
  rw [List.take_add_one, h, List.countP_append]
  cases hq : unlike m x <;> simp [hq]
theorem bmK_le (m : List (Stamp × Op)) (b : List Op) (k : Nat) : bmK m b k ≤ b.length := Nat.le_trans List.countP_le_length (by rw [List.length_take]; omega)
theorem ownM_mem (l : List Op) : ∀ (k : Nat) (s : Stamp) (y : Op), aget (ownM l k) s = some y → y ∈ l := by
  intro k
  induction k with
  | zero => intro s y h; simp [ownM, aget] at h
  | succ k ih =>
    intro s y h
    cases ht : l[k]? with
    | none =>
      have : ownM l (k + 1) = ownM l k := by unfold ownM; rw [List.take_add_one, ht]; simp
      rw [this] at h; exact ih s y h
    | some x =>
      rw [ownM_succ ht, aget_put] at h
      split at h
      · injection h with h; subst h; exact List.mem_of_getElem? ht
      · exact ih s y h
set_option maxRecDepth 4000 in
set_option maxHeartbeats 2000000 in
theorem Behind_spec (a b : Replica) (ha : FitR a) (hb : FitR b) : PCalls Tryd.prog g 25 [.agg (repC a), .agg (repC b)] (vi (behindM a.ops b.ops)) := by
  have ha1 := ha.1.1
  have hb1 := hb.1.1
  refine pcalls' Tryd.func25 Tryd.ntmps25 rfl rfl rfl ?_
  repeat' (first
   | ((with_reducible refine is_un ?_); refine awpL_ev2 (ev_mkmap (by (try simp only [List.length_nil, List.length_cons, Nat.reduceAdd]); (try rfl)) (by (try simp only [List.set_cons_zero, List.set_cons_succ, List.nil_append, List.cons_append, List.append_nil, cellsOf, List.take_zero, List.drop_zero, List.take_succ_cons, List.drop_succ_cons, Nat.zero_add, Nat.reduceAdd, List.drop_nil, List.map_cons, List.map_nil]); (try rfl))) rfl ?_)
   | refine stn [] ?_
   | ((with_reducible refine is_awp ?_); refine awp_cond rfl (fun h => ?_) (fun h => ?_))
   | fail)
  refine awp_for (α := Nat) 1 (fun k => [(3, .fp (repC b)), (5, .mp 0), (15, encOps a.ops), (16, vi a.ops.length), (17, vi k)]) (fun k => [.map (mks (ownM a.ops k)) (mxs (ownM a.ops k))]) (fun k => k ≤ a.ops.length) (fun k => a.ops.length - k) 0
    ⟨(.cons rfl rfl (.cons rfl rfl (.cons rfl rfl (.cons rfl rfl (.cons rfl rfl .nil))))), rfl, rfl, rfl⟩ (Nat.zero_le _) ?_
  rintro k hk
  cases ht : a.ops[k]? with
  | some x =>
    have hlt : k < a.ops.length := (List.getElem?_eq_some_iff.1 ht).1
    have c1 : decide ((k : Int) < a.ops.length) = true := by simp; omega
    have h1 := op_get ht
    have hput : MPut (mks (ownM a.ops k)) (mxs (ownM a.ops k)) (stampV x.at_) (.agg (opC x)) (mks (ownM a.ops (k + 1))) (mxs (ownM a.ops (k + 1))) := by
      rw [ownM_succ ht]; exact put_data (kv := stampV) (va := fun o => AV.agg (opC o)) stampV_inj (ownM a.ops k) x.at_ x
    repeat' (first
     | ((with_reducible refine is_un ?_); refine awpL_evS (ev_mapUpd (L' := [.map (mks (ownM a.ops (k + 1))) (mxs (ownM a.ops (k + 1))), .dead]) stampKey rfl rfl rfl (stampV_R x.at_) rfl rfl rfl rfl (mks_ok _) (stampV_ok _) hput (mks_nd (ownM_nd _ _)) rfl) ?_)
     | refine stn [] ?_
     | fail)
    exact ⟨k + 1, ⟨(.cons rfl rfl (.cons rfl rfl (.cons rfl rfl (.cons rfl rfl (.cons rfl rfl .nil))))), rfl, rfl, rfl⟩, by omega, by omega⟩
  | none =>
    have hge : a.ops.length ≤ k := by simpa using ht
    have c1 : decide ((k : Int) < a.ops.length) = false := by simp; omega
    have hke : k = a.ops.length := by omega
    subst hke
    repeat' (first
     | refine stn [] ?_
     | ((with_reducible refine is_awp ?_); refine awp_cond rfl (fun h => ?_) (fun h => ?_))
     | fail)
    have hnd := ownM_nd a.ops a.ops.length
    have hmem := ownM_mem a.ops a.ops.length
    rw [behindM]
    generalize ownM a.ops a.ops.length = M at hnd hmem ⊢
    have z52 : zeroOf Tryd.prog 52 = some (.agg #[.int .i64 0, .int .i64 0, .int .i64 0, .int .i64 0, .int .i64 0, .int .i64 0, .int .i64 0, .int .i64 0, .int .i64 0, .int .i64 0, .string .empty, .int .i64 0, .int .i64 0, .string .empty, .slice none 0 0]) := by kernel_rfl
    refine awp_for (α := Nat) 1 (fun k => [(5, .mp 0), (8, vi (bmK M b.ops k)), (27, encOps b.ops), (28, vi b.ops.length), (29, vi k)]) (fun k => [.map (mks M) (mxs M)]) (fun k => k ≤ b.ops.length) (fun k => b.ops.length - k) 0
      ⟨(.cons rfl rfl (.cons rfl rfl (.cons rfl rfl (.cons rfl rfl (.cons rfl rfl .nil))))), rfl, rfl, rfl⟩ (Nat.zero_le _) ?_
    rintro k hk
    have hle := bmK_le M b.ops k
    cases ht : b.ops[k]? with
    | none =>
      have hge : b.ops.length ≤ k := by simpa using ht
      have c1 : decide ((k : Int) < b.ops.length) = false := by simp; omega
      refine runn [] ?_
      refine retP rfl ?_
      rw [show bmK M b.ops k = b.ops.countP (unlike M) by unfold bmK; rw [List.take_of_length_le hge]]
      rfl
    | some x =>
      have hlt : k < b.ops.length := (List.getElem?_eq_some_iff.1 ht).1
      have c1 : decide ((k : Int) < b.ops.length) = true := by simp; omega
      have h1 := op_get ht
      have hS := bmK_succ (m := M) ht
      cases hg : aget M x.at_ with
      | none =>
        have hl : MLook (mks M) (mxs M) (stampV x.at_) (avOf (.agg #[.int .i64 0, .int .i64 0, .int .i64 0, .int .i64 0, .int .i64 0, .int .i64 0, .int .i64 0, .int .i64 0, .int .i64 0, .int .i64 0, .string .empty, .int .i64 0, .int .i64 0, .string .empty, .slice none 0 0])) (avOf (.agg #[.int .i64 0, .int .i64 0, .int .i64 0, .int .i64 0, .int .i64 0, .int .i64 0, .int .i64 0, .int .i64 0, .int .i64 0, .int .i64 0, .string .empty, .int .i64 0, .int .i64 0, .string .empty, .slice none 0 0])) false := by
          have := look_data (kv := stampV) (va := fun o : Op => AV.agg (opC o)) stampV_inj M x.at_ (avOf (.agg #[.int .i64 0, .int .i64 0, .int .i64 0, .int .i64 0, .int .i64 0, .int .i64 0, .int .i64 0, .int .i64 0, .int .i64 0, .int .i64 0, .string .empty, .int .i64 0, .int .i64 0, .string .empty, .slice none 0 0]))
          rw [hg] at this; exact this
        have hu : unlike M x = true := by rw [unlike, hg]
        rw [if_pos hu] at hS
        have n1 : (!false) = true := rfl
        repeat' (first
         | ((with_reducible refine is_un ?_); refine awpL_ev (ev_lookup stampKey rfl rfl rfl (stampV_R x.at_) rfl rfl z52 rfl (mks_ok _) (stampV_ok _) hl (mks_nd hnd) rfl) rfl ?_)
         | refine stn [] ?_
         | fail)
        exact ⟨k + 1, ⟨(.cons rfl rfl (.cons rfl (by rw [hS]; rfl) (.cons rfl rfl (.cons rfl rfl (.cons rfl rfl .nil))))), rfl, rfl, rfl⟩, by omega, by omega⟩
      | some y =>
        have hl : MLook (mks M) (mxs M) (stampV x.at_) (avOf (.agg #[.int .i64 0, .int .i64 0, .int .i64 0, .int .i64 0, .int .i64 0, .int .i64 0, .int .i64 0, .int .i64 0, .int .i64 0, .int .i64 0, .string .empty, .int .i64 0, .int .i64 0, .string .empty, .slice none 0 0])) (.agg (opC y)) true := by
          have := look_data (kv := stampV) (va := fun o : Op => AV.agg (opC o)) stampV_inj M x.at_ (avOf (.agg #[.int .i64 0, .int .i64 0, .int .i64 0, .int .i64 0, .int .i64 0, .int .i64 0, .int .i64 0, .int .i64 0, .int .i64 0, .int .i64 0, .string .empty, .int .i64 0, .int .i64 0, .string .empty, .slice none 0 0]))
          rw [hg] at this; exact this
        have hsame := Same_spec (g := g) y x (by have := ha.1.2 y (hmem _ _ hg); omega) (hb.1.get ht)
        have hu : unlike M x = !decide (y = x) := by rw [unlike, hg]
        have n1 : (!true) = false := rfl
        repeat' (first
         | ((with_reducible refine is_un ?_); refine awpL_ev (ev_lookup stampKey rfl rfl rfl (stampV_R x.at_) rfl rfl z52 rfl (mks_ok _) (stampV_ok _) hl (mks_nd hnd) rfl) rfl ?_)
         | refine stn [] ?_
         | ((with_reducible refine is_awp ?_); refine awp_cond rfl (fun h => ?_) (fun h => ?_))
         | fail)
        · rw [hu, h] at hS
          exact ⟨k + 1, ⟨(.cons rfl rfl (.cons rfl (by rw [hS]; rfl) (.cons rfl rfl (.cons rfl rfl (.cons rfl rfl .nil))))), rfl, rfl, rfl⟩, by omega, by omega⟩
        · rw [hu, h] at hS
          exact ⟨k + 1, ⟨(.cons rfl rfl (.cons rfl (by rw [hS]; rfl) (.cons rfl rfl (.cons rfl rfl (.cons rfl rfl .nil))))), rfl, rfl, rfl⟩, by omega, by omega⟩
end Go.Proofs.YtifpafbmfedpkaaDoor
namespace Go.Proofs.YtifpafbmfedpkaaDoor
open Go.Ac
theorem aget_own : ∀ (l : List Op) (m : List (Stamp × Op)) (s : Stamp), Inc l → aget (l.foldl (fun m o => aput m o.at_ o) m) s = ((l.find? fun o => decide (o.at_ = s)).or (aget m s))
  | [], m, s, _ => rfl
  | o :: r, m, s, h => by
    obtain ⟨h1, h2⟩ := List.pairwise_cons.1 h
    rw [List.foldl_cons, aget_own r _ s h2, List.find?_cons, aget_put]
    by_cases e : o.at_ = s
    · rw [if_pos e, decide_eq_true e]
      have hn : r.find? (fun o => decide (o.at_ = s)) = none := by
        rw [List.find?_eq_none]
        intro p hp hc
        have := h1 p hp
        rw [e] at this
        exact less_ne this (of_decide_eq_true hc).symm
      rw [hn]; rfl
    · rw [if_neg e, decide_eq_false e]
theorem behindM_eq {a : List Op} (h : Inc a) (b : List Op) : behindM a b = behind a b := by
  unfold behindM behind
  congr 1
  funext o
  have hg : aget (ownM a a.length) o.at_ = a.find? fun p => decide (p.at_ = o.at_) := by
    unfold ownM
    rw [List.take_of_length_le (Nat.le_refl _), aget_own a [] o.at_ h]
    cases a.find? (fun p => decide (p.at_ = o.at_)) <;> rfl
  rw [unlike, hg]
  cases hf : a.find? (fun p => decide (p.at_ = o.at_)) with
  | none =>
    have : has a o = false := has_false.2 fun ho => by
      have := List.find?_eq_none.1 hf o ho
      simp at this
    simp [this]
  | some y =>
    have hy := List.mem_of_find?_eq_some hf
    have hat : y.at_ = o.at_ := by have := List.find?_some hf; simpa using this
    by_cases e : y = o
    · subst e; simp [has_iff.2 hy]
    · have : has a o = false := has_false.2 fun ho => e (h.uniq hy ho hat)
      simp [this, e]
end Go.Proofs.YtifpafbmfedpkaaDoor
end
section
set_option linter.unusedVariables false
set_option linter.unusedSimpArgs false
set_option linter.unusedSectionVars false
namespace Go.Proofs.YtifpafbmfedpkaaDoor
open Go.Ac
attribute [local irreducible] awp awpL Ev Ev2 EvS thenQ blockQ retQ PCalls OCalls YieldOk
set_option linter.unusedSimpArgs false
set_option linter.unusedVariables false
variable {g : List (Nat × List AV)}
theorem both_get {a b : List Op} {n : Nat} {x : Op} {r : List Op} (h : (both a b).drop n = x :: r) : ((both a b).map fun o => [AV.agg (opC o)])[n]? = some [.agg (opC x)] ∧ (both a b).drop (n + 1) = r := by
  have h1 : (both a b)[n]? = some x := by
    have := congrArg (fun l => l[0]?) h
    simpa using this
  have h2 := congrArg List.tail h
  exact ⟨by simp [h1], by simpa using h2⟩
set_option maxHeartbeats 2000000 in
theorem both1_spec (a b : List Op) (ha : Fit a) (hb : Fit b) : IterC Tryd.prog g 57 [.fp [encOps a], .fp [encOps b]] ((both a b).map fun o => [.agg (opC o)]) := by
  have ha1 := ha.1
  have hb1 := hb.1
  refine iterC Tryd.func57 rfl Tryd.ntmps57 rfl rfl ?_
  intro env yv hy
  repeat' (first
   | refine stn [7] ?_
   | ((with_reducible refine is_awp ?_); refine awp_cond rfl (fun h => ?_) (fun h => ?_))
   | fail)
  refine awp_for2 (α := Nat) (β := Nat) 1 (fun i k => [(0, .v yv), (1, .fp [encOps a]), (2, .fp [encOps b]), (4, vi i), (5, vi k)]) (fun i k => [.ghost (i + k)]) (fun i k => i ≤ a.length ∧ k ≤ b.length ∧ (both a b).drop (i + k) = both (a.drop i) (b.drop k)) (fun i k => a.length - i + (b.length - k)) 0 0
    ⟨(.cons rfl rfl (.cons rfl rfl (.cons rfl rfl (.cons rfl rfl (.cons rfl rfl .nil))))), rfl, rfl, rfl⟩ ⟨Nat.zero_le _, Nat.zero_le _, rfl⟩ ?_
  rintro i k ⟨hi, hk, hd⟩
  cases hx : a[i]? with
  | none =>
    have hgi : a.length ≤ i := by simpa using hx
    have c1 : decide ((i : Int) < a.length) = false := by simp; omega
    have e1 : decide ((i : Int) = a.length) = true := by simp; omega
    rw [List.drop_of_length_le hgi, both_nil] at hd
    cases hz : b[k]? with
    | none =>
      have hgk : b.length ≤ k := by simpa using hz
      have c2 : decide ((k : Int) < b.length) = false := by simp; omega
      have hdone : ((both a b).map fun o => [AV.agg (opC o)]).length = i + k := by rw [List.length_map, both_len]; omega
      refine runn [7] ?_
      exact retIn (r := .tup []) rfl (.inl (by rw [hdone]; rfl))
    | some y =>
      have hlt : k < b.length := (List.getElem?_eq_some_iff.1 hz).1
      have c2 : decide ((k : Int) < b.length) = true := by simp; omega
      have h1 := op_get hz
      have hdk : b.drop k = y :: b.drop (k + 1) := by
        obtain ⟨_, rfl⟩ := List.getElem?_eq_some_iff.1 hz
        exact List.drop_eq_getElem_cons hlt
      obtain ⟨hg, hd'⟩ := both_get (hd.trans hdk)
      have n1 : (!true) = false := rfl
      have n2 : (!false) = true := rfl
      repeat' (first
       | ((with_reducible refine is_un ?_); refine awpL_yield (n := i + k) (k := 0) rfl rfl rfl rfl rfl (hy _ _ hg) rfl rfl rfl ?_ ?_)
       | refine st [7] ?_
       | fail)
      · exact ⟨i, k + 1, ⟨(.cons rfl rfl (.cons rfl rfl (.cons rfl rfl (.cons rfl rfl (.cons rfl rfl .nil))))), rfl, rfl, rfl⟩, ⟨hi, by omega, by rw [List.drop_of_length_le hgi, both_nil]; exact hd'⟩, by omega⟩
      · exact retI (r := .tup []) rfl (.inr rfl)
  | some x =>
    have hli : i < a.length := (List.getElem?_eq_some_iff.1 hx).1
    have c1 : decide ((i : Int) < a.length) = true := by simp; omega
    have e1 : decide ((i : Int) = a.length) = false := by simp; omega
    have h1 := op_get hx
    have hdi : a.drop i = x :: a.drop (i + 1) := by
      obtain ⟨_, rfl⟩ := List.getElem?_eq_some_iff.1 hx
      exact List.drop_eq_getElem_cons hli
    have n1 : (!true) = false := rfl
    have n2 : (!false) = true := rfl
    have hw : ∀ (c : List Op), [LB.ghost (i + k + 1)] = [LB.ghost (i + 1 + k)] := fun _ => by rw [show i + 1 + k = i + k + 1 by omega]
    cases hz : b[k]? with
    | none =>
      have hgk : b.length ≤ k := by simpa using hz
      have c2 : decide ((k : Int) < b.length) = false := by simp; omega
      rw [List.drop_of_length_le hgk, both_nil'] at hd
      obtain ⟨hg, hd'⟩ := both_get (hd.trans hdi)
      repeat' (first
       | ((with_reducible refine is_un ?_); refine awpL_yield (n := i + k) (k := 0) rfl rfl rfl rfl rfl (hy _ _ hg) rfl rfl rfl ?_ ?_)
       | refine st [7] ?_
       | fail)
      · exact ⟨i + 1, k, ⟨(.cons rfl rfl (.cons rfl rfl (.cons rfl rfl (.cons rfl rfl (.cons rfl rfl .nil))))), by rw [show i + 1 + k = i + k + 1 by omega]; rfl, rfl, rfl⟩, ⟨by omega, hk, by rw [List.drop_of_length_le hgk, both_nil', show i + 1 + k = i + k + 1 by omega]; exact hd'⟩, by omega⟩
      · exact retI (r := .tup []) rfl (.inr rfl)
    | some y =>
      have hlt : k < b.length := (List.getElem?_eq_some_iff.1 hz).1
      have c2 : decide ((k : Int) < b.length) = true := by simp; omega
      have h2 := op_get hz
      have hdk : b.drop k = y :: b.drop (k + 1) := by
        obtain ⟨_, rfl⟩ := List.getElem?_eq_some_iff.1 hz
        exact List.drop_eq_getElem_cons hlt
      have hL := Less_spec (g := g) y.at_ x.at_
      rw [hdi, hdk] at hd
      cases hc : less y.at_ x.at_ with
      | true =>
        rw [hc] at hL
        rw [both_right hc] at hd
        obtain ⟨hg, hd'⟩ := both_get hd
        repeat' (first
         | ((with_reducible refine is_un ?_); refine awpL_yield (n := i + k) (k := 0) rfl rfl rfl rfl rfl (hy _ _ hg) rfl rfl rfl ?_ ?_)
         | refine st [7] ?_
         | fail)
        · exact ⟨i, k + 1, ⟨(.cons rfl rfl (.cons rfl rfl (.cons rfl rfl (.cons rfl rfl (.cons rfl rfl .nil))))), rfl, rfl, rfl⟩, ⟨hi, by omega, by rw [hdi]; exact hd'⟩, by omega⟩
        · exact retI (r := .tup []) rfl (.inr rfl)
      | false =>
        rw [hc] at hL
        rw [both_left hc] at hd
        obtain ⟨hg, hd'⟩ := both_get hd
        repeat' (first
         | ((with_reducible refine is_un ?_); refine awpL_yield (n := i + k) (k := 0) rfl rfl rfl rfl rfl (hy _ _ hg) rfl rfl rfl ?_ ?_)
         | refine st [7] ?_
         | fail)
        · exact ⟨i + 1, k, ⟨(.cons rfl rfl (.cons rfl rfl (.cons rfl rfl (.cons rfl rfl (.cons rfl rfl .nil))))), by rw [show i + 1 + k = i + k + 1 by omega]; rfl, rfl, rfl⟩, ⟨by omega, hk, by rw [show i + 1 + k = i + k + 1 by omega, hdk]; exact hd'⟩, by omega⟩
        · exact retI (r := .tup []) rfl (.inr rfl)
end Go.Proofs.YtifpafbmfedpkaaDoor
end
section
set_option linter.unusedVariables false
set_option linter.unusedSimpArgs false
set_option linter.unusedSectionVars false
namespace Go.Proofs.YtifpafbmfedpkaaDoor
open Go.Ac
attribute [local irreducible] awp awpL Ev Ev2 EvS thenQ blockQ retQ PCalls OCalls YieldOk IterC
set_option linter.unusedSimpArgs false
set_option linter.unusedVariables false
variable {g : List (Nat × List AV)}
abbrev bothV (a b : List Op) : AV := .fn 57 [] [.fp [encOps a], .fp [encOps b]]
theorem both_spec (a b : List Op) : PCalls Tryd.prog g 40 [encOps a, encOps b] (bothV a b) := by
  refine pcalls' Tryd.func40 Tryd.ntmps40 rfl rfl rfl ?_
  refine runn [] ?_
  refine retP rfl ?_
  rfl
end Go.Proofs.YtifpafbmfedpkaaDoor
end
section
set_option linter.unusedVariables false
set_option linter.unusedSimpArgs false
set_option linter.unusedSectionVars false
namespace Go.Proofs.YtifpafbmfedpkaaDoor
open Go.Ac
attribute [local irreducible] awp awpL Ev Ev2 EvS thenQ blockQ retQ PCalls OCalls YieldOk IterC
set_option linter.unusedSimpArgs false
set_option linter.unusedVariables false
variable {g : List (Nat × List AV)}
theorem Fit.take {l : List Op} (h : Fit l) (k : Nat) : Fit (l.take k) := ⟨by have := h.1; rw [List.length_take]; omega, fun o ho => h.2 o (List.mem_of_mem_take ho)⟩
theorem Fit.drop {l : List Op} (h : Fit l) (k : Nat) : Fit (l.drop k) := ⟨by have := h.1; rw [List.length_drop]; omega, fun o ho => h.2 o (List.mem_of_mem_drop ho)⟩
theorem Fit.of_mem {l m : List Op} (h : Fit l) (hl : m.length ≤ l.length) (hm : ∀ o, o ∈ m → o ∈ l) : Fit m := ⟨by have := h.1; omega, fun o ho => h.2 o (hm o ho)⟩
theorem Fit.sorted {l : List Op} (h : Fit l) : Fit (sorted l) := h.of_mem (by rw [sorted_len]; exact Nat.le_refl _) fun o ho => (sorted_mem l o).1 ho
theorem yield_get {l : List Op} {i : Nat} {xs : List AV} (h : (l.map fun o => [AV.agg (opC o)])[i]? = some xs) : ∃ o, l[i]? = some o ∧ xs = [.agg (opC o)] := by
  rw [List.getElem?_map] at h
  cases ho : l[i]? with
  | none => rw [ho] at h; cases h
  | some o => rw [ho] at h; cases h; exact ⟨o, rfl, rfl⟩
set_option maxHeartbeats 2000000 in
theorem sorted_spec : ∀ (n : Nat) (l : List Op), l.length ≤ n → Fit l → PCalls Tryd.prog g 41 [encOps l] (encOps (sorted l)) := by
  intro n
  induction n with
  | zero =>
    intro l hn hl
    refine pcalls' Tryd.func41 Tryd.ntmps41 rfl rfl rfl ?_
    have c0 : decide ((l.length : Int) < 2) = true := by simp; omega
    refine runn [3] ?_
    refine retP rfl ?_
    rw [sorted, if_pos (by omega)]; rfl
  | succ n ih =>
    intro l hn hl
    by_cases h2 : l.length < 2
    · refine pcalls' Tryd.func41 Tryd.ntmps41 rfl rfl rfl ?_
      have c0 : decide ((l.length : Int) < 2) = true := by simp; omega
      refine runn [3] ?_
      refine retP rfl ?_
      rw [sorted, if_pos h2]; rfl
    have hl1 := hl.1
    have hk : (l.length : Int).tdiv 2 = ((l.length / 2 : Nat) : Int) := by rw [Int.tdiv_eq_ediv_of_nonneg (by omega)]; omega
    have h1 := ih (l.take (l.length / 2)) (by rw [List.length_take]; omega) (hl.take _)
    have h3 := ih (l.drop (l.length / 2)) (by rw [List.length_drop]; omega) (hl.drop _)
    have h4 := both_spec (g := g) (sorted (l.take (l.length / 2))) (sorted (l.drop (l.length / 2)))
    have hI := both1_spec (g := g) (sorted (l.take (l.length / 2))) (sorted (l.drop (l.length / 2))) (hl.take _).sorted (hl.drop _).sorted
    have hS : sorted l = both (sorted (l.take (l.length / 2))) (sorted (l.drop (l.length / 2))) := by rw [sorted, if_neg h2]
    have hlen := sorted_len l
    rw [← hS] at hI
    rw [hS] at hlen ⊢
    rw [← hS] at hlen
    generalize hke : l.length / 2 = k at *
    have hkl : k ≤ l.length := by omega
    have hr : (0 : Int) < 2 ∧ -9223372036854775808 ≤ (l.length : Int) ∧ (l.length : Int) ≤ 9223372036854775807 := by omega
    have b1 : (0 : Int) ≤ 0 ∧ (0 : Int) ≤ (k : Int) ∧ (k : Int) ≤ (l.length : Nat) := by omega
    have b2 : (0 : Int) ≤ (k : Int) ∧ (k : Int) ≤ ((l.length : Nat) : Int) ∧ ((l.length : Nat) : Int) ≤ (l.length : Nat) := by omega
    have m1 : ((k : Int) - 0).toNat = (l.take k).length := by rw [List.length_take]; omega
    have m2 : (((l.length : Nat) : Int) - (k : Int)).toNat = (l.drop k).length := by rw [List.length_drop]; omega
    have f1 : ((l.map opC).drop (0 : Int).toNat).take (l.take k).length = (l.take k).map opC := by simp [List.map_take]
    have f2 : ((l.map opC).drop (k : Int).toNat).take (l.drop k).length = (l.drop k).map opC := by simp [List.map_drop, List.take_of_length_le]
    have c0 : decide ((l.length : Int) < 2) = false := by simp; omega
    rw [← hS]
    refine pcalls' Tryd.func41 Tryd.ntmps41 rfl rfl rfl ?_
    repeat' (first
     | ((with_reducible refine isD_un ?_); (first | refine awpD_un (as_ev (fun _ => ev_slice_fs rfl rfl rfl rfl rfl rfl rfl b1 m1 f1) rfl rfl) (by (try simp only [List.nil_append, List.cons_append]); (try rfl)) ?_ | refine awpD_un (as_ev (fun _ => ev_slice_fs rfl rfl rfl rfl rfl rfl rfl b2 m2 f2) rfl rfl) (by (try simp only [List.nil_append, List.cons_append]); (try rfl)) ?_ | refine awpD_un (as_ev (fun _ => ev_tdivE rfl rfl hr hk) rfl rfl) (by (try simp only [List.nil_append, List.cons_append]); (try rfl)) ?_))
     | refine st [3] ?_
     | ((with_reducible refine is_awp ?_); refine awp_cond rfl (fun h => ?_) (fun h => ?_))
     | fail)
    refine awp_adoptC 0 0 52 15 rfl rfl rfl rfl ?_
    refine awp_range (fun i => [.box [.os 1 i], .own i 52 15 (((sorted l).take i).map opC)]) rfl rfl rfl rfl hI rfl (fun _ => rfl) (fun _ => rfl) rfl (fun i xs hx => by obtain ⟨o, _, rfl⟩ := yield_get hx; rfl) ?_ ?_
    · intro i xs lp hx
      obtain ⟨o, ho, rfl⟩ := yield_get hx
      have hj := take_map opC (sorted l) i o ho
      have hil : i < (sorted l).length := (List.getElem?_eq_some_iff.1 ho).1
      refine runn [3] ?_
      refine ⟨rfl, rfl, ?_⟩
      repeat' (first
       | ((with_reducible refine is_un ?_); refine awpL_ev2 (ev_app (es' := ((sorted l).take (i + 1)).map opC) rfl rfl rfl rfl rfl rfl rfl rfl rfl rfl rfl rfl rfl (by simp only [List.length_map, List.length_cons, List.length_nil, List.length_append, List.length_take]; omega) hj rfl) rfl ?_)
       | refine stn [3] ?_
       | fail)
      exact roundN ⟨.nil, rfl, rfl, rfl⟩
    · refine runn [3] ?_
      refine retP rfl ?_
      have e : (sorted l).take ((sorted l).map fun o => [AV.agg (opC o)]).length = sorted l := List.take_of_length_le (by rw [List.length_map]; exact Nat.le_refl _)
      simp only [e]
      simp [ex]
end Go.Proofs.YtifpafbmfedpkaaDoor
end
section
set_option linter.unusedVariables false
set_option linter.unusedSimpArgs false
set_option linter.unusedSectionVars false
namespace Go.Proofs.YtifpafbmfedpkaaDoor
theorem emptyB : (ByteArray.mk #[]) = ByteArray.empty := rfl
def spanRight (s : Span) : Bool := decide (0 ≤ s.fro) && decide (s.fro < s.til) && decide (s.til ≤ 86400000)
def within (n lo hi : Int) : Bool := decide (lo ≤ n) && decide (n ≤ hi)
def firstE (l : List Int) : Int := (l.find? (fun x => decide (x ≠ 0))).getD 0
def wanted (b : Bool) : Int := if b then 0 else 1
def lowB (s : ByteArray) : Bool := s.data.toList.any fun b => decide (b.toNat < 32) || decide (b.toNat = 127)
def textE (s : ByteArray) : Int := if 200 < s.size then 5 else if Go.Lib.validD s.data.toList = false then 3 else if lowB s then 3 else 0
def noteOk (n : Note) : Bool := within n.tier 0 11 && within n.parent 0 1099511627776 && within n.rank 0 300
def addedE (o : Op) : Int :=
  if o.note.id ≠ idOf o.at_ then 1 else if noteOk o.note = false then 2
  else if o.note.span ≠ ⟨0, 0⟩ ∧ spanRight o.note.span = false then 12 else textE o.note.text
def bareNote (id : Int) : Note := ⟨id, 0, 0, ⟨0, 0⟩, 0, .empty⟩
def namedE (o : Op) : Int :=
  if right (stampOf o.note.id) = false ∨ less (stampOf o.note.id) o.at_ = false ∨ o.note ≠ bareNote o.note.id then 1 else 0
def plainE (o : Op) : Int := wanted (decide (o.set = 0) && (decide (o.n = 0) && decide (o.text = .empty)))
def setE (o : Op) : Int :=
  if o.set = 0 then (if o.n ≠ 0 then 1 else textE o.text)
  else if o.set = 1 ∨ o.set = 2 then (if within o.n 0 86400000 = false then 2 else if o.text ≠ .empty then 1 else 0)
  else 14
def overK (at_ : Stamp) : Option Stamp → List Stamp → Int
  | _, [] => 0
  | p, s :: r => if right s = false ∨ less s at_ = false then 27 else
    match p with
    | some q => if less q s = false then 10 else overK at_ (some s) r
    | none => overK at_ (some s) r
def overE (o : Op) : Int := if o.over.length = 0 then 4 else if 16 < o.over.length then 11 else overK o.at_ none o.over
def opE (o : Op) : Int :=
  if right o.at_ = false then 27
  else if o.kind = 0 then (if within o.rec_ 1 1099511627776 = false then 2 else firstE [addedE o, plainE o, wanted (decide (o.over.length = 0))])
  else if o.kind = 1 then (if within o.rec_ 1 1099511627776 = false then 2 else firstE [namedE o, setE o, overE o])
  else if o.kind = 2 then (if within o.rec_ 1 1099511627776 = false then 2 else firstE [namedE o, plainE o, overE o])
  else 14
def wrt (o : Op) (f : Int) : Bool := within f 0 2 && (decide (o.kind = 0) || decide (o.kind = 1) && decide (o.set = f))
def writes (o : Op) (note f : Int) : Bool := decide (o.note.id = note) && wrt o f
def addedO (l : List Op) (note : Int) : Option Op := l.find? fun o => decide (o.kind = 0) && decide (o.note.id = note)
def writer (l : List Op) (s : Stamp) (note f : Int) : Bool := l.any fun o => decide (o.at_ = s) && writes o note f
def overOk (pre : List Op) (o : Op) (s : Stamp) : Bool := ([0, 1, 2] : List Int).any fun f => (decide (o.kind = 2) || decide (f = o.set)) && writer pre s o.note.id f
def oneE (pre : List Op) (o : Op) : Int :=
  if opE o ≠ 0 then opE o
  else if (match pre.getLast? with | some p => less p.at_ o.at_ | none => true) = false then 10
  else if o.kind = 0 then 0
  else if (match addedO pre o.note.id with | some a => decide (a.rec_ = o.rec_) | none => false) = false then 9
  else if o.over.all (overOk pre o) = false then 27
  else 0
def allE : List Op → List Op → Int
  | _, [] => 0
  | pre, o :: r => if oneE pre o ≠ 0 then oneE pre o else allE (pre ++ [o]) r
def seenL (l : List Op) : List Int := l.foldl (fun v o => see v o.at_) (join [] [])
def repE (r : Replica) : Int :=
  if within r.dev 1 15 = false then 1 else if 400 < r.ops.length then 11
  else if allE [] r.ops ≠ 0 then allE [] r.ops else if r.seen ≠ seenL r.ops then 1 else 0
theorem allE_split : ∀ (l pre : List Op), allE pre l = 0 → ∀ k o, l[k]? = some o → oneE (pre ++ l.take k) o = 0
  | [], _, _, k, o, h => by cases h
  | x :: r, pre, h, k, o, hk => by
    rw [allE] at h
    split at h
    · rename_i h1; exact absurd h h1
    · rename_i h1
      cases k with
      | zero => simp at hk; subst hk; simp at h1; simpa using h1
      | succ k =>
        have := allE_split r (pre ++ [x]) h k o (by simpa using hk)
        simpa using this
theorem oneE_opE {pre : List Op} {o : Op} (h : oneE pre o = 0) : opE o = 0 := by
  unfold oneE at h
  split at h
  · rename_i h1; exact absurd h h1
  · rename_i h1; simpa using h1
theorem opE_right {o : Op} (h : opE o = 0) : right o.at_ = true := by
  unfold opE at h
  split at h
  · omega
  · rename_i h1; simpa using h1
theorem oneE_less {pre : List Op} {o p : Op} (h : oneE pre o = 0) (hp : pre.getLast? = some p) : less p.at_ o.at_ = true := by
  have h0 := oneE_opE h
  unfold oneE at h
  rw [if_neg (by simpa using h0), hp] at h
  cases hl : less p.at_ o.at_ with
  | true => rfl
  | false => simp [hl] at h
theorem allE_inc : ∀ (l pre : List Op), Inc pre → allE pre l = 0 → Inc (pre ++ l)
  | [], pre, hp, _ => by simpa using hp
  | o :: r, pre, hp, h => by
    rw [allE] at h
    split at h
    · rename_i h1; exact absurd h h1
    · rename_i h1
      have h1 : oneE pre o = 0 := by simpa using h1
      have hi : Inc (pre ++ [o]) := by
        cases hl : pre.getLast? with
        | none =>
          have : pre = [] := by simpa using hl
          subst this; exact List.pairwise_singleton _ _
        | some p => exact hp.snoc fun q hq => le_less (hp.last_le hl q hq) (oneE_less h1 hl)
      have := allE_inc r _ hi h
      simpa using this
theorem repE_all {r : Replica} (h : repE r = 0) : allE [] r.ops = 0 ∧ r.seen = seenL r.ops ∧ 1 ≤ r.dev ∧ r.dev ≤ 15 ∧ r.ops.length ≤ 400 := by
  unfold repE at h
  split at h
  · omega
  · rename_i h1
    split at h
    · omega
    · rename_i h2
      split at h
      · rename_i h3; exact absurd h h3
      · rename_i h3
        split at h
        · omega
        · rename_i h4
          simp [within] at h1
          refine ⟨by simpa using h3, by simpa using h4, by omega, by omega, by omega⟩
theorem repE_inc {r : Replica} (h : repE r = 0) : Inc r.ops := by
  have := allE_inc r.ops [] List.Pairwise.nil (repE_all h).1
  simpa using this
theorem seenL_len (l : List Op) : (seenL l).length = 15 := by
  unfold seenL
  have : ∀ (l : List Op) (v : List Int), v.length = 15 → (l.foldl (fun v o => see v o.at_) v).length = 15 := by
    intro l
    induction l with
    | nil => intro v h; exact h
    | cons o r ih => intro v h; exact ih _ (see_len _ _)
  exact this l _ (join_len _ _)
end Go.Proofs.YtifpafbmfedpkaaDoor
end
section
set_option linter.unusedVariables false
set_option linter.unusedSimpArgs false
set_option linter.unusedSectionVars false
namespace Go.Proofs.YtifpafbmfedpkaaDoor
open Go.Ac
attribute [local irreducible] awp awpL Ev Ev2 EvS thenQ blockQ retQ PCalls OCalls YieldOk IterC
set_option linter.unusedSimpArgs false
set_option linter.unusedVariables false
variable {g : List (Nat × List AV)}
theorem wanted_spec (b : Bool) : PCalls Tryd.prog g 70 [vb b] (vi (wanted b)) := by
  refine pcalls' Tryd.func70 Tryd.ntmps70 rfl rfl rfl ?_
  cases b with
  | false =>
    have n1 : (!false) = true := rfl
    refine runn [] ?_
    exact retP rfl rfl
  | true =>
    have n1 : (!true) = false := rfl
    refine runn [] ?_
    exact retP rfl rfl
theorem within_spec (a b c : Int) : PCalls Tryd.prog g 77 [vi a, vi b, vi c] (vb (within a b c)) := by
  refine pcalls' Tryd.func77 Tryd.ntmps77 rfl rfl rfl ?_
  repeat' (first
   | refine stn [] ?_
   | ((with_reducible refine is_gd ?_); refine awpL_split rfl rfl (fun h => ?_) (fun h => ?_))
   | fail)
  all_goals refine retP rfl ?_
  all_goals simp_all [ex, within]
  all_goals (intros; omega)
theorem ident_spec (a : Int) : PCalls Tryd.prog g 78 [vi a] (vb (within a 1 1099511627776)) := by
  refine pcalls' Tryd.func78 Tryd.ntmps78 rfl rfl rfl ?_
  repeat' (first
   | refine stn [] ?_
   | ((with_reducible refine is_gd ?_); refine awpL_split rfl rfl (fun h => ?_) (fun h => ?_))
   | fail)
  all_goals refine retP rfl ?_
  all_goals simp_all [ex, within]
  all_goals (intros; omega)
abbrev spanC (s : Span) : List AV := [.v (.int .i64 s.fro), .v (.int .i64 s.til)]
theorem spanR_spec (s : Span) : PCalls Tryd.prog g 85 [.agg (spanC s)] (vb (spanRight s)) := by
  refine pcalls' Tryd.func85 Tryd.ntmps85 rfl rfl rfl ?_
  repeat' (first
   | refine stn [] ?_
   | ((with_reducible refine is_gd ?_); refine awpL_split rfl rfl (fun h => ?_) (fun h => ?_))
   | fail)
  all_goals refine retP rfl ?_
  all_goals simp_all [ex, spanRight]
  all_goals omega
theorem rspanR_spec (s : Span) : PCalls Tryd.prog g 90 [.agg (spanC s)] (vb (spanRight s)) := by
  refine pcalls' Tryd.func90 Tryd.ntmps90 rfl rfl rfl ?_
  repeat' (first
   | refine stn [] ?_
   | ((with_reducible refine is_gd ?_); refine awpL_split rfl rfl (fun h => ?_) (fun h => ?_))
   | fail)
  all_goals refine retP rfl ?_
  all_goals simp_all [ex, spanRight]
  all_goals omega
set_option maxHeartbeats 400000 in
theorem first_spec (l : List Int) (hl : l.length ≤ 1000000) : PCalls Tryd.prog g 71 [encIs l] (vi (firstE l)) := by
  refine pcalls' Tryd.func71 Tryd.ntmps71 rfl rfl rfl ?_
  repeat' (first
   | refine stn [] ?_
   | ((with_reducible refine is_awp ?_); refine awp_cond rfl (fun h => ?_) (fun h => ?_))
   | fail)
  refine awp_for (α := Nat) 0 (fun k => [(5, encIs l), (6, vi l.length), (7, vi k)]) (fun _ => []) (fun k => k ≤ l.length ∧ l.find? (fun x => decide (x ≠ 0)) = (l.drop k).find? (fun x => decide (x ≠ 0))) (fun k => l.length - k) 0
    ⟨(.cons rfl rfl (.cons rfl rfl (.cons rfl rfl .nil))), rfl, rfl, rfl⟩ ⟨Nat.zero_le _, rfl⟩ ?_
  rintro k ⟨hk, hf⟩
  cases ht : l[k]? with
  | none =>
    have hge : l.length ≤ k := by simpa using ht
    have c1 : decide ((k : Int) < l.length) = false := by simp; omega
    rw [List.drop_of_length_le hge] at hf
    refine runn [] ?_
    refine retP rfl ?_
    rw [firstE, hf]; rfl
  | some t =>
    have hlt : k < l.length := (List.getElem?_eq_some_iff.1 ht).1
    have c1 : decide ((k : Int) < l.length) = true := by simp; omega
    have h1 := int_get ht
    have hd : l.drop k = t :: l.drop (k + 1) := by
      obtain ⟨_, rfl⟩ := List.getElem?_eq_some_iff.1 ht
      exact List.drop_eq_getElem_cons hlt
    rw [hd] at hf
    repeat' (first
     | refine stn [] ?_
     | ((with_reducible refine is_awp ?_); refine awp_cond rfl (fun h => ?_) (fun h => ?_))
     | fail)
    · refine retP rfl ?_
      rw [firstE, hf]
      have : t ≠ 0 := by simpa using h
      simp [this, ex]
    · refine ⟨k + 1, ⟨(.cons rfl rfl (.cons rfl rfl (.cons rfl rfl .nil))), rfl, rfl, rfl⟩, ⟨by omega, ?_⟩, by omega⟩
      rw [hf]
      have : t = 0 := by simpa using h
      simp [this]
theorem wr_spec (o : Op) (f : Int) : PCalls Tryd.prog g 76 [.agg (opC o), vi f] (vb (wrt o f)) := by
  refine pcalls' Tryd.func76 Tryd.ntmps76 rfl rfl rfl ?_
  repeat' (first
   | refine stn [] ?_
   | ((with_reducible refine is_gd ?_); refine awpL_split rfl rfl (fun h => ?_) (fun h => ?_))
   | ((with_reducible refine is_awp ?_); refine awp_cond rfl (fun h => ?_) (fun h => ?_))
   | fail)
  all_goals refine retP rfl ?_
  all_goals simp_all [ex, wrt, within]
  all_goals omega
theorem rwr_spec (o : Op) (f : Int) : PCalls Tryd.prog g 92 [.agg (opC o), vi f] (vb (wrt o f)) := by
  have h1 := within_spec (g := g) f 0 2
  refine pcalls' Tryd.func92 Tryd.ntmps92 rfl rfl rfl ?_
  cases hw : within f 0 2 with
  | false =>
    rw [hw] at h1
    refine runn [] ?_
    all_goals refine retP rfl ?_
    all_goals clear h1
    all_goals simp_all [ex, wrt]
  | true =>
    rw [hw] at h1
    repeat' (first
     | refine stn [] ?_
     | ((with_reducible refine is_gd ?_); refine awpL_split rfl rfl (fun h => ?_) (fun h => ?_))
     | fail)
    all_goals refine retP rfl ?_
    all_goals clear h1
    all_goals simp_all [ex, wrt]
theorem Writes_spec (o : Op) (n f : Int) : PCalls Tryd.prog g 64 [.agg (opC o), vi n, vi f] (vb (writes o n f)) := by
  have h1 := wr_spec (g := g) o f
  refine pcalls' Tryd.func64 Tryd.ntmps64 rfl rfl rfl ?_
  repeat' (first
   | refine stn [] ?_
   | ((with_reducible refine is_gd ?_); refine awpL_split rfl rfl (fun h => ?_) (fun h => ?_))
   | fail)
  all_goals refine retP rfl ?_
  all_goals clear h1
  all_goals simp_all [ex, writes]
theorem rWrites_spec (o : Op) (n f : Int) : PCalls Tryd.prog g 82 [.agg (opC o), vi n, vi f] (vb (writes o n f)) := by
  have h1 := rwr_spec (g := g) o f
  refine pcalls' Tryd.func82 Tryd.ntmps82 rfl rfl rfl ?_
  repeat' (first
   | refine stn [] ?_
   | ((with_reducible refine is_gd ?_); refine awpL_split rfl rfl (fun h => ?_) (fun h => ?_))
   | fail)
  all_goals refine retP rfl ?_
  all_goals clear h1
  all_goals simp_all [ex, writes]
end Go.Proofs.YtifpafbmfedpkaaDoor
end
section
set_option linter.unusedVariables false
set_option linter.unusedSimpArgs false
set_option linter.unusedSectionVars false
namespace Go.Proofs.YtifpafbmfedpkaaDoor
open Go.Ac
attribute [local irreducible] awp awpL Ev Ev2 EvS thenQ blockQ retQ PCalls OCalls YieldOk IterC
set_option linter.unusedSimpArgs false
set_option linter.unusedVariables false
variable {g : List (Nat × List AV)}
theorem overK_nil (a : Stamp) (p : Option Stamp) : overK a p [] = 0 := by cases p <;> rfl
theorem overK_bad {a s : Stamp} {p : Option Stamp} {r : List Stamp} (h : right s = false ∨ less s a = false) : overK a p (s :: r) = 27 := by cases p <;> rw [overK, if_pos h]
theorem overK_first {a s : Stamp} {r : List Stamp} (h1 : right s = true) (h2 : less s a = true) : overK a none (s :: r) = overK a (some s) r := by rw [overK, if_neg (by simp [h1, h2])]
theorem overK_ord {a s q : Stamp} {r : List Stamp} (h1 : right s = true) (h2 : less s a = true) (h3 : less q s = false) : overK a (some q) (s :: r) = 10 := by rw [overK, if_neg (by simp [h1, h2])]; simp [h3]
theorem overK_next {a s q : Stamp} {r : List Stamp} (h1 : right s = true) (h2 : less s a = true) (h3 : less q s = true) : overK a (some q) (s :: r) = overK a (some s) r := by rw [overK, if_neg (by simp [h1, h2])]; simp [h3]
abbrev prevS (l : List Stamp) (k : Nat) : Option Stamp := if k = 0 then none else l[k - 1]?
theorem prevS_succ {l : List Stamp} {k : Nat} {t : Stamp} (h : l[k]? = some t) : prevS l (k + 1) = some t := by simp [prevS, h]
theorem prevS_pos {l : List Stamp} {k : Nat} (h : k ≠ 0) : prevS l k = l[k - 1]? := by simp [prevS, h]
theorem prevS_zero {l : List Stamp} {k : Nat} (h : k = 0) : prevS l k = none := by simp [prevS, h]
set_option maxHeartbeats 1000000 in
theorem over_spec (o : Op) : PCalls Tryd.prog g 75 [.agg (opC o)] (vi (overE o)) := by
  refine pcalls' Tryd.func75 Tryd.ntmps75 rfl rfl rfl ?_
  by_cases h0 : o.over.length = 0
  · have c0 : decide ((o.over.length : Int) = 0) = true := by simpa using h0
    refine runn [] ?_
    refine retP rfl ?_
    rw [overE, if_pos h0]; rfl
  have c0 : decide ((o.over.length : Int) = 0) = false := by simpa using h0
  by_cases h16 : 16 < o.over.length
  · have c1 : decide ((16 : Int) < o.over.length) = true := by simp; omega
    refine runn [] ?_
    refine retP rfl ?_
    rw [overE, if_neg h0, if_pos h16]; rfl
  have c1 : decide ((16 : Int) < o.over.length) = false := by simp; omega
  have hE : overE o = overK o.at_ none o.over := by rw [overE, if_neg h0, if_neg h16]
  rw [hE]
  repeat' (first
   | refine stn [] ?_
   | ((with_reducible refine is_awp ?_); refine awp_cond rfl (fun h => ?_) (fun h => ?_))
   | fail)
  refine awp_for (α := Nat) 0 (fun k => [(14, encStamps o.over), (15, vi o.over.length), (16, vi k), (1, .fp (opC o))]) (fun _ => []) (fun k => k ≤ o.over.length ∧ overK o.at_ none o.over = overK o.at_ (prevS o.over k) (o.over.drop k)) (fun k => o.over.length - k) 0
    ⟨(.cons rfl rfl (.cons rfl rfl (.cons rfl rfl (.cons rfl rfl .nil)))), rfl, rfl, rfl⟩ ⟨Nat.zero_le _, rfl⟩ ?_
  rintro k ⟨hk, hf⟩
  cases ht : o.over[k]? with
  | none =>
    have hge : o.over.length ≤ k := by simpa using ht
    have c1 : decide ((k : Int) < o.over.length) = false := by simp; omega
    rw [List.drop_of_length_le hge, overK_nil] at hf
    refine runn [] ?_
    refine retP rfl ?_
    rw [hf]; rfl
  | some t =>
    have hlt : k < o.over.length := (List.getElem?_eq_some_iff.1 ht).1
    have c2 : decide ((k : Int) < o.over.length) = true := by simp; omega
    have h1 := stamp_get ht
    have hd : o.over.drop k = t :: o.over.drop (k + 1) := by
      obtain ⟨_, rfl⟩ := List.getElem?_eq_some_iff.1 ht
      exact List.drop_eq_getElem_cons hlt
    rw [hd] at hf
    have hR := Right_spec (g := g) t
    have hL := Less_spec (g := g) t o.at_
    have n1 : (!true) = false := rfl
    have n2 : (!false) = true := rfl
    cases hr : right t with
    | false =>
      rw [hr] at hR
      rw [overK_bad (.inl hr)] at hf
      refine runn [] ?_
      refine retP rfl ?_
      rw [hf]; rfl
    | true =>
      rw [hr] at hR
      cases hl : less t o.at_ with
      | false =>
        rw [hl] at hL
        rw [overK_bad (.inr hl)] at hf
        refine runn [] ?_
        refine retP rfl ?_
        rw [hf]; rfl
      | true =>
        rw [hl] at hL
        by_cases hk0 : k = 0
        · have c3 : decide ((0 : Int) < (k : Int)) = false := by simp; omega
          rw [prevS_zero hk0, overK_first hr hl] at hf
          refine run [] ?_
          exact ⟨k + 1, ⟨(.cons rfl rfl (.cons rfl rfl (.cons rfl rfl (.cons rfl rfl .nil)))), rfl, rfl, rfl⟩, ⟨by omega, by rw [prevS_succ ht]; exact hf⟩, by omega⟩
        · have c3 : decide ((0 : Int) < (k : Int)) = true := by simp; omega
          obtain ⟨q, hq⟩ : ∃ q, o.over[k - 1]? = some q := ⟨_, List.getElem?_eq_getElem (by omega)⟩
          rw [prevS_pos hk0, hq] at hf
          have h2 : 0 ≤ (k : Int) - 1 ∧ (o.over.map stampC)[((k : Int) - 1).toNat]? = some (stampC q) := ⟨by omega, by rw [show ((k : Int) - 1).toNat = k - 1 by omega]; simp [hq]⟩
          have hP := Less_spec (g := g) q t
          cases hp : less q t with
          | false =>
            rw [hp] at hP
            rw [overK_ord hr hl hp] at hf
            refine run [] ?_
            refine retP rfl ?_
            rw [hf]; rfl
          | true =>
            rw [hp] at hP
            rw [overK_next hr hl hp] at hf
            refine run [] ?_
            exact ⟨k + 1, ⟨(.cons rfl rfl (.cons rfl rfl (.cons rfl rfl (.cons rfl rfl .nil)))), rfl, rfl, rfl⟩, ⟨by omega, by rw [prevS_succ ht]; exact hf⟩, by omega⟩
end Go.Proofs.YtifpafbmfedpkaaDoor
end
