/- A logic of trees over the model's steps, and the contracts of the functions that the laws reach: part 12 of 29. -/
import Derived.Test.YtcfkokllinkigaaGreatDoorB10
import Derived.Test.YtcfkokllinkigaaGreatDoorProg
import Derived.WalkKit
import Derived.StillTailTactics
import Derived.Deep.QuietTactic
import Derived.BigQuiet
import Derived.Lib.Small
import Derived.Lib.Walk
import Derived.Sort.Grow
import Derived.Shelf.Lays
import Derived.Shelf.SlSortCmp.WholeK
import Derived.Maps.RangeRun
import Derived.Shelf.SlSortCmp.NoneTotal
import Derived.Shelf.SlGeneric
set_option linter.unusedVariables false
set_option linter.unusedSimpArgs false
set_option linter.unusedSectionVars false
set_option linter.unnecessarySimpa false
namespace Go.Proofs.YtcfkokllinkigaaGreatDoor
section
open Go.RowKit Go.Lib Go.Sort Go.Shelf
theorem zIsNaN (x : Int) (w : World) : Calls Tryz.prog 119 #[.int .i64 x] w fun e w' => e = .returned (.bool false) ∧ w' = w := by
 go_enter Tryz.func119, Tryz.ntmps119
 go_wp2
 go_ret
 exact ⟨by simp, rfl⟩
def zcmp (a b : Int) : Int := if a < b then -1 else if b < a then 1 else 0
set_option maxHeartbeats 1000000 in
theorem zCompare (x y : Int) (w : World) : Calls Tryz.prog 97 #[.int .i64 x, .int .i64 y] w fun e w' => e = .returned (.int .i64 (zcmp x y)) ∧ w' = w := by
 have e71 : ∀ args w, (callFunc 119 args).run Tryz.prog w = .ok (.enter 119 args) w := enters_of Tryz.func119 (by kernel_rfl) rfl
 go_enter Tryz.func97, Tryz.ntmps97
 go_wp2_with (go_at_call 119; refine (zIsNaN _ _).mono ?_; rintro e w' ⟨rfl, hw⟩; rw [hw])
 all_goals (go_ret; refine ⟨?_, rfl⟩; unfold zcmp; (repeat' split) <;> first | rfl | (exfalso; omega))
set_option maxHeartbeats 1000000 in
theorem zOr (a b : Int) (g : Nat) (w : World) (h0 : w.cell? ⟨g, 0, none⟩ = some (.int .i64 a)) (h1 : w.cell? ⟨g, 1, none⟩ = some (.int .i64 b)) :
  Calls Tryz.prog 96 #[.slice (some ⟨g, 0, none⟩) 2 2] w fun e w' => e = .returned (.int .i64 (if a ≠ 0 then a else b)) ∧ w' = w := by
 go_enter Tryz.func96, Tryz.ntmps96
 go_wp2
 go_loop [5, 8] (fun _ i => i = .int .i64 0 ∨ (i = .int .i64 1 ∧ a = 0) ∨ (i = .int .i64 2 ∧ a = 0 ∧ b = 0)) (fun _ i => 2 - (intOf i).toNat)
 case atStart => exact .inl rfl
 case round =>
  rcases hrel with rfl | ⟨rfl, ha⟩ | ⟨rfl, ha, hb⟩
  ·by_cases h : a = 0
   ·go_wp2
    go_round
    case rel => exact .inr (.inl ⟨by go_num, h⟩)
    case measure => simp [intOf]
   ·go_wp2
    go_ret
    exact ⟨by simp [h], rfl⟩
  ·by_cases h : b = 0
   ·go_wp2
    go_round
    case rel => exact .inr (.inr ⟨by go_num, ha, h⟩)
    case measure => simp [intOf]
   ·go_wp2
    go_ret
    exact ⟨by simp [ha], rfl⟩
  ·go_wp2
   go_ret
   exact ⟨by simp [ha, hb], rfl⟩
theorem zcmp_lt (a b : Int) : decide (zcmp a b < 0) = decide (a < b) := by
 unfold zcmp
 split
 ·simp [*]
 ·split <;> simp <;> omega
theorem wj {a b : Int} : zcmp a b = 0 ↔ a = b := by
 unfold zcmp
 split
 ·simp; omega
 ·split
  ·simp; omega
  ·simp; omega
theorem grown1 (w : World) (os : Array Obj) (o : Obj) : (grow w os).alloc o = grow w (os ++ #[o]) := by rw [alloc_eq_grow, grow_grow]
theorem grow3 (W : World) (o1 o2 : Obj) (q : Nat) (os' : Array Obj) : grow (((W.alloc o1).alloc o2).drewN q) os' = grow (W.drewN q) (#[o1] ++ #[o2] ++ os') := by
 rw [alloc_eq_grow, alloc_eq_grow, grow_grow, ← grow_grow (W.drewN q)]; rfl
theorem cells1 (W : World) (x : Array Value) (e : TypeId) (i : Nat) : (W.alloc (.cells x e)).cell? ⟨W.heap.size, i, none⟩ = x[i]? := by
 unfold World.cell?
 rw [heap_alloc_new]
 rfl
theorem cells2 (W : World) (x y : Array Value) (e : TypeId) (i : Nat) : ((W.alloc (.cells x e)).alloc (.cells y e)).drew.cell? ⟨W.heap.size, i, none⟩ = x[i]? ∧ ((W.alloc (.cells x e)).alloc (.cells y e)).drew.cell? ⟨W.heap.size + 1, i, none⟩ = y[i]? := by
 have e1 : ((W.alloc (.cells x e)).alloc (.cells y e)).drew.heap[W.heap.size]? = some (.cells x e) := by
  show ((W.alloc (.cells x e)).alloc (.cells y e)).heap[W.heap.size]? = _
  rw [heap_alloc_old _ _ (by show W.heap.size < (W.heap.push _).size; rw [Array.size_push]; omega), heap_alloc_new]
 have e2 : ((W.alloc (.cells x e)).alloc (.cells y e)).drew.heap[W.heap.size + 1]? = some (.cells y e) := by
  show ((W.alloc (.cells x e)).alloc (.cells y e)).heap[W.heap.size + 1]? = _
  rw [show W.heap.size + 1 = (W.alloc (.cells x e)).heap.size by show _ = (W.heap.push _).size; rw [Array.size_push], heap_alloc_new]
 unfold World.cell?
 rw [e1, e2]
 exact ⟨rfl, rfl⟩
set_option maxRecDepth 20000 in
set_option maxHeartbeats 4000000 in
theorem zLess1 (a b d : Int) (h3 : ¬ b = d) (W : World) : Calls Tryz.prog 63 #[.agg #[.int .i64 a, .int .i64 b], .agg #[.int .i64 a, .int .i64 d]] W fun e w' => e = .returned (.bool (decide (a < a) || (decide (a = a) && decide (b < d)))) ∧ ∃ q os', w' = grow (W.drewN q) os' := by
 have e55 : ∀ args w, (callFunc 97 args).run Tryz.prog w = .ok (.enter 97 args) w := enters_of Tryz.func97 (by kernel_rfl) rfl
 have e54 : ∀ args w, (callFunc 96 args).run Tryz.prog w = .ok (.enter 96 args) w := enters_of Tryz.func96 (by kernel_rfl) rfl
 go_enter Tryz.func63, Tryz.ntmps63
 go_wp2
 generalize hw : World.alloc (World.alloc W _) _ = w1
 have c0 : w1.drew.cell? ⟨W.heap.size, 0, none⟩ = some (.int .i64 a) := by rw [← hw]; exact (cells2 W _ _ _ _).1
 have c1 : w1.drew.cell? ⟨W.heap.size, 1, none⟩ = some (.int .i64 b) := by rw [← hw]; exact (cells2 W _ _ _ _).1
 have c2 : w1.drew.cell? ⟨W.heap.size + 1, 0, none⟩ = some (.int .i64 a) := by rw [← hw]; exact (cells2 W _ _ _ _).2
 have c3 : w1.drew.cell? ⟨W.heap.size + 1, 1, none⟩ = some (.int .i64 d) := by rw [← hw]; exact (cells2 W _ _ _ _).2
 have hg : ∃ q os', w1.drew = grow (W.drewN q) os' := ⟨1, _, by rw [← hw, alloc_eq_grow, alloc_eq_grow, grow_grow]; rfl⟩
 clear hw
 refine wp_region_still_tail 14 (by kernel_rfl) (by kernel_rfl) ?_
 simp only [List.take_succ_cons, List.take_zero, List.drop_succ_cons, List.drop_zero]
 show wpStill Tryz.prog _ w1.drew (fun a' => wpList Tryz.prog _ _ _ a' w1.drew) _ _
 generalize w1.drew = w2 at *
 repeat (first | still_step | still_call (zCompare _ _ _))
 refine wpStill_nil ?_
 go_wp2_with (go_at_call 96; refine (zOr _ _ _ _ (cells1 _ _ _ _) (cells1 _ _ _ _)).mono ?_; rintro e w' ⟨rfl, hw'⟩; rw [hw'])
 all_goals (obtain ⟨q, os', rfl⟩ := hg)
 all_goals go_ret
 all_goals refine ⟨?_, q, _, grown1 _ _ _⟩
 all_goals clear e55 e54 c0 c1 c2 c3 hw'
 all_goals first
  | (exact absurd (wj.2 rfl) ‹_›)
  | (show Ending.returned (Value.bool (decide (zcmp b d < 0))) = _; rw [zcmp_lt])
set_option maxRecDepth 20000 in
set_option maxHeartbeats 4000000 in
theorem zLess2 (a b c d : Int) (h3 : ¬ a = c) (W : World) : Calls Tryz.prog 63 #[.agg #[.int .i64 a, .int .i64 b], .agg #[.int .i64 c, .int .i64 d]] W fun e w' => e = .returned (.bool (decide (a < c) || (decide (a = c) && decide (b < d)))) ∧ ∃ q os', w' = grow (W.drewN q) os' := by
 have e55 : ∀ args w, (callFunc 97 args).run Tryz.prog w = .ok (.enter 97 args) w := enters_of Tryz.func97 (by kernel_rfl) rfl
 have e54 : ∀ args w, (callFunc 96 args).run Tryz.prog w = .ok (.enter 96 args) w := enters_of Tryz.func96 (by kernel_rfl) rfl
 go_enter Tryz.func63, Tryz.ntmps63
 go_wp2
 generalize hw : World.alloc (World.alloc W _) _ = w1
 have c0 : w1.drew.cell? ⟨W.heap.size, 0, none⟩ = some (.int .i64 a) := by rw [← hw]; exact (cells2 W _ _ _ _).1
 have c1 : w1.drew.cell? ⟨W.heap.size, 1, none⟩ = some (.int .i64 b) := by rw [← hw]; exact (cells2 W _ _ _ _).1
 have c2 : w1.drew.cell? ⟨W.heap.size + 1, 0, none⟩ = some (.int .i64 c) := by rw [← hw]; exact (cells2 W _ _ _ _).2
 have c3 : w1.drew.cell? ⟨W.heap.size + 1, 1, none⟩ = some (.int .i64 d) := by rw [← hw]; exact (cells2 W _ _ _ _).2
 have hg : ∃ q os', w1.drew = grow (W.drewN q) os' := ⟨1, _, by rw [← hw, alloc_eq_grow, alloc_eq_grow, grow_grow]; rfl⟩
 clear hw
 refine wp_region_still_tail 14 (by kernel_rfl) (by kernel_rfl) ?_
 simp only [List.take_succ_cons, List.take_zero, List.drop_succ_cons, List.drop_zero]
 show wpStill Tryz.prog _ w1.drew (fun a' => wpList Tryz.prog _ _ _ a' w1.drew) _ _
 generalize w1.drew = w2 at *
 repeat (first | still_step | still_call (zCompare _ _ _))
 refine wpStill_nil ?_
 go_wp2_with (go_at_call 96; refine (zOr _ _ _ _ (cells1 _ _ _ _) (cells1 _ _ _ _)).mono ?_; rintro e w' ⟨rfl, hw'⟩; rw [hw'])
 all_goals (obtain ⟨q, os', rfl⟩ := hg)
 all_goals go_ret
 all_goals refine ⟨?_, q, _, grown1 _ _ _⟩
 all_goals clear e55 e54 c0 c1 c2 c3 hw'
 all_goals first
  | (exact absurd (wj.2 rfl) ‹_›)
  | (exact absurd (wj.1 ‹_›) h3)
  | (show Ending.returned (Value.bool (decide (zcmp a c < 0))) = _; rw [zcmp_lt])
set_option maxRecDepth 20000 in
theorem zLess0 (a b : Int) (W : World) : Calls Tryz.prog 63 #[.agg #[.int .i64 a, .int .i64 b], .agg #[.int .i64 a, .int .i64 b]] W fun e w' => e = .returned (.bool (decide (a < a) || (decide (a = a) && decide (b < b)))) ∧ ∃ q os', w' = grow (W.drewN q) os' := by
 go_enter Tryz.func63, Tryz.ntmps63
 go_wp2
 go_quiet (fail)
 go_wp2
 go_ret
 refine ⟨?_, nq, _, by rw [alloc_eq_grow, alloc_eq_grow, grow_grow]; rfl⟩
 show Ending.returned (Value.bool false) = _
 simp
theorem zLess (a b c d : Int) (W : World) : Calls Tryz.prog 63 #[.agg #[.int .i64 a, .int .i64 b], .agg #[.int .i64 c, .int .i64 d]] W fun e w' => e = .returned (.bool (decide (a < c) || (decide (a = c) && decide (b < d)))) ∧ ∃ q os', w' = grow (W.drewN q) os' := by
 by_cases h1 : a = c
 ·subst h1
  by_cases h2 : b = d
  ·subst h2; exact zLess0 a b W
  ·exact zLess1 a b d h2 W
 ·exact zLess2 a b c d h1 W
set_option maxHeartbeats 2000000 in
theorem zVal (a b n : Int) (s : ByteArray) (c d m : Int) (t : ByteArray) (W : World) : Calls Tryz.prog 103 #[.agg #[.int .i64 a, .int .i64 b, .int .i64 n, .string s], .agg #[.int .i64 c, .int .i64 d, .int .i64 m, .string t]] W fun e w' => e = .returned (.int .i64 (if (decide (a < c) || (decide (a = c) && decide (b < d))) = true then -1 else 1)) ∧ ∃ q os', w' = grow (W.drewN q) os' := by
 have hL := zLess a b c d
 generalize (decide (a < c) || (decide (a = c) && decide (b < d))) = r at hL ⊢
 cases r with
 | true =>
  go_enter Tryz.func103, Tryz.ntmps103
  go_wp2_with (go_at_call 63; refine (hL _).mono ?_; rintro e w' ⟨rfl, q, os', hw'⟩; rw [hw'])
  go_ret
  exact ⟨rfl, q, _, grow3 _ _ _ _ _⟩
 | false =>
  go_enter Tryz.func103, Tryz.ntmps103
  go_wp2_with (go_at_call 63; refine (hL _).mono ?_; rintro e w' ⟨rfl, q, os', hw'⟩; rw [hw'])
  go_ret
  exact ⟨rfl, q, _, grow3 _ _ _ _ _⟩
end
section
open Go.Ac
attribute [local irreducible] awp awpL Ev Ev2 EvS thenQ blockQ retQ PCalls OCalls YieldOk IterC
variable {g : List (Nat × List AV)}
abbrev valC (v : Val) : List AV := [vi v.at_.count, vi v.at_.dev, vi v.n, vs v.text]
abbrev encVals (l : List Val) : AV := .fs 4 l.length (l.map valC)
theorem val_get {l : List Val} {k : Nat} {x : Val} (h : l[k]? = some x) : 0 ≤ (k : Int) ∧ (l.map valC)[(k : Int).toNat]? = some (valC x) := ⟨by omega, by simp [h]⟩
set_option maxHeartbeats 2000000 in
theorem Value_spec (o : Op) (f : Int) : PCalls Tryz.prog g 101 [.agg (opC o), vi f] (.agg (valC (valueOf o f))) := by
 have h1 := wr_spec (g := g) o f
 have n1 : (!true) = false := rfl
 have n2 : (!false) = true := rfl
 refine pcalls' Tryz.func101 Tryz.ntmps101 rfl rfl rfl ?_
 cases hw : wrt o f with
 | false =>
  rw [hw] at h1
  refine run [4, 5] ?_
  refine retP rfl ?_
  unfold valueOf
  rw [if_pos hw]
  rfl
 | true =>
  rw [hw] at h1
  have hv : valueOf o f = ⟨o.at_, if f = 0 then 0 else if o.kind = 0 then (if f = 1 then o.note.span.fro else o.note.span.til) else o.n, if f = 0 then (if o.kind = 0 then o.note.text else o.text) else .empty⟩ := by unfold valueOf; rw [if_neg (by simp [hw])]
  have hf : f = 0 ∨ f = 1 ∨ f = 2 := by
   simp only [wrt, within, Bool.and_eq_true, decide_eq_true_eq] at hw
   omega
  by_cases hk : o.kind = 0
  ·have k1 : decide (o.kind = 0) = true := decide_eq_true hk
   rcases hf with rfl | rfl | rfl
   ·have f0 : decide ((0 : Int) = 0) = true := rfl
    have f1 : decide ((0 : Int) = 1) = false := rfl
    have f2 : decide ((0 : Int) = 2) = false := rfl
    rw [show valueOf o 0 = ⟨o.at_, 0, o.note.text⟩ by rw [hv]; simp [hk]]
    repeat' (first
     | ((with_reducible refine zJ ?_); refine zC 5 (by simp only [List.take_succ_cons, List.take_zero, List.take_nil]; rfl) (by simp only [List.drop_succ_cons, List.drop_zero, List.drop_nil]; rfl) (by kernel_rfl) rfl rfl rfl rfl (by repeat' (first | exact Strip.nil | apply Strip.keep rfl | apply Strip.drop rfl)) ?_)
     | refine st [4, 5] ?_
     | fail)
    exact retP rfl rfl
   ·have f0 : decide ((1 : Int) = 0) = false := rfl
    have f1 : decide ((1 : Int) = 1) = true := rfl
    rw [show valueOf o 1 = ⟨o.at_, o.note.span.fro, .empty⟩ by rw [hv]; simp [hk]]
    repeat' (first
     | ((with_reducible refine zJ ?_); refine zC 5 (by simp only [List.take_succ_cons, List.take_zero, List.take_nil]; rfl) (by simp only [List.drop_succ_cons, List.drop_zero, List.drop_nil]; rfl) (by kernel_rfl) rfl rfl rfl rfl (by repeat' (first | exact Strip.nil | apply Strip.keep rfl | apply Strip.drop rfl)) ?_)
     | refine st [4, 5] ?_
     | fail)
    exact retP rfl rfl
   ·have f0 : decide ((2 : Int) = 0) = false := rfl
    have f1 : decide ((2 : Int) = 1) = false := rfl
    have f2 : decide ((2 : Int) = 2) = true := rfl
    rw [show valueOf o 2 = ⟨o.at_, o.note.span.til, .empty⟩ by rw [hv]; simp [hk]]
    repeat' (first
     | ((with_reducible refine zJ ?_); refine zC 5 (by simp only [List.take_succ_cons, List.take_zero, List.take_nil]; rfl) (by simp only [List.drop_succ_cons, List.drop_zero, List.drop_nil]; rfl) (by kernel_rfl) rfl rfl rfl rfl (by repeat' (first | exact Strip.nil | apply Strip.keep rfl | apply Strip.drop rfl)) ?_)
     | refine st [4, 5] ?_
     | fail)
    exact retP rfl rfl
  ·have k1 : decide (o.kind = 0) = false := decide_eq_false hk
   by_cases hf0 : f = 0
   ·have f0 : decide (f = 0) = true := decide_eq_true hf0
    rw [show valueOf o f = ⟨o.at_, 0, o.text⟩ by rw [hv]; simp [hk, hf0]]
    refine run [4, 5] ?_
    exact retP rfl rfl
   ·have f0 : decide (f = 0) = false := decide_eq_false hf0
    rw [show valueOf o f = ⟨o.at_, o.n, .empty⟩ by rw [hv]; simp [hk, hf0]]
    refine run [4, 5] ?_
    exact retP rfl rfl
set_option maxHeartbeats 1000000 in
theorem Added_spec (r : Replica) (n : Int) (hl : r.ops.length ≤ 1000000) : PCalls Tryz.prog g 71 [.agg (repC r), vi n] (addedV (addedO r.ops n)) := by
 refine pcalls' Tryz.func71 Tryz.ntmps71 rfl rfl rfl ?_
 refine runn [4] ?_
 refine zi (α := Nat) 1 (fun k => [(1, vi n), (4, .lp 0 0), (9, encOps r.ops), (10, vi r.ops.length), (11, vi k)]) (fun k => [.box zeroOpC]) (fun k => k ≤ r.ops.length ∧ addedO r.ops n = (r.ops.drop k).find? fun o => decide (o.kind = 0) && decide (o.note.id = n)) (fun k => r.ops.length - k) 0
  qw ⟨Nat.zero_le _, rfl⟩ ?_
 rintro k ⟨hk, hf⟩
 cases ht : r.ops[k]? with
 | none =>
  have hge : r.ops.length ≤ k := by simpa using ht
  have c1 : decide ((k : Int) < r.ops.length) = false := decide_eq_false (by omega)
  rw [List.drop_of_length_le hge] at hf
  refine runn [4] ?_
  refine retLe rfl ?_
  rw [hf]
  exact Le.tup (.cons (Le.agg le_zeroOp) (.cons (Le.rfl' _) .nil))
 | some x =>
  have hlt : k < r.ops.length := (List.getElem?_eq_some_iff.1 ht).1
  have c1 : decide ((k : Int) < r.ops.length) = true := decide_eq_true (by omega)
  have h1 := Za ht
  rw [find_drop _ r.ops k x ht] at hf
  by_cases hk0 : x.kind = 0
  ·have d1 : decide (x.kind = 0) = true := decide_eq_true hk0
   by_cases hid : x.note.id = n
   ·have d2 : decide (x.note.id = n) = true := decide_eq_true hid
    rw [d1, d2] at hf
    refine runn [4] ?_
    refine retP rfl ?_
    rw [hf]; rfl
   ·have d2 : decide (x.note.id = n) = false := decide_eq_false hid
    rw [d1, d2] at hf
    refine runn [4] ?_
    exact ⟨k + 1, qw, ⟨by omega, hf⟩, by omega⟩
  ·have d1 : decide (x.kind = 0) = false := decide_eq_false hk0
   rw [d1] at hf
   refine runn [4] ?_
   exact ⟨k + 1, qw, ⟨by omega, hf⟩, by omega⟩
end
end Go.Proofs.YtcfkokllinkigaaGreatDoor
section
namespace Go.Ac
open Go.MapKept Go.ChangeMaps
section
variable {P : Program} {td : TDs} [T : TOK P td] {G : Glo} {N : Nat} {Q : AQ} {S : SL} {L : List LB} {ops : Array Oper} {rest : List Oper}
 {op : Op} {ty : TypeId} {pos : String} {af : Array Edge} {d : Nat} {x : AV}
theorem births_nodup {clock : Nat} {es : List MapEntry} (h : Births clock es) : (es.map (·.born)).Nodup := by
 rw [List.nodup_iff_pairwise_ne, List.pairwise_map]
 exact h.1.imp fun g e => by omega
theorem awpL_bare {km : Nat} {ks : List Value} {xs : List AV} {l : List Oper} (hm : L[km]? = some (.map ks xs))
  (kk : ∀ (m ck : Nat) (bs : List Nat), bs.Nodup → bs.length = xs.length → ks.length = xs.length → awpL P G N ops l Q S (L.set km (.mapb m ck bs ks xs))) : awpL P G N ops l Q S L := by
 intro cx a hc
 have hb := hc.st.blk _ _ hm
 simp only [BR] at hb
 obtain ⟨h0, b, es, clock, h1, h2, h3, h4⟩ := hb
 obtain ⟨p1, p2, p3⟩ := h4.get
 have hst := hc.st.wr (k := km) (b := b) (w' := cx.w) h1 rfl rfl rfl rfl (fun _ _ => rfl) (fun arr T h => ⟨arr, h, rfl⟩) (by rw [hm]; simp) (x := .mapb b clock (es.toList.map (·.born)) ks xs)
  (fun _ => by simp only [BR]; exact ⟨h0, h1, es, h2, h3, rfl, h4⟩)
 exact zq (fun e a w q => q.trans hst.ext) _ _ _ (kk b clock _ (births_nodup h3) (by rw [List.length_map, p2]) (by rw [p1, List.length_map, p2]) cx a (hst.cn hc))
theorem mapb_R {cx : Cx} (st : St G cx L) {km m ck : Nat} {bs : List Nat} {ks : List Value} {xs : List AV} (hm : L[km]? = some (.mapb m ck bs ks xs)) :
  cx.ver km = 0 ∧ cx.φ km = some m ∧ ∃ es, cx.w.heap[m]? = some (.map es ck) ∧ Births ck es.toList ∧ es.toList.map (·.born) = bs ∧ PF cx.F cx.w ks xs es.toList := by
 have hb := st.blk _ _ hm
 simpa only [BR] using hb
theorem ev_range_mapb {t kt e km m ck k : Nat} {dd : TD} {u : Operand} {bs : List Nat} {ks : List Value} {xs : List AV} {L' : List LB} (h : val G S u = some (.mp km)) (hm : L[km]? = some (.mapb m ck bs ks xs)) (ht : lk td t = some dd) (hs : dd.k = .map kt e)
  (hk : L.length = k) (hL : L ++ [.obj (.mapIter (some m) ck #[] ck)] = L') : Ev2 P G N (.range t u) ty S L (.lp k 0) L' := by
 subst hk hL
 intro o ho _ cx a hc
 have e1 := zn hc h
 obtain ⟨h0, h1, es, h2, h3, h5, h4⟩ := mapb_R hc.st hm
 simp only [R] at e1
 obtain ⟨hd, _, hx⟩ := e1
 obtain ⟨b, g1, e1⟩ := hx h0
 rw [h1] at g1; injection g1 with g1; subst g1
 have A := Alloc.alloc cx.w (.mapIter (some m) ck #[] ck)
 have hb : BR G (cx.new L.length (cx.w.alloc (.mapIter (some m) ck #[] ck)) 0 0) L.length (.obj (.mapIter (some m) ck #[] ck)) := by
  simp only [BR]
  exact ⟨by simp [Cx.new], cx.w.heap.size, by simp [Cx.new], A.new⟩
 refine ⟨.pointer (some ⟨cx.w.heap.size, 0, none⟩), cx.new L.length (cx.w.alloc (.mapIter (some m) ck #[] ck)) 0 0, ?_, ?_, hc.st.new A 0 0 hb⟩
 ·have q1 := qV (P := P) ht hs
  have hg : (getObj m).run P cx.w = .ok (.map es ck) cx.w := by simp [getObj, Sem.run, h2]
  simp [execOp, ho, e1, Instr.range, run_underlying q1, Result.andThen, hg, run_newObj, Cx.new]
 ·simp only [R]; exact ⟨by simp [Cx.new], rfl, fun _ => ⟨cx.w.heap.size, by simp [Cx.new], rfl⟩⟩
theorem awpL_nextM {u : Operand} {k km m ck : Nat} {bs seen : List Nat} {ks : List Value} {xs : List AV} (h : val G S u = some (.lp k 0)) (hk : L[k]? = some (.obj (.mapIter (some m) ck seen.toArray ck))) (km' : Nat) (hkm : km' = km) (hm : L[km]? = some (.mapb m ck bs ks xs)) (hd : Nat.blt d N = true)
  (hT : ∀ (i b : Nat) (x : AV), bs[i]? = some b → b ∉ seen → xs[i]? = some x → awpL P G N ops rest Q ((d, .tup [.v (.bool true), .any, x]) :: S) (L.set k (.obj (.mapIter (some m) ck (seen ++ [b]).toArray ck))))
  (hF : (∀ b ∈ bs, b ∈ seen) → awpL P G N ops rest Q ((d, .tup [.v (.bool false)]) :: S) L) :
  awpL P G N ops (⟨some d, .next u false, ty, pos, af, none⟩ :: rest) Q S L := by
 intro cx a hc
 obtain ⟨bi, e1, h1, h2, h3⟩ := iter_R hc h hk
 obtain ⟨g0, g1, es, g2, g3, g5, g4⟩ := mapb_R hc.st hm
 obtain ⟨p1, p2, p3⟩ := g4.get
 have hne : bi ≠ m := fun e => by rw [e, g2] at h3; cases h3
 refine wpListIn_plain rfl fun K hK => zy rfl ?_
 rcases run_next_at (P := P) cx.w ty bi m ck ck seen.toArray es ck h3 g2 (fun x hx => g3.2 x hx) (Nat.le_refl _) with ⟨hz, hr⟩ | ⟨e, he, w1, hw1, hr⟩
 ·have hrun : (execOp a.eval ⟨some d, .next u false, ty, pos, af, none⟩).run P cx.w = .ok (.value (.tuple #[.bool false])) cx.w := by simp [execOp, e1, hr, Result.andThen]
  rw [hrun, Oper.uponIn_value]
  refine hK _ _ (hF (fun b hb => ?_) cx _ (hc.put hd (by simp only [R]; exact ⟨_, rfl, by simp only [TR, R]; exact ⟨_, _, rfl, rfl, rfl⟩⟩)))
  rw [← g5] at hb
  obtain ⟨x, hx, rfl⟩ := List.mem_map.1 hb
  have : (leftOf es seen.toArray) = #[] := Array.eq_empty_of_size_eq_zero hz
  unfold leftOf at this
  rw [Array.filter_eq_empty_iff] at this
  have := this x (by simpa using hx)
  simpa using this
 ·have hrun : (execOp a.eval ⟨some d, .next u false, ty, pos, af, none⟩).run P cx.w = .ok (.value (.tuple #[.bool true, e.key, e.val])) (setBlock w1 bi (.mapIter (some m) ck (seen ++ [e.born]).toArray ck)) := by
   rw [show (seen ++ [e.born]).toArray = seen.toArray.push e.born by simp]
   simp [execOp, e1, hr, Result.andThen]
  rw [hrun, Oper.uponIn_value]
  have hlt : bi < cx.w.heap.size := (hc.st.loc k bi h1).2.2
  have hheap : w1.heap = cx.w.heap ∧ w1.os = cx.w.os ∧ w1.tape = cx.w.tape ∧ w1.output = cx.w.output := by rcases hw1 with rfl | rfl <;> exact ⟨rfl, rfl, rfl, rfl⟩
  obtain ⟨q1, q2, q3, q4⟩ := hheap
  have hst := hc.st.wr (k := k) (b := bi) (w' := setBlock w1 bi (.mapIter (some m) ck (seen ++ [e.born]).toArray ck)) h1 q2 q3 q4 (by simp [setBlock, q1]) (fun b' h => by simp [setBlock, q1, Ne.symm h]) (fun arr T h => by rw [h3] at h; cases h) (by rw [hk]; simp) (x := .obj (.mapIter (some m) ck (seen ++ [e.born]).toArray ck))
   (fun _ => by simp only [BR]; exact ⟨h2, bi, h1, by simp [setBlock, q1, hlt]⟩)
  unfold leftOf at he
  simp only [Array.toList_filter, List.mem_filter] at he
  obtain ⟨hem, hes⟩ := he
  obtain ⟨i, hi⟩ := List.getElem?_of_mem hem
  obtain ⟨x, hx, hrx⟩ := p3 i e hi
  refine hK _ _ (zq (fun e a w q => q.trans hst.ext) _ _ _ (hT i e.born x (by rw [← g5, List.getElem?_map, hi]; rfl) (by simpa using hes) hx _ _ ((hst.cn hc).put hd ?_)))
  simp only [R]
  refine ⟨_, rfl, ?_⟩
  simp only [TR, R]
  refine ⟨_, _, rfl, rfl, _, _, rfl, trivial, _, _, rfl, ?_, rfl⟩
  have hrx' := RF.mono hst.sub.F hst.sub.heap x e.val hrx
  exact R.of_RF _ _ _ hrx'
end
end Go.Ac
namespace Go.Ac
open Go.MapKept Go.ChangeMaps
section
variable {P : Program} {td : TDs} [T : TOK P td] {G : Glo} {N : Nat} {Q : AQ} {S : SL} {L : List LB} {ty : TypeId}
theorem ev_entry {u : Operand} {k km m ck i b : Nat} {bs seen : List Nat} {ks : List Value} {xs : List AV} {x : AV} (h : val G S u = some (.lp k 0)) (hk : L[k]? = some (.obj (.mapIter (some m) ck (seen ++ [b]).toArray ck))) (km' : Nat) (hkm : km' = km) (hm : L[km]? = some (.mapb m ck bs ks xs))
  (hn : bs.Nodup) (hb : bs[i]? = some b) (hx : xs[i]? = some x) : Ev P G N (.entry u) ty S L (.tup [.any, x]) := by
 intro o ho _ cx a hc
 obtain ⟨bi, e1, h1, h2, h3⟩ := iter_R hc h hk
 obtain ⟨g0, g1, es, g2, g3, g5, g4⟩ := mapb_R hc.st hm
 obtain ⟨p1, p2, p3⟩ := g4.get
 rw [← g5, List.getElem?_map] at hb
 cases he : es.toList[i]? with
 | none => rw [he] at hb; cases hb
 | some e =>
  rw [he] at hb
  have hb : e.born = b := by simpa using hb
  obtain ⟨y, hy, hry⟩ := p3 i e he
  rw [hx] at hy; cases hy
  have hr := run_entry_at (P := P) cx.w bi m ck seen.toArray es ck e (by rw [h3, ← hb]; simp) g2 (List.mem_of_getElem? he) (by rw [g5]; exact hn)
  refine ⟨.tuple #[e.key, e.val], by simp [execOp, ho, e1, hr, Result.andThen], ?_⟩
  simp only [R]
  refine ⟨_, rfl, ?_⟩
  simp only [TR, R]
  exact ⟨_, _, rfl, trivial, _, _, rfl, R.of_RF _ _ _ hry, rfl⟩
end
end Go.Ac
namespace Go.Ac
section
variable {P : Program} {td : TDs} [T : TOK P td] {G : Glo} {N : Nat} {Q : AQ} {S : SL} {L L' : List LB} {ops : Array Oper} {rest : List Oper}
 {op : Op} {ty : TypeId} {pos : String} {af : Array Edge} {x : AV}
theorem awpL_ev2n (h : Ev2 P G N op ty S L x L') (k : awpL P G N ops rest Q S L') (hnd : nd op = true := by rfl) :
  awpL P G N ops (⟨none, op, ty, pos, af, none⟩ :: rest) Q S L := by
 intro cx a hc
 obtain ⟨y, cx', hr, hx, hst⟩ := h ⟨none, op, ty, pos, af, none⟩ rfl rfl cx a hc
 refine wpListIn_plain rfl fun K hK => zy hnd ?_
 rw [hr, Oper.uponIn_value]
 refine hK _ _ (zq (fun e a w q => q.trans hst.ext) _ _ _ (k cx' _ ?_))
 have := hst.cn hc
 exact ⟨this.st, this.de, by simpa [Act.put] using this.sz, by simpa [Act.put] using this.sr⟩
end
def seenOf (bs ord : List Nat) : List Nat := ord.map fun i => (bs[i]?).getD 0
theorem seenOf_snoc {bs ord : List Nat} {i b : Nat} (hb : bs[i]? = some b) : seenOf bs (ord ++ [i]) = seenOf bs ord ++ [b] := by simp [seenOf, hb]
theorem seenOf_new {bs ord : List Nat} {i b : Nat} (hb : bs[i]? = some b) (h : b ∉ seenOf bs ord) : i ∉ ord := fun hi => h (List.mem_map.2 ⟨i, hi, by rw [hb]; rfl⟩)
theorem seenOf_all {bs ord : List Nat} (hn : bs.Nodup) (hlt : ∀ j ∈ ord, j < bs.length) (h : ∀ b ∈ bs, b ∈ seenOf bs ord) : ∀ i, i < bs.length → i ∈ ord := by
 intro i hi
 obtain ⟨j, hj, e⟩ := List.mem_map.1 (h bs[i] (List.getElem_mem hi))
 have hjl := hlt j hj
 rw [List.getElem?_eq_getElem hjl] at e
 have : j = i := jS hn (x := bs[i]) (by rw [List.getElem?_eq_getElem hjl]; exact congrArg some e) (List.getElem?_eq_getElem hi)
 exact this ▸ hj
structure Ord (n : Nat) (ord : List Nat) : Prop where
 nd : ord.Nodup
 lt : ∀ i ∈ ord, i < n
theorem Ord.nil (n : Nat) : Ord n [] := ⟨List.nodup_nil, fun _ h => by cases h⟩
theorem Ord.snoc {n : Nat} {ord : List Nat} (h : Ord n ord) {i : Nat} (hi : i < n) (hn : i ∉ ord) : Ord n (ord ++ [i]) :=
 ⟨List.nodup_append.2 ⟨h.nd, by simp, fun a ha b hb e => by simp only [List.mem_singleton] at hb; subst hb e; exact hn ha⟩, fun j hj => by
  rcases List.mem_append.1 hj with g | g
  ·exact h.lt j g
  ·simp only [List.mem_singleton] at g; omega⟩
theorem Ord.len {n : Nat} : ∀ {ord : List Nat}, Ord n ord → ord.length ≤ n := by
 induction n with
 | zero =>
  intro ord h
  cases ord with
  | nil => exact Nat.le_refl _
  | cons i r => exact absurd (h.lt i (List.mem_cons_self ..)) (by omega)
 | succ n ih =>
  intro ord h
  have h2 : Ord n (ord.filter (· ≠ n)) := ⟨h.nd.sublist List.filter_sublist, fun i hi => by
   obtain ⟨h1, h2⟩ := List.mem_filter.1 hi
   have := h.lt i h1
   have h2 : i ≠ n := by simpa using h2
   omega⟩
  have h3 := ih h2
  have : ord.length ≤ (ord.filter (· ≠ n)).length + 1 := by
   have hc : ord.count n ≤ 1 := List.nodup_iff_count.1 h.nd n
   have he := List.length_eq_countP_add_countP (p := fun i => decide (i ≠ n)) (l := ord)
   rw [← List.countP_eq_length_filter, he]
   have : ord.countP (fun i => decide ¬(decide (i ≠ n) = true)) = ord.count n := by
    unfold List.count
    exact List.countP_congr fun i _ => by simp
   omega
  omega
theorem Ord.perm {n : Nat} {ord : List Nat} (h : Ord n ord) (hall : ∀ i, i < n → i ∈ ord) : ord.Perm (List.range n) :=
 (List.perm_ext_iff_of_nodup h.nd List.nodup_range).2 fun i => by rw [List.mem_range]; exact ⟨h.lt i, hall i⟩
theorem range_get {α : Type} (l : List α) (d : α) : (List.range l.length).map (fun i => (l[i]?).getD d) = l := by
 apply List.ext_getElem?
 intro i
 rw [List.getElem?_map]
 rcases Nat.lt_or_ge i l.length with h | h
 ·rw [List.getElem?_range h]; simp [List.getElem?_eq_getElem h]
 ·rw [List.getElem?_eq_none (by simpa using h), List.getElem?_eq_none h]; rfl
def come {α : Type} [Inhabited α] (l : List α) (ord : List Nat) : List α := ord.map fun i => (l[i]?).getD default
theorem come_snoc {α : Type} [Inhabited α] {l : List α} {ord : List Nat} {i : Nat} {x : α} (h : l[i]? = some x) : come l (ord ++ [i]) = come l ord ++ [x] := by simp [come, h]
theorem come_perm {α : Type} [Inhabited α] {l : List α} {ord : List Nat} (h : Ord l.length ord) (hall : ∀ i, i < l.length → i ∈ ord) : (come l ord).Perm l := by
 have h1 := (h.perm hall).map fun i => (l[i]?).getD default
 rw [range_get] at h1
 exact h1
end Go.Ac
end
namespace Go.Ac
section
open Go.Sort (PermIn SortedIn HoldsK putRowK flatK putRowK_grow size_flatK get_flatK)
open Go.Proofs (sortWorldK)
theorem set_same {L : List LB} {k : Nat} {x : LB} (h : L[k]? = some x) : L.set k x = L := by
 apply List.ext_getElem?
 intro i
 rw [List.getElem?_set]
 by_cases e : k = i
 ·subst e
  have := zG h
  rw [if_pos rfl, if_pos this, h]
 ·rw [if_neg e]
section
variable {P : Program} {td : TDs} [T : TOK P td] {G : Glo} {N : Nat} {Q : AQ} {S : SL} {L : List LB} {ops : Array Oper} {rest : List Oper}
 {ty : TypeId} {pos : String} {af : Array Edge} {dd : Nat}
theorem ext_grow (F : Nat → Prop) (w : World) (hF : ∀ b, F b → b < w.heap.size) (n : Nat) (os : Array Obj) : Ext (Cx.bare F w) (Cx.bare F (Go.Sort.grow (Go.Sort.ahead w n) os)) := by
 have hk : ∀ b, b < w.heap.size → (Go.Sort.grow (Go.Sort.ahead w n) os).heap[b]? = w.heap[b]? := fun b hb => by simp [Go.Sort.grow, Go.Sort.ahead, Array.getElem?_append_left hb]
 refine ⟨rfl, rfl, rfl, by simp [Cx.bare, Go.Sort.grow, Go.Sort.ahead], fun b h => .inl h, fun b ⟨j, h⟩ => by simp [Cx.bare] at h, fun b h => h.elim, fun r h => by simp [Cx.bare] at h, fun b h1 _ _ => hk b h1, rfl, ?_⟩
 exact ⟨fun b h => h, fun b h => hk b (hF b h), fun k h => h.elim, fun k h => h.elim, fun k h => h.elim, fun k h => h.elim, fun k h => h.elim, fun k b arr T h => h.elim⟩
theorem flat_get {α : Type} [Inhabited α] {enc : α → List Value} {sz : Nat} (hlen : ∀ x, (enc x).length = sz) (d : Array α) {i c : Nat} {x : α} {y : Value} (hx : d.toList[i]? = some x) (hy : (enc x)[c]? = some y) : i * sz + c < d.size * sz ∧ (flatK enc sz d)[i * sz + c]! = y := by
 have hi : i < d.size := by have := (List.getElem?_eq_some_iff.1 hx).1; simpa using this
 have hc : c < sz := by have := (List.getElem?_eq_some_iff.1 hy).1; rwa [hlen] at this
 have hlt : i * sz + c < d.size * sz := by
  have := Nat.mul_le_mul_right sz (show i + 1 ≤ d.size from hi)
  rw [Nat.add_mul, Nat.one_mul] at this; omega
 refine ⟨hlt, ?_⟩
 have e1 : (i * sz + c) / sz = i := by rw [Nat.mul_comm, Nat.mul_add_div (by omega), Nat.div_eq_of_lt hc]; rfl
 have e2 : (i * sz + c) % sz = c := by rw [Nat.mul_comm, Nat.mul_add_mod, Nat.mod_eq_of_lt hc]
 rw [get_flatK _ _ _ _ hlt, e1, e2]
 have : d[i]! = x := by
  obtain ⟨h1, h2⟩ := List.getElem?_eq_some_iff.1 hx
  rw [getElem!_pos d i hi, ← h2]; simp
 rw [this]
 obtain ⟨h1, h2⟩ := List.getElem?_eq_some_iff.1 hy
 rw [getElem!_pos _ c h1, h2]
theorem awpL_sort {α : Type} [Inhabited α] {f g : FuncId} {us : Array Operand} {ats : Array TypeId} {enc : α → List Value} {sz E k v : Nat} {d : List α} {lt : α → α → Bool}
    (hargs : vals G S us.toList = some [.os k v, .fn g [] []]) (hk : L[k]? = some (.own v E sz (d.map fun x => (enc x).map .v))) (hlen : ∀ x, (enc x).length = sz) (h1 : ∀ x, ∀ y ∈ enc x, y.oneCell' = true) (hC : Callable P f)
    (hS : ∀ (blk cap : Nat) (w : World), HoldsK enc sz w blk 0 d.toArray → blk < w.heap.size → Calls P f #[.slice (some ⟨blk, 0, none⟩) d.toArray.size cap, .func (.func g) #[] #[]] w fun e w' => e = .returned (.tuple #[]) ∧ ∃ d' n os, PermIn 0 d.toArray.size d.toArray d' ∧ SortedIn lt 0 d.toArray.size d' ∧ w' = sortWorldK enc sz w blk 0 n d' os)
    (hN : d = [] → ∀ w, Calls P f #[.slice none 0 0, .func (.func g) #[] #[]] w fun e w' => e = .returned (.tuple #[]) ∧ ∃ n os, w' = Go.Sort.grow (Go.Sort.ahead w n) os)
    (hd : Nat.blt dd N = true)
    (kk : ∀ d' : List α, d'.Perm d → d'.Pairwise (fun a b => lt b a = false) → awpL P G N ops rest Q ((dd, .tup []) :: S) (L.set k (.own v E sz (d'.map fun x => (enc x).map .v)))) :
    awpL P G N ops (⟨some dd, .call { callee := .value (.func f), args := us, argTypes := ats }, ty, pos, af, none⟩ :: rest) Q S L := by
  intro cx a hc
  have hr := ZV hc hargs
  have hb := hc.st.blk k _ hk
  simp only [BR, List.length_map] at hb
  obtain ⟨b0, b1, b2, hb⟩ := hb
  simp only [TR, R] at hr
  obtain ⟨y, s, hs, ⟨o1, o2, o3, o4⟩, y2, s2, rfl, ⟨c1, c2, rfl, t1, t2⟩, rfl⟩ := hr
  have o4 := o4 b0
  have hz1 : c1 = #[] := by have := t1; simpa using this
  have hz2 : c2 = #[] := by have := t2; simpa using this
  subst hz1 hz2
  have hvs : us.map a.eval = #[y, .func (.func g) #[] #[]] := by
    have : (us.map a.eval).toList = [y, .func (.func g) #[] #[]] := by simpa using hs
    rw [← Array.toArray_toList (xs := us.map a.eval), this]
  have htup : ∀ c : Cx, R c (.tup []) (.tuple #[]) := fun c => by simp only [R]; exact ⟨#[], rfl, by simp [TR]⟩
  refine wpListIn_plain rfl fun K hK => zy rfl ?_
  rw [qa hC (o := ⟨some dd, .call { callee := .value (.func f), args := us, argTypes := ats }, ty, pos, af, none⟩) rfl a cx.w, Oper.uponIn_enter, hvs]
  rcases hb with ⟨e1, e2⟩ | ⟨b, arr, e1, e2, e3, e4⟩
  · have hd0 : d = [] := by simpa using e2
    have hy : y = .slice none 0 0 := by
      rcases o4 with ⟨_, h, _⟩ | ⟨b, _, _, _, h, _⟩
      · exact h
      · rw [e1] at h; cases h
    subst hy
    refine ⟨fun h => by simp at h, CallsIn.mono (callsIn_wide.2 (hN hd0 cx.w)) ?_⟩
    rintro e w' ⟨rfl, n, os, rfl⟩
    have hst := hc.st.afterS (F := cx.F) (F' := cx.F) (ext_grow cx.F cx.w hc.st.inF n os)
    have := kk [] (by rw [hd0]) List.Pairwise.nil
    subst hd0
    rw [set_same hk] at this
    exact hK _ _ (zq (fun e a w q => q.trans hst.ext) _ _ _ (this _ _ ((hst.cn hc).put hd (htup _))))
  · obtain ⟨cap, hy⟩ : ∃ cap, y = .slice (some ⟨b, 0, none⟩) d.length cap := by
      rcases o4 with ⟨_, _, h⟩ | ⟨b', cap, _, _, h, h2, _⟩
      · rw [e1] at h; cases h
      · rw [e1] at h; cases h
        exact ⟨cap, by rw [h2, b2]⟩
    subst hy
    have hblk : b < cx.w.heap.size := (hc.st.loc k b e1).2.2
    have hH : HoldsK enc sz cx.w b 0 d.toArray := by
      intro j hj
      rw [size_flatK] at hj
      have hszp : 0 < sz := by rcases Nat.eq_zero_or_pos sz with h | h; · subst h; simp at hj
                               · exact h
      have hjd : j / sz < d.length := by
        rw [Nat.div_lt_iff_lt_mul hszp]; simpa using hj
      obtain ⟨x, hx⟩ : ∃ x, d[j / sz]? = some x := ⟨_, List.getElem?_eq_getElem hjd⟩
      have hcm : j % sz < (enc x).length := by rw [hlen]; exact Nat.mod_lt _ hszp
      obtain ⟨z, hz⟩ : ∃ z, (enc x)[j % sz]? = some z := ⟨_, List.getElem?_eq_getElem hcm⟩
      have hfl := flat_get hlen d.toArray (i := j / sz) (c := j % sz) (by simpa using hx) hz
      rw [Nat.div_add_mod' j sz] at hfl
      obtain ⟨_, hm⟩ := e4.get (i := j / sz) (e := (enc x).map .v) (by rw [List.getElem?_map, hx]; rfl)
      obtain ⟨u, u1, u2, _⟩ := hm.get (i := j % sz) (x := .v z) (by rw [List.getElem?_map, hz]; rfl)
      simp only [RF] at u2
      subst u2
      refine ⟨?_, by simp [World.frozen?, e2]⟩
      rw [hfl.2, show (id u : Value) = u from rfl, ← u1, show 0 + j / sz * sz + j % sz = 0 + j by have := Nat.div_add_mod' j sz; omega]
    refine ⟨fun h => by simp at h, CallsIn.mono (callsIn_wide.2 (hS b cap cx.w hH hblk)) ?_⟩
    rintro e w' ⟨rfl, d', n, os, hp, hs', rfl⟩
    obtain ⟨p1, _, p3⟩ := hp
    have hsz' : d'.size = d.length := by simpa using p1
    have hperm : d'.toList.Perm d := by
      have h2 : d'.extract 0 d.toArray.size = d' := by rw [show d.toArray.size = d'.size by simp [hsz'], Array.extract_size]
      rw [h2, Array.extract_size] at p3
      simpa using p3
    have hsrt : d'.toList.Pairwise (fun a b => lt b a = false) := by
      rw [List.pairwise_iff_getElem]
      intro i j hi hj hij
      have := hs' i j (Nat.zero_le _) hij (by simp at hj ⊢; omega)
      rw [getElem!_pos d' j (by simpa using hj), getElem!_pos d' i (by simpa using hi)] at this
      simpa using this
    have hst1 := hc.st.afterS (F := cx.F) (F' := cx.F) (ext_grow cx.F cx.w hc.st.inF n os)
    have hw' : sortWorldK enc sz cx.w b 0 n d' os = putRowK enc sz (Go.Sort.grow (Go.Sort.ahead cx.w n) os) b 0 d' := by
      rw [putRowK_grow _ _ _ _ _ _ _ (by exact hblk)]; rfl
    rw [hw']
    generalize hw1 : Go.Sort.grow (Go.Sort.ahead cx.w n) os = w1 at *
    have hh1 : w1.heap[b]? = some (.cells arr E (0, 0)) := by rw [← hw1, ← e2]; simp [Go.Sort.grow, Go.Sort.ahead, Array.getElem?_append_left hblk]
    have hblk1 : b < w1.heap.size := (Array.getElem?_eq_some_iff.1 hh1).1
    have hheap : ∀ b', (putRowK enc sz w1 b 0 d').heap[b']? = if b = b' then some (.cells (Go.Sort.putCells id 0 (flatK enc sz d') arr) E (0, 0)) else w1.heap[b']? := by
      intro b'
      simp only [putRowK, Go.Sort.putRow, Go.Sort.mapBlock, Array.getElem?_modify]
      by_cases e : b = b'
      · subst e; simp [hh1, Go.Sort.onCells]
      · simp [e]
    have hst2 := hst1.st.wr (k := k) (b := b) (w' := putRowK enc sz w1 b 0 d') e1 rfl rfl rfl (by simp [putRowK, Go.Sort.putRow, Go.Sort.mapBlock]) (fun b' h => by rw [hheap, if_neg (Ne.symm h)])
      (fun arr' T' h => by
        have h : w1.heap[b]? = some (.cells arr' T' (0, 0)) := h
        rw [hh1] at h; cases h
        exact ⟨_, by rw [hheap, if_pos rfl], by simp [Go.Sort.putCells]⟩) (by rw [hk]; simp) (x := .own v E sz (d'.toList.map fun x => (enc x).map .v))
      (fun _ => by
        simp only [BR, List.length_map]
        refine ⟨b0, b1, by simp [b2, hsz'], .inr ⟨b, _, e1, by rw [hheap, if_pos rfl], by simp [Go.Sort.putCells, hsz']; simpa using e3, ?_⟩⟩
        refine EF.mk fun i e he => ?_
        rw [List.getElem?_map] at he
        cases hx : d'.toList[i]? with
        | none => rw [hx] at he; cases he
        | some x =>
          rw [hx] at he
          have he : (enc x).map .v = e := by simpa using he
          subst he
          refine ⟨by simp [hlen], MF.mk fun c y hy => ?_⟩
          rw [List.getElem?_map] at hy
          cases hz : (enc x)[c]? with
          | none => rw [hz] at hy; cases hy
          | some z =>
            rw [hz] at hy
            have hy : AV.v z = y := by simpa using hy
            subst hy
            obtain ⟨q1, q2⟩ := flat_get hlen d' hx hz
            refine ⟨z, ?_, by simp only [RF], h1 x z (List.mem_of_getElem? hz)⟩
            have hlt : i * sz + c < arr.size := by
              have : d'.size * sz ≤ arr.size := by rw [hsz']; simpa using e3
              omega
            simp only [World.cell?, hheap, if_pos, Option.isSome_none, Bool.false_eq_true, if_false]
            rw [show 0 + i * sz + c = i * sz + c by omega]
            simp only [Go.Sort.putCells, Array.getElem?_mapIdx, Array.getElem?_eq_getElem hlt, Option.map_some, Nat.zero_le, Nat.zero_add, size_flatK, true_and, if_pos q1, Nat.sub_zero, id, q2])
    exact hK _ _ (zq (fun e a w q => q.trans (hst1.ext.trans hst2.ext)) _ _ _ (kk d'.toList hperm hsrt _ _ ((hst2.cn (hst1.cn hc)).put hd (htup _))))
end
end
end Go.Ac
namespace Go.Proofs.YtcfkokllinkigaaGreatDoor
section
open Go.Shelf Go.Lib Go.Sort
def JG : Go.Shelf.Ren := ⟨fun | 6 => 102 | 15 => 128 | 14 => 127 | 28 => 153 | 29 => 154 | 20 => 145 | 21 => 146 | 22 => 147 | 23 => 148 | 24 => 149 | 25 => 150 | 26 => 151 | 27 => 152 | 46 => 160 | 47 => 161 | 48 => 162 | 49 => 163 | 50 => 164 | 57 => 168 | n => n, fun | 22 => 92 | 24 => 130 | 25 => 178 | 3 => 3 | 39 => 199 | 0 => 0 | 53 => 228 | 55 => 230 | 4 => 4 | 46 => 222 | 45 => 221 | 50 => 171 | 5 => 5 | 9 => 9 | 66 => 234 | 70 => 215 | 76 => 242 | 77 => 200 | n => n, fun n => n⟩
theorem sortVals : Go.Proofs.SlLaysF0.n6 Tryz.prog JG := {
  mixed := by kernel_rfl
  f6 := ⟨ "slices.SortFunc[[]langdoc/api.Value,langdoc/api.Value]", by kernel_rfl, Tryz.func102.trans (congrArg some (by kernel_rfl))⟩
  f14 := ⟨ "slices.pdqsortCmpFunc[langdoc/api.Value]", by kernel_rfl, Tryz.func127.trans (congrArg some (by kernel_rfl))⟩
  f15 := Tryz.func128.trans (congrArg some (by kernel_rfl))
  f20 := ⟨ "slices.insertionSortCmpFunc[langdoc/api.Value]", by kernel_rfl, Tryz.func145.trans (congrArg some (by kernel_rfl))⟩
  f21 := ⟨ "slices.heapSortCmpFunc[langdoc/api.Value]", by kernel_rfl, Tryz.func146.trans (congrArg some (by kernel_rfl))⟩
  f22 := ⟨ "slices.breakPatternsCmpFunc[langdoc/api.Value]", by kernel_rfl, Tryz.func147.trans (congrArg some (by kernel_rfl))⟩
  f23 := ⟨ "slices.choosePivotCmpFunc[langdoc/api.Value]", by kernel_rfl, Tryz.func148.trans (congrArg some (by kernel_rfl))⟩
  f24 := ⟨ "slices.reverseRangeCmpFunc[langdoc/api.Value]", by kernel_rfl, Tryz.func149.trans (congrArg some (by kernel_rfl))⟩
  f25 := ⟨ "slices.partialInsertionSortCmpFunc[langdoc/api.Value]", by kernel_rfl, Tryz.func150.trans (congrArg some (by kernel_rfl))⟩
  f26 := ⟨ "slices.partitionEqualCmpFunc[langdoc/api.Value]", by kernel_rfl, Tryz.func151.trans (congrArg some (by kernel_rfl))⟩
  f27 := ⟨ "slices.partitionCmpFunc[langdoc/api.Value]", by kernel_rfl, Tryz.func152.trans (congrArg some (by kernel_rfl))⟩
  f28 := Tryz.func153.trans (congrArg some (by kernel_rfl))
  f29 := Tryz.func154.trans (congrArg some (by kernel_rfl))
  f46 := ⟨ "slices.siftDownCmpFunc[langdoc/api.Value]", by kernel_rfl, Tryz.func160.trans (congrArg some (by kernel_rfl))⟩
  f47 := Tryz.func161.trans (congrArg some (by kernel_rfl))
  f48 := Tryz.func162.trans (congrArg some (by kernel_rfl))
  f49 := ⟨ "slices.medianAdjacentCmpFunc[langdoc/api.Value]", by kernel_rfl, Tryz.func163.trans (congrArg some (by kernel_rfl))⟩
  f50 := ⟨ "slices.medianCmpFunc[langdoc/api.Value]", by kernel_rfl, Tryz.func164.trans (congrArg some (by kernel_rfl))⟩
  f57 := ⟨ "slices.order2CmpFunc[langdoc/api.Value]", by kernel_rfl, Tryz.func168.trans (congrArg some (by kernel_rfl))⟩
  t0 := Tryz.underlying0
  a0 := Tryz.isAgg0
  z0 := Tryz.sizeOf0
  v0 := Tryz.zeroValue0
  t3 := Tryz.underlying3
  a3 := Tryz.isAgg3
  z3 := Tryz.sizeOf3
  v3 := Tryz.zeroValue3
  t4 := Tryz.underlying4
  a4 := Tryz.isAgg4
  z4 := Tryz.sizeOf4
  v4 := Tryz.zeroValue4
  t5 := Tryz.underlying5
  a5 := Tryz.isAgg5
  z5 := Tryz.sizeOf5
  v5 := Tryz.zeroValue5
  t9 := Tryz.underlying9
  a9 := Tryz.isAgg9
  z9 := Tryz.sizeOf9
  v9 := Tryz.zeroValue9
  t22 := Tryz.underlying92
  a22 := Tryz.isAgg92
  z22 := Tryz.sizeOf92
  v22 := Tryz.zeroValue92
  t25 := Tryz.underlying178
  a25 := Tryz.isAgg178
  z25 := Tryz.sizeOf178
  v25 := Tryz.zeroValue178
  t39 := Tryz.underlying199
  a39 := Tryz.isAgg199
  z39 := Tryz.sizeOf199
  v39 := Tryz.zeroValue199
  t45 := Tryz.underlying221
  a45 := Tryz.isAgg221
  z45 := Tryz.sizeOf221
  v45 := Tryz.zeroValue221
  t46 := Tryz.underlying222
  a46 := Tryz.isAgg222
  z46 := Tryz.sizeOf222
  v46 := Tryz.zeroValue222
  t50 := Tryz.underlying171
  a50 := Tryz.isAgg171
  z50 := Tryz.sizeOf171
  v50 := Tryz.zeroValue171
  t53 := Tryz.underlying228
  a53 := Tryz.isAgg228
  z53 := Tryz.sizeOf228
  v53 := Tryz.zeroValue228
  t55 := Tryz.underlying230
  a55 := Tryz.isAgg230
  z55 := Tryz.sizeOf230
  v55 := Tryz.zeroValue230
  t66 := Tryz.underlying234
  a66 := Tryz.isAgg234
  z66 := Tryz.sizeOf234
  v66 := Tryz.zeroValue234
  t70 := Tryz.underlying215
  a70 := Tryz.isAgg215
  z70 := Tryz.sizeOf215
  v70 := Tryz.zeroValue215
  t76 := Tryz.underlying242
  a76 := Tryz.isAgg242
  z76 := Tryz.sizeOf242
  v76 := Tryz.zeroValue242
  t77 := Tryz.underlying200
  a77 := Tryz.isAgg200
  z77 := Tryz.sizeOf200
  v77 := Tryz.zeroValue200 }
def encVal (v : Val) : List Value := [.int .i64 v.at_.count, .int .i64 v.at_.dev, .int .i64 v.n, .string v.text]
def cmpVal (a b : Val) : Int := if less a.at_ b.at_ = true then -1 else 1
theorem ltVal (a b : Val) : ltOf cmpVal a b = less a.at_ b.at_ := by
 unfold ltOf cmpVal
 cases less a.at_ b.at_ <;> simp
theorem swoVal : SWO (ltOf cmpVal) where
 irrefl x := by rw [ltVal]; exact qW _
 trans x y z h1 h2 := by rw [ltVal] at *; exact QR h1 h2
 ntrans x y z h1 h2 := by
  rw [ltVal] at *
  rcases ZO.1 h1 with h | h
  ·exact zW (WD (ZO.2 (ZO.1 h2)) h)
  ·rw [← h] at *; exact h2
theorem laysVal (blk off size : Nat) (w : World) : CmpLays Tryz.prog 103 #[] encVal 4 cmpVal blk off size w :=
 fun _ _ _ _ x y => zVal x.at_.count x.at_.dev x.n x.text y.at_.count y.at_.dev y.n y.text _
theorem W8 (d : List Val) (blk cap : Nat) (w : World) (hsz : d.length ≤ 1000000) (hH : HoldsK encVal 4 w blk 0 d.toArray) (hb : blk < w.heap.size) :
  Calls Tryz.prog 102 #[.slice (some ⟨blk, 0, none⟩) d.toArray.size cap, .func (.func 103) #[] #[]] w fun e w' => e = .returned (.tuple #[]) ∧ ∃ d' n os, PermIn 0 d.toArray.size d.toArray d' ∧ SortedIn (ltOf cmpVal) 0 d.toArray.size d' ∧ w' = sortWorldK encVal 4 w blk 0 n d' os :=
 AnyQ.slices_SortFunc sortVals 4 Tryz.isAgg130 Tryz.sizeOf130 encVal (fun _ => rfl) (fun x v hv => by simp [encVal] at hv; rcases hv with rfl | rfl | rfl | rfl <;> rfl) cmpVal swoVal 103 #[] blk 0 cap d.toArray w
  (enters_of Tryz.func103 (by kernel_rfl) rfl) (laysVal blk 0 d.toArray.size w) hH hb (by simp; omega)
theorem sortVals_none (w : World) : Calls Tryz.prog 102 #[.slice none 0 0, .func (.func 103) #[] #[]] w fun e w' => e = .returned (.tuple #[]) ∧ ∃ n os, w' = Go.Sort.grow (Go.Sort.ahead w n) os :=
 (AnyF.slices_SortFunc_none (P := Tryz.prog) (ρ := JG) sortVals none 0 (.func (.func 103) #[] #[]) w).mono fun _ _ ⟨h1, h2⟩ => ⟨h1, 0, #[], by rw [h2]; simp [Go.Sort.grow]⟩
end
end Go.Proofs.YtcfkokllinkigaaGreatDoor
