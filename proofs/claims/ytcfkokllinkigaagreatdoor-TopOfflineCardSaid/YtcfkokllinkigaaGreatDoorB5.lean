/- A logic of trees over the model's steps, and the contracts of the functions that the laws reach: part 5 of 29. -/
import Derived.Test.YtcfkokllinkigaaGreatDoorB4
import Derived.Lib.ValidLaws
set_option linter.unusedVariables false
set_option linter.unusedSimpArgs false
set_option linter.unusedSectionVars false
set_option linter.unnecessarySimpa false
namespace Go.Proofs.YtcfkokllinkigaaGreatDoor
section
open Go.Ac
attribute [local irreducible] awp awpL Ev Ev2 EvS thenQ blockQ retQ PCalls OCalls
variable {g : List (Nat × List AV)}
def FitR (r : Replica) : Prop := Fit r.ops ∧ r.seen.length ≤ 100000
end
section
open Go.Ac
attribute [local irreducible] awp awpL Ev Ev2 EvS thenQ blockQ retQ PCalls OCalls
variable {g : List (Nat × List AV)}
theorem Yh {α : Type} (f : α → Bool) (l : List α) (k : Nat) (x : α) (h : l[k]? = some x) : (l.drop k).all f = (f x && (l.drop (k + 1)).all f) := by
 obtain ⟨hlt, rfl⟩ := List.getElem?_eq_some_iff.1 h
 rw [List.drop_eq_getElem_cons hlt]; rfl
end
section
open Go.Ac
attribute [local irreducible] awp awpL Ev Ev2 EvS thenQ blockQ retQ PCalls OCalls
variable {g : List (Nat × List AV)}
def missStep (seen : List Int) (most : Int) (out : List Op) (o : Op) : List Op := if (out.length : Int) < most ∧ covers seen o.at_ = false then out ++ [o] else out
def missing (l : List Op) (seen : List Int) (most : Int) : List Op := l.foldl (missStep seen most) []
theorem yI (seen : List Int) (most : Int) : ∀ (l out : List Op), (l.foldl (missStep seen most) out).length ≤ out.length + l.length
 | [], out => by simp
 | o :: r, out => by
  have := yI seen most r (missStep seen most out o)
  simp only [List.foldl_cons, List.length_cons]
  have h2 : (missStep seen most out o).length ≤ out.length + 1 := by unfold missStep; split <;> simp
  omega
theorem wz (seen : List Int) (most : Int) : ∀ (l out : List Op), most ≤ out.length → l.foldl (missStep seen most) out = out
 | [], out, _ => rfl
 | o :: r, out, h => by
  have : missStep seen most out o = out := by unfold missStep; rw [if_neg (by omega)]
  rw [List.foldl_cons, this, wz seen most r out h]
abbrev missK (l : List Op) (seen : List Int) (most : Int) (k : Nat) : List Op := (l.take k).foldl (missStep seen most) []
theorem missK_succ {l : List Op} (seen : List Int) (most : Int) {k : Nat} {x : Op} (h : l[k]? = some x) : missK l seen most (k + 1) = missStep seen most (missK l seen most k) x := by
 unfold missK
 rw [List.take_add_one, h, List.foldl_append]; rfl
theorem missK_end {l : List Op} (seen : List Int) (most : Int) {k : Nat} (h : l.length ≤ k) : missK l seen most k = missing l seen most := by
 unfold missK missing; rw [List.take_of_length_le h]
theorem missK_stop {l : List Op} (seen : List Int) (most : Int) {k : Nat} (h : most ≤ (missK l seen most k).length) : missing l seen most = missK l seen most k := by
 unfold missing
 conv => lhs; rw [← List.take_append_drop k l]
 rw [List.foldl_append]
 exact wz seen most _ _ h
theorem missK_len (l : List Op) (seen : List Int) (most : Int) (k : Nat) : (missK l seen most k).length ≤ l.length := by
 have h1 := yI seen most (l.take k) []
 have h2 : (l.take k).length ≤ l.length := by rw [List.length_take]; omega
 simp only [List.length_nil] at h1
 exact Nat.le_trans h1 (by omega)
set_option maxHeartbeats 1000000 in
theorem Missing_spec (r : Replica) (seen : List Int) (most : Int) (hr : FitR r) (hs : seen.length ≤ 1000000) : OCalls Tryz.prog g 36 [.agg (repC r), encIs seen, vi most] 80 15 ((missing r.ops seen most).map opC) := by
 refine ocalls' Tryz.func36 Tryz.ntmps36 rfl rfl rfl ?_
 have hl1 := hr.1.1
 repeat' (first
  | refine stn [] ?_
  | ((with_reducible refine zl ?_); refine ze rfl (fun h => ?_) (fun h => ?_))
  | fail)
 refine ZC (t := 7) (E := 80) (sz := 15) rfl rfl rfl ?_
 refine zi (α := Nat) 1 (fun k => [(7, .os 0 0), (11, encOps r.ops), (12, vi r.ops.length), (13, vi k), (1, encIs seen), (2, vi most)]) (fun k => [.own 0 80 15 ((missK r.ops seen most k).map opC)]) (fun k => k ≤ r.ops.length) (fun k => r.ops.length - k) 0
  qw (Nat.zero_le _) ?_
 rintro k hk
 have hlen := missK_len r.ops seen most k
 cases ht : r.ops[k]? with
 | none =>
  have hge : r.ops.length ≤ k := by simpa using ht
  have c1 : decide ((k : Int) < r.ops.length) = false := by simp; omega
  refine runn [] ?_
  exact retO rfl (by rw [← missK_end seen most hge]; rfl)
 | some x =>
  have hlt : k < r.ops.length := (List.getElem?_eq_some_iff.1 ht).1
  have c1 : decide ((k : Int) < r.ops.length) = true := by simp; omega
  have h1 := Za ht
  have h2 := Covers_spec (g := g) seen x.at_ hs
  have hS := missK_succ seen most ht
  by_cases hm : most ≤ ((missK r.ops seen most k).map opC).length
  ·have c2 : decide (most ≤ ((missK r.ops seen most k).map opC).length) = true := by simpa using hm
   refine runn [] ?_
   exact retO rfl (by rw [missK_stop seen most (by simpa using hm)]; rfl)
  ·have c2 : decide (most ≤ ((missK r.ops seen most k).map opC).length) = false := by simpa using hm
   have hm' : ((missK r.ops seen most k).length : Int) < most := by simpa using hm
   cases hc : covers seen x.at_ with
   | true =>
    rw [hc] at h2
    have n1 : (!true) = false := rfl
    have hS' : missK r.ops seen most (k + 1) = missK r.ops seen most k := by rw [hS, missStep, if_neg (by rw [hc]; simp)]
    refine runn [] ?_
    exact ⟨k + 1, ⟨(.cons rfl rfl (.cons rfl rfl (.cons rfl rfl (.cons rfl rfl (.cons rfl rfl (.cons rfl rfl .nil)))))), by rw [hS']; rfl, rfl, rfl⟩, by omega, by omega⟩
   | false =>
    rw [hc] at h2
    have n1 : (!false) = true := rfl
    have hS' : missK r.ops seen most (k + 1) = missK r.ops seen most k ++ [x] := by rw [hS, missStep, if_pos ⟨hm', hc⟩]
    have hj : (missK r.ops seen most k).map opC ++ [opC x] = (missK r.ops seen most (k + 1)).map opC := by rw [hS', List.map_append]; rfl
    repeat' (first
     | ((with_reducible refine zg ?_); refine zk (zZ (es' := (missK r.ops seen most (k + 1)).map opC) (L' := [.own 1 80 15 ((missK r.ops seen most (k + 1)).map opC), .dead]) rfl rfl rfl rfl rfl rfl rfl rfl rfl rfl rfl rfl rfl qe0 hj rfl) rfl ?_)
     | refine stn [] ?_
     | fail)
    exact ⟨k + 1, qw, by omega, by omega⟩
end
section
open Go.Ac
attribute [local irreducible] awp awpL Ev Ev2 EvS thenQ blockQ retQ PCalls OCalls
variable {g : List (Nat × List AV)}
end
section
open Go.Ac
attribute [local irreducible] awp awpL Ev Ev2 EvS thenQ blockQ retQ PCalls OCalls
variable {g : List (Nat × List AV)}
def behind (a b : List Op) : Nat := b.countP fun o => !has a o
end
section
open Go.Ac
theorem jY (b : Bool) (n : Nat) (a : Int) (w : World) : (Instr.checkKey b (n + 1) 3 (.int .i64 a)).run Tryz.prog w = .ok () w := by
 unfold Instr.checkKey
 simp [run_underlying Tryz.underlying3, Result.andThen]
theorem stamp_chk (b : Bool) (a c : Int) (w : World) : (Instr.checkKey b 10000 77 (.agg #[.int .i64 a, .int .i64 c])).run Tryz.prog w = .ok () w := by
 have h1 := jY b 9998 a w
 have h2 := jY b 9998 c w
 have a3 := Tryz.isAgg3
 have z3 := Tryz.sizeOf3
 rw [show (10000 : Nat) = 9999 + 1 from rfl]
 unfold Instr.checkKey
 simp only [Sem.run_bind, run_underlying Tryz.underlying77, Result.andThen_ok]
 have p0 : (part 3 #[Value.int IntKind.i64 a, Value.int IntKind.i64 c] 0).run Tryz.prog w = .ok (.int .i64 a) w := by simp [part, a3, Result.andThen]
 have p1 : (part 3 #[Value.int IntKind.i64 a, Value.int IntKind.i64 c] 1).run Tryz.prog w = .ok (.int .i64 c) w := by simp [part, a3, Result.andThen]
 simp [p0, p1, h1, h2, Result.andThen]
def isStampV (v : Value) : Prop := ∃ a b, v = .agg #[.int .i64 a, .int .i64 b]
def stampV (s : Stamp) : Value := .agg #[.int .i64 s.count, .int .i64 s.dev]
theorem stampKey : KeyOk Tryz.prog 77 isStampV := by
 refine KeyOk.asks Tryz.underlying77 (fun a b _ _ => by rfl) (fun x y w hx hy => ?_) (fun b k w hk => ?_) (fun k hk => ?_)
 ·obtain ⟨a, b, rfl⟩ := hx
  obtain ⟨c, d, rfl⟩ := hy
  refine ⟨_, zF [.int .i64 a, .int .i64 b] [.int .i64 c, .int .i64 d] _ w rfl, ?_⟩
  simp
 ·obtain ⟨a, c, rfl⟩ := hk
  exact stamp_chk b a c w
 ·obtain ⟨a, c, rfl⟩ := hk
  simp [Instr.sameBits]
theorem Zl (a b : Stamp) (h : stampV a = stampV b) : a = b := by
 simp [stampV] at h
 exact qM h
theorem qt (s : Stamp) : ∀ c y, R c (.agg (stampC s)) y → y = stampV s := by
 intro c y h
 simp only [R, RF, stampC, LF] at h
 obtain ⟨xs, rfl, y1, s1, e1, rfl, _, y2, s2, e2, rfl, _, e3⟩ := h
 subst e3 e2
 unfold stampV
 congr 1
 apply Array.ext'
 simpa using e1
theorem Zm (s : Stamp) : isStampV (stampV s) := ⟨_, _, rfl⟩
end
end Go.Proofs.YtcfkokllinkigaaGreatDoor
section
namespace Go.Proofs.YtcfkokllinkigaaGreatDoor
open Go.Ac
attribute [local irreducible] awp awpL Ev Ev2 EvS thenQ blockQ retQ PCalls OCalls
variable {g : List (Nat × List AV)}
abbrev ownM (l : List Op) (k : Nat) : List (Stamp × Op) := (l.take k).foldl (fun m o => aput m o.at_ o) []
theorem ownM_succ {l : List Op} {k : Nat} {x : Op} (h : l[k]? = some x) : ownM l (k + 1) = aput (ownM l k) x.at_ x := by
 unfold ownM
 rw [List.take_add_one, h, List.foldl_append]; rfl
theorem ownM_nd (l : List Op) (k : Nat) : ANd (ownM l k) := by
 unfold ownM
 have : ∀ (l : List Op) (m : List (Stamp × Op)), ANd m → ANd (l.foldl (fun m o => aput m o.at_ o) m) := by
  intro l
  induction l with
  | nil => intro m h; exact h
  | cons o r ih => intro m h; exact ih _ (h.put _ _)
 exact this _ _ (by simp [ANd])
def mks (m : List (Stamp × Op)) : List Value := m.map fun p => stampV p.1
def mxs (m : List (Stamp × Op)) : List AV := m.map fun p => .agg (opC p.2)
theorem mks_ok (m : List (Stamp × Op)) : ∀ k ∈ mks m, isStampV k := by
 intro k hk
 obtain ⟨p, _, rfl⟩ := List.mem_map.1 hk
 exact Zm _
theorem mks_nd {m : List (Stamp × Op)} (h : ANd m) : (mks m).Nodup := h.kv Zl
def unlike (m : List (Stamp × Op)) (o : Op) : Bool := match aget m o.at_ with
 | none => true
 | some y => !decide (y = o)
def behindM (a b : List Op) : Nat := b.countP (unlike (ownM a a.length))
abbrev bmK (m : List (Stamp × Op)) (b : List Op) (k : Nat) : Nat := (b.take k).countP (unlike m)
theorem bmK_succ {m : List (Stamp × Op)} {b : List Op} {k : Nat} {x : Op} (h : b[k]? = some x) : bmK m b (k + 1) = bmK m b k + (if unlike m x then 1 else 0) := by
 unfold bmK
 rw [List.take_add_one, h, List.countP_append]
 cases hq : unlike m x <;> simp [hq]
theorem bmK_le (m : List (Stamp × Op)) (b : List Op) (k : Nat) : bmK m b k ≤ b.length := Nat.le_trans List.countP_le_length (by rw [List.length_take]; omega)
theorem ownM_mem (l : List Op) : ∀ (k : Nat) (s : Stamp) (y : Op), aget (ownM l k) s = some y → y ∈ l := by
 intro k
 induction k with
 | zero => intro s y h; simp [ownM, aget] at h
 | succ k ih =>
  intro s y h
  cases ht : l[k]? with
  | none =>
   have : ownM l (k + 1) = ownM l k := by unfold ownM; rw [List.take_add_one, ht]; simp
   rw [this] at h; exact ih s y h
  | some x =>
   rw [ownM_succ ht, QD] at h
   split at h
   ·injection h with h; subst h; exact List.mem_of_getElem? ht
   ·exact ih s y h
set_option maxRecDepth 4000 in
set_option maxHeartbeats 2000000 in
theorem Behind_spec (a b : Replica) (ha : FitR a) (hb : FitR b) : PCalls Tryz.prog g 37 [.agg (repC a), .agg (repC b)] (vi (behindM a.ops b.ops)) := by
 have ha1 := ha.1.1
 have hb1 := hb.1.1
 refine pcalls' Tryz.func37 Tryz.ntmps37 rfl rfl rfl ?_
 repeat' (first
  | ((with_reducible refine zg ?_); refine zk (jx qf0 qc0) rfl ?_)
  | refine stn [] ?_
  | ((with_reducible refine zl ?_); refine ze rfl (fun h => ?_) (fun h => ?_))
  | fail)
 refine zi (α := Nat) 1 (fun k => [(3, .fp (repC b)), (5, .mp 0), (15, encOps a.ops), (16, vi a.ops.length), (17, vi k)]) (fun k => [.map (mks (ownM a.ops k)) (mxs (ownM a.ops k))]) (fun k => k ≤ a.ops.length) (fun k => a.ops.length - k) 0
  qw (Nat.zero_le _) ?_
 rintro k hk
 cases ht : a.ops[k]? with
 | some x =>
  have hlt : k < a.ops.length := (List.getElem?_eq_some_iff.1 ht).1
  have c1 : decide ((k : Int) < a.ops.length) = true := by simp; omega
  have h1 := Za ht
  have hput : MPut (mks (ownM a.ops k)) (mxs (ownM a.ops k)) (stampV x.at_) (.agg (opC x)) (mks (ownM a.ops (k + 1))) (mxs (ownM a.ops (k + 1))) := by
   rw [ownM_succ ht]; exact Qv (kv := stampV) (va := fun o => AV.agg (opC o)) Zl (ownM a.ops k) x.at_ x
  repeat' (first
   | ((with_reducible refine zg ?_); refine Zk (qP (L' := [.map (mks (ownM a.ops (k + 1))) (mxs (ownM a.ops (k + 1))), .dead]) stampKey rfl rfl rfl (qt x.at_) rfl rfl rfl rfl (mks_ok _) (Zm _) hput (mks_nd (ownM_nd _ _)) rfl) ?_)
   | refine stn [] ?_
   | fail)
  exact ⟨k + 1, qw, by omega, by omega⟩
 | none =>
  have hge : a.ops.length ≤ k := by simpa using ht
  have c1 : decide ((k : Int) < a.ops.length) = false := by simp; omega
  have hke : k = a.ops.length := by omega
  subst hke
  repeat' (first
   | refine stn [] ?_
   | ((with_reducible refine zl ?_); refine ze rfl (fun h => ?_) (fun h => ?_))
   | fail)
  have hnd := ownM_nd a.ops a.ops.length
  have hmem := ownM_mem a.ops a.ops.length
  rw [behindM]
  generalize ownM a.ops a.ops.length = M at hnd hmem ⊢
  have z52 : zeroOf Tryz.prog 80 = some (.agg #[.int .i64 0, .int .i64 0, .int .i64 0, .int .i64 0, .int .i64 0, .int .i64 0, .int .i64 0, .int .i64 0, .int .i64 0, .int .i64 0, .string .empty, .int .i64 0, .int .i64 0, .string .empty, .slice none 0 0]) := by kernel_rfl
  refine zi (α := Nat) 1 (fun k => [(5, .mp 0), (8, vi (bmK M b.ops k)), (27, encOps b.ops), (28, vi b.ops.length), (29, vi k)]) (fun k => [.map (mks M) (mxs M)]) (fun k => k ≤ b.ops.length) (fun k => b.ops.length - k) 0
   qw (Nat.zero_le _) ?_
  rintro k hk
  have hle := bmK_le M b.ops k
  cases ht : b.ops[k]? with
  | none =>
   have hge : b.ops.length ≤ k := by simpa using ht
   have c1 : decide ((k : Int) < b.ops.length) = false := by simp; omega
   refine runn [] ?_
   refine retP rfl ?_
   rw [show bmK M b.ops k = b.ops.countP (unlike M) by unfold bmK; rw [List.take_of_length_le hge]]
   rfl
  | some x =>
   have hlt : k < b.ops.length := (List.getElem?_eq_some_iff.1 ht).1
   have c1 : decide ((k : Int) < b.ops.length) = true := by simp; omega
   have h1 := Za ht
   have hS := bmK_succ (m := M) ht
   cases hg : aget M x.at_ with
   | none =>
    have hl : MLook (mks M) (mxs M) (stampV x.at_) (avOf (.agg #[.int .i64 0, .int .i64 0, .int .i64 0, .int .i64 0, .int .i64 0, .int .i64 0, .int .i64 0, .int .i64 0, .int .i64 0, .int .i64 0, .string .empty, .int .i64 0, .int .i64 0, .string .empty, .slice none 0 0])) (avOf (.agg #[.int .i64 0, .int .i64 0, .int .i64 0, .int .i64 0, .int .i64 0, .int .i64 0, .int .i64 0, .int .i64 0, .int .i64 0, .int .i64 0, .string .empty, .int .i64 0, .int .i64 0, .string .empty, .slice none 0 0])) false := by
     have := qN (kv := stampV) (va := fun o : Op => AV.agg (opC o)) Zl M x.at_ (avOf (.agg #[.int .i64 0, .int .i64 0, .int .i64 0, .int .i64 0, .int .i64 0, .int .i64 0, .int .i64 0, .int .i64 0, .int .i64 0, .int .i64 0, .string .empty, .int .i64 0, .int .i64 0, .string .empty, .slice none 0 0]))
     rw [hg] at this; exact this
    have hu : unlike M x = true := by rw [unlike, hg]
    rw [if_pos hu] at hS
    have n1 : (!false) = true := rfl
    repeat' (first
     | ((with_reducible refine zg ?_); refine zb (zB stampKey rfl rfl rfl (qt x.at_) rfl rfl z52 rfl (mks_ok _) (Zm _) hl (mks_nd hnd) rfl) rfl ?_)
     | refine stn [] ?_
     | fail)
    exact ⟨k + 1, ⟨(.cons rfl rfl (.cons rfl (by rw [hS]; rfl) (.cons rfl rfl (.cons rfl rfl (.cons rfl rfl .nil))))), rfl, rfl, rfl⟩, by omega, by omega⟩
   | some y =>
    have hl : MLook (mks M) (mxs M) (stampV x.at_) (avOf (.agg #[.int .i64 0, .int .i64 0, .int .i64 0, .int .i64 0, .int .i64 0, .int .i64 0, .int .i64 0, .int .i64 0, .int .i64 0, .int .i64 0, .string .empty, .int .i64 0, .int .i64 0, .string .empty, .slice none 0 0])) (.agg (opC y)) true := by
     have := qN (kv := stampV) (va := fun o : Op => AV.agg (opC o)) Zl M x.at_ (avOf (.agg #[.int .i64 0, .int .i64 0, .int .i64 0, .int .i64 0, .int .i64 0, .int .i64 0, .int .i64 0, .int .i64 0, .int .i64 0, .int .i64 0, .string .empty, .int .i64 0, .int .i64 0, .string .empty, .slice none 0 0]))
     rw [hg] at this; exact this
    have hsame := Same_spec (g := g) y x (by have := ha.1.2 y (hmem _ _ hg); omega) (hb.1.get ht)
    have hu : unlike M x = !decide (y = x) := by rw [unlike, hg]
    have n1 : (!true) = false := rfl
    repeat' (first
     | ((with_reducible refine zg ?_); refine zb (zB stampKey rfl rfl rfl (qt x.at_) rfl rfl z52 rfl (mks_ok _) (Zm _) hl (mks_nd hnd) rfl) rfl ?_)
     | refine stn [] ?_
     | ((with_reducible refine zl ?_); refine ze rfl (fun h => ?_) (fun h => ?_))
     | fail)
    ·rw [hu, h] at hS
     exact ⟨k + 1, ⟨(.cons rfl rfl (.cons rfl (by rw [hS]; rfl) (.cons rfl rfl (.cons rfl rfl (.cons rfl rfl .nil))))), rfl, rfl, rfl⟩, by omega, by omega⟩
    ·rw [hu, h] at hS
     exact ⟨k + 1, ⟨(.cons rfl rfl (.cons rfl (by rw [hS]; rfl) (.cons rfl rfl (.cons rfl rfl (.cons rfl rfl .nil))))), rfl, rfl, rfl⟩, by omega, by omega⟩
end Go.Proofs.YtcfkokllinkigaaGreatDoor
namespace Go.Proofs.YtcfkokllinkigaaGreatDoor
open Go.Ac
theorem aget_own : ∀ (l : List Op) (m : List (Stamp × Op)) (s : Stamp), Inc l → aget (l.foldl (fun m o => aput m o.at_ o) m) s = ((l.find? fun o => decide (o.at_ = s)).or (aget m s))
 | [], m, s, _ => rfl
 | o :: r, m, s, h => by
  obtain ⟨h1, h2⟩ := List.pairwise_cons.1 h
  rw [List.foldl_cons, aget_own r _ s h2, List.find?_cons, QD]
  by_cases e : o.at_ = s
  ·rw [if_pos e, decide_eq_true e]
   have hn : r.find? (fun o => decide (o.at_ = s)) = none := by
    rw [List.find?_eq_none]
    intro p hp hc
    have := h1 p hp
    rw [e] at this
    exact qq this (of_decide_eq_true hc).symm
   rw [hn]; rfl
  ·rw [if_neg e, decide_eq_false e]
theorem behindM_eq {a : List Op} (h : Inc a) (b : List Op) : behindM a b = behind a b := by
 unfold behindM behind
 congr 1
 funext o
 have hg : aget (ownM a a.length) o.at_ = a.find? fun p => decide (p.at_ = o.at_) := by
  unfold ownM
  rw [List.take_of_length_le (Nat.le_refl _), aget_own a [] o.at_ h]
  cases a.find? (fun p => decide (p.at_ = o.at_)) <;> rfl
 rw [unlike, hg]
 cases hf : a.find? (fun p => decide (p.at_ = o.at_)) with
 | none =>
  have : has a o = false := wE.2 fun ho => by
   have := List.find?_eq_none.1 hf o ho
   simp at this
  simp [this]
 | some y =>
  have hy := List.mem_of_find?_eq_some hf
  have hat : y.at_ = o.at_ := by have := List.find?_some hf; simpa using this
  by_cases e : y = o
  ·subst e; simp [qe.2 hy]
  ·have : has a o = false := wE.2 fun ho => e (h.uniq hy ho hat)
   simp [this, e]
end Go.Proofs.YtcfkokllinkigaaGreatDoor
end
namespace Go.Proofs.YtcfkokllinkigaaGreatDoor
section
open Go.Ac
attribute [local irreducible] awp awpL Ev Ev2 EvS thenQ blockQ retQ PCalls OCalls YieldOk
variable {g : List (Nat × List AV)}
theorem J2 {a b : List Op} {n : Nat} {x : Op} {r : List Op} (h : (both a b).drop n = x :: r) : ((both a b).map fun o => [AV.agg (opC o)])[n]? = some [.agg (opC x)] ∧ (both a b).drop (n + 1) = r := by
 have h1 : (both a b)[n]? = some x := by
  have := congrArg (fun l => l[0]?) h
  simpa using this
 have h2 := congrArg List.tail h
 exact ⟨by simp [h1], by simpa using h2⟩
set_option maxHeartbeats 2000000 in
theorem Yb (a b : List Op) (ha : Fit a) (hb : Fit b) : IterC Tryz.prog g 62 [.fp [encOps a], .fp [encOps b]] ((both a b).map fun o => [.agg (opC o)]) := by
 have ha1 := ha.1
 have hb1 := hb.1
 refine iterC Tryz.func62 rfl Tryz.ntmps62 rfl rfl ?_
 intro env yv hy
 repeat' (first
  | refine stn [7] ?_
  | ((with_reducible refine zl ?_); refine ze rfl (fun h => ?_) (fun h => ?_))
  | fail)
 refine J8 (α := Nat) (β := Nat) 1 (fun i k => [(0, .v yv), (1, .fp [encOps a]), (2, .fp [encOps b]), (4, vi i), (5, vi k)]) (fun i k => [.ghost (i + k)]) (fun i k => i ≤ a.length ∧ k ≤ b.length ∧ (both a b).drop (i + k) = both (a.drop i) (b.drop k)) (fun i k => a.length - i + (b.length - k)) 0 0
  qw ⟨Nat.zero_le _, Nat.zero_le _, rfl⟩ ?_
 rintro i k ⟨hi, hk, hd⟩
 cases hx : a[i]? with
 | none =>
  have hgi : a.length ≤ i := by simpa using hx
  have c1 : decide ((i : Int) < a.length) = false := by simp; omega
  have e1 : decide ((i : Int) = a.length) = true := by simp; omega
  rw [List.drop_of_length_le hgi, jD] at hd
  cases hz : b[k]? with
  | none =>
   have hgk : b.length ≤ k := by simpa using hz
   have c2 : decide ((k : Int) < b.length) = false := by simp; omega
   have hdone : ((both a b).map fun o => [AV.agg (opC o)]).length = i + k := by rw [List.length_map, jE]; omega
   refine runn [7] ?_
   exact retIn (r := .tup []) rfl (.inl (by rw [hdone]; rfl))
  | some y =>
   have hlt : k < b.length := (List.getElem?_eq_some_iff.1 hz).1
   have c2 : decide ((k : Int) < b.length) = true := by simp; omega
   have h1 := Za hz
   have hdk : b.drop k = y :: b.drop (k + 1) := by
    obtain ⟨_, rfl⟩ := List.getElem?_eq_some_iff.1 hz
    exact List.drop_eq_getElem_cons hlt
   obtain ⟨hg, hd'⟩ := J2 (hd.trans hdk)
   have n1 : (!true) = false := rfl
   have n2 : (!false) = true := rfl
   repeat' (first
    | ((with_reducible refine zg ?_); refine qm (n := i + k) (k := 0) rfl rfl rfl rfl rfl (hy _ _ hg) rfl rfl rfl ?_ ?_)
    | refine st [7] ?_
    | fail)
   ·exact ⟨i, k + 1, qw, ⟨hi, by omega, by rw [List.drop_of_length_le hgi, jD]; exact hd'⟩, by omega⟩
   ·exact retI (r := .tup []) rfl (.inr rfl)
 | some x =>
  have hli : i < a.length := (List.getElem?_eq_some_iff.1 hx).1
  have c1 : decide ((i : Int) < a.length) = true := by simp; omega
  have e1 : decide ((i : Int) = a.length) = false := by simp; omega
  have h1 := Za hx
  have hdi : a.drop i = x :: a.drop (i + 1) := by
   obtain ⟨_, rfl⟩ := List.getElem?_eq_some_iff.1 hx
   exact List.drop_eq_getElem_cons hli
  have n1 : (!true) = false := rfl
  have n2 : (!false) = true := rfl
  have hw : ∀ (c : List Op), [LB.ghost (i + k + 1)] = [LB.ghost (i + 1 + k)] := fun _ => by rw [show i + 1 + k = i + k + 1 by omega]
  cases hz : b[k]? with
  | none =>
   have hgk : b.length ≤ k := by simpa using hz
   have c2 : decide ((k : Int) < b.length) = false := by simp; omega
   rw [List.drop_of_length_le hgk, both_nil'] at hd
   obtain ⟨hg, hd'⟩ := J2 (hd.trans hdi)
   repeat' (first
    | ((with_reducible refine zg ?_); refine qm (n := i + k) (k := 0) rfl rfl rfl rfl rfl (hy _ _ hg) rfl rfl rfl ?_ ?_)
    | refine st [7] ?_
    | fail)
   ·exact ⟨i + 1, k, ⟨(.cons rfl rfl (.cons rfl rfl (.cons rfl rfl (.cons rfl rfl (.cons rfl rfl .nil))))), by rw [show i + 1 + k = i + k + 1 by omega]; rfl, rfl, rfl⟩, ⟨by omega, hk, by rw [List.drop_of_length_le hgk, both_nil', show i + 1 + k = i + k + 1 by omega]; exact hd'⟩, by omega⟩
   ·exact retI (r := .tup []) rfl (.inr rfl)
  | some y =>
   have hlt : k < b.length := (List.getElem?_eq_some_iff.1 hz).1
   have c2 : decide ((k : Int) < b.length) = true := by simp; omega
   have h2 := Za hz
   have hdk : b.drop k = y :: b.drop (k + 1) := by
    obtain ⟨_, rfl⟩ := List.getElem?_eq_some_iff.1 hz
    exact List.drop_eq_getElem_cons hlt
   have hL := QH (g := g) y.at_ x.at_
   rw [hdi, hdk] at hd
   cases hc : less y.at_ x.at_ with
   | true =>
    rw [hc] at hL
    rw [QW hc] at hd
    obtain ⟨hg, hd'⟩ := J2 hd
    repeat' (first
     | ((with_reducible refine zg ?_); refine qm (n := i + k) (k := 0) rfl rfl rfl rfl rfl (hy _ _ hg) rfl rfl rfl ?_ ?_)
     | refine st [7] ?_
     | fail)
    ·exact ⟨i, k + 1, qw, ⟨hi, by omega, by rw [hdi]; exact hd'⟩, by omega⟩
    ·exact retI (r := .tup []) rfl (.inr rfl)
   | false =>
    rw [hc] at hL
    rw [j8 hc] at hd
    obtain ⟨hg, hd'⟩ := J2 hd
    repeat' (first
     | ((with_reducible refine zg ?_); refine qm (n := i + k) (k := 0) rfl rfl rfl rfl rfl (hy _ _ hg) rfl rfl rfl ?_ ?_)
     | refine st [7] ?_
     | fail)
    ·exact ⟨i + 1, k, ⟨(.cons rfl rfl (.cons rfl rfl (.cons rfl rfl (.cons rfl rfl (.cons rfl rfl .nil))))), by rw [show i + 1 + k = i + k + 1 by omega]; rfl, rfl, rfl⟩, ⟨by omega, hk, by rw [show i + 1 + k = i + k + 1 by omega, hdk]; exact hd'⟩, by omega⟩
    ·exact retI (r := .tup []) rfl (.inr rfl)
end
section
open Go.Ac
attribute [local irreducible] awp awpL Ev Ev2 EvS thenQ blockQ retQ PCalls OCalls YieldOk IterC
variable {g : List (Nat × List AV)}
abbrev bothV (a b : List Op) : AV := .fn 62 [] [.fp [encOps a], .fp [encOps b]]
theorem both_spec (a b : List Op) : PCalls Tryz.prog g 31 [encOps a, encOps b] (bothV a b) := by
 refine pcalls' Tryz.func31 Tryz.ntmps31 rfl rfl rfl ?_
 refine runn [] ?_
 refine retP rfl ?_
 rfl
end
section
open Go.Ac
attribute [local irreducible] awp awpL Ev Ev2 EvS thenQ blockQ retQ PCalls OCalls YieldOk IterC
variable {g : List (Nat × List AV)}
theorem Fit.take {l : List Op} (h : Fit l) (k : Nat) : Fit (l.take k) := ⟨by have := h.1; rw [List.length_take]; omega, fun o ho => h.2 o (List.mem_of_mem_take ho)⟩
theorem Fit.drop {l : List Op} (h : Fit l) (k : Nat) : Fit (l.drop k) := ⟨by have := h.1; rw [List.length_drop]; omega, fun o ho => h.2 o (List.mem_of_mem_drop ho)⟩
theorem Fit.of_mem {l m : List Op} (h : Fit l) (hl : m.length ≤ l.length) (hm : ∀ o, o ∈ m → o ∈ l) : Fit m := ⟨by have := h.1; omega, fun o ho => h.2 o (hm o ho)⟩
theorem Fit.sorted {l : List Op} (h : Fit l) : Fit (sorted l) := h.of_mem (by rw [Jo]; exact Nat.le_refl _) fun o ho => (Jn l o).1 ho
theorem jI {l : List Op} {i : Nat} {xs : List AV} (h : (l.map fun o => [AV.agg (opC o)])[i]? = some xs) : ∃ o, l[i]? = some o ∧ xs = [.agg (opC o)] := by
 rw [List.getElem?_map] at h
 cases ho : l[i]? with
 | none => rw [ho] at h; cases h
 | some o => rw [ho] at h; cases h; exact ⟨o, rfl, rfl⟩
set_option maxHeartbeats 2000000 in
theorem sorted_spec : ∀ (n : Nat) (l : List Op), l.length ≤ n → Fit l → PCalls Tryz.prog g 32 [encOps l] (encOps (sorted l)) := by
 intro n
 induction n with
 | zero =>
  intro l hn hl
  refine pcalls' Tryz.func32 Tryz.ntmps32 rfl rfl rfl ?_
  have c0 : decide ((l.length : Int) < 2) = true := by simp; omega
  refine runn [3] ?_
  refine retP rfl ?_
  rw [sorted, if_pos (by omega)]; rfl
 | succ n ih =>
  intro l hn hl
  by_cases h2 : l.length < 2
  ·refine pcalls' Tryz.func32 Tryz.ntmps32 rfl rfl rfl ?_
   have c0 : decide ((l.length : Int) < 2) = true := by simp; omega
   refine runn [3] ?_
   refine retP rfl ?_
   rw [sorted, if_pos h2]; rfl
  have hl1 := hl.1
  have hk : (l.length : Int).tdiv 2 = ((l.length / 2 : Nat) : Int) := by rw [Int.tdiv_eq_ediv_of_nonneg (by omega)]; omega
  have h1 := ih (l.take (l.length / 2)) (by rw [List.length_take]; omega) (hl.take _)
  have h3 := ih (l.drop (l.length / 2)) (by rw [List.length_drop]; omega) (hl.drop _)
  have h4 := both_spec (g := g) (sorted (l.take (l.length / 2))) (sorted (l.drop (l.length / 2)))
  have hI := Yb (g := g) (sorted (l.take (l.length / 2))) (sorted (l.drop (l.length / 2))) (hl.take _).sorted (hl.drop _).sorted
  have hS : sorted l = both (sorted (l.take (l.length / 2))) (sorted (l.drop (l.length / 2))) := by rw [sorted, if_neg h2]
  have hlen := Jo l
  rw [← hS] at hI
  rw [hS] at hlen ⊢
  rw [← hS] at hlen
  generalize hke : l.length / 2 = k at *
  have hkl : k ≤ l.length := by omega
  have hr : (0 : Int) < 2 ∧ -9223372036854775808 ≤ (l.length : Int) ∧ (l.length : Int) ≤ 9223372036854775807 := by omega
  have b1 : (0 : Int) ≤ 0 ∧ (0 : Int) ≤ (k : Int) ∧ (k : Int) ≤ (l.length : Nat) := by omega
  have b2 : (0 : Int) ≤ (k : Int) ∧ (k : Int) ≤ ((l.length : Nat) : Int) ∧ ((l.length : Nat) : Int) ≤ (l.length : Nat) := by omega
  have m1 : ((k : Int) - 0).toNat = (l.take k).length := by rw [List.length_take]; omega
  have m2 : (((l.length : Nat) : Int) - (k : Int)).toNat = (l.drop k).length := by rw [List.length_drop]; omega
  have f1 : ((l.map opC).drop (0 : Int).toNat).take (l.take k).length = (l.take k).map opC := by simp [List.map_take]
  have f2 : ((l.map opC).drop (k : Int).toNat).take (l.drop k).length = (l.drop k).map opC := by simp [List.map_drop, List.take_of_length_le]
  have c0 : decide ((l.length : Int) < 2) = false := by simp; omega
  rw [← hS]
  refine pcalls' Tryz.func32 Tryz.ntmps32 rfl rfl rfl ?_
  repeat' (first
   | ((with_reducible refine zu ?_); (first | refine zc (zh (fun _ => zw rfl rfl rfl rfl rfl rfl rfl b1 m1 f1) rfl rfl) qb0 ?_ | refine zc (zh (fun _ => zw rfl rfl rfl rfl rfl rfl rfl b2 m2 f2) rfl rfl) qb0 ?_ | refine zc (zh (fun _ => qX rfl rfl hr hk) rfl rfl) qb0 ?_))
   | refine st [3] ?_
   | ((with_reducible refine zl ?_); refine ze rfl (fun h => ?_) (fun h => ?_))
   | fail)
  refine qk 0 0 80 15 rfl rfl rfl rfl ?_
  refine wQ (fun i => [.box [.os 1 i], .own i 80 15 (((sorted l).take i).map opC)]) rfl rfl rfl rfl hI rfl (fun _ => rfl) (fun _ => rfl) rfl (fun i xs hx => by obtain ⟨o, _, rfl⟩ := jI hx; rfl) ?_ ?_
  ·intro i xs lp hx
   obtain ⟨o, ho, rfl⟩ := jI hx
   have hj := JF opC (sorted l) i o ho
   have hil : i < (sorted l).length := (List.getElem?_eq_some_iff.1 ho).1
   refine runn [3] ?_
   refine ⟨rfl, rfl, ?_⟩
   repeat' (first
    | ((with_reducible refine zg ?_); refine zk (zZ (es' := ((sorted l).take (i + 1)).map opC) rfl rfl rfl rfl rfl rfl rfl rfl rfl rfl rfl rfl rfl qe0 hj rfl) rfl ?_)
    | refine stn [3] ?_
    | fail)
   exact roundN ⟨.nil, rfl, rfl, rfl⟩
  ·refine runn [3] ?_
   refine retP rfl ?_
   have e : (sorted l).take ((sorted l).map fun o => [AV.agg (opC o)]).length = sorted l := List.take_of_length_le (by rw [List.length_map]; exact Nat.le_refl _)
   simp only [e]
   simp [ex]
end
section
theorem emptyB : (ByteArray.mk #[]) = ByteArray.empty := rfl
def spanRight (s : Span) : Bool := decide (0 ≤ s.fro) && decide (s.fro < s.til) && decide (s.til ≤ 86400000)
def within (n lo hi : Int) : Bool := decide (lo ≤ n) && decide (n ≤ hi)
def firstE (l : List Int) : Int := (l.find? (fun x => decide (x ≠ 0))).getD 0
def wanted (b : Bool) : Int := if b then 0 else 1
def lowB (s : ByteArray) : Bool := s.data.toList.any fun b => decide (b.toNat < 32) || decide (b.toNat = 127)
def textE (s : ByteArray) : Int := if 200 < s.size then 5 else if Go.Lib.validD s.data.toList = false then 3 else if lowB s then 3 else 0
def noteOk (n : Note) : Bool := within n.tier 0 11 && within n.parent 0 1099511627776 && within n.rank 0 300
def addedE (o : Op) : Int :=
 if o.note.id ≠ idOf o.at_ then 1 else if noteOk o.note = false then 2
 else if o.note.span ≠ ⟨0, 0⟩ ∧ spanRight o.note.span = false then 12 else textE o.note.text
def bareNote (id : Int) : Note := ⟨id, 0, 0, ⟨0, 0⟩, 0, .empty⟩
def namedE (o : Op) : Int :=
 if right (stampOf o.note.id) = false ∨ less (stampOf o.note.id) o.at_ = false ∨ o.note ≠ bareNote o.note.id then 1 else 0
def plainE (o : Op) : Int := wanted (decide (o.set = 0) && (decide (o.n = 0) && decide (o.text = .empty)))
def setE (o : Op) : Int :=
 if o.set = 0 then (if o.n ≠ 0 then 1 else textE o.text)
 else if o.set = 1 ∨ o.set = 2 then (if within o.n 0 86400000 = false then 2 else if o.text ≠ .empty then 1 else 0)
 else 14
def overK (at_ : Stamp) : Option Stamp → List Stamp → Int
 | _, [] => 0
 | p, s :: r => if right s = false ∨ less s at_ = false then 27 else
  match p with
  | some q => if less q s = false then 10 else overK at_ (some s) r
  | none => overK at_ (some s) r
def overE (o : Op) : Int := if o.over.length = 0 then 4 else if 16 < o.over.length then 11 else overK o.at_ none o.over
def opE (o : Op) : Int :=
 if right o.at_ = false then 27
 else if o.kind = 0 then (if within o.rec_ 1 1099511627776 = false then 2 else firstE [addedE o, plainE o, wanted (decide (o.over.length = 0))])
 else if o.kind = 1 then (if within o.rec_ 1 1099511627776 = false then 2 else firstE [namedE o, setE o, overE o])
 else if o.kind = 2 then (if within o.rec_ 1 1099511627776 = false then 2 else firstE [namedE o, plainE o, overE o])
 else 14
def wrt (o : Op) (f : Int) : Bool := within f 0 2 && (decide (o.kind = 0) || decide (o.kind = 1) && decide (o.set = f))
def writes (o : Op) (note f : Int) : Bool := decide (o.note.id = note) && wrt o f
def addedO (l : List Op) (note : Int) : Option Op := l.find? fun o => decide (o.kind = 0) && decide (o.note.id = note)
def writer (l : List Op) (s : Stamp) (note f : Int) : Bool := l.any fun o => decide (o.at_ = s) && writes o note f
def overOk (pre : List Op) (o : Op) (s : Stamp) : Bool := ([0, 1, 2] : List Int).any fun f => (decide (o.kind = 2) || decide (f = o.set)) && writer pre s o.note.id f
def oneE (pre : List Op) (o : Op) : Int :=
 if opE o ≠ 0 then opE o
 else if (match pre.getLast? with | some p => less p.at_ o.at_ | none => true) = false then 10
 else if o.kind = 0 then 0
 else if (match addedO pre o.note.id with | some a => decide (a.rec_ = o.rec_) | none => false) = false then 9
 else if o.over.all (overOk pre o) = false then 27
 else 0
def allE : List Op → List Op → Int
 | _, [] => 0
 | pre, o :: r => if oneE pre o ≠ 0 then oneE pre o else allE (pre ++ [o]) r
def seenL (l : List Op) : List Int := l.foldl (fun v o => see v o.at_) (join [] [])
def repE (r : Replica) : Int :=
 if within r.dev 1 15 = false then 1 else if 400 < r.ops.length then 11
 else if allE [] r.ops ≠ 0 then allE [] r.ops else if r.seen ≠ seenL r.ops then 1 else 0
theorem Qd : ∀ (l pre : List Op), allE pre l = 0 → ∀ k o, l[k]? = some o → oneE (pre ++ l.take k) o = 0
 | [], _, _, k, o, h => by cases h
 | x :: r, pre, h, k, o, hk => by
  rw [allE] at h
  split at h
  ·rename_i h1; exact absurd h h1
  ·rename_i h1
   cases k with
   | zero => simp at hk; subst hk; simp at h1; simpa using h1
   | succ k =>
    have := Qd r (pre ++ [x]) h k o (by simpa using hk)
    simpa using this
theorem Qw {pre : List Op} {o : Op} (h : oneE pre o = 0) : opE o = 0 := by
 unfold oneE at h
 split at h
 ·rename_i h1; exact absurd h h1
 ·rename_i h1; simpa using h1
theorem zO {o : Op} (h : opE o = 0) : right o.at_ = true := by
 unfold opE at h
 split at h
 ·omega
 ·rename_i h1; simpa using h1
theorem oneE_less {pre : List Op} {o p : Op} (h : oneE pre o = 0) (hp : pre.getLast? = some p) : less p.at_ o.at_ = true := by
 have h0 := Qw h
 unfold oneE at h
 rw [if_neg (by simpa using h0), hp] at h
 cases hl : less p.at_ o.at_ with
 | true => rfl
 | false => simp [hl] at h
theorem Yi : ∀ (l pre : List Op), Inc pre → allE pre l = 0 → Inc (pre ++ l)
 | [], pre, hp, _ => by simpa using hp
 | o :: r, pre, hp, h => by
  rw [allE] at h
  split at h
  ·rename_i h1; exact absurd h h1
  ·rename_i h1
   have h1 : oneE pre o = 0 := by simpa using h1
   have hi : Inc (pre ++ [o]) := by
    cases hl : pre.getLast? with
    | none =>
     have : pre = [] := by simpa using hl
     subst this; exact List.pairwise_singleton _ _
    | some p => exact hp.snoc fun q hq => WD (hp.last_le hl q hq) (oneE_less h1 hl)
   have := Yi r _ hi h
   simpa using this
theorem Zy {r : Replica} (h : repE r = 0) : allE [] r.ops = 0 ∧ r.seen = seenL r.ops ∧ 1 ≤ r.dev ∧ r.dev ≤ 15 ∧ r.ops.length ≤ 400 := by
 unfold repE at h
 split at h
 ·omega
 ·rename_i h1
  split at h
  ·omega
  ·rename_i h2
   split at h
   ·rename_i h3; exact absurd h h3
   ·rename_i h3
    split at h
    ·omega
    ·rename_i h4
     simp [within] at h1
     refine ⟨by simpa using h3, by simpa using h4, by omega, by omega, by omega⟩
theorem Zo {r : Replica} (h : repE r = 0) : Inc r.ops := by
 have := Yi r.ops [] List.Pairwise.nil (Zy h).1
 simpa using this
theorem Zf (l : List Op) : (seenL l).length = 15 := by
 unfold seenL
 have : ∀ (l : List Op) (v : List Int), v.length = 15 → (l.foldl (fun v o => see v o.at_) v).length = 15 := by
  intro l
  induction l with
  | nil => intro v h; exact h
  | cons o r ih => intro v h; exact ih _ (see_len _ _)
 exact this l _ (join_len _ _)
end
end Go.Proofs.YtcfkokllinkigaaGreatDoor
