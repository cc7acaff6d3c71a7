/- A logic of trees over the model's steps, and the contracts of the functions that the laws reach: part 9 of 29. -/
import Derived.Test.YtcfkokllinkigaaGreatDoorB8
set_option linter.unusedVariables false
set_option linter.unusedSimpArgs false
set_option linter.unusedSectionVars false
set_option linter.unnecessarySimpa false
namespace Go.Proofs.YtcfkokllinkigaaGreatDoor
section
open Go.Ac
attribute [local irreducible] awp awpL Ev Ev2 EvS thenQ blockQ retQ PCalls OCalls YieldOk IterC
variable {g : List (Nat × List AV)}
def zeroOp : Op := ⟨⟨0, 0⟩, 0, 0, ⟨0, 0, 0, ⟨0, 0⟩, 0, .empty⟩, 0, 0, .empty, []⟩
abbrev zeroOpC : List AV := [.v (.int .i64 0), .v (.int .i64 0), .v (.int .i64 0), .v (.int .i64 0), .v (.int .i64 0), .v (.int .i64 0), .v (.int .i64 0), .v (.int .i64 0), .v (.int .i64 0), .v (.int .i64 0), .v (.string .empty), .v (.int .i64 0), .v (.int .i64 0), .v (.string .empty), nilS]
theorem le_zeroOp : LeA zeroOpC (opC zeroOp) :=
 .cons (Le.rfl' _) (.cons (Le.rfl' _) (.cons (Le.rfl' _) (.cons (Le.rfl' _) (.cons (Le.rfl' _) (.cons (Le.rfl' _) (.cons (Le.rfl' _) (.cons (Le.rfl' _) (.cons (Le.rfl' _) (.cons (Le.rfl' _) (.cons (Le.rfl' _) (.cons (Le.rfl' _) (.cons (Le.rfl' _) (.cons (Le.rfl' _) (.cons (Le.nil 2) .nil))))))))))))))
def addedV (o : Option Op) : AV := .tup [.agg (opC (o.getD zeroOp)), vb o.isSome]
theorem find_drop {α : Type} (f : α → Bool) (l : List α) (k : Nat) (x : α) (h : l[k]? = some x) : (l.drop k).find? f = if f x then some x else (l.drop (k + 1)).find? f := by
 obtain ⟨hlt, rfl⟩ := List.getElem?_eq_some_iff.1 h
 rw [List.drop_eq_getElem_cons hlt, List.find?_cons]
 cases f l[k] <;> rfl
set_option maxHeartbeats 1000000 in
theorem jg (l : List Op) (n : Int) (hl : l.length ≤ 1000000) : PCalls Tryz.prog g 59 [encOps l, vi n] (addedV (addedO l n)) := by
 refine pcalls' Tryz.func59 Tryz.ntmps59 rfl rfl rfl ?_
 repeat' (first
  | refine stn [4] ?_
  | ((with_reducible refine zl ?_); refine ze rfl (fun h => ?_) (fun h => ?_))
  | fail)
 refine zi (α := Nat) 1 (fun k => [(0, encOps l), (1, vi n), (4, .lp 0 0), (6, vi k)]) (fun k => [.box zeroOpC]) (fun k => k ≤ l.length ∧ addedO l n = (l.drop k).find? fun o => decide (o.kind = 0) && decide (o.note.id = n)) (fun k => l.length - k) 0
  qw ⟨Nat.zero_le _, rfl⟩ ?_
 rintro k ⟨hk, hf⟩
 cases ht : l[k]? with
 | none =>
  have hge : l.length ≤ k := by simpa using ht
  have c1 : decide ((k : Int) < l.length) = false := decide_eq_false (by omega)
  rw [List.drop_of_length_le hge] at hf
  refine runn [4] ?_
  refine retLe rfl ?_
  rw [hf]
  exact Le.tup (.cons (Le.agg le_zeroOp) (.cons (Le.rfl' _) .nil))
 | some x =>
  have hlt : k < l.length := (List.getElem?_eq_some_iff.1 ht).1
  have c1 : decide ((k : Int) < l.length) = true := decide_eq_true (by omega)
  have h1 := Za ht
  rw [find_drop _ l k x ht] at hf
  by_cases hk0 : x.kind = 0
  ·have d1 : decide (x.kind = 0) = true := decide_eq_true hk0
   by_cases hid : x.note.id = n
   ·have d2 : decide (x.note.id = n) = true := decide_eq_true hid
    rw [d1, d2] at hf
    refine runn [4] ?_
    refine retP rfl ?_
    rw [hf]; rfl
   ·have d2 : decide (x.note.id = n) = false := decide_eq_false hid
    rw [d1, d2] at hf
    refine runn [4] ?_
    exact ⟨k + 1, qw, ⟨by omega, hf⟩, by omega⟩
  ·have d1 : decide (x.kind = 0) = false := decide_eq_false hk0
   rw [d1] at hf
   refine runn [4] ?_
   exact ⟨k + 1, qw, ⟨by omega, hf⟩, by omega⟩
set_option maxHeartbeats 1000000 in
theorem rWriter_spec (l : List Op) (s : Stamp) (n f : Int) (hl : l.length ≤ 1000000) : PCalls Tryz.prog g 60 [encOps l, .agg (stampC s), vi n, vi f] (vb (writer l s n f)) := by
 refine pcalls' Tryz.func60 Tryz.ntmps60 rfl rfl rfl ?_
 repeat' (first
  | refine stn [] ?_
  | ((with_reducible refine zl ?_); refine ze rfl (fun h => ?_) (fun h => ?_))
  | fail)
 refine zi (α := Nat) 0 (fun k => [(0, encOps l), (2, vi n), (3, vi f), (5, .fp (stampC s)), (9, vi k)]) (fun _ => []) (fun k => k ≤ l.length ∧ writer l s n f = (l.drop k).any fun o => decide (o.at_ = s) && writes o n f) (fun k => l.length - k) 0
  qw ⟨Nat.zero_le _, rfl⟩ ?_
 rintro k ⟨hk, hf⟩
 cases ht : l[k]? with
 | none =>
  have hge : l.length ≤ k := by simpa using ht
  have c1 : decide ((k : Int) < l.length) = false := decide_eq_false (by omega)
  rw [List.drop_of_length_le hge] at hf
  refine runn [] ?_
  refine retP rfl ?_
  rw [hf]; rfl
 | some x =>
  have hlt : k < l.length := (List.getElem?_eq_some_iff.1 ht).1
  have c1 : decide ((k : Int) < l.length) = true := decide_eq_true (by omega)
  have h1 := Za ht
  have h2 := JK (g := g) x n f
  rw [Yg _ l k x ht] at hf
  by_cases he : x.at_ = s
  ·have e1 : (x.at_.count == s.count && x.at_.dev == s.dev) = true := by rw [he]; simp
   have e2 : decide (x.at_ = s) = true := decide_eq_true he
   rw [e2, Bool.true_and] at hf
   repeat' (first
    | ((with_reducible refine zu ?_); refine zc (zh (fun _ => qE (b := true) zF (by kernel_rfl) rfl rfl rfl rfl (by rw [← e1]; rfl)) rfl rfl) qb0 ?_)
    | refine st [] ?_
    | ((with_reducible refine zl ?_); refine ze rfl (fun h => ?_) (fun h => ?_))
    | fail)
   ·refine retP rfl ?_
    rw [hf, h]; rfl
   ·exact ⟨k + 1, qw, ⟨by omega, by rw [hf, h]; rfl⟩, by omega⟩
  ·have e1 : (x.at_.count == s.count && x.at_.dev == s.dev) = false := by
    cases hq : (x.at_.count == s.count && x.at_.dev == s.dev) with
    | false => rfl
    | true => exact absurd (qM (by simpa using hq)) he
   have e2 : decide (x.at_ = s) = false := decide_eq_false he
   rw [e2, Bool.false_and, Bool.false_or] at hf
   repeat' (first
    | ((with_reducible refine zu ?_); refine zc (zh (fun _ => qE (b := false) zF (by kernel_rfl) rfl rfl rfl rfl (by rw [← e1]; rfl)) rfl rfl) qb0 ?_)
    | refine st [] ?_
    | fail)
   exact ⟨k + 1, qw, ⟨by omega, hf⟩, by omega⟩
set_option maxHeartbeats 1000000 in
theorem rSeen_spec (l : List Op) (hl : l.length ≤ 1000000) (hr : ∀ o ∈ l, right o.at_ = true) : OCalls Tryz.prog g 27 [encOps l] 3 1 ((seenL l).map intC) := by
 refine ocalls' Tryz.func27 Tryz.ntmps27 rfl rfl rfl ?_
 have hm : (0 : Int) ≤ 15 ∧ (8 : Nat) * (15 : Int) ≤ 281474976710656 ∧ (15 : Int) ≤ 9223372036854775807 := by omega
 repeat' (first
  | ((with_reducible refine zg ?_); refine zk (ev_make (n := 15) (es := (seenL []).map intC) rfl rfl rfl rfl rfl rfl rfl rfl hm (by rw [seenL_nil]; rfl) (by simp only [List.length_nil]; rfl) (by simp only [List.nil_append]; rfl)) rfl ?_)
  | refine stn [] ?_
  | ((with_reducible refine zl ?_); refine ze rfl (fun h => ?_) (fun h => ?_))
  | fail)
 refine zi (α := Nat) 1 (fun k => [(0, encOps l), (3, .os 0 0), (4, vi k)]) (fun k => [.own 0 3 1 ((seenL (l.take k)).map intC)]) (fun k => k ≤ l.length) (fun k => l.length - k) 0
  qw (Nat.zero_le _) ?_
 rintro k hk
 cases ht : l[k]? with
 | none =>
  have hge : l.length ≤ k := by simpa using ht
  have c1 : decide ((k : Int) < l.length) = false := decide_eq_false (by omega)
  refine runn [] ?_
  exact retO rfl (by rw [List.take_of_length_le hge]; rfl)
 | some x =>
  have hlt : k < l.length := (List.getElem?_eq_some_iff.1 ht).1
  have c1 : decide ((k : Int) < l.length) = true := decide_eq_true (by omega)
  have h1 := Za ht
  have hx := hr x (List.mem_of_getElem? ht)
  have hd := jN hx
  have hS : seenL (l.take (k + 1)) = (seenL (l.take k)).set (x.at_.dev - 1).toNat (max (num (seenL (l.take k)) (x.at_.dev - 1).toNat) x.at_.count) := by
   rw [List.take_add_one, ht]; exact seenL_step hx
  have hn := QM (l.take k)
  have hlen := Zf (l.take k)
  have hlt15 : (x.at_.dev - 1).toNat < (seenL (l.take k)).length := by omega
  obtain ⟨y, hy⟩ : ∃ y, (seenL (l.take k))[(x.at_.dev - 1).toNat]? = some y := ⟨_, List.getElem?_eq_getElem hlt15⟩
  have hy0 : 0 ≤ y := hn y (List.mem_of_getElem? hy)
  have hnum : num (seenL (l.take k)) (x.at_.dev - 1).toNat = y := by rw [num, hy]; simp; omega
  rw [hnum] at hS
  have hc : 0 ≤ x.at_.dev - 1 ∧ x.at_.dev - 1 < ((seenL (l.take k)).map intC).length := by rw [List.length_map, hlen]; omega
  have hel : ((seenL (l.take k)).map intC)[(x.at_.dev - 1).toNat]? = some (intC y) := by rw [List.getElem?_map, hy]; rfl
  repeat' (first
   | refine Q6 rfl rfl (QA (el' := intC (max y x.at_.count)) (L' := [.own 0 3 1 ((seenL (l.take (k + 1))).map intC)]) rfl rfl rfl rfl rfl rfl rfl rfl hel rfl (by rw [hS, ← w7]; rfl)) rfl rfl ?_
   | refine st [] ?_
   | fail)
  exact ⟨k + 1, qw, by omega, by omega⟩
end
section
open Go.Ac
attribute [local irreducible] awp awpL Ev Ev2 EvS thenQ blockQ retQ PCalls OCalls YieldOk IterC
variable {g : List (Nat × List AV)}
def Ids (l : List Op) : Prop := ∀ o ∈ l, I64 o.note.id
set_option maxRecDepth 4000 in
set_option maxHeartbeats 4000000 in
theorem rOne_spec (l : List Op) (i : Nat) (o : Op) (hl : l.length ≤ 1000000) (hi : l[i]? = some o) (hid : I64 o.note.id) : PCalls Tryz.prog g 25 [encOps l, vi i] (vi (oneE (l.take i) o)) := by
 have hlt : i < l.length := (List.getElem?_eq_some_iff.1 hi).1
 have g1 := Za hi
 have hC := rOp_spec (g := g) o hid
 refine pcalls' Tryz.func25 Tryz.ntmps25 rfl rfl rfl ?_
 have n1 : (!true) = false := rfl
 have n2 : (!false) = true := rfl
 by_cases hE : opE o = 0
 case neg =>
  have c0 : (!decide (opE o = 0)) = true := by simp [hE]
  rw [oneE_bad hE]
  refine runn [] ?_
  exact retP rfl rfl
 case pos =>
 have c0 : (!decide (opE o = 0)) = false := by simp [hE]
 have rest : ∀ b, (match (l.take i).getLast? with | some p => less p.at_ o.at_ | none => true) = b → ∃ q, ((i = 0 ∧ b = true) ∨ (0 < i ∧ l[i - 1]? = some q ∧ less q.at_ o.at_ = b)) := by
  intro b hb
  by_cases h0 : i = 0
  ·subst h0
   exact ⟨o, .inl ⟨rfl, by simpa using hb.symm⟩⟩
  ·have hpos : 0 < i := by omega
   rw [last_take hpos (by omega)] at hb
   obtain ⟨q, hq⟩ : ∃ q, l[i - 1]? = some q := ⟨_, List.getElem?_eq_getElem (by omega)⟩
   rw [hq] at hb
   exact ⟨q, .inr ⟨hpos, hq, hb⟩⟩
 have hidx : 0 < i → ∀ q, l[i - 1]? = some q → 0 ≤ (i : Int) - 1 ∧ (l.map opC)[((i : Int) - 1).toNat]? = some (opC q) := fun h q hq => ⟨by omega, by rw [show ((i : Int) - 1).toNat = i - 1 by omega]; simp [hq]⟩
 cases ha : (match (l.take i).getLast? with | some p => less p.at_ o.at_ | none => true) with
 | false =>
  obtain ⟨q, h | ⟨hpos, hq, hL⟩⟩ := rest _ ha
  ·cases h.2
  have c1 : decide ((0 : Int) < (i : Int)) = true := decide_eq_true (by omega)
  have hLs := qT (g := g) q.at_ o.at_
  rw [hL] at hLs
  have g2 := hidx hpos q hq
  rw [WB hE ha]
  refine run [] ?_
  exact retP rfl rfl
 | true =>
 have b0 : (0 : Int) ≤ 0 ∧ (0 : Int) ≤ (i : Int) ∧ (i : Int) ≤ (l.length : Nat) := by omega
 have m0 : ((i : Int) - 0).toNat = (l.take i).length := by rw [List.length_take]; omega
 have f0 : ((l.map opC).drop (0 : Int).toNat).take (l.take i).length = (l.take i).map opC := by simp [List.map_take]
 have hA := jg (g := g) (l.take i) o.note.id (by rw [List.length_take]; omega)
 have hpl : (l.take i).length ≤ 1000000 := by rw [List.length_take]; omega
 repeat' (first
  | refine stn [] ?_
  | ((with_reducible refine zl ?_); refine ze rfl (fun h => ?_) (fun h => ?_))
  | fail)
 refine wa 0 [(0, encOps l), (1, vi i), (5, .fp (opC o)), (34, vb false)] [] ?_ ?_
 ·obtain ⟨q, h | ⟨hpos, hq, hL⟩⟩ := rest _ ha
  ·have c1 : decide ((0 : Int) < (i : Int)) = false := decide_eq_false (by omega)
   refine run [] ?_
   exact qw
  ·have c1 : decide ((0 : Int) < (i : Int)) = true := decide_eq_true (by omega)
   have hLs := qT (g := g) q.at_ o.at_
   rw [hL] at hLs
   have g2 := hidx hpos q hq
   refine run [] ?_
   exact qw
 generalize hpre : l.take i = pre at *
 by_cases hk : o.kind = 0
 ·have d0 : decide (o.kind = 0) = true := decide_eq_true hk
  rw [yA hE ha hk]
  refine runn [] ?_
  exact retP rfl rfl
 have d0 : decide (o.kind = 0) = false := decide_eq_false hk
 cases hb : (match addedO pre o.note.id with | some a => decide (a.rec_ = o.rec_) | none => false) with
 | false =>
  rw [oneE_9 hE ha hk hb]
  cases hf : addedO pre o.note.id with
  | none =>
   rw [hf] at hA
   replace hA : PCalls Tryz.prog g 59 [encOps pre, vi o.note.id] (.tup [.agg (opC zeroOp), vb false]) := hA
   repeat' (first
    | ((with_reducible refine zu ?_); refine zc (zh (fun _ => zw rfl rfl rfl rfl rfl rfl rfl b0 m0 f0) rfl rfl) qb0 ?_)
    | refine st [] ?_
    | fail)
   exact retP rfl rfl
  | some a =>
   rw [hf] at hA hb
   replace hA : PCalls Tryz.prog g 59 [encOps pre, vi o.note.id] (.tup [.agg (opC a), vb true]) := hA
   have hr : (!decide (a.rec_ = o.rec_)) = true := by simpa using hb
   repeat' (first
    | ((with_reducible refine zu ?_); refine zc (zh (fun _ => zw rfl rfl rfl rfl rfl rfl rfl b0 m0 f0) rfl rfl) qb0 ?_)
    | refine st [] ?_
    | fail)
   exact retP rfl rfl
 | true =>
 obtain ⟨a, hf, hrec⟩ : ∃ a, addedO pre o.note.id = some a ∧ a.rec_ = o.rec_ := by
  cases hf : addedO pre o.note.id with
  | none => rw [hf] at hb; cases hb
  | some a => rw [hf] at hb; exact ⟨a, rfl, by simpa using hb⟩
 rw [hf] at hA
 replace hA : PCalls Tryz.prog g 59 [encOps pre, vi o.note.id] (.tup [.agg (opC a), vb true]) := hA
 have hr : (!decide (a.rec_ = o.rec_)) = false := by simp [hrec]
 repeat' (first
  | ((with_reducible refine zu ?_); refine zc (zh (fun _ => zw rfl rfl rfl rfl rfl rfl rfl b0 m0 f0) rfl rfl) qb0 ?_)
  | refine st [] ?_
  | ((with_reducible refine zl ?_); refine ze rfl (fun h => ?_) (fun h => ?_))
  | fail)
 refine zi (α := Nat) 0 (fun k => [(0, encOps l), (1, vi i), (5, .fp (opC o)), (9, vi k)]) (fun _ => []) (fun k => k ≤ o.over.length ∧ o.over.all (overOk pre o) = (o.over.drop k).all (overOk pre o)) (fun k => o.over.length - k) 0
  qw ⟨Nat.zero_le _, rfl⟩ ?_
 rintro k ⟨hkl, hall⟩
 cases ht : o.over[k]? with
 | none =>
  have hge : o.over.length ≤ k := by simpa using ht
  have c1 : decide ((k : Int) < o.over.length) = false := decide_eq_false (by omega)
  rw [List.drop_of_length_le hge] at hall
  rw [oneE_0 hE ha hk hb hall]
  refine runn [] ?_
  exact retP rfl rfl
 | some t =>
  have hltk : k < o.over.length := (List.getElem?_eq_some_iff.1 ht).1
  have c1 : decide ((k : Int) < o.over.length) = true := decide_eq_true (by omega)
  have g3 := Ze ht
  have h16 := JL hE
  rw [Yh _ _ k t ht] at hall
  repeat' (first
   | refine stn [] ?_
   | ((with_reducible refine zl ?_); refine ze rfl (fun h => ?_) (fun h => ?_))
   | fail)
  refine awp_cutB 0 [(0, encOps l), (1, vi i), (5, .fp (opC o)), (9, vi k), (10, vb (overOk pre o t))] [] ?_ ?_
  ·refine zi (α := Nat) 0 (fun j => [(0, encOps l), (1, vi i), (5, .fp (opC o)), (9, vi k), (10, vb (anyK (okF pre o t) j)), (11, vi j)]) (fun _ => []) (fun j => j ≤ 3) (fun j => 3 - j) 0
    qw (by omega) ?_
   intro j hj
   by_cases hj3 : j = 3
   ·subst hj3
    have c2 : decide (((3 : Nat) : Int) ≤ 2) = false := rfl
    refine runn [] ?_
    exact qw
   ·have c2 : decide ((j : Int) ≤ 2) = true := decide_eq_true (by omega)
    have hS := anyK_succ (okF pre o t) (j := j) (by omega)
    have hw := rWriter_spec (g := g) pre t o.note.id j hpl
    cases hacc : anyK (okF pre o t) j with
    | true =>
     rw [hacc, Bool.true_or] at hS
     repeat' (first
      | ((with_reducible refine zJ ?_); refine zC 27 (by simp only [List.take_succ_cons, List.take_zero, List.take_nil]; rfl) (by simp only [List.drop_succ_cons, List.drop_zero, List.drop_nil]; rfl) (by kernel_rfl) rfl rfl rfl rfl (by repeat' (first | exact Strip.nil | apply Strip.keep rfl | apply Strip.drop rfl)) ?_)
      | refine st [] ?_
      | fail)
     exact ⟨j + 1, ⟨(.cons rfl rfl (.cons rfl rfl (.cons rfl rfl (.cons rfl rfl (.cons rfl (by rw [hS]; rfl) (.cons rfl rfl .nil)))))), rfl, rfl, rfl⟩, by omega, by omega⟩
    | false =>
     rw [hacc, Bool.false_or] at hS
     by_cases k2 : o.kind = 2
     ·have e1 : decide (o.kind = 2) = true := decide_eq_true k2
      rw [okF, e1, Bool.true_or, Bool.true_and] at hS
      repeat' (first
       | ((with_reducible refine zu ?_); refine zc (zh (fun _ => zw rfl rfl rfl rfl rfl rfl rfl b0 m0 f0) rfl rfl) qb0 ?_)
       | ((with_reducible refine zp ?_); refine zd rfl rfl qa0 (zh (fun _ => zw rfl rfl rfl rfl rfl rfl rfl b0 m0 f0) rfl rfl) qb0 ?_)
       | ((with_reducible refine zJ ?_); refine zC 27 (by simp only [List.take_succ_cons, List.take_zero, List.take_nil]; rfl) (by simp only [List.drop_succ_cons, List.drop_zero, List.drop_nil]; rfl) (by kernel_rfl) rfl rfl rfl rfl (by repeat' (first | exact Strip.nil | apply Strip.keep rfl | apply Strip.drop rfl)) ?_)
       | refine st [] ?_
       | fail)
      exact ⟨j + 1, ⟨(.cons rfl rfl (.cons rfl rfl (.cons rfl rfl (.cons rfl rfl (.cons rfl (by rw [hS]; rfl) (.cons rfl rfl .nil)))))), rfl, rfl, rfl⟩, by omega, by omega⟩
     ·have e1 : decide (o.kind = 2) = false := decide_eq_false k2
      by_cases k3 : (j : Int) = o.set
      ·have e2 : decide ((j : Int) = o.set) = true := decide_eq_true k3
       rw [okF, e1, e2, Bool.false_or, Bool.true_and] at hS
       repeat' (first
        | ((with_reducible refine zu ?_); refine zc (zh (fun _ => zw rfl rfl rfl rfl rfl rfl rfl b0 m0 f0) rfl rfl) qb0 ?_)
        | ((with_reducible refine zp ?_); refine zd rfl rfl qa0 (zh (fun _ => zw rfl rfl rfl rfl rfl rfl rfl b0 m0 f0) rfl rfl) qb0 ?_)
        | ((with_reducible refine zJ ?_); refine zC 27 (by simp only [List.take_succ_cons, List.take_zero, List.take_nil]; rfl) (by simp only [List.drop_succ_cons, List.drop_zero, List.drop_nil]; rfl) (by kernel_rfl) rfl rfl rfl rfl (by repeat' (first | exact Strip.nil | apply Strip.keep rfl | apply Strip.drop rfl)) ?_)
        | refine st [] ?_
        | fail)
       exact ⟨j + 1, ⟨(.cons rfl rfl (.cons rfl rfl (.cons rfl rfl (.cons rfl rfl (.cons rfl (by rw [hS]; rfl) (.cons rfl rfl .nil)))))), rfl, rfl, rfl⟩, by omega, by omega⟩
      ·have e2 : decide ((j : Int) = o.set) = false := decide_eq_false k3
       rw [okF, e1, e2, Bool.false_or, Bool.false_and] at hS
       repeat' (first
        | ((with_reducible refine zJ ?_); refine zC 27 (by simp only [List.take_succ_cons, List.take_zero, List.take_nil]; rfl) (by simp only [List.drop_succ_cons, List.drop_zero, List.drop_nil]; rfl) (by kernel_rfl) rfl rfl rfl rfl (by repeat' (first | exact Strip.nil | apply Strip.keep rfl | apply Strip.drop rfl)) ?_)
        | refine st [] ?_
        | fail)
       exact ⟨j + 1, ⟨(.cons rfl rfl (.cons rfl rfl (.cons rfl rfl (.cons rfl rfl (.cons rfl (by rw [hS]; rfl) (.cons rfl rfl .nil)))))), rfl, rfl, rfl⟩, by omega, by omega⟩
  ·cases hov : overOk pre o t with
   | true =>
    rw [hov, Bool.true_and] at hall
    refine runn [] ?_
    exact ⟨k + 1, qw, ⟨by omega, hall⟩, by omega⟩
   | false =>
    rw [hov, Bool.false_and] at hall
    rw [oneE_27 hE ha hk hb hall]
    refine runn [] ?_
    exact retP rfl rfl
end
section
open Go.Ac
attribute [local irreducible] awp awpL Ev Ev2 EvS thenQ blockQ retQ PCalls OCalls YieldOk IterC
variable {g : List (Nat × List AV)}
theorem allE_nil (pre : List Op) : allE pre [] = 0 := by rw [allE]
theorem allE_bad {pre r : List Op} {o : Op} (h : oneE pre o ≠ 0) : allE pre (o :: r) = oneE pre o := by rw [allE, if_pos h]
theorem allE_ok {pre r : List Op} {o : Op} (h : oneE pre o = 0) : allE pre (o :: r) = allE (pre ++ [o]) r := by rw [allE, if_neg (by simpa using h)]
theorem Qr {α : Type} {l : List α} {k : Nat} {x : α} (h : l[k]? = some x) : l.take (k + 1) = l.take k ++ [x] := by rw [List.take_add_one, h]; rfl
theorem drop_get {α : Type} {l : List α} {k : Nat} {x : α} (h : l[k]? = some x) : l.drop k = x :: l.drop (k + 1) := by
 obtain ⟨_, rfl⟩ := List.getElem?_eq_some_iff.1 h
 exact List.drop_eq_getElem_cons (List.getElem?_eq_some_iff.1 h).1
theorem all_right {l : List Op} (h : allE [] l = 0) : ∀ o ∈ l, right o.at_ = true := by
 intro o ho
 obtain ⟨k, hk⟩ := List.getElem?_of_mem ho
 exact zO (Qw (Qd l [] h k o hk))
set_option maxRecDepth 4000 in
set_option maxHeartbeats 2000000 in
theorem jf (r : Replica) (hs : r.seen.length ≤ 1000000) (hid : Ids r.ops) : PCalls Tryz.prog g 8 [.agg (repC r)] (vi (repE r)) := by
 refine pcalls' Tryz.func8 Tryz.ntmps8 rfl rfl rfl ?_
 have n1 : (!true) = false := rfl
 have n2 : (!false) = true := rfl
 by_cases h1 : r.dev < 1
 ·have c1 : decide (r.dev < 1) = true := decide_eq_true h1
  refine runn [] ?_
  refine retP rfl ?_
  rw [repE, if_pos (by simp [within]; omega)]; rfl
 have c1 : decide (r.dev < 1) = false := decide_eq_false h1
 by_cases h2 : 15 < r.dev
 ·have c2 : decide (15 < r.dev) = true := decide_eq_true h2
  refine runn [] ?_
  refine retP rfl ?_
  rw [repE, if_pos (by simp [within]; omega)]; rfl
 have c2 : decide (15 < r.dev) = false := decide_eq_false h2
 have hw : ¬ within r.dev 1 15 = false := by simp [within]; omega
 by_cases h4 : 400 < r.ops.length
 ·have c3 : decide ((400 : Int) < r.ops.length) = true := decide_eq_true (by omega)
  refine runn [] ?_
  refine retP rfl ?_
  rw [repE, if_neg hw, if_pos h4]; rfl
 have c3 : decide ((400 : Int) < r.ops.length) = false := decide_eq_false (by omega)
 have hE : repE r = if allE [] r.ops ≠ 0 then allE [] r.ops else if r.seen ≠ seenL r.ops then 1 else 0 := by rw [repE, if_neg hw, if_neg h4]
 rw [hE]
 repeat' (first
  | refine stn [] ?_
  | ((with_reducible refine zl ?_); refine ze rfl (fun h => ?_) (fun h => ?_))
  | fail)
 refine zi (α := Nat) 0 (fun k => [(1, .fp (repC r)), (3, vi k)]) (fun _ => []) (fun k => k ≤ r.ops.length ∧ allE [] r.ops = allE (r.ops.take k) (r.ops.drop k)) (fun k => r.ops.length - k) 0
  qw ⟨Nat.zero_le _, rfl⟩ ?_
 rintro k ⟨hk, hf⟩
 cases ht : r.ops[k]? with
 | none =>
  have hge : r.ops.length ≤ k := by simpa using ht
  have c4 : decide ((k : Int) < r.ops.length) = false := decide_eq_false (by omega)
  rw [List.drop_of_length_le hge, allE_nil] at hf
  have hS := (rSeen_spec (g := g) r.ops (by omega) (all_right hf)).toP
  rw [List.length_map] at hS
  have hQ := yp (g := g) r.seen (seenL r.ops) hs (by rw [Zf]; omega)
  rw [hf, if_neg (by simp)]
  by_cases he : r.seen = seenL r.ops
  ·rw [decide_eq_true he] at hQ
   rw [if_neg (by simpa using he)]
   refine run [] ?_
   exact retP rfl rfl
  ·rw [decide_eq_false he] at hQ
   rw [if_pos he]
   refine run [] ?_
   exact retP rfl rfl
 | some o =>
  have hlt : k < r.ops.length := (List.getElem?_eq_some_iff.1 ht).1
  have c4 : decide ((k : Int) < r.ops.length) = true := decide_eq_true (by omega)
  have hO := rOne_spec (g := g) r.ops k o (by omega) ht (hid o (List.mem_of_getElem? ht))
  rw [drop_get ht] at hf
  by_cases he : oneE (r.ops.take k) o = 0
  ·have c5 : (!decide (oneE (r.ops.take k) o = 0)) = false := by simp [he]
   rw [allE_ok he, ← Qr ht] at hf
   refine runn [] ?_
   exact ⟨k + 1, qw, ⟨by omega, hf⟩, by omega⟩
  ·have c5 : (!decide (oneE (r.ops.take k) o = 0)) = true := by simp [he]
   rw [allE_bad he] at hf
   refine runn [] ?_
   refine retP rfl ?_
   rw [hf, if_pos he]; rfl
def light (r : Replica) : Bool := decide (r.ops.length ≤ 16) && (decide (r.seen.length ≤ 100) && decide (repE r = 0))
theorem JB (r : Replica) (hid : Ids r.ops) : PCalls Tryz.prog g 6 [.agg (repC r)] (vb (light r)) := by
 refine pcalls' Tryz.func6 Tryz.ntmps6 rfl rfl rfl ?_
 by_cases h1 : r.ops.length ≤ 16
 ·have c1 : decide ((r.ops.length : Int) ≤ 16) = true := decide_eq_true (by omega)
  by_cases h2 : r.seen.length ≤ 100
  ·have c2 : decide ((r.seen.length : Int) ≤ 100) = true := decide_eq_true (by omega)
   have hC := jf (g := g) r (by omega) hid
   refine runn [] ?_
   refine retP rfl ?_
   simp [ex, light, h1, h2]
  ·have c2 : decide ((r.seen.length : Int) ≤ 100) = false := decide_eq_false (by omega)
   refine runn [] ?_
   refine retP rfl ?_
   simp [ex, light, h2]
 ·have c1 : decide ((r.ops.length : Int) ≤ 16) = false := decide_eq_false (by omega)
  refine runn [] ?_
  refine retP rfl ?_
  simp [ex, light, h1]
end
section
open Go.Ac Go.MapKept
def GL : List (Nat × List AV) := [(0, [vi 0, vi 1, vi 2]), (1, firstCs), (2, acceptCs)]
theorem wT : Utf GL := ⟨List.mem_cons_of_mem _ (List.mem_cons_self ..), List.mem_cons_of_mem _ (List.mem_cons_of_mem _ (List.mem_cons_self ..))⟩
abbrev intV (n : Int) : Value := .int .i64 n
theorem intKey : KeyOk Tryz.prog 3 (IsKey (.int .i64)) := KeyOk.plain Tryz.underlying3
theorem Qy (a b : Int) (h : intV a = intV b) : a = b := by simpa [intV] using h
theorem Zw (n : Int) : ∀ c y, R c (vi n) y → y = intV n := by
 intro c y h; simpa only [R] using h
theorem zP (n : Int) : IsKey (.int .i64) (intV n) := rfl
def wkV (k : WK) : Value := .agg #[.int .i64 k.at_.count, .int .i64 k.at_.dev, .int .i64 k.note, .int .i64 k.f]
def isWkV (v : Value) : Prop := ∃ a b c d, v = .agg #[.int .i64 a, .int .i64 b, .int .i64 c, .int .i64 d]
abbrev wkC (s : Stamp) (n f : Int) : List AV := [.v (.int .i64 s.count), .v (.int .i64 s.dev), .v (.int .i64 n), .v (.int .i64 f)]
def wkEq : List Value → List Value → Option Bool
 | [.int .i64 a, .int .i64 b, .int .i64 c, .int .i64 d], [.int .i64 a', .int .i64 b', .int .i64 c', .int .i64 d'] => some ((a == a' && b == b') && (c == c' && d == d'))
 | _, _ => none
theorem wkEq_T : EqT Tryz.prog 174 wkEq := by
 intro xs ys b w h
 unfold wkEq at h
 split at h
 ·rename_i a b c d a' b' c' d'
  have h := Option.some.inj h
  subst h
  have u3 := Tryz.underlying3
  have a3 := Tryz.isAgg3
  have z3 := Tryz.sizeOf3
  have a7 := Tryz.isAgg77
  have z7 := Tryz.sizeOf77
  have hS : Tryz.prog.underlying 174 = some (.struct (Tryz.prog.fieldsOf 174)) := by kernel_rfl
  have hsp : ∀ w, (Op.equalIn 9999 77 (.agg #[.int .i64 a, .int .i64 b]) (.agg #[.int .i64 a', .int .i64 b'])).run Tryz.prog w = .ok (a == a' && b == b') w := by
   intro w
   rw [show (9999 : Nat) = 9998 + 1 from rfl, run_equalIn_agg w 9998 _ _ _ (show Tryz.prog.underlying 77 = some (.struct (Tryz.prog.fieldsOf 77)) by kernel_rfl) (by kernel_rfl)]
   simp only [Program.fieldsOf, Tryz.underlying77]
   go_simp
   by_cases h1 : a = a' <;> by_cases h2 : b = b' <;> simp [h1, h2]
  rw [show (10000 : Nat) = 9999 + 1 from rfl, run_equalIn_agg w 9999 _ _ _ hS (by kernel_rfl)]
  simp only [Program.fieldsOf, Tryz.underlying174]
  go_simp
  by_cases h1 : a = a' <;> by_cases h2 : b = b' <;> by_cases h3 : c = c' <;> by_cases h4 : d = d' <;> simp [h1, h2, h3, h4]
 ·cases h
theorem stamp_chkN (b : Bool) (n : Nat) (a c : Int) (w : World) : (Instr.checkKey b (n + 2) 77 (.agg #[.int .i64 a, .int .i64 c])).run Tryz.prog w = .ok () w := by
 have h1 := jY b n a w
 have h2 := jY b n c w
 have a3 := Tryz.isAgg3
 have z3 := Tryz.sizeOf3
 unfold Instr.checkKey
 simp only [Sem.run_bind, run_underlying Tryz.underlying77, Result.andThen_ok]
 have p0 : (part 3 #[Value.int IntKind.i64 a, Value.int IntKind.i64 c] 0).run Tryz.prog w = .ok (.int .i64 a) w := by simp [part, a3, Result.andThen]
 have p1 : (part 3 #[Value.int IntKind.i64 a, Value.int IntKind.i64 c] 1).run Tryz.prog w = .ok (.int .i64 c) w := by simp [part, a3, Result.andThen]
 simp [p0, p1, h1, h2, Result.andThen]
theorem wk_chk (b : Bool) (x y c d : Int) (w : World) : (Instr.checkKey b 10000 174 (.agg #[.int .i64 x, .int .i64 y, .int .i64 c, .int .i64 d])).run Tryz.prog w = .ok () w := by
 have h0 := stamp_chkN b 9997 x y w
 have h1 := jY b 9998 c w
 have h2 := jY b 9998 d w
 have a3 := Tryz.isAgg3
 have z3 := Tryz.sizeOf3
 have a7 := Tryz.isAgg77
 have z7 := Tryz.sizeOf77
 rw [show (10000 : Nat) = 9999 + 1 from rfl]
 unfold Instr.checkKey
 simp only [Sem.run_bind, run_underlying Tryz.underlying174, Result.andThen_ok]
 have p0 : (part 77 #[Value.int IntKind.i64 x, Value.int IntKind.i64 y, Value.int IntKind.i64 c, Value.int IntKind.i64 d] 0).run Tryz.prog w = .ok (.agg #[.int .i64 x, .int .i64 y]) w := by simp [part, a7, z7, Result.andThen]
 have p1 : (part 3 #[Value.int IntKind.i64 x, Value.int IntKind.i64 y, Value.int IntKind.i64 c, Value.int IntKind.i64 d] 2).run Tryz.prog w = .ok (.int .i64 c) w := by simp [part, a3, Result.andThen]
 have p2 : (part 3 #[Value.int IntKind.i64 x, Value.int IntKind.i64 y, Value.int IntKind.i64 c, Value.int IntKind.i64 d] 3).run Tryz.prog w = .ok (.int .i64 d) w := by simp [part, a3, Result.andThen]
 simp [p0, p1, p2, h0, h1, h2, Result.andThen]
theorem wkKey : KeyOk Tryz.prog 174 isWkV := by
 refine KeyOk.asks Tryz.underlying174 (fun a b _ _ => by rfl) (fun x y w hx hy => ?_) (fun b k w hk => ?_) (fun k hk => ?_)
 ·obtain ⟨a, b, c, d, rfl⟩ := hx
  obtain ⟨a', b', c', d', rfl⟩ := hy
  refine ⟨_, wkEq_T [.int .i64 a, .int .i64 b, .int .i64 c, .int .i64 d] [.int .i64 a', .int .i64 b', .int .i64 c', .int .i64 d'] _ w rfl, ?_⟩
  simp [and_assoc]
 ·obtain ⟨a, b', c, d, rfl⟩ := hk
  exact wk_chk b a b' c d w
 ·obtain ⟨a, b', c, d, rfl⟩ := hk
  simp [Instr.sameBits]
theorem wkV_inj (a b : WK) (h : wkV a = wkV b) : a = b := by
 rcases a with ⟨⟨a1, a2⟩, a3, a4⟩
 rcases b with ⟨⟨b1, b2⟩, b3, b4⟩
 simp [wkV] at h
 obtain ⟨h1, h2, h3, h4⟩ := h
 subst h1 h2 h3 h4; rfl
theorem agg_scal {cs : List AV} {xs : List Value} (h : scalL cs = some xs) : ∀ c y, R c (.agg cs) y → y = .agg xs.toArray := by
 intro c y hy
 simp only [R, RF] at hy
 obtain ⟨ys, rfl, h2⟩ := hy
 have := JI h h2
 congr 1
 apply Array.ext'
 rw [this]
theorem wkV_R (s : Stamp) (n f : Int) : ∀ c y, R c (.agg (wkC s n f)) y → y = wkV ⟨s, n, f⟩ := agg_scal rfl
theorem wl (k : WK) : isWkV (wkV k) := ⟨_, _, _, _, rfl⟩
def aks (m : List (Int × Int)) : List Value := m.map fun p => intV p.1
def axs (m : List (Int × Int)) : List AV := m.map fun p => vi p.2
def wks (m : List (WK × Unit)) : List Value := m.map fun p => wkV p.1
def wxs (m : List (WK × Unit)) : List AV := m.map fun _ => vb true
theorem aks_ok (m : List (Int × Int)) : ∀ k ∈ aks m, IsKey (.int .i64) k := by
 intro k hk
 obtain ⟨p, _, rfl⟩ := List.mem_map.1 hk
 exact zP _
theorem WW (m : List (WK × Unit)) : ∀ k ∈ wks m, isWkV k := by
 intro k hk
 obtain ⟨p, _, rfl⟩ := List.mem_map.1 hk
 exact wl _
theorem aks_nd {m : List (Int × Int)} (h : ANd m) : (aks m).Nodup := h.kv Qy
theorem wks_nd {m : List (WK × Unit)} (h : ANd m) : (wks m).Nodup := h.kv wkV_inj
theorem a_look (m : List (Int × Int)) (n : Int) : MLook (aks m) (axs m) (intV n) (vi 0) (vi ((aget m n).getD 0)) (aget m n).isSome := by
 have := qN (kv := intV) (va := fun v : Int => vi v) Qy m n (vi 0)
 cases h : aget m n with
 | none => rw [h] at this; exact this
 | some v => rw [h] at this; exact this
theorem w_look (m : List (WK × Unit)) (k : WK) : MLook (wks m) (wxs m) (wkV k) (vb false) (vb (aget m k).isSome) (aget m k).isSome := by
 have := qN (kv := wkV) (va := fun _ : Unit => vb true) wkV_inj m k (vb false)
 cases h : aget m k with
 | none => rw [h] at this; exact this
 | some v => rw [h] at this; exact this
theorem a_put (m : List (Int × Int)) (n v : Int) : MPut (aks m) (axs m) (intV n) (vi v) (aks (aput m n v)) (axs (aput m n v)) := Qv (kv := intV) (va := fun v : Int => vi v) Qy m n v
theorem w_put (m : List (WK × Unit)) (k : WK) : MPut (wks m) (wxs m) (wkV k) (vb true) (wks (aput m k ())) (wxs (aput m k ())) := Qv (kv := wkV) (va := fun _ : Unit => vb true) wkV_inj m k ()
end
section
open Go.Ac
theorem shp_str {td : TDs} {f t : Nat} {cs : List AV} (hk : (lk td t).map (fun d : TD => d.k) = some .str) (h : Shp td f t cs) : ∃ s, cs = [.v (.string s)] ∧ s.size ≤ maxLen := by
 cases f with
 | zero => exact absurd h (by simp [Shp])
 | succ f => simp only [Shp, hk] at h; exact h
theorem shp_int {td : TDs} {f t : Nat} {k : IntKind} {cs : List AV} (hk : (lk td t).map (fun d : TD => d.k) = some (.int k)) (h : Shp td f t cs) : ∃ n, cs = [.v (.int k n)] ∧ (Lit.int k n).wf = true := by
 cases f with
 | zero => exact absurd h (by simp [Shp])
 | succ f => simp only [Shp, hk] at h; exact h
theorem wf64 {n : Int} (h : (Lit.int .i64 n).wf = true) : I64 n := by
 simp only [Lit.wf, Bool.and_eq_true, decide_eq_true_eq] at h
 have h1 : IntKind.i64.min = -9223372036854775808 := by decide
 have h2 : IntKind.i64.max = 9223372036854775807 := by decide
 rw [h1, h2] at h
 exact h
theorem shp_slice {α : Type} {e f t sz0 : Nat} {cs : List AV} {enc : α → List AV} {ok : α → Prop} (hk : (lk td t).map (fun d : TD => d.k) = some (.slice e)) (hz : (lk td e).map (fun d : TD => d.size) = some sz0)
  (he : ∀ {f : Nat} {x : List AV}, Shp td f e x → ∃ a, x = enc a ∧ ok a) (h : Shp td f t cs) : ∃ l : List α, cs = [.fs sz0 l.length (l.map enc)] ∧ l.length ≤ maxLen ∧ ∀ a ∈ l, ok a := by
 cases f with
 | zero => exact absurd h (by simp [Shp])
 | succ f =>
  simp only [Shp, hk] at h
  obtain ⟨sz, es, h1, rfl, hlen, hx⟩ := h
  rw [hz] at h1
  injection h1 with h1
  subst h1
  have : ∃ l : List α, es = l.map enc ∧ ∀ a ∈ l, ok a := by
   clear hlen
   induction es with
   | nil => exact ⟨[], rfl, by simp⟩
   | cons x r ih =>
    obtain ⟨t, rfl, ht⟩ := he (hx x (by simp))
    obtain ⟨l, rfl, hl⟩ := ih (fun y hy => hx y (by simp [hy]))
    refine ⟨t :: l, rfl, fun u hu => ?_⟩
    rcases List.mem_cons.1 hu with rfl | hu
    ·exact ht
    ·exact hl u hu
  obtain ⟨l, rfl, hl⟩ := this
  exact ⟨l, by simp, by simpa using hlen, hl⟩
end
end Go.Proofs.YtcfkokllinkigaaGreatDoor
