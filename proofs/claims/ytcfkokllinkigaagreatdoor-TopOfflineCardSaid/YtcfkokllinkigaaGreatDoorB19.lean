/- A logic of trees over the model's steps, and the contracts of the functions that the laws reach: part 19 of 29. -/
import Derived.Test.YtcfkokllinkigaaGreatDoorB18
set_option linter.unusedVariables false
set_option linter.unusedSimpArgs false
set_option linter.unusedSectionVars false
set_option linter.unnecessarySimpa false
namespace Go.Proofs.YtcfkokllinkigaaGreatDoor
section
open Go.Ac
attribute [local irreducible] awp awpL Ev Ev2 EvS thenQ blockQ retQ PCalls OCalls ICalls awpR awpS
variable {g : List (Nat × List AV)}
abbrev ve : AV := .v (.string .empty)
def zOp : List AV := [vi 0, vi 0, vi 0, vi 0, vi 0, vi 0, vi 0, vi 0, vi 0, vi 0, ve, vi 0, vi 0, ve, nilB]
def fieldsO (o : Op) : List Int := [o.kind, o.rec_, o.note.id, o.note.tier, o.note.parent, o.note.span.fro, o.note.span.til, o.note.rank]
def preK (o : Op) (k : Nat) : List UInt8 := vstamp o.at_ ++ manyB (fieldsO o) k
def oc8 (o : Op) (k : Nat) : List AV := [vi o.at_.count, vi o.at_.dev] ++ ((fieldsO o).take k).map (fun n => vi n) ++ List.replicate (8 - k) (vi 0) ++ [ve, vi 0, vi 0, ve, nilB]
def ptrs : List AV := [.lp 2 2, .lp 2 3, .lp 2 4, .lp 2 5, .lp 2 6, .lp 2 7, .lp 2 8, .lp 2 9]
theorem preK_succ {o : Op} {k : Nat} {x : Int} (h : (fieldsO o)[k]? = some x) : (preK o (k + 1)).length = (preK o k).length + (vint x).length := by
 unfold preK
 rw [yK h]; simp only [List.length_append]; omega
theorem oc8_0 (o : Op) : oc8 o 0 = [vi o.at_.count, vi o.at_.dev, vi 0, vi 0, vi 0, vi 0, vi 0, vi 0, vi 0, vi 0, ve, vi 0, vi 0, ve, nilB] := rfl
theorem oc8_1 (o : Op) : oc8 o 1 = [vi o.at_.count, vi o.at_.dev, vi o.kind, vi 0, vi 0, vi 0, vi 0, vi 0, vi 0, vi 0, ve, vi 0, vi 0, ve, nilB] := rfl
theorem oc8_2 (o : Op) : oc8 o 2 = [vi o.at_.count, vi o.at_.dev, vi o.kind, vi o.rec_, vi 0, vi 0, vi 0, vi 0, vi 0, vi 0, ve, vi 0, vi 0, ve, nilB] := rfl
theorem oc8_3 (o : Op) : oc8 o 3 = [vi o.at_.count, vi o.at_.dev, vi o.kind, vi o.rec_, vi o.note.id, vi 0, vi 0, vi 0, vi 0, vi 0, ve, vi 0, vi 0, ve, nilB] := rfl
theorem oc8_4 (o : Op) : oc8 o 4 = [vi o.at_.count, vi o.at_.dev, vi o.kind, vi o.rec_, vi o.note.id, vi o.note.tier, vi 0, vi 0, vi 0, vi 0, ve, vi 0, vi 0, ve, nilB] := rfl
theorem oc8_5 (o : Op) : oc8 o 5 = [vi o.at_.count, vi o.at_.dev, vi o.kind, vi o.rec_, vi o.note.id, vi o.note.tier, vi o.note.parent, vi 0, vi 0, vi 0, ve, vi 0, vi 0, ve, nilB] := rfl
theorem oc8_6 (o : Op) : oc8 o 6 = [vi o.at_.count, vi o.at_.dev, vi o.kind, vi o.rec_, vi o.note.id, vi o.note.tier, vi o.note.parent, vi o.note.span.fro, vi 0, vi 0, ve, vi 0, vi 0, ve, nilB] := rfl
theorem oc8_7 (o : Op) : oc8 o 7 = [vi o.at_.count, vi o.at_.dev, vi o.kind, vi o.rec_, vi o.note.id, vi o.note.tier, vi o.note.parent, vi o.note.span.fro, vi o.note.span.til, vi 0, ve, vi 0, vi 0, ve, nilB] := rfl
theorem oc8_8 (o : Op) : oc8 o 8 = [vi o.at_.count, vi o.at_.dev, vi o.kind, vi o.rec_, vi o.note.id, vi o.note.tier, vi o.note.parent, vi o.note.span.fro, vi o.note.span.til, vi o.note.rank, ve, vi 0, vi 0, ve, nilB] := rfl
def posK (o : Op) : Nat → Nat
 | 0 => ([] : List UInt8).length + (vstamp o.at_).length
 | k + 1 => posK o k + (vint ((fieldsO o)[k]?.getD 0)).length
theorem qp (o : Op) : ∀ k, k ≤ 8 → posK o k = (preK o k).length
 | 0, _ => by simp [posK, preK, manyB]
 | k + 1, h => by
  have hl : (fieldsO o).length = 8 := rfl
  have hk : (fieldsO o)[k]? = some ((fieldsO o)[k]'(by omega)) := List.getElem?_eq_getElem (by omega)
  rw [posK, qp o k (by omega), preK_succ hk, hk]; rfl
theorem ZJ {o : Op} (h : OpF o) : ∀ n ∈ fieldsO o, Nm n := fun n hn => h.head n (by
 unfold headN; unfold fieldsO at hn
 exact List.mem_cons_of_mem _ (List.mem_cons_of_mem _ hn))
def tailO (o : Op) : List UInt8 := vtext o.note.text ++ vint o.set ++ vint o.n ++ vtext o.text ++ vint o.over.length ++ o.over.flatMap vstamp
theorem Jr (o : Op) : opBy o = vstamp o.at_ ++ (fieldsO o).flatMap vint ++ tailO o := by
 unfold opBy tailO headN fieldsO vstamp
 simp [List.flatMap_cons]
theorem Qh {o : Op} {k : Nat} {x : Int} (h : (fieldsO o)[k]? = some x) : opBy o = preK o k ++ vint x ++ (((fieldsO o).drop (k + 1)).flatMap vint ++ tailO o) := by
 rw [Jr]
 have : fieldsO o = (fieldsO o).take k ++ (x :: (fieldsO o).drop (k + 1)) := by
  obtain ⟨q1, q2⟩ := List.getElem?_eq_some_iff.1 h
  conv => lhs; rw [← List.take_append_drop k (fieldsO o), List.drop_eq_getElem_cons q1, q2]
 unfold preK manyB
 conv => lhs; rw [this]
 simp [List.flatMap_append, List.flatMap_cons]
set_option maxRecDepth 8000 in
set_option maxHeartbeats 8000000 in
theorem From_spec (hu : Utf g) (o : Op) (ho : opE o = 0) (hid : I64 o.note.id) : PCalls Tryz.prog g 115 [encBy (opBy o)] (.tup [.agg (opC o), vi 0]) := by
 have hC := Op_spec hu o hid
 rw [ho] at hC
 have hF := jP ho
 have hlen := jk hF
 have z0 : (!decide ((0 : Int) = 0)) = false := rfl
 have hs0 := stamp_0 (g := g) (b := opBy o) (pre := []) (rest := (fieldsO o).flatMap vint ++ tailO o) (zO ho) (by rw [Jr]; simp) (by omega) zOp [] [] rfl rfl rfl
 generalize hbb : opBy o = b at *
 refine pcalls' Tryz.func115 Tryz.ntmps115 rfl rfl rfl ?_
 repeat' (first
  | ((with_reducible refine zg ?_); (first | refine zk (ev_bslice_row (cs := ptrs) rfl rfl rfl rfl rfl rfl rfl rfl rfl rfl rfl rfl) rfl ?_ | refine zb (ev_len_row rfl rfl rfl rfl rfl rfl) rfl ?_ | refine zv rfl hs0 rfl ?_))
  | refine stn [2, 5, 13] ?_
  | fail)
 refine zi (α := Nat) 4 (fun k => [(0, encBy b), (2, .lp 0 0), (4, .lp 1 0), (5, .lp 2 0), (33, .os 3 0), (34, vi 8), (35, vi k)]) (fun k => [.box zOp, rdB b (posK o k), .box (oc8 o k), .row ptrs]) (fun k => k ≤ 8) (fun k => 8 - k) 0
  qw (Nat.zero_le _) ?_
 intro k hk
 by_cases h8 : k = 8
 ·subst h8
  have d1 : decide (((8 : Nat) : Int) < 8) = false := rfl
  have hp8 := qp o 8 (Nat.le_refl _)
  have hpre : preK o 8 = vstamp o.at_ ++ (fieldsO o).flatMap vint := rfl
  have hsp := Jr o
  rw [hbb, ← hpre] at hsp
  unfold tailO at hsp
  have ht1 := text_A (g := g) (s := o.note.text) hF.nt (show b = preK o 8 ++ vtext o.note.text ++ (vint o.set ++ vint o.n ++ vtext o.text ++ vint o.over.length ++ o.over.flatMap vstamp) by rw [hsp]; simp) (by omega) zOp (oc8 o 8) ptrs [] rfl rfl rfl
  rw [← hp8, oc8_8] at ht1
  rw [oc8_8]
  have ht2 := ZI (g := g) (n := o.set) (by have := hF.set; unfold Nm; omega) (show b = (preK o 8 ++ vtext o.note.text) ++ vint o.set ++ (vint o.n ++ vtext o.text ++ vint o.over.length ++ o.over.flatMap vstamp) by rw [hsp]; simp) (by omega) zOp [vi o.at_.count, vi o.at_.dev, vi o.kind, vi o.rec_, vi o.note.id, vi o.note.tier, vi o.note.parent, vi o.note.span.fro, vi o.note.span.til, vi o.note.rank, vs o.note.text, vi 0, vi 0, ve, nilB] ptrs [] rfl rfl rfl rfl
  have ht3 := ZI (g := g) (n := o.n) (by have := hF.n; unfold Nm; omega) (show b = (preK o 8 ++ vtext o.note.text ++ vint o.set) ++ vint o.n ++ (vtext o.text ++ vint o.over.length ++ o.over.flatMap vstamp) by rw [hsp]; simp) (by omega) zOp [vi o.at_.count, vi o.at_.dev, vi o.kind, vi o.rec_, vi o.note.id, vi o.note.tier, vi o.note.parent, vi o.note.span.fro, vi o.note.span.til, vi o.note.rank, vs o.note.text, vi 0, vi 0, ve, nilB] ptrs [] rfl rfl rfl rfl
  have ht4 := text_A (g := g) (s := o.text) hF.tx (show b = (preK o 8 ++ vtext o.note.text ++ vint o.set ++ vint o.n) ++ vtext o.text ++ (vint o.over.length ++ o.over.flatMap vstamp) by rw [hsp]; simp) (by omega) zOp [vi o.at_.count, vi o.at_.dev, vi o.kind, vi o.rec_, vi o.note.id, vi o.note.tier, vi o.note.parent, vi o.note.span.fro, vi o.note.span.til, vi o.note.rank, vs o.note.text, vi o.set, vi o.n, ve, nilB] ptrs [] rfl rfl rfl
  have ht5 := ZI (g := g) (n := o.over.length) (by have := hF.ol; unfold Nm; omega) (show b = (preK o 8 ++ vtext o.note.text ++ vint o.set ++ vint o.n ++ vtext o.text) ++ vint o.over.length ++ (o.over.flatMap vstamp) by rw [hsp]; simp) (by omega) zOp [vi o.at_.count, vi o.at_.dev, vi o.kind, vi o.rec_, vi o.note.id, vi o.note.tier, vi o.note.parent, vi o.note.span.fro, vi o.note.span.til, vi o.note.rank, vs o.note.text, vi o.set, vi o.n, vs o.text, nilB] ptrs [] rfl rfl rfl rfl
  rw [List.length_append, ← hp8] at ht2
  rw [List.length_append, List.length_append, ← hp8] at ht3
  rw [List.length_append, List.length_append, List.length_append, ← hp8] at ht4
  rw [List.length_append, List.length_append, List.length_append, List.length_append, ← hp8] at ht5
  have hbl : b.length = posK o 8 + (vtext o.note.text).length + (vint o.set).length + (vint o.n).length + (vtext o.text).length + (vint o.over.length).length + (o.over.flatMap vstamp).length := by
   rw [hsp, hp8]; simp only [List.length_append]; omega
  have hov : b = (preK o 8 ++ vtext o.note.text ++ vint o.set ++ vint o.n ++ vtext o.text ++ vint o.over.length) ++ o.over.flatMap vstamp := by rw [hsp]; simp
  have hpl : (preK o 8 ++ vtext o.note.text ++ vint o.set ++ vint o.n ++ vtext o.text ++ vint o.over.length).length = posK o 8 + (vtext o.note.text).length + (vint o.set).length + (vint o.n).length + (vtext o.text).length + (vint o.over.length).length := by
   rw [hp8]; simp only [List.length_append]
  generalize preK o 8 ++ vtext o.note.text ++ vint o.set ++ vint o.n ++ vtext o.text ++ vint o.over.length = pov at hov hpl
  generalize posK o 8 = q0 at *
  have ho16 := hF.ol
  have z00 : decide ((0 : Int) = 0) = true := rfl
  have b1 : decide ((o.over.length : Int) < 0) = false := decide_eq_false (by omega)
  have b2 : decide ((16 : Int) < (o.over.length : Int)) = false := decide_eq_false (by omega)
  repeat' (first
   | ((with_reducible refine zg ?_); (first | refine zv rfl ht1 rfl ?_ | refine zv rfl ht2 rfl ?_ | refine zv rfl ht3 rfl ?_ | refine zv rfl ht4 rfl ?_ | refine zv rfl ht5 rfl ?_))
   | refine stn [2, 5, 13] ?_
   | fail)
  refine qk 2 14 77 2 rfl rfl rfl rfl ?_
  generalize q0 + (vtext o.note.text).length + (vint o.set).length + (vint o.n).length + (vtext o.text).length + (vint o.over.length).length = q5 at *
  clear ht1 ht2 ht3 ht4 ht5
  refine zi (α := Nat) 5 (fun j => [(0, encBy b), (2, .lp 0 0), (4, .lp 1 0), (5, .lp 2 0), (8, vi o.over.length), (9, vi j)]) (fun j => [.box zOp, rdB b (q5 + ((o.over.take j).flatMap vstamp).length), .box [vi o.at_.count, vi o.at_.dev, vi o.kind, vi o.rec_, vi o.note.id, vi o.note.tier, vi o.note.parent, vi o.note.span.fro, vi o.note.span.til, vi o.note.rank, vs o.note.text, vi o.set, vi o.n, vs o.text, .os 4 0], .row ptrs, .own 0 77 2 ((o.over.take j).map stampC)]) (fun j => j ≤ o.over.length) (fun j => o.over.length - j) 0
   qw (Nat.zero_le _) ?_
  intro j hj
  cases hs : o.over[j]? with
  | some x =>
   have hlt := (List.getElem?_eq_some_iff.1 hs).1
   have d2 : decide ((j : Int) < o.over.length) = true := decide_eq_true (by omega)
   have htk : o.over.take (j + 1) = o.over.take j ++ [x] := by rw [List.take_add_one, hs]; rfl
   have hpj : (pov ++ (o.over.take j).flatMap vstamp).length = q5 + ((o.over.take j).flatMap vstamp).length := by rw [List.length_append, hpl]
   have hsplit : b = (pov ++ (o.over.take j).flatMap vstamp) ++ vstamp x ++ (o.over.drop (j + 1)).flatMap vstamp := by
    rw [hov]
    have : o.over = o.over.take j ++ (x :: o.over.drop (j + 1)) := by
     obtain ⟨r1, r2⟩ := List.getElem?_eq_some_iff.1 hs
     conv => lhs; rw [← List.take_append_drop j o.over, List.drop_eq_getElem_cons r1, r2]
    conv => lhs; rw [this]
    simp [List.flatMap_append, List.flatMap_cons]
   have hS := stamp_O (g := g) (s := x) (hF.over x (List.mem_of_getElem? hs)) hsplit (by omega) 0 ((o.over.take j).map stampC) zOp [vi o.at_.count, vi o.at_.dev, vi o.kind, vi o.rec_, vi o.note.id, vi o.note.tier, vi o.note.parent, vi o.note.span.fro, vi o.note.span.til, vi o.note.rank, vs o.note.text, vi o.set, vi o.n, vs o.text, .os 4 0] ptrs rfl rfl rfl
   rw [hpj] at hS
   have hj2 : (o.over.take j).map stampC ++ [stampC x] = (o.over.take (j + 1)).map stampC := by rw [htk]; simp
   have hq : q5 + ((o.over.take (j + 1)).flatMap vstamp).length = q5 + ((o.over.take j).flatMap vstamp).length + (vstamp x).length := by
    rw [htk]; simp only [List.flatMap_append, List.flatMap_cons, List.flatMap_nil, List.append_nil, List.length_append]; omega
   have hll : ((o.over.take j).map stampC).length ≤ 16 := by rw [List.length_map, List.length_take]; omega
   repeat' (first
    | refine Yd rfl rfl rfl ?_
    | refine awpS_end rfl ?_
    | refine awpS_1 rfl rfl ?_
    | refine awpS_2 rfl rfl rfl ?_ ?_
    | refine nextS_n ?_
    | ((with_reducible refine zg ?_); (first | refine zv rfl hS rfl ?_ | refine zk (zZ (es' := (o.over.take (j + 1)).map stampC) rfl rfl rfl rfl rfl rfl rfl rfl rfl rfl rfl rfl rfl qe0 hj2 rfl) rfl ?_))
    | refine stn [2, 5, 13] ?_
    | fail)
   all_goals
    refine ⟨j + 1, ?_, by omega, by omega⟩
    rw [hq]
    exact qw
  | none =>
   have hge : o.over.length ≤ j := by simpa using hs
   have hje : j = o.over.length := by omega
   subst hje
   have d2 : decide ((o.over.length : Int) < o.over.length) = false := decide_eq_false (by omega)
   rw [List.take_length]
   have hbe : q5 + (o.over.flatMap vstamp).length = b.length := by rw [hov, List.length_append, hpl]
   rw [hbe]
   have d3 : decide ((b.length : Int) < (b.length : Int)) = false := decide_eq_false (by omega)
   have hx : exL [.box zOp, rdB b b.length, .box [vi o.at_.count, vi o.at_.dev, vi o.kind, vi o.rec_, vi o.note.id, vi o.note.tier, vi o.note.parent, vi o.note.span.fro, vi o.note.span.til, vi o.note.rank, vs o.note.text, vi o.set, vi o.n, vs o.text, .os 4 0], .row ptrs, .own 0 77 2 (o.over.map stampC)] [.lag [vi o.at_.count, vi o.at_.dev, vi o.kind, vi o.rec_, vi o.note.id, vi o.note.tier, vi o.note.parent, vi o.note.span.fro, vi o.note.span.til, vi o.note.rank, vs o.note.text, vi o.set, vi o.n, vs o.text, .os 4 0]] = [.agg (opC o)] := by
    simp [exL, ex, opC]
   have hf1 := yW (g := g) [0, 0] (by simp)
   rw [show firstE [0, 0] = 0 from rfl] at hf1
   repeat' (first
    | ((with_reducible refine zu ?_); refine zc (as_callS rfl qd0 rfl hx hC rfl rfl rfl) qb0 ?_)
    | ((with_reducible refine zp ?_); refine zd rfl rfl qa0 (as_callS rfl qd0 rfl hx hC rfl rfl rfl) qb0 ?_)
    | refine st [2, 5, 13] ?_
    | fail)
   refine retP rfl ?_
   simp [ex, exL, opC, zOp]
 rcases (by omega : k = 0 ∨ k = 1 ∨ k = 2 ∨ k = 3 ∨ k = 4 ∨ k = 5 ∨ k = 6 ∨ k = 7) with rfl | rfl | rfl | rfl | rfl | rfl | rfl | rfl
 ·have hx : (fieldsO o)[0]? = some o.kind := rfl
  have hb := Qh hx
  rw [hbb] at hb
  have hN := ZI (g := g) (ZJ hF o.kind (List.mem_of_getElem? hx)) hb (by omega) zOp (oc8 o 0) ptrs [] rfl rfl rfl rfl
  rw [← qp o 0 (by omega)] at hN
  have d1 : decide (((0 : Nat) : Int) < 8) = true := rfl
  have hc : (0 : Int) ≤ ((0 : Nat) : Int) ∧ ((0 : Nat) : Int) < ptrs.length := by decide
  rw [oc8_0] at hN ⊢
  repeat' (first
   | ((with_reducible refine zg ?_); (first | refine zb (Z6 (j := 0) rfl rfl rfl rfl rfl rfl rfl hc rfl) rfl ?_ | refine zb (Z2 rfl rfl rfl rfl rfl) rfl ?_ | refine zv rfl hN rfl ?_))
   | refine stn [2, 5, 13] ?_
   | fail)
  exact ⟨0 + 1, qw, by omega, by omega⟩
 ·have hx : (fieldsO o)[1]? = some o.rec_ := rfl
  have hb := Qh hx
  rw [hbb] at hb
  have hN := ZI (g := g) (ZJ hF o.rec_ (List.mem_of_getElem? hx)) hb (by omega) zOp (oc8 o 1) ptrs [] rfl rfl rfl rfl
  rw [← qp o 1 (by omega)] at hN
  have d1 : decide (((1 : Nat) : Int) < 8) = true := rfl
  have hc : (0 : Int) ≤ ((1 : Nat) : Int) ∧ ((1 : Nat) : Int) < ptrs.length := by decide
  rw [oc8_1] at hN ⊢
  repeat' (first
   | ((with_reducible refine zg ?_); (first | refine zb (Z6 (j := 1) rfl rfl rfl rfl rfl rfl rfl hc rfl) rfl ?_ | refine zb (Z2 rfl rfl rfl rfl rfl) rfl ?_ | refine zv rfl hN rfl ?_))
   | refine stn [2, 5, 13] ?_
   | fail)
  exact ⟨1 + 1, qw, by omega, by omega⟩
 ·have hx : (fieldsO o)[2]? = some o.note.id := rfl
  have hb := Qh hx
  rw [hbb] at hb
  have hN := ZI (g := g) (ZJ hF o.note.id (List.mem_of_getElem? hx)) hb (by omega) zOp (oc8 o 2) ptrs [] rfl rfl rfl rfl
  rw [← qp o 2 (by omega)] at hN
  have d1 : decide (((2 : Nat) : Int) < 8) = true := rfl
  have hc : (0 : Int) ≤ ((2 : Nat) : Int) ∧ ((2 : Nat) : Int) < ptrs.length := by decide
  rw [oc8_2] at hN ⊢
  repeat' (first
   | ((with_reducible refine zg ?_); (first | refine zb (Z6 (j := 2) rfl rfl rfl rfl rfl rfl rfl hc rfl) rfl ?_ | refine zb (Z2 rfl rfl rfl rfl rfl) rfl ?_ | refine zv rfl hN rfl ?_))
   | refine stn [2, 5, 13] ?_
   | fail)
  exact ⟨2 + 1, qw, by omega, by omega⟩
 ·have hx : (fieldsO o)[3]? = some o.note.tier := rfl
  have hb := Qh hx
  rw [hbb] at hb
  have hN := ZI (g := g) (ZJ hF o.note.tier (List.mem_of_getElem? hx)) hb (by omega) zOp (oc8 o 3) ptrs [] rfl rfl rfl rfl
  rw [← qp o 3 (by omega)] at hN
  have d1 : decide (((3 : Nat) : Int) < 8) = true := rfl
  have hc : (0 : Int) ≤ ((3 : Nat) : Int) ∧ ((3 : Nat) : Int) < ptrs.length := by decide
  rw [oc8_3] at hN ⊢
  repeat' (first
   | ((with_reducible refine zg ?_); (first | refine zb (Z6 (j := 3) rfl rfl rfl rfl rfl rfl rfl hc rfl) rfl ?_ | refine zb (Z2 rfl rfl rfl rfl rfl) rfl ?_ | refine zv rfl hN rfl ?_))
   | refine stn [2, 5, 13] ?_
   | fail)
  exact ⟨3 + 1, qw, by omega, by omega⟩
 ·have hx : (fieldsO o)[4]? = some o.note.parent := rfl
  have hb := Qh hx
  rw [hbb] at hb
  have hN := ZI (g := g) (ZJ hF o.note.parent (List.mem_of_getElem? hx)) hb (by omega) zOp (oc8 o 4) ptrs [] rfl rfl rfl rfl
  rw [← qp o 4 (by omega)] at hN
  have d1 : decide (((4 : Nat) : Int) < 8) = true := rfl
  have hc : (0 : Int) ≤ ((4 : Nat) : Int) ∧ ((4 : Nat) : Int) < ptrs.length := by decide
  rw [oc8_4] at hN ⊢
  repeat' (first
   | ((with_reducible refine zg ?_); (first | refine zb (Z6 (j := 4) rfl rfl rfl rfl rfl rfl rfl hc rfl) rfl ?_ | refine zb (Z2 rfl rfl rfl rfl rfl) rfl ?_ | refine zv rfl hN rfl ?_))
   | refine stn [2, 5, 13] ?_
   | fail)
  exact ⟨4 + 1, qw, by omega, by omega⟩
 ·have hx : (fieldsO o)[5]? = some o.note.span.fro := rfl
  have hb := Qh hx
  rw [hbb] at hb
  have hN := ZI (g := g) (ZJ hF o.note.span.fro (List.mem_of_getElem? hx)) hb (by omega) zOp (oc8 o 5) ptrs [] rfl rfl rfl rfl
  rw [← qp o 5 (by omega)] at hN
  have d1 : decide (((5 : Nat) : Int) < 8) = true := rfl
  have hc : (0 : Int) ≤ ((5 : Nat) : Int) ∧ ((5 : Nat) : Int) < ptrs.length := by decide
  rw [oc8_5] at hN ⊢
  repeat' (first
   | ((with_reducible refine zg ?_); (first | refine zb (Z6 (j := 5) rfl rfl rfl rfl rfl rfl rfl hc rfl) rfl ?_ | refine zb (Z2 rfl rfl rfl rfl rfl) rfl ?_ | refine zv rfl hN rfl ?_))
   | refine stn [2, 5, 13] ?_
   | fail)
  exact ⟨5 + 1, qw, by omega, by omega⟩
 ·have hx : (fieldsO o)[6]? = some o.note.span.til := rfl
  have hb := Qh hx
  rw [hbb] at hb
  have hN := ZI (g := g) (ZJ hF o.note.span.til (List.mem_of_getElem? hx)) hb (by omega) zOp (oc8 o 6) ptrs [] rfl rfl rfl rfl
  rw [← qp o 6 (by omega)] at hN
  have d1 : decide (((6 : Nat) : Int) < 8) = true := rfl
  have hc : (0 : Int) ≤ ((6 : Nat) : Int) ∧ ((6 : Nat) : Int) < ptrs.length := by decide
  rw [oc8_6] at hN ⊢
  repeat' (first
   | ((with_reducible refine zg ?_); (first | refine zb (Z6 (j := 6) rfl rfl rfl rfl rfl rfl rfl hc rfl) rfl ?_ | refine zb (Z2 rfl rfl rfl rfl rfl) rfl ?_ | refine zv rfl hN rfl ?_))
   | refine stn [2, 5, 13] ?_
   | fail)
  exact ⟨6 + 1, qw, by omega, by omega⟩
 ·have hx : (fieldsO o)[7]? = some o.note.rank := rfl
  have hb := Qh hx
  rw [hbb] at hb
  have hN := ZI (g := g) (ZJ hF o.note.rank (List.mem_of_getElem? hx)) hb (by omega) zOp (oc8 o 7) ptrs [] rfl rfl rfl rfl
  rw [← qp o 7 (by omega)] at hN
  have d1 : decide (((7 : Nat) : Int) < 8) = true := rfl
  have hc : (0 : Int) ≤ ((7 : Nat) : Int) ∧ ((7 : Nat) : Int) < ptrs.length := by decide
  rw [oc8_7] at hN ⊢
  repeat' (first
   | ((with_reducible refine zg ?_); (first | refine zb (Z6 (j := 7) rfl rfl rfl rfl rfl rfl rfl hc rfl) rfl ?_ | refine zb (Z2 rfl rfl rfl rfl rfl) rfl ?_ | refine zv rfl hN rfl ?_))
   | refine stn [2, 5, 13] ?_
   | fail)
  exact ⟨7 + 1, qw, by omega, by omega⟩
end
section
open Go.Ac
attribute [local irreducible] awp awpL Ev Ev2 EvS thenQ blockQ retQ PCalls OCalls ICalls
variable {g : List (Nat × List AV)}
def entryB (o : Op) : List UInt8 := frameB (opBy o)
def jour (l : List Op) : List UInt8 := l.flatMap entryB
theorem yZ {o : Op} (h : opE o = 0) : (entryB o).length ≤ 1012 := by
 have := jk (jP h)
 have h2 := zN (n := (opBy o).length) (by omega)
 rw [entryB, qi]; omega
theorem jt : ∀ {l : List Op}, (∀ o ∈ l, opE o = 0) → (jour l).length ≤ 1012 * l.length
 | [], _ => by simp [jour]
 | x :: r, h => by
  have h1 := jt (l := r) fun o ho => h o (List.mem_cons_of_mem _ ho)
  have h2 := yZ (h x (List.mem_cons_self ..))
  unfold jour at *
  simp only [List.flatMap_cons, List.length_append, List.length_cons]; omega
theorem jour_snoc (l : List Op) (o : Op) : jour (l ++ [o]) = jour l ++ entryB o := by simp [jour]
theorem Entry_spec (hu : Utf g) (o : Op) (ho : opE o = 0) (hid : I64 o.note.id) : PCalls Tryz.prog g 55 [.agg (opC o)] (.tup [encBy (entryB o), vi 0]) := by
 have hB := Bytes_spec hu o ho hid
 have hl := jk (jP ho)
 have hS := Seal_spec (g := g) (opBy o) (by omega)
 have z0 : (!decide ((0 : Int) = 0)) = false := rfl
 refine pcalls' Tryz.func55 Tryz.ntmps55 rfl rfl rfl ?_
 refine runn [] ?_
 exact retP rfl rfl
set_option maxRecDepth 4000 in
set_option maxHeartbeats 2000000 in
theorem Yl (hu : Utf g) (l : List Op) (hl : l.length ≤ 100) (ho : ∀ o ∈ l, opE o = 0) (hid : Ids l) : PCalls Tryz.prog g 22 [encOps l] (.tup [encBy (jour l), vi 0]) := by
 have z0 : (!decide ((0 : Int) = 0)) = false := rfl
 have hjl := jt ho
 refine pcalls' Tryz.func22 Tryz.ntmps22 rfl rfl rfl ?_
 refine runn [] ?_
 refine ZC (t := 4) (E := 5) (sz := 1) rfl rfl rfl ?_
 refine zi (α := Nat) 1 (fun k => [(4, .os 0 0), (9, encOps l), (10, vi l.length), (11, vi k)]) (fun k => [.own 0 5 1 ((jour (l.take k)).map byC)]) (fun k => k ≤ l.length) (fun k => l.length - k) 0
  qw (Nat.zero_le _) ?_
 intro k hk
 cases ht : l[k]? with
 | none =>
  have hge : l.length ≤ k := by simpa using ht
  have c1 : decide ((k : Int) < l.length) = false := decide_eq_false (by omega)
  rw [List.take_of_length_le hge]
  have c2 : decide ((1048576 : Int) < ((((jour l).map byC).length : Nat) : Int)) = false := decide_eq_false (by rw [List.length_map]; omega)
  refine runn [] ?_
  refine retP rfl ?_
  simp [ex, exL, encBy]
 | some o =>
  have hlt := (List.getElem?_eq_some_iff.1 ht).1
  have c1 : decide ((k : Int) < l.length) = true := decide_eq_true (by omega)
  have hm := List.mem_of_getElem? ht
  have hE := Entry_spec hu o (ho o hm) (hid o hm)
  have g1 := Za ht
  have htk : l.take (k + 1) = l.take k ++ [o] := by rw [List.take_add_one, ht]; rfl
  have hj : (jour (l.take k)).map byC ++ (entryB o).map byC = (jour (l.take (k + 1))).map byC := by rw [htk, jour_snoc, List.map_append]
  have hlk := jt (l := l.take k) fun x hx => ho x (List.mem_of_mem_take hx)
  have hek := yZ (ho o hm)
  rw [List.length_take] at hlk
  unfold encBy at hE
  repeat' (first
   | ((with_reducible refine zg ?_); refine zk (Zx (es' := (jour (l.take (k + 1))).map byC) rfl rfl rfl rfl rfl rfl rfl rfl rfl rfl rfl rfl rfl qe0 hj rfl) rfl ?_)
   | refine stn [] ?_
   | fail)
  exact ⟨k + 1, qw, by omega, by omega⟩
end
section
open Go.Ac
attribute [local irreducible] awp awpL Ev Ev2 EvS thenQ blockQ retQ PCalls OCalls ICalls YieldOk IterC
variable {g : List (Nat × List AV)}
def wholeK : List Op → Nat → Nat
 | [], _ => 0
 | o :: r, c => if (entryB o).length ≤ c then wholeK r (c - (entryB o).length) + 1 else 0
theorem wD (o : Op) (r : List Op) : jour (o :: r) = entryB o ++ jour r := by simp [jour]
theorem cut_split : ∀ (l : List Op) (c : Nat), (∀ o ∈ l, opE o = 0) → ∃ (x : List UInt8) (m : Nat), (jour l).take c = jour (l.take (wholeK l c)) ++ (frameB x).take m ∧ m < (frameB x).length ∧ x.length ≤ 1000
 | [], c, _ => ⟨[], 0, by simp [jour], by rw [qi]; omega, by simp⟩
 | o :: r, c, h => by
  unfold wholeK
  by_cases hc : (entryB o).length ≤ c
  ·rw [if_pos hc]
   obtain ⟨x, m, h1, h2, h3⟩ := cut_split r (c - (entryB o).length) fun p hp => h p (List.mem_cons_of_mem _ hp)
   refine ⟨x, m, ?_, h2, h3⟩
   rw [wD, List.take_succ_cons, wD, List.take_append, List.take_of_length_le hc, h1, List.append_assoc]
  ·rw [if_neg hc]
   refine ⟨opBy o, c, ?_, by rw [← entryB]; omega, jk (jP (h o (List.mem_cons_self ..)))⟩
   rw [wD, List.take_append_of_le_length (by omega)]
   simp [jour, entryB]
def yieldsJ (l : List Op) : List (List AV) := (List.range l.length).map fun k => [vi (jour (l.take (k + 1))).length, .agg (opC (l[k]?.getD default))]
theorem wV {l : List Op} {k : Nat} {o : Op} (h : l[k]? = some o) : (yieldsJ l)[k]? = some [vi (jour (l.take (k + 1))).length, .agg (opC o)] := by
 have := (List.getElem?_eq_some_iff.1 h).1
 unfold yieldsJ
 simp [List.getElem?_map, List.getElem?_range this, h]
theorem Q9 (l : List Op) : (yieldsJ l).length = l.length := by simp [yieldsJ]
theorem jour_split {l : List Op} {k : Nat} {o : Op} (h : l[k]? = some o) : jour l = jour (l.take k) ++ entryB o ++ jour (l.drop (k + 1)) ∧ jour (l.take (k + 1)) = jour (l.take k) ++ entryB o := by
 obtain ⟨q1, q2⟩ := List.getElem?_eq_some_iff.1 h
 have e : l = l.take k ++ (o :: l.drop (k + 1)) := by
  conv => lhs; rw [← List.take_append_drop k l, List.drop_eq_getElem_cons q1, q2]
 refine ⟨?_, by rw [List.take_add_one, h]; exact jour_snoc _ _⟩
 conv => lhs; rw [e]
 simp [jour]
set_option maxRecDepth 4000 in
set_option maxHeartbeats 2000000 in
theorem wv (hu : Utf g) (l : List Op) (hl : l.length ≤ 100) (ho : ∀ o ∈ l, opE o = 0) (hid : Ids l) {b x : List UInt8} {m : Nat} (hb : b = jour l ++ (frameB x).take m) (hm : m < (frameB x).length) (hx : x.length ≤ 1000) : IterC Tryz.prog g 113 [.fp [encBy b]] (yieldsJ l) := by
 have hjl := jt ho
 have hxl := zN (n := x.length) (by omega)
 have hbl : b.length ≤ 200000 := by rw [hb, List.length_append, List.length_take]; rw [qi] at *; omega
 have n1 : (!true) = false := rfl
 have n2 : (!false) = true := rfl
 have z0 : (!decide ((0 : Int) = 0)) = false := rfl
 have z1 : (!decide ((1 : Int) = 1)) = false := rfl
 have z4 : (!decide ((4 : Int) = 0)) = true := rfl
 refine iterC Tryz.func113 rfl Tryz.ntmps113 rfl rfl ?_
 intro env yv hy
 refine runn [] ?_
 refine zi (α := Nat) 1 (fun k => [(0, .v yv), (1, .fp [encBy b]), (3, vi (jour (l.take k)).length)]) (fun k => [.ghost k]) (fun k => k ≤ l.length) (fun k => l.length - k) 0
  qw (Nat.zero_le _) ?_
 intro k hk
 cases ht : l[k]? with
 | none =>
  have hge : l.length ≤ k := by simpa using ht
  have hke : k = l.length := by omega
  subst hke
  rw [List.take_length]
  have hO := Open_cut (g := g) hb hm (by omega) (by omega)
  have hdone := Q9 l
  refine runn [] ?_
  exact retI (r := .tup []) rfl (.inl (by rw [hdone]; rfl))
 | some o =>
  have hlt := (List.getElem?_eq_some_iff.1 ht).1
  have hmem := List.mem_of_getElem? ht
  obtain ⟨s1, s2⟩ := jour_split ht
  have hbk : b = jour (l.take k) ++ frameB (opBy o) ++ (jour (l.drop (k + 1)) ++ (frameB x).take m) := by rw [hb, s1, entryB]; simp
  have hO := Open_ok (g := g) hbk (by have := jk (jP (ho o hmem)); omega) (by omega)
  have hF := From_spec hu o (ho o hmem) (hid o hmem)
  have hg := wV ht
  have hpos : (((jour (l.take k)).length + (frameB (opBy o)).length : Nat) : Int) = ((jour (l.take (k + 1))).length : Int) := by rw [s2, List.length_append, entryB]
  rw [hpos] at hO
  repeat' (first
   | ((with_reducible refine zg ?_); refine qm (n := k) (k := 0) rfl rfl rfl rfl rfl (hy _ _ hg) rfl rfl rfl ?_ ?_)
   | refine st [] ?_
   | fail)
  ·exact ⟨k + 1, qw, by omega, by omega⟩
  ·exact retI (r := .tup []) rfl (.inr rfl)
abbrev operV (b : List UInt8) : AV := .fn 113 [] [.fp [encBy b]]
theorem Wu (b : List UInt8) : PCalls Tryz.prog g 88 [encBy b] (operV b) := by
 refine pcalls' Tryz.func88 Tryz.ntmps88 rfl rfl rfl ?_
 refine runn [] ?_
 refine retP rfl ?_
 rfl
theorem WS {l : List Op} {i : Nat} {xs : List AV} (h : (yieldsJ l)[i]? = some xs) : ∃ o, l[i]? = some o ∧ xs = [vi (jour (l.take (i + 1))).length, .agg (opC o)] := by
 have hlt := (List.getElem?_eq_some_iff.1 h).1
 rw [Q9] at hlt
 have ho : l[i]? = some l[i] := List.getElem?_eq_getElem hlt
 have := wV ho
 rw [h] at this
 injection this with this
 exact ⟨_, ho, this⟩
set_option maxRecDepth 4000 in
set_option maxHeartbeats 2000000 in
theorem Read_spec (hu : Utf g) (l : List Op) (hl : l.length ≤ 100) (ho : ∀ o ∈ l, opE o = 0) (hid : Ids l) {b x : List UInt8} {m : Nat} (hb : b = jour l ++ (frameB x).take m) (hm : m < (frameB x).length) (hx : x.length ≤ 1000) : PCalls Tryz.prog g 56 [encBy b] (.tup [encOps l, vi (jour l).length]) := by
 have hO := Wu (g := g) b
 have hI := wv hu l hl ho hid hb hm hx
 refine pcalls' Tryz.func56 Tryz.ntmps56 rfl rfl rfl ?_
 refine runn [4, 5] ?_
 refine qk 0 0 80 15 rfl rfl rfl rfl ?_
 refine wQ (fun i => [.box [.os 2 i], .box [vi (jour (l.take i)).length], .own i 80 15 ((l.take i).map opC)]) rfl rfl rfl rfl hI rfl (fun _ => rfl) (fun _ => rfl) rfl (fun i xs hx => by obtain ⟨o, _, rfl⟩ := WS hx; rfl) ?_ ?_
 ·intro i xs lp hx
  obtain ⟨o, hoi, rfl⟩ := WS hx
  have hj := JF opC l i o hoi
  have hil : i < l.length := (List.getElem?_eq_some_iff.1 hoi).1
  refine runn [4, 5] ?_
  refine ⟨rfl, rfl, ?_⟩
  repeat' (first
   | ((with_reducible refine zg ?_); refine zk (zZ (es' := (l.take (i + 1)).map opC) rfl rfl rfl rfl rfl rfl rfl rfl rfl rfl rfl rfl rfl qe0 hj rfl) rfl ?_)
   | refine stn [4, 5] ?_
   | fail)
  exact roundN ⟨.nil, rfl, rfl, rfl⟩
 ·rw [Q9, List.take_length]
  refine run [4, 5] ?_
  refine retP rfl ?_
  simp [ex, exL]
end
section
open Go.Ac Go.MapKept
attribute [local irreducible] awp awpL Ev Ev2 EvS thenQ blockQ retQ PCalls OCalls ICalls YieldOk IterC
abbrev bareR (dev : Int) : Replica := ⟨dev, join [] [], []⟩
theorem newR_ok {dev : Int} (h : within dev 1 15 = true) : newR dev = (bareR dev, 0) := if_pos h
set_option maxRecDepth 4000 in
set_option maxHeartbeats 2000000 in
theorem wh (dev : Int) (hd : within dev 1 15 = true) (l : List Op) (hF : FitM [] l) (hl : l.length ≤ 100) (ho : ∀ o ∈ l, opE o = 0) (hid : Ids l) {b x : List UInt8} {m : Nat} (hb : b = jour l ++ (frameB x).take m) (hm : m < (frameB x).length) (hx : x.length ≤ 1000) : PCalls Tryz.prog GL 23 [vi dev, encBy b] (mergeV (merge (bareR dev) l)) := by
 have hN := Ym (g := GL) dev
 rw [newR_ok hd] at hN
 have hR := Read_spec wT l hl ho hid hb hm hx
 have hM := qo (bareR dev) l hF .nil
 have z0 : (!decide ((0 : Int) = 0)) = false := rfl
 generalize merge (bareR dev) l = q at *
 obtain ⟨r, e⟩ := q
 refine pcalls' Tryz.func23 Tryz.ntmps23 rfl rfl rfl ?_
 refine runn [4, 6] ?_
 refine retP rfl ?_
 simp [ex, exL, mergeV, repC]
end
end Go.Proofs.YtcfkokllinkigaaGreatDoor
