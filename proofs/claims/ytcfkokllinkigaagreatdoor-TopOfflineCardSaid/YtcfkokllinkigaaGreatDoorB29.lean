/- A logic of trees over the model's steps, and the contracts of the functions that the laws reach: part 29 of 29. -/
import Derived.Test.YtcfkokllinkigaaGreatDoorB28
import Derived.Test.YtcfkokllinkigaaGreatDoorRows
import Derived.Lib.LaidU8T
import Derived.Lib.LaidTab
import Derived.LaidLaws
import Derived.OpenShut
set_option linter.unusedVariables false
set_option linter.unusedSimpArgs false
set_option linter.unusedSectionVars false
set_option linter.unnecessarySimpa false
namespace Go.Proofs.YtcfkokllinkigaaGreatDoor
section
open Go.Ac Go.MapKept
attribute [local irreducible] awp awpL Ev Ev2 EvS thenQ blockQ retQ PCalls OCalls ICalls YieldOk IterC
abbrev rep3C (a b c : Replica) : List AV := repC a ++ (repC b ++ repC c)
abbrev cut3C (a b c : Nat) : List AV := [.v (.int .u16 a), .v (.int .u16 b), .v (.int .u16 c)]
abbrev zR3 : List AV := [vi 0, .v (.slice none 0 0), .v (.slice none 0 0)]
def dK (d0 d1 d2 : Replica) : Nat → List AV
 | 0 => zR3 ++ (zR3 ++ zR3)
 | 1 => repC d0 ++ (zR3 ++ zR3)
 | 2 => repC d0 ++ (repC d1 ++ zR3)
 | _ => repC d0 ++ (repC d1 ++ repC d2)
set_option maxRecDepth 8000 in
set_option maxHeartbeats 32000000 in
theorem law_Offline (rc : Recording) (l : List Tier) (r0 r1 r2 : Replica) (c0 c1 c2 sz : Nat) (hnm : ∀ t ∈ l, t.name.size ≤ 9223372036854775807) (hsp : rc.speakers.length ≤ 140737488351232) (hc0 : c0 < 65536) (hc1 : c1 < 65536) (hc2 : c2 < 65536) (hsz : sz < 256) (i0 : Ids r0.ops) (i1 : Ids r1.ops) (i2 : Ids r2.ops) :
  PCalls Tryz.prog GL 3 [.agg (rcC rc), encTiers l, .agg (rep3C r0 r1 r2), .agg (cut3C c0 c1 c2), .v (.int .u8 sz)] (vb true) := by
 have hAl := alive08_spec
 have z00 : decide ((0 : Int) = 0) = true := rfl
 have z0 : (!decide ((0 : Int) = 0)) = false := rfl
 have zT : decide True = true := rfl
 have zNT : (!decide True) = false := rfl
 have n1 : (!true) = false := rfl
 have n2 : (!false) = true := rfl
 have hT := Wb (g := GL) l hnm
 have l0 := JB (g := GL) r0 i0
 have l1 := JB (g := GL) r1 i1
 have l2 := JB (g := GL) r2 i2
 refine pcalls' Tryz.func3 Tryz.ntmps3 rfl rfl rfl ?_
 by_cases a1 : rc.length < 0
 ·have e1 : decide (rc.length < 0) = true := decide_eq_true a1
  refine runn [11, 13, 15, 17, 19, 21] ?_
  exact retP rfl rfl
 have e1 : decide (rc.length < 0) = false := decide_eq_false a1
 by_cases a2 : 86400000 < rc.length
 ·have e2 : decide (86400000 < rc.length) = true := decide_eq_true a2
  refine runn [11, 13, 15, 17, 19, 21] ?_
  exact retP rfl rfl
 have e2 : decide (86400000 < rc.length) = false := decide_eq_false a2
 by_cases a3 : 8 < l.length
 ·have e3 : decide ((8 : Int) < (l.length : Int)) = true := decide_eq_true (by omega)
  refine runn [11, 13, 15, 17, 19, 21] ?_
  exact retP rfl rfl
 have e3 : decide ((8 : Int) < (l.length : Int)) = false := decide_eq_false (by omega)
 by_cases a4 : tiersE l = 0
 case neg =>
  have e4 : (!decide (tiersE l = 0)) = true := by rw [decide_eq_false a4]; rfl
  refine runn [11, 13, 15, 17, 19, 21] ?_
  exact retP rfl rfl
 have e4 : (!decide (tiersE l = 0)) = false := by rw [decide_eq_true a4]; rfl
 refine runn [11, 13, 15, 17, 19, 21] ?_
 refine zi (α := Nat) 1 (fun i => [(1, encTiers l), (4, .v (.int .u8 sz)), (5, .fp (rcC rc)), (7, .fp (rep3C r0 r1 r2)), (8, .fp (cut3C c0 c1 c2)), (11, .lp 0 0), (12, vi i)]) (fun i => [.box (dK (cutR r0 (cutK r0 c0)) (cutR r1 (cutK r1 c1)) (cutR r2 (cutK r2 c2)) i)]) (fun i => i ≤ 3 ∧ (0 < i → light r0 = true) ∧ (1 < i → light r1 = true) ∧ (2 < i → light r2 = true)) (fun i => 3 - i) 0
  qw ⟨by omega, by omega, by omega, by omega⟩ ?_
 rintro i ⟨hi, hg0, hg1, hg2⟩
 have hcases : i = 0 ∨ i = 1 ∨ i = 2 ∨ i = 3 := by omega
 rcases hcases with rfl | rfl | rfl | rfl
 ·have e5 : decide (((0 : Nat) : Int) < 3) = true := rfl
  have ib : (0 : Int) ≤ ((0 : Nat) : Int) ∧ ((0 : Nat) : Int) < ((3 : Nat) : Int) := by omega
  cases hl : light r0 with
  | false =>
   rw [hl] at l0
   repeat' (first
    | ((with_reducible refine zg ?_); refine zb (ZA rfl rfl rfl rfl rfl ib) rfl ?_)
    | refine stn [11, 13, 15, 17, 19, 21] ?_
    | fail)
   exact retP rfl rfl
  | true =>
   rw [hl] at l0
   obtain ⟨hR, hCk, hle, hK, _, _, _⟩ := wN hc0 i0 hl
   have e6 : decide ((r0.ops.length : Int) < ((cutR r0 (cutK r0 c0)).ops.length : Int)) = false := decide_eq_false (by omega)
   generalize hd : cutR r0 (cutK r0 c0) = d at *
   repeat' (first
    | ((with_reducible refine zg ?_); (first | refine zb (ZA rfl rfl rfl rfl rfl ib) rfl ?_ | refine zb (Zj rfl rfl rfl rfl rfl rfl ib) rfl ?_))
    | ((with_reducible refine zu ?_); refine zc (zh (fun _ => ZA rfl rfl rfl rfl rfl ib) rfl rfl) qb0 ?_)
    | ((with_reducible refine zp ?_); refine zd rfl rfl qa0 (zh (fun _ => ZA rfl rfl rfl rfl rfl ib) rfl rfl) qb0 ?_)
    | ((with_reducible refine zJ ?_); refine zC 11 (by simp only [List.take_succ_cons, List.take_zero, List.take_nil]; rfl) (by simp only [List.drop_succ_cons, List.drop_zero, List.drop_nil]; rfl) (by kernel_rfl) rfl rfl rfl rfl (by repeat' (first | exact Strip.nil | apply Strip.keep rfl | apply Strip.drop rfl)) ?_)
    | refine st [11, 13, 15, 17, 19, 21] ?_
    | fail)
   exact ⟨1, qw, ⟨by omega, (by first | exact fun _ => rfl | exact fun h => absurd h (by omega) | exact fun _ => hg0 (by omega)), (by first | exact fun _ => rfl | exact fun h => absurd h (by omega) | exact fun _ => hg1 (by omega)), (by first | exact fun _ => rfl | exact fun h => absurd h (by omega))⟩, by omega⟩
 ·have e5 : decide (((1 : Nat) : Int) < 3) = true := rfl
  have ib : (0 : Int) ≤ ((1 : Nat) : Int) ∧ ((1 : Nat) : Int) < ((3 : Nat) : Int) := by omega
  cases hl : light r1 with
  | false =>
   rw [hl] at l1
   repeat' (first
    | ((with_reducible refine zg ?_); refine zb (ZA rfl rfl rfl rfl rfl ib) rfl ?_)
    | refine stn [11, 13, 15, 17, 19, 21] ?_
    | fail)
   exact retP rfl rfl
  | true =>
   rw [hl] at l1
   obtain ⟨hR, hCk, hle, hK, _, _, _⟩ := wN hc1 i1 hl
   have e6 : decide ((r1.ops.length : Int) < ((cutR r1 (cutK r1 c1)).ops.length : Int)) = false := decide_eq_false (by omega)
   generalize hd : cutR r1 (cutK r1 c1) = d at *
   repeat' (first
    | ((with_reducible refine zg ?_); (first | refine zb (ZA rfl rfl rfl rfl rfl ib) rfl ?_ | refine zb (Zj rfl rfl rfl rfl rfl rfl ib) rfl ?_))
    | ((with_reducible refine zu ?_); refine zc (zh (fun _ => ZA rfl rfl rfl rfl rfl ib) rfl rfl) qb0 ?_)
    | ((with_reducible refine zp ?_); refine zd rfl rfl qa0 (zh (fun _ => ZA rfl rfl rfl rfl rfl ib) rfl rfl) qb0 ?_)
    | ((with_reducible refine zJ ?_); refine zC 11 (by simp only [List.take_succ_cons, List.take_zero, List.take_nil]; rfl) (by simp only [List.drop_succ_cons, List.drop_zero, List.drop_nil]; rfl) (by kernel_rfl) rfl rfl rfl rfl (by repeat' (first | exact Strip.nil | apply Strip.keep rfl | apply Strip.drop rfl)) ?_)
    | refine st [11, 13, 15, 17, 19, 21] ?_
    | fail)
   exact ⟨2, qw, ⟨by omega, (by first | exact fun _ => rfl | exact fun h => absurd h (by omega) | exact fun _ => hg0 (by omega)), (by first | exact fun _ => rfl | exact fun h => absurd h (by omega) | exact fun _ => hg1 (by omega)), (by first | exact fun _ => rfl | exact fun h => absurd h (by omega))⟩, by omega⟩
 ·have e5 : decide (((2 : Nat) : Int) < 3) = true := rfl
  have ib : (0 : Int) ≤ ((2 : Nat) : Int) ∧ ((2 : Nat) : Int) < ((3 : Nat) : Int) := by omega
  cases hl : light r2 with
  | false =>
   rw [hl] at l2
   repeat' (first
    | ((with_reducible refine zg ?_); refine zb (ZA rfl rfl rfl rfl rfl ib) rfl ?_)
    | refine stn [11, 13, 15, 17, 19, 21] ?_
    | fail)
   exact retP rfl rfl
  | true =>
   rw [hl] at l2
   obtain ⟨hR, hCk, hle, hK, _, _, _⟩ := wN hc2 i2 hl
   have e6 : decide ((r2.ops.length : Int) < ((cutR r2 (cutK r2 c2)).ops.length : Int)) = false := decide_eq_false (by omega)
   generalize hd : cutR r2 (cutK r2 c2) = d at *
   repeat' (first
    | ((with_reducible refine zg ?_); (first | refine zb (ZA rfl rfl rfl rfl rfl ib) rfl ?_ | refine zb (Zj rfl rfl rfl rfl rfl rfl ib) rfl ?_))
    | ((with_reducible refine zu ?_); refine zc (zh (fun _ => ZA rfl rfl rfl rfl rfl ib) rfl rfl) qb0 ?_)
    | ((with_reducible refine zp ?_); refine zd rfl rfl qa0 (zh (fun _ => ZA rfl rfl rfl rfl rfl ib) rfl rfl) qb0 ?_)
    | ((with_reducible refine zJ ?_); refine zC 11 (by simp only [List.take_succ_cons, List.take_zero, List.take_nil]; rfl) (by simp only [List.drop_succ_cons, List.drop_zero, List.drop_nil]; rfl) (by kernel_rfl) rfl rfl rfl rfl (by repeat' (first | exact Strip.nil | apply Strip.keep rfl | apply Strip.drop rfl)) ?_)
    | refine st [11, 13, 15, 17, 19, 21] ?_
    | fail)
   exact ⟨3, qw, ⟨by omega, (by first | exact fun _ => rfl | exact fun h => absurd h (by omega) | exact fun _ => hg0 (by omega)), (by first | exact fun _ => rfl | exact fun h => absurd h (by omega) | exact fun _ => hg1 (by omega)), (by first | exact fun _ => rfl | exact fun h => absurd h (by omega))⟩, by omega⟩
 ·have e5 : decide (((3 : Nat) : Int) < 3) = false := rfl
  have k0 := wN hc0 i0 (hg0 (by omega))
  have k1 := wN hc1 i1 (hg1 (by omega))
  have k2 := wN hc2 i2 (hg2 (by omega))
  generalize cutR r0 (cutK r0 c0) = d0 at *
  generalize cutR r1 (cutK r1 c1) = d1 at *
  generalize cutR r2 (cutK r2 c2) = d2 at *
  have q01 := k0.cons k1
  have q02 := k0.cons k2
  have q12 := k1.cons k2
  cases b01 : (half d1 d0 && half d0 d1) with
  | false =>
   rw [b01] at q01
   repeat' (first
    | ((with_reducible refine zg ?_); refine zb (Zj rfl rfl rfl rfl rfl rfl (by decide)) rfl ?_)
    | refine stn [11, 13, 15, 17, 19, 21] ?_
    | fail)
   exact retP rfl rfl
  | true =>
  rw [b01] at q01
  cases b02 : (half d2 d0 && half d0 d2) with
  | false =>
   rw [b02] at q02
   repeat' (first
    | ((with_reducible refine zg ?_); refine zb (Zj rfl rfl rfl rfl rfl rfl (by decide)) rfl ?_)
    | refine stn [11, 13, 15, 17, 19, 21] ?_
    | fail)
   exact retP rfl rfl
  | true =>
  rw [b02] at q02
  cases b12 : (half d2 d1 && half d1 d2) with
  | false =>
   rw [b12] at q12
   repeat' (first
    | ((with_reducible refine zg ?_); refine zb (Zj rfl rfl rfl rfl rfl rfl (by decide)) rfl ?_)
    | refine stn [11, 13, 15, 17, 19, 21] ?_
    | fail)
   exact retP rfl rfl
  | true =>
  rw [b12] at q12
  have c01 := k0.con k1 b01
  have c02 := k0.con k2 b02
  have c12 := k1.con k2 b12
  have F1 := WL (Zv k0.rep).1 (Zv k1.rep).1 (by have := k0.few; have := k1.few; omega) k0.ids k1.ids
  have hM1 : PCalls Tryz.prog GL 11 [.agg (repC d0), encOps d1.ops] (.tup [.agg (repC (oneR d0 d1)), vi (merge d0 d1.ops).2]) := qo d0 d1.ops F1 (Zo k0.rep)
  repeat' (first
   | refine zS 15 ?_
   | ((with_reducible refine zg ?_); refine zb (Zj rfl rfl rfl rfl rfl rfl (by decide)) rfl ?_)
   | refine stn [11, 13, 15, 17, 19, 21] ?_
   | fail)
  refine ⟨?_⟩
  by_cases m1 : (merge d0 d1.ops).2 = 0
  case neg =>
   have e7 : decide ((merge d0 d1.ops).2 = 0) = false := decide_eq_false m1
   have e8 : (!decide ((merge d0 d1.ops).2 = 0)) = true := by rw [e7]; rfl
   generalize (merge d0 d1.ops).2 = me at *
   repeat' (first
    | ((with_reducible refine zg ?_); refine zb (Zj rfl rfl rfl rfl rfl rfl (by decide)) rfl ?_)
    | refine stn [11, 13, 15, 17, 19, 21] ?_
    | fail)
   exact retP rfl rfl
  case pos =>
  obtain ⟨x1, x2, x3, x4, x5, x6⟩ := wA (Zo k0.rep) m1
  have ido : Ids (oneR d0 d1).ops := fun o h => ((x2 o).1 h).elim (k0.ids o) (k1.ids o)
  have F2 := WL (a := (oneR d0 d1).ops) (merge_fit F1).1 (Zv k2.rep).1 (by have := k0.few; have := k1.few; have := k2.few; show (merge d0 d1.ops).1.ops.length + d2.ops.length ≤ 1000; omega) ido k2.ids
  have hM2 : PCalls Tryz.prog GL 11 [.agg (repC (oneR d0 d1)), encOps d2.ops] (.tup [.agg (repC (twoR d0 d1 d2)), vi (merge (oneR d0 d1) d2.ops).2]) := qo (oneR d0 d1) d2.ops F2 x1
  rw [m1] at hM1
  by_cases m2 : (merge (oneR d0 d1) d2.ops).2 = 0
  case neg =>
   have e7 : decide ((merge (oneR d0 d1) d2.ops).2 = 0) = false := decide_eq_false m2
   have e8 : (!decide ((merge (oneR d0 d1) d2.ops).2 = 0)) = true := by rw [e7]; rfl
   generalize (merge (oneR d0 d1) d2.ops).2 = me at *
   repeat' (first
    | ((with_reducible refine zg ?_); refine zb (Zj rfl rfl rfl rfl rfl rfl (by decide)) rfl ?_)
    | refine stn [11, 13, 15, 17, 19, 21] ?_
    | fail)
   exact retP rfl rfl
  case pos =>
  rw [m2] at hM2
  have hn : (1 : Int) ≤ 1 + ((sz % 3 : Nat) : Int) := by omega
  have hmod : (sz : Int).tmod 3 = ((sz % 3 : Nat) : Int) := by rw [Int.tmod_eq_emod_of_nonneg (by omega)]; simp
  have hwr : IntKind.i64.wrap ((sz % 3 : Nat) : Int) = ((sz % 3 : Nat) : Int) := Z9 (by omega) (by omega)
  have T := three_of hn c01 c02 c12 k0.few k1.few k2.few k0.ids k2.ids m1 m2
  have P1 := JU d2 d0 (1 + ((sz % 3 : Nat) : Int)) hn T.c1 (by have := k0.few; have := k2.few; omega) k2.ids k0.ids
  have P2 := JU (partOne d0 d2 (1 + ((sz % 3 : Nat) : Int))) d1 (1 + ((sz % 3 : Nat) : Int)) hn T.c2 (by have := k1.few; have := T.l1; omega) T.i1 k1.ids
  have E := end_ok (rc := rc) (l := l) T hnm (by omega) (by omega) (by omega) a4 hsp k0.rep k1.rep k2.rep k0.ids k1.ids k2.ids
  change PCalls _ _ _ _ (.tup [.agg (repC (partOne d0 d2 (1 + ((sz % 3 : Nat) : Int)))), vb true]) at P1
  change PCalls _ _ _ _ (.tup [.agg (repC (partTwo d0 d1 d2 (1 + ((sz % 3 : Nat) : Int)))), vb true]) at P2
  have hz3 : ((sz % 3 : Nat) : Int) ≤ 3 := by omega
  generalize repDoc rc l (cells (twoR d0 d1 d2).ops rc.id) = x at *
  generalize repLoose rc l (cells (twoR d0 d1 d2).ops rc.id) = ls at *
  generalize cells (twoR d0 d1 d2).ops rc.id = cs at *
  generalize partTwo d0 d1 d2 (1 + ((sz % 3 : Nat) : Int)) = two at *
  generalize partOne d0 d2 (1 + ((sz % 3 : Nat) : Int)) = hal at *
  generalize twoR d0 d1 d2 = one at *
  generalize ((sz % 3 : Nat) : Int) = zz at *
  obtain ⟨A, K0, K1, K2, CK, C1, C2, C3, D, DC, SM, LO, FW⟩ := E
  repeat' (first
   | refine zS 25 ?_
   | ((with_reducible refine zg ?_); (first | refine zb (Zj rfl rfl rfl rfl rfl rfl (by decide)) rfl ?_ | refine zb (ev_remK rfl rfl (by decide) hmod) rfl ?_ | refine zb (zj rfl rfl rfl rfl hwr) rfl ?_))
   | refine stn [11, 13, 15, 17, 19, 21] ?_
   | fail)
  refine ⟨?_⟩
  clear hM1 hM2 P1 P2 A K0 K1 K2 CK q01 q02 q12 l0 l1 l2 hT
  repeat' (first
   | refine zS 27 ?_
   | ((with_reducible refine zJ ?_); refine zC 11 (by simp only [List.take_succ_cons, List.take_zero, List.take_nil]; rfl) (by simp only [List.drop_succ_cons, List.drop_zero, List.drop_nil]; rfl) (by kernel_rfl) rfl rfl rfl rfl (by repeat' (first | exact Strip.nil | apply Strip.keep rfl | apply Strip.drop rfl)) ?_)
   | refine st [11, 13, 15, 17, 19, 21] ?_
   | fail)
  refine ⟨?_⟩
  have e9 : (!decide ((ls.length : Int) = (ls.length : Int))) = false := by simp
  repeat' (first
   | refine zS 29 ?_
   | refine stn [11, 13, 15, 17, 19, 21] ?_
   | fail)
  refine ⟨?_⟩
  refine QY 15 (x := .lp 1 0) (x' := .fp (repC one)) rfl rfl rfl rfl ?_
  refine QY 19 (x := .lp 3 0) (x' := .fp (docC x)) rfl rfl rfl rfl ?_
  refine runn [11, 13, 15, 17, 19, 21] ?_
  refine zi (α := Nat) 0 (fun i => [(5, .fp (rcC rc)), (15, .fp (repC one)), (19, .fp (docC x)), (20, encLoose ls), (22, encLoose ls), (23, vi i)]) (fun _ => []) (fun i => i ≤ ls.length) (fun i => ls.length - i) 0
   qw (Nat.zero_le _) ?_
  intro i hi
  by_cases hlt : i < ls.length
  ·obtain ⟨q, hq⟩ : ∃ q, ls[i]? = some q := ⟨ls[i], List.getElem?_eq_getElem hlt⟩
   have c9 : decide ((i : Int) < ((ls.length : Nat) : Int)) = true := decide_eq_true (by omega)
   have q2 : (0 : Int) ≤ (i : Int) ∧ (ls.map looseC)[(i : Int).toNat]? = some (looseC q) := ⟨by omega, by rw [Int.toNat_natCast, List.getElem?_map, hq]; rfl⟩
   repeat' (first
    | ((with_reducible refine zu ?_); refine zc (zh (fun _ => Zc (b := true) Wh (by kernel_rfl) rfl rfl rfl rfl (JP q)) rfl rfl) qb0 ?_)
    | ((with_reducible refine zp ?_); refine zd rfl rfl qa0 (zh (fun _ => Zc (b := true) Wh (by kernel_rfl) rfl rfl rfl rfl (JP q)) rfl rfl) qb0 ?_)
    | refine st [11, 13, 15, 17, 19, 21] ?_
    | fail)
   exact ⟨i + 1, qw, by omega, by omega⟩
  ·have hil : i = ls.length := by omega
   subst hil
   have c9 : decide (((ls.length : Nat) : Int) < ((ls.length : Nat) : Int)) = false := decide_eq_false (by omega)
   have kl : decide ((([] : List Int).length : Int) = 0) = true := rfl
   repeat' (first
    | ((with_reducible refine zJ ?_); refine zC 12 (by simp only [List.take_succ_cons, List.take_zero, List.take_nil]; rfl) (by simp only [List.drop_succ_cons, List.drop_zero, List.drop_nil]; rfl) (by kernel_rfl) rfl rfl rfl rfl (by repeat' (first | exact Strip.nil | apply Strip.keep rfl | apply Strip.drop rfl)) ?_)
    | refine st [11, 13, 15, 17, 19, 21] ?_
    | fail)
   exact retP rfl rfl
end
section
open Go.Ac
variable {B : Nat}
theorem top_rec {f : Nat} {cs : List AV} (h : ShpB td B f 24 cs) : ∃ r : Recording, cs = rcC r ∧ r.speakers.length ≤ B := by
 cases f with
 | zero => exact absurd h (by simp [ShpB])
 | succ f =>
  have hk : (lk td 24).map (fun d : TD => d.k) = some (.struct [(3, 0), (9, 1), (3, 2), (3, 3), (22, 4)]) := rfl
  simp only [ShpB, hk] at h
  obtain ⟨parts, rfl, hl, hp⟩ := h
  match parts, hl with
  | [a, b, c, d, e], _ =>
   obtain ⟨n1, rfl, _⟩ := zL (k := .i64) rfl (hp 0 a _ rfl rfl)
   obtain ⟨s, rfl, _⟩ := yf rfl (hp 1 b _ rfl rfl)
   obtain ⟨n2, rfl, _⟩ := zL (k := .i64) rfl (hp 2 c _ rfl rfl)
   obtain ⟨n3, rfl, _⟩ := zL (k := .i64) rfl (hp 3 d _ rfl rfl)
   obtain ⟨l, rfl, hs, _⟩ := shpB_ints (hp 4 e _ rfl rfl)
   exact ⟨⟨n1, s, n2, n3, l⟩, rfl, hs⟩
theorem top_tier {f : Nat} {cs : List AV} (h : Shp td f 71 cs) : ∃ t : Tier, cs = tierC t ∧ t.name.size ≤ maxLen := by
 cases f with
 | zero => exact absurd h (by simp [Shp])
 | succ f =>
  have hk : (lk td 71).map (fun d : TD => d.k) = some (.struct [(9, 0), (3, 1), (3, 2), (3, 3)]) := rfl
  simp only [Shp, hk] at h
  obtain ⟨parts, rfl, hl, hp⟩ := h
  match parts, hl with
  | [a, b, c, d], _ =>
   obtain ⟨s, rfl, hs⟩ := shp_str rfl (hp 0 a _ rfl rfl)
   obtain ⟨n1, rfl, _⟩ := shp_int (k := .i64) rfl (hp 1 b _ rfl rfl)
   obtain ⟨n2, rfl, _⟩ := shp_int (k := .i64) rfl (hp 2 c _ rfl rfl)
   obtain ⟨n3, rfl, _⟩ := shp_int (k := .i64) rfl (hp 3 d _ rfl rfl)
   exact ⟨⟨s, n1, n2, n3⟩, rfl, hs⟩
theorem top_tiers {f : Nat} {cs : List AV} (h : Shp td f 25 cs) : ∃ l : List Tier, cs = [encTiers l] ∧ ∀ t ∈ l, t.name.size ≤ 9223372036854775807 := by
 obtain ⟨l, e, _, hl⟩ := shp_slice (enc := tierC) (ok := fun t => t.name.size ≤ maxLen) rfl rfl (fun h => top_tier h) h
 exact ⟨l, e, fun t ht => by have := hl t ht; have : maxLen = 9223372036854775807 := rfl; omega⟩
theorem top_reps {f : Nat} {cs : List AV} (h : ShpB td B f 29 cs) : ∃ a b c : Replica, cs = rep3C a b c ∧ Ids a.ops ∧ Ids b.ops ∧ Ids c.ops := by
 cases f with
 | zero => exact absurd h (by simp [ShpB])
 | succ f =>
  have hk : (lk td 29).map (fun d : TD => d.k) = some (.arr 3 28) := rfl
  simp only [ShpB, hk] at h
  obtain ⟨parts, rfl, hl, hp⟩ := h
  match parts, hl with
  | [x, y, z], _ =>
   obtain ⟨a, rfl, ha⟩ := QL (hp x (by simp))
   obtain ⟨b, rfl, hb⟩ := QL (hp y (by simp))
   obtain ⟨c, rfl, hc⟩ := QL (hp z (by simp))
   exact ⟨a, b, c, by simp [rep3C], ids_ofB ha, ids_ofB hb, ids_ofB hc⟩
theorem wf16 {n : Int} (h : (Lit.int .u16 n).wf = true) : ∃ c : Nat, n = (c : Int) ∧ c < 65536 := by
 simp only [Lit.wf, Bool.and_eq_true, decide_eq_true_eq] at h
 have h1 : IntKind.u16.min = 0 := by decide
 have h2 : IntKind.u16.max = 65535 := by decide
 rw [h1, h2] at h
 exact ⟨n.toNat, by omega, by omega⟩
theorem wf8 {n : Int} (h : (Lit.int .u8 n).wf = true) : ∃ c : Nat, n = (c : Int) ∧ c < 256 := by
 simp only [Lit.wf, Bool.and_eq_true, decide_eq_true_eq] at h
 have h1 : IntKind.u8.min = 0 := by decide
 have h2 : IntKind.u8.max = 255 := by decide
 rw [h1, h2] at h
 exact ⟨n.toNat, by omega, by omega⟩
theorem top_cuts {f : Nat} {cs : List AV} (h : ShpB td B f 31 cs) : ∃ a b c : Nat, cs = cut3C a b c ∧ a < 65536 ∧ b < 65536 ∧ c < 65536 := by
 cases f with
 | zero => exact absurd h (by simp [ShpB])
 | succ f =>
  have hk : (lk td 31).map (fun d : TD => d.k) = some (.arr 3 30) := rfl
  simp only [ShpB, hk] at h
  obtain ⟨parts, rfl, hl, hp⟩ := h
  match parts, hl with
  | [x, y, z], _ =>
   obtain ⟨a, rfl, ha⟩ := zL (k := .u16) rfl (hp x (by simp))
   obtain ⟨b, rfl, hb⟩ := zL (k := .u16) rfl (hp y (by simp))
   obtain ⟨c, rfl, hc⟩ := zL (k := .u16) rfl (hp z (by simp))
   obtain ⟨a, rfl, ha'⟩ := wf16 ha
   obtain ⟨b, rfl, hb'⟩ := wf16 hb
   obtain ⟨c, rfl, hc'⟩ := wf16 hc
   exact ⟨a, b, c, rfl, ha', hb', hc'⟩
end
section
open Go.Ac Go.Lib
theorem var_block {P : Program} {W : World} {n : String} {b : Nat} {cs : Array Value} (hg : P.globalNamed n = some b) (h : W.var? P n = some cs) : below W b ∧ ∀ k, cs.size = k → Exact W k b := by
 simp only [World.var?, hg, Option.bind_some] at h
 split at h
 ·rename_i c T z hb
  cases h
  refine ⟨?_, fun k hk => ⟨_, _, _, hb, hk⟩⟩
  rcases Nat.lt_or_ge b W.heap.size with q | q
  ·exact q
  ·exfalso
   have : W.heap[b]? = none := Array.getElem?_eq_none q
   rw [this] at hb
   cases hb
 ·cases h
theorem tab_glob {P : Program} {W : World} {name : String} {b t e n : Nat} {k : IntKind} {zs : List Int} (hn : P.globalNamed name = some b) (hy : (P.globals[b]?).map (·.type) = some t) (ht : P.underlying t = some (.array n e)) (he : P.underlying e = some (.int k)) (hce : P.cellsOf e = 1) (hct : P.cellsOf t = n)
  (h : VarReads P W name (tabData k zs)) : below W b ∧ MF (below W) W (zs.map fun z => AV.v (.int k z)) b 0 ∧ Exact W (zs.map fun z => AV.v (.int k z)).length b := by
 obtain ⟨g, t', cs, fuel, p, hg, hty, hvar, hd⟩ := h
 obtain rfl : g = b := Option.some.inj (hg.symm.trans hn)
 obtain rfl : t' = t := Option.some.inj (hty.symm.trans hy)
 have hcs := cells_of_tab (zs := zs) ht he hce hct hd
 obtain ⟨h1, h2⟩ := var_block hg hvar
 have hsz : cs.size = zs.length := by rw [← Array.length_toList, hcs, List.length_map]
 refine ⟨h1, MF.mk fun i x hx => ?_, h2 _ (by rw [List.length_map]; exact hsz)⟩
 rw [List.getElem?_map, Option.map_eq_some_iff] at hx
 obtain ⟨z, hz, rfl⟩ := hx
 refine ⟨.int k z, ?_, by simp [RF], rfl⟩
 rw [Nat.zero_add, World.var?_cell hg hvar i, ← Array.getElem?_toList, hcs, List.getElem?_map, hz]
 rfl
abbrev laidL : List (String × DataW Unit) := [("unicode/utf8.acceptRanges", Rows.laid_unicode_utf8_acceptRanges), ("langdoc/replica.fields", Rows.laid_langdoc_replica_fields), ("unicode/utf8.first", Rows.laid_unicode_utf8_first)]
theorem fld_same : (Rows.laid_langdoc_replica_fields : DataW Unit) = tabData .i64 [0, 1, 2] := by kernel_rfl
theorem u8x : U8Extra Tryz.prog Ji := { n3 := by kernel_rfl, n4 := by kernel_rfl, y3 := by kernel_rfl, y4 := by kernel_rfl, c5 := by kernel_rfl, c119 := by kernel_rfl, c138 := by kernel_rfl }
theorem first_same : Rows.laid_unicode_utf8_first = Go.Lib.firstData := by kernel_rfl
theorem accept_same : (Rows.laid_unicode_utf8_acceptRanges : DataW Unit) = Go.Lib.acceptData := by kernel_rfl
theorem Jk {W : World} {b o : Nat} {u : Value} (h : W.cell? ⟨b, o, none⟩ = some u) : b < W.heap.size := by
 rcases Nat.lt_or_ge b W.heap.size with g | g
 ·exact g
 ·exfalso
  have : W.heap[b]? = none := Array.getElem?_eq_none g
  simp [World.cell?, this] at h
theorem trod_len {P : Program} {W : World} {fuel t n e : Nat} {cs : List Value} {x : DataW Unit × List MemPlace} (ht : P.underlying t = some (.array n e)) (h : DataW.trod (fun _ => ()) P W 0 (fun _ => true) false fuel t cs = some x) : cs.length = P.cellsOf t := by
 cases fuel with
 | zero => simp [DataW.trod] at h
 | succ fuel =>
  simp only [DataW.trod, ht] at h
  split at h
  ·rename_i hl; exact hl
  ·cases h
theorem exact_of {P : Program} {W : World} {name : String} {b t e n k : Nat} {d : DataW Unit} (hn : P.globalNamed name = some b) (hy : (P.globals[b]?).map (·.type) = some t) (ht : P.underlying t = some (.array n e)) (hct : P.cellsOf t = k)
  (h : VarReads P W name d) : Exact W k b := by
 obtain ⟨g, t', cs, fuel, p, hg, hty, hvar, hd⟩ := h
 obtain rfl : g = b := Option.some.inj (hg.symm.trans hn)
 obtain rfl : t' = t := Option.some.inj (hty.symm.trans hy)
 exact (var_block hg hvar).2 k (by rw [← Array.length_toList, trod_len ht hd, hct])
theorem laid_glob {W : World} (h : laidMet Tryz.prog laidL W) : ∀ q ∈ GL, below W q.1 ∧ MF (below W) W q.2 q.1 0 ∧ Exact W q.2.length q.1 := by
 have r3 : VarReads Tryz.prog W "unicode/utf8.first" firstData := by
  rw [← first_same]; exact laidMet.reads h (by simp [laidL])
 have r4 : VarReads Tryz.prog W "unicode/utf8.acceptRanges" acceptData := by
  rw [← accept_same]; exact laidMet.reads h (by simp [laidL])
 have r0 : VarReads Tryz.prog W "langdoc/replica.fields" (tabData .i64 [0, 1, 2]) := by
  rw [← fld_same]; exact laidMet.reads h (by simp [laidL])
 have ht := utf8Tabs_of_readsT (U8Types.of196 laysValid) u8x r3 r4
 have l3 : firstCs.length = 256 := by simp [firstCs]
 have l4 : acceptCs.length = 32 := by simp [acceptCs]
 have e3 : Exact W firstCs.length 1 := by
  rw [l3]
  exact exact_of (by kernel_rfl) (by kernel_rfl) Tryz.underlying245 (by kernel_rfl) r3
 have e4 : Exact W acceptCs.length 2 := by
  rw [l4]
  exact exact_of (by kernel_rfl) (by kernel_rfl) Tryz.underlying248 (by kernel_rfl) r4
 intro q hq
 simp only [GL, List.mem_cons, List.not_mem_nil, or_false] at hq
 rcases hq with rfl | rfl | rfl
 ·exact tab_glob (b := 0) (zs := [0, 1, 2]) (by kernel_rfl) (by kernel_rfl) Tryz.underlying172 Tryz.underlying3 (by kernel_rfl) (by kernel_rfl) r0
 ·refine ⟨Jk (ht.1 0 (by omega)), MF.mk fun i x hx => ?_, e3⟩
  have hi : i < 256 := by have := (List.getElem?_eq_some_iff.1 hx).1; simpa [firstCs] using this
  refine ⟨_, by rw [Nat.zero_add]; exact ht.1 i hi, ?_, rfl⟩
  simp only [firstCs, List.getElem?_map, List.getElem?_range hi, Option.map_some, Option.some.injEq] at hx
  subst hx; simp [RF]
 ·refine ⟨Jk (ht.2 0 (by omega)).1, MF.mk fun i x hx => ?_, e4⟩
  have hi : i < 32 := by have := (List.getElem?_eq_some_iff.1 hx).1; simpa [acceptCs] using this
  simp only [acceptCs, List.getElem?_map, List.getElem?_range hi, Option.map_some, Option.some.injEq] at hx
  subst hx
  have h2 := ht.2 (i / 2) (by omega)
  by_cases he : i % 2 = 0
  ·refine ⟨_, by rw [Nat.zero_add, show i = 2 * (i / 2) by omega]; exact h2.1, ?_, rfl⟩
   simp [RF, he]
  ·refine ⟨_, by rw [Nat.zero_add, show i = 2 * (i / 2) + 1 by omega]; exact h2.2, ?_, rfl⟩
   simp [RF, he]
end
end Go.Proofs.YtcfkokllinkigaaGreatDoor
namespace Go.Ac
section
section
variable {P : Program} {td : TDs} [T : TOK P td] {H : Type} {enc : TypeId × Value → H} {W : World} {sp : Nat → Bool} {B : Nat}
theorem W3 {α : Type} (c : Nat) : ∀ (n : Nat) (l : List α), l.length = n * c → l = ((List.range n).map fun i => (l.drop (i * c)).take c).flatten
 | 0, l, h => by simp at h; subst h; rfl
 | n + 1, l, h => by
  have hl : (l.drop c).length = n * c := by rw [List.length_drop, h, Nat.succ_mul]; omega
  have ih := W3 c n (l.drop c) hl
  rw [List.range_succ_eq_map, List.map_cons, List.flatten_cons, Nat.zero_mul, List.drop_zero, List.map_map]
  have e : ((fun i => (l.drop (i * c)).take c) ∘ Nat.succ) = fun i => ((l.drop c).drop (i * c)).take c := by
   funext i
   show (l.drop ((i + 1) * c)).take c = _
   rw [List.drop_drop, Nat.succ_mul, Nat.add_comm]
  rw [e, ← ih, List.take_append_drop]
theorem LF_parts {F : Nat → Prop} {w : World} {td : TDs} {f e B : Nat} : ∀ (ys : List (List Value)), (∀ y ∈ ys, ∃ x, ShpB td B f e x ∧ LF F w x y) → ∃ parts : List (List AV), parts.length = ys.length ∧ (∀ x ∈ parts, ShpB td B f e x) ∧ LF F w parts.flatten ys.flatten
 | [], _ => ⟨[], rfl, fun x h => (by cases h), by simp only [List.flatten_nil, LF]⟩
 | y :: r, h => by
  obtain ⟨x, h1, h2⟩ := h y List.mem_cons_self
  obtain ⟨ps, h3, h4, h5⟩ := LF_parts r fun z hz => h z (List.mem_cons_of_mem _ hz)
  refine ⟨x :: ps, by simp [h3], fun z hz => ?_, ?_⟩
  ·rcases List.mem_cons.1 hz with rfl | hz
   ·exact h1
   ·exact h4 z hz
  ·rw [List.flatten_cons, List.flatten_cons]
   exact Je h2 h5
theorem read_arr {C : List Nat} (hC : closedT td C = true) (hB : byteT td C = true) {t e n : Nat} {d : TD} {cs : Array Value} {x : DataW H} {p : List MemPlace} (ht : lk td t = some d) (hk : d.k = .arr n e) (he : e ∈ C) (hsz : P.cellsOf t = n * P.cellsOf e)
  (h : DataW.Trod enc P W 0 sp true t (.agg cs) x p) (hw : (x.weights P t).all (· ≤ B) = true) : ∃ f xs, ShpB td B f t xs ∧ RF (below W) W (.agg xs) (.agg cs) := by
 have hu := jH (P := P) ht hk
 obtain ⟨fuel, hf⟩ := h
 cases fuel with
 | zero => simp [DataW.trod] at hf
 | succ m =>
  obtain ⟨xs, m', hm, hx, hlen, hxl, hget⟩ := DataW.trod_array hu hf
  injection hm with hm; subst hm
  have hx1 : x = .agg (xs.map (·.1)) := congrArg Prod.fst hx
  clear hx
  subst hx1
  simp only [DataW.weights, hu] at hw
  have hcl : cs.toList.length = n * P.cellsOf e := by
   have : (Value.agg cs).cells.toList.length = P.cellsOf t := hlen
   rw [← hsz, ← this]; rfl
  have hsplit := W3 (P.cellsOf e) n cs.toList hcl
  obtain ⟨parts, p1, p2, p3⟩ := LF_parts (F := below W) (w := W) (td := td) (f := m) (e := e) (B := B) ((List.range n).map fun i => (cs.toList.drop (i * P.cellsOf e)).take (P.cellsOf e)) (fun y hy => by
   obtain ⟨i, hi, rfl⟩ := List.mem_map.1 hy
   rw [List.mem_range] at hi
   have hil : i < xs.length := by omega
   have hg := hget i hi
   rw [List.getElem?_eq_getElem hil] at hg
   exact trod_LFB hC hB m e _ _ he hg (qQ hw _ (List.mem_map_of_mem (List.getElem_mem hil))))
  refine ⟨m + 1, parts.flatten, ?_, ?_⟩
  ·simp only [ShpB, ht, Option.map_some, hk]
   exact ⟨parts, rfl, by rw [p1]; simp, p2⟩
  ·simp only [RF]
   refine ⟨cs, rfl, ?_⟩
   rw [← hsplit] at p3
   exact p3
end
end
end Go.Ac
