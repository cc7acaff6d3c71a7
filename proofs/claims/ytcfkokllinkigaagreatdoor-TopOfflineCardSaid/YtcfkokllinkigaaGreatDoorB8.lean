/- A logic of trees over the model's steps, and the contracts of the functions that the laws reach: part 8 of 29. -/
import Derived.Test.YtcfkokllinkigaaGreatDoorB7
set_option linter.unusedVariables false
set_option linter.unusedSimpArgs false
set_option linter.unusedSectionVars false
set_option linter.unnecessarySimpa false
namespace Go.Proofs.YtcfkokllinkigaaGreatDoor
section
open Go.Ac
attribute [local irreducible] awp awpL Ev Ev2 EvS thenQ blockQ retQ PCalls OCalls YieldOk IterC
variable {g : List (Nat × List AV)}
def firstV (o : Option (Nat × Nat)) : AV := match o with
 | some (p, n) => .tup [vi p, vi n]
 | none => .tup [vi (-1), vi 0]
theorem pv_lt (s : ByteArray) (i k : Nat) (hk : k ≤ 3) : pv s i k < 67108864 := by
 have h0 : base (byt s i) < 256 := by
  have := Zd s i
  unfold base
  split
  ·omega
  ·split
   ·omega
   ·split <;> omega
 have h1 := Zd s (i + 1)
 have h2 := Zd s (i + 2)
 have h3 := Zd s (i + 3)
 have : k = 0 ∨ k = 1 ∨ k = 2 ∨ k = 3 := by omega
 rcases this with rfl | rfl | rfl | rfl <;> simp only [pv] <;> omega
theorem sget {s : ByteArray} {k : Nat} {n : Int} (h : k < s.size) (hn : n = k) : 0 ≤ n ∧ s.data[n.toNat]? = some (s.get! k) := by
 subst hn
 have := yT s k h
 exact byte_get this
theorem wrapB (b : Nat) (h : b < 256) : IntKind.i64.wrap (b : Int) = (b : Int) := Z9 (by omega) (by omega)
set_option maxHeartbeats 2000000 in
theorem rfst4_spec (s : ByteArray) (i : Nat) (hi : i < s.size) (hs : s.size ≤ 1000000) (hlo : 240 ≤ byt s i) (hhi : byt s i < 256) : PCalls Tryz.prog g 129 [vs s, vi i] (firstV (rfirst s i)) := by
 refine pcalls' Tryz.func129 Tryz.ntmps129 rfl rfl rfl ?_
 have hw : wid (byt s i) = 4 := by
  unfold wid
  repeat' split
  all_goals omega
 have hb : pv s i 0 = byt s i - 240 := by
  simp only [pv]
  unfold base
  repeat' split
  all_goals omega
 have g0 := sget (n := (i : Int)) hi rfl
 have w0 : IntKind.i64.wrap (((s.get! i).toNat : Nat) : Int) = ((byt s i : Nat) : Int) := wrapB _ (Zd s i)
 have c1 : decide ((240 : Int) ≤ ((byt s i : Nat) : Int)) = true := by first | exact decide_eq_true (by omega) | exact decide_eq_false (by omega)
 have c2 : decide ((224 : Int) ≤ ((byt s i : Nat) : Int)) = true := by first | exact decide_eq_true (by omega) | exact decide_eq_false (by omega)
 have c3 : decide ((192 : Int) ≤ ((byt s i : Nat) : Int)) = true := by first | exact decide_eq_true (by omega) | exact decide_eq_false (by omega)
 have hbd : -9223372036854775808 ≤ ((byt s i : Nat) : Int) - 240 ∧ ((byt s i : Nat) : Int) - 240 ≤ 9223372036854775807 := by omega
 have hsb : ((byt s i : Nat) : Int) - 240 = ((pv s i 0 : Nat) : Int) := by rw [hb]; omega
 have hin : -9223372036854775808 ≤ (i : Int) + 4 ∧ (i : Int) + 4 ≤ 9223372036854775807 := by omega
 by_cases hl : s.size < i + 4
 ·have e1 : decide ((s.size : Int) < (i : Int) + 4) = true := decide_eq_true (by omega)
  have hr : rfirst s i = none := by unfold rfirst; rw [hw, if_pos hl]
  rw [hr]
  repeat' (first
   | ((with_reducible refine zg ?_); (first | refine zb (zj rfl rfl rfl rfl w0) rfl ?_ | refine zb (Qk rfl rfl hbd hsb) rfl ?_))
   | refine stn [] ?_
   | fail)
  exact retP rfl rfl
 have e1 : decide ((s.size : Int) < (i : Int) + 4) = false := decide_eq_false (by omega)
 have hp0 : 240 = 0 → ((byt s i : Nat) : Int) = ((pv s i 0 : Nat) : Int) := by intro h; omega
 repeat' (first
  | ((with_reducible refine zg ?_); (first | refine zb (zj rfl rfl rfl rfl w0) rfl ?_ | refine zb (Qk rfl rfl hbd hsb) rfl ?_))
  | refine stn [] ?_
  | ((with_reducible refine zl ?_); refine ze rfl (fun h => ?_) (fun h => ?_))
  | fail)
 refine zi (α := Nat) 0 (fun k => [(0, vs s), (1, vi i), (7, vi 4), (6, vi (pv s i k)), (8, vi ((k : Int) + 1))]) (fun _ => []) (fun k => k + 1 ≤ 4) (fun k => 4 - k) 0
  ⟨.cons rfl rfl (.cons rfl rfl (.cons rfl rfl (.cons rfl (by first | rfl | (rw [← hp0 rfl]; rfl)) (.cons rfl rfl .nil)))), rfl, rfl, rfl⟩ (by omega) ?_
 intro k hk
 have hpk := pv_lt s i k (by omega)
 by_cases hkn : k + 1 = 4
 ·have e2 : decide ((k : Int) + 1 < 4) = false := decide_eq_false (by omega)
  have hk1 : wid (byt s i) - 1 = k := by omega
  have hS := Qo (g := g) (pv s i k)
  have hrf : rfirst s i = if scal (pv s i k) = true ∧ encS (pv s i k) = s.extract i (i + 4) then some (pv s i k, 4) else none := by
   unfold rfirst; rw [if_neg (by omega), hk1, hw]
  have n1 : (!true) = false := rfl
  have n2 : (!false) = true := rfl
  cases hsc : scal (pv s i k) with
  | false =>
   rw [hsc] at hS hrf
   rw [hrf, if_neg (by simp)]
   refine run [] ?_
   exact retP rfl rfl
  | true =>
   rw [hsc] at hS hrf
   have hle : pv s i k ≤ 1114111 := by simp [scal] at hsc; omega
   have hE := qJ (g := g) (pv s i k) hle
   have hx : s.extract (i : Int).toNat ((i : Int) + 4).toNat = s.extract i (i + 4) := by
    rw [show (i : Int).toNat = i by omega, show ((i : Int) + 4).toNat = i + 4 by omega]
   have hbb : 0 ≤ (i : Int) ∧ (i : Int) ≤ (i : Int) + 4 ∧ (i : Int) + 4 ≤ (s.size : Nat) := by omega
   by_cases hq : encS (pv s i k) = s.extract i (i + 4)
   ·have e3 : (!decide (encS (pv s i k) = s.extract i (i + 4))) = false := by simp [hq]
    rw [hrf, if_pos ⟨rfl, hq⟩]
    repeat' (first
     | ((with_reducible refine zu ?_); refine zc (zh (fun _ => zD rfl rfl rfl rfl rfl hbb hx) rfl rfl) qb0 ?_)
     | ((with_reducible refine zp ?_); refine zd rfl rfl qa0 (zh (fun _ => zD rfl rfl rfl rfl rfl hbb hx) rfl rfl) qb0 ?_)
     | refine st [] ?_
     | fail)
    exact retP rfl rfl
   ·have e3 : (!decide (encS (pv s i k) = s.extract i (i + 4))) = true := by simp [hq]
    rw [hrf, if_neg (fun h => hq h.2)]
    repeat' (first
     | ((with_reducible refine zu ?_); refine zc (zh (fun _ => zD rfl rfl rfl rfl rfl hbb hx) rfl rfl) qb0 ?_)
     | ((with_reducible refine zp ?_); refine zd rfl rfl qa0 (zh (fun _ => zD rfl rfl rfl rfl rfl hbb hx) rfl rfl) qb0 ?_)
     | refine st [] ?_
     | fail)
    exact retP rfl rfl
 ·have e2 : decide ((k : Int) + 1 < 4) = true := decide_eq_true (by omega)
  have hmul : -9223372036854775808 ≤ ((pv s i k : Nat) : Int) * 64 ∧ ((pv s i k : Nat) : Int) * 64 ≤ 9223372036854775807 := by omega
  have gk := sget (s := s) (k := i + (k + 1)) (n := (i : Int) + ((k : Int) + 1)) (by omega) (by omega)
  have wk : IntKind.i64.wrap (((s.get! (i + (k + 1))).toNat : Nat) : Int) = ((byt s (i + (k + 1)) : Nat) : Int) := wrapB _ (Zd s _)
  have z64 : (0 : Int) < 64 := by omega
  have mk := tm64 (byt s (i + (k + 1))) 64
  have hbk := Zd s (i + (k + 1))
  have hadd : -9223372036854775808 ≤ ((pv s i k : Nat) : Int) * 64 + ((byt s (i + (k + 1)) % 64 : Nat) : Int) ∧ ((pv s i k : Nat) : Int) * 64 + ((byt s (i + (k + 1)) % 64 : Nat) : Int) ≤ 9223372036854775807 := by omega
  have hpn : ((pv s i k : Nat) : Int) * 64 + ((byt s (i + (k + 1)) % 64 : Nat) : Int) = ((pv s i (k + 1) : Nat) : Int) := by
   simp only [pv]; omega
  repeat' (first
   | ((with_reducible refine zg ?_); (first | refine zb (zj rfl rfl rfl rfl wk) rfl ?_ | refine zb (qg rfl rfl hmul) rfl ?_ | refine zb (Zz rfl rfl z64 mk) rfl ?_ | refine zb (JZ rfl rfl hadd hpn) rfl ?_))
   | refine stn [] ?_
   | fail)
  exact ⟨k + 1, qw, by omega, by omega⟩
set_option maxHeartbeats 2000000 in
theorem rfst3_spec (s : ByteArray) (i : Nat) (hi : i < s.size) (hs : s.size ≤ 1000000) (hlo : 224 ≤ byt s i) (hhi : byt s i < 240) : PCalls Tryz.prog g 129 [vs s, vi i] (firstV (rfirst s i)) := by
 refine pcalls' Tryz.func129 Tryz.ntmps129 rfl rfl rfl ?_
 have hw : wid (byt s i) = 3 := by
  unfold wid
  repeat' split
  all_goals omega
 have hb : pv s i 0 = byt s i - 224 := by
  simp only [pv]
  unfold base
  repeat' split
  all_goals omega
 have g0 := sget (n := (i : Int)) hi rfl
 have w0 : IntKind.i64.wrap (((s.get! i).toNat : Nat) : Int) = ((byt s i : Nat) : Int) := wrapB _ (Zd s i)
 have c1 : decide ((240 : Int) ≤ ((byt s i : Nat) : Int)) = false := by first | exact decide_eq_true (by omega) | exact decide_eq_false (by omega)
 have c2 : decide ((224 : Int) ≤ ((byt s i : Nat) : Int)) = true := by first | exact decide_eq_true (by omega) | exact decide_eq_false (by omega)
 have c3 : decide ((192 : Int) ≤ ((byt s i : Nat) : Int)) = true := by first | exact decide_eq_true (by omega) | exact decide_eq_false (by omega)
 have hbd : -9223372036854775808 ≤ ((byt s i : Nat) : Int) - 224 ∧ ((byt s i : Nat) : Int) - 224 ≤ 9223372036854775807 := by omega
 have hsb : ((byt s i : Nat) : Int) - 224 = ((pv s i 0 : Nat) : Int) := by rw [hb]; omega
 have hin : -9223372036854775808 ≤ (i : Int) + 3 ∧ (i : Int) + 3 ≤ 9223372036854775807 := by omega
 by_cases hl : s.size < i + 3
 ·have e1 : decide ((s.size : Int) < (i : Int) + 3) = true := decide_eq_true (by omega)
  have hr : rfirst s i = none := by unfold rfirst; rw [hw, if_pos hl]
  rw [hr]
  repeat' (first
   | ((with_reducible refine zg ?_); (first | refine zb (zj rfl rfl rfl rfl w0) rfl ?_ | refine zb (Qk rfl rfl hbd hsb) rfl ?_))
   | refine stn [] ?_
   | fail)
  exact retP rfl rfl
 have e1 : decide ((s.size : Int) < (i : Int) + 3) = false := decide_eq_false (by omega)
 have hp0 : 224 = 0 → ((byt s i : Nat) : Int) = ((pv s i 0 : Nat) : Int) := by intro h; omega
 repeat' (first
  | ((with_reducible refine zg ?_); (first | refine zb (zj rfl rfl rfl rfl w0) rfl ?_ | refine zb (Qk rfl rfl hbd hsb) rfl ?_))
  | refine stn [] ?_
  | ((with_reducible refine zl ?_); refine ze rfl (fun h => ?_) (fun h => ?_))
  | fail)
 refine zi (α := Nat) 0 (fun k => [(0, vs s), (1, vi i), (7, vi 3), (6, vi (pv s i k)), (8, vi ((k : Int) + 1))]) (fun _ => []) (fun k => k + 1 ≤ 3) (fun k => 3 - k) 0
  ⟨.cons rfl rfl (.cons rfl rfl (.cons rfl rfl (.cons rfl (by first | rfl | (rw [← hp0 rfl]; rfl)) (.cons rfl rfl .nil)))), rfl, rfl, rfl⟩ (by omega) ?_
 intro k hk
 have hpk := pv_lt s i k (by omega)
 by_cases hkn : k + 1 = 3
 ·have e2 : decide ((k : Int) + 1 < 3) = false := decide_eq_false (by omega)
  have hk1 : wid (byt s i) - 1 = k := by omega
  have hS := Qo (g := g) (pv s i k)
  have hrf : rfirst s i = if scal (pv s i k) = true ∧ encS (pv s i k) = s.extract i (i + 3) then some (pv s i k, 3) else none := by
   unfold rfirst; rw [if_neg (by omega), hk1, hw]
  have n1 : (!true) = false := rfl
  have n2 : (!false) = true := rfl
  cases hsc : scal (pv s i k) with
  | false =>
   rw [hsc] at hS hrf
   rw [hrf, if_neg (by simp)]
   refine run [] ?_
   exact retP rfl rfl
  | true =>
   rw [hsc] at hS hrf
   have hle : pv s i k ≤ 1114111 := by simp [scal] at hsc; omega
   have hE := qJ (g := g) (pv s i k) hle
   have hx : s.extract (i : Int).toNat ((i : Int) + 3).toNat = s.extract i (i + 3) := by
    rw [show (i : Int).toNat = i by omega, show ((i : Int) + 3).toNat = i + 3 by omega]
   have hbb : 0 ≤ (i : Int) ∧ (i : Int) ≤ (i : Int) + 3 ∧ (i : Int) + 3 ≤ (s.size : Nat) := by omega
   by_cases hq : encS (pv s i k) = s.extract i (i + 3)
   ·have e3 : (!decide (encS (pv s i k) = s.extract i (i + 3))) = false := by simp [hq]
    rw [hrf, if_pos ⟨rfl, hq⟩]
    repeat' (first
     | ((with_reducible refine zu ?_); refine zc (zh (fun _ => zD rfl rfl rfl rfl rfl hbb hx) rfl rfl) qb0 ?_)
     | ((with_reducible refine zp ?_); refine zd rfl rfl qa0 (zh (fun _ => zD rfl rfl rfl rfl rfl hbb hx) rfl rfl) qb0 ?_)
     | refine st [] ?_
     | fail)
    exact retP rfl rfl
   ·have e3 : (!decide (encS (pv s i k) = s.extract i (i + 3))) = true := by simp [hq]
    rw [hrf, if_neg (fun h => hq h.2)]
    repeat' (first
     | ((with_reducible refine zu ?_); refine zc (zh (fun _ => zD rfl rfl rfl rfl rfl hbb hx) rfl rfl) qb0 ?_)
     | ((with_reducible refine zp ?_); refine zd rfl rfl qa0 (zh (fun _ => zD rfl rfl rfl rfl rfl hbb hx) rfl rfl) qb0 ?_)
     | refine st [] ?_
     | fail)
    exact retP rfl rfl
 ·have e2 : decide ((k : Int) + 1 < 3) = true := decide_eq_true (by omega)
  have hmul : -9223372036854775808 ≤ ((pv s i k : Nat) : Int) * 64 ∧ ((pv s i k : Nat) : Int) * 64 ≤ 9223372036854775807 := by omega
  have gk := sget (s := s) (k := i + (k + 1)) (n := (i : Int) + ((k : Int) + 1)) (by omega) (by omega)
  have wk : IntKind.i64.wrap (((s.get! (i + (k + 1))).toNat : Nat) : Int) = ((byt s (i + (k + 1)) : Nat) : Int) := wrapB _ (Zd s _)
  have z64 : (0 : Int) < 64 := by omega
  have mk := tm64 (byt s (i + (k + 1))) 64
  have hbk := Zd s (i + (k + 1))
  have hadd : -9223372036854775808 ≤ ((pv s i k : Nat) : Int) * 64 + ((byt s (i + (k + 1)) % 64 : Nat) : Int) ∧ ((pv s i k : Nat) : Int) * 64 + ((byt s (i + (k + 1)) % 64 : Nat) : Int) ≤ 9223372036854775807 := by omega
  have hpn : ((pv s i k : Nat) : Int) * 64 + ((byt s (i + (k + 1)) % 64 : Nat) : Int) = ((pv s i (k + 1) : Nat) : Int) := by
   simp only [pv]; omega
  repeat' (first
   | ((with_reducible refine zg ?_); (first | refine zb (zj rfl rfl rfl rfl wk) rfl ?_ | refine zb (qg rfl rfl hmul) rfl ?_ | refine zb (Zz rfl rfl z64 mk) rfl ?_ | refine zb (JZ rfl rfl hadd hpn) rfl ?_))
   | refine stn [] ?_
   | fail)
  exact ⟨k + 1, qw, by omega, by omega⟩
set_option maxHeartbeats 2000000 in
theorem rfst2_spec (s : ByteArray) (i : Nat) (hi : i < s.size) (hs : s.size ≤ 1000000) (hlo : 192 ≤ byt s i) (hhi : byt s i < 224) : PCalls Tryz.prog g 129 [vs s, vi i] (firstV (rfirst s i)) := by
 refine pcalls' Tryz.func129 Tryz.ntmps129 rfl rfl rfl ?_
 have hw : wid (byt s i) = 2 := by
  unfold wid
  repeat' split
  all_goals omega
 have hb : pv s i 0 = byt s i - 192 := by
  simp only [pv]
  unfold base
  repeat' split
  all_goals omega
 have g0 := sget (n := (i : Int)) hi rfl
 have w0 : IntKind.i64.wrap (((s.get! i).toNat : Nat) : Int) = ((byt s i : Nat) : Int) := wrapB _ (Zd s i)
 have c1 : decide ((240 : Int) ≤ ((byt s i : Nat) : Int)) = false := by first | exact decide_eq_true (by omega) | exact decide_eq_false (by omega)
 have c2 : decide ((224 : Int) ≤ ((byt s i : Nat) : Int)) = false := by first | exact decide_eq_true (by omega) | exact decide_eq_false (by omega)
 have c3 : decide ((192 : Int) ≤ ((byt s i : Nat) : Int)) = true := by first | exact decide_eq_true (by omega) | exact decide_eq_false (by omega)
 have hbd : -9223372036854775808 ≤ ((byt s i : Nat) : Int) - 192 ∧ ((byt s i : Nat) : Int) - 192 ≤ 9223372036854775807 := by omega
 have hsb : ((byt s i : Nat) : Int) - 192 = ((pv s i 0 : Nat) : Int) := by rw [hb]; omega
 have hin : -9223372036854775808 ≤ (i : Int) + 2 ∧ (i : Int) + 2 ≤ 9223372036854775807 := by omega
 by_cases hl : s.size < i + 2
 ·have e1 : decide ((s.size : Int) < (i : Int) + 2) = true := decide_eq_true (by omega)
  have hr : rfirst s i = none := by unfold rfirst; rw [hw, if_pos hl]
  rw [hr]
  repeat' (first
   | ((with_reducible refine zg ?_); (first | refine zb (zj rfl rfl rfl rfl w0) rfl ?_ | refine zb (Qk rfl rfl hbd hsb) rfl ?_))
   | refine stn [] ?_
   | fail)
  exact retP rfl rfl
 have e1 : decide ((s.size : Int) < (i : Int) + 2) = false := decide_eq_false (by omega)
 have hp0 : 192 = 0 → ((byt s i : Nat) : Int) = ((pv s i 0 : Nat) : Int) := by intro h; omega
 repeat' (first
  | ((with_reducible refine zg ?_); (first | refine zb (zj rfl rfl rfl rfl w0) rfl ?_ | refine zb (Qk rfl rfl hbd hsb) rfl ?_))
  | refine stn [] ?_
  | ((with_reducible refine zl ?_); refine ze rfl (fun h => ?_) (fun h => ?_))
  | fail)
 refine zi (α := Nat) 0 (fun k => [(0, vs s), (1, vi i), (7, vi 2), (6, vi (pv s i k)), (8, vi ((k : Int) + 1))]) (fun _ => []) (fun k => k + 1 ≤ 2) (fun k => 2 - k) 0
  ⟨.cons rfl rfl (.cons rfl rfl (.cons rfl rfl (.cons rfl (by first | rfl | (rw [← hp0 rfl]; rfl)) (.cons rfl rfl .nil)))), rfl, rfl, rfl⟩ (by omega) ?_
 intro k hk
 have hpk := pv_lt s i k (by omega)
 by_cases hkn : k + 1 = 2
 ·have e2 : decide ((k : Int) + 1 < 2) = false := decide_eq_false (by omega)
  have hk1 : wid (byt s i) - 1 = k := by omega
  have hS := Qo (g := g) (pv s i k)
  have hrf : rfirst s i = if scal (pv s i k) = true ∧ encS (pv s i k) = s.extract i (i + 2) then some (pv s i k, 2) else none := by
   unfold rfirst; rw [if_neg (by omega), hk1, hw]
  have n1 : (!true) = false := rfl
  have n2 : (!false) = true := rfl
  cases hsc : scal (pv s i k) with
  | false =>
   rw [hsc] at hS hrf
   rw [hrf, if_neg (by simp)]
   refine run [] ?_
   exact retP rfl rfl
  | true =>
   rw [hsc] at hS hrf
   have hle : pv s i k ≤ 1114111 := by simp [scal] at hsc; omega
   have hE := qJ (g := g) (pv s i k) hle
   have hx : s.extract (i : Int).toNat ((i : Int) + 2).toNat = s.extract i (i + 2) := by
    rw [show (i : Int).toNat = i by omega, show ((i : Int) + 2).toNat = i + 2 by omega]
   have hbb : 0 ≤ (i : Int) ∧ (i : Int) ≤ (i : Int) + 2 ∧ (i : Int) + 2 ≤ (s.size : Nat) := by omega
   by_cases hq : encS (pv s i k) = s.extract i (i + 2)
   ·have e3 : (!decide (encS (pv s i k) = s.extract i (i + 2))) = false := by simp [hq]
    rw [hrf, if_pos ⟨rfl, hq⟩]
    repeat' (first
     | ((with_reducible refine zu ?_); refine zc (zh (fun _ => zD rfl rfl rfl rfl rfl hbb hx) rfl rfl) qb0 ?_)
     | ((with_reducible refine zp ?_); refine zd rfl rfl qa0 (zh (fun _ => zD rfl rfl rfl rfl rfl hbb hx) rfl rfl) qb0 ?_)
     | refine st [] ?_
     | fail)
    exact retP rfl rfl
   ·have e3 : (!decide (encS (pv s i k) = s.extract i (i + 2))) = true := by simp [hq]
    rw [hrf, if_neg (fun h => hq h.2)]
    repeat' (first
     | ((with_reducible refine zu ?_); refine zc (zh (fun _ => zD rfl rfl rfl rfl rfl hbb hx) rfl rfl) qb0 ?_)
     | ((with_reducible refine zp ?_); refine zd rfl rfl qa0 (zh (fun _ => zD rfl rfl rfl rfl rfl hbb hx) rfl rfl) qb0 ?_)
     | refine st [] ?_
     | fail)
    exact retP rfl rfl
 ·have e2 : decide ((k : Int) + 1 < 2) = true := decide_eq_true (by omega)
  have hmul : -9223372036854775808 ≤ ((pv s i k : Nat) : Int) * 64 ∧ ((pv s i k : Nat) : Int) * 64 ≤ 9223372036854775807 := by omega
  have gk := sget (s := s) (k := i + (k + 1)) (n := (i : Int) + ((k : Int) + 1)) (by omega) (by omega)
  have wk : IntKind.i64.wrap (((s.get! (i + (k + 1))).toNat : Nat) : Int) = ((byt s (i + (k + 1)) : Nat) : Int) := wrapB _ (Zd s _)
  have z64 : (0 : Int) < 64 := by omega
  have mk := tm64 (byt s (i + (k + 1))) 64
  have hbk := Zd s (i + (k + 1))
  have hadd : -9223372036854775808 ≤ ((pv s i k : Nat) : Int) * 64 + ((byt s (i + (k + 1)) % 64 : Nat) : Int) ∧ ((pv s i k : Nat) : Int) * 64 + ((byt s (i + (k + 1)) % 64 : Nat) : Int) ≤ 9223372036854775807 := by omega
  have hpn : ((pv s i k : Nat) : Int) * 64 + ((byt s (i + (k + 1)) % 64 : Nat) : Int) = ((pv s i (k + 1) : Nat) : Int) := by
   simp only [pv]; omega
  repeat' (first
   | ((with_reducible refine zg ?_); (first | refine zb (zj rfl rfl rfl rfl wk) rfl ?_ | refine zb (qg rfl rfl hmul) rfl ?_ | refine zb (Zz rfl rfl z64 mk) rfl ?_ | refine zb (JZ rfl rfl hadd hpn) rfl ?_))
   | refine stn [] ?_
   | fail)
  exact ⟨k + 1, qw, by omega, by omega⟩
set_option maxHeartbeats 2000000 in
theorem rfst1_spec (s : ByteArray) (i : Nat) (hi : i < s.size) (hs : s.size ≤ 1000000) (hlo : 0 ≤ byt s i) (hhi : byt s i < 192) : PCalls Tryz.prog g 129 [vs s, vi i] (firstV (rfirst s i)) := by
 refine pcalls' Tryz.func129 Tryz.ntmps129 rfl rfl rfl ?_
 have hw : wid (byt s i) = 1 := by
  unfold wid
  repeat' split
  all_goals omega
 have hb : pv s i 0 = byt s i - 0 := by
  simp only [pv]
  unfold base
  repeat' split
  all_goals omega
 have g0 := sget (n := (i : Int)) hi rfl
 have w0 : IntKind.i64.wrap (((s.get! i).toNat : Nat) : Int) = ((byt s i : Nat) : Int) := wrapB _ (Zd s i)
 have c1 : decide ((240 : Int) ≤ ((byt s i : Nat) : Int)) = false := by first | exact decide_eq_true (by omega) | exact decide_eq_false (by omega)
 have c2 : decide ((224 : Int) ≤ ((byt s i : Nat) : Int)) = false := by first | exact decide_eq_true (by omega) | exact decide_eq_false (by omega)
 have c3 : decide ((192 : Int) ≤ ((byt s i : Nat) : Int)) = false := by first | exact decide_eq_true (by omega) | exact decide_eq_false (by omega)
 have hbd : -9223372036854775808 ≤ ((byt s i : Nat) : Int) - 0 ∧ ((byt s i : Nat) : Int) - 0 ≤ 9223372036854775807 := by omega
 have hsb : ((byt s i : Nat) : Int) - 0 = ((pv s i 0 : Nat) : Int) := by rw [hb]; omega
 have hin : -9223372036854775808 ≤ (i : Int) + 1 ∧ (i : Int) + 1 ≤ 9223372036854775807 := by omega
 by_cases hl : s.size < i + 1
 ·have e1 : decide ((s.size : Int) < (i : Int) + 1) = true := decide_eq_true (by omega)
  have hr : rfirst s i = none := by unfold rfirst; rw [hw, if_pos hl]
  rw [hr]
  repeat' (first
   | ((with_reducible refine zg ?_); (first | refine zb (zj rfl rfl rfl rfl w0) rfl ?_ | refine zb (Qk rfl rfl hbd hsb) rfl ?_))
   | refine stn [] ?_
   | fail)
  exact retP rfl rfl
 have e1 : decide ((s.size : Int) < (i : Int) + 1) = false := decide_eq_false (by omega)
 have hp0 : 0 = 0 → ((byt s i : Nat) : Int) = ((pv s i 0 : Nat) : Int) := by intro h; omega
 repeat' (first
  | ((with_reducible refine zg ?_); (first | refine zb (zj rfl rfl rfl rfl w0) rfl ?_ | refine zb (Qk rfl rfl hbd hsb) rfl ?_))
  | refine stn [] ?_
  | ((with_reducible refine zl ?_); refine ze rfl (fun h => ?_) (fun h => ?_))
  | fail)
 refine zi (α := Nat) 0 (fun k => [(0, vs s), (1, vi i), (7, vi 1), (6, vi (pv s i k)), (8, vi ((k : Int) + 1))]) (fun _ => []) (fun k => k + 1 ≤ 1) (fun k => 1 - k) 0
  ⟨.cons rfl rfl (.cons rfl rfl (.cons rfl rfl (.cons rfl (by first | rfl | (rw [← hp0 rfl]; rfl)) (.cons rfl rfl .nil)))), rfl, rfl, rfl⟩ (by omega) ?_
 intro k hk
 have hpk := pv_lt s i k (by omega)
 by_cases hkn : k + 1 = 1
 ·have e2 : decide ((k : Int) + 1 < 1) = false := decide_eq_false (by omega)
  have hk1 : wid (byt s i) - 1 = k := by omega
  have hS := Qo (g := g) (pv s i k)
  have hrf : rfirst s i = if scal (pv s i k) = true ∧ encS (pv s i k) = s.extract i (i + 1) then some (pv s i k, 1) else none := by
   unfold rfirst; rw [if_neg (by omega), hk1, hw]
  have n1 : (!true) = false := rfl
  have n2 : (!false) = true := rfl
  cases hsc : scal (pv s i k) with
  | false =>
   rw [hsc] at hS hrf
   rw [hrf, if_neg (by simp)]
   refine run [] ?_
   exact retP rfl rfl
  | true =>
   rw [hsc] at hS hrf
   have hle : pv s i k ≤ 1114111 := by simp [scal] at hsc; omega
   have hE := qJ (g := g) (pv s i k) hle
   have hx : s.extract (i : Int).toNat ((i : Int) + 1).toNat = s.extract i (i + 1) := by
    rw [show (i : Int).toNat = i by omega, show ((i : Int) + 1).toNat = i + 1 by omega]
   have hbb : 0 ≤ (i : Int) ∧ (i : Int) ≤ (i : Int) + 1 ∧ (i : Int) + 1 ≤ (s.size : Nat) := by omega
   by_cases hq : encS (pv s i k) = s.extract i (i + 1)
   ·have e3 : (!decide (encS (pv s i k) = s.extract i (i + 1))) = false := by simp [hq]
    rw [hrf, if_pos ⟨rfl, hq⟩]
    repeat' (first
     | ((with_reducible refine zu ?_); refine zc (zh (fun _ => zD rfl rfl rfl rfl rfl hbb hx) rfl rfl) qb0 ?_)
     | ((with_reducible refine zp ?_); refine zd rfl rfl qa0 (zh (fun _ => zD rfl rfl rfl rfl rfl hbb hx) rfl rfl) qb0 ?_)
     | refine st [] ?_
     | fail)
    exact retP rfl rfl
   ·have e3 : (!decide (encS (pv s i k) = s.extract i (i + 1))) = true := by simp [hq]
    rw [hrf, if_neg (fun h => hq h.2)]
    repeat' (first
     | ((with_reducible refine zu ?_); refine zc (zh (fun _ => zD rfl rfl rfl rfl rfl hbb hx) rfl rfl) qb0 ?_)
     | ((with_reducible refine zp ?_); refine zd rfl rfl qa0 (zh (fun _ => zD rfl rfl rfl rfl rfl hbb hx) rfl rfl) qb0 ?_)
     | refine st [] ?_
     | fail)
    exact retP rfl rfl
 ·have e2 : decide ((k : Int) + 1 < 1) = true := decide_eq_true (by omega)
  have hmul : -9223372036854775808 ≤ ((pv s i k : Nat) : Int) * 64 ∧ ((pv s i k : Nat) : Int) * 64 ≤ 9223372036854775807 := by omega
  have gk := sget (s := s) (k := i + (k + 1)) (n := (i : Int) + ((k : Int) + 1)) (by omega) (by omega)
  have wk : IntKind.i64.wrap (((s.get! (i + (k + 1))).toNat : Nat) : Int) = ((byt s (i + (k + 1)) : Nat) : Int) := wrapB _ (Zd s _)
  have z64 : (0 : Int) < 64 := by omega
  have mk := tm64 (byt s (i + (k + 1))) 64
  have hbk := Zd s (i + (k + 1))
  have hadd : -9223372036854775808 ≤ ((pv s i k : Nat) : Int) * 64 + ((byt s (i + (k + 1)) % 64 : Nat) : Int) ∧ ((pv s i k : Nat) : Int) * 64 + ((byt s (i + (k + 1)) % 64 : Nat) : Int) ≤ 9223372036854775807 := by omega
  have hpn : ((pv s i k : Nat) : Int) * 64 + ((byt s (i + (k + 1)) % 64 : Nat) : Int) = ((pv s i (k + 1) : Nat) : Int) := by
   simp only [pv]; omega
  repeat' (first
   | ((with_reducible refine zg ?_); (first | refine zb (zj rfl rfl rfl rfl wk) rfl ?_ | refine zb (qg rfl rfl hmul) rfl ?_ | refine zb (Zz rfl rfl z64 mk) rfl ?_ | refine zb (JZ rfl rfl hadd hpn) rfl ?_))
   | refine stn [] ?_
   | fail)
  exact ⟨k + 1, qw, by omega, by omega⟩
theorem rfst_spec (s : ByteArray) (i : Nat) (hi : i < s.size) (hs : s.size ≤ 1000000) : PCalls Tryz.prog g 129 [vs s, vi i] (firstV (rfirst s i)) := by
 by_cases h4 : 240 ≤ byt s i
 ·exact rfst4_spec s i hi hs h4 (Zd s i)
 by_cases h3 : 224 ≤ byt s i
 ·exact rfst3_spec s i hi hs h3 (by omega)
 by_cases h2 : 192 ≤ byt s i
 ·exact rfst2_spec s i hi hs h2 (by omega)
 ·exact rfst1_spec s i hi hs (by omega) (by omega)
end
section
open Go.Ac
attribute [local irreducible] awp awpL Ev Ev2 EvS thenQ blockQ retQ PCalls OCalls YieldOk IterC
variable {g : List (Nat × List AV)}
theorem runeL_get {s : ByteArray} {k p : Nat} {r : List (Nat × Nat)} (h : (runes s).drop k = (p, (Utf8.decode s p).1) :: r) : (runeL s)[k]? = some ((Utf8.decode s p).1 : Int) := by
 rw [runeL, List.getElem?_map, (wL h).1]; rfl
theorem decode_in (s : ByteArray) (p : Nat) (h : p < s.size) (hg : Utf8.decode s p ≠ (65533, 1)) : p + (Utf8.decode s p).2 ≤ s.size := (y7 h hg).1
set_option maxHeartbeats 2000000 in
theorem rPoints_spec (s : ByteArray) (hs : s.size ≤ 100000) : PCalls Tryz.prog g 104 [vs s] (pointsV s) := by
 have hlen := wm s
 refine pcalls' Tryz.func104 Tryz.ntmps104 rfl rfl rfl ?_
 repeat' (first
  | refine stn [] ?_
  | ((with_reducible refine zl ?_); refine ze rfl (fun h => ?_) (fun h => ?_))
  | fail)
 refine ZC (t := 4) (E := 3) (sz := 1) rfl rfl rfl ?_
 refine J8 (α := Nat) (β := Nat) 1 (fun k p => [(0, vs s), (4, .os 0 0), (5, vi p)]) (fun k p => [.own 0 3 1 (((runeL s).take k).map intC)]) (fun k p => (runes s).drop k = runesK s (s.size - p) p ∧ Go.Lib.validD s.data.toList = validP s p ∧ p ≤ s.size) (fun k p => s.size - p) 0 0
  qw ⟨rfl, by simp [validP], Nat.zero_le _⟩ ?_
 rintro k p ⟨hd, hv, hps⟩
 by_cases hp : p < s.size
 ·have c1 : decide ((p : Int) < s.size) = true := decide_eq_true (by omega)
  have h1 := rfst_spec (g := g) s p hp (by omega)
  rw [rfirst_eq s p hp] at h1
  rw [w9 hp] at hd
  rw [wY hp] at hv
  by_cases hg : Utf8.decode s p = (65533, 1)
  ·rw [if_pos hg] at h1 hv
   rw [firstV] at h1
   have z0 : decide ((0 : Int) = 0) = true := rfl
   refine runn [] ?_
   refine retP rfl ?_
   simp [ex, exL, pointsV, hv]
  ·rw [if_neg hg] at h1 hv
   have hw := q9 s p
   have hr := runeL_get hd
   have hin := decode_in s p hp hg
   have hd' := (wL hd).2
   obtain ⟨c, w, hdec⟩ : ∃ c w, Utf8.decode s p = (c, w) := ⟨_, _, rfl⟩
   rw [hdec] at hw hr hd' h1 hv hin
   simp only at hw hr hd' hv hin
   rw [firstV] at h1
   have c2 : decide ((w : Int) = 0) = false := decide_eq_false (by omega)
   have hj := JF intC (runeL s) k _ hr
   have hkl : k < (runeL s).length := (List.getElem?_eq_some_iff.1 hr).1
   have ha : -9223372036854775808 ≤ (p : Int) + (w : Int) ∧ (p : Int) + (w : Int) ≤ 9223372036854775807 := by omega
   have he : (p : Int) + (w : Int) = ((p + w : Nat) : Int) := by omega
   repeat' (first
    | ((with_reducible refine zg ?_); (first | refine zb (JZ rfl rfl ha he) rfl ?_ | refine zk (zZ (es' := ((runeL s).take (k + 1)).map intC) rfl rfl rfl rfl rfl rfl rfl rfl rfl rfl rfl rfl rfl qe0 hj rfl) rfl ?_))
    | refine stn [] ?_
    | fail)
   exact ⟨k + 1, p + w, qw, ⟨hd', hv, hin⟩, by omega⟩
 ·have c1 : decide ((p : Int) < s.size) = false := decide_eq_false (by omega)
  rw [validP_end (by omega)] at hv
  rw [qh s _ p (by omega)] at hd
  have hk : (runes s).length ≤ k := by
   have := congrArg List.length hd
   simp at this; omega
  have e : (runeL s).take k = runeL s := List.take_of_length_le (by rw [runeL, List.length_map]; exact hk)
  refine runn [] ?_
  refine retP rfl ?_
  simp [ex, exL, pointsV, hv, e]
set_option maxHeartbeats 1000000 in
theorem yo (s : ByteArray) : PCalls Tryz.prog g 73 [vs s] (vi (textE s)) := by
 refine pcalls' Tryz.func73 Tryz.ntmps73 rfl rfl rfl ?_
 by_cases h200 : 200 < s.size
 ·have c0 : decide ((200 : Int) < s.size) = true := decide_eq_true (by omega)
  refine runn [] ?_
  refine retP rfl ?_
  rw [textE, if_pos h200]; rfl
 have c0 : decide ((200 : Int) < s.size) = false := decide_eq_false (by omega)
 have h1 := rPoints_spec (g := g) s (by omega)
 have n1 : (!true) = false := rfl
 have n2 : (!false) = true := rfl
 cases hv : Go.Lib.validD s.data.toList with
 | false =>
  rw [pointsV, hv, if_neg (by simp)] at h1
  refine runn [] ?_
  refine retP rfl ?_
  rw [textE, if_neg h200, if_pos hv]; rfl
 | true =>
  rw [pointsV, hv, if_pos rfl] at h1
  have hE : textE s = if lowB s then 3 else 0 := by rw [textE, if_neg h200, if_neg (by simp [hv])]
  have hlen := wm s
  rw [hE, ← low_eq hv]
  repeat' (first
   | refine stn [] ?_
   | ((with_reducible refine zl ?_); refine ze rfl (fun h => ?_) (fun h => ?_))
   | fail)
  generalize runeL s = l at *
  refine zi (α := Nat) 0 (fun k => [(3, encIs l), (5, vi k)]) (fun _ => []) (fun k => k ≤ l.length ∧ (l.any fun x => decide (x < 32) || decide (x = 127)) = (l.drop k).any fun x => decide (x < 32) || decide (x = 127)) (fun k => l.length - k) 0
   qw ⟨Nat.zero_le _, rfl⟩ ?_
  rintro k ⟨hk, hf⟩
  cases ht : l[k]? with
  | none =>
   have hge : l.length ≤ k := by simpa using ht
   have c1 : decide ((k : Int) < l.length) = false := decide_eq_false (by omega)
   rw [List.drop_of_length_le hge] at hf
   refine runn [] ?_
   refine retP rfl ?_
   rw [hf]; rfl
  | some c =>
   have hlt : k < l.length := (List.getElem?_eq_some_iff.1 ht).1
   have c1 : decide ((k : Int) < l.length) = true := decide_eq_true (by omega)
   have h3 := qI ht
   rw [Yg _ _ k c ht] at hf
   by_cases l1 : c < 32
   ·have d1 : decide (c < 32) = true := decide_eq_true (by omega)
    refine runn [] ?_
    refine retP rfl ?_
    rw [hf]; simp [l1, ex]
   have d1 : decide (c < 32) = false := decide_eq_false (by omega)
   by_cases l2 : c = 127
   ·have d2 : decide (c = 127) = true := decide_eq_true (by omega)
    refine runn [] ?_
    refine retP rfl ?_
    rw [hf]; simp [l2, ex]
   have d2 : decide (c = 127) = false := decide_eq_false (by omega)
   refine runn [] ?_
   exact ⟨k + 1, qw, ⟨by omega, by rw [hf]; simp [l1, l2]⟩, by omega⟩
theorem Op_spec (hu : Utf g) (o : Op) (hid : I64 o.note.id) : PCalls Tryz.prog g 98 [.agg (opC o)] (vi (opE o)) := OpCheck_spec (Text_spec hu) o hid
theorem rOp_spec (o : Op) (hid : I64 o.note.id) : PCalls Tryz.prog g 57 [.agg (opC o)] (vi (opE o)) := rOpCheck_spec yo o hid
end
end Go.Proofs.YtcfkokllinkigaaGreatDoor
section
namespace Go.Proofs.YtcfkokllinkigaaGreatDoor
open Go.Ac
theorem idOf_inj {a b : Stamp} (ha : right a = true) (hb : right b = true) (h : idOf a = idOf b) : a = b := by
 rcases a with ⟨a1, a2⟩
 rcases b with ⟨b1, b2⟩
 rw [idOf, idOf, if_pos ha, if_pos hb] at h
 simp only [right, Bool.and_eq_true, decide_eq_true_eq] at ha hb
 simp only at h
 have : a1 = b1 ∧ a2 = b2 := by omega
 rw [this.1, this.2]
theorem ww {o : Op} (h : opE o = 0) (hk : o.kind = 0) : o.note.id = idOf o.at_ := by
 have hr := zO h
 unfold opE at h
 rw [if_neg (by simp [hr]), if_pos hk] at h
 split at h
 ·omega
 ·by_cases he : addedE o = 0
  ·unfold addedE at he
   split at he
   ·omega
   ·rename_i hn; exact Decidable.of_not_not hn
  ·simp [firstE, he] at h
structure WK where
 at_ : Stamp
 note : Int
 f : Int
 deriving DecidableEq
def addM (m : List (Int × Int)) (o : Op) : List (Int × Int) := if o.kind = 0 then aput m o.note.id o.rec_ else m
def wrF (o : Op) (m : List (WK × Unit)) (f : Int) : List (WK × Unit) := if writes o o.note.id f then aput m ⟨o.at_, o.note.id, f⟩ () else m
def wrK (o : Op) (m : List (WK × Unit)) (j : Nat) : List (WK × Unit) := (([0, 1, 2] : List Int).take j).foldl (wrF o) m
def wrM (m : List (WK × Unit)) (o : Op) : List (WK × Unit) := wrK o m 3
def addedM (pre : List Op) : List (Int × Int) := pre.foldl addM []
def writesM (pre : List Op) : List (WK × Unit) := pre.foldl wrM []
theorem Wp (pre : List Op) (o : Op) : addedM (pre ++ [o]) = addM (addedM pre) o := by simp [addedM]
theorem writesM_snoc (pre : List Op) (o : Op) : writesM (pre ++ [o]) = wrM (writesM pre) o := by simp [writesM]
theorem wrK_succ (o : Op) (m : List (WK × Unit)) (j : Nat) (hj : j < 3) : wrK o m (j + 1) = wrF o (wrK o m j) j := by
 have : j = 0 ∨ j = 1 ∨ j = 2 := by omega
 rcases this with rfl | rfl | rfl <;> rfl
theorem addedM_nd (pre : List Op) : ANd (addedM pre) := by
 unfold addedM
 have : ∀ (l : List Op) (m : List (Int × Int)), ANd m → ANd (l.foldl addM m) := by
  intro l
  induction l with
  | nil => intro m h; exact h
  | cons o r ih =>
   intro m h
   refine ih _ ?_
   unfold addM
   split
   ·exact h.put _ _
   ·exact h
 exact this pre [] List.nodup_nil
theorem wrF_nd {o : Op} {m : List (WK × Unit)} (h : ANd m) (f : Int) : ANd (wrF o m f) := by
 unfold wrF
 split
 ·exact h.put _ _
 ·exact h
theorem wrK_nd {o : Op} {m : List (WK × Unit)} (h : ANd m) (j : Nat) : ANd (wrK o m j) := by
 unfold wrK
 have : ∀ (l : List Int) (m : List (WK × Unit)), ANd m → ANd (l.foldl (wrF o) m) := by
  intro l
  induction l with
  | nil => intro m h; exact h
  | cons f r ih => intro m h; exact ih _ (wrF_nd h f)
 exact this _ _ h
theorem WT (pre : List Op) : ANd (writesM pre) := by
 unfold writesM
 have : ∀ (l : List Op) (m : List (WK × Unit)), ANd m → ANd (l.foldl wrM m) := by
  intro l
  induction l with
  | nil => intro m h; exact h
  | cons o r ih => intro m h; exact ih _ (wrK_nd h 3)
 exact this pre [] List.nodup_nil
def Good (pre : List Op) : Prop := Inc pre ∧ ∀ o ∈ pre, opE o = 0
theorem Good.nil : Good [] := ⟨List.Pairwise.nil, fun _ h => by cases h⟩
theorem Good.snoc {pre : List Op} {o : Op} (h : Good pre) (ho : oneE pre o = 0) : Good (pre ++ [o]) := by
 have h0 := Qw ho
 refine ⟨?_, fun p hp => ?_⟩
 ·cases hl : pre.getLast? with
  | none =>
   have : pre = [] := by simpa using hl
   subst this; exact List.pairwise_singleton _ _
  | some p => exact h.1.snoc fun q hq => WD (h.1.last_le hl q hq) (oneE_less ho hl)
 ·rcases List.mem_append.1 hp with hp | hp
  ·exact h.2 p hp
  ·simp only [List.mem_singleton] at hp; subst hp; exact h0
theorem find_snoc {α : Type} (f : α → Bool) (l : List α) (x : α) : (l ++ [x]).find? f = (l.find? f).or (if f x then some x else none) := by
 induction l with
 | nil => simp [List.find?]
 | cons y r ih =>
  simp only [List.cons_append, List.find?_cons]
  cases f y with
  | true => rfl
  | false => exact ih
theorem get_added {pre : List Op} (h : Good pre) (id : Int) : aget (addedM pre) id = (addedO pre id).map (·.rec_) := by
 suffices H : ∀ (n : Nat) (pre : List Op), pre.length = n → Good pre → aget (addedM pre) id = (addedO pre id).map (·.rec_) from H _ pre rfl h
 intro n
 induction n with
 | zero =>
  intro pre hn _
  have : pre = [] := List.eq_nil_of_length_eq_zero hn
  subst this; rfl
 | succ n ih =>
  intro pre hn h
  have hne : pre ≠ [] := by intro e; rw [e] at hn; cases hn
  obtain ⟨q, o, rfl⟩ : ∃ q o, pre = q ++ [o] := ⟨_, _, (List.dropLast_concat_getLast hne).symm⟩
  obtain ⟨hi, ha⟩ := h
  obtain ⟨i1, i2, i3⟩ := List.pairwise_append.1 hi
  have hq : Good q := ⟨i1, fun p hp => ha p (List.mem_append_left _ hp)⟩
  have hIH := ih q (by simp at hn; exact hn) hq
  rw [Wp]
  unfold addedO at hIH ⊢
  rw [find_snoc]
  unfold addM
  by_cases hk : o.kind = 0
  ·rw [if_pos hk, QD]
   by_cases e : o.note.id = id
   ·rw [if_pos e]
    have hnone : q.find? (fun o => decide (o.kind = 0) && decide (o.note.id = id)) = none := by
     rw [List.find?_eq_none]
     intro p hp hc
     simp only [Bool.and_eq_true, decide_eq_true_eq] at hc
     have h1 := ww (ha p (List.mem_append_left _ hp)) hc.1
     have h2 := ww (ha o (List.mem_append_right _ (List.mem_singleton_self _))) hk
     have hat := idOf_inj (zO (ha p (List.mem_append_left _ hp))) (zO (ha o (List.mem_append_right _ (List.mem_singleton_self _)))) (by rw [← h1, ← h2, hc.2, e])
     exact qq (i3 p hp o (List.mem_singleton_self _)) hat
    rw [hnone]
    simp [hk, e]
   ·rw [if_neg e, hIH]
    simp [hk, e]
  ·rw [if_neg hk, hIH]
   simp [hk]
theorem wrF_get (o : Op) (m : List (WK × Unit)) (f : Int) (k : WK) : (aget (wrF o m f) k).isSome = ((aget m k).isSome || (writes o o.note.id f && decide (k = ⟨o.at_, o.note.id, f⟩))) := by
 unfold wrF
 cases hw : writes o o.note.id f with
 | false => simp
 | true =>
  rw [if_pos rfl, QD]
  by_cases e : (⟨o.at_, o.note.id, f⟩ : WK) = k
  ·rw [if_pos e]; subst e; simp
  ·rw [if_neg e]
   have : ¬ k = ⟨o.at_, o.note.id, f⟩ := fun h => e h.symm
   simp [this]
theorem wrM_get (o : Op) (m : List (WK × Unit)) (s : Stamp) (n f : Int) : (aget (wrM m o) ⟨s, n, f⟩).isSome = ((aget m ⟨s, n, f⟩).isSome || (decide (o.at_ = s) && writes o n f)) := by
 have e : wrM m o = wrF o (wrF o (wrF o m 0) 1) 2 := rfl
 rw [e, wrF_get, wrF_get, wrF_get]
 simp only [WK.mk.injEq, Bool.decide_and, Bool.or_assoc]
 congr 1
 rw [Bool.eq_iff_iff]
 simp only [Bool.or_eq_true, Bool.and_eq_true, decide_eq_true_eq, writes, wrt, within]
 constructor
 ·rintro (h | h | h) <;> (obtain ⟨⟨_, h1⟩, h2, h3, h4⟩ := h; subst h2 h3 h4; exact ⟨rfl, rfl, h1⟩)
 ·rintro ⟨h1, h2, ⟨h3, h4⟩, h5⟩
  have : f = 0 ∨ f = 1 ∨ f = 2 := by omega
  rcases this with rfl | rfl | rfl
  ·exact .inl ⟨⟨trivial, ⟨by omega, by omega⟩, h5⟩, h1.symm, h2.symm, rfl⟩
  ·exact .inr (.inl ⟨⟨trivial, ⟨by omega, by omega⟩, h5⟩, h1.symm, h2.symm, rfl⟩)
  ·exact .inr (.inr ⟨⟨trivial, ⟨by omega, by omega⟩, h5⟩, h1.symm, h2.symm, rfl⟩)
theorem get_writes (pre : List Op) (s : Stamp) (n f : Int) : (aget (writesM pre) ⟨s, n, f⟩).isSome = writer pre s n f := by
 have : ∀ (l : List Op) (m : List (WK × Unit)), (aget (l.foldl wrM m) ⟨s, n, f⟩).isSome = ((aget m ⟨s, n, f⟩).isSome || writer l s n f) := by
  intro l
  induction l with
  | nil => intro m; simp [writer]
  | cons o r ih => intro m; rw [List.foldl_cons, ih, wrM_get]; simp [writer, Bool.or_assoc]
 have h := this pre []
 simpa [writesM, aget] using h
theorem join_self {v : List Int} (hl : v.length = 15) (h : ∀ x ∈ v, 0 ≤ x) : join v [] = v := by
 apply List.ext_getElem?
 intro i
 unfold join
 rw [List.getElem?_map]
 by_cases hi : i < 15
 ·rw [List.getElem?_range hi, List.getElem?_eq_getElem (by omega)]
  have : 0 ≤ v[i] := h _ (List.getElem_mem _)
  simp only [Option.map_some, num, List.getElem?_eq_getElem (show i < v.length by omega), Option.getD_some, Option.some.injEq, List.getElem?_nil, Option.getD_none]
  omega
 ·rw [List.getElem?_eq_none (by simpa using hi), List.getElem?_eq_none (by omega)]; rfl
theorem Js (v : List Int) (i : Nat) : 0 ≤ num v i := by unfold num; omega
theorem ju (a b : List Int) : ∀ x ∈ join a b, 0 ≤ x := by
 intro x hx
 obtain ⟨i, _, rfl⟩ := List.mem_map.1 hx
 have := Js a i
 omega
theorem see_nonneg (v : List Int) (s : Stamp) : ∀ x ∈ see v s, 0 ≤ x := by
 intro x hx
 unfold see at hx
 split at hx
 ·rcases List.mem_or_eq_of_mem_set hx with h | h
  ·exact ju _ _ x h
  ·have := Js v (s.dev - 1).toNat; omega
 ·exact ju _ _ x hx
theorem qR (l : List Op) (o : Op) : seenL (l ++ [o]) = see (seenL l) o.at_ := by simp [seenL]
theorem QM (l : List Op) : ∀ x ∈ seenL l, 0 ≤ x := by
 unfold seenL
 have : ∀ (l : List Op) (v : List Int), (∀ x ∈ v, 0 ≤ x) → ∀ x ∈ l.foldl (fun v o => see v o.at_) v, 0 ≤ x := by
  intro l
  induction l with
  | nil => intro v h; exact h
  | cons o r ih => intro v h; exact ih _ (see_nonneg _ _)
 exact this l _ (ju _ _)
theorem seenL_step {l : List Op} {o : Op} (h : right o.at_ = true) : seenL (l ++ [o]) = (seenL l).set (o.at_.dev - 1).toNat (max (num (seenL l) (o.at_.dev - 1).toNat) o.at_.count) := by
 rw [qR, see, if_pos h, join_self (Zf l) (QM l)]
theorem seenL_nil : seenL [] = List.replicate 15 0 := by decide
end Go.Proofs.YtcfkokllinkigaaGreatDoor
namespace Go.Proofs.YtcfkokllinkigaaGreatDoor
theorem jQ {pre : List Op} {o : Op} {a b c : Bool} (ha : (match pre.getLast? with | some p => less p.at_ o.at_ | none => true) = a) (hb : (match addedO pre o.note.id with | some a => decide (a.rec_ = o.rec_) | none => false) = b) (hc : o.over.all (overOk pre o) = c) :
  oneE pre o = if opE o ≠ 0 then opE o else if a = false then 10 else if o.kind = 0 then 0 else if b = false then 9 else if c = false then 27 else 0 := by
 subst ha hb hc; rfl
theorem oneE_bad {pre : List Op} {o : Op} (h : opE o ≠ 0) : oneE pre o = opE o := by rw [jQ rfl rfl rfl, if_pos h]
theorem WB {pre : List Op} {o : Op} (h : opE o = 0) (ha : (match pre.getLast? with | some p => less p.at_ o.at_ | none => true) = false) : oneE pre o = 10 := by
 rw [jQ ha rfl rfl, if_neg (by simpa using h), if_pos rfl]
theorem yA {pre : List Op} {o : Op} (h : opE o = 0) (ha : (match pre.getLast? with | some p => less p.at_ o.at_ | none => true) = true) (hk : o.kind = 0) : oneE pre o = 0 := by
 rw [jQ ha rfl rfl, if_neg (by simpa using h), if_neg (by simp), if_pos hk]
theorem oneE_9 {pre : List Op} {o : Op} (h : opE o = 0) (ha : (match pre.getLast? with | some p => less p.at_ o.at_ | none => true) = true) (hk : o.kind ≠ 0) (hb : (match addedO pre o.note.id with | some a => decide (a.rec_ = o.rec_) | none => false) = false) : oneE pre o = 9 := by
 rw [jQ ha hb rfl, if_neg (by simpa using h), if_neg (by simp), if_neg hk, if_pos rfl]
theorem oneE_27 {pre : List Op} {o : Op} (h : opE o = 0) (ha : (match pre.getLast? with | some p => less p.at_ o.at_ | none => true) = true) (hk : o.kind ≠ 0) (hb : (match addedO pre o.note.id with | some a => decide (a.rec_ = o.rec_) | none => false) = true) (hc : o.over.all (overOk pre o) = false) : oneE pre o = 27 := by
 rw [jQ ha hb hc, if_neg (by simpa using h), if_neg (by simp), if_neg hk, if_neg (by simp), if_pos rfl]
theorem oneE_0 {pre : List Op} {o : Op} (h : opE o = 0) (ha : (match pre.getLast? with | some p => less p.at_ o.at_ | none => true) = true) (hk : o.kind ≠ 0) (hb : (match addedO pre o.note.id with | some a => decide (a.rec_ = o.rec_) | none => false) = true) (hc : o.over.all (overOk pre o) = true) : oneE pre o = 0 := by
 rw [jQ ha hb hc, if_neg (by simpa using h), if_neg (by simp), if_neg hk, if_neg (by simp), if_neg (by simp)]
def anyK (f : Int → Bool) (j : Nat) : Bool := (([0, 1, 2] : List Int).take j).any f
theorem anyK_succ (f : Int → Bool) {j : Nat} (hj : j < 3) : anyK f (j + 1) = (anyK f j || f j) := by
 have : j = 0 ∨ j = 1 ∨ j = 2 := by omega
 rcases this with rfl | rfl | rfl <;> simp [anyK, Bool.or_assoc]
abbrev okF (pre : List Op) (o : Op) (s : Stamp) (f : Int) : Bool := (decide (o.kind = 2) || decide (f = o.set)) && writer pre s o.note.id f
theorem last_take {α : Type} {l : List α} {i : Nat} (hi : 0 < i) (hl : i ≤ l.length) : (l.take i).getLast? = l[i - 1]? := by
 rw [List.getLast?_eq_getElem?, List.length_take, Nat.min_eq_left hl, List.getElem?_take, if_pos (by omega)]
end Go.Proofs.YtcfkokllinkigaaGreatDoor
namespace Go.Proofs.YtcfkokllinkigaaGreatDoor
theorem firstE3' (a b c : Int) (h : firstE [a, b, c] = 0) : a = 0 ∧ b = 0 ∧ c = 0 := by
 unfold firstE at h
 by_cases h1 : a = 0
 ·subst h1
  by_cases h2 : b = 0
  ·subst h2
   by_cases h3 : c = 0
   ·exact ⟨rfl, rfl, h3⟩
   ·simp [h3] at h
  ·simp [h2] at h
 ·simp [h1] at h
theorem JL {o : Op} (h : opE o = 0) : o.over.length ≤ 16 := by
 unfold opE at h
 split at h
 ·omega
 split at h
 ·split at h
  ·omega
  ·obtain ⟨_, _, h3⟩ := firstE3' _ _ _ h
   unfold wanted at h3
   split at h3
   ·rename_i q; simp at q; simp [q]
   ·omega
 split at h
 ·split at h
  ·omega
  ·obtain ⟨_, _, h3⟩ := firstE3' _ _ _ h
   unfold overE at h3
   split at h3
   ·omega
   split at h3
   ·omega
   ·omega
 split at h
 ·split at h
  ·omega
  ·obtain ⟨_, _, h3⟩ := firstE3' _ _ _ h
   unfold overE at h3
   split at h3
   ·omega
   split at h3
   ·omega
   ·omega
 ·omega
end Go.Proofs.YtcfkokllinkigaaGreatDoor
end
