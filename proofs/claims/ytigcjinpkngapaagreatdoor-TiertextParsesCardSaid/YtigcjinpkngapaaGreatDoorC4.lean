/- A logic of trees over the model's steps, and the contracts of the functions that the laws reach: part 4 of 20. -/
import Derived.Test.YtigcjinpkngapaaGreatDoorC3
import Derived.KernelRfl
import Derived.Lib.AtoiAll
import Derived.Lib.ItoaNum
import Derived.Lib.ItoaMem
import Derived.WideLaws
import Derived.Shelf.Strconv.Itoa3
import Derived.Shelf.Strconv.AtoiAll
set_option linter.unusedVariables false
set_option linter.unusedSimpArgs false
set_option linter.unusedSectionVars false
section
namespace Go.Proofs.YtigcjinpkngapaaGreatDoor
open Go.Ac
attribute [local irreducible] awp awpL Ev Ev2 EvS thenQ blockQ retQ PCalls OCalls YieldOk IterC
variable {g : List (Nat × List AV)}
def firstV (o : Option (Nat × Nat)) : AV := match o with
  | some (p, n) => .tup [vi p, vi n]
  | none => .tup [vi (-1), vi 0]
theorem pv_lt (s : ByteArray) (i k : Nat) (hk : k ≤ 3) : pv s i k < 67108864 := by
  have h0 : base (byt s i) < 256 := by
    have := byt_lt s i
    unfold base
    split
    · omega
    · split
      · omega
      · split <;> omega
  have h1 := byt_lt s (i + 1)
  have h2 := byt_lt s (i + 2)
  have h3 := byt_lt s (i + 3)
  have : k = 0 ∨ k = 1 ∨ k = 2 ∨ k = 3 := by omega
  rcases this with rfl | rfl | rfl | rfl <;> simp only [pv] <;> omega
theorem sget {s : ByteArray} {k : Nat} {n : Int} (h : k < s.size) (hn : n = k) : 0 ≤ n ∧ s.data[n.toNat]? = some (s.get! k) := by
  subst hn
  have := get_list s k h
  exact byte_get this
theorem wrapB (b : Nat) (h : b < 256) : IntKind.i64.wrap (b : Int) = (b : Int) := wrap_in (by omega) (by omega)
set_option maxHeartbeats 2000000 in
theorem rfst4_spec (s : ByteArray) (i : Nat) (hi : i < s.size) (hs : s.size ≤ 1000000) (hlo : 240 ≤ byt s i) (hhi : byt s i < 256) : PCalls Tryz.prog g 178 [vs s, vi i] (firstV (rfirst s i)) := by
  refine pcalls' Tryz.func178 Tryz.ntmps178 rfl rfl rfl ?_
  have hw : wid (byt s i) = 4 := by
    unfold wid
    repeat' split
    all_goals omega
  have hb : pv s i 0 = byt s i - 240 := by
    simp only [pv]
    unfold base
    repeat' split
    all_goals omega
  have g0 := sget (n := (i : Int)) hi rfl
  have w0 : IntKind.i64.wrap (((s.get! i).toNat : Nat) : Int) = ((byt s i : Nat) : Int) := wrapB _ (byt_lt s i)
  have c1 : decide ((240 : Int) ≤ ((byt s i : Nat) : Int)) = true := by first | exact decide_eq_true (by omega) | exact decide_eq_false (by omega)
  have c2 : decide ((224 : Int) ≤ ((byt s i : Nat) : Int)) = true := by first | exact decide_eq_true (by omega) | exact decide_eq_false (by omega)
  have c3 : decide ((192 : Int) ≤ ((byt s i : Nat) : Int)) = true := by first | exact decide_eq_true (by omega) | exact decide_eq_false (by omega)
  have hbd : -9223372036854775808 ≤ ((byt s i : Nat) : Int) - 240 ∧ ((byt s i : Nat) : Int) - 240 ≤ 9223372036854775807 := by omega
  have hsb : ((byt s i : Nat) : Int) - 240 = ((pv s i 0 : Nat) : Int) := by rw [hb]; omega
  have hin : -9223372036854775808 ≤ (i : Int) + 4 ∧ (i : Int) + 4 ≤ 9223372036854775807 := by omega
  by_cases hl : s.size < i + 4
  · have e1 : decide ((s.size : Int) < (i : Int) + 4) = true := decide_eq_true (by omega)
    have hr : rfirst s i = none := by unfold rfirst; rw [hw, if_pos hl]
    rw [hr]
    repeat' (first
     | ((with_reducible refine is_un ?_); (first | refine awpL_ev (ev_conv_int rfl rfl rfl rfl w0) rfl ?_ | refine awpL_ev (ev_subE rfl rfl hbd hsb) rfl ?_))
     | refine stn [] ?_
     | fail)
    exact retP rfl rfl
  have e1 : decide ((s.size : Int) < (i : Int) + 4) = false := decide_eq_false (by omega)
  have hp0 : 240 = 0 → ((byt s i : Nat) : Int) = ((pv s i 0 : Nat) : Int) := by intro h; omega
  repeat' (first
   | ((with_reducible refine is_un ?_); (first | refine awpL_ev (ev_conv_int rfl rfl rfl rfl w0) rfl ?_ | refine awpL_ev (ev_subE rfl rfl hbd hsb) rfl ?_))
   | refine stn [] ?_
   | ((with_reducible refine is_awp ?_); refine awp_cond rfl (fun h => ?_) (fun h => ?_))
   | fail)
  refine awp_for (α := Nat) 0 (fun k => [(0, vs s), (1, vi i), (7, vi 4), (6, vi (pv s i k)), (8, vi ((k : Int) + 1))]) (fun _ => []) (fun k => k + 1 ≤ 4) (fun k => 4 - k) 0
    ⟨.cons rfl rfl (.cons rfl rfl (.cons rfl rfl (.cons rfl (by first | rfl | (rw [← hp0 rfl]; rfl)) (.cons rfl rfl .nil)))), rfl, rfl, rfl⟩ (by omega) ?_
  intro k hk
  have hpk := pv_lt s i k (by omega)
  by_cases hkn : k + 1 = 4
  · have e2 : decide ((k : Int) + 1 < 4) = false := decide_eq_false (by omega)
    have hk1 : wid (byt s i) - 1 = k := by omega
    have hS := Scalar_spec (g := g) (pv s i k)
    have hrf : rfirst s i = if scal (pv s i k) = true ∧ encS (pv s i k) = s.extract i (i + 4) then some (pv s i k, 4) else none := by
      unfold rfirst; rw [if_neg (by omega), hk1, hw]
    have n1 : (!true) = false := rfl
    have n2 : (!false) = true := rfl
    cases hsc : scal (pv s i k) with
    | false =>
      rw [hsc] at hS hrf
      rw [hrf, if_neg (by simp)]
      refine run [] ?_
      exact retP rfl rfl
    | true =>
      rw [hsc] at hS hrf
      have hle : pv s i k ≤ 1114111 := by simp [scal] at hsc; omega
      have hE := encoded_spec (g := g) (pv s i k) hle
      have hx : s.extract (i : Int).toNat ((i : Int) + 4).toNat = s.extract i (i + 4) := by
        rw [show (i : Int).toNat = i by omega, show ((i : Int) + 4).toNat = i + 4 by omega]
      have hbb : 0 ≤ (i : Int) ∧ (i : Int) ≤ (i : Int) + 4 ∧ (i : Int) + 4 ≤ (s.size : Nat) := by omega
      by_cases hq : encS (pv s i k) = s.extract i (i + 4)
      · have e3 : (!decide (encS (pv s i k) = s.extract i (i + 4))) = false := by simp [hq]
        rw [hrf, if_pos ⟨rfl, hq⟩]
        repeat' (first
         | ((with_reducible refine isD_un ?_); refine awpD_un (as_ev (fun _ => ev_slice_str rfl rfl rfl rfl rfl hbb hx) rfl rfl) qb0 ?_)
         | ((with_reducible refine isD_gd ?_); refine awpD_gd rfl rfl qa0 (as_ev (fun _ => ev_slice_str rfl rfl rfl rfl rfl hbb hx) rfl rfl) qb0 ?_)
         | refine st [] ?_
         | fail)
        exact retP rfl rfl
      · have e3 : (!decide (encS (pv s i k) = s.extract i (i + 4))) = true := by simp [hq]
        rw [hrf, if_neg (fun h => hq h.2)]
        repeat' (first
         | ((with_reducible refine isD_un ?_); refine awpD_un (as_ev (fun _ => ev_slice_str rfl rfl rfl rfl rfl hbb hx) rfl rfl) qb0 ?_)
         | ((with_reducible refine isD_gd ?_); refine awpD_gd rfl rfl qa0 (as_ev (fun _ => ev_slice_str rfl rfl rfl rfl rfl hbb hx) rfl rfl) qb0 ?_)
         | refine st [] ?_
         | fail)
        exact retP rfl rfl
  · have e2 : decide ((k : Int) + 1 < 4) = true := decide_eq_true (by omega)
    have hmul : -9223372036854775808 ≤ ((pv s i k : Nat) : Int) * 64 ∧ ((pv s i k : Nat) : Int) * 64 ≤ 9223372036854775807 := by omega
    have gk := sget (s := s) (k := i + (k + 1)) (n := (i : Int) + ((k : Int) + 1)) (by omega) (by omega)
    have wk : IntKind.i64.wrap (((s.get! (i + (k + 1))).toNat : Nat) : Int) = ((byt s (i + (k + 1)) : Nat) : Int) := wrapB _ (byt_lt s _)
    have z64 : (0 : Int) < 64 := by omega
    have mk := tm64 (byt s (i + (k + 1))) 64
    have hbk := byt_lt s (i + (k + 1))
    have hadd : -9223372036854775808 ≤ ((pv s i k : Nat) : Int) * 64 + ((byt s (i + (k + 1)) % 64 : Nat) : Int) ∧ ((pv s i k : Nat) : Int) * 64 + ((byt s (i + (k + 1)) % 64 : Nat) : Int) ≤ 9223372036854775807 := by omega
    have hpn : ((pv s i k : Nat) : Int) * 64 + ((byt s (i + (k + 1)) % 64 : Nat) : Int) = ((pv s i (k + 1) : Nat) : Int) := by
      simp only [pv]; omega
    repeat' (first
     | ((with_reducible refine is_un ?_); (first | refine awpL_ev (ev_conv_int rfl rfl rfl rfl wk) rfl ?_ | refine awpL_ev (ev_mul rfl rfl hmul) rfl ?_ | refine awpL_ev (ev_tmodE rfl rfl z64 mk) rfl ?_ | refine awpL_ev (ev_addE rfl rfl hadd hpn) rfl ?_))
     | refine stn [] ?_
     | fail)
    exact ⟨k + 1, ⟨(.cons rfl rfl (.cons rfl rfl (.cons rfl rfl (.cons rfl rfl (.cons rfl rfl .nil))))), rfl, rfl, rfl⟩, by omega, by omega⟩
set_option maxHeartbeats 2000000 in
theorem rfst3_spec (s : ByteArray) (i : Nat) (hi : i < s.size) (hs : s.size ≤ 1000000) (hlo : 224 ≤ byt s i) (hhi : byt s i < 240) : PCalls Tryz.prog g 178 [vs s, vi i] (firstV (rfirst s i)) := by
  refine pcalls' Tryz.func178 Tryz.ntmps178 rfl rfl rfl ?_
  have hw : wid (byt s i) = 3 := by
    unfold wid
    repeat' split
    all_goals omega
  have hb : pv s i 0 = byt s i - 224 := by
    simp only [pv]
    unfold base
    repeat' split
    all_goals omega
  have g0 := sget (n := (i : Int)) hi rfl
  have w0 : IntKind.i64.wrap (((s.get! i).toNat : Nat) : Int) = ((byt s i : Nat) : Int) := wrapB _ (byt_lt s i)
  have c1 : decide ((240 : Int) ≤ ((byt s i : Nat) : Int)) = false := by first | exact decide_eq_true (by omega) | exact decide_eq_false (by omega)
  have c2 : decide ((224 : Int) ≤ ((byt s i : Nat) : Int)) = true := by first | exact decide_eq_true (by omega) | exact decide_eq_false (by omega)
  have c3 : decide ((192 : Int) ≤ ((byt s i : Nat) : Int)) = true := by first | exact decide_eq_true (by omega) | exact decide_eq_false (by omega)
  have hbd : -9223372036854775808 ≤ ((byt s i : Nat) : Int) - 224 ∧ ((byt s i : Nat) : Int) - 224 ≤ 9223372036854775807 := by omega
  have hsb : ((byt s i : Nat) : Int) - 224 = ((pv s i 0 : Nat) : Int) := by rw [hb]; omega
  have hin : -9223372036854775808 ≤ (i : Int) + 3 ∧ (i : Int) + 3 ≤ 9223372036854775807 := by omega
  by_cases hl : s.size < i + 3
  · have e1 : decide ((s.size : Int) < (i : Int) + 3) = true := decide_eq_true (by omega)
    have hr : rfirst s i = none := by unfold rfirst; rw [hw, if_pos hl]
    rw [hr]
    repeat' (first
     | ((with_reducible refine is_un ?_); (first | refine awpL_ev (ev_conv_int rfl rfl rfl rfl w0) rfl ?_ | refine awpL_ev (ev_subE rfl rfl hbd hsb) rfl ?_))
     | refine stn [] ?_
     | fail)
    exact retP rfl rfl
  have e1 : decide ((s.size : Int) < (i : Int) + 3) = false := decide_eq_false (by omega)
  have hp0 : 224 = 0 → ((byt s i : Nat) : Int) = ((pv s i 0 : Nat) : Int) := by intro h; omega
  repeat' (first
   | ((with_reducible refine is_un ?_); (first | refine awpL_ev (ev_conv_int rfl rfl rfl rfl w0) rfl ?_ | refine awpL_ev (ev_subE rfl rfl hbd hsb) rfl ?_))
   | refine stn [] ?_
   | ((with_reducible refine is_awp ?_); refine awp_cond rfl (fun h => ?_) (fun h => ?_))
   | fail)
  refine awp_for (α := Nat) 0 (fun k => [(0, vs s), (1, vi i), (7, vi 3), (6, vi (pv s i k)), (8, vi ((k : Int) + 1))]) (fun _ => []) (fun k => k + 1 ≤ 3) (fun k => 3 - k) 0
    ⟨.cons rfl rfl (.cons rfl rfl (.cons rfl rfl (.cons rfl (by first | rfl | (rw [← hp0 rfl]; rfl)) (.cons rfl rfl .nil)))), rfl, rfl, rfl⟩ (by omega) ?_
  intro k hk
  have hpk := pv_lt s i k (by omega)
  by_cases hkn : k + 1 = 3
  · have e2 : decide ((k : Int) + 1 < 3) = false := decide_eq_false (by omega)
    have hk1 : wid (byt s i) - 1 = k := by omega
    have hS := Scalar_spec (g := g) (pv s i k)
    have hrf : rfirst s i = if scal (pv s i k) = true ∧ encS (pv s i k) = s.extract i (i + 3) then some (pv s i k, 3) else none := by
      unfold rfirst; rw [if_neg (by omega), hk1, hw]
    have n1 : (!true) = false := rfl
    have n2 : (!false) = true := rfl
    cases hsc : scal (pv s i k) with
    | false =>
      rw [hsc] at hS hrf
      rw [hrf, if_neg (by simp)]
      refine run [] ?_
      exact retP rfl rfl
    | true =>
      rw [hsc] at hS hrf
      have hle : pv s i k ≤ 1114111 := by simp [scal] at hsc; omega
      have hE := encoded_spec (g := g) (pv s i k) hle
      have hx : s.extract (i : Int).toNat ((i : Int) + 3).toNat = s.extract i (i + 3) := by
        rw [show (i : Int).toNat = i by omega, show ((i : Int) + 3).toNat = i + 3 by omega]
      have hbb : 0 ≤ (i : Int) ∧ (i : Int) ≤ (i : Int) + 3 ∧ (i : Int) + 3 ≤ (s.size : Nat) := by omega
      by_cases hq : encS (pv s i k) = s.extract i (i + 3)
      · have e3 : (!decide (encS (pv s i k) = s.extract i (i + 3))) = false := by simp [hq]
        rw [hrf, if_pos ⟨rfl, hq⟩]
        repeat' (first
         | ((with_reducible refine isD_un ?_); refine awpD_un (as_ev (fun _ => ev_slice_str rfl rfl rfl rfl rfl hbb hx) rfl rfl) qb0 ?_)
         | ((with_reducible refine isD_gd ?_); refine awpD_gd rfl rfl qa0 (as_ev (fun _ => ev_slice_str rfl rfl rfl rfl rfl hbb hx) rfl rfl) qb0 ?_)
         | refine st [] ?_
         | fail)
        exact retP rfl rfl
      · have e3 : (!decide (encS (pv s i k) = s.extract i (i + 3))) = true := by simp [hq]
        rw [hrf, if_neg (fun h => hq h.2)]
        repeat' (first
         | ((with_reducible refine isD_un ?_); refine awpD_un (as_ev (fun _ => ev_slice_str rfl rfl rfl rfl rfl hbb hx) rfl rfl) qb0 ?_)
         | ((with_reducible refine isD_gd ?_); refine awpD_gd rfl rfl qa0 (as_ev (fun _ => ev_slice_str rfl rfl rfl rfl rfl hbb hx) rfl rfl) qb0 ?_)
         | refine st [] ?_
         | fail)
        exact retP rfl rfl
  · have e2 : decide ((k : Int) + 1 < 3) = true := decide_eq_true (by omega)
    have hmul : -9223372036854775808 ≤ ((pv s i k : Nat) : Int) * 64 ∧ ((pv s i k : Nat) : Int) * 64 ≤ 9223372036854775807 := by omega
    have gk := sget (s := s) (k := i + (k + 1)) (n := (i : Int) + ((k : Int) + 1)) (by omega) (by omega)
    have wk : IntKind.i64.wrap (((s.get! (i + (k + 1))).toNat : Nat) : Int) = ((byt s (i + (k + 1)) : Nat) : Int) := wrapB _ (byt_lt s _)
    have z64 : (0 : Int) < 64 := by omega
    have mk := tm64 (byt s (i + (k + 1))) 64
    have hbk := byt_lt s (i + (k + 1))
    have hadd : -9223372036854775808 ≤ ((pv s i k : Nat) : Int) * 64 + ((byt s (i + (k + 1)) % 64 : Nat) : Int) ∧ ((pv s i k : Nat) : Int) * 64 + ((byt s (i + (k + 1)) % 64 : Nat) : Int) ≤ 9223372036854775807 := by omega
    have hpn : ((pv s i k : Nat) : Int) * 64 + ((byt s (i + (k + 1)) % 64 : Nat) : Int) = ((pv s i (k + 1) : Nat) : Int) := by
      simp only [pv]; omega
    repeat' (first
     | ((with_reducible refine is_un ?_); (first | refine awpL_ev (ev_conv_int rfl rfl rfl rfl wk) rfl ?_ | refine awpL_ev (ev_mul rfl rfl hmul) rfl ?_ | refine awpL_ev (ev_tmodE rfl rfl z64 mk) rfl ?_ | refine awpL_ev (ev_addE rfl rfl hadd hpn) rfl ?_))
     | refine stn [] ?_
     | fail)
    exact ⟨k + 1, ⟨(.cons rfl rfl (.cons rfl rfl (.cons rfl rfl (.cons rfl rfl (.cons rfl rfl .nil))))), rfl, rfl, rfl⟩, by omega, by omega⟩
set_option maxHeartbeats 2000000 in
theorem rfst2_spec (s : ByteArray) (i : Nat) (hi : i < s.size) (hs : s.size ≤ 1000000) (hlo : 192 ≤ byt s i) (hhi : byt s i < 224) : PCalls Tryz.prog g 178 [vs s, vi i] (firstV (rfirst s i)) := by
  refine pcalls' Tryz.func178 Tryz.ntmps178 rfl rfl rfl ?_
  have hw : wid (byt s i) = 2 := by
    unfold wid
    repeat' split
    all_goals omega
  have hb : pv s i 0 = byt s i - 192 := by
    simp only [pv]
    unfold base
    repeat' split
    all_goals omega
  have g0 := sget (n := (i : Int)) hi rfl
  have w0 : IntKind.i64.wrap (((s.get! i).toNat : Nat) : Int) = ((byt s i : Nat) : Int) := wrapB _ (byt_lt s i)
  have c1 : decide ((240 : Int) ≤ ((byt s i : Nat) : Int)) = false := by first | exact decide_eq_true (by omega) | exact decide_eq_false (by omega)
  have c2 : decide ((224 : Int) ≤ ((byt s i : Nat) : Int)) = false := by first | exact decide_eq_true (by omega) | exact decide_eq_false (by omega)
  have c3 : decide ((192 : Int) ≤ ((byt s i : Nat) : Int)) = true := by first | exact decide_eq_true (by omega) | exact decide_eq_false (by omega)
  have hbd : -9223372036854775808 ≤ ((byt s i : Nat) : Int) - 192 ∧ ((byt s i : Nat) : Int) - 192 ≤ 9223372036854775807 := by omega
  have hsb : ((byt s i : Nat) : Int) - 192 = ((pv s i 0 : Nat) : Int) := by rw [hb]; omega
  have hin : -9223372036854775808 ≤ (i : Int) + 2 ∧ (i : Int) + 2 ≤ 9223372036854775807 := by omega
  by_cases hl : s.size < i + 2
  · have e1 : decide ((s.size : Int) < (i : Int) + 2) = true := decide_eq_true (by omega)
    have hr : rfirst s i = none := by unfold rfirst; rw [hw, if_pos hl]
    rw [hr]
    repeat' (first
     | ((with_reducible refine is_un ?_); (first | refine awpL_ev (ev_conv_int rfl rfl rfl rfl w0) rfl ?_ | refine awpL_ev (ev_subE rfl rfl hbd hsb) rfl ?_))
     | refine stn [] ?_
     | fail)
    exact retP rfl rfl
  have e1 : decide ((s.size : Int) < (i : Int) + 2) = false := decide_eq_false (by omega)
  have hp0 : 192 = 0 → ((byt s i : Nat) : Int) = ((pv s i 0 : Nat) : Int) := by intro h; omega
  repeat' (first
   | ((with_reducible refine is_un ?_); (first | refine awpL_ev (ev_conv_int rfl rfl rfl rfl w0) rfl ?_ | refine awpL_ev (ev_subE rfl rfl hbd hsb) rfl ?_))
   | refine stn [] ?_
   | ((with_reducible refine is_awp ?_); refine awp_cond rfl (fun h => ?_) (fun h => ?_))
   | fail)
  refine awp_for (α := Nat) 0 (fun k => [(0, vs s), (1, vi i), (7, vi 2), (6, vi (pv s i k)), (8, vi ((k : Int) + 1))]) (fun _ => []) (fun k => k + 1 ≤ 2) (fun k => 2 - k) 0
    ⟨.cons rfl rfl (.cons rfl rfl (.cons rfl rfl (.cons rfl (by first | rfl | (rw [← hp0 rfl]; rfl)) (.cons rfl rfl .nil)))), rfl, rfl, rfl⟩ (by omega) ?_
  intro k hk
  have hpk := pv_lt s i k (by omega)
  by_cases hkn : k + 1 = 2
  · have e2 : decide ((k : Int) + 1 < 2) = false := decide_eq_false (by omega)
    have hk1 : wid (byt s i) - 1 = k := by omega
    have hS := Scalar_spec (g := g) (pv s i k)
    have hrf : rfirst s i = if scal (pv s i k) = true ∧ encS (pv s i k) = s.extract i (i + 2) then some (pv s i k, 2) else none := by
      unfold rfirst; rw [if_neg (by omega), hk1, hw]
    have n1 : (!true) = false := rfl
    have n2 : (!false) = true := rfl
    cases hsc : scal (pv s i k) with
    | false =>
      rw [hsc] at hS hrf
      rw [hrf, if_neg (by simp)]
      refine run [] ?_
      exact retP rfl rfl
    | true =>
      rw [hsc] at hS hrf
      have hle : pv s i k ≤ 1114111 := by simp [scal] at hsc; omega
      have hE := encoded_spec (g := g) (pv s i k) hle
      have hx : s.extract (i : Int).toNat ((i : Int) + 2).toNat = s.extract i (i + 2) := by
        rw [show (i : Int).toNat = i by omega, show ((i : Int) + 2).toNat = i + 2 by omega]
      have hbb : 0 ≤ (i : Int) ∧ (i : Int) ≤ (i : Int) + 2 ∧ (i : Int) + 2 ≤ (s.size : Nat) := by omega
      by_cases hq : encS (pv s i k) = s.extract i (i + 2)
      · have e3 : (!decide (encS (pv s i k) = s.extract i (i + 2))) = false := by simp [hq]
        rw [hrf, if_pos ⟨rfl, hq⟩]
        repeat' (first
         | ((with_reducible refine isD_un ?_); refine awpD_un (as_ev (fun _ => ev_slice_str rfl rfl rfl rfl rfl hbb hx) rfl rfl) qb0 ?_)
         | ((with_reducible refine isD_gd ?_); refine awpD_gd rfl rfl qa0 (as_ev (fun _ => ev_slice_str rfl rfl rfl rfl rfl hbb hx) rfl rfl) qb0 ?_)
         | refine st [] ?_
         | fail)
        exact retP rfl rfl
      · have e3 : (!decide (encS (pv s i k) = s.extract i (i + 2))) = true := by simp [hq]
        rw [hrf, if_neg (fun h => hq h.2)]
        repeat' (first
         | ((with_reducible refine isD_un ?_); refine awpD_un (as_ev (fun _ => ev_slice_str rfl rfl rfl rfl rfl hbb hx) rfl rfl) qb0 ?_)
         | ((with_reducible refine isD_gd ?_); refine awpD_gd rfl rfl qa0 (as_ev (fun _ => ev_slice_str rfl rfl rfl rfl rfl hbb hx) rfl rfl) qb0 ?_)
         | refine st [] ?_
         | fail)
        exact retP rfl rfl
  · have e2 : decide ((k : Int) + 1 < 2) = true := decide_eq_true (by omega)
    have hmul : -9223372036854775808 ≤ ((pv s i k : Nat) : Int) * 64 ∧ ((pv s i k : Nat) : Int) * 64 ≤ 9223372036854775807 := by omega
    have gk := sget (s := s) (k := i + (k + 1)) (n := (i : Int) + ((k : Int) + 1)) (by omega) (by omega)
    have wk : IntKind.i64.wrap (((s.get! (i + (k + 1))).toNat : Nat) : Int) = ((byt s (i + (k + 1)) : Nat) : Int) := wrapB _ (byt_lt s _)
    have z64 : (0 : Int) < 64 := by omega
    have mk := tm64 (byt s (i + (k + 1))) 64
    have hbk := byt_lt s (i + (k + 1))
    have hadd : -9223372036854775808 ≤ ((pv s i k : Nat) : Int) * 64 + ((byt s (i + (k + 1)) % 64 : Nat) : Int) ∧ ((pv s i k : Nat) : Int) * 64 + ((byt s (i + (k + 1)) % 64 : Nat) : Int) ≤ 9223372036854775807 := by omega
    have hpn : ((pv s i k : Nat) : Int) * 64 + ((byt s (i + (k + 1)) % 64 : Nat) : Int) = ((pv s i (k + 1) : Nat) : Int) := by
      simp only [pv]; omega
    repeat' (first
     | ((with_reducible refine is_un ?_); (first | refine awpL_ev (ev_conv_int rfl rfl rfl rfl wk) rfl ?_ | refine awpL_ev (ev_mul rfl rfl hmul) rfl ?_ | refine awpL_ev (ev_tmodE rfl rfl z64 mk) rfl ?_ | refine awpL_ev (ev_addE rfl rfl hadd hpn) rfl ?_))
     | refine stn [] ?_
     | fail)
    exact ⟨k + 1, ⟨(.cons rfl rfl (.cons rfl rfl (.cons rfl rfl (.cons rfl rfl (.cons rfl rfl .nil))))), rfl, rfl, rfl⟩, by omega, by omega⟩
set_option maxHeartbeats 2000000 in
theorem rfst1_spec (s : ByteArray) (i : Nat) (hi : i < s.size) (hs : s.size ≤ 1000000) (hlo : 0 ≤ byt s i) (hhi : byt s i < 192) : PCalls Tryz.prog g 178 [vs s, vi i] (firstV (rfirst s i)) := by
  refine pcalls' Tryz.func178 Tryz.ntmps178 rfl rfl rfl ?_
  have hw : wid (byt s i) = 1 := by
    unfold wid
    repeat' split
    all_goals omega
  have hb : pv s i 0 = byt s i - 0 := by
    simp only [pv]
    unfold base
    repeat' split
    all_goals omega
  have g0 := sget (n := (i : Int)) hi rfl
  have w0 : IntKind.i64.wrap (((s.get! i).toNat : Nat) : Int) = ((byt s i : Nat) : Int) := wrapB _ (byt_lt s i)
  have c1 : decide ((240 : Int) ≤ ((byt s i : Nat) : Int)) = false := by first | exact decide_eq_true (by omega) | exact decide_eq_false (by omega)
  have c2 : decide ((224 : Int) ≤ ((byt s i : Nat) : Int)) = false := by first | exact decide_eq_true (by omega) | exact decide_eq_false (by omega)
  have c3 : decide ((192 : Int) ≤ ((byt s i : Nat) : Int)) = false := by first | exact decide_eq_true (by omega) | exact decide_eq_false (by omega)
  have hbd : -9223372036854775808 ≤ ((byt s i : Nat) : Int) - 0 ∧ ((byt s i : Nat) : Int) - 0 ≤ 9223372036854775807 := by omega
  have hsb : ((byt s i : Nat) : Int) - 0 = ((pv s i 0 : Nat) : Int) := by rw [hb]; omega
  have hin : -9223372036854775808 ≤ (i : Int) + 1 ∧ (i : Int) + 1 ≤ 9223372036854775807 := by omega
  by_cases hl : s.size < i + 1
  · have e1 : decide ((s.size : Int) < (i : Int) + 1) = true := decide_eq_true (by omega)
    have hr : rfirst s i = none := by unfold rfirst; rw [hw, if_pos hl]
    rw [hr]
    repeat' (first
     | ((with_reducible refine is_un ?_); (first | refine awpL_ev (ev_conv_int rfl rfl rfl rfl w0) rfl ?_ | refine awpL_ev (ev_subE rfl rfl hbd hsb) rfl ?_))
     | refine stn [] ?_
     | fail)
    exact retP rfl rfl
  have e1 : decide ((s.size : Int) < (i : Int) + 1) = false := decide_eq_false (by omega)
  have hp0 : 0 = 0 → ((byt s i : Nat) : Int) = ((pv s i 0 : Nat) : Int) := by intro h; omega
  repeat' (first
   | ((with_reducible refine is_un ?_); (first | refine awpL_ev (ev_conv_int rfl rfl rfl rfl w0) rfl ?_ | refine awpL_ev (ev_subE rfl rfl hbd hsb) rfl ?_))
   | refine stn [] ?_
   | ((with_reducible refine is_awp ?_); refine awp_cond rfl (fun h => ?_) (fun h => ?_))
   | fail)
  refine awp_for (α := Nat) 0 (fun k => [(0, vs s), (1, vi i), (7, vi 1), (6, vi (pv s i k)), (8, vi ((k : Int) + 1))]) (fun _ => []) (fun k => k + 1 ≤ 1) (fun k => 1 - k) 0
    ⟨.cons rfl rfl (.cons rfl rfl (.cons rfl rfl (.cons rfl (by first | rfl | (rw [← hp0 rfl]; rfl)) (.cons rfl rfl .nil)))), rfl, rfl, rfl⟩ (by omega) ?_
  intro k hk
  have hpk := pv_lt s i k (by omega)
  by_cases hkn : k + 1 = 1
  · have e2 : decide ((k : Int) + 1 < 1) = false := decide_eq_false (by omega)
    have hk1 : wid (byt s i) - 1 = k := by omega
    have hS := Scalar_spec (g := g) (pv s i k)
    have hrf : rfirst s i = if scal (pv s i k) = true ∧ encS (pv s i k) = s.extract i (i + 1) then some (pv s i k, 1) else none := by
      unfold rfirst; rw [if_neg (by omega), hk1, hw]
    have n1 : (!true) = false := rfl
    have n2 : (!false) = true := rfl
    cases hsc : scal (pv s i k) with
    | false =>
      rw [hsc] at hS hrf
      rw [hrf, if_neg (by simp)]
      refine run [] ?_
      exact retP rfl rfl
    | true =>
      rw [hsc] at hS hrf
      have hle : pv s i k ≤ 1114111 := by simp [scal] at hsc; omega
      have hE := encoded_spec (g := g) (pv s i k) hle
      have hx : s.extract (i : Int).toNat ((i : Int) + 1).toNat = s.extract i (i + 1) := by
        rw [show (i : Int).toNat = i by omega, show ((i : Int) + 1).toNat = i + 1 by omega]
      have hbb : 0 ≤ (i : Int) ∧ (i : Int) ≤ (i : Int) + 1 ∧ (i : Int) + 1 ≤ (s.size : Nat) := by omega
      by_cases hq : encS (pv s i k) = s.extract i (i + 1)
      · have e3 : (!decide (encS (pv s i k) = s.extract i (i + 1))) = false := by simp [hq]
        rw [hrf, if_pos ⟨rfl, hq⟩]
        repeat' (first
         | ((with_reducible refine isD_un ?_); refine awpD_un (as_ev (fun _ => ev_slice_str rfl rfl rfl rfl rfl hbb hx) rfl rfl) qb0 ?_)
         | ((with_reducible refine isD_gd ?_); refine awpD_gd rfl rfl qa0 (as_ev (fun _ => ev_slice_str rfl rfl rfl rfl rfl hbb hx) rfl rfl) qb0 ?_)
         | refine st [] ?_
         | fail)
        exact retP rfl rfl
      · have e3 : (!decide (encS (pv s i k) = s.extract i (i + 1))) = true := by simp [hq]
        rw [hrf, if_neg (fun h => hq h.2)]
        repeat' (first
         | ((with_reducible refine isD_un ?_); refine awpD_un (as_ev (fun _ => ev_slice_str rfl rfl rfl rfl rfl hbb hx) rfl rfl) qb0 ?_)
         | ((with_reducible refine isD_gd ?_); refine awpD_gd rfl rfl qa0 (as_ev (fun _ => ev_slice_str rfl rfl rfl rfl rfl hbb hx) rfl rfl) qb0 ?_)
         | refine st [] ?_
         | fail)
        exact retP rfl rfl
  · have e2 : decide ((k : Int) + 1 < 1) = true := decide_eq_true (by omega)
    have hmul : -9223372036854775808 ≤ ((pv s i k : Nat) : Int) * 64 ∧ ((pv s i k : Nat) : Int) * 64 ≤ 9223372036854775807 := by omega
    have gk := sget (s := s) (k := i + (k + 1)) (n := (i : Int) + ((k : Int) + 1)) (by omega) (by omega)
    have wk : IntKind.i64.wrap (((s.get! (i + (k + 1))).toNat : Nat) : Int) = ((byt s (i + (k + 1)) : Nat) : Int) := wrapB _ (byt_lt s _)
    have z64 : (0 : Int) < 64 := by omega
    have mk := tm64 (byt s (i + (k + 1))) 64
    have hbk := byt_lt s (i + (k + 1))
    have hadd : -9223372036854775808 ≤ ((pv s i k : Nat) : Int) * 64 + ((byt s (i + (k + 1)) % 64 : Nat) : Int) ∧ ((pv s i k : Nat) : Int) * 64 + ((byt s (i + (k + 1)) % 64 : Nat) : Int) ≤ 9223372036854775807 := by omega
    have hpn : ((pv s i k : Nat) : Int) * 64 + ((byt s (i + (k + 1)) % 64 : Nat) : Int) = ((pv s i (k + 1) : Nat) : Int) := by
      simp only [pv]; omega
    repeat' (first
     | ((with_reducible refine is_un ?_); (first | refine awpL_ev (ev_conv_int rfl rfl rfl rfl wk) rfl ?_ | refine awpL_ev (ev_mul rfl rfl hmul) rfl ?_ | refine awpL_ev (ev_tmodE rfl rfl z64 mk) rfl ?_ | refine awpL_ev (ev_addE rfl rfl hadd hpn) rfl ?_))
     | refine stn [] ?_
     | fail)
    exact ⟨k + 1, ⟨(.cons rfl rfl (.cons rfl rfl (.cons rfl rfl (.cons rfl rfl (.cons rfl rfl .nil))))), rfl, rfl, rfl⟩, by omega, by omega⟩
theorem rfst_spec (s : ByteArray) (i : Nat) (hi : i < s.size) (hs : s.size ≤ 1000000) : PCalls Tryz.prog g 178 [vs s, vi i] (firstV (rfirst s i)) := by
  by_cases h4 : 240 ≤ byt s i
  · exact rfst4_spec s i hi hs h4 (byt_lt s i)
  by_cases h3 : 224 ≤ byt s i
  · exact rfst3_spec s i hi hs h3 (by omega)
  by_cases h2 : 192 ≤ byt s i
  · exact rfst2_spec s i hi hs h2 (by omega)
  · exact rfst1_spec s i hi hs (by omega) (by omega)
end Go.Proofs.YtigcjinpkngapaaGreatDoor
end
section
namespace Go.Proofs.YtigcjinpkngapaaGreatDoor
open Go.Ac
attribute [local irreducible] awp awpL Ev Ev2 EvS thenQ blockQ retQ PCalls OCalls YieldOk IterC
variable {g : List (Nat × List AV)}
theorem runeL_get {s : ByteArray} {k p : Nat} {r : List (Nat × Nat)} (h : (runes s).drop k = (p, (Utf8.decode s p).1) :: r) : (runeL s)[k]? = some ((Utf8.decode s p).1 : Int) := by
  rw [runeL, List.getElem?_map, (drop_cons h).1]; rfl
theorem decode_in (s : ByteArray) (p : Nat) (h : p < s.size) (hg : Utf8.decode s p ≠ (65533, 1)) : p + (Utf8.decode s p).2 ≤ s.size := (decode_low h hg).1
set_option maxHeartbeats 2000000 in
theorem rPoints_spec (s : ByteArray) (hs : s.size ≤ 100000) : PCalls Tryz.prog g 156 [vs s] (pointsV s) := by
  have hlen := runeL_len s
  refine pcalls' Tryz.func156 Tryz.ntmps156 rfl rfl rfl ?_
  repeat' (first
   | refine stn [] ?_
   | ((with_reducible refine is_awp ?_); refine awp_cond rfl (fun h => ?_) (fun h => ?_))
   | fail)
  refine awp_adopt (t := 4) (E := 3) (sz := 1) rfl rfl rfl ?_
  refine awp_for2 (α := Nat) (β := Nat) 1 (fun k p => [(0, vs s), (4, .os 0 0), (5, vi p)]) (fun k p => [.own 0 3 1 (((runeL s).take k).map intC)]) (fun k p => (runes s).drop k = runesK s (s.size - p) p ∧ Go.Lib.validD s.data.toList = validP s p ∧ p ≤ s.size) (fun k p => s.size - p) 0 0
    ⟨(.cons rfl rfl (.cons rfl rfl (.cons rfl rfl .nil))), rfl, rfl, rfl⟩ ⟨rfl, by simp [validP], Nat.zero_le _⟩ ?_
  rintro k p ⟨hd, hv, hps⟩
  by_cases hp : p < s.size
  · have c1 : decide ((p : Int) < s.size) = true := decide_eq_true (by omega)
    have h1 := rfst_spec (g := g) s p hp (by omega)
    rw [rfirst_eq s p hp] at h1
    rw [runesK_step hp] at hd
    rw [validP_step hp] at hv
    by_cases hg : Utf8.decode s p = (65533, 1)
    · rw [if_pos hg] at h1 hv
      rw [firstV] at h1
      have z0 : decide ((0 : Int) = 0) = true := rfl
      refine runn [] ?_
      refine retP rfl ?_
      simp [ex, exL, pointsV, hv]
    · rw [if_neg hg] at h1 hv
      have hw := decode_pos s p
      have hr := runeL_get hd
      have hin := decode_in s p hp hg
      have hd' := (drop_cons hd).2
      obtain ⟨c, w, hdec⟩ : ∃ c w, Utf8.decode s p = (c, w) := ⟨_, _, rfl⟩
      rw [hdec] at hw hr hd' h1 hv hin
      simp only at hw hr hd' hv hin
      rw [firstV] at h1
      have c2 : decide ((w : Int) = 0) = false := decide_eq_false (by omega)
      have hj := take_map intC (runeL s) k _ hr
      have hkl : k < (runeL s).length := (List.getElem?_eq_some_iff.1 hr).1
      have ha : -9223372036854775808 ≤ (p : Int) + (w : Int) ∧ (p : Int) + (w : Int) ≤ 9223372036854775807 := by omega
      have he : (p : Int) + (w : Int) = ((p + w : Nat) : Int) := by omega
      repeat' (first
       | ((with_reducible refine is_un ?_); (first | refine awpL_ev (ev_addE rfl rfl ha he) rfl ?_ | refine awpL_ev2 (ev_app (es' := ((runeL s).take (k + 1)).map intC) rfl rfl rfl rfl rfl rfl rfl rfl rfl rfl rfl rfl rfl qe0 hj rfl) rfl ?_))
       | refine stn [] ?_
       | fail)
      exact ⟨k + 1, p + w, ⟨(.cons rfl rfl (.cons rfl rfl (.cons rfl rfl .nil))), rfl, rfl, rfl⟩, ⟨hd', hv, hin⟩, by omega⟩
  · have c1 : decide ((p : Int) < s.size) = false := decide_eq_false (by omega)
    rw [validP_end (by omega)] at hv
    rw [runesK_end s _ p (by omega)] at hd
    have hk : (runes s).length ≤ k := by
      have := congrArg List.length hd
      simp at this; omega
    have e : (runeL s).take k = runeL s := List.take_of_length_le (by rw [runeL, List.length_map]; exact hk)
    refine runn [] ?_
    refine retP rfl ?_
    simp [ex, exL, pointsV, hv, e]
set_option maxHeartbeats 1000000 in
theorem rText_spec (s : ByteArray) : PCalls Tryz.prog g 118 [vs s] (vi (textE s)) := by
  refine pcalls' Tryz.func118 Tryz.ntmps118 rfl rfl rfl ?_
  by_cases h200 : 200 < s.size
  · have c0 : decide ((200 : Int) < s.size) = true := decide_eq_true (by omega)
    refine runn [] ?_
    refine retP rfl ?_
    rw [textE, if_pos h200]; rfl
  have c0 : decide ((200 : Int) < s.size) = false := decide_eq_false (by omega)
  have h1 := rPoints_spec (g := g) s (by omega)
  have n1 : (!true) = false := rfl
  have n2 : (!false) = true := rfl
  cases hv : Go.Lib.validD s.data.toList with
  | false =>
    rw [pointsV, hv, if_neg (by simp)] at h1
    refine runn [] ?_
    refine retP rfl ?_
    rw [textE, if_neg h200, if_pos hv]; rfl
  | true =>
    rw [pointsV, hv, if_pos rfl] at h1
    have hE : textE s = if lowB s then 3 else 0 := by rw [textE, if_neg h200, if_neg (by simp [hv])]
    have hlen := runeL_len s
    rw [hE, ← low_eq hv]
    repeat' (first
     | refine stn [] ?_
     | ((with_reducible refine is_awp ?_); refine awp_cond rfl (fun h => ?_) (fun h => ?_))
     | fail)
    generalize runeL s = l at *
    refine awp_for (α := Nat) 0 (fun k => [(3, encIs l), (5, vi k)]) (fun _ => []) (fun k => k ≤ l.length ∧ (l.any fun x => decide (x < 32) || decide (x = 127)) = (l.drop k).any fun x => decide (x < 32) || decide (x = 127)) (fun k => l.length - k) 0
      ⟨(.cons rfl rfl (.cons rfl rfl .nil)), rfl, rfl, rfl⟩ ⟨Nat.zero_le _, rfl⟩ ?_
    rintro k ⟨hk, hf⟩
    cases ht : l[k]? with
    | none =>
      have hge : l.length ≤ k := by simpa using ht
      have c1 : decide ((k : Int) < l.length) = false := decide_eq_false (by omega)
      rw [List.drop_of_length_le hge] at hf
      refine runn [] ?_
      refine retP rfl ?_
      rw [hf]; rfl
    | some c =>
      have hlt : k < l.length := (List.getElem?_eq_some_iff.1 ht).1
      have c1 : decide ((k : Int) < l.length) = true := decide_eq_true (by omega)
      have h3 := int_get ht
      rw [any_drop _ _ k c ht] at hf
      by_cases l1 : c < 32
      · have d1 : decide (c < 32) = true := decide_eq_true (by omega)
        refine runn [] ?_
        refine retP rfl ?_
        rw [hf]; simp [l1, ex]
      have d1 : decide (c < 32) = false := decide_eq_false (by omega)
      by_cases l2 : c = 127
      · have d2 : decide (c = 127) = true := decide_eq_true (by omega)
        refine runn [] ?_
        refine retP rfl ?_
        rw [hf]; simp [l2, ex]
      have d2 : decide (c = 127) = false := decide_eq_false (by omega)
      refine runn [] ?_
      exact ⟨k + 1, ⟨(.cons rfl rfl (.cons rfl rfl .nil)), rfl, rfl, rfl⟩, ⟨by omega, by rw [hf]; simp [l1, l2]⟩, by omega⟩
end Go.Proofs.YtigcjinpkngapaaGreatDoor
end
section
namespace Go.Proofs.YtigcjinpkngapaaGreatDoor
open Go.Ac
end Go.Proofs.YtigcjinpkngapaaGreatDoor
namespace Go.Proofs.YtigcjinpkngapaaGreatDoor
end Go.Proofs.YtigcjinpkngapaaGreatDoor
namespace Go.Proofs.YtigcjinpkngapaaGreatDoor
end Go.Proofs.YtigcjinpkngapaaGreatDoor
end
section
namespace Go.Proofs.YtigcjinpkngapaaGreatDoor
open Go.Ac
attribute [local irreducible] awp awpL Ev Ev2 EvS thenQ blockQ retQ PCalls OCalls YieldOk IterC
variable {g : List (Nat × List AV)}
end Go.Proofs.YtigcjinpkngapaaGreatDoor
end
section
namespace Go.Proofs.YtigcjinpkngapaaGreatDoor
open Go.Ac
attribute [local irreducible] awp awpL Ev Ev2 EvS thenQ blockQ retQ PCalls OCalls YieldOk IterC
variable {g : List (Nat × List AV)}
end Go.Proofs.YtigcjinpkngapaaGreatDoor
end
section
namespace Go.Proofs.YtigcjinpkngapaaGreatDoor
open Go.Ac
attribute [local irreducible] awp awpL Ev Ev2 EvS thenQ blockQ retQ PCalls OCalls YieldOk IterC
variable {g : List (Nat × List AV)}
end Go.Proofs.YtigcjinpkngapaaGreatDoor
end
section
namespace Go.Proofs.YtigcjinpkngapaaGreatDoor
open Go.Lib
def numT (n : Int) : ByteArray := ⟨(itoa n).toArray⟩
theorem numT_list (n : Int) : (numT n).data.toList = itoa n := by simp [numT]
def isDg (b : UInt8) : Bool := decide (48 ≤ b.toNat) && decide (b.toNat ≤ 57)
def dgs (acc : Nat) (l : List UInt8) : Nat := l.foldl (fun a b => a * 10 + (b.toNat - 48)) acc
theorem dgs_le : ∀ (l : List UInt8) (acc : Nat), acc ≤ dgs acc l
  | [], acc => Nat.le_refl _
  | b :: r, acc => by
    have := dgs_le r (acc * 10 + (b.toNat - 48))
    simp only [dgs, List.foldl_cons] at this ⊢
    omega
theorem dgs_append (a b : List UInt8) (acc : Nat) : dgs acc (a ++ b) = dgs (dgs acc a) b := by simp [dgs]
theorem decDigits_dg (u : Nat) : (∀ b ∈ decDigits u, isDg b = true) ∧ dgs 0 (decDigits u) = u ∧ decDigits u ≠ [] := by
  induction u using Nat.strongRecOn with
  | _ u ih =>
    by_cases h : u < 10
    · rw [decDigits, dif_pos h]
      have hm : (48 + u) % 256 = 48 + u := Nat.mod_eq_of_lt (by omega)
      refine ⟨fun b hb => ?_, ?_, by simp⟩
      · simp only [List.mem_singleton] at hb
        subst hb
        simp [isDg, UInt8.toNat_ofNat', hm]; omega
      · simp [dgs, UInt8.toNat_ofNat', hm]
    · rw [decDigits, dif_neg h]
      obtain ⟨h1, h2, h3⟩ := ih (u / 10) (by omega)
      have hm : (48 + u % 10) % 256 = 48 + u % 10 := Nat.mod_eq_of_lt (by omega)
      refine ⟨fun b hb => ?_, ?_, by simp⟩
      · rcases List.mem_append.1 hb with hb | hb
        · exact h1 b hb
        · simp only [List.mem_singleton] at hb
          subst hb
          simp [isDg, UInt8.toNat_ofNat', hm]; omega
      · rw [dgs_append, h2]
        simp [dgs, UInt8.toNat_ofNat', hm]; omega
theorem parse_dgs : ∀ (l : List UInt8) (acc : Nat), (∀ b ∈ l, isDg b = true) → dgs acc l < 18446744073709551616 → parseUint10 acc l = .ok (dgs acc l)
  | [], acc, _, _ => rfl
  | b :: r, acc, h, hb => by
    have h1 := h b (by simp)
    simp only [isDg, Bool.and_eq_true, decide_eq_true_eq] at h1
    have hr : dgs acc (b :: r) = dgs (acc * 10 + (b.toNat - 48)) r := rfl
    have := dgs_le r (acc * 10 + (b.toNat - 48))
    rw [hr] at hb ⊢
    simp only [parseUint10]
    rw [if_pos h1, if_neg (by omega), if_neg (by omega)]
    exact parse_dgs r _ (fun x hx => h x (by simp [hx])) hb
theorem head_dg {l : List UInt8} {b : UInt8} {r : List UInt8} (h : ∀ x ∈ l, isDg x = true) (hl : l = b :: r) : ¬ (b.toNat = 43 ∨ b.toNat = 45) := by
  have := h b (by simp [hl])
  simp only [isDg, Bool.and_eq_true, decide_eq_true_eq] at this
  omega
theorem atoi_itoa (n : Int) (h0 : -9223372036854775808 ≤ n) (h1 : n ≤ 9223372036854775807) : atoiAll (itoa n) = .ok n := by
  by_cases hn : n < 0
  · obtain ⟨d1, d2, d3⟩ := decDigits_dg n.natAbs
    have e : itoa n = 45 :: decDigits n.natAbs := by unfold itoa; rw [if_pos hn]
    rw [e]
    have hp : parseMag (decDigits n.natAbs) = .ok n.natAbs := by
      unfold parseMag
      rw [if_neg d3, parse_dgs _ _ d1 (by rw [d2]; omega), d2]
    have h45 : (45 : UInt8).toNat = 45 := rfl
    simp only [atoiAll, h45, or_true, if_true, hp, not_true, false_and, if_false, true_and]
    rw [if_neg (by omega)]
    congr 1
    omega
  · obtain ⟨d1, d2, d3⟩ := decDigits_dg n.toNat
    have e : itoa n = decDigits n.toNat := by unfold itoa; rw [if_neg hn]
    rw [e]
    obtain ⟨b, r, hl⟩ : ∃ b r, decDigits n.toNat = b :: r := by
      cases hh : decDigits n.toNat with
      | nil => exact absurd hh d3
      | cons b r => exact ⟨b, r, rfl⟩
    have hb := head_dg d1 hl
    have hp : parseMag (decDigits n.toNat) = .ok n.toNat := by
      unfold parseMag
      rw [if_neg d3, parse_dgs _ _ d1 (by rw [d2]; omega), d2]
    rw [hl] at hp ⊢
    simp only [atoiAll]
    rw [if_neg hb, hp]
    have hb2 : ¬ b.toNat = 45 := fun h => hb (.inr h)
    simp only [hb2, not_false_eq_true, true_and, false_and, if_false]
    rw [if_neg (by omega)]
    congr 1
    omega
abbrev inNum (n : Int) : Prop := -1099511627776 ≤ n ∧ n ≤ 1099511627776
def numP (s : ByteArray) : Option Int := match atoiAll s.data.toList with
  | .ok n => if numT n = s ∧ inNum n then some n else none
  | _ => none
theorem numP_some {s : ByteArray} {n : Int} : numP s = some n ↔ numT n = s ∧ inNum n := by
  unfold numP
  constructor
  · intro h
    split at h
    · split at h
      · rename_i hc
        cases h
        exact hc
      · cases h
    · cases h
  · rintro ⟨h1, h2⟩
    have : atoiAll s.data.toList = .ok n := by rw [← h1, numT_list]; exact atoi_itoa n (by omega) (by omega)
    rw [this]
    simp only
    rw [if_pos ⟨h1, h2⟩]
theorem numP_numT {n : Int} (h : inNum n) : numP (numT n) = some n := numP_some.2 ⟨rfl, h⟩
theorem numP_in {s : ByteArray} {n : Int} (h : numP s = some n) : inNum n := (numP_some.1 h).2
def runN (l : List UInt8) (acc : Nat) : Option Nat := match l with
  | [] => some acc
  | b :: r => if isDg b then (if 1099511627776 < acc * 10 + (b.toNat - 48) then none else runN r (acc * 10 + (b.toNat - 48))) else none
theorem runN_some : ∀ (l : List UInt8) (acc : Nat), (∀ b ∈ l, isDg b = true) → dgs acc l ≤ 1099511627776 → runN l acc = some (dgs acc l)
  | [], acc, _, _ => rfl
  | b :: r, acc, h, hb => by
    have hr : dgs acc (b :: r) = dgs (acc * 10 + (b.toNat - 48)) r := rfl
    have := dgs_le r (acc * 10 + (b.toNat - 48))
    rw [hr] at hb ⊢
    simp only [runN]
    rw [if_pos (h b (by simp)), if_neg (by omega)]
    exact runN_some r _ (fun x hx => h x (by simp [hx])) hb
theorem runN_le : ∀ (l : List UInt8) (acc n : Nat), acc ≤ 1099511627776 → runN l acc = some n → n ≤ 1099511627776
  | [], acc, n, ha, h => by simp only [runN] at h; cases h; exact ha
  | b :: r, acc, n, ha, h => by
    simp only [runN] at h
    split at h
    · split at h
      · cases h
      · exact runN_le r _ n (by omega) h
    · cases h
def sgn (s : ByteArray) : Nat := if s.data.toList.head? = some 45 then 1 else 0
def rawP (s : ByteArray) : Option Int := (runN (s.data.toList.drop (sgn s)) 0).map fun n => if sgn s = 1 then -(n : Int) else n
theorem numP_raw (s : ByteArray) : numP s = (rawP s).bind fun n => if numT n = s then some n else none := by
  cases hp : numP s with
  | some n =>
    obtain ⟨h1, h2⟩ := numP_some.1 hp
    have hs : s.data.toList = itoa n := by rw [← h1, numT_list]
    have hr : rawP s = some n := by
      unfold rawP
      by_cases hn : n < 0
      · obtain ⟨d1, d2, d3⟩ := decDigits_dg n.natAbs
        have e : itoa n = 45 :: decDigits n.natAbs := by unfold itoa; rw [if_pos hn]
        have hg : sgn s = 1 := by unfold sgn; rw [hs, e]; rfl
        rw [hg, hs, e, List.drop_one, List.tail_cons, runN_some _ _ d1 (by rw [d2]; omega), d2]
        change some (-((n.natAbs : Nat) : Int)) = some n
        rw [show -((n.natAbs : Nat) : Int) = n by omega]
      · obtain ⟨d1, d2, d3⟩ := decDigits_dg n.toNat
        have e : itoa n = decDigits n.toNat := by unfold itoa; rw [if_neg hn]
        have hg : sgn s = 0 := by
          unfold sgn
          rw [hs, e]
          cases hh : decDigits n.toNat with
          | nil => exact absurd hh d3
          | cons b r =>
            have := head_dg d1 hh
            rw [if_neg]
            intro hc
            simp only [List.head?_cons, Option.some.injEq] at hc
            exact this (.inr (by rw [hc]; rfl))
        rw [hg, hs, e, List.drop_zero, runN_some _ _ d1 (by rw [d2]; omega), d2]
        change some ((n.toNat : Nat) : Int) = some n
        rw [show ((n.toNat : Nat) : Int) = n by omega]
    rw [hr]
    simp only [Option.bind_some]
    rw [if_pos h1]
  | none =>
    cases hr : rawP s with
    | none => rfl
    | some n =>
      simp only [Option.bind_some]
      split
      · rename_i hc
        exfalso
        have hb : inNum n := by
          unfold rawP at hr
          cases hq : runN (s.data.toList.drop (sgn s)) 0 with
          | none => rw [hq] at hr; cases hr
          | some u =>
            rw [hq] at hr
            have := runN_le _ _ _ (by omega) hq
            have hr : (if sgn s = 1 then -(u : Int) else u) = n := by injection hr
            subst hr
            split <;> exact ⟨by omega, by omega⟩
        rw [numP_some.2 ⟨hc, hb⟩] at hp
        cases hp
      · rfl
end Go.Proofs.YtigcjinpkngapaaGreatDoor
end
section
namespace Go.Ac
open Go.RowKit
section
variable {P : Program} {G : Glo} {N : Nat} {S : SL} {L : List LB} {ty : TypeId} {u : Operand}
theorem iface_desc {td : TDs} [T : TOK P td] {t : Nat} {d : TD} (ht : lk td t = some d) (hs : d.k = .iface) : P.underlying t = some (.interface (P.methodsAt t)) := by
  obtain ⟨i, u, z, h1, h2, h3, h4, h5, h6, h7⟩ := tok_parts (P := P) ht
  rw [hs] at h4
  unfold Program.methodsAt
  rw [h2]
  cases u <;> simp_all [tk]
theorem ev_ifc_nn {td : TDs} [T : TOK P td] {t yt : Nat} {d : TD} (h1 : val G S u = some (.v .nilIface)) (ht : lk td t = some d) (hs : d.k = .iface) :
    Ev P G N (.binOp .neq t u (.const .nilIface) yt) ty S L (.v (.bool false)) := by
  intro o ho _ cx a hc
  have e1 := val_R hc h1
  simp only [R] at e1
  refine ⟨.bool false, ?_, by simp only [R]⟩
  have := run_neq_nil_nil (P := P) cx.w t (iface_desc (P := P) ht hs)
  have e2 : a.eval (.const .nilIface) = .nilIface := rfl
  simp only [execOp, ho, e1, e2, Sem.run_bind]
  simp [eqGuard, Result.andThen_ok, Sem.run_pure, this]
theorem ev_ifc_ne {td : TDs} [T : TOK P td] {t yt : Nat} {d : TD} {k : TypeId} {x : AV} (h1 : val G S u = some (.ifc k x)) (ht : lk td t = some d) (hs : d.k = .iface) :
    Ev P G N (.binOp .neq t u (.const .nilIface) yt) ty S L (.v (.bool true)) := by
  intro o ho _ cx a hc
  have e1 := val_R hc h1
  simp only [R] at e1
  obtain ⟨y, e1, _⟩ := e1
  refine ⟨.bool true, ?_, by simp only [R]⟩
  have := run_neq_held_nil (P := P) cx.w t k y (iface_desc (P := P) ht hs)
  have e2 : a.eval (.const .nilIface) = .nilIface := rfl
  simp only [execOp, ho, e1, e2, Sem.run_bind]
  simp [eqGuard, Result.andThen_ok, Sem.run_pure, this]
theorem ev_subK {xt yt : TypeId} {u e : Operand} {k : IntKind} {p q r : Int} (h1 : val G S u = some (.v (.int k p))) (h2 : val G S e = some (.v (.int k q))) (hr : k.wrap (p - q) = r) : Ev P G N (.binOp .sub xt u e yt) ty S L (.v (.int k r)) := by
  subst hr
  intro o ho _ cx a hc
  have e1 := val_R hc h1
  have e2 := val_R hc h2
  simp only [R] at e1 e2
  refine ⟨_, ?_, by simp only [R]; rfl⟩
  simp only [execOp, ho, e1, e2]
  simp [eqGuard, binOp, Op.intArith]
theorem ev_catE {xt yt : TypeId} {u e : Operand} {p q r : ByteArray} (h1 : val G S u = some (.v (.string p))) (h2 : val G S e = some (.v (.string q))) (hb : p.size + q.size ≤ 9223372036854775807) (hr : p ++ q = r) :
    Ev P G N (.binOp .add xt u e yt) ty S L (.v (.string r)) := hr ▸ ev_cat h1 h2 hb
end
theorem PCalls.ofBelowQ {P : Program} {g : List (Nat × List AV)} {f : FuncId} {args : List AV} {r : AV} (hc : Callable P f)
    (h : ∀ (F : Nat → Prop) (w : World) (vs : Array Value), St (Glo.of g) (Cx.bare F w) [] → TF F w args vs.toList → Calls P f vs w fun e w' => ∃ v, e = .returned v ∧ Below w.heap.size w w' ∧ RF F w' r v) : PCalls P g f args r := by
  refine ⟨hc, fun F w vs st ha => (callsIn_wide.2 (h F w vs st ha)).mono ?_⟩
  rintro e w' ⟨v, rfl, hb, hv⟩
  have hF : ∀ b, F b → b < w.heap.size := st.inF
  have hk : ∀ b, F b → w'.heap[b]? = w.heap[b]? := fun b h => hb.block b (hF b h)
  refine ⟨v, F, rfl, hv, ⟨fun k h => h.elim, fun k x h => by simp at h, fun b h => Nat.lt_of_lt_of_le (hF b h) hb.size, fun k b h => by simp [Cx.bare] at h, fun k k' b h => by simp [Cx.bare] at h, fun k x h => by simp at h,
    fun p hp => ?_, fun b h => h.elim, List.nodup_nil, .inl rfl, fun r h => by simp [Cx.bare] at h, .inl rfl⟩,
    ⟨hb.os, hb.tape, hb.output, hb.size, fun b h => .inl h, fun b ⟨j, h⟩ => by simp [Cx.bare] at h, fun b h => h.elim, fun r h => by simp [Cx.bare] at h, fun b h1 _ _ => hb.block b h1, rfl, ?_⟩⟩
  · obtain ⟨h1, h2, h3⟩ := st.glob p hp
    exact ⟨h1, MF.mono (F := F) (w := w) (fun b h => h) hk p.2 p.1 0 (hk p.1 h1) h2, h3.keep (hk p.1 h1)⟩
  · refine ⟨fun b h => h, fun b h => hk b h, fun k h => h.elim, fun k h => h.elim, fun k h => h.elim, fun k h => h.elim, fun k h => h.elim, fun k b arr T h => h.elim⟩
end Go.Ac
end
section
namespace Go.Ac
open Go.RowKit
def powCs : List AV := Go.Lib.pow10Tab.map fun z => .v (.int .u64 z)
theorem tab_of {P : Program} {g : List (Nat × List AV)} {F : Nat → Prop} {w : World} {b : Nat} {name : String} {k : IntKind} {zs : List Int} (st : St (Glo.of g) (Cx.bare F w) []) (h : (b, zs.map fun z => AV.v (.int k z)) ∈ g) (hn : P.globalNamed name = some b) : Go.Lib.TabIs P w name k zs := by
  obtain ⟨_, m, arr, T, z, e1, e2⟩ := st.glob _ h
  have e1 : w.heap[b]? = some (.cells arr T z) := e1
  have e2 : arr.size = (zs.map fun z => AV.v (.int k z)).length := e2
  unfold Go.Lib.TabIs World.var?
  rw [hn]
  simp only [Option.bind_some, e1]
  congr 1
  apply Array.ext
  · simpa using e2
  · intro i h1 h2
    have hi : i < zs.length := by simpa [e2] using h1
    obtain ⟨u, q1, q2, _⟩ := m.get (i := i) (x := AV.v (.int k zs[i])) (by rw [List.getElem?_map, List.getElem?_eq_getElem hi]; rfl)
    simp only [RF] at q2
    subst q2
    have q1 : w.cell? ⟨b, i, none⟩ = some (.int k zs[i]) := by simpa [Cx.bare] using q1
    simp only [World.cell?, e1] at q1
    have : arr[i]? = some (.int k zs[i]) := by simpa using q1
    rw [Array.getElem?_eq_getElem h1] at this
    rw [Option.some.inj this]
    simp
theorem one_arg {F : Nat → Prop} {w : World} {x : Value} {vs : Array Value} (h : TF F w [.v x] vs.toList) : vs = #[x] := by
  simp only [TF, RF] at h
  obtain ⟨y, t, e, rfl, rfl⟩ := h
  cases vs; simp_all
theorem below_grown (w : World) (k : Nat) (os : Array Obj) : Below w.heap.size w (Go.Sort.grow (w.drewN k) os) := by
  refine ⟨rfl, rfl, rfl, by simp [Go.Sort.grow, World.drewN], fun j hj => ?_⟩
  simp [Go.Sort.grow, World.drewN, Array.getElem?_append_left hj]
theorem itoa_P {P : Program} {ρ : Go.Shelf.Ren} {g : List (Nat × List AV)} (L : Go.Proofs.LaysM.n171 P ρ) (hc : Callable P (ρ.f 171)) {b : Nat} (hn : P.globalNamed "internal/strconv.uint64pow10" = some b) (h : (b, powCs) ∈ g) (n : Int) (h0 : -9223372036854775808 ≤ n ∧ n ≤ 9223372036854775807) :
    PCalls P g (ρ.f 171) [.v (.int .i64 n)] (.v (.string ⟨(Go.Lib.itoa n).toArray⟩)) := by
  refine PCalls.ofBelow hc fun F w vs st ha => ?_
  obtain rfl := one_arg ha
  refine (Go.Proofs.Any.strconv_Itoa L n h0.1 h0.2 w (tab_of st h hn)).mono ?_
  rintro e w' ⟨rfl, k, os, rfl⟩
  exact ⟨rfl, below_grown w k os⟩
theorem err_of {g : List (Nat × List AV)} {F : Nat → Prop} {w : World} {b : Nat} {t : TypeId} (st : St (Glo.of g) (Cx.bare F w) []) (h : (b, [AV.ifc t .any]) ∈ g) : ∃ ev, w.cell? ⟨b, 0, none⟩ = some ev ∧ (ev = .nilIface ∨ ∃ te pe, ev = .iface te pe) := by
  obtain ⟨_, m, _⟩ := st.glob _ h
  obtain ⟨u, q1, q2, _⟩ := m.get (i := 0) (x := .ifc t .any) rfl
  simp only [RF] at q2
  obtain ⟨y, rfl, _⟩ := q2
  exact ⟨_, by simpa [Cx.bare] using q1, .inr ⟨_, _, rfl⟩⟩
def atoiV (t : TypeId) (s : ByteArray) : AV := match Go.Lib.atoiAll s.data.toList with
  | .ok n => .tup [.v (.int .i64 n), .v .nilIface]
  | .range => .tup [.v (.int .i64 (Go.Lib.atoiSat s.data.toList)), .ifc t .any]
  | _ => .tup [.v (.int .i64 0), .ifc t .any]
theorem atoi_P {P : Program} {ρ : Go.Shelf.Ren} {g : List (Nat × List AV)} (L : Go.Proofs.LaysC.n172 P ρ) (hc : Callable P (ρ.f 172)) {t1 t2 : TypeId} (h1 : (ρ.g 15, [AV.ifc t1 .any]) ∈ g) (h2 : (ρ.g 16, [AV.ifc t2 .any]) ∈ g) (s : ByteArray) (hs : s.size ≤ 281474976710656) :
    PCalls P g (ρ.f 172) [.v (.string s)] (atoiV (ρ.t 168) s) := by
  refine PCalls.ofBelowQ hc fun F w vs st ha => ?_
  obtain rfl := one_arg ha
  unfold atoiV
  cases h : Go.Lib.atoiAll s.data.toList
  · rename_i n
    refine (Go.Proofs.Any.strconv_Atoi_ok L s (by omega) n h w).mono ?_
    rintro e w' ⟨rfl, hw⟩
    refine ⟨_, rfl, ?_, by simp [RF, TF]⟩
    rcases hw with rfl | ⟨t, rfl⟩
    · exact Below.refl _ _
    · exact ⟨rfl, rfl, rfl, by rw [Go.Lib.bytesWorld_size]; omega, fun k hk => Go.Lib.bytesWorld_at_old w _ _ k hk⟩
  · obtain ⟨ev, q1, q2⟩ := err_of st h1
    refine (Go.Proofs.Any.strconv_Atoi_syntax L s hs h ev w q1 q2).mono ?_
    rintro e w' ⟨N, rfl, _, _, hb⟩
    refine ⟨_, rfl, hb, ?_⟩
    simp only [RF, TF]
    exact ⟨_, rfl, _, _, rfl, rfl, _, _, rfl, ⟨_, rfl, trivial⟩, rfl⟩
  · obtain ⟨ev, q1, q2⟩ := err_of st h2
    refine (Go.Proofs.Any.strconv_Atoi_range L s hs h ev w q1 q2).mono ?_
    rintro e w' ⟨N, rfl, _, _, hb⟩
    refine ⟨_, rfl, hb, ?_⟩
    simp only [RF, TF]
    exact ⟨_, rfl, _, _, rfl, rfl, _, _, rfl, ⟨_, rfl, trivial⟩, rfl⟩
end Go.Ac
end
