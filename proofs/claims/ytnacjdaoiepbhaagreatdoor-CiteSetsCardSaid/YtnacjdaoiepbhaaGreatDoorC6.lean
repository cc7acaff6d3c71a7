/- A logic of trees over the model's steps, and the contracts of the functions that the laws reach: part 6 of 15. -/
import Derived.Test.YtnacjdaoiepbhaaGreatDoorC5
set_option linter.unusedVariables false
set_option linter.unusedSimpArgs false
set_option linter.unusedSectionVars false
section
namespace Go.Proofs.YtnacjdaoiepbhaaGreatDoor
open Go.Ac
attribute [local irreducible] awp awpL Ev Ev2 EvS thenQ blockQ retQ PCalls OCalls YieldOk IterC
variable {g : List (Nat × List AV)}
theorem u8_of {n : Int} {m : Nat} (h : n = m) : IntKind.u8.wrap n = ((UInt8.ofNat m).toNat : Int) := by
  subst h
  rw [u8_wrap]
  simp; omega
theorem td64 (a b : Nat) (h : 0 < b) : (a : Int).tdiv (b : Int) = ((a / b : Nat) : Int) := by
  rw [Int.tdiv_eq_ediv_of_nonneg (by omega)]; exact (Int.natCast_ediv a b).symm
theorem tm64 (a b : Nat) : (a : Int).tmod (b : Int) = ((a % b : Nat) : Int) := by
  rw [Int.tmod_eq_emod_of_nonneg (by omega)]; exact (Int.natCast_emod a b).symm
set_option maxHeartbeats 2000000 in
theorem encoded_spec (p : Nat) (hp : p ≤ 1114111) : PCalls Tryz.prog g 231 [vi p] (vs (encS p)) := by
  refine pcalls' Tryz.func231 Tryz.ntmps231 rfl rfl rfl ?_
  have hb : (p : Int) ≤ 1114111 := by omega
  have q64 : (0 : Int) < 64 ∧ -9223372036854775808 ≤ (p : Int) ∧ (p : Int) ≤ 9223372036854775807 := by omega
  have q4k : (0 : Int) < 4096 ∧ -9223372036854775808 ≤ (p : Int) ∧ (p : Int) ≤ 9223372036854775807 := by omega
  have q256 : (0 : Int) < 262144 ∧ -9223372036854775808 ≤ (p : Int) ∧ (p : Int) ≤ 9223372036854775807 := by omega
  have z64 : (0 : Int) < 64 := by omega
  have d1 : (p : Int).tdiv 64 = ((p / 64 : Nat) : Int) := td64 p 64 (by omega)
  have d2 : (p : Int).tdiv 4096 = ((p / 4096 : Nat) : Int) := td64 p 4096 (by omega)
  have d3 : (p : Int).tdiv 262144 = ((p / 262144 : Nat) : Int) := td64 p 262144 (by omega)
  have m1 : (p : Int).tmod 64 = ((p % 64 : Nat) : Int) := tm64 p 64
  have m2 : ((p / 64 : Nat) : Int).tmod 64 = ((p / 64 % 64 : Nat) : Int) := tm64 _ 64
  have m3 : ((p / 4096 : Nat) : Int).tmod 64 = ((p / 4096 % 64 : Nat) : Int) := tm64 _ 64
  have w0 : IntKind.u8.wrap (p : Int) = ((UInt8.ofNat p).toNat : Int) := u8_of rfl
  have w1 : IntKind.u8.wrap (192 + ((p / 64 : Nat) : Int)) = ((UInt8.ofNat (192 + p / 64)).toNat : Int) := u8_of (by omega)
  have w2 : IntKind.u8.wrap (128 + ((p % 64 : Nat) : Int)) = ((UInt8.ofNat (128 + p % 64)).toNat : Int) := u8_of (by omega)
  have w3 : IntKind.u8.wrap (224 + ((p / 4096 : Nat) : Int)) = ((UInt8.ofNat (224 + p / 4096)).toNat : Int) := u8_of (by omega)
  have w4 : IntKind.u8.wrap (128 + ((p / 64 % 64 : Nat) : Int)) = ((UInt8.ofNat (128 + p / 64 % 64)).toNat : Int) := u8_of (by omega)
  have w5 : IntKind.u8.wrap (240 + ((p / 262144 : Nat) : Int)) = ((UInt8.ofNat (240 + p / 262144)).toNat : Int) := u8_of (by omega)
  have w6 : IntKind.u8.wrap (128 + ((p / 4096 % 64 : Nat) : Int)) = ((UInt8.ofNat (128 + p / 4096 % 64)).toNat : Int) := u8_of (by omega)
  have a1 : ((p / 64 : Nat) : Int) ≤ 1114111 := by omega
  have a2 : ((p / 4096 : Nat) : Int) ≤ 1114111 := by omega
  have a3 : ((p / 262144 : Nat) : Int) ≤ 1114111 := by omega
  by_cases h1 : p < 128
  · have c1 : decide ((p : Int) < 128) = true := decide_eq_true (by omega)
    have hs : encS p = ⟨([UInt8.ofNat p]).toArray⟩ := by rw [encS, encN, if_pos h1]; rfl
    rw [hs]
    repeat' (first
     | ((with_reducible refine is_un ?_); (first | refine awpL_ev (ev_conv_int rfl rfl rfl rfl w0) rfl ?_ | refine awpL_ev (ev_bts (l := [UInt8.ofNat p]) rfl rfl rfl rfl rfl rfl rfl rfl rfl) rfl ?_))
     | refine stn [] ?_
     | fail)
    exact retP rfl rfl
  have c1 : decide ((p : Int) < 128) = false := decide_eq_false (by omega)
  by_cases h2 : p < 2048
  · have c2 : decide ((p : Int) < 2048) = true := decide_eq_true (by omega)
    have hs : encS p = ⟨([UInt8.ofNat (192 + p / 64), UInt8.ofNat (128 + p % 64)]).toArray⟩ := by rw [encS, encN, if_neg h1, if_pos h2]; rfl
    rw [hs]
    repeat' (first
     | ((with_reducible refine is_un ?_); (first | refine awpL_ev (ev_conv_int rfl rfl rfl rfl w1) rfl ?_ | refine awpL_ev (ev_conv_int rfl rfl rfl rfl w2) rfl ?_ | refine awpL_ev (ev_bts (l := [UInt8.ofNat (192 + p / 64), UInt8.ofNat (128 + p % 64)]) rfl rfl rfl rfl rfl rfl rfl rfl rfl) rfl ?_ | refine awpL_ev (ev_tdivE rfl rfl q64 d1) rfl ?_ | refine awpL_ev (ev_tmodE rfl rfl z64 m1) rfl ?_))
     | refine stn [] ?_
     | fail)
    exact retP rfl rfl
  have c2 : decide ((p : Int) < 2048) = false := decide_eq_false (by omega)
  by_cases h3 : p < 65536
  · have c3 : decide ((p : Int) < 65536) = true := decide_eq_true (by omega)
    have hs : encS p = ⟨([UInt8.ofNat (224 + p / 4096), UInt8.ofNat (128 + p / 64 % 64), UInt8.ofNat (128 + p % 64)]).toArray⟩ := by rw [encS, encN, if_neg h1, if_neg h2, if_pos h3]; rfl
    rw [hs]
    repeat' (first
     | ((with_reducible refine is_un ?_); (first | refine awpL_ev (ev_conv_int rfl rfl rfl rfl w3) rfl ?_ | refine awpL_ev (ev_conv_int rfl rfl rfl rfl w4) rfl ?_ | refine awpL_ev (ev_conv_int rfl rfl rfl rfl w2) rfl ?_ | refine awpL_ev (ev_bts (l := [UInt8.ofNat (224 + p / 4096), UInt8.ofNat (128 + p / 64 % 64), UInt8.ofNat (128 + p % 64)]) rfl rfl rfl rfl rfl rfl rfl rfl rfl) rfl ?_ | refine awpL_ev (ev_tdivE rfl rfl q64 d1) rfl ?_ | refine awpL_ev (ev_tdivE rfl rfl q4k d2) rfl ?_ | refine awpL_ev (ev_tmodE rfl rfl z64 m1) rfl ?_ | refine awpL_ev (ev_tmodE rfl rfl z64 m2) rfl ?_))
     | refine stn [] ?_
     | fail)
    exact retP rfl rfl
  have c3 : decide ((p : Int) < 65536) = false := decide_eq_false (by omega)
  have hs : encS p = ⟨([UInt8.ofNat (240 + p / 262144), UInt8.ofNat (128 + p / 4096 % 64), UInt8.ofNat (128 + p / 64 % 64), UInt8.ofNat (128 + p % 64)]).toArray⟩ := by rw [encS, encN, if_neg h1, if_neg h2, if_neg h3]; rfl
  rw [hs]
  repeat' (first
   | ((with_reducible refine is_un ?_); (first | refine awpL_ev (ev_conv_int rfl rfl rfl rfl w5) rfl ?_ | refine awpL_ev (ev_conv_int rfl rfl rfl rfl w6) rfl ?_ | refine awpL_ev (ev_conv_int rfl rfl rfl rfl w4) rfl ?_ | refine awpL_ev (ev_conv_int rfl rfl rfl rfl w2) rfl ?_ | refine awpL_ev (ev_bts (l := [UInt8.ofNat (240 + p / 262144), UInt8.ofNat (128 + p / 4096 % 64), UInt8.ofNat (128 + p / 64 % 64), UInt8.ofNat (128 + p % 64)]) rfl rfl rfl rfl rfl rfl rfl rfl rfl) rfl ?_ | refine awpL_ev (ev_tdivE rfl rfl q64 d1) rfl ?_ | refine awpL_ev (ev_tdivE rfl rfl q4k d2) rfl ?_ | refine awpL_ev (ev_tdivE rfl rfl q256 d3) rfl ?_ | refine awpL_ev (ev_tmodE rfl rfl z64 m1) rfl ?_ | refine awpL_ev (ev_tmodE rfl rfl z64 m2) rfl ?_ | refine awpL_ev (ev_tmodE rfl rfl z64 m3) rfl ?_))
   | refine stn [] ?_
   | fail)
  exact retP rfl rfl
end Go.Proofs.YtnacjdaoiepbhaaGreatDoor
end
section
namespace Go.Proofs.YtnacjdaoiepbhaaGreatDoor
open Go.Ac
attribute [local irreducible] awp awpL Ev Ev2 EvS thenQ blockQ retQ PCalls OCalls YieldOk IterC
variable {g : List (Nat × List AV)}
def firstV (o : Option (Nat × Nat)) : AV := match o with
  | some (p, n) => .tup [vi p, vi n]
  | none => .tup [vi (-1), vi 0]
theorem pv_lt (s : ByteArray) (i k : Nat) (hk : k ≤ 3) : pv s i k < 67108864 := by
  have h0 : base (byt s i) < 256 := by
    have := byt_lt s i
    unfold base
    split
    · omega
    · split
      · omega
      · split <;> omega
  have h1 := byt_lt s (i + 1)
  have h2 := byt_lt s (i + 2)
  have h3 := byt_lt s (i + 3)
  have : k = 0 ∨ k = 1 ∨ k = 2 ∨ k = 3 := by omega
  rcases this with rfl | rfl | rfl | rfl <;> simp only [pv] <;> omega
theorem sget {s : ByteArray} {k : Nat} {n : Int} (h : k < s.size) (hn : n = k) : 0 ≤ n ∧ s.data[n.toNat]? = some (s.get! k) := by
  subst hn
  have := get_list s k h
  exact byte_get this
theorem wrapB (b : Nat) (h : b < 256) : IntKind.i64.wrap (b : Int) = (b : Int) := wrap_in (by omega) (by omega)
set_option maxHeartbeats 2000000 in
theorem rfst4_spec (s : ByteArray) (i : Nat) (hi : i < s.size) (hs : s.size ≤ 1000000) (hlo : 240 ≤ byt s i) (hhi : byt s i < 256) : PCalls Tryz.prog g 219 [vs s, vi i] (firstV (rfirst s i)) := by
  refine pcalls' Tryz.func219 Tryz.ntmps219 rfl rfl rfl ?_
  have hw : wid (byt s i) = 4 := by
    unfold wid
    repeat' split
    all_goals omega
  have hb : pv s i 0 = byt s i - 240 := by
    simp only [pv]
    unfold base
    repeat' split
    all_goals omega
  have g0 := sget (n := (i : Int)) hi rfl
  have w0 : IntKind.i64.wrap (((s.get! i).toNat : Nat) : Int) = ((byt s i : Nat) : Int) := wrapB _ (byt_lt s i)
  have c1 : decide ((240 : Int) ≤ ((byt s i : Nat) : Int)) = true := by first | exact decide_eq_true (by omega) | exact decide_eq_false (by omega)
  have c2 : decide ((224 : Int) ≤ ((byt s i : Nat) : Int)) = true := by first | exact decide_eq_true (by omega) | exact decide_eq_false (by omega)
  have c3 : decide ((192 : Int) ≤ ((byt s i : Nat) : Int)) = true := by first | exact decide_eq_true (by omega) | exact decide_eq_false (by omega)
  have hbd : -9223372036854775808 ≤ ((byt s i : Nat) : Int) - 240 ∧ ((byt s i : Nat) : Int) - 240 ≤ 9223372036854775807 := by omega
  have hsb : ((byt s i : Nat) : Int) - 240 = ((pv s i 0 : Nat) : Int) := by rw [hb]; omega
  have hin : -9223372036854775808 ≤ (i : Int) + 4 ∧ (i : Int) + 4 ≤ 9223372036854775807 := by omega
  by_cases hl : s.size < i + 4
  · have e1 : decide ((s.size : Int) < (i : Int) + 4) = true := decide_eq_true (by omega)
    have hr : rfirst s i = none := by unfold rfirst; rw [hw, if_pos hl]
    rw [hr]
    repeat' (first
     | ((with_reducible refine is_un ?_); (first | refine awpL_ev (ev_conv_int rfl rfl rfl rfl w0) rfl ?_ | refine awpL_ev (ev_subE rfl rfl hbd hsb) rfl ?_))
     | refine stn [] ?_
     | fail)
    exact retP rfl rfl
  have e1 : decide ((s.size : Int) < (i : Int) + 4) = false := decide_eq_false (by omega)
  have hp0 : 240 = 0 → ((byt s i : Nat) : Int) = ((pv s i 0 : Nat) : Int) := by intro h; omega
  repeat' (first
   | ((with_reducible refine is_un ?_); (first | refine awpL_ev (ev_conv_int rfl rfl rfl rfl w0) rfl ?_ | refine awpL_ev (ev_subE rfl rfl hbd hsb) rfl ?_))
   | refine stn [] ?_
   | ((with_reducible refine is_awp ?_); refine awp_cond rfl (fun h => ?_) (fun h => ?_))
   | fail)
  refine awp_for (α := Nat) 0 (fun k => [(0, vs s), (1, vi i), (7, vi 4), (6, vi (pv s i k)), (8, vi ((k : Int) + 1))]) (fun _ => []) (fun k => k + 1 ≤ 4) (fun k => 4 - k) 0
    ⟨.cons rfl rfl (.cons rfl rfl (.cons rfl rfl (.cons rfl (by first | rfl | (rw [← hp0 rfl]; rfl)) (.cons rfl rfl .nil)))), rfl, rfl, rfl⟩ (by omega) ?_
  intro k hk
  have hpk := pv_lt s i k (by omega)
  by_cases hkn : k + 1 = 4
  · have e2 : decide ((k : Int) + 1 < 4) = false := decide_eq_false (by omega)
    have hk1 : wid (byt s i) - 1 = k := by omega
    have hS := Scalar_spec (g := g) (pv s i k)
    have hrf : rfirst s i = if scal (pv s i k) = true ∧ encS (pv s i k) = s.extract i (i + 4) then some (pv s i k, 4) else none := by
      unfold rfirst; rw [if_neg (by omega), hk1, hw]
    have n1 : (!true) = false := rfl
    have n2 : (!false) = true := rfl
    cases hsc : scal (pv s i k) with
    | false =>
      rw [hsc] at hS hrf
      rw [hrf, if_neg (by simp)]
      refine run [] ?_
      exact retP rfl rfl
    | true =>
      rw [hsc] at hS hrf
      have hle : pv s i k ≤ 1114111 := by simp [scal] at hsc; omega
      have hE := encoded_spec (g := g) (pv s i k) hle
      have hx : s.extract (i : Int).toNat ((i : Int) + 4).toNat = s.extract i (i + 4) := by
        rw [show (i : Int).toNat = i by omega, show ((i : Int) + 4).toNat = i + 4 by omega]
      have hbb : 0 ≤ (i : Int) ∧ (i : Int) ≤ (i : Int) + 4 ∧ (i : Int) + 4 ≤ (s.size : Nat) := by omega
      by_cases hq : encS (pv s i k) = s.extract i (i + 4)
      · have e3 : (!decide (encS (pv s i k) = s.extract i (i + 4))) = false := by simp [hq]
        rw [hrf, if_pos ⟨rfl, hq⟩]
        repeat' (first
         | ((with_reducible refine isD_un ?_); refine awpD_un (as_ev (fun _ => ev_slice_str rfl rfl rfl rfl rfl hbb hx) rfl rfl) (by (try simp only [List.nil_append, List.cons_append]); (try rfl)) ?_)
         | ((with_reducible refine isD_gd ?_); refine awpD_gd rfl rfl (by first | with_reducible rfl | with_reducible assumption) (as_ev (fun _ => ev_slice_str rfl rfl rfl rfl rfl hbb hx) rfl rfl) (by (try simp only [List.nil_append, List.cons_append]); (try rfl)) ?_)
         | refine st [] ?_
         | fail)
        exact retP rfl rfl
      · have e3 : (!decide (encS (pv s i k) = s.extract i (i + 4))) = true := by simp [hq]
        rw [hrf, if_neg (fun h => hq h.2)]
        repeat' (first
         | ((with_reducible refine isD_un ?_); refine awpD_un (as_ev (fun _ => ev_slice_str rfl rfl rfl rfl rfl hbb hx) rfl rfl) (by (try simp only [List.nil_append, List.cons_append]); (try rfl)) ?_)
         | ((with_reducible refine isD_gd ?_); refine awpD_gd rfl rfl (by first | with_reducible rfl | with_reducible assumption) (as_ev (fun _ => ev_slice_str rfl rfl rfl rfl rfl hbb hx) rfl rfl) (by (try simp only [List.nil_append, List.cons_append]); (try rfl)) ?_)
         | refine st [] ?_
         | fail)
        exact retP rfl rfl
  · have e2 : decide ((k : Int) + 1 < 4) = true := decide_eq_true (by omega)
    have hmul : -9223372036854775808 ≤ ((pv s i k : Nat) : Int) * 64 ∧ ((pv s i k : Nat) : Int) * 64 ≤ 9223372036854775807 := by omega
    have gk := sget (s := s) (k := i + (k + 1)) (n := (i : Int) + ((k : Int) + 1)) (by omega) (by omega)
    have wk : IntKind.i64.wrap (((s.get! (i + (k + 1))).toNat : Nat) : Int) = ((byt s (i + (k + 1)) : Nat) : Int) := wrapB _ (byt_lt s _)
    have z64 : (0 : Int) < 64 := by omega
    have mk := tm64 (byt s (i + (k + 1))) 64
    have hbk := byt_lt s (i + (k + 1))
    have hadd : -9223372036854775808 ≤ ((pv s i k : Nat) : Int) * 64 + ((byt s (i + (k + 1)) % 64 : Nat) : Int) ∧ ((pv s i k : Nat) : Int) * 64 + ((byt s (i + (k + 1)) % 64 : Nat) : Int) ≤ 9223372036854775807 := by omega
    have hpn : ((pv s i k : Nat) : Int) * 64 + ((byt s (i + (k + 1)) % 64 : Nat) : Int) = ((pv s i (k + 1) : Nat) : Int) := by
      simp only [pv]; omega
    repeat' (first
     | ((with_reducible refine is_un ?_); (first | refine awpL_ev (ev_conv_int rfl rfl rfl rfl wk) rfl ?_ | refine awpL_ev (ev_mul rfl rfl hmul) rfl ?_ | refine awpL_ev (ev_tmodE rfl rfl z64 mk) rfl ?_ | refine awpL_ev (ev_addE rfl rfl hadd hpn) rfl ?_))
     | refine stn [] ?_
     | fail)
    exact ⟨k + 1, ⟨(.cons rfl rfl (.cons rfl rfl (.cons rfl rfl (.cons rfl rfl (.cons rfl rfl .nil))))), rfl, rfl, rfl⟩, by omega, by omega⟩
set_option maxHeartbeats 2000000 in
theorem rfst3_spec (s : ByteArray) (i : Nat) (hi : i < s.size) (hs : s.size ≤ 1000000) (hlo : 224 ≤ byt s i) (hhi : byt s i < 240) : PCalls Tryz.prog g 219 [vs s, vi i] (firstV (rfirst s i)) := by
  refine pcalls' Tryz.func219 Tryz.ntmps219 rfl rfl rfl ?_
  have hw : wid (byt s i) = 3 := by
    unfold wid
    repeat' split
    all_goals omega
  have hb : pv s i 0 = byt s i - 224 := by
    simp only [pv]
    unfold base
    repeat' split
    all_goals omega
  have g0 := sget (n := (i : Int)) hi rfl
  have w0 : IntKind.i64.wrap (((s.get! i).toNat : Nat) : Int) = ((byt s i : Nat) : Int) := wrapB _ (byt_lt s i)
  have c1 : decide ((240 : Int) ≤ ((byt s i : Nat) : Int)) = false := by first | exact decide_eq_true (by omega) | exact decide_eq_false (by omega)
  have c2 : decide ((224 : Int) ≤ ((byt s i : Nat) : Int)) = true := by first | exact decide_eq_true (by omega) | exact decide_eq_false (by omega)
  have c3 : decide ((192 : Int) ≤ ((byt s i : Nat) : Int)) = true := by first | exact decide_eq_true (by omega) | exact decide_eq_false (by omega)
  have hbd : -9223372036854775808 ≤ ((byt s i : Nat) : Int) - 224 ∧ ((byt s i : Nat) : Int) - 224 ≤ 9223372036854775807 := by omega
  have hsb : ((byt s i : Nat) : Int) - 224 = ((pv s i 0 : Nat) : Int) := by rw [hb]; omega
  have hin : -9223372036854775808 ≤ (i : Int) + 3 ∧ (i : Int) + 3 ≤ 9223372036854775807 := by omega
  by_cases hl : s.size < i + 3
  · have e1 : decide ((s.size : Int) < (i : Int) + 3) = true := decide_eq_true (by omega)
    have hr : rfirst s i = none := by unfold rfirst; rw [hw, if_pos hl]
    rw [hr]
    repeat' (first
     | ((with_reducible refine is_un ?_); (first | refine awpL_ev (ev_conv_int rfl rfl rfl rfl w0) rfl ?_ | refine awpL_ev (ev_subE rfl rfl hbd hsb) rfl ?_))
     | refine stn [] ?_
     | fail)
    exact retP rfl rfl
  have e1 : decide ((s.size : Int) < (i : Int) + 3) = false := decide_eq_false (by omega)
  have hp0 : 224 = 0 → ((byt s i : Nat) : Int) = ((pv s i 0 : Nat) : Int) := by intro h; omega
  repeat' (first
   | ((with_reducible refine is_un ?_); (first | refine awpL_ev (ev_conv_int rfl rfl rfl rfl w0) rfl ?_ | refine awpL_ev (ev_subE rfl rfl hbd hsb) rfl ?_))
   | refine stn [] ?_
   | ((with_reducible refine is_awp ?_); refine awp_cond rfl (fun h => ?_) (fun h => ?_))
   | fail)
  refine awp_for (α := Nat) 0 (fun k => [(0, vs s), (1, vi i), (7, vi 3), (6, vi (pv s i k)), (8, vi ((k : Int) + 1))]) (fun _ => []) (fun k => k + 1 ≤ 3) (fun k => 3 - k) 0
    ⟨.cons rfl rfl (.cons rfl rfl (.cons rfl rfl (.cons rfl (by first | rfl | (rw [← hp0 rfl]; rfl)) (.cons rfl rfl .nil)))), rfl, rfl, rfl⟩ (by omega) ?_
  intro k hk
  have hpk := pv_lt s i k (by omega)
  by_cases hkn : k + 1 = 3
  · have e2 : decide ((k : Int) + 1 < 3) = false := decide_eq_false (by omega)
    have hk1 : wid (byt s i) - 1 = k := by omega
    have hS := Scalar_spec (g := g) (pv s i k)
    have hrf : rfirst s i = if scal (pv s i k) = true ∧ encS (pv s i k) = s.extract i (i + 3) then some (pv s i k, 3) else none := by
      unfold rfirst; rw [if_neg (by omega), hk1, hw]
    have n1 : (!true) = false := rfl
    have n2 : (!false) = true := rfl
    cases hsc : scal (pv s i k) with
    | false =>
      rw [hsc] at hS hrf
      rw [hrf, if_neg (by simp)]
      refine run [] ?_
      exact retP rfl rfl
    | true =>
      rw [hsc] at hS hrf
      have hle : pv s i k ≤ 1114111 := by simp [scal] at hsc; omega
      have hE := encoded_spec (g := g) (pv s i k) hle
      have hx : s.extract (i : Int).toNat ((i : Int) + 3).toNat = s.extract i (i + 3) := by
        rw [show (i : Int).toNat = i by omega, show ((i : Int) + 3).toNat = i + 3 by omega]
      have hbb : 0 ≤ (i : Int) ∧ (i : Int) ≤ (i : Int) + 3 ∧ (i : Int) + 3 ≤ (s.size : Nat) := by omega
      by_cases hq : encS (pv s i k) = s.extract i (i + 3)
      · have e3 : (!decide (encS (pv s i k) = s.extract i (i + 3))) = false := by simp [hq]
        rw [hrf, if_pos ⟨rfl, hq⟩]
        repeat' (first
         | ((with_reducible refine isD_un ?_); refine awpD_un (as_ev (fun _ => ev_slice_str rfl rfl rfl rfl rfl hbb hx) rfl rfl) (by (try simp only [List.nil_append, List.cons_append]); (try rfl)) ?_)
         | ((with_reducible refine isD_gd ?_); refine awpD_gd rfl rfl (by first | with_reducible rfl | with_reducible assumption) (as_ev (fun _ => ev_slice_str rfl rfl rfl rfl rfl hbb hx) rfl rfl) (by (try simp only [List.nil_append, List.cons_append]); (try rfl)) ?_)
         | refine st [] ?_
         | fail)
        exact retP rfl rfl
      · have e3 : (!decide (encS (pv s i k) = s.extract i (i + 3))) = true := by simp [hq]
        rw [hrf, if_neg (fun h => hq h.2)]
        repeat' (first
         | ((with_reducible refine isD_un ?_); refine awpD_un (as_ev (fun _ => ev_slice_str rfl rfl rfl rfl rfl hbb hx) rfl rfl) (by (try simp only [List.nil_append, List.cons_append]); (try rfl)) ?_)
         | ((with_reducible refine isD_gd ?_); refine awpD_gd rfl rfl (by first | with_reducible rfl | with_reducible assumption) (as_ev (fun _ => ev_slice_str rfl rfl rfl rfl rfl hbb hx) rfl rfl) (by (try simp only [List.nil_append, List.cons_append]); (try rfl)) ?_)
         | refine st [] ?_
         | fail)
        exact retP rfl rfl
  · have e2 : decide ((k : Int) + 1 < 3) = true := decide_eq_true (by omega)
    have hmul : -9223372036854775808 ≤ ((pv s i k : Nat) : Int) * 64 ∧ ((pv s i k : Nat) : Int) * 64 ≤ 9223372036854775807 := by omega
    have gk := sget (s := s) (k := i + (k + 1)) (n := (i : Int) + ((k : Int) + 1)) (by omega) (by omega)
    have wk : IntKind.i64.wrap (((s.get! (i + (k + 1))).toNat : Nat) : Int) = ((byt s (i + (k + 1)) : Nat) : Int) := wrapB _ (byt_lt s _)
    have z64 : (0 : Int) < 64 := by omega
    have mk := tm64 (byt s (i + (k + 1))) 64
    have hbk := byt_lt s (i + (k + 1))
    have hadd : -9223372036854775808 ≤ ((pv s i k : Nat) : Int) * 64 + ((byt s (i + (k + 1)) % 64 : Nat) : Int) ∧ ((pv s i k : Nat) : Int) * 64 + ((byt s (i + (k + 1)) % 64 : Nat) : Int) ≤ 9223372036854775807 := by omega
    have hpn : ((pv s i k : Nat) : Int) * 64 + ((byt s (i + (k + 1)) % 64 : Nat) : Int) = ((pv s i (k + 1) : Nat) : Int) := by
      simp only [pv]; omega
    repeat' (first
     | ((with_reducible refine is_un ?_); (first | refine awpL_ev (ev_conv_int rfl rfl rfl rfl wk) rfl ?_ | refine awpL_ev (ev_mul rfl rfl hmul) rfl ?_ | refine awpL_ev (ev_tmodE rfl rfl z64 mk) rfl ?_ | refine awpL_ev (ev_addE rfl rfl hadd hpn) rfl ?_))
     | refine stn [] ?_
     | fail)
    exact ⟨k + 1, ⟨(.cons rfl rfl (.cons rfl rfl (.cons rfl rfl (.cons rfl rfl (.cons rfl rfl .nil))))), rfl, rfl, rfl⟩, by omega, by omega⟩
set_option maxHeartbeats 2000000 in
theorem rfst2_spec (s : ByteArray) (i : Nat) (hi : i < s.size) (hs : s.size ≤ 1000000) (hlo : 192 ≤ byt s i) (hhi : byt s i < 224) : PCalls Tryz.prog g 219 [vs s, vi i] (firstV (rfirst s i)) := by
  refine pcalls' Tryz.func219 Tryz.ntmps219 rfl rfl rfl ?_
  have hw : wid (byt s i) = 2 := by
    unfold wid
    repeat' split
    all_goals omega
  have hb : pv s i 0 = byt s i - 192 := by
    simp only [pv]
    unfold base
    repeat' split
    all_goals omega
  have g0 := sget (n := (i : Int)) hi rfl
  have w0 : IntKind.i64.wrap (((s.get! i).toNat : Nat) : Int) = ((byt s i : Nat) : Int) := wrapB _ (byt_lt s i)
  have c1 : decide ((240 : Int) ≤ ((byt s i : Nat) : Int)) = false := by first | exact decide_eq_true (by omega) | exact decide_eq_false (by omega)
  have c2 : decide ((224 : Int) ≤ ((byt s i : Nat) : Int)) = false := by first | exact decide_eq_true (by omega) | exact decide_eq_false (by omega)
  have c3 : decide ((192 : Int) ≤ ((byt s i : Nat) : Int)) = true := by first | exact decide_eq_true (by omega) | exact decide_eq_false (by omega)
  have hbd : -9223372036854775808 ≤ ((byt s i : Nat) : Int) - 192 ∧ ((byt s i : Nat) : Int) - 192 ≤ 9223372036854775807 := by omega
  have hsb : ((byt s i : Nat) : Int) - 192 = ((pv s i 0 : Nat) : Int) := by rw [hb]; omega
  have hin : -9223372036854775808 ≤ (i : Int) + 2 ∧ (i : Int) + 2 ≤ 9223372036854775807 := by omega
  by_cases hl : s.size < i + 2
  · have e1 : decide ((s.size : Int) < (i : Int) + 2) = true := decide_eq_true (by omega)
    have hr : rfirst s i = none := by unfold rfirst; rw [hw, if_pos hl]
    rw [hr]
    repeat' (first
     | ((with_reducible refine is_un ?_); (first | refine awpL_ev (ev_conv_int rfl rfl rfl rfl w0) rfl ?_ | refine awpL_ev (ev_subE rfl rfl hbd hsb) rfl ?_))
     | refine stn [] ?_
     | fail)
    exact retP rfl rfl
  have e1 : decide ((s.size : Int) < (i : Int) + 2) = false := decide_eq_false (by omega)
  have hp0 : 192 = 0 → ((byt s i : Nat) : Int) = ((pv s i 0 : Nat) : Int) := by intro h; omega
  repeat' (first
   | ((with_reducible refine is_un ?_); (first | refine awpL_ev (ev_conv_int rfl rfl rfl rfl w0) rfl ?_ | refine awpL_ev (ev_subE rfl rfl hbd hsb) rfl ?_))
   | refine stn [] ?_
   | ((with_reducible refine is_awp ?_); refine awp_cond rfl (fun h => ?_) (fun h => ?_))
   | fail)
  refine awp_for (α := Nat) 0 (fun k => [(0, vs s), (1, vi i), (7, vi 2), (6, vi (pv s i k)), (8, vi ((k : Int) + 1))]) (fun _ => []) (fun k => k + 1 ≤ 2) (fun k => 2 - k) 0
    ⟨.cons rfl rfl (.cons rfl rfl (.cons rfl rfl (.cons rfl (by first | rfl | (rw [← hp0 rfl]; rfl)) (.cons rfl rfl .nil)))), rfl, rfl, rfl⟩ (by omega) ?_
  intro k hk
  have hpk := pv_lt s i k (by omega)
  by_cases hkn : k + 1 = 2
  · have e2 : decide ((k : Int) + 1 < 2) = false := decide_eq_false (by omega)
    have hk1 : wid (byt s i) - 1 = k := by omega
    have hS := Scalar_spec (g := g) (pv s i k)
    have hrf : rfirst s i = if scal (pv s i k) = true ∧ encS (pv s i k) = s.extract i (i + 2) then some (pv s i k, 2) else none := by
      unfold rfirst; rw [if_neg (by omega), hk1, hw]
    have n1 : (!true) = false := rfl
    have n2 : (!false) = true := rfl
    cases hsc : scal (pv s i k) with
    | false =>
      rw [hsc] at hS hrf
      rw [hrf, if_neg (by simp)]
      refine run [] ?_
      exact retP rfl rfl
    | true =>
      rw [hsc] at hS hrf
      have hle : pv s i k ≤ 1114111 := by simp [scal] at hsc; omega
      have hE := encoded_spec (g := g) (pv s i k) hle
      have hx : s.extract (i : Int).toNat ((i : Int) + 2).toNat = s.extract i (i + 2) := by
        rw [show (i : Int).toNat = i by omega, show ((i : Int) + 2).toNat = i + 2 by omega]
      have hbb : 0 ≤ (i : Int) ∧ (i : Int) ≤ (i : Int) + 2 ∧ (i : Int) + 2 ≤ (s.size : Nat) := by omega
      by_cases hq : encS (pv s i k) = s.extract i (i + 2)
      · have e3 : (!decide (encS (pv s i k) = s.extract i (i + 2))) = false := by simp [hq]
        rw [hrf, if_pos ⟨rfl, hq⟩]
        repeat' (first
         | ((with_reducible refine isD_un ?_); refine awpD_un (as_ev (fun _ => ev_slice_str rfl rfl rfl rfl rfl hbb hx) rfl rfl) (by (try simp only [List.nil_append, List.cons_append]); (try rfl)) ?_)
         | ((with_reducible refine isD_gd ?_); refine awpD_gd rfl rfl (by first | with_reducible rfl | with_reducible assumption) (as_ev (fun _ => ev_slice_str rfl rfl rfl rfl rfl hbb hx) rfl rfl) (by (try simp only [List.nil_append, List.cons_append]); (try rfl)) ?_)
         | refine st [] ?_
         | fail)
        exact retP rfl rfl
      · have e3 : (!decide (encS (pv s i k) = s.extract i (i + 2))) = true := by simp [hq]
        rw [hrf, if_neg (fun h => hq h.2)]
        repeat' (first
         | ((with_reducible refine isD_un ?_); refine awpD_un (as_ev (fun _ => ev_slice_str rfl rfl rfl rfl rfl hbb hx) rfl rfl) (by (try simp only [List.nil_append, List.cons_append]); (try rfl)) ?_)
         | ((with_reducible refine isD_gd ?_); refine awpD_gd rfl rfl (by first | with_reducible rfl | with_reducible assumption) (as_ev (fun _ => ev_slice_str rfl rfl rfl rfl rfl hbb hx) rfl rfl) (by (try simp only [List.nil_append, List.cons_append]); (try rfl)) ?_)
         | refine st [] ?_
         | fail)
        exact retP rfl rfl
  · have e2 : decide ((k : Int) + 1 < 2) = true := decide_eq_true (by omega)
    have hmul : -9223372036854775808 ≤ ((pv s i k : Nat) : Int) * 64 ∧ ((pv s i k : Nat) : Int) * 64 ≤ 9223372036854775807 := by omega
    have gk := sget (s := s) (k := i + (k + 1)) (n := (i : Int) + ((k : Int) + 1)) (by omega) (by omega)
    have wk : IntKind.i64.wrap (((s.get! (i + (k + 1))).toNat : Nat) : Int) = ((byt s (i + (k + 1)) : Nat) : Int) := wrapB _ (byt_lt s _)
    have z64 : (0 : Int) < 64 := by omega
    have mk := tm64 (byt s (i + (k + 1))) 64
    have hbk := byt_lt s (i + (k + 1))
    have hadd : -9223372036854775808 ≤ ((pv s i k : Nat) : Int) * 64 + ((byt s (i + (k + 1)) % 64 : Nat) : Int) ∧ ((pv s i k : Nat) : Int) * 64 + ((byt s (i + (k + 1)) % 64 : Nat) : Int) ≤ 9223372036854775807 := by omega
    have hpn : ((pv s i k : Nat) : Int) * 64 + ((byt s (i + (k + 1)) % 64 : Nat) : Int) = ((pv s i (k + 1) : Nat) : Int) := by
      simp only [pv]; omega
    repeat' (first
     | ((with_reducible refine is_un ?_); (first | refine awpL_ev (ev_conv_int rfl rfl rfl rfl wk) rfl ?_ | refine awpL_ev (ev_mul rfl rfl hmul) rfl ?_ | refine awpL_ev (ev_tmodE rfl rfl z64 mk) rfl ?_ | refine awpL_ev (ev_addE rfl rfl hadd hpn) rfl ?_))
     | refine stn [] ?_
     | fail)
    exact ⟨k + 1, ⟨(.cons rfl rfl (.cons rfl rfl (.cons rfl rfl (.cons rfl rfl (.cons rfl rfl .nil))))), rfl, rfl, rfl⟩, by omega, by omega⟩
set_option maxHeartbeats 2000000 in
theorem rfst1_spec (s : ByteArray) (i : Nat) (hi : i < s.size) (hs : s.size ≤ 1000000) (hlo : 0 ≤ byt s i) (hhi : byt s i < 192) : PCalls Tryz.prog g 219 [vs s, vi i] (firstV (rfirst s i)) := by
  refine pcalls' Tryz.func219 Tryz.ntmps219 rfl rfl rfl ?_
  have hw : wid (byt s i) = 1 := by
    unfold wid
    repeat' split
    all_goals omega
  have hb : pv s i 0 = byt s i - 0 := by
    simp only [pv]
    unfold base
    repeat' split
    all_goals omega
  have g0 := sget (n := (i : Int)) hi rfl
  have w0 : IntKind.i64.wrap (((s.get! i).toNat : Nat) : Int) = ((byt s i : Nat) : Int) := wrapB _ (byt_lt s i)
  have c1 : decide ((240 : Int) ≤ ((byt s i : Nat) : Int)) = false := by first | exact decide_eq_true (by omega) | exact decide_eq_false (by omega)
  have c2 : decide ((224 : Int) ≤ ((byt s i : Nat) : Int)) = false := by first | exact decide_eq_true (by omega) | exact decide_eq_false (by omega)
  have c3 : decide ((192 : Int) ≤ ((byt s i : Nat) : Int)) = false := by first | exact decide_eq_true (by omega) | exact decide_eq_false (by omega)
  have hbd : -9223372036854775808 ≤ ((byt s i : Nat) : Int) - 0 ∧ ((byt s i : Nat) : Int) - 0 ≤ 9223372036854775807 := by omega
  have hsb : ((byt s i : Nat) : Int) - 0 = ((pv s i 0 : Nat) : Int) := by rw [hb]; omega
  have hin : -9223372036854775808 ≤ (i : Int) + 1 ∧ (i : Int) + 1 ≤ 9223372036854775807 := by omega
  by_cases hl : s.size < i + 1
  · have e1 : decide ((s.size : Int) < (i : Int) + 1) = true := decide_eq_true (by omega)
    have hr : rfirst s i = none := by unfold rfirst; rw [hw, if_pos hl]
    rw [hr]
    repeat' (first
     | ((with_reducible refine is_un ?_); (first | refine awpL_ev (ev_conv_int rfl rfl rfl rfl w0) rfl ?_ | refine awpL_ev (ev_subE rfl rfl hbd hsb) rfl ?_))
     | refine stn [] ?_
     | fail)
    exact retP rfl rfl
  have e1 : decide ((s.size : Int) < (i : Int) + 1) = false := decide_eq_false (by omega)
  have hp0 : 0 = 0 → ((byt s i : Nat) : Int) = ((pv s i 0 : Nat) : Int) := by intro h; omega
  repeat' (first
   | ((with_reducible refine is_un ?_); (first | refine awpL_ev (ev_conv_int rfl rfl rfl rfl w0) rfl ?_ | refine awpL_ev (ev_subE rfl rfl hbd hsb) rfl ?_))
   | refine stn [] ?_
   | ((with_reducible refine is_awp ?_); refine awp_cond rfl (fun h => ?_) (fun h => ?_))
   | fail)
  refine awp_for (α := Nat) 0 (fun k => [(0, vs s), (1, vi i), (7, vi 1), (6, vi (pv s i k)), (8, vi ((k : Int) + 1))]) (fun _ => []) (fun k => k + 1 ≤ 1) (fun k => 1 - k) 0
    ⟨.cons rfl rfl (.cons rfl rfl (.cons rfl rfl (.cons rfl (by first | rfl | (rw [← hp0 rfl]; rfl)) (.cons rfl rfl .nil)))), rfl, rfl, rfl⟩ (by omega) ?_
  intro k hk
  have hpk := pv_lt s i k (by omega)
  by_cases hkn : k + 1 = 1
  · have e2 : decide ((k : Int) + 1 < 1) = false := decide_eq_false (by omega)
    have hk1 : wid (byt s i) - 1 = k := by omega
    have hS := Scalar_spec (g := g) (pv s i k)
    have hrf : rfirst s i = if scal (pv s i k) = true ∧ encS (pv s i k) = s.extract i (i + 1) then some (pv s i k, 1) else none := by
      unfold rfirst; rw [if_neg (by omega), hk1, hw]
    have n1 : (!true) = false := rfl
    have n2 : (!false) = true := rfl
    cases hsc : scal (pv s i k) with
    | false =>
      rw [hsc] at hS hrf
      rw [hrf, if_neg (by simp)]
      refine run [] ?_
      exact retP rfl rfl
    | true =>
      rw [hsc] at hS hrf
      have hle : pv s i k ≤ 1114111 := by simp [scal] at hsc; omega
      have hE := encoded_spec (g := g) (pv s i k) hle
      have hx : s.extract (i : Int).toNat ((i : Int) + 1).toNat = s.extract i (i + 1) := by
        rw [show (i : Int).toNat = i by omega, show ((i : Int) + 1).toNat = i + 1 by omega]
      have hbb : 0 ≤ (i : Int) ∧ (i : Int) ≤ (i : Int) + 1 ∧ (i : Int) + 1 ≤ (s.size : Nat) := by omega
      by_cases hq : encS (pv s i k) = s.extract i (i + 1)
      · have e3 : (!decide (encS (pv s i k) = s.extract i (i + 1))) = false := by simp [hq]
        rw [hrf, if_pos ⟨rfl, hq⟩]
        repeat' (first
         | ((with_reducible refine isD_un ?_); refine awpD_un (as_ev (fun _ => ev_slice_str rfl rfl rfl rfl rfl hbb hx) rfl rfl) (by (try simp only [List.nil_append, List.cons_append]); (try rfl)) ?_)
         | ((with_reducible refine isD_gd ?_); refine awpD_gd rfl rfl (by first | with_reducible rfl | with_reducible assumption) (as_ev (fun _ => ev_slice_str rfl rfl rfl rfl rfl hbb hx) rfl rfl) (by (try simp only [List.nil_append, List.cons_append]); (try rfl)) ?_)
         | refine st [] ?_
         | fail)
        exact retP rfl rfl
      · have e3 : (!decide (encS (pv s i k) = s.extract i (i + 1))) = true := by simp [hq]
        rw [hrf, if_neg (fun h => hq h.2)]
        repeat' (first
         | ((with_reducible refine isD_un ?_); refine awpD_un (as_ev (fun _ => ev_slice_str rfl rfl rfl rfl rfl hbb hx) rfl rfl) (by (try simp only [List.nil_append, List.cons_append]); (try rfl)) ?_)
         | ((with_reducible refine isD_gd ?_); refine awpD_gd rfl rfl (by first | with_reducible rfl | with_reducible assumption) (as_ev (fun _ => ev_slice_str rfl rfl rfl rfl rfl hbb hx) rfl rfl) (by (try simp only [List.nil_append, List.cons_append]); (try rfl)) ?_)
         | refine st [] ?_
         | fail)
        exact retP rfl rfl
  · have e2 : decide ((k : Int) + 1 < 1) = true := decide_eq_true (by omega)
    have hmul : -9223372036854775808 ≤ ((pv s i k : Nat) : Int) * 64 ∧ ((pv s i k : Nat) : Int) * 64 ≤ 9223372036854775807 := by omega
    have gk := sget (s := s) (k := i + (k + 1)) (n := (i : Int) + ((k : Int) + 1)) (by omega) (by omega)
    have wk : IntKind.i64.wrap (((s.get! (i + (k + 1))).toNat : Nat) : Int) = ((byt s (i + (k + 1)) : Nat) : Int) := wrapB _ (byt_lt s _)
    have z64 : (0 : Int) < 64 := by omega
    have mk := tm64 (byt s (i + (k + 1))) 64
    have hbk := byt_lt s (i + (k + 1))
    have hadd : -9223372036854775808 ≤ ((pv s i k : Nat) : Int) * 64 + ((byt s (i + (k + 1)) % 64 : Nat) : Int) ∧ ((pv s i k : Nat) : Int) * 64 + ((byt s (i + (k + 1)) % 64 : Nat) : Int) ≤ 9223372036854775807 := by omega
    have hpn : ((pv s i k : Nat) : Int) * 64 + ((byt s (i + (k + 1)) % 64 : Nat) : Int) = ((pv s i (k + 1) : Nat) : Int) := by
      simp only [pv]; omega
    repeat' (first
     | ((with_reducible refine is_un ?_); (first | refine awpL_ev (ev_conv_int rfl rfl rfl rfl wk) rfl ?_ | refine awpL_ev (ev_mul rfl rfl hmul) rfl ?_ | refine awpL_ev (ev_tmodE rfl rfl z64 mk) rfl ?_ | refine awpL_ev (ev_addE rfl rfl hadd hpn) rfl ?_))
     | refine stn [] ?_
     | fail)
    exact ⟨k + 1, ⟨(.cons rfl rfl (.cons rfl rfl (.cons rfl rfl (.cons rfl rfl (.cons rfl rfl .nil))))), rfl, rfl, rfl⟩, by omega, by omega⟩
theorem rfst_spec (s : ByteArray) (i : Nat) (hi : i < s.size) (hs : s.size ≤ 1000000) : PCalls Tryz.prog g 219 [vs s, vi i] (firstV (rfirst s i)) := by
  by_cases h4 : 240 ≤ byt s i
  · exact rfst4_spec s i hi hs h4 (byt_lt s i)
  by_cases h3 : 224 ≤ byt s i
  · exact rfst3_spec s i hi hs h3 (by omega)
  by_cases h2 : 192 ≤ byt s i
  · exact rfst2_spec s i hi hs h2 (by omega)
  · exact rfst1_spec s i hi hs (by omega) (by omega)
end Go.Proofs.YtnacjdaoiepbhaaGreatDoor
end
section
namespace Go.Proofs.YtnacjdaoiepbhaaGreatDoor
open Go.Ac
attribute [local irreducible] awp awpL Ev Ev2 EvS thenQ blockQ retQ PCalls OCalls YieldOk IterC
variable {g : List (Nat × List AV)}
theorem runeL_get {s : ByteArray} {k p : Nat} {r : List (Nat × Nat)} (h : (runes s).drop k = (p, (Utf8.decode s p).1) :: r) : (runeL s)[k]? = some ((Utf8.decode s p).1 : Int) := by
  rw [runeL, List.getElem?_map, (drop_cons h).1]; rfl
theorem decode_in (s : ByteArray) (p : Nat) (h : p < s.size) (hg : Utf8.decode s p ≠ (65533, 1)) : p + (Utf8.decode s p).2 ≤ s.size := (decode_low h hg).1
set_option maxHeartbeats 2000000 in
theorem rPoints_spec (s : ByteArray) (hs : s.size ≤ 100000) : PCalls Tryz.prog g 191 [vs s] (pointsV s) := by
  have hlen := runeL_len s
  refine pcalls' Tryz.func191 Tryz.ntmps191 rfl rfl rfl ?_
  repeat' (first
   | refine stn [] ?_
   | ((with_reducible refine is_awp ?_); refine awp_cond rfl (fun h => ?_) (fun h => ?_))
   | fail)
  refine awp_adopt (t := 4) (E := 3) (sz := 1) rfl rfl rfl ?_
  refine awp_for2 (α := Nat) (β := Nat) 1 (fun k p => [(0, vs s), (4, .os 0 0), (5, vi p)]) (fun k p => [.own 0 3 1 (((runeL s).take k).map intC)]) (fun k p => (runes s).drop k = runesK s (s.size - p) p ∧ Go.Lib.validD s.data.toList = validP s p ∧ p ≤ s.size) (fun k p => s.size - p) 0 0
    ⟨(.cons rfl rfl (.cons rfl rfl (.cons rfl rfl .nil))), rfl, rfl, rfl⟩ ⟨rfl, by simp [validP], Nat.zero_le _⟩ ?_
  rintro k p ⟨hd, hv, hps⟩
  by_cases hp : p < s.size
  · have c1 : decide ((p : Int) < s.size) = true := decide_eq_true (by omega)
    have h1 := rfst_spec (g := g) s p hp (by omega)
    rw [rfirst_eq s p hp] at h1
    rw [runesK_step hp] at hd
    rw [validP_step hp] at hv
    by_cases hg : Utf8.decode s p = (65533, 1)
    · rw [if_pos hg] at h1 hv
      rw [firstV] at h1
      have z0 : decide ((0 : Int) = 0) = true := rfl
      refine runn [] ?_
      refine retP rfl ?_
      simp [ex, exL, pointsV, hv]
    · rw [if_neg hg] at h1 hv
      have hw := decode_pos s p
      have hr := runeL_get hd
      have hin := decode_in s p hp hg
      have hd' := (drop_cons hd).2
      obtain ⟨c, w, hdec⟩ : ∃ c w, Utf8.decode s p = (c, w) := ⟨_, _, rfl⟩
      rw [hdec] at hw hr hd' h1 hv hin
      simp only at hw hr hd' hv hin
      rw [firstV] at h1
      have c2 : decide ((w : Int) = 0) = false := decide_eq_false (by omega)
      have hj := take_map intC (runeL s) k _ hr
      have hkl : k < (runeL s).length := (List.getElem?_eq_some_iff.1 hr).1
      have ha : -9223372036854775808 ≤ (p : Int) + (w : Int) ∧ (p : Int) + (w : Int) ≤ 9223372036854775807 := by omega
      have he : (p : Int) + (w : Int) = ((p + w : Nat) : Int) := by omega
      repeat' (first
       | ((with_reducible refine is_un ?_); (first | refine awpL_ev (ev_addE rfl rfl ha he) rfl ?_ | refine awpL_ev2 (ev_app (es' := ((runeL s).take (k + 1)).map intC) rfl rfl rfl rfl rfl rfl rfl rfl rfl rfl rfl rfl rfl (by simp only [List.length_map, List.length_cons, List.length_nil, List.length_append, List.length_take]; omega) hj rfl) rfl ?_))
       | refine stn [] ?_
       | fail)
      exact ⟨k + 1, p + w, ⟨(.cons rfl rfl (.cons rfl rfl (.cons rfl rfl .nil))), rfl, rfl, rfl⟩, ⟨hd', hv, hin⟩, by omega⟩
  · have c1 : decide ((p : Int) < s.size) = false := decide_eq_false (by omega)
    rw [validP_end (by omega)] at hv
    rw [runesK_end s _ p (by omega)] at hd
    have hk : (runes s).length ≤ k := by
      have := congrArg List.length hd
      simp at this; omega
    have e : (runeL s).take k = runeL s := List.take_of_length_le (by rw [runeL, List.length_map]; exact hk)
    refine runn [] ?_
    refine retP rfl ?_
    simp [ex, exL, pointsV, hv, e]
set_option maxHeartbeats 1000000 in
theorem rText_spec (s : ByteArray) : PCalls Tryz.prog g 141 [vs s] (vi (textE s)) := by
  refine pcalls' Tryz.func141 Tryz.ntmps141 rfl rfl rfl ?_
  by_cases h200 : 200 < s.size
  · have c0 : decide ((200 : Int) < s.size) = true := decide_eq_true (by omega)
    refine runn [] ?_
    refine retP rfl ?_
    rw [textE, if_pos h200]; rfl
  have c0 : decide ((200 : Int) < s.size) = false := decide_eq_false (by omega)
  have h1 := rPoints_spec (g := g) s (by omega)
  have n1 : (!true) = false := rfl
  have n2 : (!false) = true := rfl
  cases hv : Go.Lib.validD s.data.toList with
  | false =>
    rw [pointsV, hv, if_neg (by simp)] at h1
    refine runn [] ?_
    refine retP rfl ?_
    rw [textE, if_neg h200, if_pos hv]; rfl
  | true =>
    rw [pointsV, hv, if_pos rfl] at h1
    have hE : textE s = if lowB s then 3 else 0 := by rw [textE, if_neg h200, if_neg (by simp [hv])]
    have hlen := runeL_len s
    rw [hE, ← low_eq hv]
    repeat' (first
     | refine stn [] ?_
     | ((with_reducible refine is_awp ?_); refine awp_cond rfl (fun h => ?_) (fun h => ?_))
     | fail)
    generalize runeL s = l at *
    refine awp_for (α := Nat) 0 (fun k => [(3, encIs l), (5, vi k)]) (fun _ => []) (fun k => k ≤ l.length ∧ (l.any fun x => decide (x < 32) || decide (x = 127)) = (l.drop k).any fun x => decide (x < 32) || decide (x = 127)) (fun k => l.length - k) 0
      ⟨(.cons rfl rfl (.cons rfl rfl .nil)), rfl, rfl, rfl⟩ ⟨Nat.zero_le _, rfl⟩ ?_
    rintro k ⟨hk, hf⟩
    cases ht : l[k]? with
    | none =>
      have hge : l.length ≤ k := by simpa using ht
      have c1 : decide ((k : Int) < l.length) = false := decide_eq_false (by omega)
      rw [List.drop_of_length_le hge] at hf
      refine runn [] ?_
      refine retP rfl ?_
      rw [hf]; rfl
    | some c =>
      have hlt : k < l.length := (List.getElem?_eq_some_iff.1 ht).1
      have c1 : decide ((k : Int) < l.length) = true := decide_eq_true (by omega)
      have h3 := int_get ht
      rw [any_drop _ _ k c ht] at hf
      by_cases l1 : c < 32
      · have d1 : decide (c < 32) = true := decide_eq_true (by omega)
        refine runn [] ?_
        refine retP rfl ?_
        rw [hf]; simp [l1, ex]
      have d1 : decide (c < 32) = false := decide_eq_false (by omega)
      by_cases l2 : c = 127
      · have d2 : decide (c = 127) = true := decide_eq_true (by omega)
        refine runn [] ?_
        refine retP rfl ?_
        rw [hf]; simp [l2, ex]
      have d2 : decide (c = 127) = false := decide_eq_false (by omega)
      refine runn [] ?_
      exact ⟨k + 1, ⟨(.cons rfl rfl (.cons rfl rfl .nil)), rfl, rfl, rfl⟩, ⟨by omega, by rw [hf]; simp [l1, l2]⟩, by omega⟩
theorem Op_spec (hu : Utf g) (o : Op) (hid : I64 o.note.id) : PCalls Tryz.prog g 128 [.agg (opC o)] (vi (opE o)) := OpCheck_spec (Text_spec hu) o hid
theorem rOp_spec (o : Op) (hid : I64 o.note.id) : PCalls Tryz.prog g 105 [.agg (opC o)] (vi (opE o)) := rOpCheck_spec rText_spec o hid
end Go.Proofs.YtnacjdaoiepbhaaGreatDoor
end
