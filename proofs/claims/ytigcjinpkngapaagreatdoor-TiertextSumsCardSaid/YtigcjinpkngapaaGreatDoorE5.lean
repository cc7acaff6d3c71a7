/- A logic of trees over the model's steps, and the contracts of the functions that the laws reach: part 5 of 18. -/
import Derived.Test.YtigcjinpkngapaaGreatDoorE4
import Derived.Lib.AtoiAllCases
import Derived.Lib.AppendStr
set_option linter.unusedVariables false
set_option linter.unusedSimpArgs false
set_option linter.unusedSectionVars false
section
namespace Go.Proofs.YtigcjinpkngapaaGreatDoor
open Go.Ac
attribute [local irreducible] awp awpL Ev Ev2 EvS thenQ blockQ retQ PCalls OCalls
def laysItoa_ren : Go.Shelf.Ren := ⟨fun | 171 => 53 | 243 => 84 | 246 => 114 | 283 => 148 | 284 => 149 | 285 => 150 | 286 => 151 | 129 => 146 | 317 => 173 | 318 => 174 | 319 => 175 | 320 => 176 | 337 => 192 | 338 => 193 | n => n, fun | 3 => 3 | 9 => 9 | 2 => 2 | 4 => 4 | 171 => 184 | 0 => 0 | 53 => 153 | 37 => 75 | 5 => 5 | 173 => 186 | 212 => 207 | 51 => 182 | 20 => 20 | 213 => 208 | 46 => 118 | 232 => 229 | 233 => 230 | n => n, fun | 17 => 4 | 18 => 8 | 19 => 9 | n => n⟩
theorem laysItoa : Go.Proofs.LaysM.n171 Tryz.prog laysItoa_ren := {
  mixed := by kernel_rfl
  f129 := Tryz.func146.trans (congrArg some (by kernel_rfl))
  f171 := Tryz.func53.trans (congrArg some (by kernel_rfl))
  f243 := Tryz.func84.trans (congrArg some (by kernel_rfl))
  f246 := Tryz.func114.trans (congrArg some (by kernel_rfl))
  f283 := Tryz.func148.trans (congrArg some (by kernel_rfl))
  f284 := Tryz.func149.trans (congrArg some (by kernel_rfl))
  f285 := Tryz.func150.trans (congrArg some (by kernel_rfl))
  f286 := Tryz.func151.trans (congrArg some (by kernel_rfl))
  f317 := Tryz.func173.trans (congrArg some (by kernel_rfl))
  f318 := Tryz.func174.trans (congrArg some (by kernel_rfl))
  f319 := Tryz.func175.trans (congrArg some (by kernel_rfl))
  f320 := Tryz.func176.trans (congrArg some (by kernel_rfl))
  f337 := Tryz.func192.trans (congrArg some (by kernel_rfl))
  f338 := Tryz.func193.trans (congrArg some (by kernel_rfl))
  t0 := Tryz.underlying0
  a0 := Tryz.isAgg0
  z0 := Tryz.sizeOf0
  v0 := Tryz.zeroValue0
  t2 := Tryz.underlying2
  a2 := Tryz.isAgg2
  z2 := Tryz.sizeOf2
  v2 := Tryz.zeroValue2
  t3 := Tryz.underlying3
  a3 := Tryz.isAgg3
  z3 := Tryz.sizeOf3
  v3 := Tryz.zeroValue3
  t4 := Tryz.underlying4
  a4 := Tryz.isAgg4
  z4 := Tryz.sizeOf4
  v4 := Tryz.zeroValue4
  t5 := Tryz.underlying5
  a5 := Tryz.isAgg5
  z5 := Tryz.sizeOf5
  v5 := Tryz.zeroValue5
  t9 := Tryz.underlying9
  a9 := Tryz.isAgg9
  z9 := Tryz.sizeOf9
  v9 := Tryz.zeroValue9
  t20 := Tryz.underlying20
  a20 := Tryz.isAgg20
  z20 := Tryz.sizeOf20
  v20 := Tryz.zeroValue20
  t37 := Tryz.underlying75
  a37 := Tryz.isAgg75
  z37 := Tryz.sizeOf75
  v37 := Tryz.zeroValue75
  t46 := Tryz.underlying118
  a46 := Tryz.isAgg118
  z46 := Tryz.sizeOf118
  v46 := Tryz.zeroValue118
  t51 := Tryz.underlying182
  a51 := Tryz.isAgg182
  z51 := Tryz.sizeOf182
  v51 := Tryz.zeroValue182
  t53 := Tryz.underlying153
  a53 := Tryz.isAgg153
  z53 := Tryz.sizeOf153
  v53 := Tryz.zeroValue153
  t171 := Tryz.underlying184
  a171 := Tryz.isAgg184
  z171 := Tryz.sizeOf184
  v171 := Tryz.zeroValue184
  t173 := Tryz.underlying186
  a173 := Tryz.isAgg186
  z173 := Tryz.sizeOf186
  v173 := Tryz.zeroValue186
  t212 := Tryz.underlying207
  a212 := Tryz.isAgg207
  z212 := Tryz.sizeOf207
  v212 := Tryz.zeroValue207
  t213 := Tryz.underlying208
  a213 := Tryz.isAgg208
  z213 := Tryz.sizeOf208
  t232 := Tryz.underlying229
  a232 := Tryz.isAgg229
  z232 := Tryz.sizeOf229
  v232 := Tryz.zeroValue229
  t233 := Tryz.underlying230
  a233 := Tryz.isAgg230
  z233 := Tryz.sizeOf230
  v233 := Tryz.zeroValue230
  g17 := by kernel_rfl
  g18 := by kernel_rfl
  g19 := by kernel_rfl
  i0 := by kernel_rfl
  i2 := by kernel_rfl
  i3 := by kernel_rfl
  i4 := by kernel_rfl
  i5 := by kernel_rfl
  i9 := by kernel_rfl
  i20 := by kernel_rfl
  i37 := by kernel_rfl
  i46 := by kernel_rfl
  i51 := by kernel_rfl
  i53 := by kernel_rfl
  i171 := by kernel_rfl
  i173 := by kernel_rfl
  i212 := by kernel_rfl
  i232 := by kernel_rfl
  i233 := by kernel_rfl
  m17 := by kernel_rfl
  m18 := by kernel_rfl
  m19 := by kernel_rfl }
def laysAtoi_ren : Go.Shelf.Ren := ⟨fun | 172 => 132 | 244 => 164 | 245 => 165 | 247 => 186 | 279 => 187 | 280 => 188 | 281 => 189 | 282 => 190 | 287 => 198 | 316 => 199 | 171 => 53 | 205 => 200 | 321 => 201 | 322 => 202 | 243 => 84 | 246 => 114 | 283 => 148 | 284 => 149 | 285 => 150 | 286 => 151 | 129 => 146 | 317 => 173 | 318 => 174 | 319 => 175 | 320 => 176 | 337 => 192 | 338 => 193 | n => n, fun | 9 => 9 | 3 => 3 | 75 => 60 | 76 => 84 | 4 => 4 | 5 => 5 | 167 => 214 | 37 => 75 | 0 => 0 | 85 => 215 | 2 => 2 | 168 => 217 | 53 => 153 | 175 => 224 | 46 => 118 | 210 => 227 | 127 => 120 | 145 => 234 | 143 => 232 | 21 => 21 | 171 => 184 | 173 => 186 | 212 => 207 | 51 => 182 | 20 => 20 | 213 => 208 | 232 => 229 | 233 => 230 | 80 => 87 | n => n, fun | 15 => 6 | 16 => 7 | 17 => 4 | 18 => 8 | 19 => 9 | n => n⟩
theorem laysAtoi : Go.Proofs.LaysC.n172 Tryz.prog laysAtoi_ren := {
  mixed := by kernel_rfl
  f129 := Tryz.func146.trans (congrArg some (by kernel_rfl))
  f171 := Tryz.func53.trans (congrArg some (by kernel_rfl))
  f172 := Tryz.func132.trans (congrArg some (by kernel_rfl))
  f205 := Tryz.func200.trans (congrArg some (by kernel_rfl))
  f243 := Tryz.func84.trans (congrArg some (by kernel_rfl))
  f244 := Tryz.func164.trans (congrArg some (by kernel_rfl))
  f245 := Tryz.func165.trans (congrArg some (by kernel_rfl))
  f246 := Tryz.func114.trans (congrArg some (by kernel_rfl))
  f247 := Tryz.func186.trans (congrArg some (by kernel_rfl))
  f279 := Tryz.func187.trans (congrArg some (by kernel_rfl))
  f280 := Tryz.func188.trans (congrArg some (by kernel_rfl))
  f281 := Tryz.func189.trans (congrArg some (by kernel_rfl))
  f282 := Tryz.func190.trans (congrArg some (by kernel_rfl))
  f283 := Tryz.func148.trans (congrArg some (by kernel_rfl))
  f284 := Tryz.func149.trans (congrArg some (by kernel_rfl))
  f285 := Tryz.func150.trans (congrArg some (by kernel_rfl))
  f286 := Tryz.func151.trans (congrArg some (by kernel_rfl))
  f287 := Tryz.func198.trans (congrArg some (by kernel_rfl))
  f316 := Tryz.func199.trans (congrArg some (by kernel_rfl))
  f317 := Tryz.func173.trans (congrArg some (by kernel_rfl))
  f318 := Tryz.func174.trans (congrArg some (by kernel_rfl))
  f319 := Tryz.func175.trans (congrArg some (by kernel_rfl))
  f320 := Tryz.func176.trans (congrArg some (by kernel_rfl))
  f321 := Tryz.func201.trans (congrArg some (by kernel_rfl))
  f322 := Tryz.func202.trans (congrArg some (by kernel_rfl))
  f337 := Tryz.func192.trans (congrArg some (by kernel_rfl))
  f338 := Tryz.func193.trans (congrArg some (by kernel_rfl))
  t0 := Tryz.underlying0
  a0 := Tryz.isAgg0
  z0 := Tryz.sizeOf0
  v0 := Tryz.zeroValue0
  t2 := Tryz.underlying2
  a2 := Tryz.isAgg2
  z2 := Tryz.sizeOf2
  v2 := Tryz.zeroValue2
  t3 := Tryz.underlying3
  a3 := Tryz.isAgg3
  z3 := Tryz.sizeOf3
  v3 := Tryz.zeroValue3
  t4 := Tryz.underlying4
  a4 := Tryz.isAgg4
  z4 := Tryz.sizeOf4
  v4 := Tryz.zeroValue4
  t5 := Tryz.underlying5
  a5 := Tryz.isAgg5
  z5 := Tryz.sizeOf5
  v5 := Tryz.zeroValue5
  t9 := Tryz.underlying9
  a9 := Tryz.isAgg9
  z9 := Tryz.sizeOf9
  v9 := Tryz.zeroValue9
  t20 := Tryz.underlying20
  a20 := Tryz.isAgg20
  z20 := Tryz.sizeOf20
  v20 := Tryz.zeroValue20
  t21 := Tryz.underlying21
  a21 := Tryz.isAgg21
  z21 := Tryz.sizeOf21
  v21 := Tryz.zeroValue21
  t37 := Tryz.underlying75
  a37 := Tryz.isAgg75
  z37 := Tryz.sizeOf75
  v37 := Tryz.zeroValue75
  t46 := Tryz.underlying118
  a46 := Tryz.isAgg118
  z46 := Tryz.sizeOf118
  v46 := Tryz.zeroValue118
  t51 := Tryz.underlying182
  a51 := Tryz.isAgg182
  z51 := Tryz.sizeOf182
  v51 := Tryz.zeroValue182
  t53 := Tryz.underlying153
  a53 := Tryz.isAgg153
  z53 := Tryz.sizeOf153
  v53 := Tryz.zeroValue153
  t75 := Tryz.underlying60
  a75 := Tryz.isAgg60
  z75 := Tryz.sizeOf60
  v75 := Tryz.zeroValue60
  t76 := Tryz.underlying84
  a76 := Tryz.isAgg84
  z76 := Tryz.sizeOf84
  v76 := Tryz.zeroValue84
  t85 := Tryz.underlying215
  a85 := Tryz.isAgg215
  z85 := Tryz.sizeOf215
  v85 := Tryz.zeroValue215
  t127 := Tryz.underlying120
  a127 := Tryz.isAgg120
  z127 := Tryz.sizeOf120
  v127 := Tryz.zeroValue120
  t143 := Tryz.underlying232
  a143 := Tryz.isAgg232
  z143 := Tryz.sizeOf232
  v143 := Tryz.zeroValue232
  t145 := Tryz.underlying234
  a145 := Tryz.isAgg234
  z145 := Tryz.sizeOf234
  v145 := Tryz.zeroValue234
  t167 := Tryz.underlying214
  a167 := Tryz.isAgg214
  z167 := Tryz.sizeOf214
  v167 := Tryz.zeroValue214
  t168 := Tryz.underlying217
  a168 := Tryz.isAgg217
  z168 := Tryz.sizeOf217
  v168 := Tryz.zeroValue217
  t171 := Tryz.underlying184
  a171 := Tryz.isAgg184
  z171 := Tryz.sizeOf184
  v171 := Tryz.zeroValue184
  t173 := Tryz.underlying186
  a173 := Tryz.isAgg186
  z173 := Tryz.sizeOf186
  v173 := Tryz.zeroValue186
  t175 := Tryz.underlying224
  a175 := Tryz.isAgg224
  z175 := Tryz.sizeOf224
  v175 := Tryz.zeroValue224
  t210 := Tryz.underlying227
  a210 := Tryz.isAgg227
  z210 := Tryz.sizeOf227
  v210 := Tryz.zeroValue227
  t212 := Tryz.underlying207
  a212 := Tryz.isAgg207
  z212 := Tryz.sizeOf207
  v212 := Tryz.zeroValue207
  t213 := Tryz.underlying208
  a213 := Tryz.isAgg208
  z213 := Tryz.sizeOf208
  t232 := Tryz.underlying229
  a232 := Tryz.isAgg229
  z232 := Tryz.sizeOf229
  v232 := Tryz.zeroValue229
  t233 := Tryz.underlying230
  a233 := Tryz.isAgg230
  z233 := Tryz.sizeOf230
  v233 := Tryz.zeroValue230
  g15 := by kernel_rfl
  g16 := by kernel_rfl
  g17 := by kernel_rfl
  g18 := by kernel_rfl
  g19 := by kernel_rfl
  t80 := Tryz.underlying87
  a80 := Tryz.isAgg87
  z80 := Tryz.sizeOf87
  v80 := Tryz.zeroValue87
  i0 := by kernel_rfl
  i2 := by kernel_rfl
  i3 := by kernel_rfl
  i4 := by kernel_rfl
  i5 := by kernel_rfl
  i9 := by kernel_rfl
  i20 := by kernel_rfl
  i21 := by kernel_rfl
  i37 := by kernel_rfl
  i46 := by kernel_rfl
  i51 := by kernel_rfl
  i53 := by kernel_rfl
  i75 := by kernel_rfl
  i76 := by kernel_rfl
  i80 := by kernel_rfl
  i85 := by kernel_rfl
  i127 := by kernel_rfl
  i143 := by kernel_rfl
  i145 := by kernel_rfl
  i167 := by kernel_rfl
  i168 := by kernel_rfl
  i171 := by kernel_rfl
  i173 := by kernel_rfl
  i175 := by kernel_rfl
  i210 := by kernel_rfl
  i212 := by kernel_rfl
  i232 := by kernel_rfl
  i233 := by kernel_rfl
  m15 := by kernel_rfl
  m16 := by kernel_rfl
  m17 := by kernel_rfl
  m18 := by kernel_rfl
  m19 := by kernel_rfl
  c0 := by kernel_rfl
  c2 := by kernel_rfl
  c3 := by kernel_rfl
  c4 := by kernel_rfl
  c5 := by kernel_rfl
  c9 := by kernel_rfl
  c20 := by kernel_rfl
  c21 := by kernel_rfl
  c37 := by kernel_rfl
  c46 := by kernel_rfl
  c51 := by kernel_rfl
  c53 := by kernel_rfl
  c75 := by kernel_rfl
  c76 := by kernel_rfl
  c80 := by kernel_rfl
  c85 := by kernel_rfl
  c127 := by kernel_rfl
  c143 := by kernel_rfl
  c145 := by kernel_rfl
  c167 := by kernel_rfl
  c168 := by kernel_rfl
  c171 := by kernel_rfl
  c173 := by kernel_rfl
  c175 := by kernel_rfl
  c210 := by kernel_rfl
  c212 := by kernel_rfl
  c213 := by kernel_rfl
  c232 := by kernel_rfl
  c233 := by kernel_rfl }
abbrev limCs : List AV := [.v (.int .i64 (-1099511627776)), .v (.int .i64 1099511627776)]
abbrev errCs : List AV := [.ifc 232 .any]
structure NumG (g : List (Nat × List AV)) : Prop where
  lim : (1, limCs) ∈ g
  pow : (4, powCs) ∈ g
  syn : (6, errCs) ∈ g
  rng : (7, errCs) ∈ g
variable {g : List (Nat × List AV)}
theorem Itoa_spec (hg : NumG g) (n : Int) (h : -9223372036854775808 ≤ n ∧ n ≤ 9223372036854775807) : PCalls Tryz.prog g 53 [vi n] (.v (.string (numT n))) :=
  itoa_P laysItoa (callable Tryz.func53 rfl (by kernel_rfl)) (by kernel_rfl) hg.pow n h
theorem Atoi_spec (hg : NumG g) (s : ByteArray) (h : s.size ≤ 281474976710656) : PCalls Tryz.prog g 132 [.v (.string s)] (atoiV 217 s) :=
  atoi_P laysAtoi (callable Tryz.func132 rfl (by kernel_rfl)) hg.syn hg.rng s h
theorem NText_spec (hg : NumG g) (n : Int) (h : -9223372036854775808 ≤ n ∧ n ≤ 9223372036854775807) : PCalls Tryz.prog g 29 [vi n] (.v (.string (numT n))) := by
  have h1 := Itoa_spec hg n h
  refine pcalls' Tryz.func29 Tryz.ntmps29 rfl rfl rfl ?_
  repeat' (first
   | refine stn [] ?_
   | ((with_reducible refine is_gd ?_); refine awpL_split rfl rfl (fun h => ?_) (fun h => ?_))
   | ((with_reducible refine is_awp ?_); refine awp_cond rfl (fun h => ?_) (fun h => ?_))
   | fail)
  exact retP rfl rfl
end Go.Proofs.YtigcjinpkngapaaGreatDoor
end
section
namespace Go.Proofs.YtigcjinpkngapaaGreatDoor
open Go.Ac Go.MapKept
abbrev intV (n : Int) : Value := .int .i64 n
theorem intKey : KeyOk Tryz.prog 3 (IsKey (.int .i64)) := KeyOk.plain Tryz.underlying3
theorem intV_inj (a b : Int) (h : intV a = intV b) : a = b := by simpa [intV] using h
theorem intV_R (n : Int) : ∀ c y, R c (vi n) y → y = intV n := by
  intro c y h; simpa only [R] using h
theorem intV_ok (n : Int) : IsKey (.int .i64) (intV n) := rfl
end Go.Proofs.YtigcjinpkngapaaGreatDoor
end
section
namespace Go.Proofs.YtigcjinpkngapaaGreatDoor
open Go.Lib
def sgnd (n : Int) (m : Nat) : Int := if n < 0 then -(m : Int) else m
theorem sgnd_self (n : Int) : sgnd n n.natAbs = n := by unfold sgnd; split <;> omega
theorem sgnd_zero (n : Int) (m : Nat) : sgnd n m = 0 ↔ m = 0 := by unfold sgnd; split <;> omega
theorem sgnd_bound (n : Int) (m : Nat) (hm : m ≤ n.natAbs) (h : -9223372036854775808 ≤ n ∧ n ≤ 9223372036854775807) : -9223372036854775808 ≤ sgnd n m ∧ sgnd n m ≤ 9223372036854775807 := by unfold sgnd; split <;> omega
theorem sgnd_div (n : Int) (m : Nat) : (sgnd n m).tdiv 10 = sgnd n (m / 10) := by
  unfold sgnd
  split
  · rw [Int.neg_tdiv, Int.tdiv_eq_ediv_of_nonneg (by omega)]; omega
  · rw [Int.tdiv_eq_ediv_of_nonneg (by omega)]; omega
theorem sgnd_mod (n : Int) (m : Nat) : (sgnd n m).tmod 10 = sgnd n (m % 10) := by
  unfold sgnd
  split
  · rw [Int.neg_tmod, Int.tmod_eq_emod_of_nonneg (by omega)]; omega
  · rw [Int.tmod_eq_emod_of_nonneg (by omega)]; omega
theorem sgnd_small (n : Int) (m : Nat) : -9 ≤ sgnd n (m % 10) ∧ sgnd n (m % 10) ≤ 9 := by unfold sgnd; split <;> omega
def lastD (m : Nat) : UInt8 := UInt8.ofNat (48 + m % 10)
theorem lastD_nat (m : Nat) : (lastD m).toNat = 48 + m % 10 := by
  have hm : (48 + m % 10) % 256 = 48 + m % 10 := Nat.mod_eq_of_lt (by omega)
  simp [lastD, UInt8.toNat_ofNat', hm]
def restD (m : Nat) (l : List UInt8) : List UInt8 := (if m = 0 then [] else decDigits m) ++ l
theorem restD_step {m : Nat} (h : m ≠ 0) (l : List UInt8) : restD (m / 10) (lastD m :: l) = restD m l := by
  unfold restD
  rw [if_neg h]
  by_cases hs : m < 10
  · rw [if_pos (by omega), decDigits, dif_pos hs]
    have : m % 10 = m := Nat.mod_eq_of_lt hs
    simp [lastD, this]
  · rw [if_neg (by omega)]
    conv => rhs; rw [decDigits, dif_neg hs]
    simp [lastD]
theorem restD_len (m : Nat) (l : List UInt8) : l.length ≤ (restD m l).length := by unfold restD; simp
theorem nDigits_20 (u : Nat) (h : u < 18446744073709551616) : nDigits u ≤ 20 := by
  rcases Nat.eq_zero_or_pos u with h0 | h0
  · subst h0; rw [nDigits_small (by omega)]; omega
  · have := numDigits_eq u h0 h
    split at this <;> omega
theorem itoa_len (n : Int) (h : -9223372036854775808 ≤ n ∧ n ≤ 9223372036854775807) : 1 ≤ (itoa n).length ∧ (itoa n).length ≤ 21 := by
  unfold itoa
  split
  · rw [List.length_cons, decDigits_length]
    have := nDigits_20 n.natAbs (by omega)
    omega
  · rw [decDigits_length]
    have := nDigits_20 n.toNat (by omega)
    have := nDigits_pos n.toNat
    omega
theorem numT_len (n : Int) (h : -9223372036854775808 ≤ n ∧ n ≤ 9223372036854775807) : 1 ≤ (numT n).size ∧ (numT n).size ≤ 21 := by
  have := itoa_len n h
  simpa [numT, ByteArray.size] using this
theorem bytes_cat (a b : List UInt8) : (⟨a.toArray⟩ : ByteArray) ++ ⟨b.toArray⟩ = ⟨(a ++ b).toArray⟩ := by
  apply ByteArray.ext
  simp [ByteArray.data_append]
theorem numT_neg {n : Int} (h : n < 0) : numT n = ⟨(45 :: decDigits n.natAbs).toArray⟩ := by unfold numT itoa; rw [if_pos h]
theorem numT_pos {n : Int} (h : ¬ n < 0) : numT n = ⟨(decDigits n.natAbs).toArray⟩ := by unfold numT itoa; rw [if_neg h]; rw [show n.toNat = n.natAbs by omega]
theorem numT_dig {n : Nat} (h : n < 10) : numT n = ⟨#[UInt8.ofNat (48 + n)]⟩ := by
  rw [numT_pos (by omega), show (n : Int).natAbs = n by omega, decDigits_one h]
end Go.Proofs.YtigcjinpkngapaaGreatDoor
end
section
namespace Go.Proofs.YtigcjinpkngapaaGreatDoor
open Go.Ac
attribute [local irreducible] awp awpL Ev Ev2 EvS thenQ blockQ retQ PCalls OCalls
variable {g : List (Nat × List AV)}
theorem u8_small {n : Int} {m : Nat} (h : n = m) (hm : m < 256) : IntKind.u8.wrap n = (m : Int) := by
  subst h
  rw [IntKind.wrap_u8]; omega
set_option maxHeartbeats 2000000 in
theorem rNText_spec (n : Int) (h : -9223372036854775808 ≤ n ∧ n ≤ 9223372036854775807) : PCalls Tryz.prog g 62 [vi n] (.v (.string (numT n))) := by
  refine pcalls' Tryz.func62 Tryz.ntmps62 rfl rfl rfl ?_
  by_cases h0 : n = 0
  · have c0 : decide (n = 0) = true := decide_eq_true h0
    repeat' (first
     | refine stn [] ?_
     | ((with_reducible refine is_gd ?_); refine awpL_split rfl rfl (fun h => ?_) (fun h => ?_))
     | ((with_reducible refine is_awp ?_); refine awp_cond rfl (fun h => ?_) (fun h => ?_))
     | fail)
    refine retP rfl ?_
    subst h0
    rw [show (0 : Int) = ((0 : Nat) : Int) from rfl, numT_dig (by omega)]
    rfl
  have c0 : decide (n = 0) = false := decide_eq_false h0
  repeat' (first
   | refine stn [] ?_
   | ((with_reducible refine is_gd ?_); refine awpL_split rfl rfl (fun h => ?_) (fun h => ?_))
   | ((with_reducible refine is_awp ?_); refine awp_cond rfl (fun h => ?_) (fun h => ?_))
   | fail)
  refine awp_for2 (α := Nat) (β := List UInt8) 0 (fun m l => [(0, vi n), (3, .v (.string ⟨l.toArray⟩)), (4, vi (sgnd n m))]) (fun _ _ => []) (fun m l => m ≤ n.natAbs ∧ restD m l = Go.Lib.decDigits n.natAbs) (fun m _ => m) n.natAbs []
    (by rw [sgnd_self]; exact ⟨(.cons rfl rfl (.cons rfl rfl (.cons rfl rfl .nil))), rfl, rfl, rfl⟩) ⟨Nat.le_refl _, by unfold restD; rw [if_neg (by omega)]; simp⟩ ?_
  rintro m l ⟨hm, hl⟩
  have hb := sgnd_bound n m hm h
  by_cases hz : m = 0
  · have c1 : (!decide (sgnd n m = 0)) = false := by simp [sgnd_zero, hz]
    have hl' : l = Go.Lib.decDigits n.natAbs := by rw [← hl, hz]; rfl
    have hsz : (⟨l.toArray⟩ : ByteArray).size ≤ 21 := by
      rw [hl']
      have := nDigits_20 n.natAbs (by omega)
      simp only [ByteArray.size, List.size_toArray, Go.Lib.decDigits_length]; omega
    by_cases hn : n < 0
    · have c2 : decide (n < 0) = true := decide_eq_true hn
      have e1 : (⟨#[45]⟩ : ByteArray) ++ ⟨l.toArray⟩ = numT n := by
        rw [numT_neg hn, hl', show (⟨#[45]⟩ : ByteArray) = ⟨[45].toArray⟩ from rfl, bytes_cat]; rfl
      have e2 : (⟨#[45]⟩ : ByteArray).size = 1 := rfl
      repeat' (first
       | ((with_reducible refine is_un ?_); refine awpL_ev (ev_catE rfl rfl (by omega) e1) rfl ?_)
       | refine stn [] ?_
       | ((with_reducible refine is_gd ?_); refine awpL_split rfl rfl (fun h => ?_) (fun h => ?_))
       | ((with_reducible refine is_awp ?_); refine awp_cond rfl (fun h => ?_) (fun h => ?_))
       | fail)
      exact retP rfl rfl
    · have c2 : decide (n < 0) = false := decide_eq_false hn
      have e1 : (⟨l.toArray⟩ : ByteArray) = numT n := by rw [numT_pos hn, hl']
      rw [e1]
      repeat' (first
       | refine stn [] ?_
       | ((with_reducible refine is_gd ?_); refine awpL_split rfl rfl (fun h => ?_) (fun h => ?_))
       | ((with_reducible refine is_awp ?_); refine awp_cond rfl (fun h => ?_) (fun h => ?_))
       | fail)
      exact retP rfl rfl
  · have c1 : (!decide (sgnd n m = 0)) = true := by simp [sgnd_zero, hz]
    have hq := sgnd_div n m
    have hr := sgnd_mod n m
    have hs := sgnd_small n m
    have hst := restD_step hz l
    have hd : (48 + m % 10 : Nat) < 256 := by omega
    have hk := lastD_nat m
    have hsz : (⟨l.toArray⟩ : ByteArray).size ≤ 21 := by
      have h1 := restD_len m l
      have := nDigits_20 n.natAbs (by omega)
      rw [hl, Go.Lib.decDigits_length] at h1
      simp only [ByteArray.size, List.size_toArray]; omega
    have e2 : (⟨[lastD m].toArray⟩ : ByteArray).size = 1 := rfl
    have e3 : (⟨[lastD m].toArray⟩ : ByteArray) ++ ⟨l.toArray⟩ = ⟨(lastD m :: l).toArray⟩ := by rw [bytes_cat]; rfl
    have hb2 : [[AV.v (.int .u8 (lastD m).toNat)]] = bytesL [lastD m] := rfl
    by_cases hn : sgnd n (m % 10) < 0
    · have c2 : decide (sgnd n (m % 10) < 0) = true := decide_eq_true hn
      have hw : IntKind.u8.wrap (48 + -sgnd n (m % 10)) = ((lastD m).toNat : Int) := by
        rw [hk]; refine u8_small ?_ hd
        unfold sgnd at hn ⊢; split at hn <;> rename_i hx <;> simp only [hx, if_true, if_false] <;> omega
      repeat' (first
       | ((with_reducible refine is_un ?_); (first | refine awpL_ev (ev_neg rfl ⟨by omega, by omega⟩) rfl ?_ | refine awpL_ev (ev_conv_int rfl rfl rfl rfl hw) rfl ?_ | refine awpL_ev (ev_bts rfl rfl rfl rfl rfl rfl rfl hb2 rfl) rfl ?_ | refine awpL_ev (ev_tdivE rfl rfl ⟨by omega, hb⟩ hq) rfl ?_ | refine awpL_ev (ev_tmodE rfl rfl (by omega) hr) rfl ?_ | refine awpL_ev (ev_catE rfl rfl (by omega) e3) rfl ?_))
       | refine stn [] ?_
       | ((with_reducible refine is_gd ?_); refine awpL_split rfl rfl (fun h => ?_) (fun h => ?_))
       | ((with_reducible refine is_awp ?_); refine awp_cond rfl (fun h => ?_) (fun h => ?_))
       | fail)
      exact ⟨m / 10, lastD m :: l, ⟨(.cons rfl rfl (.cons rfl rfl (.cons rfl rfl .nil))), rfl, rfl, rfl⟩, ⟨by omega, by rw [hst, hl]⟩, by omega⟩
    · have c2 : decide (sgnd n (m % 10) < 0) = false := decide_eq_false hn
      have hw : IntKind.u8.wrap (48 + sgnd n (m % 10)) = ((lastD m).toNat : Int) := by
        rw [hk]; refine u8_small ?_ hd
        unfold sgnd at hn ⊢; split at hn <;> rename_i hx <;> simp only [hx, if_true, if_false] <;> omega
      repeat' (first
       | ((with_reducible refine is_un ?_); (first | refine awpL_ev (ev_neg rfl ⟨by omega, by omega⟩) rfl ?_ | refine awpL_ev (ev_conv_int rfl rfl rfl rfl hw) rfl ?_ | refine awpL_ev (ev_bts rfl rfl rfl rfl rfl rfl rfl hb2 rfl) rfl ?_ | refine awpL_ev (ev_tdivE rfl rfl ⟨by omega, hb⟩ hq) rfl ?_ | refine awpL_ev (ev_tmodE rfl rfl (by omega) hr) rfl ?_ | refine awpL_ev (ev_catE rfl rfl (by omega) e3) rfl ?_))
       | refine stn [] ?_
       | ((with_reducible refine is_gd ?_); refine awpL_split rfl rfl (fun h => ?_) (fun h => ?_))
       | ((with_reducible refine is_awp ?_); refine awp_cond rfl (fun h => ?_) (fun h => ?_))
       | fail)
      exact ⟨m / 10, lastD m :: l, ⟨(.cons rfl rfl (.cons rfl rfl (.cons rfl rfl .nil))), rfl, rfl, rfl⟩, ⟨by omega, by rw [hst, hl]⟩, by omega⟩
end Go.Proofs.YtigcjinpkngapaaGreatDoor
end
section
namespace Go.Proofs.YtigcjinpkngapaaGreatDoor
open Go.Ac
attribute [local irreducible] awp awpL Ev Ev2 EvS thenQ blockQ retQ PCalls OCalls
variable {g : List (Nat × List AV)}
abbrev parseV (o : Option Int) : AV := .tup [vi (o.getD 0), vb o.isSome]
def GN : List (Nat × List AV) := [(1, limCs), (4, powCs), (6, errCs), (7, errCs)]
theorem GN_num : NumG GN := ⟨by simp [GN], by simp [GN], by simp [GN], by simp [GN]⟩
theorem NumG.sub (h : NumG g) : ∀ p ∈ GN, p ∈ g := by
  intro p hp
  simp only [GN, List.mem_cons, List.not_mem_nil, or_false] at hp
  rcases hp with rfl | rfl | rfl | rfl
  · exact h.lim
  · exact h.pow
  · exact h.syn
  · exact h.rng
set_option maxHeartbeats 1000000 in
theorem NParse_N (s : ByteArray) (hs : s.size ≤ 281474976710656) : PCalls Tryz.prog GN 96 [.v (.string s)] (parseV (numP s)) := by
  have hA := Atoi_spec GN_num s hs
  refine pcalls' Tryz.func96 Tryz.ntmps96 rfl rfl rfl ?_
  unfold atoiV at hA
  cases h : Go.Lib.atoiAll s.data.toList
  · rename_i n
    rw [h] at hA
    simp only at hA
    obtain ⟨b0, b1⟩ := Go.Lib.atoiAll_bounds h
    have hT := NText_spec GN_num n ⟨b0, b1⟩
    have hP : numP s = if numT n = s ∧ inNum n then some n else none := by unfold numP; rw [h]
    have d1 : decide (n < -1099511627776) = true ∨ decide (n < -1099511627776) = false := by cases decide (n < -1099511627776) <;> simp
    by_cases e1 : numT n = s
    · have c1 : (!decide (numT n = s)) = false := by simp [e1]
      by_cases e2 : n < -1099511627776
      · have c2 : decide (n < -1099511627776) = true := decide_eq_true e2
        rw [hP, if_neg (by omega)]
        repeat' (first
         | ((with_reducible refine is_un ?_); (first | refine awpL_ev (ev_ia_fp rfl rfl rfl rfl rfl (by decide)) rfl ?_ | refine awpL_ev (ev_ifc_nn rfl rfl rfl) rfl ?_))
         | refine stn [] ?_
         | ((with_reducible refine is_gd ?_); refine awpL_split rfl rfl (fun h => ?_) (fun h => ?_))
         | ((with_reducible refine is_awp ?_); refine awp_cond rfl (fun h => ?_) (fun h => ?_))
         | fail)
        exact retP rfl rfl
      have c2 : decide (n < -1099511627776) = false := decide_eq_false e2
      by_cases e3 : 1099511627776 < n
      · have c3 : decide (1099511627776 < n) = true := decide_eq_true e3
        rw [hP, if_neg (by omega)]
        repeat' (first
         | ((with_reducible refine is_un ?_); (first | refine awpL_ev (ev_ia_fp rfl rfl rfl rfl rfl (by decide)) rfl ?_ | refine awpL_ev (ev_ifc_nn rfl rfl rfl) rfl ?_))
         | refine stn [] ?_
         | ((with_reducible refine is_gd ?_); refine awpL_split rfl rfl (fun h => ?_) (fun h => ?_))
         | ((with_reducible refine is_awp ?_); refine awp_cond rfl (fun h => ?_) (fun h => ?_))
         | fail)
        exact retP rfl rfl
      have c3 : decide (1099511627776 < n) = false := decide_eq_false e3
      rw [hP, if_pos ⟨e1, by omega, by omega⟩]
      repeat' (first
       | ((with_reducible refine is_un ?_); (first | refine awpL_ev (ev_ia_fp rfl rfl rfl rfl rfl (by decide)) rfl ?_ | refine awpL_ev (ev_ifc_nn rfl rfl rfl) rfl ?_))
       | refine stn [] ?_
       | ((with_reducible refine is_gd ?_); refine awpL_split rfl rfl (fun h => ?_) (fun h => ?_))
       | ((with_reducible refine is_awp ?_); refine awp_cond rfl (fun h => ?_) (fun h => ?_))
       | fail)
      exact retP rfl rfl
    · have c1 : (!decide (numT n = s)) = true := by simp [e1]
      rw [hP, if_neg (fun q => e1 q.1)]
      repeat' (first
       | ((with_reducible refine is_un ?_); (first | refine awpL_ev (ev_ia_fp rfl rfl rfl rfl rfl (by decide)) rfl ?_ | refine awpL_ev (ev_ifc_nn rfl rfl rfl) rfl ?_))
       | refine stn [] ?_
       | ((with_reducible refine is_gd ?_); refine awpL_split rfl rfl (fun h => ?_) (fun h => ?_))
       | ((with_reducible refine is_awp ?_); refine awp_cond rfl (fun h => ?_) (fun h => ?_))
       | fail)
      exact retP rfl rfl
  · rw [h] at hA
    simp only at hA
    have hP : numP s = none := by unfold numP; rw [h]
    rw [hP]
    repeat' (first
     | ((with_reducible refine is_un ?_); refine awpL_ev (ev_ifc_ne rfl rfl rfl) rfl ?_)
     | refine stn [] ?_
     | ((with_reducible refine is_gd ?_); refine awpL_split rfl rfl (fun h => ?_) (fun h => ?_))
     | ((with_reducible refine is_awp ?_); refine awp_cond rfl (fun h => ?_) (fun h => ?_))
     | fail)
    exact retP rfl rfl
  · rw [h] at hA
    simp only at hA
    have hP : numP s = none := by unfold numP; rw [h]
    rw [hP]
    repeat' (first
     | ((with_reducible refine is_un ?_); refine awpL_ev (ev_ifc_ne rfl rfl rfl) rfl ?_)
     | refine stn [] ?_
     | ((with_reducible refine is_gd ?_); refine awpL_split rfl rfl (fun h => ?_) (fun h => ?_))
     | ((with_reducible refine is_awp ?_); refine awp_cond rfl (fun h => ?_) (fun h => ?_))
     | fail)
    exact retP rfl rfl
theorem NParse_spec (hN : NumG g) (s : ByteArray) (hs : s.size ≤ 281474976710656) : PCalls Tryz.prog g 96 [.v (.string s)] (parseV (numP s)) := (NParse_N s hs).sub hN.sub
theorem dropB_cons {l : List UInt8} {k : Nat} {c : UInt8} (h : l[k]? = some c) : l.drop k = c :: l.drop (k + 1) := by
  obtain ⟨h1, h2⟩ := List.getElem?_eq_some_iff.1 h
  rw [List.drop_eq_getElem_cons h1, h2]
theorem size_list (s : ByteArray) : s.data.toList.length = s.size := by rw [Array.length_toList]; rfl
theorem byteL_get {s : ByteArray} {k : Nat} {c : UInt8} (h : s.data.toList[k]? = some c) : 0 ≤ (k : Int) ∧ s.data[(k : Int).toNat]? = some c := ⟨by omega, by simpa using h⟩
end Go.Proofs.YtigcjinpkngapaaGreatDoor
end
section
namespace Go.Proofs.YtigcjinpkngapaaGreatDoor
open Go.Lib
def toB (l : List UInt8) : ByteArray := ⟨l.toArray⟩
theorem toB_list (l : List UInt8) : (toB l).data.toList = l := by simp [toB]
theorem toB_of (s : ByteArray) : toB s.data.toList = s := by simp [toB]
theorem toB_size (l : List UInt8) : (toB l).size = l.length := by rw [show (toB l).size = (toB l).data.toList.length by rw [Array.length_toList]; rfl, toB_list]
end Go.Proofs.YtigcjinpkngapaaGreatDoor
end
section
namespace Go.Ac
section
variable {P : Program} {td : TDs} [T : TOK P td] {G : Glo} {N : Nat} {S : SL} {L : List LB} {ty : TypeId} {x : AV}
theorem ev_appB {t e k v sz : Nat} {d ed : TD} {u q : Operand} {es new es' : List (List AV)} {ats : Array TypeId} {L' : List LB} (h : val G S u = some (.os k v)) (hk : L[k]? = some (.own v e sz es)) (hq : val G S q = some x) (hsrc : src L x = some new) (hssz : srcSz L sz x = true)
    (hat : ats = #[t, t]) (ht : lk td t = some d) (hs : d.k = .slice e) (he : lk td e = some ed) (hsz : ed.size = sz) (hzl : ed.zero.length = sz) (hpos : Nat.blt 0 sz = true) (hby : Nat.ble ed.bytes 1000 = true)
    (hb : es.length + new.length ≤ 100000000) (hes : es ++ new = es') (hL : L.set k (.own (v + 1) e sz es') = L') :
    Ev2 P G N (.call { callee := .builtin .append, args := #[u, q], argTypes := ats }) ty S L (.os k (v + 1)) L' := by
  subst hes hL
  refine ev_append h hk hq hsrc hssz hat ht hs he hsz hzl hpos ⟨?_, ?_⟩
  · have := Nat.le_of_ble_eq_true hby
    calc (es.length + new.length) * ed.bytes ≤ 100000000 * 1000 := Nat.mul_le_mul hb this
      _ ≤ 140737488355328 := by omega
  · simp only [maxLen]; omega
end
end Go.Ac
end
section
namespace Go.Ac
open Go.Lib
def byteEs (s : ByteArray) : List (List AV) := s.data.toList.map fun b => [.v (.int .u8 b.toNat)]
theorem byteEs_len (s : ByteArray) : (byteEs s).length = s.size := by
  rw [byteEs, List.length_map, Array.length_toList]
  rfl
theorem byteEs_EL (F : Nat → Prop) (w : World) (s : ByteArray) : EL F w 1 (byteEs s) (strCells s) := by
  unfold byteEs strCells
  induction s.data.toList with
  | nil => simp only [List.map_nil, EL]
  | cons b r ih =>
    simp only [List.map_cons, EL]
    refine ⟨[.int .u8 b.toNat], _, rfl, rfl, ?_, ih⟩
    simp only [LF, RF]
    exact ⟨_, _, rfl, rfl, rfl, rfl⟩
section
variable {P : Program} {td : TDs} [T : TOK P td] {G : Glo} {N : Nat} {Q : AQ} {S S' : SL} {L : List LB}
  {op : Op} {ty : TypeId} {x : AV}
theorem ev_appStr {t t2 e k v : Nat} {d d2 ed : TD} {u q : Operand} {es : List (List AV)} {s : ByteArray} {ats : Array TypeId} (h : val G S u = some (.os k v)) (hk : L[k]? = some (.own v e 1 es)) (hq : val G S q = some (.v (.string s)))
    (hat : ats = #[t, t2]) (ht : lk td t = some d) (hs : d.k = .slice e) (ht2 : lk td t2 = some d2) (hs2 : d2.k = .str) (he : lk td e = some ed) (hsz : ed.size = 1) (hzl : ed.zero = [.int .u8 0]) (hby : ed.bytes = 1)
    (hb : es.length + s.size ≤ 140737488355328) :
    Ev2 P G N (.call { callee := .builtin .append, args := #[u, q], argTypes := ats }) ty S L (.os k (v + 1)) (L.set k (.own (v + 1) e 1 (es ++ byteEs s))) := by
  intro o ho _ cx a hc
  subst hat
  have e1 := val_R hc h
  have e2 := val_R hc hq
  have hbk := hc.st.blk _ _ hk
  simp only [R] at e2
  obtain ⟨i, ud, z, h1, h2, h3, h4, h5, h6, h7⟩ := tok_parts (P := P) he
  have hsd := slice_desc (P := P) ht hs
  have hzs : z.cells.size = 1 := by rw [← Array.length_toList, h7, hzl]; rfl
  have hi1 : i.size = 1 := by rw [h5, hsz]
  have hb1 : i.bytes = 1 := by rw [h6, hby]
  have hnl := byteEs_len s
  have hsl := strCells_length s
  have hsd2 := str_desc (P := P) ht2 hs2
  simp only [R, OS] at e1
  simp only [BR] at hbk
  obtain ⟨b0, b1, b2, hbk⟩ := hbk
  obtain ⟨hkn, _, _, e1⟩ := e1
  replace e1 := e1 b0
  have hmax : es.length + s.size ≤ 9223372036854775807 := by omega
  -- the end, from a run and the new place
  have fin : ∀ (nb : Option Nat) (w' : World) (y : Value), (Builtin.append_ #[t, t2] o.type #[a.eval u, a.eval q]).run P cx.w = .ok y w' →
      w'.os = cx.w.os → w'.tape = cx.w.tape → w'.output = cx.w.output → cx.w.heap.size ≤ w'.heap.size →
      (∀ b, b < cx.w.heap.size → cx.φ k ≠ some b → w'.heap[b]? = cx.w.heap[b]?) → (nb = cx.φ k ∨ ∃ z, nb = some z ∧ cx.w.heap.size ≤ z ∧ z < w'.heap.size) →
      (SubX allp cx (cx.upd k nb (es ++ byteEs s).length w') → ((nb = none ∧ es ++ byteEs s = []) ∨ ∃ b arr, nb = some b ∧ w'.heap[b]? = some (.cells arr e (0, 0)) ∧ (es ++ byteEs s).length * 1 ≤ arr.size ∧ EF cx.F w' 1 (es ++ byteEs s) b 0)) →
      ((es ++ byteEs s).length = 0 ∧ y = .slice none 0 0 ∧ nb = none ∨ ∃ b cap arr T, nb = some b ∧ y = .slice (some ⟨b, 0, none⟩) (es ++ byteEs s).length cap ∧ w'.heap[b]? = some (.cells arr T (0, 0)) ∧ (es ++ byteEs s).length ≤ cap ∧ cap ≤ maxLen ∧ arr.size = cap * 1) →
      ∃ y cx', (execOp a.eval o).run P cx.w = .ok (.value y) cx'.w ∧ R cx' (.os k (v + 1)) y ∧ Stp G cx cx' (L.set k (.own (v + 1) e 1 (es ++ byteEs s))) := by
    intro nb w' y hr hos htp hou hsz' hkeep hnb hbr hv
    have hst := hc.st.upd (k := k) (nb := nb) (ln := (es ++ byteEs s).length) hos htp hou hsz' hkeep hnb hkn (by rw [hk]; simp) (x := .own (v + 1) e 1 (es ++ byteEs s)) (fun hsub => by
      simp only [BR, Cx.upd, if_true]
      exact ⟨by rw [b0], b1, trivial, hbr hsub⟩)
    refine ⟨y, cx.upd k nb (es ++ byteEs s).length w', ?_, ?_, hst⟩
    · simp only [execOp, ho, resolve, invoke, builtin, Sem.run_bind, Sem.run_pure, Result.andThen_ok, List.map_toArray, List.map_cons, List.map_nil, hr]; rfl
    · simp only [R, OS, Cx.upd, if_true]
      refine ⟨hkn, by rw [b0]; exact Nat.le_refl _, ?_, fun _ => ?_⟩
      · rcases hv with ⟨_, rfl, _⟩ | ⟨b, cap, arr, T, _, rfl, _⟩ <;> rfl
      · rw [b1]
        exact hv
  have hrd : (Builtin.append_ #[t, t2] o.type #[a.eval u, a.eval q]).run P cx.w = (Builtin.append_ #[t, t2] o.type #[a.eval u, .string s]).run P cx.w := by rw [e2]
  have hEL := byteEs_EL cx.F cx.w s
  rcases e1 with ⟨l0, e1, f0⟩ | ⟨b, cap, arr, T', f1, e1, f2, f3, f4, f5⟩
  · have hes : es = [] := by
      rcases hbk with ⟨_, h⟩ | ⟨b, _, h, _⟩
      · exact h
      · rw [f0] at h; cases h
    subst hes
    by_cases hm0 : s.size = 0
    · have hn0 : byteEs s = [] := List.eq_nil_of_length_eq_zero (by rw [hnl]; exact hm0)
      have hr : (Builtin.append_ #[t, t2] o.type #[a.eval u, a.eval q]).run P cx.w = .ok (a.eval u) cx.w := by
        rw [hrd, e1]
        have hf := run_firstCells_string (P := P) cx.w i.size s
        rw [hm0] at hf
        have hs0 : strCells s = [] := List.eq_nil_of_length_eq_zero (by rw [hsl]; exact hm0)
        rw [hs0] at hf
        simp [Builtin.append_, run_underlying hsd, run_underlying hsd2, sizeOf, typeInfo, h1, Builtin.lenOf, hm0, hf]
      refine fin (cx.φ k) cx.w (a.eval u) hr rfl rfl rfl (Nat.le_refl _) (fun _ _ _ => rfl) (.inl rfl) (fun _ => by rw [hn0]; simpa using hbk) ?_
      rw [hn0]
      exact .inl ⟨rfl, e1, f0⟩
    have hr := run_append_nil_string (P := P) cx.w t t2 o.type e i z hsd hsd2 h1 h3 s (by omega) (by omega) (by rw [hb1]; simp at hb; omega)
    rw [← e1, ← hrd] at hr
    have e0 : (s.data.map fun b => Value.int .u8 b.toNat) = (strCells s).toArray := by
      apply Array.ext'
      simp [strCells]
    rw [e0] at hr
    have A := Alloc.drew cx.w (.cells ((strCells s).toArray ++ Builtin.zeroCells z.cells (grownCap cx.w s.size 0 e - s.size)) e)
    have hge := grownCap_ge cx.w s.size 0 e
    refine fin (some cx.w.heap.size) _ _ hr A.os A.tape A.output (by rw [A.size]; omega) (fun b hb _ => A.old b hb) (.inr ⟨_, rfl, Nat.le_refl _, by rw [A.size]; omega⟩) (fun hsub => .inr ⟨_, _, rfl, A.new, ?_, ?_⟩) (.inr ⟨_, grownCap cx.w s.size 0 e, _, _, rfl, ?_, A.new, ?_, ?_, ?_⟩)
    · simp only [List.nil_append, hnl, Array.size_append, List.size_toArray, hsl]; omega
    · simp only [List.nil_append]
      refine EF.of (EL.mono hsub.F hsub.heap hEL) (rangeAt_row A.new fun j v hj => ?_)
      rw [Nat.zero_add, Array.getElem?_append_left (by rcases Nat.lt_or_ge j (strCells s).length with h' | h'; simpa using h'; rw [List.getElem?_eq_none h'] at hj; cases hj)]
      simpa using hj
    · simp [hnl]
    · simp only [List.nil_append, hnl]; exact hge
    · exact grownCap_le_maxLen cx.w s.size 0 e (by simp only [maxLen]; omega)
    · simp only [Array.size_append, List.size_toArray, size_zeroCells, hzs, hsl]
      omega
  · have hbk' : ∃ arr', cx.w.heap[b]? = some (.cells arr' e (0, 0)) ∧ es.length * 1 ≤ arr'.size ∧ EF cx.F cx.w 1 es b 0 := by
      rcases hbk with ⟨g1, g2⟩ | ⟨b', arr', g1, g2, g3, g4⟩
      · rw [f1] at g1; cases g1
      · rw [f1] at g1; injection g1 with g1; subst g1; exact ⟨arr', g2, g3, g4⟩
    obtain ⟨arr', g2, g3, g4⟩ := hbk'
    rw [f2] at g2; injection g2 with g2; injection g2 with g2 g5; subst g2 g5
    rw [b2] at f3 e1
    rw [b1] at f5
    rw [Nat.mul_one] at f5
    by_cases hroom : es.length + s.size ≤ cap
    · have hfit : es.length + s.size ≤ arr.size := by omega
      have hr := run_append_room_string (P := P) cx.w t t2 o.type T' i hsd hsd2 h1 hi1 b es.length cap arr f2 s hroom hfit
      rw [← e1, ← hrd] at hr
      have hlt : (arr.toList.take es.length).length = es.length := by rw [List.length_take]; simp; omega
      generalize hcur : (arr.toList.take es.length ++ strCells s ++ arr.toList.drop (es.length + s.size)).toArray = cur at hr
      have hcs : cur.size = arr.size := by rw [← hcur]; simp [hsl]; omega
      have hh := setRow_heap cx.w b arr cur T' (0, 0) f2
      refine fin (cx.φ k) _ _ hr rfl rfl rfl (by simp) (fun b' _ hne => setRow_other _ _ _ _ (fun e' => hne (e' ▸ f1))) (.inl rfl) (fun hsub => .inr ⟨b, cur, f1, hh, ?_, ?_⟩) (.inr ⟨b, cap, cur, T', f1, by simp [hnl], hh, by simpa [hnl] using hroom, f4, by rw [hcs, Nat.mul_one]; exact f5⟩)
      · rw [List.length_append, hcs, hnl]; omega
      · obtain ⟨olds, hEo, hro⟩ := g4.vals
        refine EF.of ((EL.mono hsub.F hsub.heap hEo).append (EL.mono hsub.F hsub.heap hEL)) (rangeAt_row hh fun j v hj => ?_)
        rw [Nat.zero_add, ← hcur]
        have holen : olds.length = es.length := by rw [hEo.length, Nat.mul_one]
        simp only [List.getElem?_toArray]
        rcases Nat.lt_or_ge j olds.length with hjl | hjl
        · rw [List.getElem?_append_left hjl] at hj
          rw [List.append_assoc, List.getElem?_append_left (by omega), List.getElem?_take, if_pos (by omega)]
          have := hro j v hj
          rw [Nat.zero_add, cell_of_row _ _ _ _ _ _ f2] at this
          simpa using this
        · rw [List.getElem?_append_right hjl] at hj
          have hj2 : j - olds.length < (strCells s).length := by
            rcases Nat.lt_or_ge (j - olds.length) (strCells s).length with h' | h'
            · exact h'
            · rw [List.getElem?_eq_none h'] at hj; cases hj
          rw [List.append_assoc, List.getElem?_append_right (by omega), hlt, List.getElem?_append_left (by omega), ← holen]
          exact hj
    · obtain ⟨olds, hEo, hro⟩ := g4.vals
      have holen : olds.length = es.length * i.size := by rw [hEo.length, hi1]
      have hr := run_append_grow_string (P := P) cx.w t t2 o.type T' i z hsd hsd2 h1 h3 ⟨b, 0, none⟩ es.length cap olds holen (fun j v hj => by rw [Addr.add_mid]; exact hro j v hj) s (by omega) (by omega)
        (by rw [hb1]; exact growslice_fits (by omega) (by omega))
      rw [← e1, ← hrd] at hr
      have hge := grownCap_ge cx.w (es.length + s.size) cap T'
      have A := Alloc.drew cx.w (.cells (olds.toArray ++ (strCells s).toArray ++ Builtin.zeroCells z.cells (grownCap cx.w (es.length + s.size) cap T' - (es.length + s.size))) T')
      refine fin (some cx.w.heap.size) _ _ hr A.os A.tape A.output (by rw [A.size]; omega) (fun b hb _ => A.old b hb) (.inr ⟨_, rfl, Nat.le_refl _, by rw [A.size]; omega⟩) (fun hsub => .inr ⟨_, _, rfl, A.new, ?_, ?_⟩) (.inr ⟨_, grownCap cx.w (es.length + s.size) cap T', _, _, rfl, ?_, A.new, ?_, ?_, ?_⟩)
      · simp only [List.length_append, hnl, Array.size_append, List.size_toArray, hsl, holen, hi1]; omega
      · refine EF.of ((EL.mono hsub.F hsub.heap hEo).append (EL.mono hsub.F hsub.heap hEL)) (rangeAt_row A.new fun j v hj => ?_)
        have hjl : j < olds.length + (strCells s).length := by
          rcases Nat.lt_or_ge j (olds ++ strCells s).length with h' | h'
          · simpa using h'
          · rw [List.getElem?_eq_none h'] at hj; cases hj
        rw [Nat.zero_add, Array.getElem?_append_left (by simpa using hjl)]
        simpa using hj
      · simp [hnl]
      · simpa [hnl] using hge
      · exact grownCap_le_maxLen cx.w _ cap T' (by simp only [maxLen]; omega)
      · simp only [Array.size_append, List.size_toArray, size_zeroCells, hzs, hsl, holen, hi1]
        omega
theorem ev_appSS {t t2 e k v : Nat} {d d2 ed : TD} {u q : Operand} {es es' : List (List AV)} {s : ByteArray} {ats : Array TypeId} {L' : List LB} (h : val G S u = some (.os k v)) (hk : L[k]? = some (.own v e 1 es)) (hq : val G S q = some (.v (.string s)))
    (hat : ats = #[t, t2]) (ht : lk td t = some d) (hs : d.k = .slice e) (ht2 : lk td t2 = some d2) (hs2 : d2.k = .str) (he : lk td e = some ed) (hsz : ed.size = 1) (hzl : ed.zero = [.int .u8 0]) (hby : ed.bytes = 1)
    (hb : es.length + s.size ≤ 140737488355328) (hes : es ++ byteEs s = es') (hL : L.set k (.own (v + 1) e 1 es') = L') :
    Ev2 P G N (.call { callee := .builtin .append, args := #[u, q], argTypes := ats }) ty S L (.os k (v + 1)) L' := by
  subst hes hL
  exact ev_appStr h hk hq hat ht hs ht2 hs2 he hsz hzl hby hb
end
end Go.Ac
end
section
namespace Go.Ac
open Go.RowKit
section
variable {P : Program} {G : Glo} {N : Nat} {S : SL} {L : List LB} {ty : TypeId}
theorem ev_quoK {xt yt : TypeId} {u e : Operand} {k : IntKind} {p q r : Int} (h1 : val G S u = some (.v (.int k p))) (h2 : val G S e = some (.v (.int k q))) (hq : q ≠ 0) (hr : k.wrap (p.tdiv q) = r) : Ev P G N (.binOp .quo xt u e yt) ty S L (.v (.int k r)) := by
  subst hr
  intro o ho _ cx a hc
  have e1 := val_R hc h1
  have e2 := val_R hc h2
  simp only [R] at e1 e2
  refine ⟨_, ?_, by simp only [R]; rfl⟩
  simp only [execOp, ho, e1, e2]
  simp [eqGuard, binOp, Op.intDiv, hq]
theorem ev_remK {xt yt : TypeId} {u e : Operand} {k : IntKind} {p q r : Int} (h1 : val G S u = some (.v (.int k p))) (h2 : val G S e = some (.v (.int k q))) (hq : q ≠ 0) (hr : p.tmod q = r) : Ev P G N (.binOp .rem xt u e yt) ty S L (.v (.int k r)) := by
  subst hr
  intro o ho _ cx a hc
  have e1 := val_R hc h1
  have e2 := val_R hc h2
  simp only [R] at e1 e2
  refine ⟨_, ?_, by simp only [R]; rfl⟩
  simp only [execOp, ho, e1, e2]
  simp [eqGuard, binOp, Op.intDiv, hq]
end
theorem PCalls.ofBelowN {P : Program} {g : List (Nat × List AV)} {f : FuncId} {args : List AV} {r : AV} (hc : Callable P f)
    (h : ∀ (F : Nat → Prop) (w : World) (vs : Array Value), St (Glo.of g) (Cx.bare F w) [] → TF F w args vs.toList → Calls P f vs w fun e w' => ∃ v, e = .returned v ∧ Below w.heap.size w w' ∧ RF (fun b => F b ∨ w.heap.size ≤ b ∧ b < w'.heap.size) w' r v) : PCalls P g f args r := by
  refine ⟨hc, fun F w vs st ha => (callsIn_wide.2 (h F w vs st ha)).mono ?_⟩
  rintro e w' ⟨v, rfl, hb, hv⟩
  have hF : ∀ b, F b → b < w.heap.size := st.inF
  have hk : ∀ b, F b → w'.heap[b]? = w.heap[b]? := fun b h => hb.block b (hF b h)
  refine ⟨v, fun b => F b ∨ w.heap.size ≤ b ∧ b < w'.heap.size, rfl, hv, ⟨fun k h => h.elim, fun k x h => by simp at h, fun b h => h.elim (fun h => Nat.lt_of_lt_of_le (hF b h) hb.size) (fun h => h.2), fun k b h => by simp [Cx.bare] at h, fun k k' b h => by simp [Cx.bare] at h, fun k x h => by simp at h,
    fun p hp => ?_, fun b h => h.elim, List.nodup_nil, .inl rfl, fun r h => by simp [Cx.bare] at h, .inl rfl⟩,
    ⟨hb.os, hb.tape, hb.output, hb.size, fun b h => h.elim .inl (fun h => .inr (.inr h.1)), fun b ⟨j, h⟩ => by simp [Cx.bare] at h, fun b h => h.elim, fun r h => by simp [Cx.bare] at h, fun b h1 _ _ => hb.block b h1, rfl, ?_⟩⟩
  · obtain ⟨h1, h2, h3⟩ := st.glob p hp
    exact ⟨.inl h1, MF.mono (F := F) (w := w) (fun b h => .inl h) hk p.2 p.1 0 (hk p.1 h1) h2, h3.keep (hk p.1 h1)⟩
  · refine ⟨fun b h => .inl h, fun b h => hk b h, fun k h => h.elim, fun k h => h.elim, fun k h => h.elim, fun k h => h.elim, fun k h => h.elim, fun k b arr T h => h.elim⟩
end Go.Ac
end
section
namespace Go.Ac
def tailOkR : Nat → List Oper → Bool
  | _, [] => true
  | i, o :: r => hasE o.after.toList (i - 1) && (o.after.toList.all fun e => !(Region.binds .any e) || Nat.blt e.on i) && tailOkR (i + 1) r
def tailOk2 : Nat → List Oper → Bool
  | _, [] => true
  | i, o :: r => (List.range i).all (hasE o.after.toList) && (o.after.toList.all fun e => !(Region.binds .any e) || Nat.blt e.on i) && tailOkR (i + 1) r
theorem tailOkR_get : ∀ {l : List Oper} {i k : Nat} {o : Oper}, tailOkR i l = true → l[k]? = some o → hasE o.after.toList (i + k - 1) = true ∧ ∀ e ∈ o.after.toList, Region.binds .any e = true → e.on < i + k
  | [], _, k, o, _, h => by simp at h
  | o0 :: r, i, k, o, ht, h => by
    simp only [tailOkR, Bool.and_eq_true] at ht
    obtain ⟨⟨h1, h2⟩, h3⟩ := ht
    cases k with
    | zero =>
      simp at h; subst h
      refine ⟨h1, fun e he hb => ?_⟩
      have := List.all_eq_true.1 h2 e he
      simp only [hb, Bool.not_true, Bool.false_or] at this
      simpa using blt_lt this
    | succ k =>
      have := tailOkR_get h3 (by simpa using h)
      rw [show i + 1 + k = i + (k + 1) by omega] at this
      exact this
theorem tailOk2_get {l : List Oper} {i k : Nat} {o : Oper} (ht : tailOk2 i l = true) (h : l[k]? = some o) : ((k = 0 → ∀ m, m < i → hasE o.after.toList m = true) ∧ (k ≠ 0 → hasE o.after.toList (i + k - 1) = true)) ∧ ∀ e ∈ o.after.toList, Region.binds .any e = true → e.on < i + k := by
  cases l with
  | nil => simp at h
  | cons o0 r =>
    simp only [tailOk2, Bool.and_eq_true] at ht
    obtain ⟨⟨h1, h2⟩, h3⟩ := ht
    cases k with
    | zero =>
      simp at h; subst h
      refine ⟨⟨fun _ m hm => List.all_eq_true.1 h1 m (by simpa using hm), fun e => absurd rfl e⟩, fun e he hb => ?_⟩
      have := List.all_eq_true.1 h2 e he
      simp only [hb, Bool.not_true, Bool.false_or] at this
      simpa using blt_lt this
    | succ k =>
      have := tailOkR_get h3 (by simpa using h)
      rw [show i + 1 + k = i + (k + 1) by omega] at this
      exact ⟨⟨fun e => by omega, fun _ => this.1⟩, this.2⟩
section
variable {F : Fence} {n : Nat} {P : Program} {Q : Exit → Act → World → Prop} {l1 l2 : List Oper}
theorem tail_run2 (ht : tailOk2 l1.length l2 = true) : ∀ (d k : Nat), d + k = l2.length → ∀ (listed : Array Bool) (a : Act) (w : World), listed.size = (l1 ++ l2).length →
    (∀ i, i < l1.length + k → listed.getD i false = true) → (∀ i, l1.length + k ≤ i → i < (l1 ++ l2).length → listed.getD i false = false) →
    wpListIn F n P (l1 ++ l2).toArray Q (l2.drop k) a w → ∀ fuel, d ≤ fuel → wpAnyIn F n P .any (l1 ++ l2).toArray Q fuel listed a w := by
  intro d
  induction d with
  | zero =>
    intro k hk listed a w hsz h1 h2 h fuel _
    rw [List.drop_of_length_le (by omega)] at h
    have hr : Region.ready .any (l1 ++ l2).toArray listed = [] := by
      cases hq : Region.ready .any (l1 ++ l2).toArray listed with
      | nil => rfl
      | cons i r =>
        have hi : i ∈ Region.ready .any (l1 ++ l2).toArray listed := by rw [hq]; exact List.mem_cons_self ..
        rw [mem_ready] at hi
        obtain ⟨h0, o, ho, _⟩ := hi
        have hil : i < (l1 ++ l2).length := by have := (Array.getElem?_eq_some_iff.1 ho).1; simpa using this
        rw [getD_tf (by omega), h1 i (by simp at hil; omega)] at h0
        cases h0
    cases fuel with
    | zero => exact ⟨hr, h⟩
    | succ f => exact ⟨fun _ => h, fun i hi => by rw [hr] at hi; cases hi⟩
  | succ d ih =>
    intro k hk listed a w hsz h1 h2 h fuel hf
    obtain ⟨f, rfl⟩ : ∃ f, fuel = f + 1 := ⟨fuel - 1, by omega⟩
    obtain ⟨o, ho⟩ : ∃ o, l2[k]? = some o := ⟨_, List.getElem?_eq_getElem (by omega)⟩
    have hgo : (l1 ++ l2).toArray[l1.length + k]? = some o := by rw [List.getElem?_toArray, List.getElem?_append_right (Nat.le_add_right _ _), Nat.add_sub_cancel_left]; exact ho
    have hlt : l1.length + k < (l1 ++ l2).length := by simp; omega
    obtain ⟨t1, t2⟩ := tailOk2_get ht ho
    have hme : l1.length + k ∈ Region.ready .any (l1 ++ l2).toArray listed := by
      rw [mem_ready]
      exact ⟨by rw [getD_tf (by omega)]; exact h2 _ (Nat.le_refl _) hlt, o, hgo, fun e he hb => h1 _ (t2 e (by simpa using he) hb)⟩
    refine ⟨fun hr => (by rw [hr] at hme; cases hme), fun i hi => ?_⟩
    have hii : i = l1.length + k := by
      rw [mem_ready] at hi
      obtain ⟨h0, o', ho', haft⟩ := hi
      have hil : i < (l1 ++ l2).length := by have := (Array.getElem?_eq_some_iff.1 ho').1; simpa using this
      rw [getD_tf (by omega)] at h0
      rcases Nat.lt_trichotomy i (l1.length + k) with g | g | g
      · rw [h1 i g] at h0; cases h0
      · exact g
      · obtain ⟨j, rfl⟩ : ∃ j, i = l1.length + j := ⟨i - l1.length, by omega⟩
        have ho2 : l2[j]? = some o' := by rw [List.getElem?_toArray, List.getElem?_append_right (Nat.le_add_right _ _), Nat.add_sub_cancel_left] at ho'; exact ho'
        obtain ⟨e, he, hb, hon⟩ := hasE_spec ((tailOk2_get ht ho2).1.2 (by omega))
        have := haft e (by simpa using he) hb
        rw [hon, h2 _ (by omega) (by omega)] at this
        cases this
    subst hii
    unfold wpOpIn
    simp only [hgo]
    have hd : l2.drop k = o :: l2.drop (k + 1) := by
      obtain ⟨hl, rfl⟩ := List.getElem?_eq_some_iff.1 ho
      exact List.drop_eq_getElem_cons hl
    rw [hd] at h
    have next : ∀ a w, wpListIn F n P (l1 ++ l2).toArray Q (l2.drop (k + 1)) a w → wpAnyIn F n P .any (l1 ++ l2).toArray Q f (listed.setIfInBounds (l1.length + k) true) a w := by
      intro a w h
      refine ih (k + 1) (by omega) _ a w (by simpa using hsz) (fun i hi => ?_) (fun i hi hil => ?_) h f (by omega)
      · by_cases e : l1.length + k = i
        · subst e; simp [Array.getD_eq_getD_getElem?, hsz, hlt]; omega
        · rw [getD_set_ne false e]; exact h1 i (by omega)
      · rw [getD_set_ne false (by omega)]; exact h2 i (by omega) hil
    simp only [wpListIn] at h
    split at h
    · rename_i hw
      rw [if_pos hw]
      exact Oper.wpIn_mono next h
    · rename_i hw
      rw [if_neg hw]
      exact ⟨h.1, next _ _ h.2⟩
theorem body_run2 {N : Nat} (ht : tailOk2 l1.length l2 = true) (hg : gdOk l1.length l1 = true) (hk : drawOk N 0 [] l1 = true) {Qt : Exit → Act → World → Prop} (hq : ∀ e a w, e ≠ .normal → Qt e a w → Q e a w)
    (hn : ∀ a w, Qt .normal a w → wpListIn F n P (l1 ++ l2).toArray Q l2 a w) : ∀ (fuel1 : Nat) (listed1 listed : Array Bool) (a : Act) (w : World), listed1.size = l1.length → listed.size = (l1 ++ l2).length →
      (∀ i, i < l1.length → listed.getD i false = listed1.getD i false) → (∀ i, l1.length ≤ i → i < (l1 ++ l2).length → listed.getD i false = false) →
      wpAnyIn F n P .any l1.toArray Qt fuel1 listed1 a w → ∀ fuel, fuel1 + l2.length ≤ fuel → wpAnyIn F n P .any (l1 ++ l2).toArray Q fuel listed a w := by
  have back : ∀ (i : Nat) (o : Oper), l1[i]? = some o → ∀ e ∈ o.after.toList, Region.binds .any e = true → e.on < i := fun i o ho e he hb => by
    have := (drawOk_spec hk i o ho).2 e (by simpa using he) hb
    omega
  intro fuel1
  induction fuel1 with
  | zero =>
    intro listed1 listed a w hs1 hs heq hfa h fuel hf
    have all : ∀ i, i < l1.length → listed1.getD i false = true := by
      intro i
      induction i using Nat.strongRecOn with
      | _ i ih =>
        intro hi
        cases hl : listed1.getD i false with
        | true => rfl
        | false =>
          have : i ∈ Region.ready .any l1.toArray listed1 := by
            rw [mem_ready]
            refine ⟨by rw [getD_tf (by omega)]; exact hl, l1[i], by simp [hi], fun e he hb => ?_⟩
            have := back i _ (List.getElem?_eq_getElem hi) e (by simpa using he) hb
            exact ih e.on this (by omega)
          rw [h.1] at this; cases this
    exact tail_run2 ht l2.length 0 (by omega) listed a w hs (fun i hi => by rw [heq i (by omega)]; exact all i (by omega)) (fun i hi hil => hfa i (by omega) hil) (hn a w h.2) fuel (by omega)
  | succ f1 ih =>
    intro listed1 listed a w hs1 hs heq hfa h fuel hf
    by_cases hr : Region.ready .any l1.toArray listed1 = []
    · have all : ∀ i, i < l1.length → listed1.getD i false = true := by
        intro i
        induction i using Nat.strongRecOn with
        | _ i ih =>
          intro hi
          cases hl : listed1.getD i false with
          | true => rfl
          | false =>
            have : i ∈ Region.ready .any l1.toArray listed1 := by
              rw [mem_ready]
              refine ⟨by rw [getD_tf (by omega)]; exact hl, l1[i], by simp [hi], fun e he hb => ?_⟩
              have := back i _ (List.getElem?_eq_getElem hi) e (by simpa using he) hb
              exact ih e.on this (by omega)
            rw [hr] at this; cases this
      exact tail_run2 ht l2.length 0 (by omega) listed a w hs (fun i hi => by rw [heq i (by omega)]; exact all i (by omega)) (fun i hi hil => hfa i (by omega) hil) (hn a w (h.1 hr)) fuel (by omega)
    · obtain ⟨f, rfl⟩ : ∃ f, fuel = f + 1 := ⟨fuel - 1, by omega⟩
      obtain ⟨i0, hi0⟩ := List.exists_mem_of_ne_nil _ hr
      have hi0' := hi0
      rw [mem_ready] at hi0'
      obtain ⟨z0, o0, zo, za⟩ := hi0'
      have hl0 : i0 < l1.length := by have := (Array.getElem?_eq_some_iff.1 zo).1; simpa using this
      rw [getD_tf (by omega)] at z0
      have up : ∀ i, i ∈ Region.ready .any (l1 ++ l2).toArray listed ↔ i ∈ Region.ready .any l1.toArray listed1 := by
        intro i
        rw [mem_ready, mem_ready]
        constructor
        · rintro ⟨h0, o, ho, haft⟩
          have hil : i < (l1 ++ l2).length := by have := (Array.getElem?_eq_some_iff.1 ho).1; simpa using this
          rw [getD_tf (by omega)] at h0
          rcases Nat.lt_or_ge i l1.length with g | g
          · have ho1 : l1[i]? = some o := by rw [List.getElem?_toArray, List.getElem?_append_left g] at ho; exact ho
            refine ⟨by rw [getD_tf (by omega), ← heq i g]; exact h0, o, by simpa using ho1, fun e he hb => ?_⟩
            have := back i o ho1 e (by simpa using he) hb
            rw [← heq _ (by omega)]; exact haft e he hb
          · exfalso
            obtain ⟨j, rfl⟩ : ∃ j, i = l1.length + j := ⟨i - l1.length, by omega⟩
            have ho2 : l2[j]? = some o := by rw [List.getElem?_toArray, List.getElem?_append_right (Nat.le_add_right _ _), Nat.add_sub_cancel_left] at ho; exact ho
            rcases Nat.eq_zero_or_pos j with hj0 | hj0
            · obtain ⟨e, he, hb, hon⟩ := hasE_spec ((tailOk2_get ht ho2).1.1 hj0 i0 (by omega))
              have := haft e (by simpa using he) hb
              rw [hon, heq i0 hl0, z0] at this
              cases this
            · obtain ⟨e, he, hb, hon⟩ := hasE_spec ((tailOk2_get ht ho2).1.2 (by omega))
              have := haft e (by simpa using he) hb
              rw [hon, hfa _ (by omega) (by omega)] at this
              cases this
        · rintro ⟨h0, o, ho, haft⟩
          have g : i < l1.length := by have := (Array.getElem?_eq_some_iff.1 ho).1; simpa using this
          have ho1 : l1[i]? = some o := by simpa using ho
          rw [getD_tf (by omega)] at h0
          refine ⟨by rw [getD_tf (by simp at hs; omega), heq i g]; exact h0, o, by rw [List.getElem?_toArray, List.getElem?_append_left g]; exact ho1, fun e he hb => ?_⟩
          have := back i o ho1 e (by simpa using he) hb
          rw [heq _ (by omega)]; exact haft e he hb
      refine ⟨fun hr2 => ?_, fun i hi => ?_⟩
      · have := (up i0).2 hi0
        rw [hr2] at this; cases this
      · have hi1 := (up i).1 hi
        have hw := h.2 i hi1
        rw [mem_ready] at hi1
        obtain ⟨h0, o, ho, haft⟩ := hi1
        have g : i < l1.length := by have := (Array.getElem?_eq_some_iff.1 ho).1; simpa using this
        have ho1 : l1[i]? = some o := by simpa using ho
        have hoc : (l1 ++ l2).toArray[i]? = some o := by rw [List.getElem?_toArray, List.getElem?_append_left g]; exact ho1
        unfold wpOpIn at hw ⊢
        simp only [ho, hoc] at hw ⊢
        have hwant : Region.wanted o (yielded (l1 ++ l2).toArray a.tmps) = Region.wanted o (yielded l1.toArray a.tmps) := by
          unfold Region.wanted
          have hgo := List.all_eq_true.1 hg o (List.mem_of_getElem? ho1)
          split
          · rfl
          · rename_i j want he
            rw [he] at hgo
            have hj := blt_lt hgo
            have : yielded (l1 ++ l2).toArray a.tmps j = yielded l1.toArray a.tmps j := by
              unfold yielded
              rw [List.getElem?_toArray, List.getElem?_toArray, List.getElem?_append_left hj]
            rw [this]
        rw [hwant]
        have next : ∀ a w, wpAnyIn F n P .any l1.toArray Qt f1 (listed1.setIfInBounds i true) a w → wpAnyIn F n P .any (l1 ++ l2).toArray Q f (listed.setIfInBounds i true) a w := by
          intro a w h
          refine ih _ _ a w (by simpa using hs1) (by simpa using hs) (fun j hj => ?_) (fun j hj hjl => ?_) h f (by omega)
          · by_cases e : i = j
            · subst e
              have : i < listed.size := by simp at hs; omega
              simp [Array.getD_eq_getD_getElem?, hs1, g, this]
            · rw [getD_set_ne false e, getD_set_ne false e]; exact heq j hj
          · rw [getD_set_ne false (by omega)]; exact hfa j hj hjl
        split at hw
        · rename_i hq2
          rw [if_pos hq2]
          exact wpIn_monoN hq next hw
        · rename_i hq2
          rw [if_neg hq2]
          exact ⟨hw.1, next _ _ hw.2⟩
end
section
variable {P : Program} {td : TDs} [T : TOK P td] {G : Glo} {N : Nat} {Q : AQ} {S Sb : SL} {L : List LB} {l l1 l2 : List Oper}
theorem awp_drawT2 (n : Nat) {id : Nat} {ds : List Nat} (h1 : l.take n = l1) (h2 : l.drop n = l2) (hm : P.follows .mixedOrders = true) (hk : drawOk N 0 [] l1 = true) (ht : tailOk2 l1.length l2 = true) (hg : gdOk l1.length l1 = true) (hds : dsts l1 = ds) (hS : Strip ds S Sb)
    (h : awpD P G N (fun S' L' => awpL P G N l.toArray l2 Q S' L') Sb L.length l1 [] ⟨L, [], [], false⟩) : awp P G N (.region id l.toArray true) Q S L := by
  have hl : l = l1 ++ l2 := by rw [← h1, ← h2, List.take_append_drop]
  subst hl
  clear h1 h2
  have hb : (Sb.all fun p => !(l1.any fun o => match o.dst with | some d => Nat.beq d p.1 | none => false)) = true := by
    rw [List.all_eq_true]
    rintro ⟨t, x⟩ hp
    have hm := strip_keep hS t x hp
    rw [Bool.not_eq_true', List.any_eq_false]
    intro o ho
    cases hd : o.dst with
    | none => simp
    | some d =>
      have hdm : d ∈ ds := by rw [← hds]; exact List.mem_filterMap.2 ⟨o, ho, hd⟩
      simp only [Bool.not_eq_true]
      cases he : Nat.beq d t with
      | false => rfl
      | true =>
        have := Nat.eq_of_beq_eq_true he
        subst this
        rw [memN_of hdm] at hm; cases hm
  intro cx a hc
  refine wpIn_region_any hm ?_
  have hA := draw_any (Q := thenQ (fun S' L' => awpL P G N (l1 ++ l2).toArray l2 Q S' L') Q) hk (fun t x hx => (hS.get t x hx).1) hb h cx a hc
  refine body_run2 ht hg hk (Qt := conc G N (thenQ (fun S' L' => awpL P G N (l1 ++ l2).toArray l2 Q S' L') Q) cx) (fun e a w hne q => ?_) (fun a w q => ?_) _ _ _ _ _ (by simp) (by simp) (fun i hi => ?_) (fun i hi hil => ?_) hA _ (by simp)
  · obtain ⟨S', L', c', q1, q2, q3, q4⟩ := q
    refine ⟨S', L', c', ?_, q2, q3, q4⟩
    cases e with
    | normal => exact absurd rfl hne
    | _ => exact q1
  · obtain ⟨S', L', c', q1, q2, q3, q4⟩ := q
    subst q4
    exact wpListIn_mono (fun e a w r => r.trans q3) _ _ _ (q1 c' a q2)
  · have hi2 : i < l1.length + l2.length := by omega
    simp [Array.getD_eq_getD_getElem?, hi, hi2]
  · simp at hil
    simp [Array.getD_eq_getD_getElem?, hil]
end
end Go.Ac
end
section
namespace Go.Ac
def reachE (l : List Oper) : Nat → List Edge → Nat → Bool
  | 0, x, m => hasE x m
  | f + 1, x, m => hasE x m || (List.range l.length).any fun j => hasE x j && (match l[j]? with | some o => reachE l f o.after.toList m | none => false)
def tailOk3 (l1 : List Oper) : Nat → List Oper → Bool
  | _, [] => true
  | i, o :: r => (List.range i).all (reachE l1 l1.length o.after.toList) && (o.after.toList.all fun e => !(Region.binds .any e) || Nat.blt e.on i) && tailOkR (i + 1) r
theorem reach_done {l : List Oper} {listed : Array Bool} (hcl : ∀ (i : Nat) (o : Oper), l[i]? = some o → listed.getD i false = true → ∀ e ∈ o.after.toList, Region.binds .any e = true → listed.getD e.on false = true) :
    ∀ (f : Nat) (x : List Edge) (m : Nat), (∀ e ∈ x, Region.binds .any e = true → listed.getD e.on false = true) → reachE l f x m = true → listed.getD m false = true
  | 0, x, m, hx, h => by
    simp only [reachE] at h
    obtain ⟨e, he, hb, rfl⟩ := hasE_spec h
    exact hx e he hb
  | f + 1, x, m, hx, h => by
    simp only [reachE, Bool.or_eq_true, List.any_eq_true, Bool.and_eq_true] at h
    rcases h with h | ⟨j, _, h1, h2⟩
    · obtain ⟨e, he, hb, rfl⟩ := hasE_spec h
      exact hx e he hb
    · obtain ⟨e, he, hb, rfl⟩ := hasE_spec h1
      cases ho : l[e.on]? with
      | none => rw [ho] at h2; cases h2
      | some o =>
        rw [ho] at h2
        exact reach_done hcl f o.after.toList m (hcl e.on o ho (hx e he hb)) h2
theorem tailOk3_get {l1 l : List Oper} {i k : Nat} {o : Oper} (ht : tailOk3 l1 i l = true) (h : l[k]? = some o) : ((k = 0 → ∀ m, m < i → reachE l1 l1.length o.after.toList m = true) ∧ (k ≠ 0 → hasE o.after.toList (i + k - 1) = true)) ∧ ∀ e ∈ o.after.toList, Region.binds .any e = true → e.on < i + k := by
  cases l with
  | nil => simp at h
  | cons o0 r =>
    simp only [tailOk3, Bool.and_eq_true] at ht
    obtain ⟨⟨h1, h2⟩, h3⟩ := ht
    cases k with
    | zero =>
      simp at h; subst h
      refine ⟨⟨fun _ m hm => List.all_eq_true.1 h1 m (by simpa using hm), fun e => absurd rfl e⟩, fun e he hb => ?_⟩
      have := List.all_eq_true.1 h2 e he
      simp only [hb, Bool.not_true, Bool.false_or] at this
      simpa using blt_lt this
    | succ k =>
      have := tailOkR_get h3 (by simpa using h)
      rw [show i + 1 + k = i + (k + 1) by omega] at this
      exact ⟨⟨fun e => by omega, fun _ => this.1⟩, this.2⟩
section
variable {F : Fence} {n : Nat} {P : Program} {Q : Exit → Act → World → Prop} {l1 l2 : List Oper}
theorem tail_run3 (ht : tailOk3 l1 l1.length l2 = true) : ∀ (d k : Nat), d + k = l2.length → ∀ (listed : Array Bool) (a : Act) (w : World), listed.size = (l1 ++ l2).length →
    (∀ i, i < l1.length + k → listed.getD i false = true) → (∀ i, l1.length + k ≤ i → i < (l1 ++ l2).length → listed.getD i false = false) →
    wpListIn F n P (l1 ++ l2).toArray Q (l2.drop k) a w → ∀ fuel, d ≤ fuel → wpAnyIn F n P .any (l1 ++ l2).toArray Q fuel listed a w := by
  intro d
  induction d with
  | zero =>
    intro k hk listed a w hsz h1 h2 h fuel _
    rw [List.drop_of_length_le (by omega)] at h
    have hr : Region.ready .any (l1 ++ l2).toArray listed = [] := by
      cases hq : Region.ready .any (l1 ++ l2).toArray listed with
      | nil => rfl
      | cons i r =>
        have hi : i ∈ Region.ready .any (l1 ++ l2).toArray listed := by rw [hq]; exact List.mem_cons_self ..
        rw [mem_ready] at hi
        obtain ⟨h0, o, ho, _⟩ := hi
        have hil : i < (l1 ++ l2).length := by have := (Array.getElem?_eq_some_iff.1 ho).1; simpa using this
        rw [getD_tf (by omega), h1 i (by simp at hil; omega)] at h0
        cases h0
    cases fuel with
    | zero => exact ⟨hr, h⟩
    | succ f => exact ⟨fun _ => h, fun i hi => by rw [hr] at hi; cases hi⟩
  | succ d ih =>
    intro k hk listed a w hsz h1 h2 h fuel hf
    obtain ⟨f, rfl⟩ : ∃ f, fuel = f + 1 := ⟨fuel - 1, by omega⟩
    obtain ⟨o, ho⟩ : ∃ o, l2[k]? = some o := ⟨_, List.getElem?_eq_getElem (by omega)⟩
    have hgo : (l1 ++ l2).toArray[l1.length + k]? = some o := by rw [List.getElem?_toArray, List.getElem?_append_right (Nat.le_add_right _ _), Nat.add_sub_cancel_left]; exact ho
    have hlt : l1.length + k < (l1 ++ l2).length := by simp; omega
    obtain ⟨t1, t2⟩ := tailOk3_get ht ho
    have hme : l1.length + k ∈ Region.ready .any (l1 ++ l2).toArray listed := by
      rw [mem_ready]
      exact ⟨by rw [getD_tf (by omega)]; exact h2 _ (Nat.le_refl _) hlt, o, hgo, fun e he hb => h1 _ (t2 e (by simpa using he) hb)⟩
    refine ⟨fun hr => (by rw [hr] at hme; cases hme), fun i hi => ?_⟩
    have hii : i = l1.length + k := by
      rw [mem_ready] at hi
      obtain ⟨h0, o', ho', haft⟩ := hi
      have hil : i < (l1 ++ l2).length := by have := (Array.getElem?_eq_some_iff.1 ho').1; simpa using this
      rw [getD_tf (by omega)] at h0
      rcases Nat.lt_trichotomy i (l1.length + k) with g | g | g
      · rw [h1 i g] at h0; cases h0
      · exact g
      · obtain ⟨j, rfl⟩ : ∃ j, i = l1.length + j := ⟨i - l1.length, by omega⟩
        have ho2 : l2[j]? = some o' := by rw [List.getElem?_toArray, List.getElem?_append_right (Nat.le_add_right _ _), Nat.add_sub_cancel_left] at ho'; exact ho'
        obtain ⟨e, he, hb, hon⟩ := hasE_spec ((tailOk3_get ht ho2).1.2 (by omega))
        have := haft e (by simpa using he) hb
        rw [hon, h2 _ (by omega) (by omega)] at this
        cases this
    subst hii
    unfold wpOpIn
    simp only [hgo]
    have hd : l2.drop k = o :: l2.drop (k + 1) := by
      obtain ⟨hl, rfl⟩ := List.getElem?_eq_some_iff.1 ho
      exact List.drop_eq_getElem_cons hl
    rw [hd] at h
    have next : ∀ a w, wpListIn F n P (l1 ++ l2).toArray Q (l2.drop (k + 1)) a w → wpAnyIn F n P .any (l1 ++ l2).toArray Q f (listed.setIfInBounds (l1.length + k) true) a w := by
      intro a w h
      refine ih (k + 1) (by omega) _ a w (by simpa using hsz) (fun i hi => ?_) (fun i hi hil => ?_) h f (by omega)
      · by_cases e : l1.length + k = i
        · subst e; simp [Array.getD_eq_getD_getElem?, hsz, hlt]; omega
        · rw [getD_set_ne false e]; exact h1 i (by omega)
      · rw [getD_set_ne false (by omega)]; exact h2 i (by omega) hil
    simp only [wpListIn] at h
    split at h
    · rename_i hw
      rw [if_pos hw]
      exact Oper.wpIn_mono next h
    · rename_i hw
      rw [if_neg hw]
      exact ⟨h.1, next _ _ h.2⟩
theorem body_run3 {N : Nat} (ht : tailOk3 l1 l1.length l2 = true) (hg : gdOk l1.length l1 = true) (hk : drawOk N 0 [] l1 = true) {Qt : Exit → Act → World → Prop} (hq : ∀ e a w, e ≠ .normal → Qt e a w → Q e a w)
    (hn : ∀ a w, Qt .normal a w → wpListIn F n P (l1 ++ l2).toArray Q l2 a w) : ∀ (fuel1 : Nat) (listed1 listed : Array Bool) (a : Act) (w : World), listed1.size = l1.length → listed.size = (l1 ++ l2).length →
      (∀ i, i < l1.length → listed.getD i false = listed1.getD i false) → (∀ i, l1.length ≤ i → i < (l1 ++ l2).length → listed.getD i false = false) →
      (∀ (i : Nat) (o : Oper), l1[i]? = some o → listed1.getD i false = true → ∀ e ∈ o.after.toList, Region.binds .any e = true → listed1.getD e.on false = true) →
      wpAnyIn F n P .any l1.toArray Qt fuel1 listed1 a w → ∀ fuel, fuel1 + l2.length ≤ fuel → wpAnyIn F n P .any (l1 ++ l2).toArray Q fuel listed a w := by
  have back : ∀ (i : Nat) (o : Oper), l1[i]? = some o → ∀ e ∈ o.after.toList, Region.binds .any e = true → e.on < i := fun i o ho e he hb => by
    have := (drawOk_spec hk i o ho).2 e (by simpa using he) hb
    omega
  intro fuel1
  induction fuel1 with
  | zero =>
    intro listed1 listed a w hs1 hs heq hfa hcl h fuel hf
    have all : ∀ i, i < l1.length → listed1.getD i false = true := by
      intro i
      induction i using Nat.strongRecOn with
      | _ i ih =>
        intro hi
        cases hl : listed1.getD i false with
        | true => rfl
        | false =>
          have : i ∈ Region.ready .any l1.toArray listed1 := by
            rw [mem_ready]
            refine ⟨by rw [getD_tf (by omega)]; exact hl, l1[i], by simp [hi], fun e he hb => ?_⟩
            have := back i _ (List.getElem?_eq_getElem hi) e (by simpa using he) hb
            exact ih e.on this (by omega)
          rw [h.1] at this; cases this
    exact tail_run3 ht l2.length 0 (by omega) listed a w hs (fun i hi => by rw [heq i (by omega)]; exact all i (by omega)) (fun i hi hil => hfa i (by omega) hil) (hn a w h.2) fuel (by omega)
  | succ f1 ih =>
    intro listed1 listed a w hs1 hs heq hfa hcl h fuel hf
    by_cases hr : Region.ready .any l1.toArray listed1 = []
    · have all : ∀ i, i < l1.length → listed1.getD i false = true := by
        intro i
        induction i using Nat.strongRecOn with
        | _ i ih =>
          intro hi
          cases hl : listed1.getD i false with
          | true => rfl
          | false =>
            have : i ∈ Region.ready .any l1.toArray listed1 := by
              rw [mem_ready]
              refine ⟨by rw [getD_tf (by omega)]; exact hl, l1[i], by simp [hi], fun e he hb => ?_⟩
              have := back i _ (List.getElem?_eq_getElem hi) e (by simpa using he) hb
              exact ih e.on this (by omega)
            rw [hr] at this; cases this
      exact tail_run3 ht l2.length 0 (by omega) listed a w hs (fun i hi => by rw [heq i (by omega)]; exact all i (by omega)) (fun i hi hil => hfa i (by omega) hil) (hn a w (h.1 hr)) fuel (by omega)
    · obtain ⟨f, rfl⟩ : ∃ f, fuel = f + 1 := ⟨fuel - 1, by omega⟩
      obtain ⟨i0, hi0⟩ := List.exists_mem_of_ne_nil _ hr
      have hi0' := hi0
      rw [mem_ready] at hi0'
      obtain ⟨z0, o0, zo, za⟩ := hi0'
      have hl0 : i0 < l1.length := by have := (Array.getElem?_eq_some_iff.1 zo).1; simpa using this
      rw [getD_tf (by omega)] at z0
      have up : ∀ i, i ∈ Region.ready .any (l1 ++ l2).toArray listed ↔ i ∈ Region.ready .any l1.toArray listed1 := by
        intro i
        rw [mem_ready, mem_ready]
        constructor
        · rintro ⟨h0, o, ho, haft⟩
          have hil : i < (l1 ++ l2).length := by have := (Array.getElem?_eq_some_iff.1 ho).1; simpa using this
          rw [getD_tf (by omega)] at h0
          rcases Nat.lt_or_ge i l1.length with g | g
          · have ho1 : l1[i]? = some o := by rw [List.getElem?_toArray, List.getElem?_append_left g] at ho; exact ho
            refine ⟨by rw [getD_tf (by omega), ← heq i g]; exact h0, o, by simpa using ho1, fun e he hb => ?_⟩
            have := back i o ho1 e (by simpa using he) hb
            rw [← heq _ (by omega)]; exact haft e he hb
          · exfalso
            obtain ⟨j, rfl⟩ : ∃ j, i = l1.length + j := ⟨i - l1.length, by omega⟩
            have ho2 : l2[j]? = some o := by rw [List.getElem?_toArray, List.getElem?_append_right (Nat.le_add_right _ _), Nat.add_sub_cancel_left] at ho; exact ho
            rcases Nat.eq_zero_or_pos j with hj0 | hj0
            · have hre := (tailOk3_get ht ho2).1.1 hj0 i0 (by omega)
              have := reach_done hcl l1.length o.after.toList i0 (fun e he hb => by
                have hlt := (tailOk3_get ht ho2).2 e he hb
                rw [← heq _ (by omega)]
                exact haft e (by simpa using he) hb) hre
              rw [z0] at this
              cases this
            · obtain ⟨e, he, hb, hon⟩ := hasE_spec ((tailOk3_get ht ho2).1.2 (by omega))
              have := haft e (by simpa using he) hb
              rw [hon, hfa _ (by omega) (by omega)] at this
              cases this
        · rintro ⟨h0, o, ho, haft⟩
          have g : i < l1.length := by have := (Array.getElem?_eq_some_iff.1 ho).1; simpa using this
          have ho1 : l1[i]? = some o := by simpa using ho
          rw [getD_tf (by omega)] at h0
          refine ⟨by rw [getD_tf (by simp at hs; omega), heq i g]; exact h0, o, by rw [List.getElem?_toArray, List.getElem?_append_left g]; exact ho1, fun e he hb => ?_⟩
          have := back i o ho1 e (by simpa using he) hb
          rw [heq _ (by omega)]; exact haft e he hb
      refine ⟨fun hr2 => ?_, fun i hi => ?_⟩
      · have := (up i0).2 hi0
        rw [hr2] at this; cases this
      · have hi1 := (up i).1 hi
        have hw := h.2 i hi1
        rw [mem_ready] at hi1
        obtain ⟨h0, o, ho, haft⟩ := hi1
        have g : i < l1.length := by have := (Array.getElem?_eq_some_iff.1 ho).1; simpa using this
        have ho1 : l1[i]? = some o := by simpa using ho
        have hoc : (l1 ++ l2).toArray[i]? = some o := by rw [List.getElem?_toArray, List.getElem?_append_left g]; exact ho1
        unfold wpOpIn at hw ⊢
        simp only [ho, hoc] at hw ⊢
        have hwant : Region.wanted o (yielded (l1 ++ l2).toArray a.tmps) = Region.wanted o (yielded l1.toArray a.tmps) := by
          unfold Region.wanted
          have hgo := List.all_eq_true.1 hg o (List.mem_of_getElem? ho1)
          split
          · rfl
          · rename_i j want he
            rw [he] at hgo
            have hj := blt_lt hgo
            have : yielded (l1 ++ l2).toArray a.tmps j = yielded l1.toArray a.tmps j := by
              unfold yielded
              rw [List.getElem?_toArray, List.getElem?_toArray, List.getElem?_append_left hj]
            rw [this]
        rw [hwant]
        have next : ∀ a w, wpAnyIn F n P .any l1.toArray Qt f1 (listed1.setIfInBounds i true) a w → wpAnyIn F n P .any (l1 ++ l2).toArray Q f (listed.setIfInBounds i true) a w := by
          intro a w h
          refine ih _ _ a w (by simpa using hs1) (by simpa using hs) (fun j hj => ?_) (fun j hj hjl => ?_) ?_ h f (by omega)
          · by_cases e : i = j
            · subst e
              have : i < listed.size := by simp at hs; omega
              simp [Array.getD_eq_getD_getElem?, hs1, g, this]
            · rw [getD_set_ne false e, getD_set_ne false e]; exact heq j hj
          · rw [getD_set_ne false (by omega)]; exact hfa j hj hjl
          · intro j o' ho' hl' e he hb
            have hback := back j o' ho' e he hb
            have hjl : j < l1.length := (List.getElem?_eq_some_iff.1 ho').1
            by_cases e1 : i = e.on
            · subst e1; simp [Array.getD_eq_getD_getElem?, hs1, g]
            · rw [getD_set_ne false e1]
              by_cases e2 : i = j
              · subst e2
                rw [ho1] at ho'
                cases ho'
                exact haft e (by simpa using he) hb
              · rw [getD_set_ne false e2] at hl'
                exact hcl j o' ho' hl' e he hb
        split at hw
        · rename_i hq2
          rw [if_pos hq2]
          exact wpIn_monoN hq next hw
        · rename_i hq2
          rw [if_neg hq2]
          exact ⟨hw.1, next _ _ hw.2⟩
end
section
variable {P : Program} {td : TDs} [T : TOK P td] {G : Glo} {N : Nat} {Q : AQ} {S Sb : SL} {L : List LB} {l l1 l2 : List Oper}
theorem awp_drawT3 (n : Nat) {id : Nat} {ds : List Nat} (h1 : l.take n = l1) (h2 : l.drop n = l2) (hm : P.follows .mixedOrders = true) (hk : drawOk N 0 [] l1 = true) (ht : tailOk3 l1 l1.length l2 = true) (hg : gdOk l1.length l1 = true) (hds : dsts l1 = ds) (hS : Strip ds S Sb)
    (h : awpD P G N (fun S' L' => awpL P G N l.toArray l2 Q S' L') Sb L.length l1 [] ⟨L, [], [], false⟩) : awp P G N (.region id l.toArray true) Q S L := by
  have hl : l = l1 ++ l2 := by rw [← h1, ← h2, List.take_append_drop]
  subst hl
  clear h1 h2
  have hb : (Sb.all fun p => !(l1.any fun o => match o.dst with | some d => Nat.beq d p.1 | none => false)) = true := by
    rw [List.all_eq_true]
    rintro ⟨t, x⟩ hp
    have hm := strip_keep hS t x hp
    rw [Bool.not_eq_true', List.any_eq_false]
    intro o ho
    cases hd : o.dst with
    | none => simp
    | some d =>
      have hdm : d ∈ ds := by rw [← hds]; exact List.mem_filterMap.2 ⟨o, ho, hd⟩
      simp only [Bool.not_eq_true]
      cases he : Nat.beq d t with
      | false => rfl
      | true =>
        have := Nat.eq_of_beq_eq_true he
        subst this
        rw [memN_of hdm] at hm; cases hm
  intro cx a hc
  refine wpIn_region_any hm ?_
  have hA := draw_any (Q := thenQ (fun S' L' => awpL P G N (l1 ++ l2).toArray l2 Q S' L') Q) hk (fun t x hx => (hS.get t x hx).1) hb h cx a hc
  refine body_run3 ht hg hk (Qt := conc G N (thenQ (fun S' L' => awpL P G N (l1 ++ l2).toArray l2 Q S' L') Q) cx) (fun e a w hne q => ?_) (fun a w q => ?_) _ _ _ _ _ (by simp) (by simp) (fun i hi => ?_) (fun i hi hil => ?_) (fun i o ho hl => ?_) hA _ (by simp)
  · obtain ⟨S', L', c', q1, q2, q3, q4⟩ := q
    refine ⟨S', L', c', ?_, q2, q3, q4⟩
    cases e with
    | normal => exact absurd rfl hne
    | _ => exact q1
  · obtain ⟨S', L', c', q1, q2, q3, q4⟩ := q
    subst q4
    exact wpListIn_mono (fun e a w r => r.trans q3) _ _ _ (q1 c' a q2)
  · have hi2 : i < l1.length + l2.length := by omega
    simp [Array.getD_eq_getD_getElem?, hi, hi2]
  · simp at hil
    simp [Array.getD_eq_getD_getElem?, hil]
  · have hlt := (List.getElem?_eq_some_iff.1 ho).1
    simp [Array.getD_eq_getD_getElem?, hlt] at hl
end
end Go.Ac
end
