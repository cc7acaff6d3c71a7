/- A logic of trees over the model's steps, and the contracts of the functions that the laws reach: part 5 of 20. -/
import Derived.Test.YtigcjinpkngapaaGreatDoorC4
import Derived.Lib.AtoiAllCases
import Derived.Lib.AppendStr
set_option linter.unusedVariables false
set_option linter.unusedSimpArgs false
set_option linter.unusedSectionVars false
section
namespace Go.Proofs.YtigcjinpkngapaaGreatDoor
open Go.Ac
attribute [local irreducible] awp awpL Ev Ev2 EvS thenQ blockQ retQ PCalls OCalls
def laysItoa_ren : Go.Shelf.Ren := ⟨fun | 171 => 53 | 243 => 84 | 246 => 114 | 283 => 148 | 284 => 149 | 285 => 150 | 286 => 151 | 129 => 146 | 317 => 173 | 318 => 174 | 319 => 175 | 320 => 176 | 337 => 192 | 338 => 193 | n => n, fun | 3 => 3 | 9 => 9 | 2 => 2 | 4 => 4 | 171 => 184 | 0 => 0 | 53 => 153 | 37 => 75 | 5 => 5 | 173 => 186 | 212 => 207 | 51 => 182 | 20 => 20 | 213 => 208 | 46 => 118 | 232 => 229 | 233 => 230 | n => n, fun | 17 => 4 | 18 => 8 | 19 => 9 | n => n⟩
theorem laysItoa : Go.Proofs.LaysM.n171 Tryz.prog laysItoa_ren := {
  mixed := by kernel_rfl
  f129 := Tryz.func146.trans (congrArg some (by kernel_rfl))
  f171 := Tryz.func53.trans (congrArg some (by kernel_rfl))
  f243 := Tryz.func84.trans (congrArg some (by kernel_rfl))
  f246 := Tryz.func114.trans (congrArg some (by kernel_rfl))
  f283 := Tryz.func148.trans (congrArg some (by kernel_rfl))
  f284 := Tryz.func149.trans (congrArg some (by kernel_rfl))
  f285 := Tryz.func150.trans (congrArg some (by kernel_rfl))
  f286 := Tryz.func151.trans (congrArg some (by kernel_rfl))
  f317 := Tryz.func173.trans (congrArg some (by kernel_rfl))
  f318 := Tryz.func174.trans (congrArg some (by kernel_rfl))
  f319 := Tryz.func175.trans (congrArg some (by kernel_rfl))
  f320 := Tryz.func176.trans (congrArg some (by kernel_rfl))
  f337 := Tryz.func192.trans (congrArg some (by kernel_rfl))
  f338 := Tryz.func193.trans (congrArg some (by kernel_rfl))
  t0 := Tryz.underlying0
  a0 := Tryz.isAgg0
  z0 := Tryz.sizeOf0
  v0 := Tryz.zeroValue0
  t2 := Tryz.underlying2
  a2 := Tryz.isAgg2
  z2 := Tryz.sizeOf2
  v2 := Tryz.zeroValue2
  t3 := Tryz.underlying3
  a3 := Tryz.isAgg3
  z3 := Tryz.sizeOf3
  v3 := Tryz.zeroValue3
  t4 := Tryz.underlying4
  a4 := Tryz.isAgg4
  z4 := Tryz.sizeOf4
  v4 := Tryz.zeroValue4
  t5 := Tryz.underlying5
  a5 := Tryz.isAgg5
  z5 := Tryz.sizeOf5
  v5 := Tryz.zeroValue5
  t9 := Tryz.underlying9
  a9 := Tryz.isAgg9
  z9 := Tryz.sizeOf9
  v9 := Tryz.zeroValue9
  t20 := Tryz.underlying20
  a20 := Tryz.isAgg20
  z20 := Tryz.sizeOf20
  v20 := Tryz.zeroValue20
  t37 := Tryz.underlying75
  a37 := Tryz.isAgg75
  z37 := Tryz.sizeOf75
  v37 := Tryz.zeroValue75
  t46 := Tryz.underlying118
  a46 := Tryz.isAgg118
  z46 := Tryz.sizeOf118
  v46 := Tryz.zeroValue118
  t51 := Tryz.underlying182
  a51 := Tryz.isAgg182
  z51 := Tryz.sizeOf182
  v51 := Tryz.zeroValue182
  t53 := Tryz.underlying153
  a53 := Tryz.isAgg153
  z53 := Tryz.sizeOf153
  v53 := Tryz.zeroValue153
  t171 := Tryz.underlying184
  a171 := Tryz.isAgg184
  z171 := Tryz.sizeOf184
  v171 := Tryz.zeroValue184
  t173 := Tryz.underlying186
  a173 := Tryz.isAgg186
  z173 := Tryz.sizeOf186
  v173 := Tryz.zeroValue186
  t212 := Tryz.underlying207
  a212 := Tryz.isAgg207
  z212 := Tryz.sizeOf207
  v212 := Tryz.zeroValue207
  t213 := Tryz.underlying208
  a213 := Tryz.isAgg208
  z213 := Tryz.sizeOf208
  t232 := Tryz.underlying229
  a232 := Tryz.isAgg229
  z232 := Tryz.sizeOf229
  v232 := Tryz.zeroValue229
  t233 := Tryz.underlying230
  a233 := Tryz.isAgg230
  z233 := Tryz.sizeOf230
  v233 := Tryz.zeroValue230
  g17 := by kernel_rfl
  g18 := by kernel_rfl
  g19 := by kernel_rfl
  i0 := by kernel_rfl
  i2 := by kernel_rfl
  i3 := by kernel_rfl
  i4 := by kernel_rfl
  i5 := by kernel_rfl
  i9 := by kernel_rfl
  i20 := by kernel_rfl
  i37 := by kernel_rfl
  i46 := by kernel_rfl
  i51 := by kernel_rfl
  i53 := by kernel_rfl
  i171 := by kernel_rfl
  i173 := by kernel_rfl
  i212 := by kernel_rfl
  i232 := by kernel_rfl
  i233 := by kernel_rfl
  m17 := by kernel_rfl
  m18 := by kernel_rfl
  m19 := by kernel_rfl }
def laysAtoi_ren : Go.Shelf.Ren := ⟨fun | 172 => 132 | 244 => 164 | 245 => 165 | 247 => 186 | 279 => 187 | 280 => 188 | 281 => 189 | 282 => 190 | 287 => 198 | 316 => 199 | 171 => 53 | 205 => 200 | 321 => 201 | 322 => 202 | 243 => 84 | 246 => 114 | 283 => 148 | 284 => 149 | 285 => 150 | 286 => 151 | 129 => 146 | 317 => 173 | 318 => 174 | 319 => 175 | 320 => 176 | 337 => 192 | 338 => 193 | n => n, fun | 9 => 9 | 3 => 3 | 75 => 60 | 76 => 84 | 4 => 4 | 5 => 5 | 167 => 214 | 37 => 75 | 0 => 0 | 85 => 215 | 2 => 2 | 168 => 217 | 53 => 153 | 175 => 224 | 46 => 118 | 210 => 227 | 127 => 120 | 145 => 234 | 143 => 232 | 21 => 21 | 171 => 184 | 173 => 186 | 212 => 207 | 51 => 182 | 20 => 20 | 213 => 208 | 232 => 229 | 233 => 230 | 80 => 87 | n => n, fun | 15 => 6 | 16 => 7 | 17 => 4 | 18 => 8 | 19 => 9 | n => n⟩
theorem laysAtoi : Go.Proofs.LaysC.n172 Tryz.prog laysAtoi_ren := {
  mixed := by kernel_rfl
  f129 := Tryz.func146.trans (congrArg some (by kernel_rfl))
  f171 := Tryz.func53.trans (congrArg some (by kernel_rfl))
  f172 := Tryz.func132.trans (congrArg some (by kernel_rfl))
  f205 := Tryz.func200.trans (congrArg some (by kernel_rfl))
  f243 := Tryz.func84.trans (congrArg some (by kernel_rfl))
  f244 := Tryz.func164.trans (congrArg some (by kernel_rfl))
  f245 := Tryz.func165.trans (congrArg some (by kernel_rfl))
  f246 := Tryz.func114.trans (congrArg some (by kernel_rfl))
  f247 := Tryz.func186.trans (congrArg some (by kernel_rfl))
  f279 := Tryz.func187.trans (congrArg some (by kernel_rfl))
  f280 := Tryz.func188.trans (congrArg some (by kernel_rfl))
  f281 := Tryz.func189.trans (congrArg some (by kernel_rfl))
  f282 := Tryz.func190.trans (congrArg some (by kernel_rfl))
  f283 := Tryz.func148.trans (congrArg some (by kernel_rfl))
  f284 := Tryz.func149.trans (congrArg some (by kernel_rfl))
  f285 := Tryz.func150.trans (congrArg some (by kernel_rfl))
  f286 := Tryz.func151.trans (congrArg some (by kernel_rfl))
  f287 := Tryz.func198.trans (congrArg some (by kernel_rfl))
  f316 := Tryz.func199.trans (congrArg some (by kernel_rfl))
  f317 := Tryz.func173.trans (congrArg some (by kernel_rfl))
  f318 := Tryz.func174.trans (congrArg some (by kernel_rfl))
  f319 := Tryz.func175.trans (congrArg some (by kernel_rfl))
  f320 := Tryz.func176.trans (congrArg some (by kernel_rfl))
  f321 := Tryz.func201.trans (congrArg some (by kernel_rfl))
  f322 := Tryz.func202.trans (congrArg some (by kernel_rfl))
  f337 := Tryz.func192.trans (congrArg some (by kernel_rfl))
  f338 := Tryz.func193.trans (congrArg some (by kernel_rfl))
  t0 := Tryz.underlying0
  a0 := Tryz.isAgg0
  z0 := Tryz.sizeOf0
  v0 := Tryz.zeroValue0
  t2 := Tryz.underlying2
  a2 := Tryz.isAgg2
  z2 := Tryz.sizeOf2
  v2 := Tryz.zeroValue2
  t3 := Tryz.underlying3
  a3 := Tryz.isAgg3
  z3 := Tryz.sizeOf3
  v3 := Tryz.zeroValue3
  t4 := Tryz.underlying4
  a4 := Tryz.isAgg4
  z4 := Tryz.sizeOf4
  v4 := Tryz.zeroValue4
  t5 := Tryz.underlying5
  a5 := Tryz.isAgg5
  z5 := Tryz.sizeOf5
  v5 := Tryz.zeroValue5
  t9 := Tryz.underlying9
  a9 := Tryz.isAgg9
  z9 := Tryz.sizeOf9
  v9 := Tryz.zeroValue9
  t20 := Tryz.underlying20
  a20 := Tryz.isAgg20
  z20 := Tryz.sizeOf20
  v20 := Tryz.zeroValue20
  t21 := Tryz.underlying21
  a21 := Tryz.isAgg21
  z21 := Tryz.sizeOf21
  v21 := Tryz.zeroValue21
  t37 := Tryz.underlying75
  a37 := Tryz.isAgg75
  z37 := Tryz.sizeOf75
  v37 := Tryz.zeroValue75
  t46 := Tryz.underlying118
  a46 := Tryz.isAgg118
  z46 := Tryz.sizeOf118
  v46 := Tryz.zeroValue118
  t51 := Tryz.underlying182
  a51 := Tryz.isAgg182
  z51 := Tryz.sizeOf182
  v51 := Tryz.zeroValue182
  t53 := Tryz.underlying153
  a53 := Tryz.isAgg153
  z53 := Tryz.sizeOf153
  v53 := Tryz.zeroValue153
  t75 := Tryz.underlying60
  a75 := Tryz.isAgg60
  z75 := Tryz.sizeOf60
  v75 := Tryz.zeroValue60
  t76 := Tryz.underlying84
  a76 := Tryz.isAgg84
  z76 := Tryz.sizeOf84
  v76 := Tryz.zeroValue84
  t85 := Tryz.underlying215
  a85 := Tryz.isAgg215
  z85 := Tryz.sizeOf215
  v85 := Tryz.zeroValue215
  t127 := Tryz.underlying120
  a127 := Tryz.isAgg120
  z127 := Tryz.sizeOf120
  v127 := Tryz.zeroValue120
  t143 := Tryz.underlying232
  a143 := Tryz.isAgg232
  z143 := Tryz.sizeOf232
  v143 := Tryz.zeroValue232
  t145 := Tryz.underlying234
  a145 := Tryz.isAgg234
  z145 := Tryz.sizeOf234
  v145 := Tryz.zeroValue234
  t167 := Tryz.underlying214
  a167 := Tryz.isAgg214
  z167 := Tryz.sizeOf214
  v167 := Tryz.zeroValue214
  t168 := Tryz.underlying217
  a168 := Tryz.isAgg217
  z168 := Tryz.sizeOf217
  v168 := Tryz.zeroValue217
  t171 := Tryz.underlying184
  a171 := Tryz.isAgg184
  z171 := Tryz.sizeOf184
  v171 := Tryz.zeroValue184
  t173 := Tryz.underlying186
  a173 := Tryz.isAgg186
  z173 := Tryz.sizeOf186
  v173 := Tryz.zeroValue186
  t175 := Tryz.underlying224
  a175 := Tryz.isAgg224
  z175 := Tryz.sizeOf224
  v175 := Tryz.zeroValue224
  t210 := Tryz.underlying227
  a210 := Tryz.isAgg227
  z210 := Tryz.sizeOf227
  v210 := Tryz.zeroValue227
  t212 := Tryz.underlying207
  a212 := Tryz.isAgg207
  z212 := Tryz.sizeOf207
  v212 := Tryz.zeroValue207
  t213 := Tryz.underlying208
  a213 := Tryz.isAgg208
  z213 := Tryz.sizeOf208
  t232 := Tryz.underlying229
  a232 := Tryz.isAgg229
  z232 := Tryz.sizeOf229
  v232 := Tryz.zeroValue229
  t233 := Tryz.underlying230
  a233 := Tryz.isAgg230
  z233 := Tryz.sizeOf230
  v233 := Tryz.zeroValue230
  g15 := by kernel_rfl
  g16 := by kernel_rfl
  g17 := by kernel_rfl
  g18 := by kernel_rfl
  g19 := by kernel_rfl
  t80 := Tryz.underlying87
  a80 := Tryz.isAgg87
  z80 := Tryz.sizeOf87
  v80 := Tryz.zeroValue87
  i0 := by kernel_rfl
  i2 := by kernel_rfl
  i3 := by kernel_rfl
  i4 := by kernel_rfl
  i5 := by kernel_rfl
  i9 := by kernel_rfl
  i20 := by kernel_rfl
  i21 := by kernel_rfl
  i37 := by kernel_rfl
  i46 := by kernel_rfl
  i51 := by kernel_rfl
  i53 := by kernel_rfl
  i75 := by kernel_rfl
  i76 := by kernel_rfl
  i80 := by kernel_rfl
  i85 := by kernel_rfl
  i127 := by kernel_rfl
  i143 := by kernel_rfl
  i145 := by kernel_rfl
  i167 := by kernel_rfl
  i168 := by kernel_rfl
  i171 := by kernel_rfl
  i173 := by kernel_rfl
  i175 := by kernel_rfl
  i210 := by kernel_rfl
  i212 := by kernel_rfl
  i232 := by kernel_rfl
  i233 := by kernel_rfl
  m15 := by kernel_rfl
  m16 := by kernel_rfl
  m17 := by kernel_rfl
  m18 := by kernel_rfl
  m19 := by kernel_rfl
  c0 := by kernel_rfl
  c2 := by kernel_rfl
  c3 := by kernel_rfl
  c4 := by kernel_rfl
  c5 := by kernel_rfl
  c9 := by kernel_rfl
  c20 := by kernel_rfl
  c21 := by kernel_rfl
  c37 := by kernel_rfl
  c46 := by kernel_rfl
  c51 := by kernel_rfl
  c53 := by kernel_rfl
  c75 := by kernel_rfl
  c76 := by kernel_rfl
  c80 := by kernel_rfl
  c85 := by kernel_rfl
  c127 := by kernel_rfl
  c143 := by kernel_rfl
  c145 := by kernel_rfl
  c167 := by kernel_rfl
  c168 := by kernel_rfl
  c171 := by kernel_rfl
  c173 := by kernel_rfl
  c175 := by kernel_rfl
  c210 := by kernel_rfl
  c212 := by kernel_rfl
  c213 := by kernel_rfl
  c232 := by kernel_rfl
  c233 := by kernel_rfl }
abbrev limCs : List AV := [.v (.int .i64 (-1099511627776)), .v (.int .i64 1099511627776)]
abbrev errCs : List AV := [.ifc 232 .any]
structure NumG (g : List (Nat × List AV)) : Prop where
  lim : (1, limCs) ∈ g
  pow : (4, powCs) ∈ g
  syn : (6, errCs) ∈ g
  rng : (7, errCs) ∈ g
variable {g : List (Nat × List AV)}
theorem Itoa_spec (hg : NumG g) (n : Int) (h : -9223372036854775808 ≤ n ∧ n ≤ 9223372036854775807) : PCalls Tryz.prog g 53 [vi n] (.v (.string (numT n))) :=
  itoa_P laysItoa (callable Tryz.func53 rfl (by kernel_rfl)) (by kernel_rfl) hg.pow n h
theorem Atoi_spec (hg : NumG g) (s : ByteArray) (h : s.size ≤ 281474976710656) : PCalls Tryz.prog g 132 [.v (.string s)] (atoiV 217 s) :=
  atoi_P laysAtoi (callable Tryz.func132 rfl (by kernel_rfl)) hg.syn hg.rng s h
theorem NText_spec (hg : NumG g) (n : Int) (h : -9223372036854775808 ≤ n ∧ n ≤ 9223372036854775807) : PCalls Tryz.prog g 29 [vi n] (.v (.string (numT n))) := by
  have h1 := Itoa_spec hg n h
  refine pcalls' Tryz.func29 Tryz.ntmps29 rfl rfl rfl ?_
  repeat' (first
   | refine stn [] ?_
   | ((with_reducible refine is_gd ?_); refine awpL_split rfl rfl (fun h => ?_) (fun h => ?_))
   | ((with_reducible refine is_awp ?_); refine awp_cond rfl (fun h => ?_) (fun h => ?_))
   | fail)
  exact retP rfl rfl
end Go.Proofs.YtigcjinpkngapaaGreatDoor
end
section
namespace Go.Proofs.YtigcjinpkngapaaGreatDoor
open Go.Ac Go.MapKept
abbrev intV (n : Int) : Value := .int .i64 n
theorem intKey : KeyOk Tryz.prog 3 (IsKey (.int .i64)) := KeyOk.plain Tryz.underlying3
theorem intV_inj (a b : Int) (h : intV a = intV b) : a = b := by simpa [intV] using h
theorem intV_R (n : Int) : ∀ c y, R c (vi n) y → y = intV n := by
  intro c y h; simpa only [R] using h
theorem intV_ok (n : Int) : IsKey (.int .i64) (intV n) := rfl
end Go.Proofs.YtigcjinpkngapaaGreatDoor
end
section
namespace Go.Proofs.YtigcjinpkngapaaGreatDoor
open Go.Lib
def sgnd (n : Int) (m : Nat) : Int := if n < 0 then -(m : Int) else m
theorem sgnd_self (n : Int) : sgnd n n.natAbs = n := by unfold sgnd; split <;> omega
theorem sgnd_zero (n : Int) (m : Nat) : sgnd n m = 0 ↔ m = 0 := by unfold sgnd; split <;> omega
theorem sgnd_bound (n : Int) (m : Nat) (hm : m ≤ n.natAbs) (h : -9223372036854775808 ≤ n ∧ n ≤ 9223372036854775807) : -9223372036854775808 ≤ sgnd n m ∧ sgnd n m ≤ 9223372036854775807 := by unfold sgnd; split <;> omega
theorem sgnd_div (n : Int) (m : Nat) : (sgnd n m).tdiv 10 = sgnd n (m / 10) := by
  unfold sgnd
  split
  · rw [Int.neg_tdiv, Int.tdiv_eq_ediv_of_nonneg (by omega)]; omega
  · rw [Int.tdiv_eq_ediv_of_nonneg (by omega)]; omega
theorem sgnd_mod (n : Int) (m : Nat) : (sgnd n m).tmod 10 = sgnd n (m % 10) := by
  unfold sgnd
  split
  · rw [Int.neg_tmod, Int.tmod_eq_emod_of_nonneg (by omega)]; omega
  · rw [Int.tmod_eq_emod_of_nonneg (by omega)]; omega
theorem sgnd_small (n : Int) (m : Nat) : -9 ≤ sgnd n (m % 10) ∧ sgnd n (m % 10) ≤ 9 := by unfold sgnd; split <;> omega
def lastD (m : Nat) : UInt8 := UInt8.ofNat (48 + m % 10)
theorem lastD_nat (m : Nat) : (lastD m).toNat = 48 + m % 10 := by
  have hm : (48 + m % 10) % 256 = 48 + m % 10 := Nat.mod_eq_of_lt (by omega)
  simp [lastD, UInt8.toNat_ofNat', hm]
def restD (m : Nat) (l : List UInt8) : List UInt8 := (if m = 0 then [] else decDigits m) ++ l
theorem restD_step {m : Nat} (h : m ≠ 0) (l : List UInt8) : restD (m / 10) (lastD m :: l) = restD m l := by
  unfold restD
  rw [if_neg h]
  by_cases hs : m < 10
  · rw [if_pos (by omega), decDigits, dif_pos hs]
    have : m % 10 = m := Nat.mod_eq_of_lt hs
    simp [lastD, this]
  · rw [if_neg (by omega)]
    conv => rhs; rw [decDigits, dif_neg hs]
    simp [lastD]
theorem restD_len (m : Nat) (l : List UInt8) : l.length ≤ (restD m l).length := by unfold restD; simp
theorem nDigits_20 (u : Nat) (h : u < 18446744073709551616) : nDigits u ≤ 20 := by
  rcases Nat.eq_zero_or_pos u with h0 | h0
  · subst h0; rw [nDigits_small (by omega)]; omega
  · have := numDigits_eq u h0 h
    split at this <;> omega
theorem itoa_len (n : Int) (h : -9223372036854775808 ≤ n ∧ n ≤ 9223372036854775807) : 1 ≤ (itoa n).length ∧ (itoa n).length ≤ 21 := by
  unfold itoa
  split
  · rw [List.length_cons, decDigits_length]
    have := nDigits_20 n.natAbs (by omega)
    omega
  · rw [decDigits_length]
    have := nDigits_20 n.toNat (by omega)
    have := nDigits_pos n.toNat
    omega
theorem numT_len (n : Int) (h : -9223372036854775808 ≤ n ∧ n ≤ 9223372036854775807) : 1 ≤ (numT n).size ∧ (numT n).size ≤ 21 := by
  have := itoa_len n h
  simpa [numT, ByteArray.size] using this
theorem bytes_cat (a b : List UInt8) : (⟨a.toArray⟩ : ByteArray) ++ ⟨b.toArray⟩ = ⟨(a ++ b).toArray⟩ := by
  apply ByteArray.ext
  simp [ByteArray.data_append]
theorem numT_neg {n : Int} (h : n < 0) : numT n = ⟨(45 :: decDigits n.natAbs).toArray⟩ := by unfold numT itoa; rw [if_pos h]
theorem numT_pos {n : Int} (h : ¬ n < 0) : numT n = ⟨(decDigits n.natAbs).toArray⟩ := by unfold numT itoa; rw [if_neg h]; rw [show n.toNat = n.natAbs by omega]
theorem numT_dig {n : Nat} (h : n < 10) : numT n = ⟨#[UInt8.ofNat (48 + n)]⟩ := by
  rw [numT_pos (by omega), show (n : Int).natAbs = n by omega, decDigits_one h]
end Go.Proofs.YtigcjinpkngapaaGreatDoor
end
section
namespace Go.Proofs.YtigcjinpkngapaaGreatDoor
open Go.Ac
attribute [local irreducible] awp awpL Ev Ev2 EvS thenQ blockQ retQ PCalls OCalls
variable {g : List (Nat × List AV)}
theorem u8_small {n : Int} {m : Nat} (h : n = m) (hm : m < 256) : IntKind.u8.wrap n = (m : Int) := by
  subst h
  rw [IntKind.wrap_u8]; omega
set_option maxHeartbeats 2000000 in
theorem rNText_spec (n : Int) (h : -9223372036854775808 ≤ n ∧ n ≤ 9223372036854775807) : PCalls Tryz.prog g 62 [vi n] (.v (.string (numT n))) := by
  refine pcalls' Tryz.func62 Tryz.ntmps62 rfl rfl rfl ?_
  by_cases h0 : n = 0
  · have c0 : decide (n = 0) = true := decide_eq_true h0
    repeat' (first
     | refine stn [] ?_
     | ((with_reducible refine is_gd ?_); refine awpL_split rfl rfl (fun h => ?_) (fun h => ?_))
     | ((with_reducible refine is_awp ?_); refine awp_cond rfl (fun h => ?_) (fun h => ?_))
     | fail)
    refine retP rfl ?_
    subst h0
    rw [show (0 : Int) = ((0 : Nat) : Int) from rfl, numT_dig (by omega)]
    rfl
  have c0 : decide (n = 0) = false := decide_eq_false h0
  repeat' (first
   | refine stn [] ?_
   | ((with_reducible refine is_gd ?_); refine awpL_split rfl rfl (fun h => ?_) (fun h => ?_))
   | ((with_reducible refine is_awp ?_); refine awp_cond rfl (fun h => ?_) (fun h => ?_))
   | fail)
  refine awp_for2 (α := Nat) (β := List UInt8) 0 (fun m l => [(0, vi n), (3, .v (.string ⟨l.toArray⟩)), (4, vi (sgnd n m))]) (fun _ _ => []) (fun m l => m ≤ n.natAbs ∧ restD m l = Go.Lib.decDigits n.natAbs) (fun m _ => m) n.natAbs []
    (by rw [sgnd_self]; exact ⟨(.cons rfl rfl (.cons rfl rfl (.cons rfl rfl .nil))), rfl, rfl, rfl⟩) ⟨Nat.le_refl _, by unfold restD; rw [if_neg (by omega)]; simp⟩ ?_
  rintro m l ⟨hm, hl⟩
  have hb := sgnd_bound n m hm h
  by_cases hz : m = 0
  · have c1 : (!decide (sgnd n m = 0)) = false := by simp [sgnd_zero, hz]
    have hl' : l = Go.Lib.decDigits n.natAbs := by rw [← hl, hz]; rfl
    have hsz : (⟨l.toArray⟩ : ByteArray).size ≤ 21 := by
      rw [hl']
      have := nDigits_20 n.natAbs (by omega)
      simp only [ByteArray.size, List.size_toArray, Go.Lib.decDigits_length]; omega
    by_cases hn : n < 0
    · have c2 : decide (n < 0) = true := decide_eq_true hn
      have e1 : (⟨#[45]⟩ : ByteArray) ++ ⟨l.toArray⟩ = numT n := by
        rw [numT_neg hn, hl', show (⟨#[45]⟩ : ByteArray) = ⟨[45].toArray⟩ from rfl, bytes_cat]; rfl
      have e2 : (⟨#[45]⟩ : ByteArray).size = 1 := rfl
      repeat' (first
       | ((with_reducible refine is_un ?_); refine awpL_ev (ev_catE rfl rfl (by omega) e1) rfl ?_)
       | refine stn [] ?_
       | ((with_reducible refine is_gd ?_); refine awpL_split rfl rfl (fun h => ?_) (fun h => ?_))
       | ((with_reducible refine is_awp ?_); refine awp_cond rfl (fun h => ?_) (fun h => ?_))
       | fail)
      exact retP rfl rfl
    · have c2 : decide (n < 0) = false := decide_eq_false hn
      have e1 : (⟨l.toArray⟩ : ByteArray) = numT n := by rw [numT_pos hn, hl']
      rw [e1]
      repeat' (first
       | refine stn [] ?_
       | ((with_reducible refine is_gd ?_); refine awpL_split rfl rfl (fun h => ?_) (fun h => ?_))
       | ((with_reducible refine is_awp ?_); refine awp_cond rfl (fun h => ?_) (fun h => ?_))
       | fail)
      exact retP rfl rfl
  · have c1 : (!decide (sgnd n m = 0)) = true := by simp [sgnd_zero, hz]
    have hq := sgnd_div n m
    have hr := sgnd_mod n m
    have hs := sgnd_small n m
    have hst := restD_step hz l
    have hd : (48 + m % 10 : Nat) < 256 := by omega
    have hk := lastD_nat m
    have hsz : (⟨l.toArray⟩ : ByteArray).size ≤ 21 := by
      have h1 := restD_len m l
      have := nDigits_20 n.natAbs (by omega)
      rw [hl, Go.Lib.decDigits_length] at h1
      simp only [ByteArray.size, List.size_toArray]; omega
    have e2 : (⟨[lastD m].toArray⟩ : ByteArray).size = 1 := rfl
    have e3 : (⟨[lastD m].toArray⟩ : ByteArray) ++ ⟨l.toArray⟩ = ⟨(lastD m :: l).toArray⟩ := by rw [bytes_cat]; rfl
    have hb2 : [[AV.v (.int .u8 (lastD m).toNat)]] = bytesL [lastD m] := rfl
    by_cases hn : sgnd n (m % 10) < 0
    · have c2 : decide (sgnd n (m % 10) < 0) = true := decide_eq_true hn
      have hw : IntKind.u8.wrap (48 + -sgnd n (m % 10)) = ((lastD m).toNat : Int) := by
        rw [hk]; refine u8_small ?_ hd
        unfold sgnd at hn ⊢; split at hn <;> rename_i hx <;> simp only [hx, if_true, if_false] <;> omega
      repeat' (first
       | ((with_reducible refine is_un ?_); (first | refine awpL_ev (ev_neg rfl ⟨by omega, by omega⟩) rfl ?_ | refine awpL_ev (ev_conv_int rfl rfl rfl rfl hw) rfl ?_ | refine awpL_ev (ev_bts rfl rfl rfl rfl rfl rfl rfl hb2 rfl) rfl ?_ | refine awpL_ev (ev_tdivE rfl rfl ⟨by omega, hb⟩ hq) rfl ?_ | refine awpL_ev (ev_tmodE rfl rfl (by omega) hr) rfl ?_ | refine awpL_ev (ev_catE rfl rfl (by omega) e3) rfl ?_))
       | refine stn [] ?_
       | ((with_reducible refine is_gd ?_); refine awpL_split rfl rfl (fun h => ?_) (fun h => ?_))
       | ((with_reducible refine is_awp ?_); refine awp_cond rfl (fun h => ?_) (fun h => ?_))
       | fail)
      exact ⟨m / 10, lastD m :: l, ⟨(.cons rfl rfl (.cons rfl rfl (.cons rfl rfl .nil))), rfl, rfl, rfl⟩, ⟨by omega, by rw [hst, hl]⟩, by omega⟩
    · have c2 : decide (sgnd n (m % 10) < 0) = false := decide_eq_false hn
      have hw : IntKind.u8.wrap (48 + sgnd n (m % 10)) = ((lastD m).toNat : Int) := by
        rw [hk]; refine u8_small ?_ hd
        unfold sgnd at hn ⊢; split at hn <;> rename_i hx <;> simp only [hx, if_true, if_false] <;> omega
      repeat' (first
       | ((with_reducible refine is_un ?_); (first | refine awpL_ev (ev_neg rfl ⟨by omega, by omega⟩) rfl ?_ | refine awpL_ev (ev_conv_int rfl rfl rfl rfl hw) rfl ?_ | refine awpL_ev (ev_bts rfl rfl rfl rfl rfl rfl rfl hb2 rfl) rfl ?_ | refine awpL_ev (ev_tdivE rfl rfl ⟨by omega, hb⟩ hq) rfl ?_ | refine awpL_ev (ev_tmodE rfl rfl (by omega) hr) rfl ?_ | refine awpL_ev (ev_catE rfl rfl (by omega) e3) rfl ?_))
       | refine stn [] ?_
       | ((with_reducible refine is_gd ?_); refine awpL_split rfl rfl (fun h => ?_) (fun h => ?_))
       | ((with_reducible refine is_awp ?_); refine awp_cond rfl (fun h => ?_) (fun h => ?_))
       | fail)
      exact ⟨m / 10, lastD m :: l, ⟨(.cons rfl rfl (.cons rfl rfl (.cons rfl rfl .nil))), rfl, rfl, rfl⟩, ⟨by omega, by rw [hst, hl]⟩, by omega⟩
end Go.Proofs.YtigcjinpkngapaaGreatDoor
end
section
namespace Go.Proofs.YtigcjinpkngapaaGreatDoor
open Go.Ac
attribute [local irreducible] awp awpL Ev Ev2 EvS thenQ blockQ retQ PCalls OCalls
variable {g : List (Nat × List AV)}
abbrev parseV (o : Option Int) : AV := .tup [vi (o.getD 0), vb o.isSome]
def GN : List (Nat × List AV) := [(1, limCs), (4, powCs), (6, errCs), (7, errCs)]
theorem GN_num : NumG GN := ⟨by simp [GN], by simp [GN], by simp [GN], by simp [GN]⟩
theorem NumG.sub (h : NumG g) : ∀ p ∈ GN, p ∈ g := by
  intro p hp
  simp only [GN, List.mem_cons, List.not_mem_nil, or_false] at hp
  rcases hp with rfl | rfl | rfl | rfl
  · exact h.lim
  · exact h.pow
  · exact h.syn
  · exact h.rng
set_option maxHeartbeats 1000000 in
theorem NParse_N (s : ByteArray) (hs : s.size ≤ 281474976710656) : PCalls Tryz.prog GN 96 [.v (.string s)] (parseV (numP s)) := by
  have hA := Atoi_spec GN_num s hs
  refine pcalls' Tryz.func96 Tryz.ntmps96 rfl rfl rfl ?_
  unfold atoiV at hA
  cases h : Go.Lib.atoiAll s.data.toList
  · rename_i n
    rw [h] at hA
    simp only at hA
    obtain ⟨b0, b1⟩ := Go.Lib.atoiAll_bounds h
    have hT := NText_spec GN_num n ⟨b0, b1⟩
    have hP : numP s = if numT n = s ∧ inNum n then some n else none := by unfold numP; rw [h]
    have d1 : decide (n < -1099511627776) = true ∨ decide (n < -1099511627776) = false := by cases decide (n < -1099511627776) <;> simp
    by_cases e1 : numT n = s
    · have c1 : (!decide (numT n = s)) = false := by simp [e1]
      by_cases e2 : n < -1099511627776
      · have c2 : decide (n < -1099511627776) = true := decide_eq_true e2
        rw [hP, if_neg (by omega)]
        repeat' (first
         | ((with_reducible refine is_un ?_); (first | refine awpL_ev (ev_ia_fp rfl rfl rfl rfl rfl (by decide)) rfl ?_ | refine awpL_ev (ev_ifc_nn rfl rfl rfl) rfl ?_))
         | refine stn [] ?_
         | ((with_reducible refine is_gd ?_); refine awpL_split rfl rfl (fun h => ?_) (fun h => ?_))
         | ((with_reducible refine is_awp ?_); refine awp_cond rfl (fun h => ?_) (fun h => ?_))
         | fail)
        exact retP rfl rfl
      have c2 : decide (n < -1099511627776) = false := decide_eq_false e2
      by_cases e3 : 1099511627776 < n
      · have c3 : decide (1099511627776 < n) = true := decide_eq_true e3
        rw [hP, if_neg (by omega)]
        repeat' (first
         | ((with_reducible refine is_un ?_); (first | refine awpL_ev (ev_ia_fp rfl rfl rfl rfl rfl (by decide)) rfl ?_ | refine awpL_ev (ev_ifc_nn rfl rfl rfl) rfl ?_))
         | refine stn [] ?_
         | ((with_reducible refine is_gd ?_); refine awpL_split rfl rfl (fun h => ?_) (fun h => ?_))
         | ((with_reducible refine is_awp ?_); refine awp_cond rfl (fun h => ?_) (fun h => ?_))
         | fail)
        exact retP rfl rfl
      have c3 : decide (1099511627776 < n) = false := decide_eq_false e3
      rw [hP, if_pos ⟨e1, by omega, by omega⟩]
      repeat' (first
       | ((with_reducible refine is_un ?_); (first | refine awpL_ev (ev_ia_fp rfl rfl rfl rfl rfl (by decide)) rfl ?_ | refine awpL_ev (ev_ifc_nn rfl rfl rfl) rfl ?_))
       | refine stn [] ?_
       | ((with_reducible refine is_gd ?_); refine awpL_split rfl rfl (fun h => ?_) (fun h => ?_))
       | ((with_reducible refine is_awp ?_); refine awp_cond rfl (fun h => ?_) (fun h => ?_))
       | fail)
      exact retP rfl rfl
    · have c1 : (!decide (numT n = s)) = true := by simp [e1]
      rw [hP, if_neg (fun q => e1 q.1)]
      repeat' (first
       | ((with_reducible refine is_un ?_); (first | refine awpL_ev (ev_ia_fp rfl rfl rfl rfl rfl (by decide)) rfl ?_ | refine awpL_ev (ev_ifc_nn rfl rfl rfl) rfl ?_))
       | refine stn [] ?_
       | ((with_reducible refine is_gd ?_); refine awpL_split rfl rfl (fun h => ?_) (fun h => ?_))
       | ((with_reducible refine is_awp ?_); refine awp_cond rfl (fun h => ?_) (fun h => ?_))
       | fail)
      exact retP rfl rfl
  · rw [h] at hA
    simp only at hA
    have hP : numP s = none := by unfold numP; rw [h]
    rw [hP]
    repeat' (first
     | ((with_reducible refine is_un ?_); refine awpL_ev (ev_ifc_ne rfl rfl rfl) rfl ?_)
     | refine stn [] ?_
     | ((with_reducible refine is_gd ?_); refine awpL_split rfl rfl (fun h => ?_) (fun h => ?_))
     | ((with_reducible refine is_awp ?_); refine awp_cond rfl (fun h => ?_) (fun h => ?_))
     | fail)
    exact retP rfl rfl
  · rw [h] at hA
    simp only at hA
    have hP : numP s = none := by unfold numP; rw [h]
    rw [hP]
    repeat' (first
     | ((with_reducible refine is_un ?_); refine awpL_ev (ev_ifc_ne rfl rfl rfl) rfl ?_)
     | refine stn [] ?_
     | ((with_reducible refine is_gd ?_); refine awpL_split rfl rfl (fun h => ?_) (fun h => ?_))
     | ((with_reducible refine is_awp ?_); refine awp_cond rfl (fun h => ?_) (fun h => ?_))
     | fail)
    exact retP rfl rfl
theorem NParse_spec (hN : NumG g) (s : ByteArray) (hs : s.size ≤ 281474976710656) : PCalls Tryz.prog g 96 [.v (.string s)] (parseV (numP s)) := (NParse_N s hs).sub hN.sub
theorem dropB_cons {l : List UInt8} {k : Nat} {c : UInt8} (h : l[k]? = some c) : l.drop k = c :: l.drop (k + 1) := by
  obtain ⟨h1, h2⟩ := List.getElem?_eq_some_iff.1 h
  rw [List.drop_eq_getElem_cons h1, h2]
theorem size_list (s : ByteArray) : s.data.toList.length = s.size := by rw [Array.length_toList]; rfl
theorem byteL_get {s : ByteArray} {k : Nat} {c : UInt8} (h : s.data.toList[k]? = some c) : 0 ≤ (k : Int) ∧ s.data[(k : Int).toNat]? = some c := ⟨by omega, by simpa using h⟩
set_option maxHeartbeats 4000000 in
theorem rNParse_spec (s : ByteArray) (hs : s.size ≤ 1000000) : PCalls Tryz.prog g 134 [.v (.string s)] (parseV (numP s)) := by
  have hlen := size_list s
  rw [numP_raw]
  refine pcalls' Tryz.func134 Tryz.ntmps134 rfl rfl rfl ?_
  have c45 : (sgn s = 1 ∧ ∃ c : UInt8, (0 ≤ (0 : Int) ∧ s.data[(0 : Int).toNat]? = some c) ∧ decide ((c.toNat : Int) = 45) = true ∧ decide ((0 : Int) < s.size) = true ∧ 1 ≤ s.size) ∨
      (sgn s = 0 ∧ ∃ c : UInt8, (0 ≤ (0 : Int) ∧ s.data[(0 : Int).toNat]? = some c) ∧ decide ((c.toNat : Int) = 45) = false ∧ decide ((0 : Int) < s.size) = true ∧ 0 ≤ s.size) ∨
      (sgn s = 0 ∧ ∃ c : UInt8, True ∧ True ∧ decide ((0 : Int) < s.size) = false ∧ 0 ≤ s.size) := by
    unfold sgn
    cases hh : s.data.toList with
    | nil =>
      rw [hh] at hlen
      exact .inr (.inr ⟨by simp, 0, trivial, trivial, decide_eq_false (by simp at hlen; omega), by omega⟩)
    | cons c r =>
      rw [hh, List.length_cons] at hlen
      have i0 := byteL_get (k := 0) (c := c) (by rw [hh]; rfl)
      by_cases hc : c = 45
      · exact .inl ⟨by simp [hc], c, i0, by rw [hc]; rfl, decide_eq_true (by omega), by omega⟩
      · refine .inr (.inl ⟨by simp [hc], c, i0, decide_eq_false (fun e => hc ?_), decide_eq_true (by omega), by omega⟩)
        exact UInt8.toNat_inj.1 (by have : (45 : UInt8).toNat = 45 := rfl; omega)
  rcases c45 with ⟨hg, c0, i0, d0, d1, hle⟩ | ⟨hg, c0, i0, d0, d1, hle⟩ | ⟨hg, c0, i0, d0, d1, hle⟩
  all_goals
    unfold rawP
    rw [hg]
  · have d2 : decide ((1 : Int) = 1) = true := rfl
    repeat' (first
     | refine stn [] ?_
     | ((with_reducible refine is_gd ?_); refine awpL_split rfl rfl (fun h => ?_) (fun h => ?_))
     | ((with_reducible refine is_awp ?_); refine awp_cond rfl (fun h => ?_) (fun h => ?_))
     | fail)
    refine awp_for2 (α := Nat) (β := Nat) 0 (fun k acc => [(0, .v (.string s)), (4, vi 1), (5, vi acc), (6, vi k)]) (fun _ _ => []) (fun k acc => k ≤ s.size ∧ acc ≤ 1099511627776 ∧ runN (s.data.toList.drop 1) 0 = runN (s.data.toList.drop k) acc) (fun k _ => s.size - k) 1 0
      ⟨(.cons rfl rfl (.cons rfl rfl (.cons rfl rfl (.cons rfl rfl .nil)))), rfl, rfl, rfl⟩ ⟨by omega, by omega, rfl⟩ ?_
    rintro k acc ⟨hk, ha, hr⟩
    cases ht : s.data.toList[k]? with
    | none =>
      have hge : s.size ≤ k := by have := List.getElem?_eq_none_iff.1 ht; omega
      have c1 : decide ((k : Int) < s.size) = false := decide_eq_false (by omega)
      rw [hr, List.drop_of_length_le (by omega)]
      have hT := rNText_spec (g := g) (-(acc:Int)) (by omega)
      by_cases e : numT (-(acc:Int)) = s
      · have c2 : (!decide (numT (-(acc:Int)) = s)) = false := by simp [e]
        repeat' (first
         | ((with_reducible refine is_un ?_); refine awpL_ev (ev_neg rfl ⟨by omega, by omega⟩) rfl ?_)
         | refine stn [] ?_
         | ((with_reducible refine is_gd ?_); refine awpL_split rfl rfl (fun h => ?_) (fun h => ?_))
         | ((with_reducible refine is_awp ?_); refine awp_cond rfl (fun h => ?_) (fun h => ?_))
         | fail)
        refine retP rfl ?_
        simp [ex, exL, runN, e]
      · have c2 : (!decide (numT (-(acc:Int)) = s)) = true := by simp [e]
        repeat' (first
         | ((with_reducible refine is_un ?_); refine awpL_ev (ev_neg rfl ⟨by omega, by omega⟩) rfl ?_)
         | refine stn [] ?_
         | ((with_reducible refine is_gd ?_); refine awpL_split rfl rfl (fun h => ?_) (fun h => ?_))
         | ((with_reducible refine is_awp ?_); refine awp_cond rfl (fun h => ?_) (fun h => ?_))
         | fail)
        refine retP rfl ?_
        simp [ex, exL, runN, e]
    | some c =>
      have hlt : k < s.size := by have := (List.getElem?_eq_some_iff.1 ht).1; omega
      have c1 : decide ((k : Int) < s.size) = true := decide_eq_true (by omega)
      have ik := byteL_get ht
      rw [dropB_cons ht] at hr
      by_cases e1 : c.toNat < 48
      · have c2 : decide ((c.toNat : Int) < 48) = true := decide_eq_true (by omega)
        have hd : isDg c = false := by simp [isDg]; omega
        rw [hr]
        repeat' (first
         | refine stn [] ?_
         | ((with_reducible refine is_gd ?_); refine awpL_split rfl rfl (fun h => ?_) (fun h => ?_))
         | ((with_reducible refine is_awp ?_); refine awp_cond rfl (fun h => ?_) (fun h => ?_))
         | fail)
        refine retP rfl ?_
        simp [ex, exL, runN, hd]
      have c2 : decide ((c.toNat : Int) < 48) = false := decide_eq_false (by omega)
      by_cases e2 : 57 < c.toNat
      · have c3 : decide ((57 : Int) < c.toNat) = true := decide_eq_true (by omega)
        have hd : isDg c = false := by simp [isDg]; omega
        rw [hr]
        repeat' (first
         | refine stn [] ?_
         | ((with_reducible refine is_gd ?_); refine awpL_split rfl rfl (fun h => ?_) (fun h => ?_))
         | ((with_reducible refine is_awp ?_); refine awp_cond rfl (fun h => ?_) (fun h => ?_))
         | fail)
        refine retP rfl ?_
        simp [ex, exL, runN, hd]
      have c3 : decide ((57 : Int) < c.toNat) = false := decide_eq_false (by omega)
      have hd : isDg c = true := by simp [isDg]; omega
      have w1 : IntKind.u8.wrap ((c.toNat : Int) - 48) = ((c.toNat - 48 : Nat) : Int) := by rw [IntKind.wrap_u8]; omega
      have w2 : IntKind.i64.wrap ((c.toNat - 48 : Nat) : Int) = ((c.toNat - 48 : Nat) : Int) := wrap_in (by omega) (by omega)
      have w3 : (acc : Int) * 10 + ((c.toNat - 48 : Nat) : Int) = ((acc * 10 + (c.toNat - 48) : Nat) : Int) := by omega
      by_cases e3 : 1099511627776 < acc * 10 + (c.toNat - 48)
      · have c4 : decide ((1099511627776 : Int) < ((acc * 10 + (c.toNat - 48) : Nat) : Int)) = true := decide_eq_true (by omega)
        rw [hr]
        repeat' (first
         | ((with_reducible refine is_un ?_); (first | refine awpL_ev (ev_conv_int rfl rfl rfl rfl w2) rfl ?_ | refine awpL_ev (ev_mul rfl rfl (by omega)) rfl ?_ | refine awpL_ev (ev_subK rfl rfl w1) rfl ?_ | refine awpL_ev (ev_addE rfl rfl (by omega) w3) rfl ?_))
         | refine stn [] ?_
         | ((with_reducible refine is_gd ?_); refine awpL_split rfl rfl (fun h => ?_) (fun h => ?_))
         | ((with_reducible refine is_awp ?_); refine awp_cond rfl (fun h => ?_) (fun h => ?_))
         | fail)
        refine retP rfl ?_
        simp [ex, exL, runN, hd, e3]
      have c4 : decide ((1099511627776 : Int) < ((acc * 10 + (c.toNat - 48) : Nat) : Int)) = false := decide_eq_false (by omega)
      repeat' (first
       | ((with_reducible refine is_un ?_); (first | refine awpL_ev (ev_conv_int rfl rfl rfl rfl w2) rfl ?_ | refine awpL_ev (ev_mul rfl rfl (by omega)) rfl ?_ | refine awpL_ev (ev_subK rfl rfl w1) rfl ?_ | refine awpL_ev (ev_addE rfl rfl (by omega) w3) rfl ?_))
       | refine stn [] ?_
       | ((with_reducible refine is_gd ?_); refine awpL_split rfl rfl (fun h => ?_) (fun h => ?_))
       | ((with_reducible refine is_awp ?_); refine awp_cond rfl (fun h => ?_) (fun h => ?_))
       | fail)
      refine ⟨k + 1, acc * 10 + (c.toNat - 48), ⟨(.cons rfl rfl (.cons rfl rfl (.cons rfl rfl (.cons rfl rfl .nil)))), rfl, rfl, rfl⟩, ⟨by omega, by omega, ?_⟩, by omega⟩
      rw [hr]
      simp only [runN, hd, if_true]
      rw [if_neg e3]
  · have d2 : decide ((0 : Int) = 1) = false := rfl
    repeat' (first
     | refine stn [] ?_
     | ((with_reducible refine is_gd ?_); refine awpL_split rfl rfl (fun h => ?_) (fun h => ?_))
     | ((with_reducible refine is_awp ?_); refine awp_cond rfl (fun h => ?_) (fun h => ?_))
     | fail)
    refine awp_for2 (α := Nat) (β := Nat) 0 (fun k acc => [(0, .v (.string s)), (4, vi 0), (5, vi acc), (6, vi k)]) (fun _ _ => []) (fun k acc => k ≤ s.size ∧ acc ≤ 1099511627776 ∧ runN (s.data.toList.drop 0) 0 = runN (s.data.toList.drop k) acc) (fun k _ => s.size - k) 0 0
      ⟨(.cons rfl rfl (.cons rfl rfl (.cons rfl rfl (.cons rfl rfl .nil)))), rfl, rfl, rfl⟩ ⟨by omega, by omega, rfl⟩ ?_
    rintro k acc ⟨hk, ha, hr⟩
    cases ht : s.data.toList[k]? with
    | none =>
      have hge : s.size ≤ k := by have := List.getElem?_eq_none_iff.1 ht; omega
      have c1 : decide ((k : Int) < s.size) = false := decide_eq_false (by omega)
      rw [hr, List.drop_of_length_le (by omega)]
      have hT := rNText_spec (g := g) (acc:Int) (by omega)
      by_cases e : numT (acc:Int) = s
      · have c2 : (!decide (numT (acc:Int) = s)) = false := by simp [e]
        repeat' (first
         | ((with_reducible refine is_un ?_); refine awpL_ev (ev_neg rfl ⟨by omega, by omega⟩) rfl ?_)
         | refine stn [] ?_
         | ((with_reducible refine is_gd ?_); refine awpL_split rfl rfl (fun h => ?_) (fun h => ?_))
         | ((with_reducible refine is_awp ?_); refine awp_cond rfl (fun h => ?_) (fun h => ?_))
         | fail)
        refine retP rfl ?_
        simp [ex, exL, runN, e]
      · have c2 : (!decide (numT (acc:Int) = s)) = true := by simp [e]
        repeat' (first
         | ((with_reducible refine is_un ?_); refine awpL_ev (ev_neg rfl ⟨by omega, by omega⟩) rfl ?_)
         | refine stn [] ?_
         | ((with_reducible refine is_gd ?_); refine awpL_split rfl rfl (fun h => ?_) (fun h => ?_))
         | ((with_reducible refine is_awp ?_); refine awp_cond rfl (fun h => ?_) (fun h => ?_))
         | fail)
        refine retP rfl ?_
        simp [ex, exL, runN, e]
    | some c =>
      have hlt : k < s.size := by have := (List.getElem?_eq_some_iff.1 ht).1; omega
      have c1 : decide ((k : Int) < s.size) = true := decide_eq_true (by omega)
      have ik := byteL_get ht
      rw [dropB_cons ht] at hr
      by_cases e1 : c.toNat < 48
      · have c2 : decide ((c.toNat : Int) < 48) = true := decide_eq_true (by omega)
        have hd : isDg c = false := by simp [isDg]; omega
        rw [hr]
        repeat' (first
         | refine stn [] ?_
         | ((with_reducible refine is_gd ?_); refine awpL_split rfl rfl (fun h => ?_) (fun h => ?_))
         | ((with_reducible refine is_awp ?_); refine awp_cond rfl (fun h => ?_) (fun h => ?_))
         | fail)
        refine retP rfl ?_
        simp [ex, exL, runN, hd]
      have c2 : decide ((c.toNat : Int) < 48) = false := decide_eq_false (by omega)
      by_cases e2 : 57 < c.toNat
      · have c3 : decide ((57 : Int) < c.toNat) = true := decide_eq_true (by omega)
        have hd : isDg c = false := by simp [isDg]; omega
        rw [hr]
        repeat' (first
         | refine stn [] ?_
         | ((with_reducible refine is_gd ?_); refine awpL_split rfl rfl (fun h => ?_) (fun h => ?_))
         | ((with_reducible refine is_awp ?_); refine awp_cond rfl (fun h => ?_) (fun h => ?_))
         | fail)
        refine retP rfl ?_
        simp [ex, exL, runN, hd]
      have c3 : decide ((57 : Int) < c.toNat) = false := decide_eq_false (by omega)
      have hd : isDg c = true := by simp [isDg]; omega
      have w1 : IntKind.u8.wrap ((c.toNat : Int) - 48) = ((c.toNat - 48 : Nat) : Int) := by rw [IntKind.wrap_u8]; omega
      have w2 : IntKind.i64.wrap ((c.toNat - 48 : Nat) : Int) = ((c.toNat - 48 : Nat) : Int) := wrap_in (by omega) (by omega)
      have w3 : (acc : Int) * 10 + ((c.toNat - 48 : Nat) : Int) = ((acc * 10 + (c.toNat - 48) : Nat) : Int) := by omega
      by_cases e3 : 1099511627776 < acc * 10 + (c.toNat - 48)
      · have c4 : decide ((1099511627776 : Int) < ((acc * 10 + (c.toNat - 48) : Nat) : Int)) = true := decide_eq_true (by omega)
        rw [hr]
        repeat' (first
         | ((with_reducible refine is_un ?_); (first | refine awpL_ev (ev_conv_int rfl rfl rfl rfl w2) rfl ?_ | refine awpL_ev (ev_mul rfl rfl (by omega)) rfl ?_ | refine awpL_ev (ev_subK rfl rfl w1) rfl ?_ | refine awpL_ev (ev_addE rfl rfl (by omega) w3) rfl ?_))
         | refine stn [] ?_
         | ((with_reducible refine is_gd ?_); refine awpL_split rfl rfl (fun h => ?_) (fun h => ?_))
         | ((with_reducible refine is_awp ?_); refine awp_cond rfl (fun h => ?_) (fun h => ?_))
         | fail)
        refine retP rfl ?_
        simp [ex, exL, runN, hd, e3]
      have c4 : decide ((1099511627776 : Int) < ((acc * 10 + (c.toNat - 48) : Nat) : Int)) = false := decide_eq_false (by omega)
      repeat' (first
       | ((with_reducible refine is_un ?_); (first | refine awpL_ev (ev_conv_int rfl rfl rfl rfl w2) rfl ?_ | refine awpL_ev (ev_mul rfl rfl (by omega)) rfl ?_ | refine awpL_ev (ev_subK rfl rfl w1) rfl ?_ | refine awpL_ev (ev_addE rfl rfl (by omega) w3) rfl ?_))
       | refine stn [] ?_
       | ((with_reducible refine is_gd ?_); refine awpL_split rfl rfl (fun h => ?_) (fun h => ?_))
       | ((with_reducible refine is_awp ?_); refine awp_cond rfl (fun h => ?_) (fun h => ?_))
       | fail)
      refine ⟨k + 1, acc * 10 + (c.toNat - 48), ⟨(.cons rfl rfl (.cons rfl rfl (.cons rfl rfl (.cons rfl rfl .nil)))), rfl, rfl, rfl⟩, ⟨by omega, by omega, ?_⟩, by omega⟩
      rw [hr]
      simp only [runN, hd, if_true]
      rw [if_neg e3]
  · have d2 : decide ((0 : Int) = 1) = false := rfl
    repeat' (first
     | refine stn [] ?_
     | ((with_reducible refine is_gd ?_); refine awpL_split rfl rfl (fun h => ?_) (fun h => ?_))
     | ((with_reducible refine is_awp ?_); refine awp_cond rfl (fun h => ?_) (fun h => ?_))
     | fail)
    refine awp_for2 (α := Nat) (β := Nat) 0 (fun k acc => [(0, .v (.string s)), (4, vi 0), (5, vi acc), (6, vi k)]) (fun _ _ => []) (fun k acc => k ≤ s.size ∧ acc ≤ 1099511627776 ∧ runN (s.data.toList.drop 0) 0 = runN (s.data.toList.drop k) acc) (fun k _ => s.size - k) 0 0
      ⟨(.cons rfl rfl (.cons rfl rfl (.cons rfl rfl (.cons rfl rfl .nil)))), rfl, rfl, rfl⟩ ⟨by omega, by omega, rfl⟩ ?_
    rintro k acc ⟨hk, ha, hr⟩
    cases ht : s.data.toList[k]? with
    | none =>
      have hge : s.size ≤ k := by have := List.getElem?_eq_none_iff.1 ht; omega
      have c1 : decide ((k : Int) < s.size) = false := decide_eq_false (by omega)
      rw [hr, List.drop_of_length_le (by omega)]
      have hT := rNText_spec (g := g) (acc:Int) (by omega)
      by_cases e : numT (acc:Int) = s
      · have c2 : (!decide (numT (acc:Int) = s)) = false := by simp [e]
        repeat' (first
         | ((with_reducible refine is_un ?_); refine awpL_ev (ev_neg rfl ⟨by omega, by omega⟩) rfl ?_)
         | refine stn [] ?_
         | ((with_reducible refine is_gd ?_); refine awpL_split rfl rfl (fun h => ?_) (fun h => ?_))
         | ((with_reducible refine is_awp ?_); refine awp_cond rfl (fun h => ?_) (fun h => ?_))
         | fail)
        refine retP rfl ?_
        simp [ex, exL, runN, e]
      · have c2 : (!decide (numT (acc:Int) = s)) = true := by simp [e]
        repeat' (first
         | ((with_reducible refine is_un ?_); refine awpL_ev (ev_neg rfl ⟨by omega, by omega⟩) rfl ?_)
         | refine stn [] ?_
         | ((with_reducible refine is_gd ?_); refine awpL_split rfl rfl (fun h => ?_) (fun h => ?_))
         | ((with_reducible refine is_awp ?_); refine awp_cond rfl (fun h => ?_) (fun h => ?_))
         | fail)
        refine retP rfl ?_
        simp [ex, exL, runN, e]
    | some c =>
      have hlt : k < s.size := by have := (List.getElem?_eq_some_iff.1 ht).1; omega
      have c1 : decide ((k : Int) < s.size) = true := decide_eq_true (by omega)
      have ik := byteL_get ht
      rw [dropB_cons ht] at hr
      by_cases e1 : c.toNat < 48
      · have c2 : decide ((c.toNat : Int) < 48) = true := decide_eq_true (by omega)
        have hd : isDg c = false := by simp [isDg]; omega
        rw [hr]
        repeat' (first
         | refine stn [] ?_
         | ((with_reducible refine is_gd ?_); refine awpL_split rfl rfl (fun h => ?_) (fun h => ?_))
         | ((with_reducible refine is_awp ?_); refine awp_cond rfl (fun h => ?_) (fun h => ?_))
         | fail)
        refine retP rfl ?_
        simp [ex, exL, runN, hd]
      have c2 : decide ((c.toNat : Int) < 48) = false := decide_eq_false (by omega)
      by_cases e2 : 57 < c.toNat
      · have c3 : decide ((57 : Int) < c.toNat) = true := decide_eq_true (by omega)
        have hd : isDg c = false := by simp [isDg]; omega
        rw [hr]
        repeat' (first
         | refine stn [] ?_
         | ((with_reducible refine is_gd ?_); refine awpL_split rfl rfl (fun h => ?_) (fun h => ?_))
         | ((with_reducible refine is_awp ?_); refine awp_cond rfl (fun h => ?_) (fun h => ?_))
         | fail)
        refine retP rfl ?_
        simp [ex, exL, runN, hd]
      have c3 : decide ((57 : Int) < c.toNat) = false := decide_eq_false (by omega)
      have hd : isDg c = true := by simp [isDg]; omega
      have w1 : IntKind.u8.wrap ((c.toNat : Int) - 48) = ((c.toNat - 48 : Nat) : Int) := by rw [IntKind.wrap_u8]; omega
      have w2 : IntKind.i64.wrap ((c.toNat - 48 : Nat) : Int) = ((c.toNat - 48 : Nat) : Int) := wrap_in (by omega) (by omega)
      have w3 : (acc : Int) * 10 + ((c.toNat - 48 : Nat) : Int) = ((acc * 10 + (c.toNat - 48) : Nat) : Int) := by omega
      by_cases e3 : 1099511627776 < acc * 10 + (c.toNat - 48)
      · have c4 : decide ((1099511627776 : Int) < ((acc * 10 + (c.toNat - 48) : Nat) : Int)) = true := decide_eq_true (by omega)
        rw [hr]
        repeat' (first
         | ((with_reducible refine is_un ?_); (first | refine awpL_ev (ev_conv_int rfl rfl rfl rfl w2) rfl ?_ | refine awpL_ev (ev_mul rfl rfl (by omega)) rfl ?_ | refine awpL_ev (ev_subK rfl rfl w1) rfl ?_ | refine awpL_ev (ev_addE rfl rfl (by omega) w3) rfl ?_))
         | refine stn [] ?_
         | ((with_reducible refine is_gd ?_); refine awpL_split rfl rfl (fun h => ?_) (fun h => ?_))
         | ((with_reducible refine is_awp ?_); refine awp_cond rfl (fun h => ?_) (fun h => ?_))
         | fail)
        refine retP rfl ?_
        simp [ex, exL, runN, hd, e3]
      have c4 : decide ((1099511627776 : Int) < ((acc * 10 + (c.toNat - 48) : Nat) : Int)) = false := decide_eq_false (by omega)
      repeat' (first
       | ((with_reducible refine is_un ?_); (first | refine awpL_ev (ev_conv_int rfl rfl rfl rfl w2) rfl ?_ | refine awpL_ev (ev_mul rfl rfl (by omega)) rfl ?_ | refine awpL_ev (ev_subK rfl rfl w1) rfl ?_ | refine awpL_ev (ev_addE rfl rfl (by omega) w3) rfl ?_))
       | refine stn [] ?_
       | ((with_reducible refine is_gd ?_); refine awpL_split rfl rfl (fun h => ?_) (fun h => ?_))
       | ((with_reducible refine is_awp ?_); refine awp_cond rfl (fun h => ?_) (fun h => ?_))
       | fail)
      refine ⟨k + 1, acc * 10 + (c.toNat - 48), ⟨(.cons rfl rfl (.cons rfl rfl (.cons rfl rfl (.cons rfl rfl .nil)))), rfl, rfl, rfl⟩, ⟨by omega, by omega, ?_⟩, by omega⟩
      rw [hr]
      simp only [runN, hd, if_true]
      rw [if_neg e3]
end Go.Proofs.YtigcjinpkngapaaGreatDoor
end
section
namespace Go.Proofs.YtigcjinpkngapaaGreatDoor
open Go.Lib
def toB (l : List UInt8) : ByteArray := ⟨l.toArray⟩
theorem toB_list (l : List UInt8) : (toB l).data.toList = l := by simp [toB]
theorem toB_of (s : ByteArray) : toB s.data.toList = s := by simp [toB]
theorem toB_size (l : List UInt8) : (toB l).size = l.length := by rw [show (toB l).size = (toB l).data.toList.length by rw [Array.length_toList]; rfl, toB_list]
end Go.Proofs.YtigcjinpkngapaaGreatDoor
end
section
namespace Go.Ac
section
variable {P : Program} {td : TDs} [T : TOK P td] {G : Glo} {N : Nat} {S : SL} {L : List LB} {ty : TypeId} {x : AV}
theorem ev_appB {t e k v sz : Nat} {d ed : TD} {u q : Operand} {es new es' : List (List AV)} {ats : Array TypeId} {L' : List LB} (h : val G S u = some (.os k v)) (hk : L[k]? = some (.own v e sz es)) (hq : val G S q = some x) (hsrc : src L x = some new) (hssz : srcSz L sz x = true)
    (hat : ats = #[t, t]) (ht : lk td t = some d) (hs : d.k = .slice e) (he : lk td e = some ed) (hsz : ed.size = sz) (hzl : ed.zero.length = sz) (hpos : Nat.blt 0 sz = true) (hby : Nat.ble ed.bytes 1000 = true)
    (hb : es.length + new.length ≤ 100000000) (hes : es ++ new = es') (hL : L.set k (.own (v + 1) e sz es') = L') :
    Ev2 P G N (.call { callee := .builtin .append, args := #[u, q], argTypes := ats }) ty S L (.os k (v + 1)) L' := by
  subst hes hL
  refine ev_append h hk hq hsrc hssz hat ht hs he hsz hzl hpos ⟨?_, ?_⟩
  · have := Nat.le_of_ble_eq_true hby
    calc (es.length + new.length) * ed.bytes ≤ 100000000 * 1000 := Nat.mul_le_mul hb this
      _ ≤ 140737488355328 := by omega
  · simp only [maxLen]; omega
end
end Go.Ac
end
section
namespace Go.Ac
open Go.Lib
section
variable {P : Program} {td : TDs} [T : TOK P td] {G : Glo} {N : Nat} {Q : AQ} {S S' : SL} {L : List LB}
  {op : Op} {ty : TypeId} {x : AV}
end
end Go.Ac
end
section
namespace Go.Ac
open Go.RowKit
section
variable {P : Program} {G : Glo} {N : Nat} {S : SL} {L : List LB} {ty : TypeId}
end
theorem PCalls.ofBelowN {P : Program} {g : List (Nat × List AV)} {f : FuncId} {args : List AV} {r : AV} (hc : Callable P f)
    (h : ∀ (F : Nat → Prop) (w : World) (vs : Array Value), St (Glo.of g) (Cx.bare F w) [] → TF F w args vs.toList → Calls P f vs w fun e w' => ∃ v, e = .returned v ∧ Below w.heap.size w w' ∧ RF (fun b => F b ∨ w.heap.size ≤ b ∧ b < w'.heap.size) w' r v) : PCalls P g f args r := by
  refine ⟨hc, fun F w vs st ha => (callsIn_wide.2 (h F w vs st ha)).mono ?_⟩
  rintro e w' ⟨v, rfl, hb, hv⟩
  have hF : ∀ b, F b → b < w.heap.size := st.inF
  have hk : ∀ b, F b → w'.heap[b]? = w.heap[b]? := fun b h => hb.block b (hF b h)
  refine ⟨v, fun b => F b ∨ w.heap.size ≤ b ∧ b < w'.heap.size, rfl, hv, ⟨fun k h => h.elim, fun k x h => by simp at h, fun b h => h.elim (fun h => Nat.lt_of_lt_of_le (hF b h) hb.size) (fun h => h.2), fun k b h => by simp [Cx.bare] at h, fun k k' b h => by simp [Cx.bare] at h, fun k x h => by simp at h,
    fun p hp => ?_, fun b h => h.elim, List.nodup_nil, .inl rfl, fun r h => by simp [Cx.bare] at h, .inl rfl⟩,
    ⟨hb.os, hb.tape, hb.output, hb.size, fun b h => h.elim .inl (fun h => .inr (.inr h.1)), fun b ⟨j, h⟩ => by simp [Cx.bare] at h, fun b h => h.elim, fun r h => by simp [Cx.bare] at h, fun b h1 _ _ => hb.block b h1, rfl, ?_⟩⟩
  · obtain ⟨h1, h2, h3⟩ := st.glob p hp
    exact ⟨.inl h1, MF.mono (F := F) (w := w) (fun b h => .inl h) hk p.2 p.1 0 (hk p.1 h1) h2, h3.keep (hk p.1 h1)⟩
  · refine ⟨fun b h => .inl h, fun b h => hk b h, fun k h => h.elim, fun k h => h.elim, fun k h => h.elim, fun k h => h.elim, fun k h => h.elim, fun k b arr T h => h.elim⟩
end Go.Ac
end
