/- A logic of trees over the model's steps, and the contracts of the functions that the laws reach: part 17 of 29. -/
import Derived.Test.YtcfkokllinkigaaGreatDoorB16
set_option linter.unusedVariables false
set_option linter.unusedSimpArgs false
set_option linter.unusedSectionVars false
set_option linter.unnecessarySimpa false
namespace Go.Proofs.YtcfkokllinkigaaGreatDoor
section
open Go.Ac
attribute [local irreducible] awp awpL Ev Ev2 EvS thenQ blockQ retQ PCalls OCalls ICalls
variable {g : List (Nat × List AV)}
abbrev wnV (n m e : Int) : AV := .tup [vi n, vi m, vi e]
def lowp (z : Nat) : Nat → Nat
 | 0 => 0
 | i + 1 => lowp z i + digs z i % 128 * 128 ^ i
theorem JO (z : Nat) : ∀ i, lowp z i = z % 128 ^ i
 | 0 => by simp [lowp, Nat.mod_one]
 | i + 1 => by
  rw [lowp, JO z i, QV, Nat.pow_succ, Nat.mod_mul, Nat.mul_comm]
set_option maxRecDepth 8000 in
theorem and_fin : ∀ m : Fin 256, m.val &&& 127 = m.val % 128 := by decide
theorem and127 (c : UInt8) : IntKind.u8.wrap (BitVec.ofInt IntKind.u8.bits (c.toNat : Int) &&& BitVec.ofInt IntKind.u8.bits 127).toNat = ((c.toNat % 128 : Nat) : Int) := by
 have h2 := and_nat (n := 8) (a := c.toNat) (b := 127) c.toNat_lt (by decide)
 have h3 := and_fin ⟨c.toNat, c.toNat_lt⟩
 simp only at h3
 rw [show IntKind.u8.bits = 8 from rfl, show ((127 : Int)) = ((127 : Nat) : Int) from rfl, h2, h3, IntKind.wrap_u8]
 omega
theorem con64 {z : Nat} (h : z < 18446744073709551616) : IntKind.u64.wrap (z : Int) = (z : Int) := by rw [IntKind.wrap_u64]; omega
theorem pow7 (i : Nat) : 2 ^ (7 * i) = 128 ^ i := by rw [Nat.pow_mul]
theorem shl7 {d i : Nat} (hi : i ≤ 8) (h : d * 128 ^ i < 18446744073709551616) : IntKind.u64.wrap ((d : Int) * 2 ^ min (7 * (i : Int)).toNat IntKind.u64.bits) = ((d * 128 ^ i : Nat) : Int) := by
 have e : min (7 * (i : Int)).toNat IntKind.u64.bits = 7 * i := by
  have : IntKind.u64.bits = 64 := rfl
  omega
 have e2 : (d : Int) * 2 ^ (7 * i) = ((d * 128 ^ i : Nat) : Int) := by rw [← pow7]; push_cast; rfl
 rw [e, e2, con64 h]
theorem or7 {z i : Nat} (hi : i ≤ 8) (h : z < 9223372036854775808) : IntKind.u64.wrap (BitVec.ofInt IntKind.u64.bits ((lowp z i : Nat) : Int) ||| BitVec.ofInt IntKind.u64.bits ((digs z i % 128 * 128 ^ i : Nat) : Int)).toNat = ((lowp z (i + 1) : Nat) : Int) := by
 have hl : lowp z i < 128 ^ i := by rw [JO]; exact Nat.mod_lt _ (Nat.pow_pos (by decide))
 have hs : lowp z (i + 1) ≤ z := by rw [JO]; exact Nat.mod_le ..
 have hs2 : lowp z (i + 1) = lowp z i + digs z i % 128 * 128 ^ i := rfl
 have h2 := or_nat (n := 64) (a := lowp z i) (b := digs z i % 128 * 128 ^ i) (by omega) (by omega)
 have h3 : lowp z i ||| digs z i % 128 * 128 ^ i = lowp z (i + 1) := by
  have := Nat.shiftLeft_add_eq_or_of_lt (i := 7 * i) (b := lowp z i) (by rw [pow7]; exact hl) (digs z i % 128)
  rw [Nat.shiftLeft_eq, pow7] at this
  rw [Nat.or_comm, ← this, hs2, Nat.add_comm]
 rw [show IntKind.u64.bits = 64 from rfl, h2, h3, con64 (by omega)]
theorem digs_le (z i : Nat) : digs z i % 128 * 128 ^ i ≤ z := by
 have hs : lowp z (i + 1) ≤ z := by rw [JO]; exact Nat.mod_le ..
 have hs2 : lowp z (i + 1) = lowp z i + digs z i % 128 * 128 ^ i := rfl
 omega
theorem shr1 (m : Nat) : (((2 * m : Nat) : Int)).fdiv (2 ^ min (1 : Int).toNat IntKind.u64.bits) = (m : Int) := by
 show (((2 * m : Nat) : Int)).fdiv 2 = _
 rw [Int.fdiv_eq_ediv_of_nonneg _ (by decide)]
 omega
theorem and1 {m : Nat} (h : 2 * m < 9223372036854775808) : IntKind.u64.wrap (BitVec.ofInt IntKind.u64.bits ((2 * m : Nat) : Int) &&& BitVec.ofInt IntKind.u64.bits 1).toNat = 0 := by
 have h2 := and_nat (n := 64) (a := 2 * m) (b := 1) (by omega) (by decide)
 rw [show IntKind.u64.bits = 64 from rfl, show ((1 : Int)) = ((1 : Nat) : Int) from rfl, h2, Nat.and_one_is_mod, Nat.mul_mod_right]
 rfl
theorem xori {m : Nat} (h : 2 * m < 9223372036854775808) : IntKind.i64.wrap (BitVec.ofInt IntKind.i64.bits (m : Int) ^^^ BitVec.ofInt IntKind.i64.bits 0).toNat = (m : Int) := by
 have := xor_nat (n := 64) (a := m) (b := 0) (by omega) (by decide)
 rw [show IntKind.i64.bits = 64 from rfl, show ((0 : Int)) = ((0 : Nat) : Int) from rfl, this, Nat.xor_zero, Z9 (by omega) (by omega)]
theorem at_get {b pre rest : List UInt8} {z i : Nat} (hb : b = pre ++ vz z ++ rest) (hi : i < (vz z).length) : b[pre.length + i]? = (vz z)[i]? := by
 rw [hb, List.append_assoc, List.getElem?_append_right (by omega), show pre.length + i - pre.length = i by omega, List.getElem?_append_left hi]
theorem takeB_get {b pre : List UInt8} {l : List UInt8} {i m : Nat} (hb : b = pre ++ l.take m) (hi : i < m) (hm : m ≤ l.length) : b[pre.length + i]? = l[i]? := by
 rw [hb, List.getElem?_append_right (by omega), show pre.length + i - pre.length = i by omega, List.getElem?_take, if_pos hi]
set_option maxRecDepth 4000 in
set_option maxHeartbeats 4000000 in
theorem wS {b pre rest : List UInt8} {n : Int} (h0 : 0 ≤ n) (h1 : n < 4611686018427387904) (hb : b = pre ++ vint n ++ rest) (hl : b.length ≤ 80000000) : PCalls Tryz.prog g 138 [encBy b, vi pre.length] (wnV n ((pre.length + (vint n).length : Nat) : Int) 0) := by
 obtain ⟨m, rfl⟩ : ∃ m : Nat, n = m := ⟨n.toNat, by omega⟩
 have hz : vint (m : Int) = vz (2 * m) := by unfold vint; congr 1
 have hlen := jc h1
 rw [hz] at hlen hb ⊢
 have w1 := shr1 m
 have w2 : IntKind.i64.wrap (m : Int) = (m : Int) := Z9 (by omega) (by omega)
 have w3 := and1 (m := m) (by omega)
 have w4 : IntKind.i64.wrap (0 : Int) = 0 := rfl
 have w5 := xori (m := m) (by omega)
 have hpos := WX (2 * m)
 have hzb : 2 * m < 9223372036854775808 := by omega
 generalize hzz : 2 * m = z at *
 have hbl : b.length = pre.length + (vz z).length + rest.length := by rw [hb]; simp; omega
 refine pcalls' Tryz.func138 Tryz.ntmps138 rfl rfl rfl ?_
 have c0 : decide ((pre.length : Int) < 0) = false := decide_eq_false (by omega)
 have c1 : decide ((b.length : Int) < (pre.length : Int)) = false := decide_eq_false (by omega)
 unfold encBy
 refine runn [] ?_
 refine zi (α := Nat) 0 (fun i => [(0, .fs 1 b.length (b.map byC)), (1, vi pre.length), (7, .v (.int .u64 ((lowp z i : Nat) : Int))), (18, vi i)]) (fun _ => []) (fun i => i < (vz z).length) (fun i => (vz z).length - i) 0
  qw hpos ?_
 intro i hi
 obtain ⟨q1, q2, q3⟩ := WY i z hi
 rw [← QV] at q1 q2 q3
 have hget := at_get hb hi
 rw [q1] at hget
 have d1 : decide ((i : Int) < 10) = true := decide_eq_true (by omega)
 have d2 : decide ((b.length : Int) - pre.length ≤ i) = false := decide_eq_false (by omega)
 have ik : 0 ≤ (pre.length : Int) + (i : Int) ∧ (b.map byC)[((pre.length : Int) + (i : Int)).toNat]? = some (byC (UInt8.ofNat (if digs z i < 128 then digs z i else digs z i % 128 + 128))) := by
  refine ⟨by omega, ?_⟩
  rw [show ((pre.length : Int) + (i : Int)).toNat = pre.length + i by omega, List.getElem?_map, hget]
  rfl
 have e1 := and127 (UInt8.ofNat (if digs z i < 128 then digs z i else digs z i % 128 + 128))
 have e1' : (UInt8.ofNat (if digs z i < 128 then digs z i else digs z i % 128 + 128)).toNat % 128 = digs z i % 128 := by
  rw [UInt8.toNat_ofNat']
  split <;> omega
 rw [e1'] at e1
 have hle := digs_le z i
 have e2 := con64 (z := digs z i % 128) (by omega)
 have e3 := shl7 (d := digs z i % 128) (i := i) (by omega) (by omega)
 have e4 := or7 (z := z) (i := i) (by omega) hzb
 have hcn : (UInt8.ofNat (if digs z i < 128 then digs z i else digs z i % 128 + 128)).toNat = if digs z i < 128 then digs z i else digs z i % 128 + 128 := by
  rw [UInt8.toNat_ofNat']
  split <;> omega
 generalize UInt8.ofNat (if digs z i < 128 then digs z i else digs z i % 128 + 128) = c at *
 by_cases hx : digs z i < 128
 ·rw [if_pos hx] at hcn
  have hi1 := q2.2 hx
  have hlz : lowp z (i + 1) = z := by
   have : digs z (i + 1) = 0 := by show digs z i / 128 = 0; omega
   rw [QV] at this
   rw [JO]
   exact Nat.mod_eq_of_lt ((Nat.div_eq_zero_iff_lt (Nat.pow_pos (by decide))).1 this)
  rw [hlz] at e4
  have d3 : decide ((c.toNat : Int) < 128) = true := decide_eq_true (by omega)
  have d4 : decide ((i : Int) = 9) = false := decide_eq_false (by omega)
  have hend : (((pre.length + (vz z).length : Nat)) : Int) = (pre.length : Int) + (i : Int) + 1 := by omega
  rw [hend]
  by_cases hc0 : digs z i = 0
  ·have d5 : decide ((c.toNat : Int) = 0) = true := decide_eq_true (by omega)
   have d6 : decide (0 < (i : Int)) = false := decide_eq_false (by omega)
   repeat' (first
    | ((with_reducible refine zg ?_); (first | refine zb (Qm rfl rfl e1) rfl ?_ | refine zb (zj rfl rfl rfl rfl e2) rfl ?_ | refine zb (j5 rfl rfl (by omega) e3) rfl ?_ | refine zb (wK rfl rfl e4) rfl ?_ | refine zb (ZU rfl rfl (by decide) w1) rfl ?_ | refine zb (zj rfl rfl rfl rfl w2) rfl ?_ | refine zb (Qm rfl rfl w3) rfl ?_ | refine zb (zj rfl rfl rfl rfl w4) rfl ?_ | refine zb (ev_neg rfl (by decide)) rfl ?_ | refine zb (j4 rfl rfl w5) rfl ?_ | refine zb (qg rfl rfl (by omega)) rfl ?_))
    | refine stn [] ?_
    | fail)
   exact retP rfl rfl
  ·have d5 : decide ((c.toNat : Int) = 0) = false := decide_eq_false (by omega)
   repeat' (first
    | ((with_reducible refine zg ?_); (first | refine zb (Qm rfl rfl e1) rfl ?_ | refine zb (zj rfl rfl rfl rfl e2) rfl ?_ | refine zb (j5 rfl rfl (by omega) e3) rfl ?_ | refine zb (wK rfl rfl e4) rfl ?_ | refine zb (ZU rfl rfl (by decide) w1) rfl ?_ | refine zb (zj rfl rfl rfl rfl w2) rfl ?_ | refine zb (Qm rfl rfl w3) rfl ?_ | refine zb (zj rfl rfl rfl rfl w4) rfl ?_ | refine zb (ev_neg rfl (by decide)) rfl ?_ | refine zb (j4 rfl rfl w5) rfl ?_ | refine zb (qg rfl rfl (by omega)) rfl ?_))
    | refine stn [] ?_
    | fail)
   exact retP rfl rfl
 ·rw [if_neg hx] at hcn
  have hi1 : i + 1 < (vz z).length := by
   rcases Nat.lt_or_ge (i + 1) (vz z).length with q | q
   ·exact q
   ·exact absurd (q2.1 (by omega)) hx
  have d3 : decide ((c.toNat : Int) < 128) = false := decide_eq_false (by omega)
  repeat' (first
   | ((with_reducible refine zg ?_); (first | refine zb (Qm rfl rfl e1) rfl ?_ | refine zb (zj rfl rfl rfl rfl e2) rfl ?_ | refine zb (j5 rfl rfl (by omega) e3) rfl ?_ | refine zb (wK rfl rfl e4) rfl ?_ | refine zb (qg rfl rfl (by omega)) rfl ?_))
   | refine stn [] ?_
   | fail)
  exact ⟨i + 1, qw, hi1, by omega⟩
set_option maxRecDepth 4000 in
set_option maxHeartbeats 4000000 in
theorem Int_cut {b pre : List UInt8} {n : Int} {m : Nat} (h1 : n < 4611686018427387904) (hb : b = pre ++ (vint n).take m) (hm : m < (vint n).length) (hl : b.length ≤ 80000000) : PCalls Tryz.prog g 138 [encBy b, vi pre.length] (wnV 0 0 4) := by
 have hlen := jc h1
 unfold vint at *
 have hzb : (2 * n).toNat < 9223372036854775808 := by omega
 generalize (2 * n).toNat = z at *
 have hbl : b.length = pre.length + m := by rw [hb]; simp; omega
 refine pcalls' Tryz.func138 Tryz.ntmps138 rfl rfl rfl ?_
 have c0 : decide ((pre.length : Int) < 0) = false := decide_eq_false (by omega)
 have c1 : decide ((b.length : Int) < (pre.length : Int)) = false := decide_eq_false (by omega)
 unfold encBy
 refine runn [] ?_
 refine zi (α := Nat) 0 (fun i => [(0, .fs 1 b.length (b.map byC)), (1, vi pre.length), (7, .v (.int .u64 ((lowp z i : Nat) : Int))), (18, vi i)]) (fun _ => []) (fun i => i ≤ m) (fun i => m - i) 0
  qw (Nat.zero_le _) ?_
 intro i him
 have hi : i < (vz z).length := by omega
 have d1 : decide ((i : Int) < 10) = true := decide_eq_true (by omega)
 by_cases hie : i = m
 ·have d2 : decide ((b.length : Int) - pre.length ≤ i) = true := decide_eq_true (by omega)
  refine runn [] ?_
  exact retP rfl rfl
 obtain ⟨q1, q2, q3⟩ := WY i z hi
 rw [← QV] at q1 q2 q3
 have hget := takeB_get hb (i := i) (by omega) (by omega)
 rw [q1] at hget
 have hx : ¬ digs z i < 128 := fun q => by have := q2.2 q; omega
 rw [if_neg hx] at hget
 have d2 : decide ((b.length : Int) - pre.length ≤ i) = false := decide_eq_false (by omega)
 have ik : 0 ≤ (pre.length : Int) + (i : Int) ∧ (b.map byC)[((pre.length : Int) + (i : Int)).toNat]? = some (byC (UInt8.ofNat (digs z i % 128 + 128))) := by
  refine ⟨by omega, ?_⟩
  rw [show ((pre.length : Int) + (i : Int)).toNat = pre.length + i by omega, List.getElem?_map, hget]
  rfl
 have e1 := and127 (UInt8.ofNat (digs z i % 128 + 128))
 have hcn : (UInt8.ofNat (digs z i % 128 + 128)).toNat = digs z i % 128 + 128 := by
  rw [UInt8.toNat_ofNat']
  omega
 rw [hcn, show (digs z i % 128 + 128) % 128 = digs z i % 128 by omega] at e1
 have hle := digs_le z i
 have e2 := con64 (z := digs z i % 128) (by omega)
 have e3 := shl7 (d := digs z i % 128) (i := i) (by omega) (by omega)
 have e4 := or7 (z := z) (i := i) (by omega) hzb
 rw [← hcn] at e1
 generalize UInt8.ofNat (digs z i % 128 + 128) = c at *
 have d3 : decide ((c.toNat : Int) < 128) = false := decide_eq_false (by omega)
 repeat' (first
  | ((with_reducible refine zg ?_); (first | refine zb (Qm rfl rfl e1) rfl ?_ | refine zb (zj rfl rfl rfl rfl e2) rfl ?_ | refine zb (j5 rfl rfl (by omega) e3) rfl ?_ | refine zb (wK rfl rfl e4) rfl ?_ | refine zb (qg rfl rfl (by omega)) rfl ?_))
  | refine stn [] ?_
  | fail)
 exact ⟨i + 1, qw, by omega, by omega⟩
theorem length_ok {b pre rest : List UInt8} {n : Int} (h0 : 0 ≤ n) (h1 : n < 4611686018427387904) (hb : b = pre ++ vint n ++ rest) (hl : b.length ≤ 80000000) : PCalls Tryz.prog g 165 [encBy b, vi pre.length] (wnV n ((pre.length + (vint n).length : Nat) : Int) 0) := by
 have hI := wS (g := g) h0 h1 hb hl
 have c0 : decide (n < 0) = false := decide_eq_false (by omega)
 have z0 : decide ((0 : Int) = 0) = true := rfl
 refine pcalls' Tryz.func165 Tryz.ntmps165 rfl rfl rfl ?_
 refine runn [] ?_
 exact retP rfl rfl
abbrev textV (s : ByteArray) (m e : Int) : AV := .tup [.v (.string s), vi m, vi e]
theorem Text_ok {b pre rest : List UInt8} {s : ByteArray} (hs : s.size ≤ 1000000) (hb : b = pre ++ vtext s ++ rest) (hl : b.length ≤ 80000000) : PCalls Tryz.prog g 158 [encBy b, vi pre.length] (textV s ((pre.length + (vtext s).length : Nat) : Int) 0) := by
 have hz : s.size = (lstB s).length := by rw [lstB, Array.length_toList]; rfl
 have hb2 : b = pre ++ vint s.size ++ (lstB s ++ rest) := by rw [hb, vtext]; simp
 have hI := length_ok (g := g) (by omega) (by omega) hb2 hl
 have hbl : b.length = pre.length + (vint s.size).length + s.size + rest.length := by rw [hb2]; simp; omega
 have hvl : (vtext s).length = (vint s.size).length + s.size := by rw [vtext]; simp; omega
 have hsl : (((b.map byC).drop (((pre.length + (vint s.size).length : Nat) : Int)).toNat).take s.size) = bytesL (lstB s) := by
  rw [Int.toNat_natCast, ← List.map_drop, ← List.map_take, hb2, List.drop_left' (by simp), List.take_left' (by omega)]
  rfl
 have hst : (⟨(lstB s).toArray⟩ : ByteArray) = s := by rw [lstB]
 have hend : ((pre.length + (vtext s).length : Nat) : Int) = ((pre.length + (vint s.size).length : Nat) : Int) + (s.size : Int) := by omega
 rw [hend]
 generalize hp : pre.length + (vint s.size).length = p at *
 have c0 : decide ((b.length : Int) - (p : Int) < (s.size : Int)) = false := decide_eq_false (by omega)
 have n0 : (!decide ((0 : Int) = 0)) = false := rfl
 have hbb : (0 : Int) ≤ (p : Int) ∧ (p : Int) ≤ (p : Int) + (s.size : Int) ∧ (p : Int) + (s.size : Int) ≤ (b.length : Nat) := by omega
 have hmm : (((p : Int) + (s.size : Int)) - (p : Int)).toNat = s.size := by omega
 unfold encBy at *
 refine pcalls' Tryz.func158 Tryz.ntmps158 rfl rfl rfl ?_
 repeat' (first
  | ((with_reducible refine zg ?_); (first | refine zb (zw rfl rfl rfl rfl rfl rfl rfl hbb hmm hsl) rfl ?_ | refine zb (yX rfl rfl rfl rfl rfl rfl rfl rfl hst) rfl ?_))
  | refine stn [] ?_
  | fail)
 exact retP rfl rfl
end
end Go.Proofs.YtcfkokllinkigaaGreatDoor
namespace Go.Ac
section
theorem EF.one {F : Nat → Prop} {w : World} {cs : List AV} {b off : Nat} (h : MF F w cs b off) : EF F w 1 (cs.map fun x => [x]) b off := by
 refine EF.mk fun i e he => ?_
 rw [List.getElem?_map, Option.map_eq_some_iff] at he
 obtain ⟨x, hx, rfl⟩ := he
 obtain ⟨u, h1, h2, h3⟩ := MF.get h hx
 refine ⟨rfl, ?_⟩
 simp only [MF, Nat.mul_one, and_true]
 exact ⟨u, h1, h2, h3⟩
theorem MF.one {F : Nat → Prop} {w : World} {cs : List AV} {b off : Nat} (h : EF F w 1 (cs.map fun x => [x]) b off) : MF F w cs b off := by
 refine MF.mk fun i x hx => ?_
 obtain ⟨_, h2⟩ := EF.get (i := i) (e := [x]) h (by rw [List.getElem?_map, hx]; rfl)
 simp only [MF, Nat.mul_one] at h2
 exact h2.1
section
variable {P : Program} {td : TDs} [T : TOK P td] {G : Glo} {N : Nat} {S : SL} {L : List LB} {ty : TypeId}
theorem ev_slice_arr {t n e : Nat} {d ed : TD} {u : Operand} {cs : List AV} {es : List (List AV)} (h : val G S u = some (.fp cs)) (ht : lk td t = some d) (hs : d.k = .arr n e) (he : lk td e = some ed) (hsz : ed.size = 1) (hn : cs.length = n) (hes : cs.map (fun x => [x]) = es) :
  Ev P G N (.slice t u none none none) ty S L (.fs 1 n es) := by
 subst hes
 intro o ho _ cx a hc
 have e1 := zn hc h
 simp only [R, RF] at e1
 obtain ⟨b, off, e1, hb, hm⟩ := e1
 have hd := jH (P := P) ht hs
 refine ⟨.slice (some ⟨b, off, none⟩) n n, ?_, ?_⟩
 ·simp only [execOp, ho, e1, Option.map_none, Instr.sliceAt, Instr.sliceBounds, Instr.sureAddr, Sem.run_bind, run_underlying hd, Result.andThen_ok, run_sizeOf' (P := P) he, Sem.run_pure, hsz]
  by_cases q : n = 0
  ·subst q; simp
  ·rw [if_neg q]; simp [Addr.add_mid]
 ·simp only [R, RF]
  exact ⟨by rw [List.length_map, hn], _, _, rfl, Nat.le_refl _, fun _ => ⟨b, off, rfl, hb, EF.one hm⟩⟩
theorem ev_arrp {t n m e : Nat} {d : TD} {u : Operand} {cs : List AV} {es : List (List AV)} (h : val G S u = some (.fs 1 m es)) (ht : lk td t = some d) (hs : d.k = .arr n e) (hn : n ≤ m ∧ 0 < m) (hes : es = cs.map fun x => [x]) :
  Ev P G N (.sliceToArrayPointer t u) ty S L (.fp cs) := by
 subst hes
 intro o ho _ cx a hc
 have e1 := zn hc h
 simp only [R, RF] at e1
 obtain ⟨hl, ad, cap, e1, hcap, hm⟩ := e1
 obtain ⟨b, off, rfl, hb, hE⟩ := hm (by omega)
 have hd := jH (P := P) ht hs
 refine ⟨.pointer (some ⟨b, off, none⟩), ?_, ?_⟩
 ·simp only [execOp, ho, e1, Instr.arrayAt, Sem.run_bind, run_underlying hd, Result.andThen_ok]
  rw [if_neg (by omega)]
  rfl
 ·simp only [R, RF]
  exact ⟨b, off, rfl, hb, MF.one hE⟩
theorem ev_slice3 {t e : Nat} {d ed : TD} {u : Operand} {lo hi mx : Operand} {k1 k2 k3 : IntKind} {l h : Int} {sz n m : Nat} {es fs : List (List AV)} (hu : val G S u = some (.fs sz n es)) (ht : lk td t = some d) (hs : d.k = .slice e) (he : lk td e = some ed) (hsz : ed.size = sz)
  (hl : val G S lo = some (.v (.int k1 l))) (hh : val G S hi = some (.v (.int k2 h))) (hx : val G S mx = some (.v (.int k3 h))) (hb : 0 ≤ l ∧ l ≤ h ∧ h ≤ n) (hm : (h - l).toNat = m) (hfs : (es.drop l.toNat).take m = fs) : Ev P G N (.slice t u (some lo) (some hi) (some mx)) ty S L (.fs sz m fs) := by
 subst hm hfs
 intro o ho _ cx a hc
 have e1 := zn hc hu
 have e2 := zn hc hl
 have e3 := zn hc hh
 have e4 := zn hc hx
 simp only [R, RF] at e1 e2 e3 e4
 obtain ⟨hlen, ad, cap, e1, hcap, hmem⟩ := e1
 have hsd := zH (P := P) ht hs
 have hlh : h.toNat - l.toNat = (h - l).toNat := by omega
 have hh0 : (h.toNat : Int) = h := Int.toNat_of_nonneg (by omega)
 have hbr : (Instr.sliceBounds true n cap (some (.int k1 l)) (some (.int k2 h)) (some (.int k3 h))).run P cx.w = .ok (l.toNat, h.toNat, h.toNat) cx.w := by
  simp [Instr.sliceBounds]
  rw [run_sliceBound _ _ _ _ _ (by omega) (by omega)]
  simp only [Result.andThen_ok]
  rw [run_sliceBound _ _ _ _ _ (by omega) (by omega)]
  simp only [Result.andThen_ok]
  rw [run_sliceBound _ _ _ _ _ (by omega) (by omega)]
  rfl
 refine ⟨.slice (if h.toNat = l.toNat then ad else ad.map (·.add (l.toNat * ed.size))) (h - l).toNat (h.toNat - l.toNat), ?_, ?_⟩
 ·simp only [execOp, ho, e1, e2, e3, e4, Option.map_some, Instr.sliceAt, Instr.slice, Sem.run_bind, run_underlying hsd, Result.andThen_ok, hbr, run_sizeOf' (P := P) he, Sem.run_pure, hlh]
 ·simp only [R, RF]
  refine ⟨by rw [List.length_take, List.length_drop, hlen]; omega, _, _, rfl, by omega, fun hne => ?_⟩
  obtain ⟨b, off, rfl, hF, hE⟩ := hmem (by omega)
  rw [if_neg (by omega)]
  exact ⟨b, off + l.toNat * sz, by simp [Addr.add_mid, hsz], hF, (hE.drop l.toNat).take _⟩
end
def aggS : AV → Bool
 | .agg cs => cs.all fun x => match x with | .v _ => true | _ => false
 | _ => false
theorem aggS_L {F F' : Nat → Prop} {w w' : World} : ∀ {cs : List AV} {ys : List Value}, (cs.all fun x => match x with | .v _ => true | _ => false) = true → LF F w cs ys → LF F' w' cs ys
 | [], ys, _, h => by simpa only [LF] using h
 | x :: r, ys, hf, h => by
  simp only [LF] at h ⊢
  simp only [List.all_cons, Bool.and_eq_true] at hf
  obtain ⟨y, s, e, hx, h1, h⟩ := h
  refine ⟨y, s, e, ?_, h1, aggS_L hf.2 h⟩
  cases x <;> simp only [Bool.false_eq_true, false_and] at hf <;> simpa only [RF] using hx
theorem aggS_RF {F F' : Nat → Prop} {w w' : World} {r : AV} {y : Value} (hs : aggS r = true) (h : RF F w r y) : RF F' w' r y := by
 cases r <;> simp only [aggS, Bool.false_eq_true] at hs <;> simp only [RF] at h ⊢
 obtain ⟨xs, e, h⟩ := h
 exact ⟨xs, e, aggS_L hs h⟩
section
variable {P : Program} {td : TDs} [T : TOK P td] {G : Glo} {N : Nat} {Q : AQ} {S : SL} {L : List LB} {ops : Array Oper} {rest : List Oper} {ty : TypeId} {pos : String} {af : Array Edge} {d : Nat}
theorem awpL_callA {f : FuncId} {us : Array Operand} {ats : Array TypeId} {args args' : List AV} {r : AV} (hargs : vals G S us.toList = some args) (hex : exL L args = args') (h : PCalls P G.g f args' r) (hscal : aggS r = true) (hd : Nat.blt d N = true)
  (k : awpL P G N ops rest Q ((d, r) :: S) L) : awpL P G N ops (⟨some d, .call { callee := .value (.func f), args := us, argTypes := ats }, ty, pos, af, none⟩ :: rest) Q S L := by
 intro cx a hc
 subst hex
 have ha := Jy hc.st args _ (ZV hc hargs)
 refine wpListIn_plain rfl fun K hK => zy rfl ?_
 rw [qa h.1 (o := ⟨some d, .call { callee := .value (.func f), args := us, argTypes := ats }, ty, pos, af, none⟩) rfl a cx.w, Oper.uponIn_enter]
 refine ⟨fun h => by simp at h, CallsIn.mono (h.2 (allF cx) cx.w (us.map a.eval) hc.st.freeze (by simpa using ha)) ?_⟩
 rintro e w' ⟨y, F', rfl, hr, st', ex⟩
 have hst := hc.st.afterS ex
 exact hK _ _ (zq (fun e a w q => q.trans hst.ext) _ _ _ (k { cx with w := w' } _ ((hst.cn hc).put hd (R.of_RF _ _ _ (aggS_RF hscal hr)))))
end
end
end Go.Ac
namespace Go.Proofs.YtcfkokllinkigaaGreatDoor
section
open Go.Ac
attribute [local irreducible] awp awpL Ev Ev2 EvS thenQ blockQ retQ PCalls OCalls ICalls
variable {g : List (Nat × List AV)}
def frameD (l : List UInt8) : List UInt8 := 76 :: 1 :: (vint l.length ++ l)
def frameB (l : List UInt8) : List UInt8 := frameD l ++ crc4 (frameD l)
theorem Jw (l : List UInt8) : (frameD l).length = 2 + (vint l.length).length + l.length := by simp [frameD]; omega
theorem qi (l : List UInt8) : (frameB l).length = 6 + (vint l.length).length + l.length := by rw [frameB, List.length_append, Jw]; simp [crc4]; omega
theorem u8s_by (l : List UInt8) : (l.map u8w).map (fun x => [x]) = l.map byC := by rw [List.map_map]; rfl
set_option maxRecDepth 4000 in
set_option maxHeartbeats 2000000 in
theorem Seal_spec (l : List UInt8) (hl : l.length ≤ 1048576) : PCalls Tryz.prog g 87 [vi 1, encBy l] (.tup [encBy (frameB l), vi 0]) := by
 have hP := PutInt_O (g := g) [76, 1] (by simp) l.length (by omega) (by omega)
 have hlen := zN (n := l.length) (by omega)
 have hfl := Jw l
 have hC := crc_spec (g := g) (frameD l) (by omega)
 have hj : ([76, 1] ++ vint (l.length : Int)).map byC ++ l.map byC = (frameD l).map byC := by rw [← List.map_append, List.append_assoc]; rfl
 have hj2 : (frameD l).map byC ++ (crc4 (frameD l)).map byC = (frameB l).map byC := by rw [← List.map_append]; rfl
 have hs : ((crc4 (frameD l)).map u8w).map (fun x => [x]) = (crc4 (frameD l)).map byC := u8s_by _
 have h4 : ((crc4 (frameD l)).map u8w).length = 4 := rfl
 have hx : exL [.own 1 5 1 ((frameD l).map byC)] [.os 0 1] = [encBy (frameD l)] := by simp [exL, ex, encBy]
 have c1 : decide ((1048576 : Int) < (l.length : Int)) = false := decide_eq_false (by omega)
 have w1 : IntKind.u8.wrap 1 = 1 := rfl
 have z1 : decide ((1 : Int) < 1) = false := rfl
 have z2 : decide ((255 : Int) < 1) = false := rfl
 have hb1 : ((([76, 1] : List UInt8) ++ vint (l.length : Int)).map byC).length ≤ 90000000 := by simp; omega
 have hb2 : ((frameD l).map byC).length ≤ 90000000 := by simp; omega
 obtain ⟨k0, k1, k2, k3, hk⟩ : ∃ k0 k1 k2 k3, crc4 (frameD l) = [k0, k1, k2, k3] := ⟨_, _, _, _, rfl⟩
 rw [hk] at hC hj2 hs h4
 refine pcalls' Tryz.func87 Tryz.ntmps87 rfl rfl rfl ?_
 unfold encBy at *
 repeat' (first
  | ((with_reducible refine zg ?_); (first | refine zb (zj rfl rfl rfl rfl w1) rfl ?_ | refine zb (ev_slice_arr rfl rfl rfl rfl rfl h4 hs) rfl ?_ | refine Qc rfl rfl hP rfl (by simp only [List.length_nil]; rfl) (by simp only [List.nil_append]; rfl) ?_ | refine zk (Zx (es' := (frameD l).map byC) rfl rfl rfl rfl rfl rfl rfl rfl rfl rfl rfl rfl rfl qe0 hj rfl) rfl ?_ | refine awpL_callA rfl hx hC (by simp [aggS, u8w]) rfl ?_ | refine zk (Zx (es' := (frameB l).map byC) rfl rfl rfl rfl rfl rfl rfl rfl rfl rfl rfl rfl rfl qe0 hj2 rfl) rfl ?_))
  | refine stn [] ?_
  | fail)
 refine retP rfl ?_
 simp [ex, exL]
def arr4Eq : List Value → List Value → Option Bool
 | [.int .u8 a, .int .u8 b, .int .u8 c, .int .u8 d], [.int .u8 a', .int .u8 b', .int .u8 c', .int .u8 d'] => if a = a' ∧ b = b' ∧ c = c' ∧ d = d' then some true else none
 | _, _ => none
set_option maxRecDepth 4000 in
theorem eq_arr4 (n : Nat) (w : World) (a b c d : Int) : (Op.equalIn (n + 1 + 1) 186 (.agg #[.int .u8 a, .int .u8 b, .int .u8 c, .int .u8 d]) (.agg #[.int .u8 a, .int .u8 b, .int .u8 c, .int .u8 d])).run Tryz.prog w = .ok true w := by
 have u3 := Tryz.underlying186
 have u5 := Tryz.underlying5
 have a5 := Tryz.isAgg5
 have z5 := Tryz.sizeOf5
 rw [Op.equalIn]
 simp only [Sem.run_bind, run_underlying u3, Result.andThen_ok]
 go_simp
 rw [show List.range' 0 4 = [0, 1, 2, 3] from rfl]
 simp only [List.forIn_cons, List.forIn_nil]
 go_simp
theorem arr4_T : EqT Tryz.prog 186 arr4Eq := by
 intro xs ys b w h
 unfold arr4Eq at h
 split at h
 ·split at h
  ·rename_i e
   obtain ⟨rfl, rfl, rfl, rfl⟩ := e
   cases h
   exact eq_arr4 9998 w _ _ _ _
  ·cases h
 ·cases h
theorem take_two {a b : UInt8} {r : List UInt8} (m : Nat) (h : 2 ≤ m := by omega) : ([a, b] ++ r).take m = [a, b] ++ r.take (m - 2) := by
 obtain ⟨k, rfl⟩ : ∃ k, m = k + 2 := ⟨m - 2, by omega⟩
 rfl
abbrev nilB : AV := .v (.slice none 0 0)
theorem j0 (c : List UInt8) : frameB c = [76, 1] ++ vint c.length ++ (c ++ crc4 (frameD c)) := by simp [frameB, frameD]
set_option maxRecDepth 4000 in
set_option maxHeartbeats 4000000 in
theorem Open_ok {b pre rest c : List UInt8} (hb : b = pre ++ frameB c ++ rest) (hc : c.length ≤ 1048576) (hl : b.length ≤ 80000000) : PCalls Tryz.prog g 114 [encBy b, vi pre.length] (.tup [vi 1, encBy c, vi ((pre.length + (frameB c).length : Nat) : Int), vi 0]) := by
 have hlen := zN (n := c.length) (by omega)
 have hfD := Jw c
 have hfB := qi c
 have hbl : b.length = pre.length + (frameB c).length + rest.length := by rw [hb]; simp; omega
 have hb2 : b = (pre ++ [76, 1]) ++ vint c.length ++ ((c ++ crc4 (frameD c)) ++ rest) := by rw [hb, j0]; simp
 have hI := wS (g := g) (by omega) (by omega) hb2 hl
 have hp2 : (((pre ++ [76, 1]).length : Nat) : Int) = (pre.length : Int) + 2 := by simp
 rw [hp2] at hI
 have hfrom : (((pre ++ [76, 1]).length + (vint (c.length : Int)).length : Nat) : Int) = ((pre.length + 2 + (vint (c.length : Int)).length : Nat) : Int) := by simp
 rw [hfrom] at hI
 have g0 : b[pre.length]? = some 76 := by rw [hb2, List.append_assoc, List.append_assoc, List.append_assoc, List.getElem?_append_right (by omega)]; simp
 have g1 : b[pre.length + 1]? = some 1 := by rw [hb2, List.append_assoc, List.append_assoc, List.append_assoc, List.getElem?_append_right (by omega)]; simp
 have i0 : 0 ≤ (pre.length : Int) ∧ (b.map byC)[((pre.length : Int)).toNat]? = some (byC 76) := ⟨by omega, by rw [Int.toNat_natCast, List.getElem?_map, g0]; rfl⟩
 have i1 : 0 ≤ (pre.length : Int) + 1 ∧ (b.map byC)[((pre.length : Int) + 1).toNat]? = some (byC 1) := ⟨by omega, by rw [show ((pre.length : Int) + 1).toNat = pre.length + 1 by omega, List.getElem?_map, g1]; rfl⟩
 have hC := crc_spec (g := g) (frameD c) (by omega)
 have hat : (b.map byC).drop (pre.length : Int).toNat = (frameB c).map byC ++ rest.map byC := by
  rw [Int.toNat_natCast, ← List.map_drop, hb, List.append_assoc, List.drop_left' rfl, List.map_append]
 have hcont : ((b.map byC).drop ((pre.length + 2 + (vint (c.length : Int)).length : Nat) : Int).toNat).take c.length = c.map byC := by
  rw [Int.toNat_natCast, ← List.map_drop, ← List.map_take, hb2, List.drop_left' (by simp; omega), List.append_assoc, List.take_left' rfl]
 have hsum : ((b.map byC).drop (((pre.length + 2 + (vint (c.length : Int)).length : Nat) : Int) + (c.length : Int)).toNat).take 4 = ((crc4 (frameD c)).map u8w).map fun x => [x] := by
  rw [u8s_by, show ((((pre.length + 2 + (vint (c.length : Int)).length : Nat) : Int) + (c.length : Int)).toNat) = pre.length + 2 + (vint (c.length : Int)).length + c.length by omega, ← List.map_drop, ← List.map_take, hb2, ← List.append_assoc, ← List.append_assoc, List.append_assoc _ (crc4 _), List.drop_left' (by simp; omega)]; rfl
 have hbody : ((b.map byC).drop (pre.length : Int).toNat).take (frameD c).length = (frameD c).map byC := by
  rw [hat, frameB, List.map_append, List.append_assoc, List.take_left' (by simp)]
 have hend : ((pre.length + (frameB c).length : Nat) : Int) = ((pre.length + 2 + (vint (c.length : Int)).length : Nat) : Int) + (c.length : Int) + 4 := by omega
 rw [hend]
 have hfl : (frameD c).length = 2 + (vint (c.length : Int)).length + c.length := hfD
 generalize hq : pre.length + 2 + (vint (c.length : Int)).length = p at *
 have c0 : decide ((pre.length : Int) < 0) = false := decide_eq_false (by omega)
 have c1 : decide ((b.length : Int) < (pre.length : Int)) = false := decide_eq_false (by omega)
 have c2 : decide ((pre.length : Int) = (b.length : Int)) = false := decide_eq_false (by omega)
 have c3 : (!decide (((76 : UInt8).toNat : Int) = 76)) = false := rfl
 have c4 : decide ((pre.length : Int) + 1 = (b.length : Int)) = false := decide_eq_false (by omega)
 have c5 : decide (((1 : UInt8).toNat : Int) = 0) = false := rfl
 have c6 : (!decide ((0 : Int) = 0)) = false := rfl
 have c7 : decide ((c.length : Int) < 0) = false := decide_eq_false (by omega)
 have c8 : decide ((1048576 : Int) < (c.length : Int)) = false := decide_eq_false (by omega)
 have c9 : decide ((b.length : Int) - (p : Int) - 4 < (c.length : Int)) = false := decide_eq_false (by omega)
 have b1 : True → (0 : Int) ≤ (p : Int) + (c.length : Int) ∧ (p : Int) + (c.length : Int) ≤ (p : Int) + (c.length : Int) + 4 ∧ (p : Int) + (c.length : Int) + 4 ≤ (b.length : Nat) := fun _ => by omega
 have m1 : (((p : Int) + (c.length : Int) + 4) - ((p : Int) + (c.length : Int))).toNat = 4 := by omega
 have b2 : True → (0 : Int) ≤ (pre.length : Int) ∧ (pre.length : Int) ≤ (p : Int) + (c.length : Int) ∧ (p : Int) + (c.length : Int) ≤ (b.length : Nat) := fun _ => by omega
 have m2 : (((p : Int) + (c.length : Int)) - (pre.length : Int)).toNat = (frameD c).length := by omega
 have b3 : True → (0 : Int) ≤ (p : Int) ∧ (p : Int) ≤ (p : Int) + (c.length : Int) ∧ (p : Int) + (c.length : Int) ≤ (b.length : Nat) := fun _ => by omega
 have m3 : (((p : Int) + (c.length : Int)) - (p : Int)).toNat = c.length := by omega
 have b4 : 4 ≤ 4 ∧ 0 < 4 := by decide
 obtain ⟨k0, k1, k2, k3, hk⟩ : ∃ k0 k1 k2 k3, crc4 (frameD c) = [k0, k1, k2, k3] := ⟨_, _, _, _, rfl⟩
 rw [hk] at hC hsum
 have hE : arr4Eq [.int .u8 k0.toNat, .int .u8 k1.toNat, .int .u8 k2.toNat, .int .u8 k3.toNat] [.int .u8 k0.toNat, .int .u8 k1.toNat, .int .u8 k2.toNat, .int .u8 k3.toNat] = some true := by simp [arr4Eq]
 have n1 : (!true) = false := rfl
 have w1 : IntKind.i64.wrap ((1 : UInt8).toNat : Int) = 1 := rfl
 clear hat hb2 hb hfrom hp2 hfD hfB hend hk
 refine pcalls' Tryz.func114 Tryz.ntmps114 rfl rfl rfl ?_
 unfold encBy at *
 repeat' (first
  | ((with_reducible refine zu ?_); (first | refine zc (zh (fun _ => zw rfl rfl rfl rfl rfl rfl rfl (b1 trivial) m1 hsum) rfl rfl) qb0 ?_ | refine zc (zh (fun _ => zw rfl rfl rfl rfl rfl rfl rfl (b2 trivial) m2 hbody) rfl rfl) qb0 ?_ | refine zc (zh (fun _ => ev_arrp rfl rfl rfl b4 rfl) rfl rfl) qb0 ?_ | refine zc (zh (fun _ => zj rfl rfl rfl rfl w1) rfl rfl) qb0 ?_ | refine zc (zh (fun _ => ev_slice3 rfl rfl rfl rfl rfl rfl rfl rfl (b3 trivial) m3 hcont) rfl rfl) qb0 ?_ | refine zc (zh (fun _ => Zc (b := true) arr4_T (by kernel_rfl) rfl rfl rfl rfl hE) rfl rfl) qb0 ?_))
  | ((with_reducible refine zp ?_); (first | refine zd rfl rfl qa0 (zh (fun _ => zw rfl rfl rfl rfl rfl rfl rfl (b1 trivial) m1 hsum) rfl rfl) qb0 ?_ | refine zd rfl rfl qa0 (zh (fun _ => zw rfl rfl rfl rfl rfl rfl rfl (b2 trivial) m2 hbody) rfl rfl) qb0 ?_ | refine zd rfl rfl qa0 (zh (fun _ => ev_arrp rfl rfl rfl b4 rfl) rfl rfl) qb0 ?_ | refine zd rfl rfl qa0 (zh (fun _ => zj rfl rfl rfl rfl w1) rfl rfl) qb0 ?_ | refine zd rfl rfl qa0 (zh (fun _ => ev_slice3 rfl rfl rfl rfl rfl rfl rfl rfl (b3 trivial) m3 hcont) rfl rfl) qb0 ?_ | refine zd rfl rfl qa0 (zh (fun _ => Zc (b := true) arr4_T (by kernel_rfl) rfl rfl rfl rfl hE) rfl rfl) qb0 ?_))
  | refine st [] ?_
  | fail)
 exact retP rfl rfl
set_option maxRecDepth 4000 in
set_option maxHeartbeats 4000000 in
theorem Open_cut {b pre c : List UInt8} {m : Nat} (hb : b = pre ++ (frameB c).take m) (hm : m < (frameB c).length) (hc : c.length ≤ 1048576) (hl : b.length ≤ 80000000) : PCalls Tryz.prog g 114 [encBy b, vi pre.length] (.tup [vi 0, nilB, vi 0, vi 4]) := by
 have hlen := zN (n := c.length) (by omega)
 have hpos := vint_pos c.length
 have hfB := qi c
 have hbl : b.length = pre.length + m := by rw [hb]; simp; omega
 have c0 : decide ((pre.length : Int) < 0) = false := decide_eq_false (by omega)
 have c1 : decide ((b.length : Int) < (pre.length : Int)) = false := decide_eq_false (by omega)
 by_cases h0 : m = 0
 ·have c2 : decide ((pre.length : Int) = (b.length : Int)) = true := decide_eq_true (by omega)
  refine pcalls' Tryz.func114 Tryz.ntmps114 rfl rfl rfl ?_
  unfold encBy at *
  refine runn [] ?_
  exact retP rfl rfl
 have c2 : decide ((pre.length : Int) = (b.length : Int)) = false := decide_eq_false (by omega)
 have g0 : b[pre.length]? = some 76 := by
  rw [hb, List.getElem?_append_right (by omega), j0, List.append_assoc, Nat.sub_self, List.getElem?_take, if_pos (by omega)]
  rfl
 have i0 : 0 ≤ (pre.length : Int) ∧ (b.map byC)[((pre.length : Int)).toNat]? = some (byC 76) := ⟨by omega, by rw [Int.toNat_natCast, List.getElem?_map, g0]; rfl⟩
 have c3 : (!decide (((76 : UInt8).toNat : Int) = 76)) = false := rfl
 by_cases h1 : m = 1
 ·have c4 : decide ((pre.length : Int) + 1 = (b.length : Int)) = true := decide_eq_true (by omega)
  refine pcalls' Tryz.func114 Tryz.ntmps114 rfl rfl rfl ?_
  unfold encBy at *
  refine runn [] ?_
  exact retP rfl rfl
 have c4 : decide ((pre.length : Int) + 1 = (b.length : Int)) = false := decide_eq_false (by omega)
 have g1 : b[pre.length + 1]? = some 1 := by
  rw [hb, List.getElem?_append_right (by omega), j0, List.append_assoc, show pre.length + 1 - pre.length = 1 by omega, List.getElem?_take, if_pos (by omega)]
  rfl
 have i1 : 0 ≤ (pre.length : Int) + 1 ∧ (b.map byC)[((pre.length : Int) + 1).toNat]? = some (byC 1) := ⟨by omega, by rw [show ((pre.length : Int) + 1).toNat = pre.length + 1 by omega, List.getElem?_map, g1]; rfl⟩
 have c5 : decide (((1 : UInt8).toNat : Int) = 0) = false := rfl
 have hp2 : (((pre ++ [76, 1]).length : Nat) : Int) = (pre.length : Int) + 2 := by simp
 have htk : (frameB c).take m = [76, 1] ++ (vint c.length ++ (c ++ crc4 (frameD c))).take (m - 2) := by
  rw [j0, List.append_assoc, take_two m]
 by_cases h2 : m - 2 < (vint c.length).length
 ·have hb2 : b = (pre ++ [76, 1]) ++ (vint c.length).take (m - 2) := by
   rw [hb, htk, List.append_assoc, List.take_append_of_le_length (by omega)]
  have hI := Int_cut (g := g) (n := c.length) (by omega) hb2 h2 hl
  rw [hp2] at hI
  have c6 : (!decide ((4 : Int) = 0)) = true := rfl
  refine pcalls' Tryz.func114 Tryz.ntmps114 rfl rfl rfl ?_
  unfold encBy at *
  refine runn [] ?_
  exact retP rfl rfl
 ·have hb2 : b = (pre ++ [76, 1]) ++ vint c.length ++ (c ++ crc4 (frameD c)).take (m - 2 - (vint c.length).length) := by
   rw [hb, htk, List.append_assoc, List.append_assoc, List.take_append, List.take_of_length_le (by omega)]
  have hI := wS (g := g) (by omega) (by omega) hb2 hl
  rw [hp2] at hI
  have hfrom : (((pre ++ [76, 1]).length + (vint (c.length : Int)).length : Nat) : Int) = ((pre.length + 2 + (vint (c.length : Int)).length : Nat) : Int) := by simp
  rw [hfrom] at hI
  generalize hq : pre.length + 2 + (vint (c.length : Int)).length = p at *
  have c6 : (!decide ((0 : Int) = 0)) = false := rfl
  have c7 : decide ((c.length : Int) < 0) = false := decide_eq_false (by omega)
  have c8 : decide ((1048576 : Int) < (c.length : Int)) = false := decide_eq_false (by omega)
  have c9 : decide ((b.length : Int) - (p : Int) - 4 < (c.length : Int)) = true := decide_eq_true (by omega)
  refine pcalls' Tryz.func114 Tryz.ntmps114 rfl rfl rfl ?_
  unfold encBy at *
  refine runn [] ?_
  exact retP rfl rfl
end
end Go.Proofs.YtcfkokllinkigaaGreatDoor
