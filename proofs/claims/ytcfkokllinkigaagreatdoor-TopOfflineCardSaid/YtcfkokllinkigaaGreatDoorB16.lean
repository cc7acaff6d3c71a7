/- A logic of trees over the model's steps, and the contracts of the functions that the laws reach: part 16 of 29. -/
import Derived.Test.YtcfkokllinkigaaGreatDoorB15
set_option linter.unusedVariables false
set_option linter.unusedSimpArgs false
set_option linter.unusedSectionVars false
set_option linter.unnecessarySimpa false
namespace Go.Proofs.YtcfkokllinkigaaGreatDoor
section
open Go.Ac
attribute [local irreducible] awp awpL Ev Ev2 EvS thenQ blockQ retQ PCalls OCalls
variable {g : List (Nat × List AV)}
def byC (b : UInt8) : List AV := [.v (.int .u8 b.toNat)]
def encBy (l : List UInt8) : AV := .fs 1 l.length (l.map byC)
theorem byC_get {l : List UInt8} {k : Nat} {c : UInt8} (h : l[k]? = some c) : 0 ≤ (k : Int) ∧ (l.map byC)[(k : Int).toNat]? = some [.v (.int .u8 c.toNat)] := ⟨by omega, by simp [h, byC]⟩
def xor32 (p q : Int) : Int := IntKind.u32.wrap (BitVec.ofInt IntKind.u32.bits p ^^^ BitVec.ofInt IntKind.u32.bits q).toNat
def and32 (p q : Int) : Int := IntKind.u32.wrap (BitVec.ofInt IntKind.u32.bits p &&& BitVec.ofInt IntKind.u32.bits q).toNat
def shr32 (p : Int) : Int := p.fdiv (2 ^ min (1 : Int).toNat IntKind.u32.bits)
def con32 (n : Int) : Int := IntKind.u32.wrap n
def cpl32 (p : Int) : Int := IntKind.u32.wrap (BitVec.ofInt IntKind.u32.bits (if IntKind.u32.signed then -1 else IntKind.u32.max) ^^^ BitVec.ofInt IntKind.u32.bits p).toNat
def cBit (r : Int) : Int := if and32 r 1 = 1 then xor32 (shr32 r) 3988292384 else shr32 r
def cBits : Nat → Int → Int
 | 0, r => r
 | k + 1, r => cBit (cBits k r)
def cStep (r : Int) (c : UInt8) : Int := cBits 8 (xor32 r (con32 c.toNat))
def cFrom (l : List UInt8) : Int := l.foldl cStep 4294967295
def crcD (l : List UInt8) : Int := IntKind.i64.wrap (cpl32 (cFrom l))
theorem cFrom_take {l : List UInt8} {k : Nat} {c : UInt8} (e : l[k]? = some c) : cFrom (l.take (k + 1)) = cStep (cFrom (l.take k)) c := by
 unfold cFrom
 rw [List.take_add_one, e]
 simp
set_option maxRecDepth 4000 in
set_option maxHeartbeats 2000000 in
theorem Crc_spec (l : List UInt8) (hb : l.length ≤ 90000000) : PCalls Tryz.prog g 137 [encBy l] (vi (crcD l)) := by
 refine pcalls' Tryz.func137 Tryz.ntmps137 rfl rfl rfl ?_
 unfold encBy
 refine runn [] ?_
 refine zi (α := Nat) 0 (fun k => [(3, .v (.int .u32 (cFrom (l.take k)))), (7, .fs 1 l.length (l.map byC)), (8, vi l.length), (9, vi k)]) (fun _ => []) (fun k => k ≤ l.length) (fun k => l.length - k) 0
  qw (Nat.zero_le _) ?_
 intro k hk
 cases ht : l[k]? with
 | none =>
  have hge : l.length ≤ k := by simpa using ht
  have c1 : decide ((k : Int) < l.length) = false := decide_eq_false (by omega)
  rw [List.take_of_length_le hge]
  repeat' (first
   | ((with_reducible refine zg ?_); (first | refine zb (ev_cplK (r := cpl32 (cFrom l)) rfl rfl) rfl ?_ | refine zb (zj (m := crcD l) rfl rfl rfl rfl rfl) rfl ?_))
   | refine stn [] ?_
   | fail)
  exact retP rfl rfl
 | some c =>
  have hlt : k < l.length := (List.getElem?_eq_some_iff.1 ht).1
  have c1 : decide ((k : Int) < l.length) = true := decide_eq_true (by omega)
  have g1 := byC_get ht
  have hs := cFrom_take ht
  generalize cFrom (l.take k) = a at hs ⊢
  generalize hF : cFrom (l.take (k + 1)) = b at hs
  repeat' (first
   | ((with_reducible refine zg ?_); (first | refine zb (zj (m := con32 c.toNat) rfl rfl rfl rfl rfl) rfl ?_ | refine zb (j4 (r := xor32 a (con32 c.toNat)) rfl rfl rfl) rfl ?_))
   | refine stn [] ?_
   | fail)
  refine zi (α := Nat) 0 (fun j => [(3, .v (.int .u32 (cBits j (xor32 a (con32 c.toNat))))), (7, .fs 1 l.length (l.map byC)), (8, vi l.length), (9, vi k), (17, vi j)]) (fun _ => []) (fun j => j ≤ 8) (fun j => 8 - j) 0
   qw (Nat.zero_le _) ?_
  intro j hj
  by_cases h8 : j = 8
  ·subst h8
   have d1 : decide (((8 : Nat) : Int) < 8) = false := rfl
   have hb2 : cBits 8 (xor32 a (con32 c.toNat)) = b := hs.symm
   rw [hb2]
   refine runn [] ?_
   exact ⟨k + 1, by rw [hF]; exact qw, by omega, by omega⟩
  ·have d1 : decide ((j : Int) < 8) = true := decide_eq_true (by omega)
   have hn : cBits (j + 1) (xor32 a (con32 c.toNat)) = cBit (cBits j (xor32 a (con32 c.toNat))) := rfl
   generalize cBits j (xor32 a (con32 c.toNat)) = x at hn ⊢
   by_cases ho : and32 x 1 = 1
   ·have d2 : decide (and32 x 1 = 1) = true := decide_eq_true ho
    rw [show cBit x = xor32 (shr32 x) 3988292384 from if_pos ho] at hn
    repeat' (first
     | ((with_reducible refine zg ?_); (first | refine zb (Qm (r := and32 x 1) rfl rfl rfl) rfl ?_ | refine zb (ev_eqK rfl rfl) rfl ?_ | refine zb (ZU (r := shr32 x) rfl rfl (by decide) rfl) rfl ?_ | refine zb (j4 (r := xor32 (shr32 x) 3988292384) rfl rfl rfl) rfl ?_))
     | refine stn [] ?_
     | fail)
    exact ⟨j + 1, by rw [hn]; exact qw, by omega, by omega⟩
   ·have d2 : decide (and32 x 1 = 1) = false := decide_eq_false ho
    rw [show cBit x = shr32 x from if_neg ho] at hn
    repeat' (first
     | ((with_reducible refine zg ?_); (first | refine zb (Qm (r := and32 x 1) rfl rfl rfl) rfl ?_ | refine zb (ev_eqK rfl rfl) rfl ?_ | refine zb (ZU (r := shr32 x) rfl rfl (by decide) rfl) rfl ?_))
     | refine stn [] ?_
     | fail)
    exact ⟨j + 1, by rw [hn]; exact qw, by omega, by omega⟩
def crcB (n : Int) (i : Nat) : UInt8 := UInt8.ofNat (IntKind.u8.wrap (n.fdiv (2 ^ min (8 * (i : Int)).toNat IntKind.i64.bits))).toNat
theorem crcB_v (n : Int) (i : Nat) : IntKind.u8.wrap (n.fdiv (2 ^ min (8 * (i : Int)).toNat IntKind.i64.bits)) = ((crcB n i).toNat : Int) := by
 unfold crcB
 generalize n.fdiv (2 ^ min (8 * (i : Int)).toNat IntKind.i64.bits) = x
 rw [IntKind.wrap_u8, UInt8.toNat_ofNat']
 omega
def crc4 (l : List UInt8) : List UInt8 := [crcB (crcD l) 0, crcB (crcD l) 1, crcB (crcD l) 2, crcB (crcD l) 3]
def u8w (b : UInt8) : AV := .v (.int .u8 b.toNat)
def u80 : AV := .v (.int .u8 0)
def crcAt (n : Int) (i : Nat) : List AV := (List.range 4).map fun j => if j < i then u8w (crcB n j) else u80
theorem crcAt_0 (n : Int) : crcAt n 0 = [u80, u80, u80, u80] := rfl
theorem crcAt_1 (n : Int) : crcAt n 1 = [u8w (crcB n 0), u80, u80, u80] := rfl
theorem crcAt_2 (n : Int) : crcAt n 2 = [u8w (crcB n 0), u8w (crcB n 1), u80, u80] := rfl
theorem crcAt_3 (n : Int) : crcAt n 3 = [u8w (crcB n 0), u8w (crcB n 1), u8w (crcB n 2), u80] := rfl
set_option maxRecDepth 4000 in
set_option maxHeartbeats 2000000 in
theorem crc_spec (l : List UInt8) (hb : l.length ≤ 90000000) : PCalls Tryz.prog g 112 [encBy l] (.agg ((crc4 l).map u8w)) := by
 have hC := Crc_spec (g := g) l hb
 unfold crc4
 generalize crcD l = n at hC
 refine pcalls' Tryz.func112 Tryz.ntmps112 rfl rfl rfl ?_
 refine runn [2] ?_
 refine zi (α := Nat) 2 (fun k => [(2, .lp 0 0), (3, .lp 1 0), (4, vi n), (8, vi k)]) (fun k => [.box [u80, u80, u80, u80], .box (crcAt n k)]) (fun k => k ≤ 4) (fun k => 4 - k) 0
  qw (Nat.zero_le _) ?_
 intro k hk
 by_cases h4 : k = 4
 ·subst h4
  have d1 : decide (((4 : Nat) : Int) < 4) = false := rfl
  rw [show crcAt n 4 = [u8w (crcB n 0), u8w (crcB n 1), u8w (crcB n 2), u8w (crcB n 3)] from rfl]
  refine runn [2] ?_
  exact retP rfl rfl
 rcases (by omega : k = 0 ∨ k = 1 ∨ k = 2 ∨ k = 3) with rfl | rfl | rfl | rfl
 ·have d1 : decide (((0 : Nat) : Int) < 4) = true := rfl
  have hv := crcB_v n 0
  have hc : (0 : Int) ≤ ((0 : Nat) : Int) ∧ ((0 : Nat) : Int) < (4 : Nat) := by omega
  rw [crcAt_0]
  repeat' (first
   | ((with_reducible refine zg ?_); (first | refine zb (ZU (r := n.fdiv (2 ^ min (8 * ((0 : Nat) : Int)).toNat IntKind.i64.bits)) rfl rfl (by omega) rfl) rfl ?_ | refine zb (zj (m := ((crcB n 0).toNat : Int)) rfl rfl rfl rfl hv) rfl ?_ | refine zb (Zj rfl rfl rfl rfl rfl rfl hc) rfl ?_ | refine zb (qg rfl rfl (by omega)) rfl ?_))
   | refine stn [2] ?_
   | fail)
  exact ⟨0 + 1, qw, by omega, by omega⟩
 ·have d1 : decide (((1 : Nat) : Int) < 4) = true := rfl
  have hv := crcB_v n 1
  have hc : (0 : Int) ≤ ((1 : Nat) : Int) ∧ ((1 : Nat) : Int) < (4 : Nat) := by omega
  rw [crcAt_1]
  repeat' (first
   | ((with_reducible refine zg ?_); (first | refine zb (ZU (r := n.fdiv (2 ^ min (8 * ((1 : Nat) : Int)).toNat IntKind.i64.bits)) rfl rfl (by omega) rfl) rfl ?_ | refine zb (zj (m := ((crcB n 1).toNat : Int)) rfl rfl rfl rfl hv) rfl ?_ | refine zb (Zj rfl rfl rfl rfl rfl rfl hc) rfl ?_ | refine zb (qg rfl rfl (by omega)) rfl ?_))
   | refine stn [2] ?_
   | fail)
  exact ⟨1 + 1, qw, by omega, by omega⟩
 ·have d1 : decide (((2 : Nat) : Int) < 4) = true := rfl
  have hv := crcB_v n 2
  have hc : (0 : Int) ≤ ((2 : Nat) : Int) ∧ ((2 : Nat) : Int) < (4 : Nat) := by omega
  rw [crcAt_2]
  repeat' (first
   | ((with_reducible refine zg ?_); (first | refine zb (ZU (r := n.fdiv (2 ^ min (8 * ((2 : Nat) : Int)).toNat IntKind.i64.bits)) rfl rfl (by omega) rfl) rfl ?_ | refine zb (zj (m := ((crcB n 2).toNat : Int)) rfl rfl rfl rfl hv) rfl ?_ | refine zb (Zj rfl rfl rfl rfl rfl rfl hc) rfl ?_ | refine zb (qg rfl rfl (by omega)) rfl ?_))
   | refine stn [2] ?_
   | fail)
  exact ⟨2 + 1, qw, by omega, by omega⟩
 ·have d1 : decide (((3 : Nat) : Int) < 4) = true := rfl
  have hv := crcB_v n 3
  have hc : (0 : Int) ≤ ((3 : Nat) : Int) ∧ ((3 : Nat) : Int) < (4 : Nat) := by omega
  rw [crcAt_3]
  repeat' (first
   | ((with_reducible refine zg ?_); (first | refine zb (ZU (r := n.fdiv (2 ^ min (8 * ((3 : Nat) : Int)).toNat IntKind.i64.bits)) rfl rfl (by omega) rfl) rfl ?_ | refine zb (zj (m := ((crcB n 3).toNat : Int)) rfl rfl rfl rfl hv) rfl ?_ | refine zb (Zj rfl rfl rfl rfl rfl rfl hc) rfl ?_ | refine zb (qg rfl rfl (by omega)) rfl ?_))
   | refine stn [2] ?_
   | fail)
  exact ⟨3 + 1, qw, by omega, by omega⟩
end
end Go.Proofs.YtcfkokllinkigaaGreatDoor
namespace Go.Ac
section
section
variable {P : Program} {td : TDs} [T : TOK P td] {G : Glo} {N : Nat} {Q : AQ} {S : SL} {L : List LB} {ops : Array Oper} {rest : List Oper} {ty : TypeId} {pos : String} {af : Array Edge} {d : Nat}
theorem awpL_icallF {f : FuncId} {p : Operand} {us : Array Operand} {ats : Array TypeId} {args : List AV} {r : AV} {L' : List LB} (hp : val G S p = some (.fn f [] [])) (hargs : vals G S us.toList = some args) (h : ICalls P G f args L L' r) (hd : Nat.blt d N = true)
  (k : awpL P G N ops rest Q ((d, r) :: S) L') : awpL P G N ops (⟨some d, .call { callee := .value p, args := us, argTypes := ats }, ty, pos, af, none⟩ :: rest) Q S L := by
 intro cx a hc
 have ha := ZV hc hargs
 refine wpListIn_plain rfl fun K hK => zy rfl ?_
 rw [run_callF h.1 (o := ⟨some d, .call { callee := .value p, args := us, argTypes := ats }, ty, pos, af, none⟩) rfl a cx.w (fn_R hc hp), Oper.uponIn_enter]
 refine ⟨fun h => by simp at h, CallsIn.mono (h.2 cx (us.map a.eval) hc.st (by simpa using ha)) ?_⟩
 rintro e w' ⟨y, cx', rfl, hr, st', ex, hs, hmk, rfl⟩
 refine hK _ _ (zq (fun e a w q => q.trans ex) _ _ _ (k cx' _ ((Cn.put (S := S) ⟨st', by rw [hmk]; exact hc.de, hc.sz, hc.sr.mono_all hs⟩ hd hr))))
theorem run_callM {f : FuncId} (hf : Callable P f) {o : Oper} {p : Operand} {nm : String} {us : Array Operand} {ats : Array TypeId} (ho : o.op = .call { callee := .invoke p nm, args := us, argTypes := ats }) (a : Act) (w : World) {t : TypeId} {v v' : Value}
  (hp : a.eval p = .iface t v) (hm : (method (P.types.size + Made.depth) t v nm).run P w = .ok (f, v') w) : (execOp a.eval o).run P w = .ok (.enter f (#[v'] ++ us.map a.eval)) w := by
 obtain ⟨fn, h1, h2, h3⟩ := hf
 have h3' : ¬ fn.name = "runtime.NumGoroutine" := by simpa using h3
 have h2' : ¬ fn.body = none := by intro e; rw [e] at h2; cases h2
 have e : (us.map a.eval).extract 0 us.size = us.map a.eval := by
  rw [show us.size = (us.map a.eval).size by simp]
  exact Array.extract_size
 have e0 : (#[Value.iface t v] ++ us.map a.eval)[0]? = some (.iface t v) := by rw [Array.getElem?_append_left (by simp)]; rfl
 simp [execOp, ho, resolve, hp, invoke, callMethod, hm, callFunc, h1, h2', h3', e, e0]
theorem Wn {f : FuncId} {p : Operand} {nm : String} {us : Array Operand} {ats : Array TypeId} {args : List AV} {r : AV} {L' : List LB} {t : TypeId} (hp : val G S p = some (.ifc t (.agg []))) (hm : ∀ w, (method (P.types.size + Made.depth) t (.agg #[]) nm).run P w = .ok (f, .agg #[]) w) (hargs : vals G S us.toList = some args) (h : ICalls P G f (.agg [] :: args) L L' r) (hd : Nat.blt d N = true)
  (k : awpL P G N ops rest Q ((d, r) :: S) L') : awpL P G N ops (⟨some d, .call { callee := .invoke p nm, args := us, argTypes := ats }, ty, pos, af, none⟩ :: rest) Q S L := by
 intro cx a hc
 have ha := ZV hc hargs
 have hv := zn hc hp
 simp only [R, RF, LF] at hv
 obtain ⟨u, hv, xs, rfl, hx⟩ := hv
 have hx : xs = #[] := by simpa using hx
 subst hx
 refine wpListIn_plain rfl fun K hK => zy rfl ?_
 rw [run_callM h.1 (o := ⟨some d, .call { callee := .invoke p nm, args := us, argTypes := ats }, ty, pos, af, none⟩) rfl a cx.w hv (hm cx.w), Oper.uponIn_enter]
 have hargs2 : TR cx (.agg [] :: args) (#[Value.agg #[]] ++ us.map a.eval).toList := by
  rw [Array.toList_append, Array.toList_map]
  simp only [List.cons_append, List.nil_append, TR, R, RF, LF]
  exact ⟨_, _, rfl, ⟨#[], rfl, rfl⟩, ha⟩
 refine ⟨fun h => by simp at h, CallsIn.mono (h.2 cx _ hc.st hargs2) ?_⟩
 rintro e w' ⟨y, cx', rfl, hr, st', ex, hs, hmk, rfl⟩
 refine hK _ _ (zq (fun e a w q => q.trans ex) _ _ _ (k cx' _ ((Cn.put (S := S) ⟨st', by rw [hmk]; exact hc.de, hc.sz, hc.sr.mono_all hs⟩ hd hr))))
end
end
section
section
variable {P : Program} {td : TDs} [T : TOK P td] {G : Glo} {N : Nat} {S : SL} {L : List LB} {ty : TypeId} {x : AV}
theorem Zx {t e k v sz : Nat} {d ed : TD} {u q : Operand} {es new es' : List (List AV)} {ats : Array TypeId} {L' : List LB} (h : val G S u = some (.os k v)) (hk : L[k]? = some (.own v e sz es)) (hq : val G S q = some x) (hsrc : src L x = some new) (hssz : srcSz L sz x = true)
  (hat : ats = #[t, t]) (ht : lk td t = some d) (hs : d.k = .slice e) (he : lk td e = some ed) (hsz : ed.size = sz) (hzl : ed.zero.length = sz) (hpos : Nat.blt 0 sz = true) (hby : Nat.ble ed.bytes 1000 = true)
  (hb : es.length + new.length ≤ 100000000) (hes : es ++ new = es') (hL : L.set k (.own (v + 1) e sz es') = L') :
  Ev2 P G N (.call { callee := .builtin .append, args := #[u, q], argTypes := ats }) ty S L (.os k (v + 1)) L' := by
 subst hes hL
 refine ev_append h hk hq hsrc hssz hat ht hs he hsz hzl hpos ⟨?_, ?_⟩
 ·have := Nat.le_of_ble_eq_true hby
  calc (es.length + new.length) * ed.bytes ≤ 100000000 * 1000 := Nat.mul_le_mul hb this
   _ ≤ 140737488355328 := by omega
 ·simp only [maxLen]; omega
end
end
end Go.Ac
namespace Go.Proofs.YtcfkokllinkigaaGreatDoor
section
open Go.Ac
attribute [local irreducible] awp awpL Ev Ev2 EvS thenQ blockQ retQ PCalls OCalls ICalls
variable {g : List (Nat × List AV)}
set_option maxHeartbeats 1000000 in
theorem Wr (l : List UInt8) (hl : l.length ≤ 90000000) : OCalls Tryz.prog g 134 [encBy l] 5 1 (l.map byC) := by
 have hj : ([] : List (List AV)) ++ l.map byC = l.map byC := rfl
 refine ocalls' Tryz.func134 Tryz.ntmps134 rfl rfl rfl ?_
 unfold encBy
 repeat' (first
  | refine awp_retA (t := 2) (E := 5) (sz := 1) rfl ?_
  | ((with_reducible refine zg ?_); (first | refine Ye rfl rfl rfl rfl (fun h0 => ?_) ?_ | refine zk (ZM (t := 64) (n := 0) (es := []) rfl rfl rfl rfl rfl rfl rfl rfl rfl rfl rfl qf0 qc0) rfl ?_ | refine zk (Zx (es' := l.map byC) rfl rfl rfl rfl rfl rfl rfl rfl rfl rfl rfl rfl rfl qe0 hj rfl) rfl ?_))
  | refine stn [2] ?_
  | fail)
 ·have hl0 : l = [] := List.eq_nil_of_length_eq_zero h0
  subst hl0
  exact retO rfl rfl
 ·exact retO rfl rfl
theorem shl1 {z : Nat} (h : (z : Int) < 4611686018427387904) : IntKind.u64.wrap ((z : Int) * 2 ^ min (1 : Int).toNat IntKind.u64.bits) = ((2 * z : Nat) : Int) := by
 rw [IntKind.wrap_u64]
 show ((z : Int) * 2 ^ 1) % 18446744073709551616 = _
 omega
theorem shr63 {z : Nat} (h : (z : Int) < 4611686018427387904) : ((z : Int)).fdiv (2 ^ min (63 : Int).toNat IntKind.i64.bits) = 0 := by
 show ((z : Int)).fdiv 9223372036854775808 = 0
 rw [Int.fdiv_eq_ediv_of_nonneg _ (by decide)]
 omega
theorem xor0 {z : Nat} (h : z < 2 ^ 64) : IntKind.u64.wrap (BitVec.ofInt IntKind.u64.bits (z : Int) ^^^ BitVec.ofInt IntKind.u64.bits 0).toNat = (z : Int) := by
 have := xor_nat (n := 64) (a := z) (b := 0) h (by decide)
 rw [show IntKind.u64.bits = 64 from rfl, show ((0 : Int)) = ((0 : Nat) : Int) from rfl, this, Nat.xor_zero, IntKind.wrap_u64]
 omega
set_option maxRecDepth 8000 in
theorem or_fin : ∀ m : Fin 256, m.val ||| 128 = m.val % 128 + 128 := by decide
theorem or128 {z : Nat} : IntKind.u8.wrap (BitVec.ofInt IntKind.u8.bits ((z % 256 : Nat) : Int) ||| BitVec.ofInt IntKind.u8.bits 128).toNat = ((UInt8.ofNat (z % 128 + 128)).toNat : Int) := by
 have h2 := or_nat (n := 8) (a := z % 256) (b := 128) (by omega) (by decide)
 have h3 := or_fin ⟨z % 256, by omega⟩
 simp only at h3
 rw [show IntKind.u8.bits = 8 from rfl, show ((128 : Int)) = ((128 : Nat) : Int) from rfl, h2, h3, IntKind.wrap_u8, UInt8.toNat_ofNat']
 omega
theorem con8 (z : Nat) : IntKind.u8.wrap (z : Int) = ((z % 256 : Nat) : Int) := by rw [IntKind.wrap_u8]; omega
theorem shr7 (z : Nat) : ((z : Int)).fdiv (2 ^ min (7 : Int).toNat IntKind.u64.bits) = ((z / 128 : Nat) : Int) := by
 show ((z : Int)).fdiv 128 = _
 rw [Int.fdiv_eq_ediv_of_nonneg _ (by decide)]
 omega
def appU (es : List (List AV)) (l : List UInt8) : Nat → List (List AV)
 | 0 => es
 | i + 1 => appU es l i ++ (l[i]?).toList.map byC
theorem we (es : List (List AV)) (l : List UInt8) : ∀ i, appU es l i = es ++ (l.take i).map byC
 | 0 => by simp [appU]
 | i + 1 => by rw [appU, we es l i, List.take_add_one, List.map_append, List.append_assoc]
theorem Yf (es : List (List AV)) (l : List UInt8) (i : Nat) : (appU es l i).length ≤ es.length + l.length := by
 rw [we, List.length_append, List.length_map, List.length_take]; omega
abbrev ownB (v : Nat) (es : List (List AV)) (z i : Nat) : LB := .own (v + i) 5 1 (appU es (vz z) i)
def digs (z : Nat) : Nat → Nat
 | 0 => z
 | i + 1 => digs z i / 128
theorem QV (z : Nat) : ∀ i, digs z i = z / 128 ^ i
 | 0 => by simp [digs]
 | i + 1 => by rw [digs, QV z i, Nat.div_div_eq_div_mul, ← Nat.pow_succ]
set_option maxRecDepth 4000 in
set_option maxHeartbeats 2000000 in
theorem varint_A (n : Int) (h0 : 0 ≤ n) (h1 : n < 4611686018427387904) (v : Nat) (es : List (List AV)) (hl : es.length ≤ 90000000) : ICalls Tryz.prog (Glo.of g) 133 [.os 0 v, vi n] (.own v 5 1 es :: []) (.own (v + (vint n).length) 5 1 (es ++ (vint n).map byC) :: []) (.os 0 (v + (vint n).length)) := by
 obtain ⟨m, rfl⟩ : ∃ m : Nat, n = m := ⟨n.toNat, by omega⟩
 have hz : vint (m : Int) = vz (2 * m) := by unfold vint; congr 1
 have hlen := jc h1
 rw [hz] at hlen ⊢
 have w1 : IntKind.u64.wrap (m : Int) = (m : Int) := by rw [IntKind.wrap_u64]; omega
 have w2 := shl1 h1
 have w3 := shr63 h1
 have w4 : IntKind.u64.wrap (0 : Int) = 0 := rfl
 have w5 := xor0 (z := 2 * m) (by omega)
 have hpos := WX (2 * m)
 have hzb : 2 * m < 9223372036854775808 := by omega
 generalize 2 * m = z at *
 refine icalls Tryz.func133 rfl Tryz.ntmps133 rfl rfl rfl rfl rfl rfl ?_
 repeat' (first
  | ((with_reducible refine zg ?_); (first | refine zb (zj rfl rfl rfl rfl w1) rfl ?_ | refine zb (j5 rfl rfl (by decide) w2) rfl ?_ | refine zb (ZU rfl rfl (by decide) w3) rfl ?_ | refine zb (zj rfl rfl rfl rfl w4) rfl ?_ | refine zb (j4 rfl rfl w5) rfl ?_))
  | refine stn [0] ?_
  | fail)
 refine zi (α := Nat) 2 (fun i => [(0, .os 0 (v + i)), (5, .v (.int .u64 ((digs z i : Nat) : Int)))]) (fun i => ownB v es z i :: [.pin]) (fun i => i < (vz z).length) (fun i => (vz z).length - i) 0
  qw hpos ?_
 intro i hi
 obtain ⟨q1, q2, q3⟩ := WY i z hi
 rw [← QV] at q1 q2 q3
 have e8 := con8 (digs z i)
 have hal := Yf es (vz z) i
 by_cases hx : digs z i < 128
 ·have c1 : decide (128 ≤ ((digs z i : Nat) : Int)) = false := decide_eq_false (by omega)
  have hi1 := q2.2 hx
  rw [if_pos hx] at q1
  have e9 : (((digs z i) % 256 : Nat) : Int) = ((UInt8.ofNat (digs z i)).toNat : Int) := by rw [UInt8.toNat_ofNat']
  have hfin : appU es (vz z) i ++ [byC (UInt8.ofNat (digs z i))] = es ++ (vz z).map byC := by
   have : appU es (vz z) (i + 1) = es ++ (vz z).map byC := by rw [we, List.take_of_length_le (by omega)]
   rw [← this, appU, q1]; rfl
  rw [e9] at e8
  rw [← hi1]
  repeat' (first
   | ((with_reducible refine zg ?_); (first | refine zb (ev_geK rfl rfl) rfl ?_ | refine zb (zj rfl rfl rfl rfl e8) rfl ?_ | refine zk (Zx (es' := es ++ (vz z).map byC) rfl rfl rfl rfl rfl rfl rfl rfl rfl rfl rfl rfl rfl qe0 hfin rfl) rfl ?_))
   | refine stn [0] ?_
   | fail)
  exact retI rfl ⟨rfl, rfl⟩
 ·have c1 : decide (128 ≤ ((digs z i : Nat) : Int)) = true := decide_eq_true (by omega)
  have hi1 : i + 1 < (vz z).length := by
   rcases Nat.lt_or_ge (i + 1) (vz z).length with q | q
   ·exact q
   ·exact absurd (q2.1 (by omega)) hx
  rw [if_neg hx] at q1
  have hfin : appU es (vz z) i ++ [byC (UInt8.ofNat (digs z i % 128 + 128))] = appU es (vz z) (i + 1) := by
   rw [appU, q1]; rfl
  have e10 := or128 (z := digs z i)
  have e11 := shr7 (digs z i)
  repeat' (first
   | ((with_reducible refine zg ?_); (first | refine zb (ev_geK rfl rfl) rfl ?_ | refine zb (zj rfl rfl rfl rfl e8) rfl ?_ | refine zb (wK rfl rfl e10) rfl ?_ | refine zb (ZU rfl rfl (by decide) e11) rfl ?_ | refine zk (Zx (es' := appU es (vz z) (i + 1)) rfl rfl rfl rfl rfl rfl rfl rfl rfl rfl rfl rfl rfl qe0 hfin rfl) rfl ?_))
   | refine stn [0] ?_
   | fail)
  exact ⟨i + 1, qw, hi1, by omega⟩
set_option maxRecDepth 4000 in
set_option maxHeartbeats 2000000 in
theorem varint_B (n : Int) (h0 : 0 ≤ n) (h1 : n < 4611686018427387904) (v : Nat) (es : List (List AV)) (hl : es.length ≤ 90000000) : ICalls Tryz.prog (Glo.of g) 133 [.os 0 v, vi n] (.own v 5 1 es :: [.pin]) (.own (v + (vint n).length) 5 1 (es ++ (vint n).map byC) :: [.pin]) (.os 0 (v + (vint n).length)) := by
 obtain ⟨m, rfl⟩ : ∃ m : Nat, n = m := ⟨n.toNat, by omega⟩
 have hz : vint (m : Int) = vz (2 * m) := by unfold vint; congr 1
 have hlen := jc h1
 rw [hz] at hlen ⊢
 have w1 : IntKind.u64.wrap (m : Int) = (m : Int) := by rw [IntKind.wrap_u64]; omega
 have w2 := shl1 h1
 have w3 := shr63 h1
 have w4 : IntKind.u64.wrap (0 : Int) = 0 := rfl
 have w5 := xor0 (z := 2 * m) (by omega)
 have hpos := WX (2 * m)
 have hzb : 2 * m < 9223372036854775808 := by omega
 generalize 2 * m = z at *
 refine icalls Tryz.func133 rfl Tryz.ntmps133 rfl rfl rfl rfl rfl rfl ?_
 repeat' (first
  | ((with_reducible refine zg ?_); (first | refine zb (zj rfl rfl rfl rfl w1) rfl ?_ | refine zb (j5 rfl rfl (by decide) w2) rfl ?_ | refine zb (ZU rfl rfl (by decide) w3) rfl ?_ | refine zb (zj rfl rfl rfl rfl w4) rfl ?_ | refine zb (j4 rfl rfl w5) rfl ?_))
  | refine stn [0] ?_
  | fail)
 refine zi (α := Nat) 3 (fun i => [(0, .os 0 (v + i)), (5, .v (.int .u64 ((digs z i : Nat) : Int)))]) (fun i => ownB v es z i :: [.pin,.pin]) (fun i => i < (vz z).length) (fun i => (vz z).length - i) 0
  qw hpos ?_
 intro i hi
 obtain ⟨q1, q2, q3⟩ := WY i z hi
 rw [← QV] at q1 q2 q3
 have e8 := con8 (digs z i)
 have hal := Yf es (vz z) i
 by_cases hx : digs z i < 128
 ·have c1 : decide (128 ≤ ((digs z i : Nat) : Int)) = false := decide_eq_false (by omega)
  have hi1 := q2.2 hx
  rw [if_pos hx] at q1
  have e9 : (((digs z i) % 256 : Nat) : Int) = ((UInt8.ofNat (digs z i)).toNat : Int) := by rw [UInt8.toNat_ofNat']
  have hfin : appU es (vz z) i ++ [byC (UInt8.ofNat (digs z i))] = es ++ (vz z).map byC := by
   have : appU es (vz z) (i + 1) = es ++ (vz z).map byC := by rw [we, List.take_of_length_le (by omega)]
   rw [← this, appU, q1]; rfl
  rw [e9] at e8
  rw [← hi1]
  repeat' (first
   | ((with_reducible refine zg ?_); (first | refine zb (ev_geK rfl rfl) rfl ?_ | refine zb (zj rfl rfl rfl rfl e8) rfl ?_ | refine zk (Zx (es' := es ++ (vz z).map byC) rfl rfl rfl rfl rfl rfl rfl rfl rfl rfl rfl rfl rfl qe0 hfin rfl) rfl ?_))
   | refine stn [0] ?_
   | fail)
  exact retI rfl ⟨rfl, rfl⟩
 ·have c1 : decide (128 ≤ ((digs z i : Nat) : Int)) = true := decide_eq_true (by omega)
  have hi1 : i + 1 < (vz z).length := by
   rcases Nat.lt_or_ge (i + 1) (vz z).length with q | q
   ·exact q
   ·exact absurd (q2.1 (by omega)) hx
  rw [if_neg hx] at q1
  have hfin : appU es (vz z) i ++ [byC (UInt8.ofNat (digs z i % 128 + 128))] = appU es (vz z) (i + 1) := by
   rw [appU, q1]; rfl
  have e10 := or128 (z := digs z i)
  have e11 := shr7 (digs z i)
  repeat' (first
   | ((with_reducible refine zg ?_); (first | refine zb (ev_geK rfl rfl) rfl ?_ | refine zb (zj rfl rfl rfl rfl e8) rfl ?_ | refine zb (wK rfl rfl e10) rfl ?_ | refine zb (ZU rfl rfl (by decide) e11) rfl ?_ | refine zk (Zx (es' := appU es (vz z) (i + 1)) rfl rfl rfl rfl rfl rfl rfl rfl rfl rfl rfl rfl rfl qe0 hfin rfl) rfl ?_))
   | refine stn [0] ?_
   | fail)
  exact ⟨i + 1, qw, hi1, by omega⟩
set_option maxHeartbeats 1000000 in
theorem one_B (v : Nat) (es : List (List AV)) (hl : es.length ≤ 99000000) (c : UInt8) : ICalls Tryz.prog (Glo.of g) 136 [.os 0 v, u8w c] [.own v 5 1 es, .pin] [.own (v + 1) 5 1 (es ++ [byC c]), .pin] (.os 0 (v + 1)) := by
 have hj : es ++ [byC c] = es ++ [byC c] := rfl
 refine icalls Tryz.func136 rfl Tryz.ntmps136 rfl rfl rfl rfl rfl rfl ?_
 repeat' (first
  | ((with_reducible refine zg ?_); refine zk (Zx (es' := es ++ [byC c]) rfl rfl rfl rfl rfl rfl rfl rfl rfl rfl rfl rfl rfl qe0 hj rfl) rfl ?_)
  | refine stn [0] ?_
  | fail)
 exact retI rfl ⟨rfl, rfl⟩
set_option maxRecDepth 4000 in
set_option maxHeartbeats 1000000 in
theorem put_A (l : List UInt8) (hb : l.length ≤ 1000000) (v : Nat) (es : List (List AV)) (hl : es.length ≤ 80000000) : ICalls Tryz.prog (Glo.of g) 135 [.os 0 v, encBy l, .fn 136 [] []] [.own v 5 1 es] [.own (v + (vint l.length).length + l.length) 5 1 (es ++ (vint l.length).map byC ++ l.map byC)] (.os 0 (v + (vint l.length).length + l.length)) := by
 have hV := varint_B (g := g) l.length (by omega) (by omega) v es (by omega)
 have hlen := jc (n := l.length) (by omega)
 refine icalls Tryz.func135 rfl Tryz.ntmps135 rfl rfl rfl rfl rfl rfl ?_
 have hes : (es ++ (vint l.length).map byC).length ≤ 90000000 := by rw [List.length_append, List.length_map]; omega
 generalize es ++ (vint l.length).map byC = es1 at *
 generalize v + (vint l.length).length = v1 at *
 have hE : appU es1 l l.length = es1 ++ l.map byC := by rw [we, List.take_length]
 unfold encBy
 repeat' (first
  | ((with_reducible refine zg ?_); refine zv rfl hV rfl ?_)
  | refine stn [0] ?_
  | fail)
 refine zi (α := Nat) 2 (fun i => [(0, .os 0 (v1 + i)), (2, .fn 136 [] []), (13, .fs 1 l.length (l.map byC)), (14, vi l.length), (15, vi i)]) (fun i => [.own (v1 + i) 5 1 (appU es1 l i), .pin]) (fun i => i ≤ l.length) (fun i => l.length - i) 0
  qw (Nat.zero_le _) ?_
 intro i hi
 have hal := Yf es1 l i
 cases ht : l[i]? with
 | none =>
  have hge : l.length ≤ i := by simpa using ht
  have hie : i = l.length := by omega
  subst hie
  have c1 : decide ((l.length : Int) < l.length) = false := decide_eq_false (by omega)
  rw [hE]
  refine runn [0] ?_
  exact retI rfl ⟨rfl, rfl⟩
 | some c =>
  have hlt : i < l.length := (List.getElem?_eq_some_iff.1 ht).1
  have c1 : decide ((i : Int) < l.length) = true := decide_eq_true (by omega)
  have g1 := byC_get ht
  have hO := one_B (g := g) (v1 + i) (appU es1 l i) (by omega) c
  have hn : appU es1 l i ++ [byC c] = appU es1 l (i + 1) := by rw [appU, ht]; rfl
  rw [hn] at hO
  repeat' (first
   | ((with_reducible refine zg ?_); refine awpL_icallF rfl rfl hO rfl ?_)
   | refine stn [0] ?_
   | fail)
  exact ⟨i + 1, qw, by omega, by omega⟩
theorem PutInt_O (l : List UInt8) (hl : l.length ≤ 80000000) (n : Int) (h0 : 0 ≤ n) (h1 : n < 4611686018427387904) : OCalls Tryz.prog g 110 [encBy l, vi n] 5 1 ((l ++ vint n).map byC) := by
 have hC := Wr (g := g) l (by omega)
 have hV := varint_A (g := g) n h0 h1 0 (l.map byC) (by simp; omega)
 rw [← List.map_append] at hV
 refine ocalls' Tryz.func110 Tryz.ntmps110 rfl rfl rfl ?_
 repeat' (first
  | ((with_reducible refine zg ?_); (first | refine Qc rfl rfl hC rfl rfl rfl ?_ | refine zv rfl hV rfl ?_))
  | refine stn [0] ?_
  | fail)
 exact retO rfl rfl
theorem PutText_O (l : List UInt8) (hl : l.length ≤ 80000000) (s : ByteArray) (hs : s.size ≤ 1000000) : OCalls Tryz.prog g 111 [encBy l, .v (.string s)] 5 1 ((l ++ vtext s).map byC) := by
 have hC := Wr (g := g) l (by omega)
 have hz : s.size = (lstB s).length := by rw [lstB, Array.length_toList]; rfl
 have hV := put_A (g := g) (lstB s) (by omega) 0 (l.map byC) (by simp; omega)
 have hv : l.map byC ++ (vint (lstB s).length).map byC ++ (lstB s).map byC = (l ++ vtext s).map byC := by
  rw [vtext, hz, ← List.map_append, ← List.map_append, List.append_assoc]
 rw [hv] at hV
 have hx : AV.fs 1 s.size (bytesA s) = encBy (lstB s) := by unfold encBy; rw [← hz]; rfl
 rw [← hx] at hV
 refine ocalls' Tryz.func111 Tryz.ntmps111 rfl rfl rfl ?_
 repeat' (first
  | ((with_reducible refine zg ?_); (first | refine zk (ev_stb rfl rfl rfl rfl rfl rfl rfl) rfl ?_ | refine Qc rfl rfl hC rfl rfl rfl ?_ | refine zv rfl hV rfl ?_))
  | refine stn [0] ?_
  | fail)
 exact retO rfl rfl
end
end Go.Proofs.YtcfkokllinkigaaGreatDoor
