/- A logic of trees over the model's steps, and the contracts of the functions that the laws reach: part 19 of 20. -/
import Derived.Test.YtigcjinpkngapaaGreatDoorC18
import Derived.Test.YtigcjinpkngapaaGreatDoorProg
import Derived.WalkKit
import Derived.LaidEql
import Derived.Stop.Asserts
import Derived.RowKitTokens
set_option linter.unusedVariables false
set_option linter.unusedSimpArgs false
set_option linter.unusedSectionVars false
section
namespace Go.Proofs.YtigcjinpkngapaaGreatDoor
open Go.Ac
attribute [local irreducible] awp awpL Ev Ev2 EvS thenQ blockQ retQ PCalls OCalls ICalls
variable {g : List (Nat × List AV)}
abbrev refV (n : Int) : AV := .ifc 64 (.agg [.v (.int .i64 n)])
def readV (p : Doc × Nat) : AV := if p.2 = 0 then .tup [.agg (docC p.1), .v .nilIface] else .tup [.agg (docC zeroDoc), refV p.2]
abbrev stL : Nat → Doc → List LB
  | 0, _ => docL0
  | _ + 1, d => docLB d
theorem le_zeroDoc : LeA zeroB (docC zeroDoc) := .cons (Le.rfl' _) (.cons (Le.rfl' _) (.cons (Le.rfl' _) (.cons (Le.rfl' _) (.cons (Le.nil 1) (.cons (Le.nil 4) (.cons (Le.nil 7) .nil))))))
set_option maxRecDepth 8000 in
set_option maxHeartbeats 8000000 in
theorem wread_spec (hN : NumG g) (hM : MaxG g) (l : List ByteArray) (hl : l.length ≤ 80000000) (hx : ∀ s ∈ l, s.size ≤ 80000000) : PCalls Tryz.prog g 39 [encSs l] (readV (readF 0 zeroDoc l)) := by
  have n1 : (!true) = false := rfl
  have n2 : (!false) = true := rfl
  refine pcalls' Tryz.func39 Tryz.ntmps39 rfl rfl rfl ?_
  repeat' (first
   | refine stn [2, 4] ?_
   | ((with_reducible refine is_gd ?_); refine awpL_split rfl rfl (fun h => ?_) (fun h => ?_))
   | ((with_reducible refine is_awp ?_); refine awp_cond rfl (fun h => ?_) (fun h => ?_))
   | fail)
  refine awp_adoptC 1 5 51 4 rfl rfl rfl rfl ?_
  refine awp_adoptC 1 6 55 7 rfl rfl rfl rfl ?_
  refine awp_for (α := Nat × Doc) 4 (fun p => [(2, .lp 0 0), (4, .lp 1 0), (9, encSs l), (10, vi l.length), (11, vi p.1)]) (fun p => stL p.1 p.2) (fun p => p.1 ≤ l.length ∧ readF 0 zeroDoc l = readF p.1 p.2 (l.drop p.1) ∧ (p.1 = 0 → p.2 = zeroDoc) ∧ p.2.tiers.length + p.2.notes.length ≤ p.1) (fun p => l.length - p.1) (0, zeroDoc)
    ⟨(.cons rfl rfl (.cons rfl rfl (.cons rfl rfl (.cons rfl rfl (.cons rfl rfl .nil))))), rfl, rfl, rfl⟩ ⟨Nat.zero_le _, rfl, fun _ => rfl, Nat.le_refl _⟩ ?_
  rintro ⟨k, d⟩ ⟨hk, hf, h0, hsz⟩
  simp only at hk hf h0 hsz
  cases ht : l[k]? with
  | none =>
    have hge : l.length ≤ k := by simpa using ht
    have c1 : decide ((k : Int) < l.length) = false := decide_eq_false (by omega)
    rw [List.drop_of_length_le hge] at hf
    have hf : readF 0 zeroDoc l = (d, 0) := hf
    rw [hf]
    cases k with
    | zero =>
      rw [h0 rfl]
      simp only [stL]
      repeat' (first
       | refine stn [2, 4] ?_
       | ((with_reducible refine is_gd ?_); refine awpL_split rfl rfl (fun h => ?_) (fun h => ?_))
       | ((with_reducible refine is_awp ?_); refine awp_cond rfl (fun h => ?_) (fun h => ?_))
       | fail)
      refine retLe rfl ?_
      exact Le.tup (.cons (Le.agg (.cons (Le.rfl' _) (.cons (Le.rfl' _) (.cons (Le.rfl' _) (.cons (Le.rfl' _) (.cons (Le.nil 1) (.cons (Le.rfl' _) (.cons (Le.rfl' _) .nil)))))))) (.cons (Le.rfl' _) .nil))
    | succ k =>
      simp only [stL]
      repeat' (first
       | refine stn [2, 4] ?_
       | ((with_reducible refine is_gd ?_); refine awpL_split rfl rfl (fun h => ?_) (fun h => ?_))
       | ((with_reducible refine is_awp ?_); refine awp_cond rfl (fun h => ?_) (fun h => ?_))
       | fail)
      refine retP rfl ?_
      simp [ex, exL, readV, docC]
  | some x =>
    have hlt : k < l.length := (List.getElem?_eq_some_iff.1 ht).1
    have c1 : decide ((k : Int) < l.length) = true := decide_eq_true (by omega)
    have ik := word_get ht
    have hxs := hx x (List.mem_of_getElem? ht)
    have hS := wSplit_spec hM x hxs
    rw [readF_drop ht] at hf
    have hle : Le (.tup [.agg zeroB, refV ((k + 1 : Nat) : Int)]) (readV (d, k + 1)) := by
      unfold readV
      rw [if_neg (by simp)]
      exact Le.tup (.cons (Le.agg le_zeroDoc) (.cons (Le.rfl' _) .nil))
    cases k with
    | zero =>
      have c2 : decide (((0 : Nat) : Int) = 0) = true := rfl
      have c3 : decide ((0 : Int) < ((0 : Nat) : Int)) = false := rfl
      obtain rfl := h0 rfl
      simp only [stL]
      cases hw : splitW (lst x) with
      | none =>
        rw [hw] at hS
        replace hS : PCalls _ _ _ _ (.tup [encSs [], vb false]) := hS
        have hf : readF 0 zeroDoc l = (zeroDoc, 0 + 1) := by rw [hf]; unfold lineP; rw [hw]
        rw [hf]
        repeat' (first
         | ((with_reducible refine is_un ?_); refine awpL_ev (ev_mkifc rfl Tryz.underlying64 rfl) rfl ?_)
         | refine stn [2, 4] ?_
         | ((with_reducible refine is_gd ?_); refine awpL_split rfl rfl (fun h => ?_) (fun h => ?_))
         | ((with_reducible refine is_awp ?_); refine awp_cond rfl (fun h => ?_) (fun h => ?_))
         | fail)
        exact retLe rfl hle
      | some ws =>
        rw [hw] at hS
        replace hS : PCalls _ _ _ _ (.tup [encSs (ws.map toB), vb true]) := hS
        obtain ⟨w1, w2⟩ := words_fit hw
        have hR := wrecording_I hN (ws.map toB) (by omega) (fun s hs => by have := w2 s hs; omega)
        cases hr : recP (ws.map toB) with
        | none =>
          rw [hr] at hR
          replace hR : ICalls _ _ _ [.lp 1 0, encSs (ws.map toB)] docL0 docL0 (vb false) := hR
          have hf : readF 0 zeroDoc l = (zeroDoc, 0 + 1) := by rw [hf]; unfold lineP; rw [hw]; simp only [hr, if_true, Option.map_none]
          rw [hf]
          repeat' (first
           | ((with_reducible refine is_un ?_); (first | refine awpL_ev (ev_mkifc rfl Tryz.underlying64 rfl) rfl ?_ | refine awpL_icall rfl hR rfl ?_))
           | refine stn [2, 4] ?_
           | ((with_reducible refine is_gd ?_); refine awpL_split rfl rfl (fun h => ?_) (fun h => ?_))
           | ((with_reducible refine is_awp ?_); refine awp_cond rfl (fun h => ?_) (fun h => ?_))
           | fail)
          exact retLe rfl hle
        | some r =>
          rw [hr] at hR
          replace hR : ICalls _ _ _ [.lp 1 0, encSs (ws.map toB)] docL0 (docLB ⟨r, [], []⟩) (vb true) := hR
          have hf : readF 0 zeroDoc l = readF 1 ⟨r, [], []⟩ (l.drop 1) := by rw [hf]; unfold lineP; rw [hw]; simp only [hr, if_true, Option.map_some]; rfl
          repeat' (first
           | ((with_reducible refine is_un ?_); refine awpL_icall rfl hR rfl ?_)
           | refine stn [2, 4] ?_
           | ((with_reducible refine is_gd ?_); refine awpL_split rfl rfl (fun h => ?_) (fun h => ?_))
           | ((with_reducible refine is_awp ?_); refine awp_cond rfl (fun h => ?_) (fun h => ?_))
           | fail)
          exact ⟨(1, ⟨r, [], []⟩), ⟨(.cons rfl rfl (.cons rfl rfl (.cons rfl rfl (.cons rfl rfl (.cons rfl rfl .nil))))), rfl, rfl, rfl⟩, ⟨by simp only; omega, hf, fun h => by simp at h, by simp⟩, by simp only; omega⟩
    | succ k =>
      have c2 : decide (((k + 1 : Nat) : Int) = 0) = false := decide_eq_false (by omega)
      have c3 : decide ((0 : Int) < ((k + 1 : Nat) : Int)) = true := decide_eq_true (by omega)
      simp only [stL]
      cases hw : splitW (lst x) with
      | none =>
        rw [hw] at hS
        replace hS : PCalls _ _ _ _ (.tup [encSs [], vb false]) := hS
        have hf : readF 0 zeroDoc l = (d, k + 1 + 1) := by rw [hf]; unfold lineP; rw [hw]
        rw [hf]
        repeat' (first
         | ((with_reducible refine is_un ?_); refine awpL_ev (ev_mkifc rfl Tryz.underlying64 rfl) rfl ?_)
         | refine stn [2, 4] ?_
         | ((with_reducible refine is_gd ?_); refine awpL_split rfl rfl (fun h => ?_) (fun h => ?_))
         | ((with_reducible refine is_awp ?_); refine awp_cond rfl (fun h => ?_) (fun h => ?_))
         | fail)
        exact retLe rfl hle
      | some ws =>
        rw [hw] at hS
        replace hS : PCalls _ _ _ _ (.tup [encSs (ws.map toB), vb true]) := hS
        obtain ⟨w1, w2⟩ := words_fit hw
        have hR := wfurther_I hN d (ws.map toB) (by omega) (fun s hs => by have := w2 s hs; omega) (by omega) (by omega)
        unfold furD furA furB at hR
        cases hr : furP d (ws.map toB) with
        | none =>
          rw [hr] at hR
          simp only [Option.isSome_none, Bool.false_eq_true, false_and, if_false, Option.getD_none] at hR
          have hf : readF 0 zeroDoc l = (d, k + 1 + 1) := by rw [hf]; unfold lineP; rw [hw]; simp only [hr, Nat.add_one_ne_zero, if_false]
          rw [hf]
          repeat' (first
           | ((with_reducible refine is_un ?_); (first | refine awpL_ev (ev_mkifc rfl Tryz.underlying64 rfl) rfl ?_ | refine awpL_icall rfl hR rfl ?_))
           | refine stn [2, 4] ?_
           | ((with_reducible refine is_gd ?_); refine awpL_split rfl rfl (fun h => ?_) (fun h => ?_))
           | ((with_reducible refine is_awp ?_); refine awp_cond rfl (fun h => ?_) (fun h => ?_))
           | fail)
          exact retLe rfl hle
        | some d' =>
          have hfl := furP_len hr
          rw [hr] at hR
          have hf : readF 0 zeroDoc l = readF (k + 1 + 1) d' (l.drop (k + 1 + 1)) := by rw [hf]; unfold lineP; rw [hw]; simp only [hr, Nat.add_one_ne_zero, if_false]
          cases htp : (tierP (ws.map toB)).isSome with
          | true =>
            rw [htp] at hR
            replace hR : ICalls _ _ _ [.lp 1 0, encSs (ws.map toB)] (docLB d) (docLV 1 0 d') (vb true) := hR
            repeat' (first
             | ((with_reducible refine is_un ?_); refine awpL_icall rfl hR rfl ?_)
             | refine stn [2, 4] ?_
             | ((with_reducible refine is_gd ?_); refine awpL_split rfl rfl (fun h => ?_) (fun h => ?_))
             | ((with_reducible refine is_awp ?_); refine awp_cond rfl (fun h => ?_) (fun h => ?_))
             | fail)
            exact ⟨(k + 1 + 1, d'), ⟨(.cons rfl rfl (.cons rfl rfl (.cons rfl rfl (.cons rfl rfl (.cons rfl rfl .nil))))), rfl, rfl, rfl⟩, ⟨by simp only; omega, hf, fun h => by simp at h, by simp only; omega⟩, by simp only; omega⟩
          | false =>
            rw [htp] at hR
            replace hR : ICalls _ _ _ [.lp 1 0, encSs (ws.map toB)] (docLB d) (docLV 0 1 d') (vb true) := hR
            repeat' (first
             | ((with_reducible refine is_un ?_); refine awpL_icall rfl hR rfl ?_)
             | refine stn [2, 4] ?_
             | ((with_reducible refine is_gd ?_); refine awpL_split rfl rfl (fun h => ?_) (fun h => ?_))
             | ((with_reducible refine is_awp ?_); refine awp_cond rfl (fun h => ?_) (fun h => ?_))
             | fail)
            exact ⟨(k + 1 + 1, d'), ⟨(.cons rfl rfl (.cons rfl rfl (.cons rfl rfl (.cons rfl rfl (.cons rfl rfl .nil))))), rfl, rfl, rfl⟩, ⟨by simp only; omega, hf, fun h => by simp at h, by simp only; omega⟩, by simp only; omega⟩
end Go.Proofs.YtigcjinpkngapaaGreatDoor
end
section
namespace Go.Proofs.YtigcjinpkngapaaGreatDoor
open Go.RowKit Go.Extern.Stop Go.Stop Go.Extern
theorem zAsNil (t : Value) (w : World) :
    Calls Tryz.prog 40 #[.nilIface, t] w fun e w' => e = .returned (.bool false) ∧ w' = w := by
  go_enter Tryz.func40, Tryz.ntmps40
  go_wp2
  go_ret
  exact ⟨rfl, rfl⟩
abbrev hT (t : Nat) : Value := .pointer (some ⟨10, t, none⟩)
abbrev rT (t : Nat) : Value := .iface 129 (.agg #[hT t])
abbrev vT (t : Nat) (a : Addr) (fl : Int) : Value := .agg #[hT t, .pointer (some a), .int .u64 fl]
theorem zValueOfP (t : Addr) (w : World) : (ReflectliteValue.unpack (.iface 66 (.pointer (some t)))).run Tryz.prog w
    = .ok (vT 66 ⟨w.heap.size, 0, none⟩ 150) (w.alloc (.cells #[.pointer (some t)] 66)) := by kernel_rfl
theorem zTypeP (a : Addr) (w : World) : (ReflectliteValue.methodAny (ReflectliteValue.valueError "reflectlite.Value.Type" 0) (fun t _ _ _ => ReflectliteType.toType t) #[vT 66 a 150]).run Tryz.prog w
    = .ok (rT 66) w := by kernel_rfl
theorem zMethodKind (h : Value) (w : World) : (Go.method 362 129 (.agg #[h]) "Kind").run Tryz.prog w = .ok (217, h) w := by kernel_rfl
theorem zKindP (w : World) : ((ReflectliteType.abiMethod fun t => (fun a : Nat => Value.int IntKind.u8 (a : Int)) <$> Rtype.kind t) #[hT 66]).run Tryz.prog w = .ok (.int .u8 22) w := by kernel_rfl
theorem zKindE (w : World) : ((ReflectliteType.abiMethod fun t => (fun a : Nat => Value.int IntKind.u8 (a : Int)) <$> Rtype.kind t) #[hT 64]).run Tryz.prog w = .ok (.int .u8 25) w := by kernel_rfl
theorem zrlm (z : Sem Value) (f : TypeId → Addr → Nat → Nat → Sem Value) (v : Value) :
    ReflectliteValue.method z f #[v] = (do match ← ReflectliteValue.parts v with | none => z | some (t, a, fl) => f t a fl (fl % 32)) := rfl
theorem zPartsP (a : Addr) (w : World) : (ReflectliteValue.parts (vT 66 a 150)).run Tryz.prog w = .ok (some (66, a, 150)) w := by kernel_rfl
theorem zIsNilP (a p : Addr) (W : World) (ha : W.cell? a = some (.pointer (some p))) :
    (ReflectliteValue.method (ReflectliteValue.valueError "reflectlite.Value.IsNil" 0) ReflectliteValue.isNil #[vT 66 a 150]).run Tryz.prog W = .ok (.bool false) W := by
  rw [zrlm]
  simp only [Sem.run_bind, zPartsP, Result.andThen]
  simp [ReflectliteValue.isNil, loadVar, isAgg, underlying, Tryz.underlying66, ha, Result.andThen]
theorem zMethodElem (h : Value) (w : World) : (Go.method 362 129 (.agg #[h]) "Elem").run Tryz.prog w = .ok (228, .agg #[h]) w := by kernel_rfl
theorem zMethodImplements (h : Value) (w : World) : (Go.method 362 129 (.agg #[h]) "Implements").run Tryz.prog w = .ok (229, .agg #[h]) w := by kernel_rfl
theorem zMethodAssignableTo (h : Value) (w : World) : (Go.method 362 129 (.agg #[h]) "AssignableTo").run Tryz.prog w = .ok (226, .agg #[h]) w := by kernel_rfl
theorem zElemP (w : World) : (ReflectliteType.method ReflectliteType.elem #[.agg #[hT 66]]).run Tryz.prog w = .ok (rT 64) w := by kernel_rfl
theorem zImplementsE (w : World) : (ReflectliteType.relation "Implements" ReflectliteType.implements_ #[.agg #[hT 64], rT 60]).run Tryz.prog w = .ok (.bool true) w := by kernel_rfl
theorem zTypeOfE (v : Value) (w : World) : (ReflectliteType.typeOf #[.iface 64 v]).run Tryz.prog w = .ok (rT 64) w := by kernel_rfl
theorem zAssignableE (w : World) : (ReflectliteType.relation "AssignableTo" ReflectliteType.assignableTo #[.agg #[hT 64], rT 64]).run Tryz.prog w = .ok (.bool true) w := by kernel_rfl
theorem zValueOfE (n : Int) (w : World) : (ReflectliteValue.unpack (.iface 64 (.agg #[.int .i64 n]))).run Tryz.prog w
    = .ok (vT 64 ⟨w.heap.size, 0, none⟩ 153) (w.alloc (.cells #[.int .i64 n] 64)) := by kernel_rfl
theorem zElemOfP (w : World) : (Rtype.elem? 66).run Tryz.prog w = .ok (some 64) w := by kernel_rfl
theorem zMkE (p : Addr) (w : World) : (ReflectliteValue.mk 64 p ReflectliteValue.flagAddr).run Tryz.prog w = .ok (vT 64 p 409) w := by kernel_rfl
theorem zElemVP (a p : Addr) (W : World) (ha : W.cell? a = some (.pointer (some p))) :
    (ReflectliteValue.method (ReflectliteValue.valueError "reflectlite.Value.Elem" 0) ReflectliteValue.elem #[vT 66 a 150]).run Tryz.prog W
      = .ok (vT 64 p 409) W := by
  rw [zrlm]
  simp only [Sem.run_bind, zPartsP, Result.andThen]
  simp [ReflectliteValue.elem, loadVar, isAgg, underlying, Tryz.underlying66, ha, Result.andThen, zElemOfP, zMkE]
theorem zrls (v x : Value) : ReflectliteValue.set #[v, x] = (do
    let (some (dst, a, fl), some (src, b, _)) := (← ReflectliteValue.parts v, ← ReflectliteValue.parts x)
      | unsupported (.noEntry "extern/(internal/reflectlite.Value).Set.zeroValue")
    if fl / ReflectliteValue.flagAddr % 2 == 0 then unsupported (.noEntry "extern/(internal/reflectlite.Value).Set.unaddressable")
    let val ← loadVar src b
    if ← Rtype.directlyAssignable dst src then storeVar dst a val
    else if ← Rtype.implements dst src then
      if (← Rtype.kind src) == 20 then
        match val with
        | .nilIface => unsupported (.noEntry "extern/reflectlite: a nil value of one interface type handed on as a value of another")
        | _ => storeVar dst a val
      else storeVar dst a (.iface src val)
    else panicString ("reflectlite.Set: value of type " ++ (← Rtype.spelt src) ++ " is not assignable to type " ++ (← Rtype.spelt dst))
    pure (.tuple #[])) := rfl
theorem zPartsEa (a : Addr) (w : World) : (ReflectliteValue.parts (vT 64 a 409)).run Tryz.prog w = .ok (some (64, a, 409)) w := by kernel_rfl
theorem zPartsE (a : Addr) (w : World) : (ReflectliteValue.parts (vT 64 a 153)).run Tryz.prog w = .ok (some (64, a, 153)) w := by kernel_rfl
theorem zDirectE (w : World) : (Rtype.directlyAssignable 64 64).run Tryz.prog w = .ok true w := by kernel_rfl
theorem zSizeE (w : World) : (sizeOf 64).run Tryz.prog w = .ok 1 w := by kernel_rfl
theorem zIsAggE (w : World) : (isAgg 64).run Tryz.prog w = .ok true w := by kernel_rfl
theorem zLoadE (b : Addr) (n : Int) (W : World) (hb : W.cell? b = some (.int .i64 n)) : (loadVar 64 b).run Tryz.prog W = .ok (.agg #[.int .i64 n]) W := by
  have hl : (loadCells b 1).run Tryz.prog W = .ok #[.int .i64 n] W := by
    have := run_loadCells_list (P := Tryz.prog) (w := W) b [.int .i64 n] (fun j v hj => by
      match j, hj with
      | 0, hj => simp at hj; subst hj; simpa [Addr.add] using hb)
    simpa using this
  simp [loadVar, zIsAggE, zSizeE, hl, Result.andThen]
theorem zStoreE (ta : Addr) (n : Int) (old : Value) (W : World) (ht : W.cell? ta = some old) (hf : W.frozen? ta = false) : (storeVar 64 ta (.agg #[.int .i64 n])).run Tryz.prog W = .ok () (W.setCell ta (.int .i64 n)) := by
  simp [storeVar, zSizeE, Value.cells, storeCells, Addr.add, Result.andThen]
  rw [run_store Tryz.prog W ta _ _ (by rfl)]
  simp [ht, hf]
theorem zSetE (ta b : Addr) (n : Int) (old : Value) (W : World) (hb : W.cell? b = some (.int .i64 n)) (ht : W.cell? ta = some old) (hf : W.frozen? ta = false) :
    (ReflectliteValue.set #[vT 64 ta 409, vT 64 b 153]).run Tryz.prog W
      = .ok (.tuple #[]) (W.setCell ta (.int .i64 n)) := by
  rw [zrls]
  simp only [Sem.run_bind, zPartsEa, zPartsE, Result.andThen]
  simp [ReflectliteValue.flagAddr, zLoadE b n W hb, Result.andThen, zDirectE, zStoreE ta n old W ht hf]
set_option maxHeartbeats 4000000 in
theorem zAsHit (n : Int) (t : Addr) (old : Value) (w : World) (hg : w.cell? ⟨0, 0, none⟩ = some (rT 60)) (ht0 : w.cell? t = some old) (hf0 : w.frozen? t = false) :
    Calls Tryz.prog 40 #[.iface 64 (.agg #[.int .i64 n]), .iface 66 (.pointer (some t))] w fun ev w' => ev = .returned (.bool true) ∧ w' = ((((w.alloc (.cells #[.pointer (some t)] 66)).alloc (.cells #[hT 66, .pointer (some ⟨w.heap.size, 0, none⟩), .int .u64 150] 96)).alloc (.cells #[hT 66, .pointer (some ⟨w.heap.size, 0, none⟩), .int .u64 150] 96)).alloc (.cells #[.int .i64 n] 64)).setCell t (.int .i64 n) := by
  have h6 := @run_callFunc_extern Tryz.prog 69 _ (fun args => ReflectliteValue.unpack (args.getD 0 (.tuple #[]))) Tryz.func69 (by kernel_rfl) (by kernel_rfl) (by kernel_rfl) (by kernel_rfl)
  have h7 := @run_callFunc_extern Tryz.prog 70 _ (ReflectliteValue.methodAny (ReflectliteValue.valueError "reflectlite.Value.Type" 0) (fun t _ _ _ => ReflectliteType.toType t)) Tryz.func70 (by kernel_rfl) (by kernel_rfl) (by kernel_rfl) (by kernel_rfl)
  have h8 := @run_callFunc_extern Tryz.prog 71 _ (ReflectliteValue.method (ReflectliteValue.valueError "reflectlite.Value.IsNil" 0) ReflectliteValue.isNil) Tryz.func71 (by kernel_rfl) (by kernel_rfl) (by kernel_rfl) (by kernel_rfl)
  have h27 := @run_callFunc_extern Tryz.prog 217 _ (ReflectliteType.abiMethod fun t => do pure (.int .u8 (← Rtype.kind t))) Tryz.func217 (by kernel_rfl) (by kernel_rfl) (by kernel_rfl) (by kernel_rfl)
  have h37 := @run_callFunc_extern Tryz.prog 228 _ (ReflectliteType.method ReflectliteType.elem) Tryz.func228 (by kernel_rfl) (by kernel_rfl) (by kernel_rfl) (by kernel_rfl)
  have h38 := @run_callFunc_extern Tryz.prog 229 _ (ReflectliteType.relation "Implements" ReflectliteType.implements_) Tryz.func229 (by kernel_rfl) (by kernel_rfl) (by kernel_rfl) (by kernel_rfl)
  have h10 := @run_callFunc_extern Tryz.prog 98 _ ReflectliteType.typeOf Tryz.func98 (by kernel_rfl) (by kernel_rfl) (by kernel_rfl) (by kernel_rfl)
  have h35 := @run_callFunc_extern Tryz.prog 226 _ (ReflectliteType.relation "AssignableTo" ReflectliteType.assignableTo) Tryz.func226 (by kernel_rfl) (by kernel_rfl) (by kernel_rfl) (by kernel_rfl)
  have h11 := @run_callFunc_extern Tryz.prog 99 _ (ReflectliteValue.method (ReflectliteValue.valueError "reflectlite.Value.Elem" 0) ReflectliteValue.elem) Tryz.func99 (by kernel_rfl) (by kernel_rfl) (by kernel_rfl) (by kernel_rfl)
  have h12 := @run_callFunc_extern Tryz.prog 100 _ ReflectliteValue.set Tryz.func100 (by kernel_rfl) (by kernel_rfl) (by kernel_rfl) (by kernel_rfl)
  have tO := zTypeOfE
  have mA := zMethodAssignableTo
  have a25 := zAssignableE
  have v25 := zValueOfE
  have f6 := zValueOfP
  have f7 := zTypeP
  have mK := zMethodKind
  have mE := zMethodElem
  have mI := zMethodImplements
  have k27 := zKindP
  have k25 := zKindE
  have e27 := zElemP
  have i25 := zImplementsE
  have n8 := zIsNilP ⟨w.heap.size, 0, none⟩ t ((w.alloc (.cells #[.pointer (some t)] 66)).alloc (.cells #[hT 66, .pointer (some ⟨w.heap.size, 0, none⟩), .int .u64 150] 96)) (by simp)
  have hlt : 0 < w.heap.size := by
    rcases Nat.eq_zero_or_pos w.heap.size with h0 | h
    · simp [World.cell?, h0] at hg
    · exact h
  have hg2 : ((w.alloc (.cells #[.pointer (some t)] 66)).alloc (.cells #[hT 66, .pointer (some ⟨w.heap.size, 0, none⟩), .int .u64 150] 96)).cell? ⟨0, 0, none⟩ = some (rT 60) := by
    rw [World.cell?_alloc_lt _ _ ⟨0, 0, none⟩ (by simp), World.cell?_alloc_lt _ _ ⟨0, 0, none⟩ hlt]; exact hg
  have htl : t.block < w.heap.size := by
    rcases Nat.lt_or_ge t.block w.heap.size with h | h
    · exact h
    · simp [World.cell?, Array.getElem?_eq_none h] at ht0
  have el := zElemVP ⟨w.heap.size, 0, none⟩ t (((w.alloc (.cells #[.pointer (some t)] 66)).alloc (.cells #[hT 66, .pointer (some ⟨w.heap.size, 0, none⟩), .int .u64 150] 96)).alloc (.cells #[hT 66, .pointer (some ⟨w.heap.size, 0, none⟩), .int .u64 150] 96)) (by rw [World.cell?_alloc_lt _ _ ⟨w.heap.size, 0, none⟩ (by simp; omega)]; simp)
  have st := zSetE t ⟨w.heap.size + 1 + 1 + 1, 0, none⟩ n old ((((w.alloc (.cells #[.pointer (some t)] 66)).alloc (.cells #[hT 66, .pointer (some ⟨w.heap.size, 0, none⟩), .int .u64 150] 96)).alloc (.cells #[hT 66, .pointer (some ⟨w.heap.size, 0, none⟩), .int .u64 150] 96)).alloc (.cells #[.int .i64 n] 64))
    (by rw [World.cell?_alloc_at _ _ _ _ (by simp)]; rfl)
    (by rw [World.cell?_alloc_lt _ _ t (by simp; omega), World.cell?_alloc_lt _ _ t (by simp; omega), World.cell?_alloc_lt _ _ t (by simp; omega), World.cell?_alloc_lt _ _ t htl]; exact ht0)
    (by rw [World.frozen?_alloc_old _ _ t (by simp; omega), World.frozen?_alloc_old _ _ t (by simp; omega), World.frozen?_alloc_old _ _ t (by simp; omega), World.frozen?_alloc_old _ _ t (Nat.ne_of_lt htl)]; exact hf0)
  go_enter Tryz.func40, Tryz.ntmps40
  go_wp2
  refine wp_loop_rounds 1 ?_
  rw [rounds_succ]
  go_wp2
  go_ret
  exact ⟨rfl, rfl⟩
end Go.Proofs.YtigcjinpkngapaaGreatDoor
end
section
namespace Go.Proofs.YtigcjinpkngapaaGreatDoor
open Go.Ac
attribute [local irreducible] awp awpL Ev Ev2 EvS thenQ blockQ retQ PCalls OCalls ICalls
variable {g : List (Nat × List AV)}
abbrev parsedV (x : Doc × Int × Int) : AV := .tup [.agg (docC x.1), vi x.2.1, vi x.2.2]
def ErrG (g : List (Nat × List AV)) : Prop := (0, [AV.ifc 129 (.agg [.v (hT 60)])]) ∈ g
theorem errX (F : Nat → Prop) (w : World) (u : Value) (h : RF F w (.ifc 129 (.agg [.v (hT 60)])) u) : u = rT 60 := by
  simp only [RF, LF] at h
  obtain ⟨u, rfl, xs, rfl, y, s, h1, rfl, _, rfl⟩ := h
  rw [← Array.toArray_toList (xs := xs), h1]
theorem asNil_spec (x : AV) : PCalls Tryz.prog g 40 [.v .nilIface, x] (vb false) := by
  have : PCalls Tryz.prog g 40 [.v .nilIface, .any] (vb false) := PCalls.ofBelow (callable Tryz.func40 rfl rfl) fun F w vs st ha => by
    simp only [TF, RF] at ha
    obtain ⟨y, s, h1, rfl, z, s2, rfl, _, rfl⟩ := ha
    have hv : vs = #[.nilIface, z] := by rw [← Array.toArray_toList (xs := vs), h1]
    rw [hv]
    refine (zAsNil z w).mono ?_
    rintro e w' ⟨rfl, rfl⟩
    exact ⟨rfl, Go.RowKit.Below.refl _ _⟩
  exact this.args (.cons (Le.rfl' _) (.cons (Le.any x) .nil))
theorem ahead0 (w : World) : Go.Sort.ahead w 0 = w := by simp [Go.Sort.ahead]
theorem four_grow (w : World) (a b c d : Obj) : (((w.alloc a).alloc b).alloc c).alloc d = Go.Sort.grow w (#[a] ++ #[b] ++ #[c] ++ #[d]) := by
  rw [Go.Sort.alloc_eq_grow, Go.Sort.alloc_eq_grow, Go.Sort.alloc_eq_grow, Go.Sort.alloc_eq_grow, Go.Sort.grow_grow, Go.Sort.grow_grow, Go.Sort.grow_grow]
  rfl
theorem asHit_at (n : Int) (b : Nat) (w : World) (hg : w.cell? ⟨0, 0, none⟩ = some (rT 60)) (h0 : w.cell? ⟨b, 0, none⟩ = some (.int .i64 0)) (hf : w.frozen? ⟨b, 0, none⟩ = false) :
    Go.Calls Tryz.prog 40 #[.iface 64 (.agg #[.int .i64 n]), .iface 66 (.pointer (some ⟨b, 0, none⟩))] w fun e w' => e = .returned (.bool true) ∧ ∃ c os, w' = (Go.Sort.grow (Go.Sort.ahead w c) os).setCell ⟨b, 0, none⟩ (.int .i64 n) := by
  refine (zAsHit n ⟨b, 0, none⟩ (.int .i64 0) w hg h0 hf).mono ?_
  rintro e w' ⟨rfl, rfl⟩
  exact ⟨rfl, 0, _, by rw [ahead0, four_grow]⟩
theorem le_zeroP (n m : Int) : Le (.tup [.agg zeroB, vi n, vi m]) (parsedV (zeroDoc, n, m)) := Le.tup (.cons (Le.agg le_zeroDoc) (.cons (Le.rfl' _) (.cons (Le.rfl' _) .nil)))
set_option maxRecDepth 8000 in
set_option maxHeartbeats 8000000 in
theorem wParse_spec (hN : NumG g) (hM : MaxG g) (hE : ErrG g) (hu : Utf g) (s : ByteArray) (hs : s.size ≤ 79000000)
    (hfit : ∀ ls, linesW (lst s) = some ls → (readF 0 zeroDoc (ls.map toB)).1.notes.length ≤ 100000 ∧ (readF 0 zeroDoc (ls.map toB)).1.tiers.length ≤ 1000000 ∧ (readF 0 zeroDoc (ls.map toB)).1.rec_.speakers.length ≤ 1000000) :
    PCalls Tryz.prog g 17 [.v (.string s)] (parsedV (parseD (lst s))) := by
  have n1 : (!true) = false := rfl
  have n2 : (!false) = true := rfl
  have hL := wLines_spec hM s (by omega)
  have hem : s = ⟨#[]⟩ ↔ lst s = [] := eq_toB s []
  refine pcalls' Tryz.func17 Tryz.ntmps17 rfl rfl rfl ?_
  unfold parseD
  by_cases h0 : s = ⟨#[]⟩
  · have c0 : decide (s = ⟨#[]⟩) = true := decide_eq_true h0
    rw [if_pos (hem.1 h0)]
    repeat' (first
     | refine stn [2, 9] ?_
     | ((with_reducible refine is_gd ?_); refine awpL_split rfl rfl (fun h => ?_) (fun h => ?_))
     | ((with_reducible refine is_awp ?_); refine awp_cond rfl (fun h => ?_) (fun h => ?_))
     | fail)
    exact retLe rfl (le_zeroP 0 4)
  have c0 : decide (s = ⟨#[]⟩) = false := decide_eq_false h0
  rw [if_neg (fun q => h0 (hem.2 q))]
  cases hl : linesW (lst s) with
  | none =>
    rw [hl] at hL
    replace hL : PCalls _ _ _ _ (.tup [encSs [], vb false]) := hL
    repeat' (first
     | refine stn [2, 9] ?_
     | ((with_reducible refine is_gd ?_); refine awpL_split rfl rfl (fun h => ?_) (fun h => ?_))
     | ((with_reducible refine is_awp ?_); refine awp_cond rfl (fun h => ?_) (fun h => ?_))
     | fail)
    exact retLe rfl (le_zeroP 0 3)
  | some ls =>
    rw [hl] at hL
    replace hL : PCalls _ _ _ _ (.tup [encSs (ls.map toB), vb true]) := hL
    obtain ⟨l1, l2⟩ := lines_fit hl
    have hR := wread_spec hN hM (ls.map toB) (by omega) (fun x hx => by have := l2 x hx; omega)
    obtain ⟨f1, f2, f3⟩ := hfit ls hl
    have hin := readF_in (ls.map toB) 0 zeroDoc zero_in
    simp only
    generalize readF 0 zeroDoc (ls.map toB) = p at *
    obtain ⟨d, ln⟩ := p
    simp only at f1 f2 f3 hin ⊢
    unfold readV at hR
    simp only at hR
    by_cases hz : ln = 0
    · rw [if_pos hz] at hR
      rw [if_neg (by simpa using hz)]
      have hC := wCheck_spec hu d f1 f2 (fun n hn => by have := (hin.n n hn).r; unfold inNum at this; omega)
      have hP := wprintable_spec (g := g) d f3
      by_cases he : docE d = 0
      case neg =>
        have c1 : (!decide (docE d = 0)) = true := by rw [decide_eq_false he]; rfl
        have hp : printE d = docE d := by unfold printE; rw [if_pos he]
        rw [hp, if_pos he]
        repeat' (first
         | ((with_reducible refine is_un ?_); (first | refine awpL_ev (ev_mkifc rfl Tryz.underlying66 rfl) rfl ?_ | refine awpL_callS rfl rfl (asNil_spec _) rfl rfl ?_))
         | refine stn [2, 9] ?_
         | ((with_reducible refine is_gd ?_); refine awpL_split rfl rfl (fun h => ?_) (fun h => ?_))
         | ((with_reducible refine is_awp ?_); refine awp_cond rfl (fun h => ?_) (fun h => ?_))
         | fail)
        exact retLe rfl (le_zeroP 0 (docE d))
      have c1 : (!decide (docE d = 0)) = false := by rw [decide_eq_true he]; rfl
      cases hr : recOk d.rec_ with
      | false =>
        rw [hr] at hP
        have hp : printE d = 1 := by unfold printE; rw [if_neg (by simpa using he), hr]; rfl
        rw [hp, if_pos (by decide)]
        repeat' (first
         | ((with_reducible refine is_un ?_); (first | refine awpL_ev (ev_mkifc rfl Tryz.underlying66 rfl) rfl ?_ | refine awpL_callS rfl rfl (asNil_spec _) rfl rfl ?_))
         | refine stn [2, 9] ?_
         | ((with_reducible refine is_gd ?_); refine awpL_split rfl rfl (fun h => ?_) (fun h => ?_))
         | ((with_reducible refine is_awp ?_); refine awp_cond rfl (fun h => ?_) (fun h => ?_))
         | fail)
        exact retLe rfl (le_zeroP 0 1)
      | true =>
        rw [hr] at hP
        have hp : printE d = 0 := by unfold printE; rw [if_neg (by simpa using he), hr]; rfl
        rw [hp, if_neg (by decide)]
        repeat' (first
         | ((with_reducible refine is_un ?_); (first | refine awpL_ev (ev_mkifc rfl Tryz.underlying66 rfl) rfl ?_ | refine awpL_callS rfl rfl (asNil_spec _) rfl rfl ?_))
         | refine stn [2, 9] ?_
         | ((with_reducible refine is_gd ?_); refine awpL_split rfl rfl (fun h => ?_) (fun h => ?_))
         | ((with_reducible refine is_awp ?_); refine awp_cond rfl (fun h => ?_) (fun h => ?_))
         | fail)
        exact retP rfl rfl
    · rw [if_neg hz] at hR
      rw [if_pos hz]
      have hA := asHit_at ln
      repeat' (first
       | refine awp_frz 9 (c := .region 9 _ _) rfl rfl rfl rfl ?_
       | ((with_reducible refine is_un ?_); (first | refine awpL_ev (ev_mkifc rfl Tryz.underlying66 rfl) rfl ?_ | refine awpL_tgt rfl rfl rfl (callable Tryz.func40 rfl rfl) hE errX hA rfl rfl ?_))
       | refine st [2, 9] ?_
       | ((with_reducible refine is_gd ?_); refine awpL_split rfl rfl (fun h => ?_) (fun h => ?_))
       | ((with_reducible refine isD_gd ?_); ((fail_if_success (refine isD_kn (c := true) rfl qa0 ?_)); (fail_if_success (refine isD_kn (c := false) rfl qa0 ?_)); refine awpD_split rfl (fun h => ?_) (fun h => ?_)))
       | ((with_reducible refine is_awp ?_); refine awp_cond rfl (fun h => ?_) (fun h => ?_))
       | fail)
      exact retLe rfl (le_zeroP ln 3)
end Go.Proofs.YtigcjinpkngapaaGreatDoor
end
section
namespace Go.Proofs.YtigcjinpkngapaaGreatDoor
open Go.Ac
attribute [local irreducible] awp awpL Ev Ev2 EvS thenQ blockQ retQ PCalls OCalls ICalls
variable {g : List (Nat × List AV)}
abbrev docOfV (p : Doc × Nat) : AV := .tup [.agg (docC p.1), vi p.2]
theorem noteP_of_tier {w : List ByteArray} {t : Tier} (h : tierP w = some t) : noteP w = none := by
  obtain ⟨a, b, c, e, _⟩ := tierP_spec h
  rw [e]; rfl
theorem le_docL0 (m : Int) : Le (.tup [.agg [.v (.int .i64 0), .v (.string .empty), .v (.int .i64 0), .v (.int .i64 0), .v (.slice none 0 0), .fs 4 0 [], .fs 7 0 []], vi m]) (.tup [.agg (docC zeroDoc), vi m]) :=
  Le.tup (.cons (Le.agg (.cons (Le.rfl' _) (.cons (Le.rfl' _) (.cons (Le.rfl' _) (.cons (Le.rfl' _) (.cons (Le.nil 1) (.cons (Le.rfl' _) (.cons (Le.rfl' _) .nil)))))))) (.cons (Le.rfl' _) .nil))
set_option maxRecDepth 8000 in
set_option maxHeartbeats 8000000 in
theorem r15docOf_spec (l : List ByteArray) (hl : l.length ≤ 999000) (hx : ∀ s ∈ l, s.size ≤ 900000) : PCalls Tryz.prog g 41 [encSs l] (docOfV (readF 0 zeroDoc l)) := by
  have n1 : (!true) = false := rfl
  have n2 : (!false) = true := rfl
  refine pcalls' Tryz.func41 Tryz.ntmps41 rfl rfl rfl ?_
  repeat' (first
   | refine stn [2, 4] ?_
   | ((with_reducible refine is_gd ?_); refine awpL_split rfl rfl (fun h => ?_) (fun h => ?_))
   | ((with_reducible refine is_awp ?_); refine awp_cond rfl (fun h => ?_) (fun h => ?_))
   | fail)
  refine awp_adoptC 1 5 51 4 rfl rfl rfl rfl ?_
  refine awp_adoptC 1 6 55 7 rfl rfl rfl rfl ?_
  refine awp_for (α := Nat × Doc) 4 (fun p => [(0, encSs l), (2, .lp 0 0), (4, .lp 1 0), (5, vi p.1)]) (fun p => stL p.1 p.2) (fun p => p.1 ≤ l.length ∧ readF 0 zeroDoc l = readF p.1 p.2 (l.drop p.1) ∧ (p.1 = 0 → p.2 = zeroDoc) ∧ p.2.tiers.length + p.2.notes.length ≤ p.1) (fun p => l.length - p.1) (0, zeroDoc)
    ⟨(.cons rfl rfl (.cons rfl rfl (.cons rfl rfl (.cons rfl rfl .nil)))), rfl, rfl, rfl⟩ ⟨Nat.zero_le _, rfl, fun _ => rfl, Nat.le_refl _⟩ ?_
  rintro ⟨k, d⟩ ⟨hk, hf, h0, hsz⟩
  simp only at hk hf h0 hsz
  cases ht : l[k]? with
  | none =>
    have hge : l.length ≤ k := by simpa using ht
    have c1 : decide ((k : Int) < l.length) = false := decide_eq_false (by omega)
    rw [List.drop_of_length_le hge] at hf
    have hf : readF 0 zeroDoc l = (d, 0) := hf
    rw [hf]
    cases k with
    | zero =>
      rw [h0 rfl]
      simp only [stL]
      repeat' (first
       | refine stn [2, 4] ?_
       | ((with_reducible refine is_gd ?_); refine awpL_split rfl rfl (fun h => ?_) (fun h => ?_))
       | ((with_reducible refine is_awp ?_); refine awp_cond rfl (fun h => ?_) (fun h => ?_))
       | fail)
      exact retLe rfl (le_docL0 0)
    | succ k =>
      simp only [stL]
      repeat' (first
       | refine stn [2, 4] ?_
       | ((with_reducible refine is_gd ?_); refine awpL_split rfl rfl (fun h => ?_) (fun h => ?_))
       | ((with_reducible refine is_awp ?_); refine awp_cond rfl (fun h => ?_) (fun h => ?_))
       | fail)
      refine retP rfl ?_
      simp [ex, exL, docC]
  | some x =>
    have hlt : k < l.length := (List.getElem?_eq_some_iff.1 ht).1
    have c1 : decide ((k : Int) < l.length) = true := decide_eq_true (by omega)
    have ik := word_get ht
    have hxs := hx x (List.mem_of_getElem? ht)
    have hS := r3Split_spec (g := g) x (by omega)
    rw [readF_drop ht] at hf
    cases k with
    | zero =>
      have c2 : decide (((0 : Nat) : Int) = 0) = true := rfl
      obtain rfl := h0 rfl
      simp only [stL]
      cases hw : splitW (lst x) with
      | none =>
        rw [hw] at hS
        replace hS : PCalls _ _ _ _ (.tup [encSs [], vb false]) := hS
        have hf : readF 0 zeroDoc l = (zeroDoc, 0 + 1) := by rw [hf]; unfold lineP; rw [hw]
        rw [hf]
        repeat' (first
         | refine stn [2, 4] ?_
         | ((with_reducible refine is_gd ?_); refine awpL_split rfl rfl (fun h => ?_) (fun h => ?_))
         | ((with_reducible refine is_awp ?_); refine awp_cond rfl (fun h => ?_) (fun h => ?_))
         | fail)
        exact retLe rfl (le_docL0 1)
      | some ws =>
        rw [hw] at hS
        replace hS : PCalls _ _ _ _ (.tup [encSs (ws.map toB), vb true]) := hS
        obtain ⟨w1, w2⟩ := words_fit hw
        have hR := r15recOf_spec (g := g) (ws.map toB) (by omega) (fun s hs => by have := w2 s hs; omega)
        cases hr : recP (ws.map toB) with
        | none =>
          rw [hr] at hR
          replace hR : PCalls _ _ _ [encSs (ws.map toB)] (.tup [.agg (recC zeroRec), vb false]) := hR
          have hf : readF 0 zeroDoc l = (zeroDoc, 0 + 1) := by rw [hf]; unfold lineP; rw [hw]; simp only [hr, if_true, Option.map_none]
          rw [hf]
          repeat' (first
           | refine stn [2, 4] ?_
           | ((with_reducible refine is_gd ?_); refine awpL_split rfl rfl (fun h => ?_) (fun h => ?_))
           | ((with_reducible refine is_awp ?_); refine awp_cond rfl (fun h => ?_) (fun h => ?_))
           | fail)
          exact retLe rfl (le_docL0 1)
        | some r =>
          rw [hr] at hR
          replace hR : PCalls _ _ _ [encSs (ws.map toB)] (.tup [.agg (recC r), vb true]) := hR
          have hf : readF 0 zeroDoc l = readF 1 ⟨r, [], []⟩ (l.drop 1) := by rw [hf]; unfold lineP; rw [hw]; simp only [hr, if_true, Option.map_some]; rfl
          repeat' (first
           | refine stn [2, 4] ?_
           | ((with_reducible refine is_gd ?_); refine awpL_split rfl rfl (fun h => ?_) (fun h => ?_))
           | ((with_reducible refine is_awp ?_); refine awp_cond rfl (fun h => ?_) (fun h => ?_))
           | fail)
          exact ⟨(1, ⟨r, [], []⟩), ⟨(.cons rfl rfl (.cons rfl rfl (.cons rfl rfl (.cons rfl rfl .nil)))), rfl, rfl, rfl⟩, ⟨by simp only; omega, hf, fun h => by simp at h, by simp⟩, by simp only; omega⟩
    | succ k =>
      have c2 : decide (((k + 1 : Nat) : Int) = 0) = false := decide_eq_false (by omega)
      have c4 : ((k + 1 : Nat) : Int) + 1 = ((k + 1 + 1 : Nat) : Int) := by omega
      simp only [stL]
      have hnn : (d.notes.map noteC).length = d.notes.length := List.length_map _
      have htt : (d.tiers.map tierC).length = d.tiers.length := List.length_map _
      cases hw : splitW (lst x) with
      | none =>
        rw [hw] at hS
        replace hS : PCalls _ _ _ _ (.tup [encSs [], vb false]) := hS
        have hf : readF 0 zeroDoc l = (d, k + 1 + 1) := by rw [hf]; unfold lineP; rw [hw]
        rw [hf]
        repeat' (first
         | refine stn [2, 4] ?_
         | ((with_reducible refine is_gd ?_); refine awpL_split rfl rfl (fun h => ?_) (fun h => ?_))
         | ((with_reducible refine is_awp ?_); refine awp_cond rfl (fun h => ?_) (fun h => ?_))
         | fail)
        refine retP rfl ?_
        simp [ex, exL, docC]
      | some ws =>
        rw [hw] at hS
        replace hS : PCalls _ _ _ _ (.tup [encSs (ws.map toB), vb true]) := hS
        obtain ⟨w1, w2⟩ := words_fit hw
        have hT := r15tierOf_spec (g := g) (ws.map toB) (by omega) (fun s hs => by have := w2 s hs; omega)
        have hNo := r15noteOf_spec (g := g) (ws.map toB) (by omega) (fun s hs => by have := w2 s hs; omega)
        cases htp : tierP (ws.map toB) with
        | some t =>
          have hnp := noteP_of_tier htp
          rw [htp] at hT
          rw [hnp] at hNo
          replace hT : PCalls _ _ _ [encSs (ws.map toB)] (.tup [.agg (tierC t), vb true]) := hT
          replace hNo : PCalls _ _ _ [encSs (ws.map toB)] (.tup [.agg (noteC noNote), vb false]) := hNo
          by_cases hz : d.notes.length = 0
          · have c3 : decide (((d.notes.map noteC).length : Int) = 0) = true := decide_eq_true (by omega)
            have hp : furP d (ws.map toB) = some { d with tiers := d.tiers ++ [t] } := by unfold furP; rw [htp]; simp only [hz, if_true]
            have hf : readF 0 zeroDoc l = readF (k + 1 + 1) { d with tiers := d.tiers ++ [t] } (l.drop (k + 1 + 1)) := by rw [hf]; unfold lineP; rw [hw]; simp only [hp, Nat.add_one_ne_zero, if_false]
            have hj : d.tiers.map tierC ++ [tierC t] = (d.tiers ++ [t]).map tierC := by simp
            have hmb : (d.tiers.map tierC).length ≤ 1000000 := by omega
            generalize hT' : d.tiers ++ [t] = T' at *
            repeat' (first
             | ((with_reducible refine is_un ?_); refine awpL_ev2 (ev_appB (es' := T'.map tierC) rfl rfl rfl rfl rfl rfl rfl rfl rfl rfl rfl rfl rfl qe0 hj rfl) rfl ?_)
             | refine stn [2, 4] ?_
             | ((with_reducible refine is_gd ?_); refine awpL_split rfl rfl (fun h => ?_) (fun h => ?_))
             | ((with_reducible refine is_awp ?_); refine awp_cond rfl (fun h => ?_) (fun h => ?_))
             | fail)
            exact ⟨(k + 1 + 1, ⟨d.rec_, T', d.notes⟩), ⟨(.cons rfl rfl (.cons rfl rfl (.cons rfl rfl (.cons rfl rfl .nil)))), rfl, rfl, rfl⟩, ⟨by simp only; omega, hf, fun h => by simp at h, by simp only; rw [← hT']; simp; omega⟩, by simp only; omega⟩
          · have c3 : decide (((d.notes.map noteC).length : Int) = 0) = false := decide_eq_false (by omega)
            have hp : furP d (ws.map toB) = none := by unfold furP; rw [htp]; simp only [hz, if_false]
            have hf : readF 0 zeroDoc l = (d, k + 1 + 1) := by rw [hf]; unfold lineP; rw [hw]; simp only [hp, Nat.add_one_ne_zero, if_false]
            rw [hf]
            repeat' (first
             | refine stn [2, 4] ?_
             | ((with_reducible refine is_gd ?_); refine awpL_split rfl rfl (fun h => ?_) (fun h => ?_))
             | ((with_reducible refine is_awp ?_); refine awp_cond rfl (fun h => ?_) (fun h => ?_))
             | fail)
            refine retP rfl ?_
            simp [ex, exL, docC]
        | none =>
          rw [htp] at hT
          replace hT : PCalls _ _ _ [encSs (ws.map toB)] (.tup [.agg (tierC zeroTier), vb false]) := hT
          cases hnp : noteP (ws.map toB) with
          | some n =>
            rw [hnp] at hNo
            replace hNo : PCalls _ _ _ [encSs (ws.map toB)] (.tup [.agg (noteC n), vb true]) := hNo
            have hp : furP d (ws.map toB) = some { d with notes := d.notes ++ [n] } := by unfold furP; rw [htp, hnp]
            have hf : readF 0 zeroDoc l = readF (k + 1 + 1) { d with notes := d.notes ++ [n] } (l.drop (k + 1 + 1)) := by rw [hf]; unfold lineP; rw [hw]; simp only [hp, Nat.add_one_ne_zero, if_false]
            have hj : d.notes.map noteC ++ [noteC n] = (d.notes ++ [n]).map noteC := by simp
            have hmb : (d.notes.map noteC).length ≤ 1000000 := by omega
            generalize hT' : d.notes ++ [n] = T' at *
            repeat' (first
             | ((with_reducible refine is_un ?_); refine awpL_ev2 (ev_appB (es' := T'.map noteC) rfl rfl rfl rfl rfl rfl rfl rfl rfl rfl rfl rfl rfl qe0 hj rfl) rfl ?_)
             | refine stn [2, 4] ?_
             | ((with_reducible refine is_gd ?_); refine awpL_split rfl rfl (fun h => ?_) (fun h => ?_))
             | ((with_reducible refine is_awp ?_); refine awp_cond rfl (fun h => ?_) (fun h => ?_))
             | fail)
            exact ⟨(k + 1 + 1, ⟨d.rec_, d.tiers, T'⟩), ⟨(.cons rfl rfl (.cons rfl rfl (.cons rfl rfl (.cons rfl rfl .nil)))), rfl, rfl, rfl⟩, ⟨by simp only; omega, hf, fun h => by simp at h, by simp only; rw [← hT']; simp; omega⟩, by simp only; omega⟩
          | none =>
            rw [hnp] at hNo
            replace hNo : PCalls _ _ _ [encSs (ws.map toB)] (.tup [.agg (noteC noNote), vb false]) := hNo
            have hp : furP d (ws.map toB) = none := by unfold furP; rw [htp, hnp]
            have hf : readF 0 zeroDoc l = (d, k + 1 + 1) := by rw [hf]; unfold lineP; rw [hw]; simp only [hp, Nat.add_one_ne_zero, if_false]
            rw [hf]
            repeat' (first
             | refine stn [2, 4] ?_
             | ((with_reducible refine is_gd ?_); refine awpL_split rfl rfl (fun h => ?_) (fun h => ?_))
             | ((with_reducible refine is_awp ?_); refine awp_cond rfl (fun h => ?_) (fun h => ?_))
             | fail)
            refine retP rfl ?_
            simp [ex, exL, docC]
set_option maxRecDepth 8000 in
set_option maxHeartbeats 4000000 in
theorem r15Parse_spec (s : ByteArray) (hs : s.size ≤ 90000) : PCalls Tryz.prog g 18 [.v (.string s)] (parsedV (parseD (lst s))) := by
  have n1 : (!true) = false := rfl
  have n2 : (!false) = true := rfl
  have hL := r3Lines_spec (g := g) s (by omega)
  have hem : s = ⟨#[]⟩ ↔ lst s = [] := eq_toB s []
  refine pcalls' Tryz.func18 Tryz.ntmps18 rfl rfl rfl ?_
  unfold parseD
  by_cases h0 : s = ⟨#[]⟩
  · have c0 : decide (s = ⟨#[]⟩) = true := decide_eq_true h0
    rw [if_pos (hem.1 h0)]
    repeat' (first
     | refine stn [2, 4] ?_
     | ((with_reducible refine is_gd ?_); refine awpL_split rfl rfl (fun h => ?_) (fun h => ?_))
     | ((with_reducible refine is_awp ?_); refine awp_cond rfl (fun h => ?_) (fun h => ?_))
     | fail)
    exact retLe rfl (le_zeroP 0 4)
  have c0 : decide (s = ⟨#[]⟩) = false := decide_eq_false h0
  rw [if_neg (fun q => h0 (hem.2 q))]
  cases hl : linesW (lst s) with
  | none =>
    rw [hl] at hL
    replace hL : PCalls _ _ _ _ (.tup [encSs [], vb false]) := hL
    repeat' (first
     | refine stn [2, 4] ?_
     | ((with_reducible refine is_gd ?_); refine awpL_split rfl rfl (fun h => ?_) (fun h => ?_))
     | ((with_reducible refine is_awp ?_); refine awp_cond rfl (fun h => ?_) (fun h => ?_))
     | fail)
    exact retLe rfl (le_zeroP 0 3)
  | some ls =>
    rw [hl] at hL
    replace hL : PCalls _ _ _ _ (.tup [encSs (ls.map toB), vb true]) := hL
    obtain ⟨l1, l2⟩ := lines_fit hl
    have hR := r15docOf_spec (g := g) (ls.map toB) (by omega) (fun x hx => by have := l2 x hx; omega)
    have f1 := readF_len (ls.map toB) 0 zeroDoc
    have f3 := readF_spk l2
    have f4 := readF_named (m := s.size) (ls.map toB) 0 zeroDoc l2 ⟨Nat.zero_le _, fun t ht => (by cases ht)⟩
    simp only
    generalize readF 0 zeroDoc (ls.map toB) = p at *
    obtain ⟨d, ln⟩ := p
    have fz : zeroDoc.tiers.length = 0 ∧ zeroDoc.notes.length = 0 := ⟨rfl, rfl⟩
    simp only at f1 f3 f4 ⊢
    replace hR : PCalls _ _ _ _ (.tup [.agg (docC d), vi ln]) := hR
    by_cases hz : ln = 0
    · have cz : decide ((0 : Int) < (ln : Int)) = false := decide_eq_false (by omega)
      rw [if_neg (by simpa using hz)]
      have hP := r15printable_spec (g := g) d ⟨by omega, fun t ht => by have := f4.2 t ht; omega⟩ (any_cov d (by omega)) (by omega) (by have := f4.1; omega)
      generalize printE d = e at *
      by_cases he : e = 0
      · have c1 : (!decide (e = 0)) = false := by rw [decide_eq_true he]; rfl
        rw [if_neg (by simpa using he)]
        repeat' (first
         | refine stn [2, 4] ?_
         | ((with_reducible refine is_gd ?_); refine awpL_split rfl rfl (fun h => ?_) (fun h => ?_))
         | ((with_reducible refine is_awp ?_); refine awp_cond rfl (fun h => ?_) (fun h => ?_))
         | fail)
        exact retP rfl rfl
      · have c1 : (!decide (e = 0)) = true := by rw [decide_eq_false he]; rfl
        rw [if_pos he]
        repeat' (first
         | refine stn [2, 4] ?_
         | ((with_reducible refine is_gd ?_); refine awpL_split rfl rfl (fun h => ?_) (fun h => ?_))
         | ((with_reducible refine is_awp ?_); refine awp_cond rfl (fun h => ?_) (fun h => ?_))
         | fail)
        exact retLe rfl (le_zeroP 0 e)
    · have cz : decide ((0 : Int) < (ln : Int)) = true := decide_eq_true (by omega)
      rw [if_pos hz]
      repeat' (first
       | refine stn [2, 4] ?_
       | ((with_reducible refine is_gd ?_); refine awpL_split rfl rfl (fun h => ?_) (fun h => ?_))
       | ((with_reducible refine is_awp ?_); refine awp_cond rfl (fun h => ?_) (fun h => ?_))
       | fail)
      exact retLe rfl (le_zeroP ln 3)
end Go.Proofs.YtigcjinpkngapaaGreatDoor
end
