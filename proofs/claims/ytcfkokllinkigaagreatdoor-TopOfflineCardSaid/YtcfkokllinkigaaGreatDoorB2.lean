/- A logic of trees over the model's steps, and the contracts of the functions that the laws reach: part 2 of 29. -/
import Derived.Test.YtcfkokllinkigaaGreatDoorB1
import Derived.MapKept
import Derived.RangeFuncRecord
set_option linter.unusedVariables false
set_option linter.unusedSimpArgs false
set_option linter.unusedSectionVars false
set_option linter.unnecessarySimpa false
namespace Go.Ac
section
def pvS (aft : Array Edge) (D Sb : SL) : SL := depS aft.toList 0 D ++ Sb
def mskP (aft : List Edge) : List LB → List (Nat × List Nat) → List LB
 | x :: r, (τ, _) :: T => (bif hasE aft τ then x else .dead) :: mskP aft r T
 | _, _ => []
def mskL (aft : List Edge) (nb : Nat) (L : List LB) (T : List (Nat × List Nat)) : List LB := L.take nb ++ mskP aft (L.drop nb) T
def addT (aft : List Edge) (i : Nat) : List (Nat × List Nat) → List (Nat × List Nat)
 | [] => []
 | (τ, ds) :: T => (bif hasE aft τ then (τ, i :: ds) else (τ, ds)) :: addT aft i T
def PV (P : Program) (G : Glo) (N : Nat) (o : Oper) (D Sb : SL) (L : List LB) (x : AV) : Prop :=
 match o.guard with
 | none => PEv P G N o.op o.type (pvS o.after D Sb) L x L
 | some (j, want) => hasE o.after.toList j = true ∧ ∃ t z, D[j]? = some (t, z) ∧
   ((z = .v (.bool want) ∧ PEv P G N o.op o.type (pvS o.after D Sb) L x L) ∨ (z = .v (.bool !want) ∧ x = .v undef) ∨ (z = .v undef ∧ x = .v undef))
abbrev TL := List (Nat × List Nat)
inductive Kd where
 | any
 | op (t : Option (Nat × LB))
 | seq
abbrev Rc := Nat × AV × Kd
def PEvS (P : Program) (G : Glo) (N : Nat) (o : Oper) (S : SL) (L : List LB) (L' : List LB) : Prop :=
 o.dst = none ∧ EvS P G N o.op o.type S L L' ∧ nd o.op = true
structure DW where
 L : List LB
 T : TL
 Z : List Nat
 sq : Bool
inductive DStep (P : Program) (G : Glo) (N : Nat) (Sb : SL) (nb i : Nat) (o : Oper) (D : SL) (W : DW) : Rc → DW → Prop
 | any {d : Nat} {x : AV} (hd : o.dst = some d) (h : ∀ M, PV P G N o D Sb M x) (hx : noid (low W.L.length) x = true) : DStep P G N Sb nb i o D W (d, x, .any) W
 | pure {d : Nat} {x : AV} {M : List LB} (hd : o.dst = some d) (hq : W.sq = false) (hM : mskL o.after.toList nb W.L W.T = M) (h : PV P G N o D Sb M x) (hx : noid (okid M nb) x = true) :
   DStep P G N Sb nb i o D W (d, x, .op none) ⟨W.L, addT o.after.toList i W.T, i :: W.Z, false⟩
 | new {d : Nat} {x : AV} {M : List LB} {B : LB} (hd : o.dst = some d) (hg : o.guard = none) (hq : W.sq = false) (hM : mskL o.after.toList nb W.L W.T = M) (h : PEv P G N o.op o.type (pvS o.after D Sb) M x (M ++ [B]))
   (hx : noid (okid (M ++ [B]) nb) x = true) (hB : plainB nb B = true) : DStep P G N Sb nb i o D W (d, x, .op (some (W.L.length, B))) ⟨W.L ++ [B], addT o.after.toList i W.T ++ [(i, [i])], i :: W.Z, false⟩
 | upd {d : Nat} {x : AV} {M : List LB} {k : Nat} {B : LB} {τ : Nat} {ds : List Nat} (hd : o.dst = some d) (hg : o.guard = none) (hq : W.sq = false) (hM : mskL o.after.toList nb W.L W.T = M) (hk : nb ≤ k) (hτ : W.T[k - nb]? = some (τ, ds))
   (hb : hasE o.after.toList τ = true) (hds : ds.all (hasE o.after.toList) = true) (h : PEv P G N o.op o.type (pvS o.after D Sb) M x (M.set k B))
   (hx : noid (okid (M.set k B) nb) x = true) (hB : plainB nb B = true) : DStep P G N Sb nb i o D W (d, x, .op (some (k, B))) ⟨W.L.set k B, (addT o.after.toList i W.T).set (k - nb) (i, [i]), i :: W.Z, false⟩
 | seqV {d : Nat} {x : AV} {L' : List LB} (hd : o.dst = some d) (hg : o.guard = none) (hZ : W.Z.all (hasE o.after.toList) = true) (h : PEv P G N o.op o.type (pvS o.after D Sb) W.L x L') :
   DStep P G N Sb nb i o D W (d, x, .seq) ⟨L', W.T, i :: W.Z, true⟩
 | seqS {L' : List LB} (hg : o.guard = none) (hZ : W.Z.all (hasE o.after.toList) = true) (h : PEvS P G N o (pvS o.after D Sb) W.L L') : DStep P G N Sb nb i o D W (N, .any, .seq) ⟨L', W.T, i :: W.Z, true⟩
inductive awpD (P : Program) (G : Glo) (N : Nat) (C : SL → List LB → Prop) (Sb : SL) (nb : Nat) : List Oper → SL → DW → Prop
 | nil {D : SL} {W : DW} (h : C (D ++ Sb) W.L) : awpD P G N C Sb nb [] D W
 | step {o : Oper} {rest : List Oper} {D : SL} {W W' : DW} {r : Rc} (h : DStep P G N Sb nb D.length o D W r W') (k : awpD P G N C Sb nb rest (D ++ [(r.1, r.2.1)]) W') : awpD P G N C Sb nb (o :: rest) D W
structure Plan (P : Program) (G : Glo) (N : Nat) (C : SL → List LB → Prop) (Sb : SL) (nb : Nat) (l : List Oper) (L0 : List LB) (X : List Rc) (Ws : Nat → DW) : Prop where
 len : X.length = l.length
 W0 : Ws 0 = ⟨L0, [], [], false⟩
 step : ∀ (i : Nat) (o : Oper), l[i]? = some o → ∃ r, X[i]? = some r ∧ DStep P G N Sb nb i o ((X.take i).map fun r => (r.1, r.2.1)) (Ws i) r (Ws (i + 1))
 done : C (X.map (fun r => (r.1, r.2.1)) ++ Sb) (Ws l.length).L
section
variable {P : Program} {G : Glo} {N : Nat} {C : SL → List LB → Prop} {Sb : SL} {nb : Nat}
theorem awpD_plan : ∀ {l : List Oper} {D : SL} {W : DW}, awpD P G N C Sb nb l D W → ∀ (pre : List Rc), pre.map (fun r => (r.1, r.2.1)) = D →
  ∃ (X : List Rc) (Ws : Nat → DW), X.length = pre.length + l.length ∧ X.take pre.length = pre ∧ Ws pre.length = W ∧
   (∀ (i : Nat) (o : Oper), l[i]? = some o → ∃ r, X[pre.length + i]? = some r ∧ DStep P G N Sb nb (pre.length + i) o ((X.take (pre.length + i)).map fun r => (r.1, r.2.1)) (Ws (pre.length + i)) r (Ws (pre.length + i + 1))) ∧
   C (X.map (fun r => (r.1, r.2.1)) ++ Sb) (Ws (pre.length + l.length)).L := by
 intro l D W h
 induction h with
 | @nil D W h =>
  intro pre hp
  exact ⟨pre, fun _ => W, by simp, by simp, rfl, fun i o h => by simp at h, by rw [hp]; exact h⟩
 | @step o rest D W W' r h k ih =>
  intro pre hp
  obtain ⟨X, Ws, e1, e2, e3, e5, e6⟩ := ih (pre ++ [r]) (by simp [hp])
  simp only [List.length_append, List.length_singleton] at e1 e2 e3 e5 e6
  have ed : X.take pre.length = pre := by
   have := congrArg (List.take pre.length) e2
   rw [List.take_take, Nat.min_eq_left (by omega)] at this
   simpa using this
  have ex : X[pre.length]? = some r := by
   have := congrArg (fun l => l[pre.length]?) e2
   simp only [List.getElem?_take, List.getElem?_append_right (Nat.le_refl pre.length)] at this
   simpa using this
  have hDl : D.length = pre.length := by rw [← hp]; simp
  refine ⟨X, fun i => if i = pre.length then W else Ws i, by simp; omega, ed, if_pos rfl, fun i o' hi => ?_, ?_⟩
  ·cases i with
   | zero =>
    simp at hi; subst hi
    refine ⟨r, by simpa using ex, ?_⟩
    simp only [Nat.add_zero, if_true, ed, hp]
    rw [if_neg (by omega), e3, ← hDl]
    exact h
   | succ i =>
    obtain ⟨r', g1, g2⟩ := e5 i o' (by simpa using hi)
    refine ⟨r', by rwa [show pre.length + (i + 1) = pre.length + 1 + i by omega], ?_⟩
    rw [show pre.length + (i + 1) = pre.length + 1 + i by omega]
    simp only [if_neg (show ¬ (pre.length + 1 + i = pre.length) by omega), if_neg (show ¬ (pre.length + 1 + i + 1 = pre.length) by omega)]
    exact g2
  ·simp only [List.length_cons, if_neg (show ¬ (pre.length + (rest.length + 1) = pre.length) by omega)]
   rw [show pre.length + (rest.length + 1) = pre.length + 1 + rest.length by omega]
   exact e6
theorem qD {aft : List Edge} {i : Nat} : ∀ {T : TL}, (addT aft i T).length = T.length
 | [] => rfl
 | (τ, ds) :: T => by simp only [addT, List.length_cons, qD]
theorem addT_get {aft : List Edge} {i : Nat} : ∀ {T : TL} {j τ : Nat} {ds : List Nat}, (addT aft i T)[j]? = some (τ, ds) → ∃ ds0, T[j]? = some (τ, ds0) ∧ ((hasE aft τ = true ∧ ds = i :: ds0) ∨ (hasE aft τ = false ∧ ds = ds0))
 | [], j, τ, ds, h => by simp [addT] at h
 | (τ0, ds0) :: T, 0, τ, ds, h => by
  simp only [addT, List.getElem?_cons_zero, Option.some.injEq] at h
  cases hb : hasE aft τ0 with
  | true => rw [hb] at h; simp only [cond_true, Prod.mk.injEq] at h; obtain ⟨rfl, rfl⟩ := h; exact ⟨ds0, rfl, .inl ⟨hb, rfl⟩⟩
  | false => rw [hb] at h; simp only [cond_false, Prod.mk.injEq] at h; obtain ⟨rfl, rfl⟩ := h; exact ⟨ds0, rfl, .inr ⟨hb, rfl⟩⟩
 | (τ0, ds0) :: T, j + 1, τ, ds, h => by
  obtain ⟨x, h1, h2⟩ := addT_get (T := T) (j := j) (by simpa [addT] using h)
  exact ⟨x, by simpa using h1, h2⟩
theorem mskP_get {aft : List Edge} : ∀ {M : List LB} {T : TL} {j : Nat} {x : LB}, (mskP aft M T)[j]? = some x → ∃ y τ ds, M[j]? = some y ∧ T[j]? = some (τ, ds) ∧ x = bif hasE aft τ then y else .dead
 | [], _, j, x, h => by simp [mskP] at h
 | _ :: _, [], j, x, h => by simp [mskP] at h
 | y :: r, (τ, ds) :: T, 0, x, h => by simp only [mskP, List.getElem?_cons_zero, Option.some.injEq] at h; exact ⟨y, τ, ds, rfl, rfl, h.symm⟩
 | y :: r, (τ, ds) :: T, j + 1, x, h => by
  obtain ⟨y', τ', ds', h1, h2, h3⟩ := mskP_get (M := r) (T := T) (j := j) (by simpa [mskP] using h)
  exact ⟨y', τ', ds', by simpa using h1, by simpa using h2, h3⟩
theorem mskP_len {aft : List Edge} : ∀ {M : List LB} {T : TL}, M.length = T.length → (mskP aft M T).length = T.length
 | [], [], _ => rfl
 | [], _ :: _, h => by simp at h
 | _ :: _, [], h => by simp at h
 | y :: r, (τ, ds) :: T, h => by simp only [mskP, List.length_cons, mskP_len (by simpa using h)]
def tch (X : List Rc) (m k : Nat) (B : LB) : Prop := ∃ d x, X[m]? = some (d, x, .op (some (k, B)))
def isSeq (X : List Rc) (m : Nat) : Prop := ∃ d x, X[m]? = some (d, x, .seq)
def isAny (X : List Rc) (m : Nat) : Prop := ∃ d x, X[m]? = some (d, x, .any)
structure TI (l : List Oper) (nb : Nat) (L0 : List LB) (X : List Rc) (i : Nat) (L : List LB) (T : TL) : Prop where
 len : L.length = nb + T.length
 base : ∀ k, k < nb → L[k]? = L0[k]?
 last : ∀ (j τ : Nat) (ds : List Nat), T[j]? = some (τ, ds) → τ < i ∧ ∃ B, L[nb + j]? = some B ∧ tch X τ (nb + j) B ∧ plainB nb B = true
 all : ∀ (j τ : Nat) (ds : List Nat), T[j]? = some (τ, ds) → ∀ (m : Nat) (B : LB), m < i → tch X m (nb + j) B → m ≤ τ
 lean : ∀ (j τ : Nat) (ds : List Nat), T[j]? = some (τ, ds) → ∀ (m : Nat) (o : Oper), m < i → l[m]? = some o → hasE o.after.toList τ = true → ¬ isAny X m → m ∈ ds
 bnd : ∀ (j τ : Nat) (ds : List Nat), T[j]? = some (τ, ds) → ∀ m ∈ ds, m < i
 in_ : ∀ (m k : Nat) (B : LB), m < i → tch X m k B → nb ≤ k ∧ k < L.length ∧ plainB nb B = true
variable {l : List Oper} {L0 : List LB} {X : List Rc} {Ws : Nat → DW}
theorem tch_uniq {m k k' : Nat} {B B' : LB} (h : tch X m k B) (h' : tch X m k' B') : k = k' ∧ B = B' := by
 obtain ⟨d, x, h⟩ := h
 obtain ⟨d', x', h'⟩ := h'
 rw [h] at h'; simp only [Option.some.injEq, Prod.mk.injEq, Kd.op.injEq] at h'
 exact h'.2.2
theorem ti_all (pl : Plan P G N C Sb nb l L0 X Ws) (hnb : nb = L0.length) (hback : ∀ (i : Nat) (o : Oper), l[i]? = some o → ∀ e ∈ o.after.toList, Region.binds .any e = true → e.on < i) : ∀ i, i ≤ l.length → (∀ m, m < i → ¬ isSeq X m) → TI l nb L0 X i (Ws i).L (Ws i).T ∧ (Ws i).sq = false := by
 intro i
 induction i with
 | zero =>
  intro _ _
  rw [pl.W0]
  refine ⟨?_, rfl⟩
  exact ⟨by simp [hnb], fun _ _ => rfl, fun j τ ds h => by simp at h, fun j τ ds h => by simp at h, fun j τ ds h => by simp at h, fun j τ ds h => by simp at h, fun m k B h => by omega⟩
 | succ i ih =>
  intro hi hsq
  obtain ⟨ti, hq0⟩ := ih (by omega) (fun m hm => hsq m (by omega))
  obtain ⟨r, hX, hs⟩ := pl.step i l[i] (List.getElem?_eq_getElem (by omega))
  have hbk := hback i l[i] (List.getElem?_eq_getElem (by omega))
  have hself : ∀ {m : Nat}, hasE l[i].after.toList m = true → m < i := fun h => by obtain ⟨e, he, hb, rfl⟩ := zX h; exact hbk e he hb
  -- the touch of operation i
  have ht : ∀ {k : Nat} {B : LB}, tch X i k B → r.2.2 = .op (some (k, B)) := by
   rintro k B ⟨d, x, h⟩
   rw [hX] at h; injection h with h; rw [h]
  have hns : r.2.2 ≠ .seq := fun e => hsq i (by omega) ⟨r.1, r.2.1, by rw [hX, ← e]⟩
  generalize Ws (i + 1) = W' at hs ⊢
  generalize hW : Ws i = W at hs ti
  obtain ⟨L, T, Z, sq⟩ := W
  simp only at ti
  have addAll : ∀ {j τ : Nat} {ds : List Nat}, (addT l[i].after.toList i T)[j]? = some (τ, ds) → ∃ ds0, T[j]? = some (τ, ds0) ∧ (∀ m ∈ ds0, m ∈ ds) ∧ (∀ m ∈ ds, m < i + 1) ∧ (hasE l[i].after.toList τ = true → i ∈ ds) := by
   intro j τ ds h
   obtain ⟨ds0, h1, h2⟩ := addT_get h
   have hb := ti.bnd j τ ds0 h1
   rcases h2 with ⟨h3, rfl⟩ | ⟨h3, rfl⟩
   ·refine ⟨ds0, h1, fun m hm => List.mem_cons_of_mem _ hm, fun m hm => ?_, fun _ => List.mem_cons_self ..⟩
    rcases List.mem_cons.1 hm with rfl | hm
    ·omega
    ·have := hb m hm; omega
   ·exact ⟨ds, h1, fun m hm => hm, fun m hm => by have := hb m hm; omega, fun h => by rw [h3] at h; cases h⟩
  have leanAdd : ∀ {j τ : Nat} {ds : List Nat}, (addT l[i].after.toList i T)[j]? = some (τ, ds) → ∀ (m : Nat) (o : Oper), m < i + 1 → l[m]? = some o → hasE o.after.toList τ = true → ¬ isAny X m → m ∈ ds := by
   intro j τ ds h m o hm ho hE hna
   obtain ⟨ds0, h1, h2, _, h3⟩ := addAll h
   rcases Nat.lt_or_ge m i with h4 | h4
   ·exact h2 m (ti.lean j τ ds0 h1 m o h4 ho hE hna)
   ·have : m = i := by omega
    subst this
    rw [List.getElem?_eq_getElem (by omega)] at ho; injection ho with ho; subst ho
    exact h3 hE
  cases hs with
  | seqV hd hg hZ h => exact absurd rfl hns
  | seqS hg hZ h => exact absurd rfl hns
  | any hd h hx =>
   refine ⟨?_, by rw [hW] at hq0; exact hq0⟩
   have hno : ∀ {k : Nat} {B : LB}, ¬ tch X i k B := fun h => by have := ht h; cases this
   have hia : isAny X i := ⟨_, _, hX⟩
   have split : ∀ {m : Nat}, m < i + 1 → m < i ∨ m = i := fun h => by omega
   refine ⟨ti.len, ti.base, fun j τ ds h => ?_, fun j τ ds h m B hm hh => ?_, fun j τ ds h m o hm ho hE hna => ?_, fun j τ ds h m hm => by have := ti.bnd j τ ds h m hm; omega, fun m k B hm hh => ?_⟩
   ·obtain ⟨g1, g2⟩ := ti.last j τ ds h; exact ⟨by omega, g2⟩
   ·rcases split hm with h4 | rfl
    ·exact ti.all j τ ds h m B h4 hh
    ·exact absurd hh hno
   ·rcases split hm with h4 | rfl
    ·exact ti.lean j τ ds h m o h4 ho hE hna
    ·exact absurd hia hna
   ·rcases split hm with h4 | rfl
    ·exact ti.in_ m k B h4 hh
    ·exact absurd hh hno
  | pure hd hqq hM h hx =>
   refine ⟨?_, rfl⟩
   have hno : ∀ {k : Nat} {B : LB}, ¬ tch X i k B := fun h => by have := ht h; cases this
   refine ⟨by rw [qD]; exact ti.len, ti.base, fun j τ ds h => ?_, fun j τ ds h m B hm hh => ?_, fun j τ ds h => leanAdd h, fun j τ ds h => ?_, fun m k B hm hh => ?_⟩
   ·obtain ⟨ds0, h1, _⟩ := addAll h
    obtain ⟨g1, g2⟩ := ti.last j τ ds0 h1
    exact ⟨by omega, g2⟩
   ·obtain ⟨ds0, h1, h2, _⟩ := addAll h
    rcases Nat.lt_or_ge m i with h4 | h4
    ·exact ti.all j τ ds0 h1 m B h4 hh
    ·have : m = i := by omega
     subst this; exact absurd hh hno
   ·obtain ⟨ds0, _, _, h3, _⟩ := addAll h; exact h3
   ·rcases Nat.lt_or_ge m i with h4 | h4
    ·exact ti.in_ m k B h4 hh
    ·have : m = i := by omega
     subst this; exact absurd hh hno
  | @new d x M B hd hg hqq hM h hx hB =>
   refine ⟨?_, rfl⟩
   dsimp only at *
   have hti : ∀ {k : Nat} {B' : LB}, tch X i k B' → k = L.length ∧ B' = B := fun h => by have := ht h; simp only [Kd.op.injEq, Option.some.injEq, Prod.mk.injEq] at this; obtain ⟨h1, h2⟩ := this; exact ⟨h1.symm, h2.symm⟩
   have hmine : tch X i L.length B := ⟨d, x, hX⟩
   have hj : ∀ {j : Nat} {τ : Nat} {ds : List Nat}, (addT l[i].after.toList i T ++ [(i, [i])])[j]? = some (τ, ds) → ((addT l[i].after.toList i T)[j]? = some (τ, ds) ∧ j < T.length) ∨ (j = T.length ∧ i = τ ∧ [i] = ds) := by
    intro j τ ds h
    rcases Nat.lt_or_ge j T.length with h1 | h1
    ·rw [List.getElem?_append_left (by rw [qD]; exact h1)] at h; exact .inl ⟨h, h1⟩
    ·rw [List.getElem?_append_right (by rw [qD]; exact h1), qD] at h
     rcases Nat.eq_zero_or_pos (j - T.length) with h2 | h2
     ·rw [h2] at h; simp at h; exact .inr ⟨by omega, h.1, h.2⟩
     ·rw [List.getElem?_eq_none (by simp; omega)] at h; cases h
   refine ⟨by simp [qD, ti.len]; omega, fun k hk => ?_, fun j τ ds h => ?_, fun j τ ds h m B' hm hh => ?_, fun j τ ds h m o hm ho hE hna => ?_, fun j τ ds h => ?_, fun m k B' hm hh => ?_⟩
   ·rw [List.getElem?_append_left (by have := ti.len; omega)]; exact ti.base k hk
   ·rcases hj h with ⟨h, hjl⟩ | ⟨rfl, rfl, rfl⟩
    ·obtain ⟨ds0, h1, _⟩ := addAll h
     obtain ⟨g1, B0, g2, g3, g4⟩ := ti.last j τ ds0 h1
     exact ⟨by omega, B0, by rw [List.getElem?_append_left (by have := ti.len; omega)]; exact g2, g3, g4⟩
    ·exact ⟨by omega, B, by rw [← ti.len]; simp, by rw [← ti.len]; exact hmine, hB⟩
   ·rcases hj h with ⟨h, hjl⟩ | ⟨rfl, rfl, rfl⟩
    ·obtain ⟨ds0, h1, h2, _⟩ := addAll h
     rcases Nat.lt_or_ge m i with h4 | h4
     ·exact ti.all j τ ds0 h1 m B' h4 hh
     ·have : m = i := by omega
      subst this
      have := (hti hh).1; have := ti.len; omega
    ·rcases Nat.lt_or_ge m i with h4 | h4
     ·have := (ti.in_ m _ B' h4 hh).2.1; have := ti.len; omega
     ·have : m = i := by omega
      subst this; exact Nat.le_refl _
   ·rcases hj h with ⟨h, hjl⟩ | ⟨rfl, rfl, rfl⟩
    ·exact leanAdd h m o hm ho hE hna
    ·obtain ⟨e, he, hb, e2⟩ := zX hE
     have := hback m o ho e he hb
     omega
   ·rcases hj h with ⟨h, hjl⟩ | ⟨rfl, rfl, rfl⟩
    ·obtain ⟨ds0, _, _, h3, _⟩ := addAll h; exact h3
    ·intro m hm; rw [List.mem_singleton.1 hm]; omega
   ·rcases Nat.lt_or_ge m i with h4 | h4
    ·have := ti.in_ m k B' h4 hh
     exact ⟨this.1, by simp; omega, this.2.2⟩
    ·have : m = i := by omega
     subst this
     obtain ⟨rfl, rfl⟩ := hti hh
     exact ⟨by have := ti.len; omega, by simp, hB⟩
  | @upd d x M k B τ0 ds0 hd hg hqq hM hk hτ hb hds h hx hB =>
   refine ⟨?_, rfl⟩
   dsimp only at *
   have hti : ∀ {k' : Nat} {B' : LB}, tch X i k' B' → k' = k ∧ B' = B := fun h => by have := ht h; simp only [Kd.op.injEq, Option.some.injEq, Prod.mk.injEq] at this; obtain ⟨h1, h2⟩ := this; exact ⟨h1.symm, h2.symm⟩
   have hmine : tch X i k B := ⟨d, x, hX⟩
   have hkl : k - nb < T.length := (List.getElem?_eq_some_iff.1 hτ).1
   have hj : ∀ {j : Nat} {τ : Nat} {ds : List Nat}, ((addT l[i].after.toList i T).set (k - nb) (i, [i]))[j]? = some (τ, ds) → ((addT l[i].after.toList i T)[j]? = some (τ, ds) ∧ nb + j ≠ k) ∨ (nb + j = k ∧ i = τ ∧ [i] = ds) := by
    intro j τ ds h
    rw [List.getElem?_set] at h
    split at h
    ·rename_i e
     rw [if_pos (by rw [qD]; exact hkl)] at h
     injection h with h; injection h with h1 h2
     exact .inr ⟨by omega, h1, h2⟩
    ·rename_i e; exact .inl ⟨h, by omega⟩
   refine ⟨by simp [qD, ti.len], fun k' hk' => ?_, fun j τ ds h => ?_, fun j τ ds h m B' hm hh => ?_, fun j τ ds h m o hm ho hE hna => ?_, fun j τ ds h => ?_, fun m k' B' hm hh => ?_⟩
   ·rw [List.getElem?_set_ne (by omega)]; exact ti.base k' hk'
   ·rcases hj h with ⟨h, hne⟩ | ⟨hjk, rfl, rfl⟩
    ·obtain ⟨ds1, h1, _⟩ := addAll h
     obtain ⟨g1, B0, g2, g3, g4⟩ := ti.last j τ ds1 h1
     exact ⟨by omega, B0, by rw [List.getElem?_set_ne (by omega)]; exact g2, g3, g4⟩
    ·refine ⟨by omega, B, ?_, by rw [hjk]; exact hmine, hB⟩
     rw [hjk, List.getElem?_set_self (by have := ti.len; omega)]
   ·rcases hj h with ⟨h, hne⟩ | ⟨hjk, rfl, rfl⟩
    ·obtain ⟨ds1, h1, h2, _⟩ := addAll h
     rcases Nat.lt_or_ge m i with h4 | h4
     ·exact ti.all j τ ds1 h1 m B' h4 hh
     ·have : m = i := by omega
      subst this
      exact absurd (hti hh).1 hne
    ·rcases Nat.lt_or_ge m i with h4 | h4
     ·omega
     ·omega
   ·rcases hj h with ⟨h, hne⟩ | ⟨hjk, rfl, rfl⟩
    ·exact leanAdd h m o hm ho hE hna
    ·obtain ⟨e, he, hb', e2⟩ := zX hE
     have := hback m o ho e he hb'
     omega
   ·rcases hj h with ⟨h, hne⟩ | ⟨hjk, rfl, rfl⟩
    ·obtain ⟨_, _, _, h3, _⟩ := addAll h; exact h3
    ·intro m hm; rw [List.mem_singleton.1 hm]; omega
   ·rcases Nat.lt_or_ge m i with h4 | h4
    ·have := ti.in_ m k' B' h4 hh
     exact ⟨this.1, by simp; omega, this.2.2⟩
    ·have : m = i := by omega
     subst this
     obtain ⟨rfl, rfl⟩ := hti hh
     exact ⟨hk, by simp; have := ti.len; omega, hB⟩
end
end
section
def drawOk (N : Nat) : Nat → List Nat → List Oper → Bool
 | _, _, [] => true
 | i, ds, o :: r => (match o.dst with
  | some d => Nat.blt d N && !(ds.contains d)
  | none => true) && (o.after.toList.all fun e => !(Region.binds .any e) || Nat.blt e.on i) && drawOk N (i + 1) (o.dst.toList ++ ds) r
theorem Zu {N : Nat} : ∀ {l : List Oper} {i : Nat} {ds : List Nat}, drawOk N i ds l = true → ∀ (k : Nat) (o : Oper), l[k]? = some o →
  (∀ d, o.dst = some d → d < N ∧ d ∉ ds ∧ ∀ (k' : Nat) (o' : Oper), k' < k → l[k']? = some o' → o'.dst ≠ some d) ∧ (∀ e ∈ o.after, Region.binds .any e = true → e.on < i + k)
 | [], _, _, _, k, o, h => by simp at h
 | o0 :: r, i, ds, hk, k, o, h => by
  simp only [drawOk, Bool.and_eq_true] at hk
  obtain ⟨⟨h1, h2⟩, h3⟩ := hk
  cases k with
  | zero =>
   simp at h; subst h
   refine ⟨fun d hd => ?_, fun e he hb => ?_⟩
   ·simp only [hd, Bool.and_eq_true, Bool.not_eq_true'] at h1
    exact ⟨Nat.le_of_ble_eq_true h1.1, (fun hm => by have := h1.2; rw [List.contains_iff_mem.2 hm] at this; cases this), fun k' o' hk' => absurd hk' (Nat.not_lt_zero _)⟩
   ·have := List.all_eq_true.1 h2 e (by simpa using he)
    rw [hb] at this
    have h4 : e.on < i := by simpa using this
    omega
  | succ k =>
   obtain ⟨g1, g2⟩ := Zu h3 k o (by simpa using h)
   refine ⟨fun d hd => ?_, fun e he hb => by have := g2 e he hb; omega⟩
   obtain ⟨q1, q2, q3⟩ := g1 d hd
   refine ⟨q1, fun hm => q2 (List.mem_append_right _ hm), fun k' o' hk' ho' => ?_⟩
   cases k' with
   | zero =>
    simp at ho'; subst ho'
    intro e; exact q2 (List.mem_append_left _ (by simp [e]))
   | succ k' => exact q3 k' o' (by omega) (by simpa using ho')
theorem countP_lt {α : Type} {p q : α → Bool} {l : List α} (h : ∀ x ∈ l, q x = true → p x = true) {z : α} (hz : z ∈ l) (hp : p z = true) (hq : q z = false) : l.countP q < l.countP p := by
 induction l with
 | nil => cases hz
 | cons y r ih =>
  have hle : r.countP q ≤ r.countP p := List.countP_mono_left fun x hx hqx => h x (List.mem_cons_of_mem _ hx) hqx
  rcases List.mem_cons.1 hz with e | hz
  ·subst e
   rw [List.countP_cons_of_pos hp, List.countP_cons_of_neg (by simp [hq])]; omega
  ·have := ih (fun x hx => h x (List.mem_cons_of_mem _ hx)) hz
   by_cases hqy : q y = true
   ·rw [List.countP_cons_of_pos hqy, List.countP_cons_of_pos (h y (List.mem_cons_self ..) hqy)]; omega
   ·rw [List.countP_cons_of_neg hqy]
    by_cases hpy : p y = true
    ·rw [List.countP_cons_of_pos hpy]; omega
    ·rw [List.countP_cons_of_neg hpy]; omega
section
variable {P : Program} {G : Glo} {N : Nat} {C : SL → List LB → Prop} {Sb : SL} {nb : Nat} {l : List Oper} {L0 : List LB} {X : List Rc} {Ws : Nat → DW}
theorem z6 {i : Nat} {r r' : Rc} (h : X[i]? = some r) (h' : X[i]? = some r') : r = r' := by rw [h] at h'; injection h'
structure DInv (o : Oper) (i : Nat) (W : DW) (r : Rc) (W' : DW) : Prop where
 any : r.2.2 = .any → W' = W
 seq : r.2.2 = .seq → W'.sq = true ∧ W.Z.all (hasE o.after.toList) = true
 op : ∀ t, r.2.2 = .op t → W.sq = false ∧ W'.sq = false
 Z : r.2.2 ≠ .any → W'.Z = i :: W.Z
 len : r.2.2 ≠ .seq → W.L.length ≤ W'.L.length
theorem DStep.inv {i : Nat} {o : Oper} {D : SL} {W W' : DW} {r : Rc} (h : DStep P G N Sb nb i o D W r W') : DInv o i W r W' := by
 cases h with
 | any => exact ⟨fun _ => rfl, (fun h => by cases h), (fun t h => by cases h), fun h => absurd rfl h, fun _ => Nat.le_refl _⟩
 | pure _ hq => exact ⟨(fun h => by cases h), (fun h => by cases h), fun t _ => ⟨hq, rfl⟩, fun _ => rfl, fun _ => Nat.le_refl _⟩
 | new _ _ hq => exact ⟨(fun h => by cases h), (fun h => by cases h), fun t _ => ⟨hq, rfl⟩, fun _ => rfl, (fun _ => by simp)⟩
 | upd _ _ hq => exact ⟨(fun h => by cases h), (fun h => by cases h), fun t _ => ⟨hq, rfl⟩, fun _ => rfl, (fun _ => by simp)⟩
 | seqV _ _ hZ => exact ⟨(fun h => by cases h), fun _ => ⟨rfl, hZ⟩, (fun t h => by cases h), fun _ => rfl, fun h => absurd rfl h⟩
 | seqS _ hZ => exact ⟨(fun h => by cases h), fun _ => ⟨rfl, hZ⟩, (fun t h => by cases h), fun _ => rfl, fun h => absurd rfl h⟩
theorem sq_mono (pl : Plan P G N C Sb nb l L0 X Ws) {m : Nat} (hm : isSeq X m) : ∀ i, m < i → i ≤ l.length → (Ws i).sq = true := by
 intro i
 induction i with
 | zero => intro h; omega
 | succ i ih =>
  intro h1 h2
  obtain ⟨⟨d, x, k⟩, hX, hs⟩ := pl.step i l[i] (List.getElem?_eq_getElem (by omega))
  have hv := hs.inv
  rcases Nat.lt_or_ge m i with h3 | h3
  ·have := ih h3 (by omega)
   cases k with
   | any => rw [hv.any rfl]; exact this
   | seq => exact (hv.seq rfl).1
   | op t => have := (hv.op t rfl).1; simp_all
  ·have : m = i := by omega
   subst this
   obtain ⟨d', x', hm⟩ := hm
   have e := z6 hm hX
   injection e with e1 e2; injection e2 with e2 e3; subst e3
   exact (hv.seq rfl).1
theorem any_same (pl : Plan P G N C Sb nb l L0 X Ws) {m : Nat} : ∀ i, m ≤ i → i ≤ l.length → (∀ j, m ≤ j → j < i → isAny X j) → (Ws i).L = (Ws m).L := by
 intro i
 induction i with
 | zero => intro h _ _; rw [show m = 0 by omega]
 | succ i ih =>
  intro h1 h2 h3
  rcases Nat.lt_or_ge i m with h4 | h4
  ·rw [show m = i + 1 by omega]
  ·rw [← ih h4 (by omega) (fun j q1 q2 => h3 j q1 (by omega))]
   obtain ⟨r, hX, hs⟩ := pl.step i l[i] (List.getElem?_eq_getElem (by omega))
   obtain ⟨d, x, ha⟩ := h3 i h4 (by omega)
   have e := z6 ha hX
   subst e
   rw [hs.inv.any rfl]
theorem kind_of (pl : Plan P G N C Sb nb l L0 X Ws) {i : Nat} (hi : i < l.length) : isAny X i ∨ isSeq X i ∨ ∃ d x t, X[i]? = some (d, x, .op t) := by
 obtain ⟨⟨d, x, k⟩, hX, _⟩ := pl.step i l[i] (List.getElem?_eq_getElem hi)
 cases k with
 | any => exact .inl ⟨d, x, hX⟩
 | seq => exact .inr (.inl ⟨d, x, hX⟩)
 | op t => exact .inr (.inr ⟨d, x, t, hX⟩)
theorem z_all (pl : Plan P G N C Sb nb l L0 X Ws) : ∀ i, i ≤ l.length → ∀ m, m < i → ¬ isAny X m → m ∈ (Ws i).Z := by
 intro i
 induction i with
 | zero => intro _ m h; omega
 | succ i ih =>
  intro h1 m h2 h3
  obtain ⟨⟨d, x, k⟩, hX, hs⟩ := pl.step i l[i] (List.getElem?_eq_getElem (by omega))
  have hv := hs.inv
  rcases Nat.lt_or_ge m i with h4 | h4
  ·have := ih (by omega) m h4 h3
   by_cases hk : k = .any
   ·subst hk; rw [hv.any rfl]; exact this
   ·rw [hv.Z hk]; exact List.mem_cons_of_mem _ this
  ·have : m = i := by omega
   subst this
   by_cases hk : k = .any
   ·subst hk; exact absurd ⟨_, _, hX⟩ h3
   ·rw [hv.Z hk]; exact List.mem_cons_self ..
theorem jq (pl : Plan P G N C Sb nb l L0 X Ws) : ∀ i j, i ≤ j → j ≤ l.length → (∀ m, m < j → ¬ isSeq X m) → (Ws i).L.length ≤ (Ws j).L.length := by
 intro i j
 induction j with
 | zero => intro h _ _; rw [show i = 0 by omega]; exact Nat.le_refl _
 | succ j ih =>
  intro h1 h2 h3
  rcases Nat.lt_or_ge j i with h4 | h4
  ·rw [show i = j + 1 by omega]; exact Nat.le_refl _
  ·refine Nat.le_trans (ih h4 (by omega) (fun m hm => h3 m (by omega))) ?_
   obtain ⟨⟨d, x, k⟩, hX, hs⟩ := pl.step j l[j] (List.getElem?_eq_getElem (by omega))
   refine hs.inv.len fun e => h3 j (by omega) ⟨d, x, ?_⟩
   rw [hX]; simp only at e; rw [e]
theorem yG {aft : List Edge} {L : List LB} {T : TL} (h : L.length = nb + T.length) : (mskL aft nb L T).length = L.length := by
 unfold mskL
 rw [List.length_append, List.length_take, mskP_len (by rw [List.length_drop]; omega)]
 omega
theorem mskL_low {aft : List Edge} {L : List LB} {T : TL} {k : Nat} (hk : k < nb) (hl : nb ≤ L.length) : (mskL aft nb L T)[k]? = L[k]? := by
 unfold mskL
 rw [List.getElem?_append_left (by rw [List.length_take]; omega), List.getElem?_take, if_pos hk]
theorem mskL_high {aft : List Edge} {L : List LB} {T : TL} {j : Nat} {x : LB} (hl : nb ≤ L.length) (h : (mskL aft nb L T)[nb + j]? = some x) :
  ∃ y τ ds, L[nb + j]? = some y ∧ T[j]? = some (τ, ds) ∧ x = bif hasE aft τ then y else .dead := by
 unfold mskL at h
 rw [List.getElem?_append_right (by rw [List.length_take]; omega), List.length_take, Nat.min_eq_left hl, Nat.add_sub_cancel_left] at h
 obtain ⟨y, τ, ds, h1, h2, h3⟩ := mskP_get h
 rw [List.getElem?_drop] at h1
 exact ⟨y, τ, ds, h1, h2, h3⟩
def PhOk (X : List Rc) (p : Nat → Prop) (k : Nat) (y : LB) : Prop :=
 (y = .dead ∧ ∀ m B, p m → ¬ tch X m k B) ∨ ∃ i, p i ∧ tch X i k y ∧ ∀ m B, p m → tch X m k B → m ≤ i
theorem St.deads {c : Cx} {L : List LB} (st : St G c L) (np : Nat) : St G c (L ++ List.replicate np .dead) := by
 have hget : ∀ {k : Nat} {x : LB}, (L ++ List.replicate np LB.dead)[k]? = some x → L[k]? = some x ∨ (x = .dead ∧ L.length ≤ k) := by
  intro k x h
  rcases Nat.lt_or_ge k L.length with h1 | h1
  ·rw [List.getElem?_append_left h1] at h; exact .inl h
  ·rw [List.getElem?_append_right h1, List.getElem?_replicate] at h
   split at h
   ·injection h with h; exact .inr ⟨h.symm, h1⟩
   ·cases h
 refine ⟨fun k hk => by have := st.n k hk; simp; omega, fun k x h hne => ?_, st.inF, st.loc, st.inj, fun k x h => ?_, st.glob, st.envd, st.mkd, st.mkE, st.mks, ?_⟩
 ·rcases hget h with h | ⟨h, _⟩
  ·exact st.dm k x h hne
  ·exact absurd h hne
 ·rcases hget h with h | ⟨rfl, h⟩
  ·exact st.blk k x h
  ·simp only [BR]
   cases hφ : c.φ k with
   | none => rfl
   | some b => have := st.n k (st.loc k b hφ).1; omega
 ·rcases st.pin with h | h
  ·exact .inl h
  ·exact .inr (by rw [List.getElem?_append_left (zG h)]; exact h)
theorem seqFirst (X : List Rc) : ∀ n, ∃ q, q ≤ n ∧ (∀ m, m < q → ¬ isSeq X m) ∧ (q = n ∨ isSeq X q) := by
 intro n
 induction n with
 | zero => exact ⟨0, Nat.le_refl _, fun m h => by omega, .inl rfl⟩
 | succ n ih =>
  obtain ⟨q, h1, h2, h3⟩ := ih
  rcases h3 with rfl | h3
  ·by_cases h : isSeq X q
   ·exact ⟨q, by omega, h2, .inr h⟩
   ·exact ⟨q + 1, Nat.le_refl _, fun m hm => by
     rcases Nat.lt_or_ge m q with h4 | h4
     ·exact h2 m h4
     ·rw [show m = q by omega]; exact h, .inl rfl⟩
  ·exact ⟨q, by omega, h2, .inr h3⟩
structure Reg (P : Program) (G : Glo) (N : Nat) (C : SL → List LB → Prop) (Sb : SL) (nb np : Nat) (l : List Oper) (L0 : List LB) (X : List Rc) (Ws : Nat → DW) (q : Nat) : Prop where
 pl : Plan P G N C Sb nb l L0 X Ws
 hnb : nb = L0.length
 back : ∀ (i : Nat) (o : Oper), l[i]? = some o → ∀ e ∈ o.after.toList, Region.binds .any e = true → e.on < i
 hno0 : ∀ (k : Nat) (x : LB), L0[k]? = some x → noidB (low nb) x = true
 ql : q ≤ l.length
 qs : ∀ m, m < q → ¬ isSeq X m
 q1 : q = l.length ∨ isSeq X q
 qlen : (Ws q).L.length = nb + np
variable {np q : Nat}
end
end
section
def turn (t : Option (Nat × LB)) (L : List LB) : List LB := match t with | none => L | some (k, B) => L.set k B
def Turn (t : Option (Nat × LB)) (M M' : List LB) : Prop := ∀ j, M'[j]? = match t with | none => M[j]? | some (k, B) => if j = k then some B else M[j]?
theorem jl {M : List LB} {nb k : Nat} : okid M nb k = true ↔ k < nb ∨ ∃ x, M[k]? = some x ∧ x ≠ .dead := by
 constructor
 ·intro h
  rcases Nat.lt_or_ge k nb with hk | hk
  ·exact .inl hk
  ·refine .inr ?_
   simp only [okid, Bool.or_eq_true] at h
   rcases h with h | h
   ·have := zK h; omega
   ·cases hM : M[k]? with
    | none => rw [hM] at h; cases h
    | some x => rw [hM] at h; exact ⟨x, rfl, fun e => by subst e; cases h⟩
 ·rintro (h | ⟨x, h, hx⟩)
  ·exact ZH h
  ·exact qc h hx
theorem W1 {t : Option (Nat × LB)} {L : List LB} : (turn t L).length = L.length := by
 unfold turn; split <;> simp
section
variable {G : Glo} {c c' : Cx} {M M' L : List LB} {nb : Nat} {t : Option (Nat × LB)}
theorem op_move (st : St G c L) (hnb : nb ≤ M.length) (hle : M.length ≤ L.length) (hm : c.m ≤ nb)
  (agree : ∀ k, okid M nb k = true → M[k]? = L[k]?) (hno : ∀ (k : Nat) (x : LB), M[k]? = some x → noidB (low nb) x = true)
  (hst : Stp G (c.msk M nb) c' M') (hfree : ∀ k, nb ≤ k → L[k]? = some .dead → ¬ c.dom k) (hpm : ∀ (k : Nat) (x : LB), nb ≤ k → M[k]? = some x → x = .dead ∨ plainB nb x = true)
  (hT : Turn t M M') (hlen : M.length ≤ M'.length ∧ M'.length ≤ L.length)
  (ht : ∀ k B, t = some (k, B) → nb ≤ k ∧ k < L.length ∧ plainB nb B = true ∧ (okid M nb k = true ∨ (k = M.length ∧ L[k]? = some .dead))) :
  Stp G c (c.unmsk c' M' nb) (turn t L) ∧ SubX (okid M' nb) c' (c.unmsk c' M' nb) := by
 have hpd : ∀ {B : LB}, plainB nb B = true → B ≠ .dead := fun h e => by rw [e] at h; cases h
 refine unmsk_stp st hnb hle hm agree hno hst hfree ?_ ?_ ?_ hlen.2 (Nat.le_trans hnb hlen.1) W1 ?_ ?_ ?_
 ·intro k hk
  rw [hT k]
  cases t with
  | none => rfl
  | some kB => obtain ⟨k0, B⟩ := kB; simp only; rw [if_neg (by have := (ht k0 B rfl).1; omega)]
 ·intro k hk
  rcases jl.1 hk with h | ⟨x, h, hx⟩
  ·exact .inl (ZH h)
  ·rw [hT k] at h
   cases t with
   | none => exact .inl (qc h hx)
   | some kB =>
    obtain ⟨k0, B⟩ := kB
    simp only at h
    split at h
    ·rename_i e; subst e; exact (ht _ B rfl).2.2.2
    ·exact .inl (qc h hx)
 ·intro k hk
  rcases jl.1 hk with h | ⟨x, h, hx⟩
  ·exact ZH h
  ·have e := hT k
   cases t with
   | none => simp only at e; rw [← e] at h; exact qc h hx
   | some kB =>
    obtain ⟨k0, B⟩ := kB
    simp only at e
    by_cases ek : k = k0
    ·rw [if_pos ek] at e; exact qc e (hpd (ht _ B rfl).2.2.1)
    ·rw [if_neg ek, h] at e; exact qc e hx
 ·intro k hk
  have e := hT k
  cases t with
  | none =>
   simp only at e
   rw [e]
   simp only [turn]
   refine (agree k ?_).symm
   rcases jl.1 hk with h | ⟨x, h, hx⟩
   ·exact ZH h
   ·rw [e] at h; exact qc h hx
  | some kB =>
   obtain ⟨k0, B⟩ := kB
   simp only [turn]
   simp only at e
   rw [e]
   by_cases ek : k = k0
   ·subst ek; rw [if_pos rfl, List.getElem?_set_self (ht _ B rfl).2.1]
   ·rw [if_neg ek, List.getElem?_set_ne (Ne.symm ek)]
    refine (agree k ?_).symm
    rcases jl.1 hk with h | ⟨x, h, hx⟩
    ·exact ZH h
    ·rw [e, if_neg ek] at h; exact qc h hx
 ·intro k hk
  cases t with
  | none => rfl
  | some kB =>
   obtain ⟨k0, B⟩ := kB
   simp only [turn]
   by_cases ek : k = k0
   ·subst ek
    have e := hT k
    simp only [if_true] at e
    rw [qc e (hpd (ht _ B rfl).2.2.1)] at hk; cases hk
   ·rw [List.getElem?_set_ne (Ne.symm ek)]
 ·intro k x hk h
  rw [hT k] at h
  cases t with
  | none => exact hpm k x hk h
  | some kB =>
   obtain ⟨k0, B⟩ := kB
   simp only at h
   split at h
   ·injection h with h; subst h; exact .inr (ht _ _ rfl).2.2.1
   ·exact hpm k x hk h
end
section
variable {P : Program} {G : Glo} {N : Nat} {C : SL → List LB → Prop} {Sb : SL} {nb np q : Nat} {l : List Oper} {L0 : List LB} {X : List Rc} {Ws : Nat → DW}
variable (H : Reg P G N C Sb nb np l L0 X Ws q)
include H
theorem Reg.ti {i : Nat} (hi : i ≤ q) : TI l nb L0 X i (Ws i).L (Ws i).T := (ti_all H.pl H.hnb H.back i (Nat.le_trans hi H.ql) fun m hm => H.qs m (by omega)).1
theorem Reg.op_lt {m d : Nat} {x : AV} {t : Option (Nat × LB)} (h : X[m]? = some (d, x, .op t)) : m < q := by
 have hml : m < l.length := by rw [← H.pl.len]; rcases Nat.lt_or_ge m X.length with h' | h'; exact h'; rw [List.getElem?_eq_none h'] at h; cases h
 rcases Nat.lt_or_ge m q with h1 | h1
 ·exact h1
 ·exfalso
  rcases H.q1 with rfl | hs
  ·omega
  ·rcases Nat.lt_or_ge q m with h2 | h2
   ·have := sq_mono H.pl hs m h2 (by omega)
    obtain ⟨r, hX', hst⟩ := H.pl.step m l[m] (List.getElem?_eq_getElem hml)
    have e := z6 h hX'
    subst e
    have := (hst.inv.op t rfl).1
    simp_all
   ·have : m = q := by omega
    subst this
    obtain ⟨d', x', hs⟩ := hs
    have := z6 hs h; injection this with _ this; injection this with _ this; cases this
theorem Reg.tch_in {m k : Nat} {B : LB} (h : tch X m k B) : m < q ∧ nb ≤ k ∧ k < nb + np ∧ plainB nb B = true := by
 obtain ⟨d, x, hX⟩ := h
 have h1 := H.op_lt hX
 have h2 := (H.ti (Nat.le_refl q)).in_ m k B h1 ⟨d, x, hX⟩
 rw [H.qlen] at h2
 exact ⟨h1, h2⟩
theorem Reg.later {i k : Nat} {p : Nat → Prop} (hpi : ¬ p i) (hcl : ∀ (j : Nat) (o : Oper), l[j]? = some o → p j → ∀ m, hasE o.after.toList m = true → p m)
  (hA : ∀ i', i < i' → i' < q → ∀ τ ds, (Ws i').T[k - nb]? = some (τ, ds) → τ < i → i ∈ ds) (hlow : i < q → k - nb < (Ws i).T.length ∨ ∃ B, tch X i k B) :
  ∀ i' B, i < i' → tch X i' k B → ¬ p i' := by
 intro i'
 induction i' using Nat.strongRecOn with
 | _ i' ih =>
  intro B hlt ht hp
  obtain ⟨hq, hkn, hkl, _⟩ := H.tch_in ht
  have hil : i' < l.length := Nat.lt_of_lt_of_le hq H.ql
  obtain ⟨r, hX, hs⟩ := H.pl.step i' l[i'] (List.getElem?_eq_getElem hil)
  have hti := H.ti (Nat.le_of_lt hq)
  obtain ⟨d, x, hX'⟩ := ht
  have e := z6 hX hX'
  subst e
  generalize hW : Ws i' = W at hs hti
  generalize Ws (i' + 1) = W' at hs
  cases hs with
  | new hd hg hqq hM h hx hB =>
   -- the block is there already
   rcases hlow (by omega) with h1 | ⟨B', h1⟩
   ·have h2 := (H.ti (show i ≤ q by omega)).len
    have h3 := jq H.pl i i' (by omega) (by omega) (fun m hm => H.qs m (by omega))
    rw [hW] at h3
    omega
   ·have h2 := (H.ti (Nat.le_of_lt hq)).in_ i _ B' hlt h1
    rw [hW] at h2
    omega
  | @upd d0 x0 M k0 B0 τ ds hd hg hqq hM hk hτ hb hds h hx hB =>
   have hpτ : p τ := hcl i' _ (List.getElem?_eq_getElem hil) hp τ hb
   obtain ⟨h1, B1, h2, h3, h4⟩ := hti.last _ τ ds hτ
   rw [show nb + (k - nb) = k by omega] at h3
   rcases Nat.lt_trichotomy τ i with h5 | h5 | h5
   ·have h6 := hA i' hlt hq τ ds (by rw [hW]; exact hτ) h5
    exact hpi (hcl i' _ (List.getElem?_eq_getElem hil) hp i (List.all_eq_true.1 hds i h6))
   ·subst h5; exact hpi hpτ
   ·exact ih τ h1 B1 h5 h3 hpτ
end
end
section
section
variable {P : Program} {G : Glo} {N : Nat} {C : SL → List LB → Prop} {Sb : SL} {nb np q : Nat} {l : List Oper} {L0 : List LB} {X : List Rc} {Ws : Nat → DW}
structure PhA (X : List Rc) (nb np : Nat) (L0 : List LB) (p : Nat → Prop) (cx : Cx) (L2 : List LB) : Prop where
 ns : ∀ m, p m → ¬ isSeq X m
 len : L2.length = nb + np
 base : ∀ k, k < nb → L2[k]? = L0[k]?
 ok : ∀ k, nb ≤ k → k < nb + np → ∃ y, L2[k]? = some y ∧ PhOk X p k y
 dom : ∀ k, nb ≤ k → cx.dom k → ∃ m B, p m ∧ tch X m k B
structure PhB (X : List Rc) (Ws : Nat → DW) (p : Nat → Prop) (L2 : List LB) (m : Nat) : Prop where
 s : isSeq X m
 pm : p m
 max : ∀ m', isSeq X m' → p m' → m' ≤ m
 all : ∀ m', m' < m → ¬ isAny X m' → p m'
 L : L2 = (Ws (m + 1)).L
abbrev Ph (X : List Rc) (nb np : Nat) (L0 : List LB) (Ws : Nat → DW) (p : Nat → Prop) (cx : Cx) (L2 : List LB) : Prop := PhA X nb np L0 p cx L2 ∨ ∃ m, PhB X Ws p L2 m
variable (H : Reg P G N C Sb nb np l L0 X Ws q)
include H
theorem Reg.phaseA {i d : Nat} {x : AV} {t : Option (Nat × LB)} (hX : X[i]? = some (d, x, .op t)) {p : Nat → Prop} (hpi : ¬ p i) (hpl : ∀ m, p m → m < l.length)
  {cx : Cx} {L2 : List LB} (hph : Ph X nb np L0 Ws p cx L2) : PhA X nb np L0 p cx L2 := by
 rcases hph with h | ⟨m, h⟩
 ·exact h
 ·exfalso
  have h1 := H.op_lt hX
  have h2 : ¬ m < q := fun h2 => H.qs m h2 h.s
  refine hpi (h.all i (by omega) ?_)
  rintro ⟨d', x', h'⟩
  have := z6 h' hX; injection this with _ this; injection this with _ this; cases this
theorem Reg.noid {i j : Nat} (hj : j < i) (hi : i ≤ q) {r : Rc} (hX : X[j]? = some r) : noid (low (Ws i).L.length) r.2.1 = true := by
 have hq := H.ql
 have hml : ∀ a b, a ≤ b → b ≤ q → (Ws a).L.length ≤ (Ws b).L.length := fun a b h1 h2 => jq H.pl a b h1 (by omega) fun m hm => H.qs m (by omega)
 have hjl : j < l.length := by omega
 obtain ⟨r', hX', hs⟩ := H.pl.step j l[j] (List.getElem?_eq_getElem hjl)
 have e := z6 hX hX'
 subst e
 have h1 := hml (j + 1) i (by omega) hi
 have h0 := hml j i (by omega) hi
 have hti := H.ti (show j ≤ q by omega)
 have hti1 := H.ti (show j + 1 ≤ q by omega)
 have hns : ¬ isSeq X j := H.qs j (by omega)
 generalize hW : Ws j = W at hs hti
 generalize hW' : Ws (j + 1) = W' at hs hti1
 rw [hW'] at h1
 rw [hW] at h0
 have wk : ∀ {M : List LB} {n : Nat} {x : AV}, nb ≤ M.length → M.length ≤ n → Ac.noid (okid M nb) x = true → Ac.noid (low n) x = true :=
  fun h1 h2 h3 => Qx (fun k hk => Zb (by have := JM hk h1; omega)) _ h3
 have hml' : ∀ {aft : List Edge}, (mskL aft nb W.L W.T).length = W.L.length := yG hti.len
 have hl := hti.len
 cases hs with
 | any hd h hx => exact Qx (fun k hk => Zb (by have := zK hk; omega)) _ hx
 | pure hd hqq hM h hx => subst hM; exact wk (by rw [hml']; omega) (by rw [hml']; omega) hx
 | new hd hg hqq hM h hx hB =>
  subst hM
  simp only [List.length_append, List.length_singleton] at h1
  exact wk (by rw [List.length_append, hml']; omega) (by rw [List.length_append, List.length_singleton, hml']; omega) hx
 | upd hd hg hqq hM hk hτ hb hds h hx hB => subst hM; exact wk (by rw [List.length_set, hml']; omega) (by rw [List.length_set, hml']; omega) hx
 | seqV hd hg hZ h => exact absurd ⟨_, _, hX⟩ hns
 | seqS hg hZ h => exact absurd ⟨_, _, hX⟩ hns
theorem Reg.vis {i : Nat} (hi : i ≤ q) {aft : List Edge} {k : Nat} {x : LB} (hk : nb ≤ k) (h : (mskL aft nb (Ws i).L (Ws i).T)[k]? = some x) :
  ∃ τ ds, (Ws i).T[k - nb]? = some (τ, ds) ∧ τ < i ∧ ((hasE aft τ = true ∧ tch X τ k x ∧ plainB nb x = true) ∨ (hasE aft τ = false ∧ x = .dead)) := by
 have hti := H.ti hi
 have hl := hti.len
 rw [show k = nb + (k - nb) by omega] at h
 obtain ⟨y, τ, ds, h1, h2, h3⟩ := mskL_high (by omega) h
 obtain ⟨g1, B, g2, g3, g4⟩ := hti.last _ τ ds h2
 rw [h1] at g2; injection g2 with g2; subst g2
 refine ⟨τ, ds, h2, g1, ?_⟩
 rw [show nb + (k - nb) = k by omega] at g3
 cases hE : hasE aft τ with
 | true => rw [hE] at h3; simp only [cond_true] at h3; subst h3; exact .inl ⟨rfl, g3, g4⟩
 | false => rw [hE] at h3; exact .inr ⟨rfl, h3⟩
theorem Reg.plain {i : Nat} (hi : i ≤ q) {aft : List Edge} {k : Nat} {x : LB} (hk : nb ≤ k) (h : (mskL aft nb (Ws i).L (Ws i).T)[k]? = some x) : x = .dead ∨ plainB nb x = true := by
 obtain ⟨τ, ds, _, _, h | h⟩ := H.vis hi hk h
 ·exact .inr h.2.2
 ·exact .inl h.2
theorem Reg.low {i : Nat} (hi : i ≤ q) {aft : List Edge} {k : Nat} (hk : k < nb) : (mskL aft nb (Ws i).L (Ws i).T)[k]? = L0[k]? := by
 have hti := H.ti hi
 rw [mskL_low hk (by have := hti.len; omega)]
 exact hti.base k hk
theorem Reg.no {i : Nat} (hi : i ≤ q) {aft : List Edge} {k : Nat} {x : LB} (h : (mskL aft nb (Ws i).L (Ws i).T)[k]? = some x) : noidB (Ac.low nb) x = true := by
 rcases Nat.lt_or_ge k nb with hk | hk
 ·rw [H.low hi hk] at h; exact H.hno0 k x h
 ·rcases H.plain hi hk h with rfl | h
  ·rfl
  ·cases x <;> first | rfl | (simp only [plainB, Bool.false_eq_true] at h; done) | (simp only [plainB] at h; simpa only [noidB] using h)
theorem Reg.later_vis {i k : Nat} {o : Oper} (hi : l[i]? = some o) (hna : ¬ isAny X i) (hiq : i < q) {p : Nat → Prop} (hpi : ¬ p i) (hcl : ∀ (j : Nat) (o : Oper), l[j]? = some o → p j → ∀ m, hasE o.after.toList m = true → p m)
    {τ : Nat} {ds : List Nat} (hτ : (Ws i).T[k - nb]? = some (τ, ds)) (hk : nb ≤ k) (hE : hasE o.after.toList τ = true) : ∀ i' B, i < i' → tch X i' k B → ¬ p i' := by
  have hti := H.ti (Nat.le_of_lt hiq)
  obtain ⟨g1, B, g2, g3, g4⟩ := hti.last _ τ ds hτ
  rw [show nb + (k - nb) = k by omega] at g3
  refine H.later hpi hcl (fun i' h1 h2 τ' ds' hτ' h3 => ?_) (fun _ => .inl (lt_of_get' hτ))
  have hti' := H.ti (Nat.le_of_lt h2)
  obtain ⟨f1, B', f2, f3, f4⟩ := hti'.last _ τ' ds' hτ'
  rw [show nb + (k - nb) = k by omega] at f3
  have e1 := hti.all _ τ ds hτ τ' B' h3 (by rw [show nb + (k - nb) = k by omega]; exact f3)
  have e2 := hti'.all _ τ' ds' hτ' τ B (by omega) (by rw [show nb + (k - nb) = k by omega]; exact g3)
  have e3 : τ' = τ := by omega
  subst e3
  exact hti'.lean _ _ ds' hτ' i o h1 hi hE hna
where
  lt_of_get' {α : Type} {L : List α} {k : Nat} {x : α} (h : L[k]? = some x) : k < L.length := by
    rcases Nat.lt_or_ge k L.length with h' | h'
    · exact h'
    · rw [List.getElem?_eq_none h'] at h; cases h
theorem Reg.agree {i : Nat} {o : Oper} (hi : l[i]? = some o) (hna : ¬ isAny X i) (hiq : i < q) {p : Nat → Prop} (hpi : ¬ p i) (hcl : ∀ (j : Nat) (o : Oper), l[j]? = some o → p j → ∀ m, hasE o.after.toList m = true → p m)
  (haft : ∀ m, hasE o.after.toList m = true → p m) {cx : Cx} {L2 : List LB} (hA : PhA X nb np L0 p cx L2) {k : Nat} (hk : okid (mskL o.after.toList nb (Ws i).L (Ws i).T) nb k = true) :
  (mskL o.after.toList nb (Ws i).L (Ws i).T)[k]? = L2[k]? := by
 rcases Nat.lt_or_ge k nb with hkn | hkn
 ·rw [H.low (Nat.le_of_lt hiq) hkn, hA.base k hkn]
 ·rcases jl.1 hk with h | ⟨x, h, hx⟩
  ·omega
  ·rw [h]
   obtain ⟨τ, ds, hτ, h1, ⟨h2, h3, h4⟩ | ⟨_, h2⟩⟩ := H.vis (Nat.le_of_lt hiq) hkn h
   ·obtain ⟨_, _, hkl, _⟩ := H.tch_in h3
    obtain ⟨y, hy, hok⟩ := hA.ok k hkn hkl
    rw [hy]
    rcases hok with ⟨_, hn⟩ | ⟨i', hp', ht', hmax⟩
    ·exact absurd h3 (hn τ x (haft τ h2))
    ·have h5 := hmax τ x (haft τ h2) h3
     have h6 : i' = τ := by
      rcases Nat.lt_trichotomy i' i with h7 | h7 | h7
      ·have := (H.ti (Nat.le_of_lt hiq)).all _ τ ds hτ i' y h7 (by rw [show nb + (k - nb) = k by omega]; exact ht')
       omega
      ·subst h7; exact absurd hp' hpi
      ·exact absurd hp' (H.later_vis hi hna hiq hpi hcl hτ hkn h2 i' y h7 ht')
     subst h6
     rw [(tch_uniq h3 ht').2]
   ·exact absurd h2 hx
theorem Reg.free {p : Nat → Prop} {cx : Cx} {L2 : List LB} (hA : PhA X nb np L0 p cx L2) {k : Nat} (hk : nb ≤ k) (h : L2[k]? = some .dead) : ¬ cx.dom k := by
 intro hd
 obtain ⟨m, B, hp, ht⟩ := hA.dom k hk hd
 obtain ⟨_, _, hkl, _⟩ := H.tch_in ht
 obtain ⟨y, hy, hok⟩ := hA.ok k hk hkl
 rw [h] at hy; injection hy with hy; subst hy
 rcases hok with ⟨_, hn⟩ | ⟨i', _, ht', _⟩
 ·exact hn m B hp ht
 ·have := (H.tch_in ht').2.2.2; cases this
theorem Reg.phL {p : Nat → Prop} {cx : Cx} {L2 : List LB} (hph : Ph X nb np L0 Ws p cx L2) (hpl : ∀ m, p m → m < l.length) {i : Nat} (hi : i ≤ l.length) (hall : ∀ m, m < i → ¬ isAny X m → p m) (hns : ∀ m, isSeq X m → p m → m < i)
  (hend : i = l.length ∨ isSeq X i) : L2 = (Ws i).L := by
 rcases hph with hA | ⟨m, hB⟩
 ·have hiq : i = q := by
   rcases Nat.lt_trichotomy i q with h | h | h
   ·rcases hend with rfl | h'
    ·have := H.ql; omega
    ·exact absurd h' (H.qs i h)
   ·exact h
   ·exfalso
    rcases H.q1 with rfl | hs
    ·omega
    ·refine hA.ns q (hall q h ?_) hs
     rintro ⟨d, x, h1⟩
     obtain ⟨d', x', h2⟩ := hs
     have := z6 h1 h2; injection this with _ this; injection this with _ this; cases this
  subst hiq
  have hti := H.ti (Nat.le_refl i)
  apply List.ext_getElem?
  intro k
  rcases Nat.lt_or_ge k nb with hk | hk
  ·rw [hA.base k hk, hti.base k hk]
  ·rcases Nat.lt_or_ge k (nb + np) with hkl | hkl
   ·obtain ⟨y, hy, hok⟩ := hA.ok k hk hkl
    have hTl : k - nb < (Ws i).T.length := by have := hti.len; have := H.qlen; omega
    obtain ⟨τ, ds, hτ⟩ : ∃ τ ds, (Ws i).T[k - nb]? = some (τ, ds) := ⟨_, _, List.getElem?_eq_getElem hTl⟩
    obtain ⟨g1, B, g2, g3, g4⟩ := hti.last (k - nb) τ ds hτ
    rw [show nb + (k - nb) = k by omega] at g2 g3
    rw [hy, g2]
    have hna : ∀ {m : Nat} {B : LB}, tch X m k B → ¬ isAny X m := by
     rintro m B ⟨d, x, h1⟩ ⟨d', x', h2⟩
     have := z6 h1 h2; injection this with _ this; injection this with _ this; cases this
    have hp := hall τ g1 (hna g3)
    rcases hok with ⟨_, hn⟩ | ⟨i', hp', ht', hmax⟩
    ·exact absurd g3 (hn _ B hp)
    ·have h5 := hmax τ B hp g3
     have h6 := hti.all _ τ ds hτ i' y (H.tch_in ht').1 (by rw [show nb + (k - nb) = k by omega]; exact ht')
     have h7 : i' = τ := by omega
     subst h7
     rw [(tch_uniq g3 ht').2]
   ·rw [List.getElem?_eq_none (by rw [hA.len]; exact hkl), List.getElem?_eq_none (by rw [H.qlen]; exact hkl)]
 ·have h1 := hns m hB.s hB.pm
  rw [hB.L]
  refine (any_same H.pl i (by omega) hi fun j h2 h3 => ?_).symm
  rcases kind_of H.pl (show j < l.length by omega) with h4 | h4 | ⟨d, x, t, h4⟩
  ·exact h4
  ·exfalso
   have hna : ¬ isAny X j := by
    rintro ⟨d, x, h5⟩
    obtain ⟨d', x', h6⟩ := h4
    have := z6 h5 h6; injection this with _ this; injection this with _ this; cases this
   have := hB.max j h4 (hall j h3 hna)
   omega
  ·exfalso
   have h5 := H.op_lt h4
   exact H.qs m (by omega) hB.s
end
end
section
section
variable {P : Program} {G : Glo} {N : Nat} {C : SL → List LB → Prop} {Sb : SL} {nb np q : Nat} {l : List Oper} {L0 : List LB} {X : List Rc} {Ws : Nat → DW}
theorem DStep.dst {i : Nat} {o : Oper} {D : SL} {W W' : DW} {r : Rc} (h : DStep P G N Sb nb i o D W r W') : o.dst = some r.1 ∨ (o.dst = none ∧ r.2.1 = .any) := by
 cases h with
 | any hd => exact .inl hd
 | pure hd => exact .inl hd
 | new hd => exact .inl hd
 | upd hd => exact .inl hd
 | seqV hd => exact .inl hd
 | seqS _ _ h => exact .inr ⟨h.1, rfl⟩
theorem PhA.next {p p' : Nat → Prop} {cx cx' : Cx} {L2 : List LB} {i : Nat} {t : Option (Nat × LB)} (hA : PhA X nb np L0 p cx L2) (hp' : ∀ m, p' m ↔ p m ∨ m = i) (hns : ¬ isSeq X i)
  (ht : ∀ k B, tch X i k B ↔ t = some (k, B)) (hin : ∀ k B, t = some (k, B) → nb ≤ k) (hlate : ∀ k B, t = some (k, B) → ∀ m B', p m → tch X m k B' → m ≤ i) (hst : Stp G cx cx' (turn t L2)) : PhA X nb np L0 p' cx' (turn t L2) := by
 have hget : ∀ k, nb ≤ k → k < nb + np → ∃ y, (turn t L2)[k]? = some y ∧ PhOk X p' k y := by
  intro k hk hkl
  obtain ⟨y, hy, hok⟩ := hA.ok k hk hkl
  by_cases hc : ∃ B, t = some (k, B)
  ·obtain ⟨B, hB⟩ := hc
   subst hB
   refine ⟨B, by simp only [turn]; rw [List.getElem?_set_self (by rw [hA.len]; exact hkl)], .inr ⟨i, (hp' i).2 (.inr rfl), (ht k B).2 rfl, fun m B' hm h => ?_⟩⟩
   rcases (hp' m).1 hm with hm | rfl
   ·exact hlate k B rfl m B' hm h
   ·exact Nat.le_refl _
  ·have hni : ∀ B, ¬ tch X i k B := fun B h => hc ⟨B, (ht k B).1 h⟩
   refine ⟨y, ?_, ?_⟩
   ·cases t with
    | none => exact hy
    | some kB =>
     obtain ⟨k0, B⟩ := kB
     simp only [turn]
     rw [List.getElem?_set_ne (fun e => hc ⟨B, by rw [e]⟩)]; exact hy
   ·rcases hok with ⟨h1, h2⟩ | ⟨i', h1, h2, h3⟩
    ·refine .inl ⟨h1, fun m B hm => ?_⟩
     rcases (hp' m).1 hm with hm | rfl
     ·exact h2 m B hm
     ·exact hni B
    ·refine .inr ⟨i', (hp' i').2 (.inl h1), h2, fun m B hm h => ?_⟩
     rcases (hp' m).1 hm with hm | rfl
     ·exact h3 m B hm h
     ·exact absurd h (hni B)
 refine ⟨fun m hm => ?_, by rw [W1]; exact hA.len, fun k hk => ?_, hget, fun k hk hd => ?_⟩
 ·rcases (hp' m).1 hm with hm | rfl
  ·exact hA.ns m hm
  ·exact hns
 ·cases t with
  | none => exact hA.base k hk
  | some kB =>
   obtain ⟨k0, B⟩ := kB
   simp only [turn]
   rw [List.getElem?_set_ne (by have := hin k0 B rfl; omega)]; exact hA.base k hk
 ·rcases hst.dom k hd with h | ⟨x, h, hx⟩
  ·obtain ⟨m, B, h1, h2⟩ := hA.dom k hk h
   exact ⟨m, B, (hp' m).2 (.inl h1), h2⟩
  ·have hkl : k < nb + np := by rw [← hA.len, ← W1 (t := t)]; exact zG h
   obtain ⟨y, hy, hok⟩ := hget k hk hkl
   rw [h] at hy; injection hy with hy; subst hy
   rcases hok with ⟨h1, _⟩ | ⟨i', h1, h2, _⟩
   ·exact absurd h1 hx
   ·exact ⟨i', _, h1, h2⟩
structure Inv (G : Glo) (N : Nat) (Sb : SL) (nb np : Nat) (l : List Oper) (L0 : List LB) (X : List Rc) (Ws : Nat → DW) (p : Nat → Prop) (cx : Cx) (a : Act) (L2 : List LB) : Prop where
 st : St G cx L2
 m : cx.m ≤ nb
 de : a.defers = cx.mks.map markOf
 sz : a.tmps.size = N
 sb : ∀ t x, get Sb t = some x → R cx x (a.tmps.getD t undef)
 dn : ∀ (j : Nat) (r : Rc), p j → X[j]? = some r → R cx r.2.1 (a.tmps.getD r.1 undef)
 cl : ∀ (j : Nat) (o : Oper), l[j]? = some o → p j → ∀ m, hasE o.after.toList m = true → p m
 pl : ∀ m, p m → m < l.length
 ph : Ph X nb np L0 Ws p cx L2
theorem Inv.cn {p : Nat → Prop} {cx : Cx} {a : Act} {L2 : List LB} (I : Inv G N Sb nb np l L0 X Ws p cx a L2) {aft : Array Edge} {i : Nat} (haft : ∀ m, hasE aft.toList m = true → p m) :
  Cn G N (pvS aft ((X.take i).map fun r => (r.1, r.2.1)) Sb) L2 cx a := by
 refine ⟨I.st, I.de, I.sz, fun t z hz => ?_⟩
 rcases Jv hz with hz | hz
 ·obtain ⟨j, hj, hE⟩ := y6 hz
  rw [Nat.zero_add] at hE
  rw [List.getElem?_map] at hj
  cases hr : (X.take i)[j]? with
  | none => rw [hr] at hj; cases hj
  | some r =>
   rw [hr] at hj
   simp only [Option.map_some, Option.some.injEq, Prod.mk.injEq] at hj
   obtain ⟨rfl, rfl⟩ := hj
   rw [List.getElem?_take] at hr
   split at hr
   ·exact I.dn j r (haft j hE) hr
   ·cases hr
 ·exact I.sb t z hz
variable (H : Reg P G N C Sb nb np l L0 X Ws q)
include H
theorem Reg.runOp {i : Nat} {o : Oper} {d : Nat} {x : AV} {t : Option (Nat × LB)} (hi : l[i]? = some o) (hX : X[i]? = some (d, x, .op t)) {p : Nat → Prop} {cx : Cx} {a : Act} {L2 : List LB}
  (I : Inv G N Sb nb np l L0 X Ws p cx a L2) (hsb : ∀ t x, get Sb t = some x → Ac.noid (Ac.low nb) x = true) (hpi : ¬ p i) (haft : ∀ m, hasE o.after.toList m = true → p m)
  {M' : List LB} (h : PEv P G N o.op o.type (pvS o.after ((X.take i).map fun r => (r.1, r.2.1)) Sb) (mskL o.after.toList nb (Ws i).L (Ws i).T) x M') (hx : Ac.noid (okid M' nb) x = true)
  (hT : Turn t (mskL o.after.toList nb (Ws i).L (Ws i).T) M') (hlen : (Ws i).L.length ≤ M'.length ∧ M'.length ≤ nb + np)
  (ht : ∀ k B, t = some (k, B) → nb ≤ k ∧ k < nb + np ∧ plainB nb B = true ∧ ((∃ τ ds, (Ws i).T[k - nb]? = some (τ, ds) ∧ hasE o.after.toList τ = true) ∨ k = (Ws i).L.length))
  {K : Act → World → Prop} {Q : Exit → Act → World → Prop}
  (hK : ∀ y cx' L2', R cx' x y → Stp G cx cx' L2' → Ph X nb np L0 Ws (fun m => p m ∨ m = i) cx' L2' → K (a.put o.dst y) cx'.w) : o.wpIn (wf G.ro) 0 P a cx.w K Q := by
 have hiq := H.op_lt hX
 have hna : ¬ isAny X i := by
  rintro ⟨d', x', h'⟩
  have := z6 h' hX; injection this with _ this; injection this with _ this; cases this
 have hnsq : ¬ isSeq X i := H.qs i hiq
 have hA := H.phaseA hX hpi I.pl I.ph
 have hti := H.ti (Nat.le_of_lt hiq)
 have hMl : (mskL o.after.toList nb (Ws i).L (Ws i).T).length = (Ws i).L.length := yG hti.len
 have hnb : nb ≤ (mskL o.after.toList nb (Ws i).L (Ws i).T).length := by rw [hMl]; have := hti.len; omega
 have hle : (mskL o.after.toList nb (Ws i).L (Ws i).T).length ≤ L2.length := by
  rw [hMl, hA.len]
  have := jq H.pl i q (Nat.le_of_lt hiq) H.ql (fun m hm => H.qs m hm)
  rw [H.qlen] at this; exact this
 have agree := fun k hk => H.agree hi hna hiq hpi I.cl haft hA (k := k) hk
 have hno := fun k x hk => H.no (Nat.le_of_lt hiq) (aft := o.after.toList) (k := k) (x := x) hk
 have hs0 := msk_sub I.st hnb hle I.m agree hno
 have hc0 := I.cn (i := i) haft
 have hcn : Cn G N (pvS o.after ((X.take i).map fun r => (r.1, r.2.1)) Sb) (mskL o.after.toList nb (Ws i).L (Ws i).T) (cx.msk (mskL o.after.toList nb (Ws i).L (Ws i).T) nb) a := by
  refine ⟨msk_st I.st hnb hle I.m agree hno, I.de, I.sz, fun s z hz => R.mono hs0 _ _ ?_ (hc0.sr s z hz)⟩
  rw [hMl]
  rcases Jv hz with hz | hz
  ·obtain ⟨j, hj, _⟩ := y6 hz
   rw [List.getElem?_map] at hj
   cases hr : (X.take i)[j]? with
   | none => rw [hr] at hj; cases hj
   | some r =>
    rw [hr] at hj
    simp only [Option.map_some, Option.some.injEq, Prod.mk.injEq] at hj
    obtain ⟨rfl, rfl⟩ := hj
    rw [List.getElem?_take] at hr
    split at hr
    ·rename_i hji; exact H.noid hji (Nat.le_of_lt hiq) hr
    ·cases hr
  ·exact Qx (fun k hk => Zb (by have h9 := zK hk; have h8 := hti.len; omega)) _ (hsb s z hz)
 refine h o rfl rfl _ a hcn K Q fun y c' hy hst => ?_
 have hkd : ∀ k B, t = some (k, B) → (∀ m B', p m → tch X m k B' → m ≤ i) ∧ (okid (mskL o.after.toList nb (Ws i).L (Ws i).T) nb k = true ∨ (k = (mskL o.after.toList nb (Ws i).L (Ws i).T).length ∧ L2[k]? = some .dead)) := by
  intro k B hB
  obtain ⟨h1, h2, h3, h4⟩ := ht k B hB
  have hti' : tch X i k B := ⟨d, x, by rw [← hB]; exact hX⟩
  have fin : (∀ i' B, i < i' → tch X i' k B → ¬ p i') → ∀ m B', p m → tch X m k B' → m ≤ i := fun hl m B' hm hh => by
   rcases Nat.lt_or_ge i m with h5 | h5
   ·exact absurd hm (hl m B' h5 hh)
   ·exact h5
  rcases h4 with ⟨τ, ds, hτ, hE⟩ | rfl
  ·refine ⟨fin (H.later_vis hi hna hiq hpi I.cl hτ h1 hE), .inl ?_⟩
   obtain ⟨g1, B', g2, g3, g4⟩ := hti.last _ τ ds hτ
   rw [show nb + (k - nb) = k by omega] at g2 g3
   have hlt : k < (mskL o.after.toList nb (Ws i).L (Ws i).T).length := by rw [hMl]; exact zG g2
   obtain ⟨τ', ds', hτ', _, hv⟩ := H.vis (Nat.le_of_lt hiq) h1 (List.getElem?_eq_getElem hlt)
   rw [hτ] at hτ'; injection hτ' with hτ'; injection hτ' with e1 e2; subst e1 e2
   rcases hv with ⟨_, _, hp⟩ | ⟨hE', _⟩
   ·refine qc (List.getElem?_eq_getElem hlt) fun e => ?_
    rw [e] at hp; cases hp
   ·rw [hE] at hE'; cases hE'
  ·have hl := H.later (k := (Ws i).L.length) hpi I.cl (fun i' h5 h6 τ ds hτ h7 => by
    exfalso
    obtain ⟨g1, B', g2, g3, g4⟩ := (H.ti (Nat.le_of_lt h6)).last _ τ ds hτ
    rw [show nb + ((Ws i).L.length - nb) = (Ws i).L.length by omega] at g3
    have := (hti.in_ τ _ B' h7 g3).2.1
    omega) (fun _ => .inr ⟨B, hti'⟩)
   refine ⟨fin hl, .inr ⟨hMl.symm, ?_⟩⟩
   obtain ⟨y, hy, hok⟩ := hA.ok _ h1 h2
   rw [hy]
   rcases hok with ⟨rfl, _⟩ | ⟨i', f1, f2, _⟩
   ·rfl
   ·exfalso
    rcases Nat.lt_trichotomy i' i with h5 | h5 | h5
    ·have := (hti.in_ i' _ y h5 f2).2.1; omega
    ·subst h5; exact hpi f1
    ·exact hl i' y h5 f2 f1
 obtain ⟨hst2, hs2⟩ := op_move I.st hnb hle I.m agree hno hst (fun k h1 h2 => H.free hA h1 h2) (fun k x h1 h2 => H.plain (Nat.le_of_lt hiq) h1 h2) hT (by rw [hMl, hA.len]; exact hlen)
  (fun k B hB => by obtain ⟨h1, h2, h3, _⟩ := ht k B hB; exact ⟨h1, by rw [hA.len]; exact h2, h3, (hkd k B hB).2⟩)
 have hK' := hK y (cx.unmsk c' (by exact M') nb) (turn t L2) (R.mono hs2 _ _ hx hy) hst2 (.inl ?_)
 ·exact hK'
 refine hA.next (fun m => Iff.rfl) hnsq (fun k B => ⟨fun ⟨d', x', h'⟩ => ?_, fun e => ⟨d, x, by rw [← e]; exact hX⟩⟩) (fun k B e => (ht k B e).1) (fun k B e => (hkd k B e).1) hst2
 have := z6 hX h'
 injection this with _ this; injection this with _ this; injection this
end
end
section
section
variable {P : Program} {G : Glo} {N : Nat} {Q : AQ} {C : SL → List LB → Prop} {S Sb : SL} {nb np q : Nat} {l : List Oper} {L L0 : List LB} {X : List Rc} {Ws : Nat → DW}
theorem turn_none {M : List LB} : Turn none M M := fun _ => rfl
theorem turn_new {M : List LB} {B : LB} {n : Nat} (h : n = M.length) : Turn (some (n, B)) M (M ++ [B]) := by
 subst h
 intro j
 simp only
 split
 ·rename_i e; subst e; simp
 ·rename_i e
  rcases Nat.lt_or_ge j M.length with h | h
  ·rw [List.getElem?_append_left h]
  ·rw [List.getElem?_eq_none (by simp; omega), List.getElem?_eq_none h]
theorem turn_set {M : List LB} {B : LB} {k : Nat} (h : k < M.length) : Turn (some (k, B)) M (M.set k B) := by
 intro j
 simp only
 split
 ·rename_i e; subst e; rw [List.getElem?_set_self h]
 ·rename_i e; rw [List.getElem?_set_ne (Ne.symm e)]
variable (H : Reg P G N C Sb nb np l L0 X Ws q)
include H
theorem Reg.step {i : Nat} {o : Oper} {r : Rc} (hi : l[i]? = some o) (hX : X[i]? = some r) {p : Nat → Prop} {cx : Cx} {a : Act} {L2 : List LB}
  (I : Inv G N Sb nb np l L0 X Ws p cx a L2) (hsb : ∀ t x, get Sb t = some x → Ac.noid (Ac.low nb) x = true) (hpi : ¬ p i) (haft : ∀ m, hasE o.after.toList m = true → p m)
  (hyd : ∀ (j t : Nat) (z : AV) (u : Value), hasE o.after.toList j = true → ((X.take i).map fun r => (r.1, r.2.1))[j]? = some (t, z) → z = .v u → yielded l.toArray a.tmps j = (match u with | .bool b => some b | _ => none))
  {K : Act → World → Prop} {Q : Exit → Act → World → Prop}
  (hK : ∀ y cx' L2', R cx' r.2.1 y → Stp G cx cx' L2' → Ph X nb np L0 Ws (fun m => p m ∨ m = i) cx' L2' → K (a.put o.dst y) cx'.w) :
  if Region.wanted o (yielded l.toArray a.tmps) then o.wpIn (wf G.ro) 0 P a cx.w K Q else (∀ f, o.about P cx.w a.eval = some f → (wf G.ro).fn f) ∧ K (a.put o.dst undef) cx.w := by
 have hil : i < l.length := (List.getElem?_eq_some_iff.1 hi).1
 obtain ⟨r', hX', hs⟩ := H.pl.step i o hi
 have e := z6 hX hX'
 subst e
 have hc0 := I.cn (i := i) haft
 have hstay : ∀ cx' L2', Stp G cx cx' L2' → L2' = L2 → isAny X i → Ph X nb np L0 Ws (fun m => p m ∨ m = i) cx' L2' := by
  rintro cx' L2' hst rfl ⟨d, x, ha⟩
  have e := z6 hX ha
  subst e
  have hns : ¬ isSeq X i := by
   rintro ⟨d', x', h'⟩
   have := z6 h' hX; injection this with _ this; injection this with _ this; cases this
  have hnt : ∀ k B, ¬ tch X i k B := by
   rintro k B ⟨d', x', h'⟩
   have := z6 h' hX; injection this with _ this; injection this with _ this; cases this
  rcases I.ph with hA | ⟨m, hB⟩
  ·exact .inl (hA.next (t := none) (fun m => Iff.rfl) hns (fun k B => ⟨fun h => absurd h (hnt k B), fun h => by cases h⟩) (fun k B h => by cases h) (fun k B h => by cases h) hst)
  ·exact .inr ⟨m, hB.s, .inl hB.pm, fun m' h1 h2 => hB.max m' h1 (h2.resolve_right fun e => hns (e ▸ h1)), fun m' h1 h2 => .inl (hB.all m' h1 h2), hB.L⟩
 -- the guard
 have guard : ∀ {M M' : List LB}, PV P G N o ((X.take i).map fun r => (r.1, r.2.1)) Sb M r.2.1 →
   (PEv P G N o.op o.type (pvS o.after ((X.take i).map fun r => (r.1, r.2.1)) Sb) M r.2.1 M → o.wpIn (wf G.ro) 0 P a cx.w K Q) → (r.2.1 = .v undef → K (a.put o.dst undef) cx.w) →
   if Region.wanted o (yielded l.toArray a.tmps) then o.wpIn (wf G.ro) 0 P a cx.w K Q else (∀ f, o.about P cx.w a.eval = some f → (wf G.ro).fn f) ∧ K (a.put o.dst undef) cx.w := by
  intro M M' hp run skip
  cases hg : o.guard with
  | none =>
   simp only [PV, hg] at hp
   rw [if_pos (by simp [Region.wanted, hg])]
   exact run hp
  | some jw =>
   obtain ⟨j, want⟩ := jw
   simp only [PV, hg] at hp
   obtain ⟨hE, t, z, hD, hz⟩ := hp
   have hyd' := fun u (hu : z = .v u) => hyd j t z u hE hD hu
   rcases hz with ⟨rfl, hp⟩ | ⟨rfl, hx⟩ | ⟨rfl, hx⟩
   ·rw [if_pos (by simp only [Region.wanted, hg, hyd' _ rfl]; simp)]
    exact run hp
   ·rw [if_neg (by simp only [Region.wanted, hg, hyd' _ rfl]; cases want <;> simp)]
    exact ⟨fun _ _ => trivial, skip hx⟩
   ·rw [if_neg (by simp only [Region.wanted, hg, hyd' _ rfl]; simp [undef])]
    exact ⟨fun _ _ => trivial, skip hx⟩
 have nog : o.guard = none → o.wpIn (wf G.ro) 0 P a cx.w K Q →
   if Region.wanted o (yielded l.toArray a.tmps) then o.wpIn (wf G.ro) 0 P a cx.w K Q else (∀ f, o.about P cx.w a.eval = some f → (wf G.ro).fn f) ∧ K (a.put o.dst undef) cx.w := by
  intro hg h
  rw [if_pos (by simp [Region.wanted, hg])]
  exact h
 have tilen : i < q → (mskL o.after.toList nb (Ws i).L (Ws i).T).length = (Ws i).L.length := fun hiq => yG (H.ti (Nat.le_of_lt hiq)).len
 have qle : ∀ j, j ≤ q → (Ws j).L.length ≤ nb + np := fun j hj => by
  have := jq H.pl j q hj H.ql (fun m hm => H.qs m hm)
  rw [H.qlen] at this; exact this
 -- of the last kind
 have last : isSeq X i → (Ws i).Z.all (hasE o.after.toList) = true → L2 = (Ws i).L := by
  intro hsq hZ
  have hin : ∀ m, m < i → ¬ isAny X m → p m := fun m h1 h2 => haft m (List.all_eq_true.1 hZ m (z_all H.pl i (by omega) m h1 h2))
  refine H.phL I.ph I.pl (Nat.le_of_lt hil) hin (fun m h1 h2 => ?_) (.inr hsq)
  rcases I.ph with hA | ⟨m0, hB⟩
  ·exact absurd h1 (hA.ns m h2)
  ·have h3 := hB.max m h1 h2
   rcases Nat.lt_trichotomy m i with h4 | h4 | h4
   ·exact h4
   ·subst h4; exact absurd h2 hpi
   ·exfalso
    refine hpi (hB.all i (by omega) ?_)
    rintro ⟨d, x, h5⟩
    obtain ⟨d', x', h6⟩ := hsq
    have := z6 h5 h6; injection this with _ this; injection this with _ this; cases this
 have lastPh : isSeq X i → (Ws i).Z.all (hasE o.after.toList) = true → ∀ cx' L2', L2' = (Ws (i + 1)).L → Ph X nb np L0 Ws (fun m => p m ∨ m = i) cx' L2' := by
  intro hsq hZ cx' L2' hL
  refine .inr ⟨i, hsq, .inr rfl, fun m' h1 h2 => ?_, fun m' h1 h2 => .inl (haft m' (List.all_eq_true.1 hZ m' (z_all H.pl i (by omega) m' h1 h2))), hL⟩
  rcases h2 with h2 | rfl
  ·rcases I.ph with hA | ⟨m0, hB⟩
   ·exact absurd h1 (hA.ns m' h2)
   ·have h3 := hB.max m' h1 h2
    rcases Nat.lt_or_ge i m0 with h4 | h4
    ·exfalso
     refine hpi (hB.all i h4 ?_)
     rintro ⟨d, x, h5⟩
     obtain ⟨d', x', h6⟩ := hsq
     have := z6 h5 h6; injection this with _ this; injection this with _ this; cases this
    ·omega
  ·exact Nat.le_refl _
 have hqW : Ws i = Ws i := rfl
 generalize hW' : Ws (i + 1) = W' at hs lastPh
 cases hs with
 | @any d x hd h hx =>
  refine guard (M' := L2) (h L2) (fun hp => ?_) (fun hx => ?_)
  ·exact hp o rfl rfl cx a hc0 K Q fun y cx' hy hst => hK y cx' L2 hy hst (hstay cx' L2 hst rfl ⟨_, _, hX⟩)
  ·exact hK undef cx L2 (by simp only at hx; rw [hx]; simp only [R]) (Stp.refl I.st) (hstay cx L2 (Stp.refl I.st) rfl ⟨_, _, hX⟩)
 | @pure d x M hd hqq hM h hx =>
  have hiq := H.op_lt hX
  subst hM
  have hr := fun (hp : PEv P G N o.op o.type (pvS o.after ((X.take i).map fun r => (r.1, r.2.1)) Sb) (mskL o.after.toList nb (Ws i).L (Ws i).T) x (mskL o.after.toList nb (Ws i).L (Ws i).T)) =>
   H.runOp (K := K) (Q := Q) hi hX I hsb hpi haft hp hx turn_none (by rw [tilen hiq]; exact ⟨Nat.le_refl _, qle i (Nat.le_of_lt hiq)⟩) (fun k B h => by cases h) hK
  refine guard (M' := L2) h hr (fun hx => ?_)
  have hA := H.phaseA hX hpi I.pl I.ph
  have hns : ¬ isSeq X i := by
   rintro ⟨d', x', h'⟩
   have := z6 h' hX; injection this with _ this; injection this with _ this; cases this
  have hnt : ∀ k B, ¬ tch X i k B := by
   rintro k B ⟨d', x', h'⟩
   have := z6 h' hX; injection this with _ this; injection this with _ this; cases this
  exact hK undef cx L2 (by simp only at hx; rw [hx]; simp only [R]) (Stp.refl I.st) (.inl (hA.next (t := none) (fun m => Iff.rfl) hns (fun k B => ⟨fun h => absurd h (hnt k B), fun h => by cases h⟩) (fun k B h => by cases h) (fun k B h => by cases h) (Stp.refl I.st)))
 | @new d x M B hd hg hqq hM h hx hB =>
  have hiq := H.op_lt hX
  subst hM
  have hl1 : (Ws i).L.length + 1 ≤ nb + np := by
   have := qle (i + 1) hiq
   rw [hW'] at this
   simpa using this
  refine nog hg (H.runOp hi hX I hsb hpi haft h hx (turn_new (tilen hiq).symm) (by rw [List.length_append, List.length_singleton, tilen hiq]; omega) (fun k B' h => ?_) hK)
  simp only [Option.some.injEq, Prod.mk.injEq] at h
  obtain ⟨rfl, rfl⟩ := h
  have := (H.ti (Nat.le_of_lt hiq)).len
  exact ⟨by omega, by omega, hB, .inr rfl⟩
 | @upd d x M k B τ ds hd hg hqq hM hk hτ hb hds h hx hB =>
  have hiq := H.op_lt hX
  subst hM
  have hti := H.ti (Nat.le_of_lt hiq)
  obtain ⟨g1, B', g2, g3, g4⟩ := hti.last _ τ ds hτ
  rw [show nb + (k - nb) = k by omega] at g2
  have hkl := zG g2
  have hq' := qle i (Nat.le_of_lt hiq)
  refine nog hg (H.runOp hi hX I hsb hpi haft h hx (turn_set (by rw [tilen hiq]; exact hkl)) (by rw [List.length_set, tilen hiq]; exact ⟨Nat.le_refl _, hq'⟩) (fun k' B'' h => ?_) hK)
  simp only [Option.some.injEq, Prod.mk.injEq] at h
  obtain ⟨rfl, rfl⟩ := h
  exact ⟨hk, by omega, hB, .inl ⟨τ, ds, hτ, hb⟩⟩
 | @seqV d x L' hd hg hZ h =>
  have hsq : isSeq X i := ⟨_, _, hX⟩
  have e2 := last hsq hZ
  subst e2
  refine nog hg (h o rfl rfl cx a hc0 K Q fun y cx' hy hst => hK y cx' L' hy hst (lastPh hsq hZ cx' L' rfl))
 | @seqS L' hg hZ h =>
  have hsq : isSeq X i := ⟨_, _, hX⟩
  have e2 := last hsq hZ
  subst e2
  obtain ⟨hdn, hE, hnd⟩ := h
  refine nog hg ?_
  obtain ⟨cx', hr, hst⟩ := hE o rfl rfl cx a hc0
  refine zy hnd ?_
  rw [hr, Oper.uponIn_skip]
  have := hK undef cx' L' (by simp only [R]) hst (lastPh hsq hZ cx' L' rfl)
  rw [hdn] at this
  have e3 : a.put o.dst undef = a.put none undef := by rw [hdn]
  first | exact this | (rw [hdn]; exact this)
omit H
theorem y5 (hk : drawOk N 0 [] l = true) (hS : ∀ t x, get Sb t = some x → get S t = some x)
  (hb : (Sb.all fun p => !(l.any fun o => match o.dst with | some d => Nat.beq d p.1 | none => false)) = true)
  (h : awpD P G N (fun S' L' => Q .normal S' L') Sb L.length l [] ⟨L, [], [], false⟩) : ∀ (cx : Cx) (a : Act), Cn G N S L cx a →
   wpAnyIn (wf G.ro) 0 P .any l.toArray (conc G N Q cx) l.toArray.size (Array.replicate l.toArray.size false) a { cx.w with drawn := cx.w.drawn + 1 } := by
 obtain ⟨X, Ws, e1, _, e3, e4, e5⟩ := awpD_plan h [] rfl
 simp only [List.length_nil, Nat.zero_add] at e1 e3 e4 e5
 have pl : Plan P G N (fun S' L' => Q .normal S' L') Sb L.length l L X Ws := ⟨e1, e3, e4, e5⟩
 have back : ∀ (i : Nat) (o : Oper), l[i]? = some o → ∀ e ∈ o.after.toList, Region.binds .any e = true → e.on < i := fun i o ho e he hb => by
  have := (Zu hk i o ho).2 e (by simpa using he) hb
  omega
 obtain ⟨q, hq, hqs, hq1⟩ := seqFirst X l.length
 have hlenq := (ti_all pl rfl back q hq hqs).1.len
 have hne : ∀ (i j : Nat) (o o' : Oper) (d : Nat), l[i]? = some o → l[j]? = some o' → o.dst = some d → o'.dst = some d → i = j := by
  intro i j o o' d hi hj hd hd'
  rcases Nat.lt_trichotomy i j with hlt | heq | hgt
  ·exact absurd hd (((Zu hk j o' hj).1 d hd').2.2 i o hlt hi)
  ·exact heq
  ·exact absurd hd' (((Zu hk i o hi).1 d hd).2.2 j o' hgt hj)
 have hSb : ∀ t x, get Sb t = some x → ∀ (i : Nat) (o : Oper), l[i]? = some o → o.dst ≠ some t := by
  intro t x ht i o ho e
  have h1 := List.all_eq_true.1 hb (t, x) (get_mem ht)
  simp only [Bool.not_eq_true', List.any_eq_false] at h1
  have := h1 o (List.mem_of_getElem? ho)
  simp [e] at this
 have hXd : ∀ (j : Nat) (r : Rc), X[j]? = some r → ∃ o, l[j]? = some o ∧ (o.dst = some r.1 ∨ (o.dst = none ∧ r.2.1 = .any)) := by
  intro j r hr
  have hjl : j < l.length := by rw [← e1]; rcases Nat.lt_or_ge j X.length with h' | h'; exact h'; rw [List.getElem?_eq_none h'] at hr; cases hr
  obtain ⟨r', hr', hs⟩ := e4 j l[j] (List.getElem?_eq_getElem hjl)
  have e := z6 hr hr'
  subst e
  exact ⟨_, List.getElem?_eq_getElem hjl, hs.dst⟩
 intro cx a hc
 have hno0 : ∀ (k : Nat) (x : LB), L[k]? = some x → noidB (low L.length) x = true := by
  intro k x hx
  cases x with
  | box cs =>
   have := hc.st.blk k _ hx
   simp only [BR] at this
   obtain ⟨_, b, arr, T, _, _, _, h4⟩ := this
   exact wi hc.st.n cs b 0 h4
  | row cs =>
   have := hc.st.blk k _ hx
   simp only [BR] at this
   obtain ⟨_, _, _, b, arr, T, _, _, _, h4⟩ := this
   exact wi hc.st.n cs b 0 h4
  | _ => rfl
 have hsb : ∀ t x, get Sb t = some x → noid (low L.length) x = true := fun t x hx => wR hc.st.n x _ (hc.sr t x (hS t x hx))
 have hqn := jq pl 0 q (Nat.zero_le _) hq (fun m hm => hqs m hm)
 have H : Reg P G N (fun S' L' => Q .normal S' L') Sb L.length ((Ws q).L.length - L.length) l L X Ws q := ⟨pl, rfl, back, hno0, hq, hqs, hq1, by omega⟩
 generalize hnp : (Ws q).L.length - L.length = np at H
 -- any order
 have done : ∀ (listed : Array Bool) (cx0 cx : Cx) (a : Act) (L2 : List LB), listed.size = l.length → Ext cx0 cx → Inv G N Sb L.length np l L X Ws (fun m => listed.getD m false = true) cx a L2 →
   Region.ready .any l.toArray listed = [] → conc G N Q cx0 .normal a cx.w := by
  intro listed cx0 cx a L2 hsz hex I hr
  have all : ∀ i, i < l.length → listed.getD i false = true := by
   intro i
   induction i using Nat.strongRecOn with
   | _ i ih =>
    intro hi
    cases hl : listed.getD i false with
    | true => rfl
    | false =>
     have : i ∈ Region.ready .any l.toArray listed := by
      rw [mem_ready]
      refine ⟨?_, l[i], by simp [hi], fun e he hb => ?_⟩
      ·have hlt : i < listed.size := by omega
       simp only [Array.getD_eq_getD_getElem?, Array.getElem?_eq_getElem hlt, Option.getD_some] at hl ⊢
       exact hl
      ·have := back i _ (List.getElem?_eq_getElem hi) e (by simpa using he) hb
       exact ih e.on this (by omega)
     rw [hr] at this; cases this
  have hL := H.phL I.ph I.pl (Nat.le_refl _) (fun m hm _ => all m hm) (fun m _ hm => I.pl m hm) (.inl rfl)
  subst hL
  refine ⟨_, _, cx, e5, ⟨I.st, I.de, I.sz, fun t x hx => ?_⟩, hex, rfl⟩
  rcases Jv hx with hx | hx
  ·obtain ⟨j, hj⟩ := List.getElem?_of_mem (get_mem hx)
   rw [List.getElem?_map] at hj
   cases hr : X[j]? with
   | none => rw [hr] at hj; cases hj
   | some r =>
    rw [hr] at hj
    simp only [Option.map_some, Option.some.injEq, Prod.mk.injEq] at hj
    obtain ⟨rfl, rfl⟩ := hj
    exact I.dn j r (all j (by rw [← e1]; rcases Nat.lt_or_ge j X.length with h' | h'; exact h'; rw [List.getElem?_eq_none h'] at hr; cases hr)) hr
  ·exact I.sb t x hx
 have key : ∀ (fuel : Nat) (listed : Array Bool) (cx0 cx : Cx) (a : Act) (L2 : List LB), listed.size = l.length → (List.range l.length).countP (fun i => !listed.getD i true) ≤ fuel → Ext cx0 cx →
   Inv G N Sb L.length np l L X Ws (fun m => listed.getD m false = true) cx a L2 → wpAnyIn (wf G.ro) 0 P .any l.toArray (conc G N Q cx0) fuel listed a cx.w := by
  intro fuel
  induction fuel with
  | zero =>
   intro listed cx0 cx a L2 hsz hct hex I
   have hr : Region.ready .any l.toArray listed = [] := by
    cases hq : Region.ready .any l.toArray listed with
    | nil => rfl
    | cons i r =>
     have hi : i ∈ Region.ready .any l.toArray listed := by rw [hq]; exact List.mem_cons_self ..
     rw [mem_ready] at hi
     obtain ⟨h0, o, ho, _⟩ := hi
     have hi' : i < l.length := by have := (Array.getElem?_eq_some_iff.1 ho).1; simpa using this
     have : 0 < (List.range l.length).countP (fun i => !listed.getD i true) := List.countP_pos_iff.2 ⟨i, by simpa using hi', by simp only [h0]; rfl⟩
     omega
   exact ⟨hr, done listed cx0 cx a L2 hsz hex I hr⟩
  | succ fuel ih =>
   intro listed cx0 cx a L2 hsz hct hex I
   refine ⟨done listed cx0 cx a L2 hsz hex I, fun i hi => ?_⟩
   rw [mem_ready] at hi
   obtain ⟨h0, o, ho, haft⟩ := hi
   have ho' : l[i]? = some o := by simpa using ho
   have hil : i < l.length := (List.getElem?_eq_some_iff.1 ho').1
   have hil' : i < listed.size := by omega
   have hpi : ¬ listed.getD i false = true := by
    simp only [Array.getD_eq_getD_getElem?, Array.getElem?_eq_getElem hil', Option.getD_some] at h0 ⊢
    rw [h0]; simp
   have haft' : ∀ m, hasE o.after.toList m = true → listed.getD m false = true := fun m hE => by
    obtain ⟨e, he, hb, rfl⟩ := zX hE
    exact haft e (by simpa using he) hb
   have hset : ∀ m, ((listed.setIfInBounds i true).getD m false = true) = (listed.getD m false = true ∨ m = i) := by
    intro m
    apply propext
    by_cases e : i = m
    ·subst e; simp [hil']
    ·rw [getD_set_ne false e]
     exact ⟨.inl, fun h => h.resolve_right fun e' => e e'.symm⟩
   have hset' : (fun m => (listed.setIfInBounds i true).getD m false = true) = fun m => (listed.getD m false = true ∨ m = i) := funext hset
   obtain ⟨r, hX, hs0⟩ := e4 i o ho'
   -- the step
   have step : ∀ (y : Value) (cx' : Cx) (L2' : List LB), R cx' r.2.1 y → Stp G cx cx' L2' → Ph X L.length np L Ws (fun m => listed.getD m false = true ∨ m = i) cx' L2' →
     wpAnyIn (wf G.ro) 0 P .any l.toArray (conc G N Q cx0) fuel (listed.setIfInBounds i true) (a.put o.dst y) cx'.w := by
    intro y cx' L2' hy hst hph
    have hput : ∀ t, o.dst ≠ some t → (a.put o.dst y).tmps.getD t undef = a.tmps.getD t undef := by
     intro t ht
     cases hd : o.dst with
     | none => rfl
     | some d =>
      have hne' : d ≠ t := fun e => ht (by rw [hd, e])
      simp [Act.put, Array.getD_eq_getD_getElem?, Array.getElem?_setIfInBounds, hne']
    refine ih _ _ _ _ L2' (by simpa using hsz) ?_ (hex.trans hst.ext) ⟨hst.st, by rw [hst.m]; exact I.m, ?_, ?_, fun t x hx => ?_, fun j r' hp hr' => ?_, fun j o' ho' hp m hE => ?_, fun m hm => ?_, by rw [hset']; exact hph⟩
    ·have : (List.range l.length).countP (fun j => !(listed.setIfInBounds i true).getD j true) < (List.range l.length).countP (fun j => !listed.getD j true) := by
      refine countP_lt (z := i) (fun j _ hj => ?_) (by simpa using hil) (by simp only [h0]; rfl) ?_
      ·by_cases e : i = j
       ·subst e; simp [hil'] at hj
       ·rwa [getD_set_ne true e] at hj
      ·simp [hil']
     omega
    ·rw [hst.mks, ← I.de]; cases o.dst <;> simp [Act.put]
    ·rw [← I.sz]; cases o.dst <;> simp [Act.put]
    ·rw [hput t (hSb t x hx i o ho')]
     exact R.mono hst.sub _ _ (Zh x) (I.sb t x hx)
    ·rcases (hset j).mp hp with hp | rfl
     ·obtain ⟨o2, ho2, h2⟩ := hXd j r' hr'
      rcases h2 with h2 | ⟨_, h2⟩
      ·rw [hput r'.1 (fun e => hpi (by rw [hne i j o o2 r'.1 ho' ho2 e h2]; exact hp))]
       exact R.mono hst.sub _ _ (Zh _) (I.dn j r' hp hr')
      ·rw [h2]; simp only [R]
     ·have e := z6 hX hr'
      subst e
      rcases hs0.dst with h2 | ⟨_, h2⟩
      ·have hdl : r.1 < a.tmps.size := by rw [I.sz]; exact ((Zu hk _ o ho').1 _ h2).1
       rw [h2]
       simpa [Act.put, Array.getD_eq_getD_getElem?, Array.getElem?_setIfInBounds, hdl] using hy
      ·rw [h2]; simp only [R]
    ·rw [hset] at hp
     rw [hset]
     rcases hp with hp | rfl
     ·exact .inl (I.cl j o' ho' hp m hE)
     ·have : o' = o := by rename_i ho2; exact Option.some.inj (ho2.symm.trans ho')
      subst this
      exact .inl (haft' m hE)
    ·rw [hset] at hm
     rcases hm with hm | rfl
     ·exact I.pl m hm
     ·exact hil
   unfold wpOpIn
   simp only [ho]
   refine H.step ho' hX I hsb hpi haft' (fun j t z u hE hD hu => ?_) step
   subst hu
   rw [List.getElem?_map] at hD
   cases hr : (X.take i)[j]? with
   | none => rw [hr] at hD; cases hD
   | some r' =>
    rw [hr] at hD
    simp only [Option.map_some, Option.some.injEq, Prod.mk.injEq] at hD
    obtain ⟨rfl, hz⟩ := hD
    rw [List.getElem?_take] at hr
    split at hr
    ·have hv := I.dn j r' (haft' j hE) hr
     rw [hz] at hv
     simp only [R] at hv
     obtain ⟨o2, ho2, h2⟩ := hXd j r' hr
     rcases h2 with h2 | ⟨_, h2⟩
     ·have htl : r'.1 < a.tmps.size := by rw [I.sz]; exact ((Zu hk j o2 ho2).1 _ h2).1
      rw [Array.getD_eq_getD_getElem?, Array.getElem?_eq_getElem htl, Option.getD_some] at hv
      simp only [yielded]
      rw [show ((l.toArray)[j]?).bind (·.dst) = some r'.1 by simp [ho2, h2]]
      simp only [Option.bind_some, Array.getElem?_eq_getElem htl, hv]
      cases u <;> rfl
     ·rw [h2] at hz; cases hz
    ·cases hr
 let cxd : Cx := { cx with w := { cx.w with drawn := cx.w.drawn + 1 } }
 have hsd : SubX allp cx cxd := ⟨fun _ h => h, fun _ _ => rfl, fun _ h _ => h, fun _ _ _ => Nat.le_refl _, fun _ _ _ _ => rfl, fun _ _ _ _ => rfl, fun _ _ _ _ => rfl, fun _ _ arr _ _ _ _ _ h => ⟨arr, h, rfl⟩⟩
 have hcd : Calm cx cxd := ⟨rfl, rfl, rfl, Nat.le_refl _, fun _ _ _ => rfl, fun _ h => .inl h, fun _ h => .inl h⟩
 have std : St G cxd L := hc.st.calm hcd hsd hc.st.n hc.st.dm rfl rfl rfl hc.st.inF hc.st.loc hc.st.inj (fun k x h => BR.mono hsd hcd rfl ⟨rfl, rfl, rfl, rfl⟩ (zM x) (fun _ _ => rfl) (hc.st.blk k x h)) (hc.st.pin.imp (fun h => h) fun h h' => h)
 have hnl : ∀ m, ¬ (Array.replicate l.toArray.size false).getD m false = true := by
  intro m h
  simp only [Array.getD_eq_getD_getElem?, Array.getElem?_replicate] at h
  split at h <;> simp at h
 refine key _ _ cx cxd a (L ++ List.replicate np .dead) (by simp) ?_ (hcd.ext rfl rfl rfl hsd.all) ⟨std.deads np, ?_, hc.de, hc.sz, fun t x hx => R.mono hsd _ _ (Zh x) (hc.sr t x (hS t x hx)), fun j r hj => absurd hj (hnl j), fun j o _ hj => absurd hj (hnl j), fun m hm => absurd hm (hnl m), .inl ?_⟩
 ·exact Nat.le_trans List.countP_le_length (by simp)
 ·rcases hc.st.pin with h | h
  ·show cx.m ≤ _; omega
  ·have := zG h; show cx.m ≤ _; omega
 ·refine ⟨fun m hm => absurd hm (hnl m), by simp, fun k hk => by rw [List.getElem?_append_left hk], fun k hk hkl => ⟨.dead, ?_, .inl ⟨rfl, fun m B hm => absurd hm (hnl m)⟩⟩, fun k hk hd => ?_⟩
  ·rw [List.getElem?_append_right hk, List.getElem?_replicate, if_pos (by omega)]
  ·have := hc.st.n k hd; omega
theorem awp_draw0 {id : Nat} (hm : P.follows .mixedOrders = true) (hk : drawOk N 0 [] l = true) (hS : ∀ t x, get Sb t = some x → get S t = some x)
  (hb : (Sb.all fun p => !(l.any fun o => match o.dst with | some d => Nat.beq d p.1 | none => false)) = true)
  (h : awpD P G N (fun S' L' => Q .normal S' L') Sb L.length l [] ⟨L, [], [], false⟩) : awp P G N (.region id l.toArray true) Q S L :=
 fun cx a hc => wpIn_region_any hm (y5 hk hS hb h cx a hc)
end
end
section
def afill (place : Nat → Option (Nat × Nat)) : List AV → List (Nat × AV) → Option (List AV)
 | cs, [] => some cs
 | cs, (i, x) :: r => match place i with
  | none => none
  | some (off, size) => bif fit x && Nat.beq (cellsOf x).length size && Nat.ble (off + size) cs.length then afill place (cs.take off ++ cellsOf x ++ cs.drop (off + size)) r else none
def partsV (G : Glo) (S : SL) : List (Nat × Operand) → Option (List (Nat × AV))
 | [] => some []
 | (i, o) :: r => match val G S o, partsV G S r with
  | some x, some xs => some ((i, x) :: xs)
  | _, _ => none
theorem LR.mk {c : Cx} : ∀ {cs : List AV} {ys : List Value}, ys.length = cs.length → (∀ (i : Nat) (x : AV), cs[i]? = some x → ∃ y, ys[i]? = some y ∧ R c x y ∧ y.oneCell' = true) → LR c cs ys
 | [], ys, hl, _ => by simp only [LR]; exact List.eq_nil_of_length_eq_zero (by simpa using hl)
 | x :: r, [], hl, _ => by simp at hl
 | x :: r, y :: s, hl, h => by
  simp only [LR]
  obtain ⟨y', h1, h2, h3⟩ := h 0 x rfl
  simp at h1; subst h1
  exact ⟨_, s, rfl, h2, h3, LR.mk (by simpa using hl) fun i z hi => by have := h (i + 1) z (by simpa using hi); simpa using this⟩
theorem splice_LR {c : Cx} {cs : List AV} {arr : Array Value} {vs : List AV} {v : Value} {off : Nat} (h : LR c cs arr.toList) (hv : LR c vs v.cells.toList) (hle : off + vs.length ≤ cs.length) :
  LR c (cs.take off ++ vs ++ cs.drop (off + vs.length)) ((v.cells.zipIdx.foldl (fun cs (c, j) => cs.setIfInBounds (off + j) c) arr)).toList := by
 have hl := h.length
 have hvl := hv.length
 have h1 := Great.foldl_set off v.cells.toList 0 arr
 have e : (v.cells.zipIdx.foldl (fun cs (c, j) => cs.setIfInBounds (off + j) c) arr) = (v.cells.toList.zipIdx 0).foldl (fun cs (x : Value × Nat) => cs.setIfInBounds (off + x.2) x.1) arr := by
  rw [← Array.foldl_toList, Array.toList_zipIdx]
 rw [e]
 obtain ⟨h2, h3⟩ := h1
 refine LR.mk ?_ fun i x hi => ?_
 ·simp only [Array.length_toList, h2]; simp only [List.length_append, List.length_take, List.length_drop]; simp at hl; omega
 ·simp only [Array.getElem?_toList]
  rw [h3]
  simp only [Array.length_toList] at hl hvl
  have hl2 : (cs.take off).length = off := by rw [List.length_take]; omega
  by_cases c1 : i < off
  ·rw [if_neg (by omega)]
   rw [List.append_assoc, List.getElem?_append_left (by omega), List.getElem?_take, if_pos c1] at hi
   obtain ⟨y, q1, q2⟩ := h.get hi
   exact ⟨y, by simpa using q1, q2⟩
  ·by_cases c2 : i < off + vs.length
   ·rw [if_pos ⟨by omega, by simp; omega, by omega⟩]
    rw [List.append_assoc, List.getElem?_append_right (by omega), hl2, List.getElem?_append_left (by omega)] at hi
    obtain ⟨y, q1, q2⟩ := hv.get hi
    exact ⟨y, by simpa using q1, q2⟩
   ·rw [if_neg (by simp; omega)]
    rw [List.getElem?_append_right (by simp; omega), List.getElem?_drop] at hi
    have : off + vs.length + (i - (cs.take off ++ vs).length) = i := by simp; omega
    rw [this] at hi
    obtain ⟨y, q1, q2⟩ := h.get hi
    exact ⟨y, by simpa using q1, q2⟩
section
variable {P : Program} {td : TDs} [T : TOK P td] {G : Glo} {N : Nat} {Q : AQ} {S S' : SL} {L : List LB}
 {op : Op} {ty : TypeId} {x : AV}
theorem WM {cx : Cx} {a : Act} (hc : Cn G N S L cx a) {place : Nat → Option (Nat × Nat)} : ∀ {ps : List (Nat × Operand)} {xs : List (Nat × AV)} {cs cs' : List AV} {arr : Array Value},
  partsV G S ps = some xs → afill place cs xs = some cs' → LR cx cs arr.toList → ∃ arr', Instr.fill place arr (ps.map fun (i, o) => (i, a.eval o)) = some arr' ∧ LR cx cs' arr'.toList
 | [], xs, cs, cs', arr, hp, hf, h => by
  simp only [partsV, Option.some.injEq] at hp; subst hp
  simp only [afill, Option.some.injEq] at hf; subst hf
  exact ⟨arr, rfl, h⟩
 | (i, o) :: r, xs, cs, cs', arr, hp, hf, h => by
  simp only [partsV] at hp
  split at hp
  ·rename_i x xs' hx hxs
   injection hp with hp; subst hp
   simp only [afill] at hf
   split at hf
   ·cases hf
   ·rename_i off size hpl
    cases hb : (fit x && Nat.beq (cellsOf x).length size && Nat.ble (off + size) cs.length) with
    | false => rw [hb] at hf; cases hf
    | true =>
     rw [hb] at hf
     simp only [cond_true] at hf
     simp only [Bool.and_eq_true] at hb
     have hsz := Nat.eq_of_beq_eq_true hb.1.2
     have hle := Nat.le_of_ble_eq_true hb.2
     subst hsz
     have hv := WN (zn hc hx) (j3 hb.1.1)
     have hvl := hv.length
     have hl := h.length
     simp only [Array.length_toList] at hvl hl
     obtain ⟨arr', h1, h2⟩ := WM hc hxs hf (splice_LR h hv hle)
     refine ⟨arr', ?_, h2⟩
     simp only [List.map_cons]
     unfold Instr.fill
     simp only [hpl]
     rw [if_neg (by simp; omega)]
     exact h1
  ·cases hp
theorem Wv {cx : Cx} : ∀ {zs : List Value}, zs.all (·.oneCell') = true → LR cx (zs.map .v) zs
 | [], _ => by simp only [List.map_nil, LR]
 | z :: r, h => by
  simp only [List.all_cons, Bool.and_eq_true] at h
  simp only [List.map_cons, LR]
  exact ⟨z, r, rfl, by simp only [R], h.1, Wv h.2⟩
def placesOf (td : TDs) : List (TypeId × Nat) → Option (List (Nat × Nat))
 | [] => some []
 | (t, off) :: r => match lk td t, placesOf td r with
  | some d, some ps => some ((off, d.size) :: ps)
  | _, _ => none
theorem Wc (P : Program) {td : TDs} [TOK P td] : ∀ {fs : List Field} {ps : List (Nat × Nat)}, placesOf td (fs.map fun f => (f.type, f.offset)) = some ps →
  fs.mapM (fun f => (P.info? f.type).map fun i => (f.offset, i.size)) = some ps
 | [], ps, h => by simp only [List.map_nil, placesOf, Option.some.injEq] at h; subst h; rfl
 | f :: r, ps, h => by
  simp only [List.map_cons, placesOf] at h
  split at h
  ·rename_i d ps' h1 h2
   injection h with h; subst h
   obtain ⟨i, u, z, q1, q2, q3, q4, q5, q6, q7⟩ := zA (P := P) h1
   rw [List.mapM_cons, Wc P h2]
   simp [q1, q5]
  ·cases h
theorem zU {t : Nat} {d : TD} {ps : Array (Nat × Operand)} {fs : List (TypeId × Nat)} {pl : List (Nat × Nat)} {xs : List (Nat × AV)} {cs : List AV} (ht : lk td t = some d) (hs : d.k = .struct fs) (hpl : placesOf td fs = some pl)
  (hz : d.zero.all (·.oneCell') = true) (hx : partsV G S ps.toList = some xs) (hf : afill (pl[·]?) (d.zero.map .v) xs = some cs) : Ev P G N (.build t ps) ty S L (.lag cs) := by
 intro o ho _ cx a hc
 obtain ⟨i, u, z, h1, h2, h3, h4, h5, h6, h7⟩ := zA (P := P) ht
 rw [hs] at h4
 cases u <;> simp only [tk, reduceCtorEq, TK.struct.injEq] at h4
 rename_i fields
 subst h4
 obtain ⟨arr, g1, g2⟩ := WM hc (arr := z.cells) hx hf (by rw [h7]; exact Wv hz)
 refine ⟨.agg arr, ?_, by simp only [R]; exact ⟨arr, rfl, g2⟩⟩
 have hb : P.built t ((ps.map fun (i, x) => (i, a.eval x))).toList = some arr := by
  unfold Program.built
  simp only [h1, h2, h3, Wc P hpl]
  simpa using g1
 simp only [execOp, ho, Sem.run_bind, run_build cx.w t _ arr hb, Result.andThen_ok, Sem.run_pure]
theorem qC {t : Nat} {d : TD} {ps : Array (Nat × Operand)} {fs : List (TypeId × Nat)} {pl : List (Nat × Nat)} {xs : List (Nat × AV)} {cs : List AV} (ht : lk td t = some d) (hs : d.k = .struct fs) (hpl : placesOf td fs = some pl)
  (hz : d.zero.all (·.oneCell') = true) (hx : partsV G S ps.toList = some xs) (hf : afill (pl[·]?) (d.zero.map .v) xs = some cs) (hF : cs.all isF = true) : Ev P G N (.build t ps) ty S L (.agg cs) := by
 intro o ho h0 cx a hc
 obtain ⟨y, h1, h2⟩ := zU (P := P) ht hs hpl hz hx hf o ho h0 cx a hc
 refine ⟨y, h1, ?_⟩
 simp only [R, RF] at h2 ⊢
 obtain ⟨xs, e, h2⟩ := h2
 exact ⟨xs, e, Qe hF h2⟩
def zerosA (z : List Value) : Nat → List AV
 | 0 => []
 | n + 1 => z.map .v ++ zerosA z n
def chunks (sz : Nat) : Nat → List AV → List (List AV)
 | 0, _ => []
 | n + 1, cs => cs.take sz :: chunks sz n (cs.drop sz)
theorem qr {sz : Nat} : ∀ {n : Nat} {cs : List AV}, (chunks sz n cs).length = n
 | 0, _ => rfl
 | n + 1, cs => by simp [chunks, qr]
theorem wU {F : Nat → Prop} {w : World} {sz : Nat} : ∀ {n : Nat} {cs : List AV} {ys : List Value}, LF F w cs ys → cs.length = n * sz → EL F w sz (chunks sz n cs) ys
 | 0, cs, ys, h, hl => by
  have : cs = [] := List.eq_nil_of_length_eq_zero (by simpa using hl)
  subst this
  simpa only [chunks, EL, LF] using h
 | n + 1, cs, ys, h, hl => by
  simp only [chunks, EL]
  have key : ∀ (k : Nat) {cs : List AV} {ys : List Value}, LF F w cs ys → LF F w (cs.take k) (ys.take k) ∧ LF F w (cs.drop k) (ys.drop k) := by
   intro k
   induction k with
   | zero => intro cs ys h; exact ⟨by simp only [List.take_zero, LF], by simpa using h⟩
   | succ k ih =>
    intro cs ys h
    cases cs with
    | nil => simp only [LF] at h; subst h; simp only [List.take_nil, List.drop_nil, LF]; exact ⟨trivial, trivial⟩
    | cons x r =>
     simp only [LF] at h
     obtain ⟨y, s, rfl, hx, h1, h⟩ := h
     obtain ⟨q1, q2⟩ := ih h
     simp only [List.take_succ_cons, List.drop_succ_cons, LF]
     exact ⟨⟨y, _, rfl, hx, h1, q1⟩, q2⟩
  have hs : sz ≤ cs.length := by rw [hl, Nat.add_mul]; omega
  exact ⟨ys.take sz, ys.drop sz, (List.take_append_drop ..).symm, by rw [List.length_take]; omega, (key sz h).1, wU (key sz h).2 (by rw [List.length_drop, hl, Nat.add_mul]; omega)⟩
theorem made_eq (z : Array Value) (n : Nat) (hz : 0 < z.size) : ((Array.range (n * z.size)).map (z[· % z.size]!)).toList = (List.replicate n z.toList).flatten := by
 induction n with
 | zero => simp
 | succ n ih =>
  rw [List.replicate_succ', List.flatten_append, ← ih]
  apply List.ext_getElem?
  intro i
  simp only [Array.toList_map, Array.toList_range, List.getElem?_map, List.flatten_cons, List.flatten_nil, List.append_nil]
  rcases Nat.lt_or_ge i (n * z.size) with h | h
  ·rw [List.getElem?_append_left (by simpa using h)]
   simp only [List.getElem?_map]
   rw [List.getElem?_range (by rw [Nat.add_mul]; omega), List.getElem?_range h]
  ·rw [List.getElem?_append_right (by simpa using h)]
   simp only [List.length_map, List.length_range]
   rcases Nat.lt_or_ge i ((n + 1) * z.size) with h2 | h2
   ·have h3 : i - n * z.size < z.size := by rw [Nat.add_mul] at h2; omega
    rw [List.getElem?_range h2]
    have e : i % z.size = i - n * z.size := by
     have hcm : n * z.size = z.size * n := Nat.mul_comm ..
     have hi : i = (i - n * z.size) + z.size * n := by omega
     have : ((i - n * z.size) + z.size * n) % z.size = i - n * z.size := by rw [Nat.add_mul_mod_self_left, Nat.mod_eq_of_lt h3]
     rw [← hi] at this; exact this
    simp only [Option.map_some, e, Array.getElem?_toList, Array.getElem?_eq_getElem h3]
    rw [getElem!_pos z _ h3]
   ·rw [List.getElem?_eq_none (by simpa using h2), List.getElem?_eq_none (by simp; rw [Nat.add_mul] at h2; omega)]
    rfl
theorem zeros_LR {cx : Cx} {zs : List Value} (hz : zs.all (·.oneCell') = true) : ∀ n, LR cx (zerosA zs n) (List.replicate n zs).flatten
 | 0 => by simp [zerosA, LR]
 | n + 1 => by
  rw [List.replicate_succ, List.flatten_cons]
  simp only [zerosA]
  have app : ∀ {cs ds : List AV} {ys ws : List Value}, LR cx cs ys → LR cx ds ws → LR cx (cs ++ ds) (ys ++ ws) := by
   intro cs
   induction cs with
   | nil => intro ds ys ws h g; simp only [LR] at h; subst h; simpa using g
   | cons x r ih =>
    intro ds ys ws h g
    simp only [LR] at h
    obtain ⟨y, s, rfl, hx, h1, h⟩ := h
    simp only [List.cons_append, LR]
    exact ⟨y, s ++ ws, rfl, hx, h1, ih h g⟩
  exact app (Wv hz) (zeros_LR hz n)
theorem Jf {zs : List Value} : ∀ n, (zerosA zs n).length = n * zs.length
 | 0 => by simp [zerosA]
 | n + 1 => by simp [zerosA, Jf n, Nat.add_mul]; omega
theorem QN {t e n : Nat} {d ed : TD} {ps : Array (Nat × Operand)} {xs : List (Nat × AV)} {cs : List AV} (ht : lk td t = some d) (hs : d.k = .slice e) (he : lk td e = some ed) (hz : ed.zero.all (·.oneCell') = true) (hzl : Nat.beq ed.zero.length ed.size = true)
  (hpos : Nat.blt 0 ed.size = true) (hx : partsV G S ps.toList = some xs) (hf : afill (fun i => some (i * ed.size, ed.size)) (zerosA ed.zero n) xs = some cs) (hsmall : Nat.ble (n * ed.size) 16777216 = true)
  {cx : Cx} {a : Act} (hc : Cn G N S L cx a) :
  ∃ arr : Array Value, (Instr.buildSlice t n (ps.map fun (i, x) => (i, a.eval x))).run P cx.w = .ok (.slice (some ⟨cx.w.heap.size, 0, none⟩) n n) (cx.w.alloc (.cells arr e)) ∧ LR cx cs arr.toList ∧ arr.size = n * ed.size := by
 obtain ⟨i, u, z, h1, h2, h3, h4, h5, h6, h7⟩ := zA (P := P) he
 have hsd := zH (P := P) ht hs
 have hzl' := Nat.eq_of_beq_eq_true hzl
 have hzs : z.cells.size = ed.size := by rw [← hzl', ← h7]; simp
 have hpos' : 0 < ed.size := Nat.le_of_ble_eq_true hpos
 have hsm := Nat.le_of_ble_eq_true hsmall
 have hlen : ∀ {xs : List (Nat × AV)} {cs cs' : List AV}, afill (fun i => some (i * ed.size, ed.size)) cs xs = some cs' → cs'.length = cs.length := by
  intro xs
  induction xs with
  | nil => intro cs cs' h; simp only [afill, Option.some.injEq] at h; rw [h]
  | cons p r ih =>
   intro cs cs' h
   obtain ⟨i, x⟩ := p
   simp only [afill] at h
   cases hb : (fit x && Nat.beq (cellsOf x).length ed.size && Nat.ble (i * ed.size + ed.size) cs.length) with
   | false => rw [hb] at h; cases h
   | true =>
    rw [hb] at h
    simp only [Bool.and_eq_true] at hb
    have g1 := Nat.eq_of_beq_eq_true hb.1.2
    have g2 := Nat.le_of_ble_eq_true hb.2
    rw [ih h]; simp; omega
 have hcl := hlen hf
 rw [Jf, hzl'] at hcl
 by_cases hn : n = 0
 ·subst hn
  obtain ⟨arr, q1, q2⟩ := WM hc (arr := #[]) hx hf (by simp [zerosA, LR])
  have hal := q2.length
  simp only [Array.length_toList] at hal
  refine ⟨arr, ?_, q2, by omega⟩
  have q1' : Instr.fill (fun i => some (i * ed.size, ed.size)) #[] (ps.map fun (i, x) => (i, a.eval x)).toList = some arr := by simpa using q1
  simp only [Instr.buildSlice, Sem.run_bind, run_underlying hsd, sizeOf, typeInfo, run_program, h1, Result.andThen_ok, Sem.run_pure, h5, Nat.zero_mul]
  simp only [Nat.not_lt_zero, gt_iff_lt, if_false, if_true, Sem.run_pure, Result.andThen_ok, Sem.run_bind]
  simp at q1'
  simp [q1', newRow, Array.range_zero']
 ·have hpn : 0 < n * ed.size := Nat.mul_pos (by omega) hpos'
  obtain ⟨arr, q1, q2⟩ := WM hc (arr := ((Array.range (n * z.cells.size)).map (z.cells[· % z.cells.size]!))) hx hf (by rw [made_eq _ _ (by omega), h7]; exact zeros_LR hz n)
  have hal := q2.length
  simp only [Array.length_toList] at hal
  refine ⟨arr, ?_, q2, by omega⟩
  refine run_buildSlice cx.w t e n _ arr i z hsd h1 h3 (by rw [h5]; omega) (by rw [h5]; omega) ?_
  rw [h5]
  rw [hzs] at q1
  simpa [hzs] using q1
theorem Wl {t e n : Nat} {d ed : TD} {ps : Array (Nat × Operand)} {xs : List (Nat × AV)} {cs : List AV} {es : List (List AV)} (ht : lk td t = some d) (hs : d.k = .slice e) (he : lk td e = some ed) (hz : ed.zero.all (·.oneCell') = true)
  (hzl : Nat.beq ed.zero.length ed.size = true) (hpos : Nat.blt 0 ed.size = true) (hx : partsV G S ps.toList = some xs) (hf : afill (fun i => some (i * ed.size, ed.size)) (zerosA ed.zero n) xs = some cs) (hsmall : Nat.ble (n * ed.size) 16777216 = true)
  (hF : cs.all isF = true) (hes : chunks ed.size n cs = es) : Ev2 P G N (.buildSlice t n ps) ty S L (.fs ed.size n es) L := by
 subst hes
 intro o ho _ cx a hc
 obtain ⟨arr, h1, h2, h3⟩ := QN (P := P) ht hs he hz hzl hpos hx hf hsmall hc
 have A := Alloc.alloc cx.w (.cells arr e)
 have hs' := SubX.newF hc.st A
 have hl := h2.length
 simp only [Array.length_toList] at hl
 refine ⟨.slice (some ⟨cx.w.heap.size, 0, none⟩) n n, cx.newF (cx.w.alloc (.cells arr e)), ?_, ?_, hc.st.newF A⟩
 ·simp only [execOp, ho, Sem.run_bind, h1, Result.andThen_ok, Sem.run_pure]; rfl
 ·simp only [R, RF]
  refine ⟨qr, some ⟨cx.w.heap.size, 0, none⟩, n, rfl, Nat.le_refl _, fun _ => ⟨cx.w.heap.size, 0, rfl, .inr rfl, ?_⟩⟩
  have := wU (n := n) (sz := ed.size) (Qe hF h2) (by omega)
  refine EF.of (EL.mono hs'.F hs'.heap this) (ZG A.new fun j v hj => by simpa using hj)
theorem ZM {t e n k : Nat} {d ed : TD} {ps : Array (Nat × Operand)} {xs : List (Nat × AV)} {cs : List AV} {es : List (List AV)} {L' : List LB} (ht : lk td t = some d) (hs : d.k = .slice e) (he : lk td e = some ed) (hz : ed.zero.all (·.oneCell') = true)
  (hzl : Nat.beq ed.zero.length ed.size = true) (hpos : Nat.blt 0 ed.size = true) (hx : partsV G S ps.toList = some xs) (hf : afill (fun i => some (i * ed.size, ed.size)) (zerosA ed.zero n) xs = some cs) (hsmall : Nat.ble (n * ed.size) 16777216 = true)
  (hF : cs.all isF = true) (hes : chunks ed.size n cs = es) (hk : L.length = k) (hL : L ++ [.own 0 e ed.size es] = L') : Ev2 P G N (.buildSlice t n ps) ty S L (.os k 0) L' := by
 subst hes hk hL
 intro o ho _ cx a hc
 obtain ⟨arr, h1, h2, h3⟩ := QN (P := P) ht hs he hz hzl hpos hx hf hsmall hc
 have A := Alloc.alloc cx.w (.cells arr e)
 have hs' := SubX.new hc.st A ed.size n
 have hl := h2.length
 simp only [Array.length_toList] at hl
 have hn : n ≤ maxLen := by
  have h4 := Nat.le_of_ble_eq_true hsmall
  have h5 : 0 < ed.size := Nat.le_of_ble_eq_true hpos
  have : n * 1 ≤ n * ed.size := Nat.mul_le_mul_left _ h5
  simp only [maxLen]; omega
 have hb : BR G (cx.new L.length (cx.w.alloc (.cells arr e)) ed.size n) L.length (.own 0 e ed.size (chunks ed.size n cs)) := by
  simp only [BR, Cx.new, if_true]
  refine ⟨trivial, trivial, qr.symm, .inr ⟨_, arr, rfl, A.new, by rw [qr]; omega, ?_⟩⟩
  have := wU (n := n) (sz := ed.size) (Qe hF h2) (by omega)
  exact EF.of (EL.mono hs'.F hs'.heap this) (ZG A.new fun j v hj => by simpa using hj)
 refine ⟨.slice (some ⟨cx.w.heap.size, 0, none⟩) n n, cx.new L.length (cx.w.alloc (.cells arr e)) ed.size n, ?_, ?_, hc.st.new A ed.size n hb⟩
 ·simp only [execOp, ho, Sem.run_bind, h1, Result.andThen_ok, Sem.run_pure]; rfl
 ·simp only [R, OS, Cx.new, if_true]
  exact ⟨.inr trivial, Nat.le_refl _, rfl, fun _ => .inr ⟨_, n, arr, e, rfl, rfl, A.new, Nat.le_refl _, hn, h3⟩⟩
theorem ev_make {t e k : Nat} {d ed : TD} {u q : Operand} {n : Int} {es : List (List AV)} {L' : List LB} (ht : lk td t = some d) (hs : d.k = .slice e) (he : lk td e = some ed) (hz : ed.zero.all (·.oneCell') = true)
  (hzl : Nat.beq ed.zero.length ed.size = true) (hpos : Nat.blt 0 ed.size = true) (hu : val G S u = some (.v (.int .i64 n))) (hq : val G S q = some (.v (.int .i64 n))) (hn : 0 ≤ n ∧ ed.bytes * n ≤ 281474976710656 ∧ n ≤ 9223372036854775807)
  (hes : List.replicate n.toNat (ed.zero.map .v) = es) (hk : L.length = k) (hL : L ++ [.own 0 e ed.size es] = L') : Ev2 P G N (.makeSlice t u q) ty S L (.os k 0) L' := by
 subst hes hk hL
 intro o ho _ cx a hc
 obtain ⟨i, ud, z, h1, h2, h3, h4, h5, h6, h7⟩ := zA (P := P) he
 have hsd := zH (P := P) ht hs
 have hzl' := Nat.eq_of_beq_eq_true hzl
 have hzs : z.cells.size = ed.size := by rw [← hzl', ← h7]; simp
 have hpos' : 0 < ed.size := Nat.le_of_ble_eq_true hpos
 have e1 := zn hc hu
 have e2 := zn hc hq
 simp only [R] at e1 e2
 have hr := run_make (P := P) cx.w t e i z hsd h1 h3 .i64 .i64 n n hn.1 (Int.le_refl _) (by rw [h6]; exact hn.2.1) hn.2.2
 have hm : (madeCells z.cells (n.toNat * i.size)).toList = (List.replicate n.toNat ed.zero).flatten := by
  have := made_eq z.cells n.toNat (by omega)
  rw [h7, hzs] at this
  rw [h5, ← this]; simp [madeCells, hzs]
 generalize madeCells z.cells (n.toNat * i.size) = arr at hr hm
 have A := Alloc.alloc cx.w (.cells arr e)
 have hs' := SubX.new hc.st A ed.size n.toNat
 have hal : arr.size = n.toNat * ed.size := by
  have := congrArg List.length hm
  simpa [List.length_flatten, hzl'] using this
 have hEL : ∀ m, EL cx.F cx.w ed.size (List.replicate m (ed.zero.map .v)) (List.replicate m ed.zero).flatten := by
  intro m
  induction m with
  | zero => simp [EL]
  | succ m ih =>
   simp only [List.replicate_succ, List.flatten_cons, EL]
   exact ⟨ed.zero, _, rfl, by simpa using hzl', Qe (c := cx) (by simp [isF]) (Wv hz), ih⟩
 have hb : BR G (cx.new L.length (cx.w.alloc (.cells arr e)) ed.size n.toNat) L.length (.own 0 e ed.size (List.replicate n.toNat (ed.zero.map .v))) := by
  simp only [BR, Cx.new, if_true]
  refine ⟨trivial, trivial, by simp, .inr ⟨_, arr, rfl, A.new, by simp [hal], ?_⟩⟩
  refine EF.of (EL.mono hs'.F hs'.heap (hEL n.toNat)) (ZG A.new fun j v hj => ?_)
  rw [← hm] at hj
  simpa using hj
 refine ⟨.slice (some ⟨cx.w.heap.size, 0, none⟩) n.toNat n.toNat, cx.new L.length (cx.w.alloc (.cells arr e)) ed.size n.toNat, ?_, ?_, hc.st.new A ed.size n.toNat hb⟩
 ·simp only [execOp, ho, e1, e2, Sem.run_bind, hr, Result.andThen_ok, Sem.run_pure]; rfl
 ·simp only [R, OS, Cx.new, if_true]
  exact ⟨.inr trivial, Nat.le_refl _, rfl, fun _ => .inr ⟨_, n.toNat, arr, e, rfl, rfl, A.new, Nat.le_refl _, by simp only [maxLen]; omega, hal⟩⟩
def loV (G : Glo) (S : SL) : Option Operand → Option Int
 | none => some 0
 | some o => match val G S o with
  | some (.v (.int _ n)) => some n
  | _ => none
def hiV (G : Glo) (S : SL) (n : Nat) : Option Operand → Option Int
 | none => some n
 | some o => match val G S o with
  | some (.v (.int _ m)) => some m
  | _ => none
theorem Ya {cx : Cx} {a : Act} (hc : Cn G N S L cx a) {lo hi : Option Operand} {l h : Int} {n cap : Nat} {b : Bool} (hl : loV G S lo = some l) (hh : hiV G S n hi = some h) (hb : 0 ≤ l ∧ l ≤ h ∧ h ≤ n) (hcap : n ≤ cap) (hsb : b = false → cap = n) :
  (Instr.sliceBounds b n cap (lo.map a.eval) (hi.map a.eval) none).run P cx.w = .ok (l.toNat, h.toNat, cap) cx.w := by
 have e2 : ∀ o, hi = some o → ∃ k, a.eval o = .int k h := by
  intro o ho
  subst ho
  simp only [hiV] at hh
  split at hh
  ·rename_i k m hv
   injection hh with hh; subst hh
   have := zn hc hv
   simp only [R] at this
   exact ⟨k, this⟩
  ·cases hh
 have e1 : ∀ o, lo = some o → ∃ k, a.eval o = .int k l := by
  intro o ho
  subst ho
  simp only [loV] at hl
  split at hl
  ·rename_i k m hv
   injection hl with hl; subst hl
   have := zn hc hv
   simp only [R] at this
   exact ⟨k, this⟩
  ·cases hl
 have hh0 : (h.toNat : Int) = h := Int.toNat_of_nonneg (by omega)
 cases hi with
 | none =>
  simp only [hiV, Option.some.injEq] at hh; subst hh
  cases lo with
  | none => simp only [loV, Option.some.injEq] at hl; subst hl; simp [Instr.sliceBounds]
  | some o =>
   obtain ⟨k, e⟩ := e1 o rfl
   simp [Instr.sliceBounds, e]
   rw [run_sliceBound _ _ _ _ _ hb.1 (by omega)]; rfl
 | some o2 =>
  obtain ⟨k2, e2⟩ := e2 o2 rfl
  cases lo with
  | none =>
   simp only [loV, Option.some.injEq] at hl; subst hl
   simp [Instr.sliceBounds, e2]
   rw [run_sliceBound _ _ _ _ _ (by omega) (by omega)]; rfl
  | some o =>
   obtain ⟨k, e⟩ := e1 o rfl
   simp [Instr.sliceBounds, e, e2]
   rw [run_sliceBound _ _ _ _ _ (by omega) (by omega)]
   simp only [Result.andThen_ok]
   rw [run_sliceBound _ _ _ _ _ hb.1 (by omega)]; rfl
theorem zw {t e : Nat} {d ed : TD} {u : Operand} {lo hi : Option Operand} {l h : Int} {sz n m : Nat} {es fs : List (List AV)} (hu : val G S u = some (.fs sz n es)) (ht : lk td t = some d) (hs : d.k = .slice e) (he : lk td e = some ed) (hsz : ed.size = sz)
  (hl : loV G S lo = some l) (hh : hiV G S n hi = some h) (hb : 0 ≤ l ∧ l ≤ h ∧ h ≤ n) (hm : (h - l).toNat = m) (hfs : (es.drop l.toNat).take m = fs) : Ev P G N (.slice t u lo hi none) ty S L (.fs sz m fs) := by
 subst hm hfs
 intro o ho _ cx a hc
 have e1 := zn hc hu
 simp only [R, RF] at e1
 obtain ⟨hlen, ad, cap, e1, hcap, hmem⟩ := e1
 have hsd := zH (P := P) ht hs
 have hbr := Ya (P := P) (b := true) (cap := cap) hc hl hh hb hcap (fun h => by cases h)
 have hlh : h.toNat - l.toNat = (h - l).toNat := by omega
 refine ⟨.slice (if cap = l.toNat then ad else ad.map (·.add (l.toNat * ed.size))) (h - l).toNat (cap - l.toNat), ?_, ?_⟩
 ·simp only [execOp, ho, e1, Option.map_none, Instr.sliceAt, Instr.slice, Sem.run_bind, run_underlying hsd, Result.andThen_ok, hbr, run_sizeOf' (P := P) he, Sem.run_pure, hlh]
 ·simp only [R, RF]
  refine ⟨by rw [List.length_take, List.length_drop, hlen]; omega, _, _, rfl, by omega, fun hne => ?_⟩
  obtain ⟨b, off, rfl, hF, hE⟩ := hmem (by omega)
  rw [if_neg (by omega)]
  exact ⟨b, off + l.toNat * sz, by simp [Addr.add_mid, hsz], hF, (hE.drop l.toNat).take _⟩
theorem zD {t : Nat} {d : TD} {u : Operand} {lo hi : Option Operand} {l h : Int} {s s' : ByteArray} (hu : val G S u = some (.v (.string s))) (ht : lk td t = some d) (hs : d.k = .str)
  (hl : loV G S lo = some l) (hh : hiV G S s.size hi = some h) (hb : 0 ≤ l ∧ l ≤ h ∧ h ≤ s.size) (hs' : s.extract l.toNat h.toNat = s') : Ev P G N (.slice t u lo hi none) ty S L (.v (.string s')) := by
 subst hs'
 intro o ho _ cx a hc
 have e1 := zn hc hu
 simp only [R] at e1
 have hsd := Qs (P := P) ht hs
 have hbr := Ya (P := P) (b := false) (cap := s.size) hc hl hh hb (Nat.le_refl _) (fun _ => rfl)
 refine ⟨.string (s.extract l.toNat h.toNat), ?_, by simp only [R]⟩
 simp only [execOp, ho, e1, Option.map_none, Instr.sliceAt, Instr.slice, Sem.run_bind, run_underlying hsd, Result.andThen_ok, Option.isSome_none, Bool.false_eq_true, if_false, hbr, Sem.run_pure]
end
end
section
def bytesA (s : ByteArray) : List (List AV) := s.data.toList.map fun b => [.v (.int .u8 b.toNat)]
theorem bytesA_length (s : ByteArray) : (bytesA s).length = s.size := by unfold bytesA; rw [List.length_map, Array.length_toList]; rfl
theorem run_stb {P : Program} (w : World) (e : TypeId) (s : ByteArray) : ∃ (w' : World) (arr : Array Value) (cap : Nat) (fr : Nat × Nat), (Conv.stringToBytes e s).run P w = .ok (.slice (some ⟨w.heap.size, 0, none⟩) s.size cap) w' ∧ Alloc w w' (.cells arr e fr) ∧ s.size ≤ cap ∧
  ∀ (j : Nat) (v : Value), (s.data.toList.map fun b => Value.int .u8 b.toNat)[j]? = some v → arr[j]? = some v := by
 let cap := (Question.appendCap s.size 0 e).cut (w.tape w.drawn (.appendCap s.size 0 e))
 let arr : Array Value := (s.data.map fun b => Value.int .u8 b.toNat) ++ Array.replicate (cap - s.size) (.int .u8 0)
 have hge : s.size ≤ cap := by simp [cap, Question.cut]
 refine ⟨(w.drew.alloc (.cells arr e)).freeze ⟨w.heap.size, arr.size, none⟩ 1, arr, cap, (arr.size, arr.size + 1), ?_, ?_, hge, ?_⟩
 ·have hsh : (w.drew.alloc (.cells arr e)).shape? w.heap.size = some (e, arr.size) := by
   have := (Alloc.drew w (.cells arr e)).new
   simp only [World.shape?, this]
  simp only [Conv.stringToBytes, Sem.run_bind, run_choose, Question.forced, Bool.false_eq_true, if_false, Result.andThen_ok, newRow, run_newObj, Sem.run_pure, World.drew_eq, World.alloc_eq, markStringish, run_shape]
  show ((match (w.drew.alloc (.cells arr e)).shape? w.heap.size with | some (_, n) => freeze { block := w.heap.size, off := n } 1 | _ => pure ()).run P (w.drew.alloc (.cells arr e))).andThen _ = _
  rw [hsh]
  simp only [run_freeze, Result.andThen_ok, cap]
  rfl
 ·have A := Alloc.drew w (.cells arr e)
  refine ⟨rfl, rfl, rfl, ?_, ?_, ?_⟩
  ·simp [World.freeze, A.size]
  ·simp only [World.freeze, Nat.one_ne_zero, if_false, Array.getElem?_modify, if_true]
   rw [A.new]; simp
  ·intro b hb
   simp only [World.freeze, Nat.one_ne_zero, if_false, Array.getElem?_modify]
   rw [if_neg (by omega)]
   exact A.old b hb
 ·intro j v hj
  have hlt : j < s.data.size := by
   rcases Nat.lt_or_ge j s.data.size with h | h
   ·exact h
   ·rw [List.getElem?_eq_none (by simpa using h)] at hj; cases hj
  simp only [arr]
  rw [Array.getElem?_append_left (by simpa using hlt)]
  simpa using hj
section
variable {P : Program} {td : TDs} [T : TOK P td] {G : Glo} {N : Nat} {Q : AQ} {S S' : SL} {L : List LB}
 {op : Op} {ty : TypeId} {x : AV}
theorem yQ {t : Nat} {k : IntKind} {d : TD} (ht : lk td t = some d) (hs : d.k = .int k) : P.underlying t = some (.int k) := by
 obtain ⟨i, u, z, h1, h2, h3, h4, h5, h6, h7⟩ := zA (P := P) ht
 rw [hs] at h4
 cases u <;> simp only [tk, reduceCtorEq, TK.int.injEq] at h4
 simpa [h4] using h2
theorem ev_stb {t1 t2 e : Nat} {d1 d2 ed : TD} {u : Operand} {s : ByteArray} (h : val G S u = some (.v (.string s))) (h1 : lk td t1 = some d1) (k1 : d1.k = .str) (h2 : lk td t2 = some d2) (k2 : d2.k = .slice e) (he : lk td e = some ed) (ke : ed.k = .int .u8) :
  Ev2 P G N (.convert t1 t2 u) ty S L (.fs 1 s.size (bytesA s)) L := by
 intro o ho _ cx a hc
 have e1 := zn hc h
 simp only [R] at e1
 obtain ⟨w', arr, cap, fr, hr, A, hcap, hget⟩ := run_stb (P := P) cx.w e s
 have hs' := SubX.newF hc.st A
 refine ⟨.slice (some ⟨cx.w.heap.size, 0, none⟩) s.size cap, cx.newF w', ?_, ?_, hc.st.newF A⟩
 ·have q1 := Qs (P := P) h1 k1
  have q2 := zH (P := P) h2 k2
  have q3 := yQ (P := P) he ke
  simp only [execOp, ho, e1, convert, Sem.run_bind, run_underlying q1, run_underlying q2, run_underlying q3, Result.andThen_ok, hr, Sem.run_pure]; rfl
 ·simp only [R, RF]
  refine ⟨bytesA_length s, _, cap, rfl, hcap, fun _ => ⟨cx.w.heap.size, 0, rfl, .inr rfl, ?_⟩⟩
  have hEL : EL (cx.newF w').F w' 1 (bytesA s) (s.data.toList.map fun b => Value.int .u8 b.toNat) := by
   simp only [bytesA]
   induction s.data.toList with
   | nil => simp [EL]
   | cons b r ih =>
    simp only [List.map_cons, EL]
    exact ⟨[_], _, rfl, rfl, by simp only [LF]; exact ⟨_, [], rfl, by simp only [RF], rfl, rfl⟩, ih⟩
  exact EF.of hEL (ZG A.new fun j v hj => by rw [Nat.zero_add]; exact hget j v hj)
theorem zj {t1 t2 : Nat} {d1 d2 : TD} {u : Operand} {n : Int} {k k2 : IntKind} {m : Int} (h : val G S u = some (.v (.int k n))) (h1 : lk td t1 = some d1) (h2 : lk td t2 = some d2) (k2' : d2.k = .int k2) (hm : k2.wrap n = m) :
  Ev P G N (.convert t1 t2 u) ty S L (.v (.int k2 m)) := by
 subst hm
 intro o ho _ cx a hc
 have e1 := zn hc h
 simp only [R] at e1
 obtain ⟨i, ud, z, g1, g2, g3, g4, g5, g6, g7⟩ := zA (P := P) h1
 have q2 := yQ (P := P) h2 k2'
 refine ⟨.int k2 (k2.wrap n), ?_, by simp only [R]⟩
 simp only [execOp, ho, e1, convert, Sem.run_bind, run_underlying g2, run_underlying q2, Result.andThen_ok]
 cases ud <;> simp [Conv.intToInt]
def EqT (P : Program) (t : TypeId) (f : List Value → List Value → Option Bool) : Prop :=
 ∀ (xs ys : List Value) (b : Bool) (w : World), f xs ys = some b → (Op.equalIn 10000 t (.agg xs.toArray) (.agg ys.toArray)).run P w = .ok b w
def scalL : List AV → Option (List Value)
 | [] => some []
 | .v x :: r => match scalL r with
  | some xs => some (x :: xs)
  | none => none
 | _ :: _ => none
theorem JI {F : Nat → Prop} {w : World} : ∀ {cs : List AV} {xs ys : List Value}, scalL cs = some xs → LF F w cs ys → ys = xs
 | [], xs, ys, h, g => by simp only [scalL, Option.some.injEq] at h; subst h; simpa only [LF] using g
 | .v x :: r, xs, ys, h, g => by
  simp only [scalL] at h
  split at h
  ·rename_i xs' hx
   injection h with h; subst h
   simp only [LF, RF] at g
   obtain ⟨y, s, rfl, rfl, _, g⟩ := g
   rw [JI hx g]
  ·cases h
 | .any :: r, _, _, h, _ => by simp [scalL] at h
 | .fs _ _ _ :: r, _, _, h, _ => by simp [scalL] at h
 | .fz :: r, _, _, h, _ => by simp [scalL] at h
 | .fp _ :: r, _, _, h, _ => by simp [scalL] at h
 | .lp _ _ :: r, _, _, h, _ => by simp [scalL] at h
 | .ep _ _ _ _ :: r, _, _, h, _ => by simp [scalL] at h
 | .fm _ _ :: r, _, _, h, _ => by simp [scalL] at h
 | .os _ _ :: r, _, _, h, _ => by simp [scalL] at h
 | .mp _ :: r, _, _, h, _ => by simp [scalL] at h
 | .agg _ :: r, _, _, h, _ => by simp [scalL] at h
 | .lag _ :: r, _, _, h, _ => by simp [scalL] at h
 | .tup _ :: r, _, _, h, _ => by simp [scalL] at h
 | .fn _ _ _ :: r, _, _, h, _ => by simp [scalL] at h
 | .ifc _ _ :: r, _, _, h, _ => by simp [scalL] at h
theorem ZB {t yt : Nat} {u q : Operand} {cs ds : List AV} {xs ys : List Value} {f : List Value → List Value → Option Bool} {b : Bool} {neg : Bool} (hE : EqT P t f) (hg : P.eqGuardType P.depth t = false)
  (hu : val G S u = some (.agg cs)) (hq : val G S q = some (.agg ds)) (hx : scalL cs = some xs) (hy : scalL ds = some ys) (hf : f xs ys = some b) :
  Ev P G N (.binOp (bif neg then .neq else .eql) t u q yt) ty S L (.v (.bool (bif neg then !b else b))) := by
 intro o ho _ cx a hc
 have e1 := zn hc hu
 have e2 := zn hc hq
 simp only [R, RF] at e1 e2
 obtain ⟨xa, e1, l1⟩ := e1
 obtain ⟨ya, e2, l2⟩ := e2
 have g1 := JI hx l1
 have g2 := JI hy l2
 have hr := hE xs ys b cx.w hf
 have hxa : xa = xs.toArray := by apply Array.ext'; simpa using g1
 have hya : ya = ys.toArray := by apply Array.ext'; simpa using g2
 subst hxa hya
 refine ⟨.bool (bif neg then !b else b), ?_, by simp only [R]⟩
 cases neg
 ·simp only [cond_false] at ho ⊢
  simp only [execOp, ho, e1, e2, Sem.run_bind, run_eqGuard_agg (P := P) cx.w .eql t u q _ _ hg, Result.andThen_ok, run_eql_struct, hr, Sem.run_pure]
 ·simp only [cond_true] at ho ⊢
  simp only [execOp, ho, e1, e2, Sem.run_bind, run_eqGuard_agg (P := P) cx.w .neq t u q _ _ hg, Result.andThen_ok, run_neq_struct, hr, Sem.run_pure]
end
end
section
abbrev vi (n : Int) : AV := .v (.int .i64 n)
abbrev vb (b : Bool) : AV := .v (.bool b)
abbrev vs (s : ByteArray) : AV := .v (.string s)
section
variable {P : Program} {G : Glo} {N : Nat} {Q : AQ} {S Sb D : SL} {L : List LB} {ops : Array Oper} {rest : List Oper}
 {op : Op} {ty : TypeId} {pos : String} {af : Array Edge} {d : Nat} {x : AV}
theorem Q2 {j t : Nat} {b : Bool} (hj : (ops.toList[j]?).bind (·.dst) = some t) (hg : get S t = some (.v (.bool b))) (ht : Nat.blt t N = true) (hd : Nat.blt d N = true) (hb : b = false)
  (k : awpL P G N ops rest Q ((d, .v undef) :: S) L) : awpL P G N ops (⟨some d, op, ty, pos, af, some (j, true)⟩ :: rest) Q S L :=
 awpL_pass hj hg ht hd (by rw [hb]; rfl) k
theorem Q3 {j t : Nat} {b : Bool} (hj : (ops.toList[j]?).bind (·.dst) = some t) (hg : get S t = some (.v (.bool b))) (ht : Nat.blt t N = true) (hd : Nat.blt d N = true) (hb : b = true)
  (k : awpL P G N ops rest Q ((d, .v undef) :: S) L) : awpL P G N ops (⟨some d, op, ty, pos, af, some (j, false)⟩ :: rest) Q S L :=
 awpL_pass hj hg ht hd (by rw [hb]; rfl) k
theorem zf {j t : Nat} {want b : Bool} {dst : Option Tmp} (hj : (ops.toList[j]?).bind (·.dst) = some t) (hg : get S t = some (.v (.bool b)))
  (h1 : b = true → awpL P G N ops (⟨dst, op, ty, pos, af, some (j, want)⟩ :: rest) Q S L) (h2 : b = false → awpL P G N ops (⟨dst, op, ty, pos, af, some (j, want)⟩ :: rest) Q S L) :
  awpL P G N ops (⟨dst, op, ty, pos, af, some (j, want)⟩ :: rest) Q S L := by
 cases hb : b
 ·exact h2 hb
 ·exact h1 hb
section
variable {C : SL → List LB → Prop} {nb : Nat} {W : DW} {D' : SL}
theorem awpD_new {M M' : List LB} {B : LB} (hq : W.sq = false) (hM : mskL af.toList nb W.L W.T = M) (h : Ev2 P G N op ty (pvS af D Sb) M x M') (hB : M ++ [B] = M') (hx : noid (okid M' nb) x = true) (hp : plainB nb B = true) (hnd : nd op = true) {T' : TL} (hT : addT af.toList D.length W.T ++ [(D.length, [D.length])] = T')
  {L' : List LB} (hL : W.L ++ [B] = L') (k : awpD P G N C Sb nb rest (D ++ [(d, x)]) ⟨L', T', D.length :: W.Z, false⟩) : awpD P G N C Sb nb (⟨some d, op, ty, pos, af, none⟩ :: rest) D W := by
 subst hT hB hL
 exact .step (r := (d, x, .op (some (W.L.length, B)))) (.new rfl rfl hq hM (WA h hnd) hx hp) k
theorem awpD_upd {M M' : List LB} {kk : Nat} {B : LB} {τ : Nat} {ds : List Nat} (hq : W.sq = false) (hM : mskL af.toList nb W.L W.T = M) (hk : Nat.ble nb kk = true) (hτ : W.T[kk - nb]? = some (τ, ds)) (hb : hasE af.toList τ = true) (hds : ds.all (hasE af.toList) = true)
  (h : Ev2 P G N op ty (pvS af D Sb) M x M') (hB : M.set kk B = M') (hx : noid (okid M' nb) x = true) (hp : plainB nb B = true) (hnd : nd op = true) {T' : TL} (hT : (addT af.toList D.length W.T).set (kk - nb) (D.length, [D.length]) = T')
  {L' : List LB} (hL : W.L.set kk B = L') (k : awpD P G N C Sb nb rest (D ++ [(d, x)]) ⟨L', T', D.length :: W.Z, false⟩) : awpD P G N C Sb nb (⟨some d, op, ty, pos, af, none⟩ :: rest) D W := by
 subst hT hB hL
 exact .step (r := (d, x, .op (some (kk, B)))) (.upd rfl rfl hq hM (Nat.le_of_ble_eq_true hk) hτ hb hds (WA h hnd) hx hp) k
theorem awpD_seqV {L' : List LB} (hZ : W.Z.all (hasE af.toList) = true) (h : Ev2 P G N op ty (pvS af D Sb) W.L x L') (hnd : nd op = true)
  (k : awpD P G N C Sb nb rest (D ++ [(d, x)]) ⟨L', W.T, D.length :: W.Z, true⟩) : awpD P G N C Sb nb (⟨some d, op, ty, pos, af, none⟩ :: rest) D W :=
 .step (r := (d, x, .seq)) (.seqV rfl rfl hZ (WA h hnd)) k
theorem awpD_seqS {L' : List LB} (hZ : W.Z.all (hasE af.toList) = true) (h : EvS P G N op ty (pvS af D Sb) W.L L') (hnd : nd op = true)
  (k : awpD P G N C Sb nb rest (D ++ [(N, .any)]) ⟨L', W.T, D.length :: W.Z, true⟩) : awpD P G N C Sb nb (⟨none, op, ty, pos, af, none⟩ :: rest) D W :=
 .step (r := (N, .any, .seq)) (.seqS rfl hZ ⟨rfl, h, hnd⟩) k
theorem awpD_passT {j t : Nat} {b : Bool} (hE : hasE af.toList j = true) (hD : D[j]? = some (t, .v (.bool b))) (hb : b = false)
  (k : awpD P G N C Sb nb rest (D ++ [(d, .v undef)]) W) : awpD P G N C Sb nb (⟨some d, op, ty, pos, af, some (j, true)⟩ :: rest) D W :=
 .step (r := (d, .v undef, .any)) (.any rfl (fun M => ⟨hE, t, _, hD, .inr (.inl ⟨by rw [hb]; rfl, rfl⟩)⟩) rfl) k
theorem awpD_passF {j t : Nat} {b : Bool} (hE : hasE af.toList j = true) (hD : D[j]? = some (t, .v (.bool b))) (hb : b = true)
  (k : awpD P G N C Sb nb rest (D ++ [(d, .v undef)]) W) : awpD P G N C Sb nb (⟨some d, op, ty, pos, af, some (j, false)⟩ :: rest) D W :=
 .step (r := (d, .v undef, .any)) (.any rfl (fun M => ⟨hE, t, _, hD, .inr (.inl ⟨by rw [hb]; rfl, rfl⟩)⟩) rfl) k
theorem awpD_passU {j t : Nat} {want : Bool} (hE : hasE af.toList j = true) (hD : D[j]? = some (t, .v undef))
  (k : awpD P G N C Sb nb rest (D ++ [(d, .v undef)]) W) : awpD P G N C Sb nb (⟨some d, op, ty, pos, af, some (j, want)⟩ :: rest) D W :=
 .step (r := (d, .v undef, .any)) (.any rfl (fun M => ⟨hE, t, _, hD, .inr (.inr ⟨rfl, rfl⟩)⟩) rfl) k
theorem zI {j t : Nat} {want b : Bool} {dst : Option Tmp} (hD : D[j]? = some (t, .v (.bool b)))
  (h1 : b = true → awpD P G N C Sb nb (⟨dst, op, ty, pos, af, some (j, want)⟩ :: rest) D W) (h2 : b = false → awpD P G N C Sb nb (⟨dst, op, ty, pos, af, some (j, want)⟩ :: rest) D W) :
  awpD P G N C Sb nb (⟨dst, op, ty, pos, af, some (j, want)⟩ :: rest) D W := by
 cases hb : b
 ·exact h2 hb
 ·exact h1 hb
end
theorem pcalls' {g : List (Nat × List AV)} {td : TDs} [T : TOK P td] {f : FuncId} {fn : Func} {c : Code} {args : List AV} {r : AV} (hf : P.funcs[f]? = some fn) (hn : fn.ntmps = N) (hb : fn.body = some c) (hN : Nat.ble args.length N = true) (hname : (fn.name == "runtime.NumGoroutine") = false)
  (h : awp P (Glo.of g) N c (retQ td fn.results.toList fun r' L' => Le (ex L' r') r) (argS 0 args) []) : PCalls P g f args r :=
 pcalls hf hb hn (Nat.le_of_ble_eq_true hN) hname h
theorem zZ {td : TDs} [T : TOK P td] {t e k v sz : Nat} {d ed : TD} {u q : Operand} {es new es' : List (List AV)} {ats : Array TypeId} {L' : List LB} (h : val G S u = some (.os k v)) (hk : L[k]? = some (.own v e sz es)) (hq : val G S q = some x) (hsrc : src L x = some new) (hssz : srcSz L sz x = true)
  (hat : ats = #[t, t]) (ht : lk td t = some d) (hs : d.k = .slice e) (he : lk td e = some ed) (hsz : ed.size = sz) (hzl : ed.zero.length = sz) (hpos : Nat.blt 0 sz = true) (hby : Nat.ble ed.bytes 1000 = true)
  (hb : es.length + new.length ≤ 1000000) (hes : es ++ new = es') (hL : L.set k (.own (v + 1) e sz es') = L') :
  Ev2 P G N (.call { callee := .builtin .append, args := #[u, q], argTypes := ats }) ty S L (.os k (v + 1)) L' := by
 subst hes hL
 refine ev_append h hk hq hsrc hssz hat ht hs he hsz hzl hpos ⟨?_, ?_⟩
 ·have := Nat.le_of_ble_eq_true hby
  calc (es.length + new.length) * ed.bytes ≤ 1000000 * 1000 := Nat.mul_le_mul hb this
   _ ≤ 140737488355328 := by omega
 ·simp only [maxLen]; omega
end
end
section
section
variable {P : Program} {G : Glo} {N : Nat} {Q : AQ} {S Sb D : SL} {L : List LB} {ops : Array Oper} {rest : List Oper}
 {op : Op} {ty : TypeId} {pos : String} {af : Array Edge} {d : Nat} {x : AV} {dst : Option Tmp} {u v w : Operand} {t f : Nat} {xt yt : TypeId}
def inOrd (sz : Nat) : Nat → List (Nat × AV) → Bool
 | _, [] => true
 | i, (j, x) :: r => Nat.beq j i && (fit x && Nat.beq (cellsOf x).length sz) && inOrd sz (i + 1) r
theorem WR {z : List Value} {sz : Nat} (hz : z.length = sz) : ∀ n, (zerosA z n).length = n * sz
 | 0 => by simp [zerosA]
 | n + 1 => by simp [zerosA, WR hz n, hz, Nat.succ_mul, Nat.add_comm]
theorem afill_in {z : List Value} {sz : Nat} (hz : z.length = sz) : ∀ (xs : List (Nat × AV)) (i : Nat) (pre : List AV), pre.length = i * sz → inOrd sz i xs = true →
  afill (fun i => some (i * sz, sz)) (pre ++ zerosA z xs.length) xs = some (pre ++ (xs.map fun p => cellsOf p.2).flatten)
 | [], i, pre, _, _ => by simp [afill, zerosA]
 | (j, x) :: r, i, pre, hp, h => by
  simp only [inOrd, Bool.and_eq_true] at h
  obtain ⟨⟨hj, hf, hl⟩, h⟩ := h
  have hj := Nat.eq_of_beq_eq_true hj
  have hl := Nat.eq_of_beq_eq_true hl
  subst hj
  have h1 : Nat.ble (j * sz + sz) (pre ++ zerosA z ((j, x) :: r).length).length = true := by
   apply Nat.ble_eq_true_of_le
   simp only [List.length_append, WR hz, hp, List.length_cons, Nat.succ_mul]; omega
  have hb : Nat.beq sz sz = true := Nat.beq_refl sz
  simp only [afill, hf, hl, hb, h1, Bool.and_self, cond_true]
  have h2 : (pre ++ zerosA z ((j, x) :: r).length).take (j * sz) = pre := by rw [← hp, List.take_left]
  have h3 : (pre ++ zerosA z ((j, x) :: r).length).drop (j * sz + sz) = zerosA z r.length := by
   rw [← hp, ← List.drop_drop, List.drop_left]
   simp only [List.length_cons, zerosA]
   rw [List.drop_left' (by simpa using hz)]
  rw [h2, h3, afill_in hz r (j + 1) (pre ++ cellsOf x) (by simp [hp, hl, Nat.succ_mul]) h]
  simp
theorem Wm {sz : Nat} : ∀ (l : List (List AV)), (∀ c ∈ l, c.length = sz) → chunks sz l.length l.flatten = l
 | [], _ => rfl
 | c :: r, h => by
  have hc := h c (by simp)
  simp only [List.length_cons, chunks, List.flatten_cons]
  rw [List.take_left' hc, List.drop_left' hc, Wm r (fun x hx => h x (by simp [hx]))]
theorem inOrd_len {sz : Nat} : ∀ {xs : List (Nat × AV)} {i : Nat}, inOrd sz i xs = true → ∀ p ∈ xs, (cellsOf p.2).length = sz
 | [], _, _, p, hp => by simp at hp
 | (j, x) :: r, i, h, p, hp => by
  simp only [inOrd, Bool.and_eq_true] at h
  rcases List.mem_cons.1 hp with rfl | hp
  ·exact Nat.eq_of_beq_eq_true h.1.2.2
  ·exact inOrd_len h.2 p hp
theorem zV {td : TDs} [T : TOK P td] {t e n sz : Nat} {d ed : TD} {ps : Array (Nat × Operand)} {xs : List (Nat × AV)} {es : List (List AV)} (ht : lk td t = some d) (hs : d.k = .slice e) (he : lk td e = some ed) (hz : ed.zero.all (·.oneCell') = true)
  (hzl : Nat.beq ed.zero.length ed.size = true) (hpos : Nat.blt 0 ed.size = true) (hx : partsV G S ps.toList = some xs) (ho : inOrd ed.size 0 xs = true) (hn : xs.length = n) (hsmall : Nat.ble (n * ed.size) 16777216 = true)
  (hF : (xs.all fun p => (cellsOf p.2).all isF) = true) (hsz : ed.size = sz) (hes : (xs.map fun p => cellsOf p.2) = es) : Ev2 P G N (.buildSlice t n ps) ty S L (.fs sz n es) L := by
 subst hes hsz hn
 have h1 := afill_in (Nat.eq_of_beq_eq_true hzl) xs 0 [] (by simp) ho
 refine Wl ht hs he hz hzl hpos hx h1 hsmall ?_ ?_
 ·simp only [List.nil_append, List.all_flatten, List.all_map]; exact hF
 ·have := Wm (sz := ed.size) (xs.map fun p => cellsOf p.2) (fun c hc => by
   obtain ⟨p, hp, rfl⟩ := List.mem_map.1 hc
   exact inOrd_len ho p hp)
  simpa using this
theorem zg (k : awpL P G N ops (⟨dst, op, ty, pos, af, none⟩ :: rest) Q S L) : awpL P G N ops (⟨dst, op, ty, pos, af, none⟩ :: rest) Q S L := k
theorem zr {g : Nat × Bool} (k : awpL P G N ops (⟨dst, op, ty, pos, af, some g⟩ :: rest) Q S L) : awpL P G N ops (⟨dst, op, ty, pos, af, some g⟩ :: rest) Q S L := k
theorem WG (k : awpL P G N ops (⟨dst, .move u, ty, pos, af, none⟩ :: rest) Q S L) : awpL P G N ops (⟨dst, .move u, ty, pos, af, none⟩ :: rest) Q S L := k
theorem jT (k : awpL P G N ops (⟨dst, .assign u, ty, pos, af, none⟩ :: rest) Q S L) : awpL P G N ops (⟨dst, .assign u, ty, pos, af, none⟩ :: rest) Q S L := k
theorem is_bin {b : BinOp} (k : awpL P G N ops (⟨dst, .binOp b xt u v yt, ty, pos, af, none⟩ :: rest) Q S L) : awpL P G N ops (⟨dst, .binOp b xt u v yt, ty, pos, af, none⟩ :: rest) Q S L := k
theorem is_fa (k : awpL P G N ops (⟨dst, .fieldAddr t u f, ty, pos, af, none⟩ :: rest) Q S L) : awpL P G N ops (⟨dst, .fieldAddr t u f, ty, pos, af, none⟩ :: rest) Q S L := k
theorem WH (k : awpL P G N ops (⟨dst, .load t u, ty, pos, af, none⟩ :: rest) Q S L) : awpL P G N ops (⟨dst, .load t u, ty, pos, af, none⟩ :: rest) Q S L := k
theorem WF (k : awpL P G N ops (⟨dst, .pick u v w, ty, pos, af, none⟩ :: rest) Q S L) : awpL P G N ops (⟨dst, .pick u v w, ty, pos, af, none⟩ :: rest) Q S L := k
theorem WI {c : Call} (k : awpL P G N ops (⟨dst, .call c, ty, pos, af, none⟩ :: rest) Q S L) : awpL P G N ops (⟨dst, .call c, ty, pos, af, none⟩ :: rest) Q S L := k
theorem zl {c : Code} (k : awp P G N c Q S L) : awp P G N c Q S L := k
theorem zJ {id : Nat} {ops : Array Oper} (k : awp P G N (.region id ops true) Q S L) : awp P G N (.region id ops true) Q S L := k
theorem is_nil (k : awpL P G N ops [] Q S L) : awpL P G N ops [] Q S L := k
theorem WE {next : SL → List LB → Prop} {e : Exit} (k : thenQ next Q e S L) : thenQ next Q e S L := k
theorem JR {id : Nat} {e : Exit} (k : blockQ id Q e S L) : blockQ id Q e S L := k
variable {C : SL → List LB → Prop} {nb : Nat} {W : DW}
theorem zu (k : awpD P G N C Sb nb (⟨dst, op, ty, pos, af, none⟩ :: rest) D W) : awpD P G N C Sb nb (⟨dst, op, ty, pos, af, none⟩ :: rest) D W := k
theorem zp {g : Nat × Bool} (k : awpD P G N C Sb nb (⟨dst, op, ty, pos, af, some g⟩ :: rest) D W) : awpD P G N C Sb nb (⟨dst, op, ty, pos, af, some g⟩ :: rest) D W := k
theorem J8 {α β : Type} {c : Code} (n : Nat) (σ : α → β → SL) (Λ : α → β → List LB) (inv : α → β → Prop) (μ : α → β → Nat) (x0 : α) (y0 : β) (h0 : Wk n S L (σ x0 y0) (Λ x0 y0)) (hi : inv x0 y0)
  (round : ∀ x y, inv x y → awp P G N c (thenQ (fun S' L' => ∃ x' y', Wk n S' L' (σ x' y') (Λ x' y') ∧ inv x' y' ∧ μ x' y' < μ x y) Q) (σ x y) (Λ x y)) : awp P G N (.loop c) Q S L := by
 refine zi (α := α × β) n (fun p => σ p.1 p.2) (fun p => Λ p.1 p.2) (fun p => inv p.1 p.2) (fun p => μ p.1 p.2) (x0, y0) h0 hi ?_
 rintro ⟨x, y⟩ h
 refine Qb ?_ (round x y h)
 intro e S L h
 cases e with
 | normal => obtain ⟨x', y', h⟩ := h; exact ⟨(x', y'), h⟩
 | exit id => exact h
 | ret => exact h
 | goto _ => exact h
 | panic _ => exact h
 | outgrown => exact h
end
end
section
theorem MF.mk {F : Nat → Prop} {w : World} : ∀ {cs : List AV} {b off : Nat}, (∀ i x, cs[i]? = some x → ∃ u, w.cell? ⟨b, off + i, none⟩ = some u ∧ RF F w x u ∧ u.oneCell' = true) → MF F w cs b off
 | [], _, _, _ => by simp only [MF]
 | x0 :: r, b, off, h => by
  simp only [MF]
  exact ⟨h 0 x0 rfl, MF.mk fun i x hi => by have := h (i + 1) x (by simpa using hi); rwa [show off + (i + 1) = off + 1 + i by omega] at this⟩
theorem EF.mk {F : Nat → Prop} {w : World} {sz : Nat} : ∀ {es : List (List AV)} {b off : Nat}, (∀ i e, es[i]? = some e → e.length = sz ∧ MF F w e b (off + i * sz)) → EF F w sz es b off
 | [], _, _, _ => by simp only [EF]
 | e :: r, b, off, h => by
  simp only [EF]
  have h0 := h 0 e rfl
  refine ⟨h0.1, by simpa using h0.2, EF.mk fun i x hi => ?_⟩
  have := h (i + 1) x (by simpa using hi)
  rwa [show off + (i + 1) * sz = off + sz + i * sz by rw [Nat.add_mul]; omega] at this
section
variable {P : Program} {td : TDs} [T : TOK P td] {G : Glo} {N : Nat} {Q : AQ} {S : SL} {L : List LB}
 {op : Op} {ty : TypeId} {x : AV}
theorem QA {t : Nat} {d : TD} {u e : Operand} {k v i q E sz : Nat} {es : List (List AV)} {el el' : List AV} {L' : List LB} (h : val G S u = some (.ep k v i q)) (hk : L[k]? = some (.own v E sz es)) (he : val G S e = some x) (hfx : fit x = true) (hF : (cellsOf x).all isF = true)
  (ht : lk td t = some d) (hn : (cellsOf x).length = d.size) (hq : Nat.ble (q + d.size) sz = true) (hel : es[i]? = some el) (hel' : el.take q ++ cellsOf x ++ el.drop (q + d.size) = el') (hL : L.set k (.own v E sz (es.set i el')) = L') :
  EvS P G N (.store t u e) ty S L L' := by
 subst hL
 replace hq := Nat.le_of_ble_eq_true hq
 intro o ho _ cx a hc
 have e1 := zn hc h
 have hx := zn hc he
 have hcs := WN hx (j3 hfx)
 have hLF := Qe hF hcs
 have hb := hc.st.blk _ _ hk
 simp only [R] at e1
 simp only [BR] at hb
 obtain ⟨hv0, hsz, hln, hb⟩ := hb
 obtain ⟨hk', _, _, e1⟩ := e1
 obtain ⟨b, hb', e1⟩ := e1 hv0
 rcases hb with ⟨h0, _⟩ | ⟨b2, arr, hb2, hh, hl, hm⟩
 ·rw [h0] at hb'; cases hb'
 rw [hb'] at hb2; injection hb2 with hb2; subst hb2
 rw [hsz] at e1
 have hil := (List.getElem?_eq_some_iff.1 hel).1
 have hfit : i * sz + sz ≤ arr.size := by
  have : (i + 1) * sz ≤ es.length * sz := Nat.mul_le_mul_right _ hil
  rw [Nat.add_mul] at this; omega
 obtain ⟨hell, hmel⟩ := hm.get hel
 rw [Nat.zero_add] at hmel
 have hvl : (a.eval e).cells.size = d.size := by rw [← hn, ← hcs.length]; simp
 have hr := run_storeAt' (P := P) (off := i * sz + q) ht hh hvl (by omega) hcs.one
 generalize hcur : (arr.toList.take (i * sz + q) ++ (a.eval e).cells.toList ++ arr.toList.drop (i * sz + q + (a.eval e).cells.size)).toArray = cur at hr
 have hcs' : cur.size = arr.size := by rw [← hcur]; simp; omega
 have hh' := setRow_heap cx.w b arr cur E (0, 0) hh
 have hget : ∀ j, cur[j]? = if j < i * sz + q then arr[j]? else if j < i * sz + q + (a.eval e).cells.size then (a.eval e).cells[j - (i * sz + q)]? else arr[j]? := by
  intro j
  have := W5 (arr := arr.toList) (vs := (a.eval e).cells.toList) (off := i * sz + q) (j := j) (by simp; omega)
  rw [← hcur]
  simpa using this
 refine ⟨{ cx with w := cx.w.setRow b cur }, by simp only [execOp, ho, e1, Sem.run_bind, hr, Result.andThen_ok, Sem.run_pure], hc.st.write hb' hh hcs' (by rw [hk]; simp) fun hs => ?_⟩
 have old : ∀ {cs : List AV} {r : Nat} {z : AV} {off : Nat}, MF cx.F cx.w cs b off → cs[r]? = some z → cur[off + r]? = arr[off + r]? → ∃ u, (cx.w.setRow b cur).cell? ⟨b, off + r, none⟩ = some u ∧ RF cx.F (cx.w.setRow b cur) z u ∧ u.oneCell' = true := by
  intro cs r z off hM hz heq
  obtain ⟨y, h2, h3, h4⟩ := hM.get hz
  rw [cell_of_row _ _ _ _ _ _ hh] at h2
  exact ⟨y, by rw [cell_of_row _ _ _ _ _ _ hh', heq]; exact h2, RF.mono hs.F hs.heap _ _ h3, h4⟩
 ·simp only [BR]
  refine ⟨hv0, hsz, by simpa using hln, .inr ⟨b, cur, hb', hh', by simpa [hcs'] using hl, ?_⟩⟩
  refine EF.mk fun j f hj => ?_
  rw [Nat.zero_add]
  rw [List.getElem?_set] at hj
  split at hj
  ·rename_i hij
   subst hij
   injection hj with hj; subst hj
   refine ⟨by rw [← hel']; simp; omega, MF.mk fun r z hz => ?_⟩
   rw [← hel'] at hz
   have hl2 : (el.take q).length = q := by rw [List.length_take]; omega
   by_cases c1 : r < q
   ·rw [List.append_assoc, List.getElem?_append_left (by omega), List.getElem?_take, if_pos c1] at hz
    exact old hmel hz (by rw [hget, if_pos (by omega)])
   ·by_cases c2 : r < q + d.size
    ·rw [List.append_assoc, List.getElem?_append_right (by omega), hl2, List.getElem?_append_left (by omega)] at hz
     obtain ⟨y, h3, h4, h5⟩ := hcs.get hz
     have hisz : isF z = true := List.all_eq_true.1 hF z (List.mem_of_getElem? hz)
     refine ⟨y, ?_, RF.mono hs.F hs.heap _ _ (Q7 hisz h4), h5⟩
     rw [cell_of_row _ _ _ _ _ _ hh', hget, if_neg (by omega), if_pos (by omega)]
     rw [show i * sz + r - (i * sz + q) = r - q by omega]
     simpa using h3
    ·rw [List.getElem?_append_right (by simp; omega), List.getElem?_drop] at hz
     have : q + d.size + (r - (el.take q ++ cellsOf x).length) = r := by simp; omega
     rw [this] at hz
     exact old hmel hz (by rw [hget, if_neg (by omega), if_neg (by omega)])
  ·rename_i hij
   obtain ⟨g1, g2⟩ := hm.get hj
   rw [Nat.zero_add] at g2
   refine ⟨g1, MF.mk fun r z hz => old g2 hz ?_⟩
   have hr' : r < sz := by have := (List.getElem?_eq_some_iff.1 hz).1; omega
   rw [hget]
   rcases Nat.lt_or_ge j i with h5 | h5
   ·have : (j + 1) * sz ≤ i * sz := Nat.mul_le_mul_right _ h5
    rw [Nat.add_mul] at this
    rw [if_pos (by omega)]
   ·have : (i + 1) * sz ≤ j * sz := Nat.mul_le_mul_right _ (by omega)
    rw [Nat.add_mul] at this
    rw [if_neg (by omega), if_neg (by omega)]
end
section
variable {P : Program} {G : Glo} {N : Nat} {Q : AQ} {S : SL} {L : List LB} {ops : Array Oper} {rest : List Oper}
 {ty : TypeId} {pos : String} {af : Array Edge} {dst : Option Tmp} {u v : Operand} {t : Nat} {lo hi mx : Option Operand}
theorem JQ (k : awpL P G N ops (⟨dst, .store t u v, ty, pos, af, none⟩ :: rest) Q S L) : awpL P G N ops (⟨dst, .store t u v, ty, pos, af, none⟩ :: rest) Q S L := k
end
end
section
def Cx.frz (c : Cx) (k : Nat) : Cx :=
 { c with F := fun b => c.F b ∨ c.φ k = some b, φ := fun j => if j = k then none else c.φ j, ver := fun j => if j = k then c.ver k + 1 else c.ver j }
section
variable {G : Glo} {c : Cx} {L : List LB}
theorem MF_of_MRF : ∀ {cs : List AV} {b off : Nat}, cs.all isF = true → MR c cs b off → MF c.F c.w cs b off
 | [], _, _, _, _ => by simp only [MF]
 | x :: r, b, off, hf, h => by
  simp only [MR] at h; simp only [MF]
  simp only [List.all_cons, Bool.and_eq_true] at hf
  obtain ⟨⟨u, hc, hx, h1⟩, h⟩ := h
  exact ⟨⟨u, hc, Q7 hf.1 hx, h1⟩, MF_of_MRF hf.2 h⟩
theorem St.frz (st : St G c L) {k : Nat} (hk : c.dom k) (hne : L[k]? ≠ some .pin) : Stp G c (c.frz k) (L.set k .dead) := by
 have hs : SubX allp c (c.frz k) := by
  have hne' : ∀ {j}, (c.frz k).ver j = c.ver j → j ≠ k := by
   intro j h e
   subst e
   simp only [Cx.frz, if_true] at h
   omega
  refine ⟨fun _ h => .inl h, fun b h => rfl, fun _ h _ => h, ?_, fun j _ _ h => if_neg (hne' h), fun _ _ _ _ => rfl, fun j _ _ h => rfl, fun j b arr T _ _ hj hb hh => ⟨arr, hh, rfl⟩⟩
  intro j _ _
  by_cases e : j = k
  ·subst e; simp [Cx.frz]
  ·simp [Cx.frz, e]
 have hφ : ∀ {j b}, (c.frz k).φ j = some b → j ≠ k ∧ c.φ j = some b := by
  intro j b h
  simp only [Cx.frz] at h
  split at h
  ·cases h
  ·rename_i e; exact ⟨e, h⟩
 have hm : Calm c (c.frz k) := by
  refine ⟨rfl, rfl, rfl, Nat.le_refl _, fun b hb h => rfl, fun b ⟨j, h⟩ => .inl ⟨j, (hφ h).2⟩, fun b h => ?_⟩
  rcases h with h | h
  ·exact .inl h
  ·exact .inr (.inl ⟨k, h⟩)
 have key : St G (c.frz k) (L.set k .dead) := by
  refine ⟨fun j hj => by rw [List.length_set]; exact st.n j hj, fun j y h hy => ?_, fun b h => ?_, fun j b h => ?_, fun j j' b h h' => st.inj _ _ _ (hφ h).2 (hφ h').2, fun j y h => ?_,
   fun q hq => ⟨.inl (st.glob q hq).1, MF.mono (fun _ h => .inl h) (fun _ _ => rfl) _ _ _ rfl (st.glob q hq).2.1, (st.glob q hq).2.2⟩, fun b hb => ?_, st.mkd, st.mkE, fun r hr => ?_, ?_⟩
  ·rcases qG h with ⟨hj, h⟩ | ⟨rfl, rfl, _⟩
   ·exact st.dm j y h hy
   ·exact absurd rfl hy
  ·rcases h with h | h
   ·exact st.inF b h
   ·exact (st.loc k b h).2.2
  ·obtain ⟨hj, h⟩ := hφ h
   have := st.loc j b h
   refine ⟨this.1, ?_, this.2.2⟩
   rintro (h' | h')
   ·exact this.2.1 h'
   ·exact hj (st.inj _ _ _ h h')
  ·rcases qG h with ⟨hj, h⟩ | ⟨rfl, rfl, _⟩
   ·exact BR.mono hs hm rfl ⟨if_neg hj, if_neg hj, rfl, rfl⟩ (zM y) (fun _ _ => rfl) (st.blk j y h)
   ·simp only [BR, Cx.frz, if_true]
  ·have := st.envd b hb
   refine ⟨this.1, ?_, fun j h => this.2.2 j (hφ h).2⟩
   rintro (h' | h')
   ·exact this.2.1 h'
   ·exact this.2.2 k h'
  ·have := st.mks r hr
   refine ⟨this.1, this.2.1, ?_, this.2.2.2.1, fun j h => this.2.2.2.2 j (hφ h).2⟩
   rintro (h' | h')
   ·exact this.2.2.1 h'
   ·exact this.2.2.2.2 k h'
  ·rcases st.pin with h | h
   ·exact .inl h
   ·exact .inr (JH hne h)
 exact ⟨key, hm, hs, rfl, rfl, rfl, fun j h => .inl h⟩
def frzV (L : List LB) : AV → Option AV
 | .lp k 0 => match L[k]? with
  | some (.box cs) => bif cs.all isF then some (.fp cs) else none
  | _ => none
 | .os k v => match L[k]? with
  | some (.own v' _ sz es) => bif Nat.beq v' v then some (.fs sz es.length es) else none
  | _ => none
 | .mp k => match L[k]? with
  | some (.map ks xs) => some (.fm ks xs)
  | _ => none
 | _ => none
def frzK : AV → Nat
 | .lp k _ => k
 | .os k _ => k
 | .mp k => k
 | _ => 0
theorem frz_R (st : St G c L) {x x' : AV} {y : Value} (h : frzV L x = some x') (hx : R c x y) : c.dom (frzK x) ∧ L[frzK x]? ≠ some .pin ∧ R (c.frz (frzK x)) x' y := by
 cases x with
 | lp k q =>
  cases q with
  | succ q => simp [frzV] at h
  | zero =>
   simp only [frzV] at h
   split at h
   ·rename_i cs hk
    cases hf : cs.all isF with
    | false => rw [hf] at h; cases h
    | true =>
     rw [hf] at h; injection h with h; subst h
     have hb := st.blk _ _ hk
     simp only [R] at hx
     simp only [BR] at hb
     obtain ⟨h0, b', arr, T, h2, h3, h4, h5⟩ := hb
     obtain ⟨hd, _, hx⟩ := hx
     obtain ⟨b, h1, rfl⟩ := hx h0
     rw [h1] at h2; injection h2 with h2; subst h2
     refine ⟨hd, by simp only [frzK]; rw [hk]; simp, ?_⟩
     simp only [R, RF, frzK]
     exact ⟨b, 0, rfl, .inr h1, MF.mono (F := c.F) (w := c.w) (fun _ h => .inl h) (fun _ _ => rfl) _ _ _ rfl (MF_of_MRF (c := c) hf h5)⟩
   ·cases h
 | os k v =>
  simp only [frzV] at h
  split at h
  ·rename_i v' E sz es hk
   cases hv : Nat.beq v' v with
   | false => rw [hv] at h; cases h
   | true =>
    rw [hv] at h; injection h with h; subst h
    have hv := Nat.eq_of_beq_eq_true hv
    subst hv
    have hb := st.blk _ _ hk
    simp only [R, OS] at hx
    simp only [BR] at hb
    obtain ⟨b0, b1, b2, hb⟩ := hb
    obtain ⟨hd, _, _, hx⟩ := hx
    refine ⟨hd, by simp only [frzK]; rw [hk]; simp, ?_⟩
    simp only [R, RF, frzK]
    refine ⟨trivial, ?_⟩
    rcases hx b0 with ⟨h1, rfl, h2⟩ | ⟨b, cap, arr, T, h1, rfl, h2, h3, h4, h5⟩
    ·exact ⟨none, 0, by rw [← b2, h1], by rw [← b2, h1]; exact Nat.le_refl _, fun h => absurd (b2.symm.trans h1) h⟩
    ·refine ⟨_, cap, by rw [b2], by rw [← b2]; exact h3, fun _ => ⟨b, 0, rfl, .inr h1, ?_⟩⟩
     rcases hb with ⟨h6, _⟩ | ⟨b', arr', h6, h7, h8, h9⟩
     ·rw [h1] at h6; cases h6
     ·rw [h1] at h6; injection h6 with h6; subst h6
      exact EF.mono (fun _ h => .inl h) (fun _ _ => rfl) _ _ _ _ rfl h9
  ·cases h
 | mp k =>
  simp only [frzV] at h
  split at h
  ·rename_i ks xs hk
   injection h with h; subst h
   have hb := st.blk _ _ hk
   simp only [R] at hx
   simp only [BR] at hb
   obtain ⟨h0, b', es, clock, h2, h3, h4, h5⟩ := hb
   obtain ⟨hd, _, hx⟩ := hx
   obtain ⟨b, h1, rfl⟩ := hx h0
   rw [h1] at h2; injection h2 with h2; subst h2
   refine ⟨hd, by simp only [frzK]; rw [hk]; simp, ?_⟩
   simp only [R, RF, frzK]
   exact ⟨b, es, clock, rfl, .inr h1, h3, h4, PF.mono (fun _ h => .inl h) (fun _ _ => rfl) _ _ _ h5⟩
  ·cases h
 | _ => simp [frzV] at h
end
section
variable {P : Program} {td : TDs} [T : TOK P td] {G : Glo} {N : Nat} {Q : AQ} {S : SL} {L : List LB} {ops : Array Oper} {rest : List Oper}
 {op : Op} {ty : TypeId} {pos : String} {af : Array Edge} {d : Nat} {x : AV}
theorem Cn.frz {t : Nat} {x x' : AV} {cx : Cx} {a : Act} (hc : Cn G N S L cx a) (ht : get S t = some x) (h : frzV L x = some x') : ∃ cx', Cn G N ((t, x') :: S) (L.set (frzK x) .dead) cx' a ∧ Ext cx cx' ∧ cx'.w = cx.w := by
 obtain ⟨h1, h2, h3⟩ := frz_R hc.st h (hc.sr t x ht)
 have hst := hc.st.frz h1 h2
 refine ⟨cx.frz (frzK x), ⟨hst.st, hc.de, hc.sz, fun i z hz => ?_⟩, hst.ext, rfl⟩
 rw [ZT] at hz
 split at hz
 ·rename_i e; subst e; injection hz with hz; subst hz; exact h3
 ·exact hc.sr.mono_all hst.sub i z hz
theorem awpL_frz (t : Nat) {x' : AV} {k : Nat} {L' : List LB} (ht : get S t = some x) (h : frzV L x = some x') (hk : frzK x = k) (hL : L.set k .dead = L') (k : awpL P G N ops rest Q ((t, x') :: S) L') : awpL P G N ops rest Q S L := by
 subst hk hL
 intro cx a hc
 obtain ⟨cx', hc', he, hw⟩ := hc.frz ht h
 rw [← hw]
 exact zq (fun e a w q => q.trans he) _ _ _ (k cx' a hc')
theorem QY (t : Nat) {c : Code} {x' : AV} {k : Nat} {L' : List LB} (ht : get S t = some x) (h : frzV L x = some x') (hk : frzK x = k) (hL : L.set k .dead = L') (k : awp P G N c Q ((t, x') :: S) L') : awp P G N c Q S L := by
 subst hk hL
 intro cx a hc
 obtain ⟨cx', hc', he, hw⟩ := hc.frz ht h
 rw [← hw]
 exact Code.wpIn_mono (fun e a w q => q.trans he) (k cx' a hc')
theorem awpL_stf {t p : Nat} {d : TD} {e : Operand} {k : Nat} {bs : List AV} {L' : List LB} (h : get S p = some (.lp k 0)) (hk : L[k]? = some (.box bs)) (he : val G S e = some x) (hfx : fit x = true) (hF : (cellsOf x).all isF = true) (ht : lk td t = some d)
  (hn : (cellsOf x).length = d.size) (hq : bs.length = d.size) (hL : L.set k .dead = L') (kk : awpL P G N ops rest Q ((p, .fp (cellsOf x)) :: S) L') : awpL P G N ops (⟨none, .store t (.tmp p) e, ty, pos, af, none⟩ :: rest) Q S L := by
 have hkl := zG hk
 refine Zk (qf (u := .tmp p) (q := 0) (L' := L.set k (.box (cellsOf x))) (by simp only [val]; exact h) hk he hfx ht hn (by rw [hq]; simp) ?_) ?_
 ·rw [hq.symm]; simp
 ·refine awpL_frz p (x' := .fp (cellsOf x)) h ?_ rfl (L' := L') ?_ kk
  ·simp only [frzV, List.getElem?_set_self hkl, hF, cond_true]
  ·simp only [frzK]; rw [← hL]; simp
theorem ev_boxf {t : TypeId} {u : Operand} (h : val G S u = some x) (hf : fit x = true) (hF : (cellsOf x).all isF = true) : Ev2 P G N (.box t u) ty S L (.fp (cellsOf x)) L := by
 intro o ho hty cx a hc
 obtain ⟨y, cx', h1, h2, h3⟩ := yY (P := P) (G := G) (N := N) (L := L) (k := L.length) (t := t) (ty := ty) h hf rfl rfl o ho hty cx a hc
 have hget : (L ++ [LB.box (cellsOf x)])[L.length]? = some (.box (cellsOf x)) := by simp
 have hfr : frzV (L ++ [.box (cellsOf x)]) (.lp L.length 0) = some (.fp (cellsOf x)) := by simp only [frzV, hget, hF, cond_true]
 obtain ⟨q1, q2, q3⟩ := frz_R h3.st hfr h2
 have hst := h3.st.frz q1 q2
 simp only [frzK] at hst q1 q3
 -- the last block, dead, is cut off
 have hL : (L ++ [LB.box (cellsOf x)]).set L.length .dead = L ++ [.dead] := by simp
 rw [hL] at hst
 refine ⟨y, { (cx'.frz L.length) with dom := cx.dom }, h1, ?_, ?_⟩
 ·exact R.of_RF _ _ _ (by simpa only [R] using q3)
 ·have hs2 : SubX allp cx { (cx'.frz L.length) with dom := cx.dom } := by
   have := h3.sub.trans hst.sub
   exact ⟨this.F, this.heap, fun _ h _ => h, this.ver, this.φ, this.sz, this.len, this.row⟩
  have hm2 : Calm cx { (cx'.frz L.length) with dom := cx.dom } := by
   have a := h3.calm
   have b := hst.calm
   refine ⟨b.os.trans a.os, b.tape.trans a.tape, b.output.trans a.output, Nat.le_trans a.size b.size, fun z hz hu => (b.keep z (Nat.lt_of_lt_of_le hz a.size) (fun hu' => ?_)).trans (a.keep z hz hu), fun z hz => ?_, fun z hz => ?_⟩
   ·rcases a.newU z hu' with q | q
    ·exact hu q
    ·omega
   ·rcases b.newU z hz with q | q
    ·exact a.newU z q
    ·exact .inr (Nat.le_trans a.size q)
   ·rcases b.newV z hz with q | q | q
    ·exact a.newV z q
    ·rcases a.newU z q with q | q
     ·exact .inr (.inl q)
     ·exact .inr (.inr q)
    ·exact .inr (.inr (Nat.le_trans a.size q))
  refine ⟨⟨hc.st.n, fun k z hz hne => hc.st.dm k z hz hne, hst.st.inF, fun k b hb => ?_, hst.st.inj, fun k z hz => ?_, hst.st.glob, hst.st.envd, hst.st.mkd, hst.st.mkE, hst.st.mks, ?_⟩, hm2, hs2, hst.E.trans h3.E, hst.mks.trans h3.mks, hst.m.trans h3.m, fun k hk => .inl hk⟩
  ·have := hst.st.loc k b hb
   refine ⟨?_, this.2⟩
   have hkn : k ≠ L.length := by
    intro e
    subst e
    simp [Cx.frz] at hb
   rcases hst.dom k this.1 with q | ⟨z, q, hz⟩
   ·rcases h3.dom k q with q | ⟨z, q, hz⟩
    ·exact q
    ·rcases ZE q with ⟨q, _⟩ | ⟨q, _⟩
     ·exact hc.st.dm k z q hz
     ·exact absurd q hkn
   ·rcases ZE q with ⟨q, _⟩ | ⟨q, _⟩
    ·exact hc.st.dm k z q hz
    ·exact absurd q hkn
  ·have hz' : (L ++ [LB.dead])[k]? = some z := by rw [List.getElem?_append_left (zG hz)]; exact hz
   have := hst.st.blk k z hz'
   cases z with
   | dead => simpa only [BR] using this
   | pin => simpa only [BR] using this
   | box cs =>
    simp only [BR] at this ⊢
    obtain ⟨p1, b, arr, T, p2, p3, p4, p5⟩ := this
    refine ⟨p1, b, arr, T, p2, p3, p4, ?_⟩
    have hb0 := hc.st.blk k _ hz
    simp only [BR] at hb0
    obtain ⟨_, b0, arr0, T0, g2, g3, _, g5⟩ := hb0
    have hnid : noidL (low L.length) cs = true := wi hc.st.n cs b0 0 g5
    refine MR.mono (p := low L.length) (c := cx'.frz L.length) ?_ cs b 0 hnid rfl p5
    refine ⟨fun _ h => h, fun _ _ => rfl, fun j hj hp => ?_, fun _ _ _ => Nat.le_refl _, fun _ _ _ _ => rfl, fun _ _ _ _ => rfl, fun _ _ _ _ => rfl, fun _ _ arr _ _ _ _ _ h => ⟨arr, h, rfl⟩⟩
    have hjl := zK hp
    rcases hst.dom j hj with q | ⟨z, q, hz⟩
    ·rcases h3.dom j q with q | ⟨z, q, hz⟩
     ·exact q
     ·rcases ZE q with ⟨q, _⟩ | ⟨q, _⟩
      ·exact hc.st.dm j z q hz
      ·omega
    ·rcases ZE q with ⟨q, _⟩ | ⟨q, _⟩
     ·exact hc.st.dm j z q hz
     ·omega
   | row cs =>
    simp only [BR] at this ⊢
    obtain ⟨p1, r1, r2, b, arr, T, p2, p3, p4, p5⟩ := this
    refine ⟨p1, r1, r2, b, arr, T, p2, p3, p4, ?_⟩
    have hb0 := hc.st.blk k _ hz
    simp only [BR] at hb0
    obtain ⟨_, _, _, b0, arr0, T0, g2, g3, _, g5⟩ := hb0
    have hnid : noidL (low L.length) cs = true := wi hc.st.n cs b0 0 g5
    refine MR.mono (p := low L.length) (c := cx'.frz L.length) ?_ cs b 0 hnid rfl p5
    refine ⟨fun _ h => h, fun _ _ => rfl, fun j hj hp => ?_, fun _ _ _ => Nat.le_refl _, fun _ _ _ _ => rfl, fun _ _ _ _ => rfl, fun _ _ _ _ => rfl, fun _ _ arr _ _ _ _ _ h => ⟨arr, h, rfl⟩⟩
    have hjl := zK hp
    rcases hst.dom j hj with q | ⟨z, q, hz⟩
    ·rcases h3.dom j q with q | ⟨z, q, hz⟩
     ·exact q
     ·rcases ZE q with ⟨q, _⟩ | ⟨q, _⟩
      ·exact hc.st.dm j z q hz
      ·omega
    ·rcases ZE q with ⟨q, _⟩ | ⟨q, _⟩
     ·exact hc.st.dm j z q hz
     ·omega
   | own v E sz es => simpa only [BR] using this
   | map ks xs => simpa only [BR] using this
   | mapb m ck bs ks xs => simpa only [BR] using this
   | obj o => simpa only [BR] using this
   | ghost n => simp only [BR] at this ⊢; exact this
   | gone => simp only [BR] at this ⊢; exact this
  ·rcases hc.st.pin with h | h
   ·left; show cx'.m = 0; rw [h3.m]; exact h
   ·right; show L[cx'.m - 1]? = some .pin; rw [h3.m]; exact h
end
end
section
section
variable {P : Program} {td : TDs} [T : TOK P td] {G : Glo} {N : Nat} {Q : AQ} {S : SL} {L : List LB}
 {op : Op} {ty : TypeId} {x : AV}
theorem Zt {t e : Nat} {d ed : TD} {ps : Array (Nat × Operand)} (ht : lk td t = some d) (hs : d.k = .slice e) (he : lk td e = some ed) (hz : ed.zero.all (·.oneCell') = true)
  (hzl : Nat.beq ed.zero.length ed.size = true) (hpos : Nat.blt 0 ed.size = true) (hp : ps = #[]) : Ev2 P G N (.buildSlice t 0 ps) ty S L .fz L := by
 subst hp
 intro o ho hty cx a hc
 obtain ⟨y, cx', h1, h2, h3⟩ := Wl (P := P) (G := G) (N := N) (S := S) (L := L) (n := 0) (ps := #[]) (xs := []) (cs := []) (es := []) (ty := ty) ht hs he hz hzl hpos rfl rfl (by simp) rfl rfl o ho hty cx a hc
 refine ⟨y, cx', h1, ?_, h3⟩
 obtain ⟨arr, q1, q2, q3⟩ := QN (P := P) (n := 0) (ps := #[]) (xs := []) (cs := []) ht hs he hz hzl hpos rfl rfl (by simp) hc
 have : (execOp a.eval o).run P cx.w = .ok (.value (.slice (some ⟨cx.w.heap.size, 0, none⟩) 0 0)) (cx.w.alloc (.cells arr e)) := by
  simp only [execOp, ho, Sem.run_bind, q1, Result.andThen_ok, Sem.run_pure]
 rw [h1] at this
 injection this with this
 injection this with this
 simp only [R]
 exact ⟨_, this⟩
end
end
section
open Go.MapKept
structure KeyOk (P : Program) (kt : TypeId) (good : Value → Prop) : Prop where
 find : ∀ (k : Value) (es : List MapEntry) (w : World), good k → (∀ e ∈ es, good e.key) → ∃ r, (Instr.findKey kt k es).run P w = .ok r w ∧ ((r = none ∧ ∀ e ∈ es, e.key ≠ k) ∨ ∃ i e, r = some (i, e.val) ∧ es[i]? = some e ∧ e.key = k)
 chk : ∀ (b : Bool) (k : Value) (w : World), good k → (Instr.checkKey b 10000 kt k).run P w = .ok () w
 bits : ∀ k, good k → Instr.sameBits 10000 k k = true
theorem KeyOk.plain {P : Program} {kt : TypeId} {d : TypeDesc} (hd : P.underlying kt = some d) : KeyOk P kt (IsKey d) := by
 refine ⟨fun k es w hk hes => ?_, fun b k w hk => run_checkKey hd hk b 9999, fun k hk => sameBits_self hk 10000⟩
 rcases findNow_spec hk es 0 hes with ⟨h1, h2⟩ | ⟨j, e, h1, h2, h3⟩
 ·exact ⟨none, run_findKey hd h1, .inl ⟨rfl, h2⟩⟩
 ·exact ⟨some (0 + j, e.val), run_findKey hd h1, .inr ⟨j, e, by rw [Nat.zero_add], h2, h3⟩⟩
theorem KeyOk.asks {P : Program} {kt : TypeId} {d : TypeDesc} {good : Value → Prop} (hd : P.underlying kt = some d) (hn : ∀ a b, good a → good b → Instr.sameNow d a b = none)
  (heq : ∀ a b w, good a → good b → ∃ r, (Op.equal kt a b).run P w = .ok r w ∧ (r = true ↔ a = b)) (hc : ∀ (b : Bool) (k : Value) (w : World), good k → (Instr.checkKey b 10000 kt k).run P w = .ok () w) (hb : ∀ k, good k → Instr.sameBits 10000 k k = true) : KeyOk P kt good := by
 refine ⟨fun k es w hk hes => ?_, hc, hb⟩
 have ask : ∀ (es : List MapEntry) (i : Nat), (∀ e ∈ es, good e.key) → ∃ r, (Instr.findAsking kt k es i).run P w = .ok r w ∧ ((r = none ∧ ∀ e ∈ es, e.key ≠ k) ∨ ∃ j e, r = some (i + j, e.val) ∧ es[j]? = some e ∧ e.key = k) := by
  intro es
  induction es with
  | nil => intro i _; exact ⟨none, by simp [Instr.findAsking], .inl ⟨rfl, fun e h => by cases h⟩⟩
  | cons e es ih =>
   intro i he
   obtain ⟨r, h1, h2⟩ := heq k e.key w hk (he e (List.mem_cons_self ..))
   cases r with
   | true =>
    refine ⟨some (i, e.val), by simp [Instr.findAsking, h1, Result.andThen], .inr ⟨0, e, rfl, rfl, (h2.1 rfl).symm⟩⟩
   | false =>
    have hne : e.key ≠ k := fun q => by have := h2.2 q.symm; cases this
    obtain ⟨r, g1, g2⟩ := ih (i + 1) (fun e he' => he e (List.mem_cons_of_mem _ he'))
    refine ⟨r, by simp [Instr.findAsking, h1, Result.andThen, g1], ?_⟩
    rcases g2 with ⟨rfl, g2⟩ | ⟨j, e', rfl, g2, g3⟩
    ·exact .inl ⟨rfl, fun x hx => by
      rcases List.mem_cons.1 hx with rfl | hx
      ·exact hne
      ·exact g2 x hx⟩
    ·exact .inr ⟨j + 1, e', by rw [show i + (j + 1) = i + 1 + j by omega], by simpa using g2, g3⟩
 cases es with
 | nil => exact ⟨none, by simp [Instr.findKey, run_underlying hd, Result.andThen, Instr.findNow], .inl ⟨rfl, fun e h => by cases h⟩⟩
 | cons e es =>
  obtain ⟨r, h1, h2⟩ := ask (e :: es) 0 hes
  refine ⟨r, ?_, ?_⟩
  ·have hnow : Instr.findNow d k (e :: es) 0 = none := by
    simp [Instr.findNow, hn k e.key hk (hes e (List.mem_cons_self ..))]
   simp only [Instr.findKey, Sem.run_bind, run_underlying hd, Result.andThen, hnow]
   exact h1
  ·simpa using h2
def MLook (ks : List Value) (xs : List AV) (k : Value) (z x : AV) (ok : Bool) : Prop :=
 (ok = true ∧ ∃ i : Nat, ks[i]? = some k ∧ xs[i]? = some x) ∨ (ok = false ∧ k ∉ ks ∧ x = z)
def MPut (ks : List Value) (xs : List AV) (k : Value) (x : AV) (ks' : List Value) (xs' : List AV) : Prop :=
 (∃ i : Nat, ks[i]? = some k ∧ ks' = ks ∧ xs' = xs.set i x) ∨ (k ∉ ks ∧ ks' = ks ++ [k] ∧ xs' = xs ++ [x])
def MDel (ks : List Value) (xs : List AV) (k : Value) (ks' : List Value) (xs' : List AV) : Prop :=
 (∃ i : Nat, ks[i]? = some k ∧ ks' = ks.eraseIdx i ∧ xs' = xs.eraseIdx i) ∨ (k ∉ ks ∧ ks' = ks ∧ xs' = xs)
theorem PF.get {F : Nat → Prop} {w : World} : ∀ {ks : List Value} {xs : List AV} {es : List MapEntry}, PF F w ks xs es → ks = es.map (·.key) ∧ xs.length = es.length ∧ ∀ (i : Nat) (e : MapEntry), es[i]? = some e → ∃ x, xs[i]? = some x ∧ RF F w x e.val
 | ks, [], es, h => by simp only [PF] at h; obtain ⟨rfl, rfl⟩ := h; exact ⟨rfl, rfl, fun i e h => by simp at h⟩
 | ks, x :: r, es, h => by
  simp only [PF] at h
  obtain ⟨k, kr, e, er, rfl, rfl, rfl, hx, h⟩ := h
  obtain ⟨h1, h2, h3⟩ := PF.get h
  refine ⟨by simp [h1], by simp [h2], fun i e' hi => ?_⟩
  cases i with
  | zero => simp at hi; subst hi; exact ⟨x, rfl, hx⟩
  | succ i => obtain ⟨y, q1, q2⟩ := h3 i e' (by simpa using hi); exact ⟨y, by simpa using q1, q2⟩
theorem PF.mk {F : Nat → Prop} {w : World} : ∀ {ks : List Value} {xs : List AV} {es : List MapEntry}, ks = es.map (·.key) → xs.length = es.length → (∀ (i : Nat) (e : MapEntry) (x : AV), es[i]? = some e → xs[i]? = some x → RF F w x e.val) → PF F w ks xs es
 | ks, [], es, h1, h2, _ => by
  have : es = [] := List.eq_nil_of_length_eq_zero (by simpa using h2.symm)
  subst this
  simp only [PF]; exact ⟨by simpa using h1, trivial⟩
 | ks, x :: r, [], h1, h2, _ => by simp at h2
 | ks, x :: r, e :: er, h1, h2, h3 => by
  simp only [PF]
  refine ⟨e.key, er.map (·.key), e, er, by simpa using h1, rfl, rfl, h3 0 e x rfl rfl, PF.mk rfl (by simpa using h2) fun i e' x' g1 g2 => h3 (i + 1) e' x' (by simpa using g1) (by simpa using g2)⟩
theorem jS {α : Type} {l : List α} (h : l.Nodup) {i j : Nat} {x : α} (hi : l[i]? = some x) (hj : l[j]? = some x) : i = j := by
 obtain ⟨h1, e1⟩ := List.getElem?_eq_some_iff.1 hi
 obtain ⟨h2, e2⟩ := List.getElem?_eq_some_iff.1 hj
 rcases Nat.lt_trichotomy i j with h3 | h3 | h3
 ·exact absurd (e1.trans e2.symm) (List.pairwise_iff_getElem.1 h i j h1 h2 h3)
 ·exact h3
 ·exact absurd (e2.trans e1.symm) (List.pairwise_iff_getElem.1 h j i h2 h1 h3)
section
variable {P : Program} {td : TDs} [T : TOK P td] {G : Glo} {N : Nat} {Q : AQ} {S : SL} {L : List LB}
 {op : Op} {ty : TypeId} {x : AV}
theorem jx {t k : Nat} {L' : List LB} (hk : L.length = k) (hL : L ++ [.map [] []] = L') : Ev2 P G N (.makeMap t none) ty S L (.mp k) L' := by
 subst hk hL
 intro o ho _ cx a hc
 have A := Alloc.alloc cx.w (.map #[] 0)
 have hb : BR G (cx.new L.length (cx.w.alloc (.map #[] 0)) 0 0) L.length (.map [] []) := by
  simp only [BR]
  exact ⟨by simp [Cx.new], cx.w.heap.size, #[], 0, by simp [Cx.new], A.new, ⟨by simp, by simp⟩, by simp only [PF]; exact ⟨trivial, trivial⟩⟩
 refine ⟨.map (some cx.w.heap.size), cx.new L.length (cx.w.alloc (.map #[] 0)) 0 0, ?_, ?_, hc.st.new A 0 0 hb⟩
 ·simp only [execOp, ho, Option.map_none, Instr.makeMap, Sem.run_bind, run_newObj, Result.andThen_ok, Sem.run_pure]
  rfl
 ·simp only [R]; exact ⟨by simp [Cx.new], rfl, fun _ => ⟨cx.w.heap.size, by simp [Cx.new], rfl⟩⟩
theorem qV {t kt e : Nat} {d : TD} (ht : lk td t = some d) (hs : d.k = .map kt e) : P.underlying t = some (.map kt e) := by
 obtain ⟨i, u, z, h1, h2, h3, h4, h5, h6, h7⟩ := zA (P := P) ht
 rw [hs] at h4
 cases u <;> simp only [tk, reduceCtorEq, TK.map.injEq] at h4
 obtain ⟨rfl, rfl⟩ := h4
 exact h2
theorem map_R {cx : Cx} {a : Act} (hc : Cn G N S L cx a) {u : Operand} {k : Nat} {ks : List Value} {xs : List AV} (h : val G S u = some (.mp k)) (hk : L[k]? = some (.map ks xs)) :
  ∃ b es clock, a.eval u = .map (some b) ∧ cx.φ k = some b ∧ cx.ver k = 0 ∧ cx.w.heap[b]? = some (.map es clock) ∧ Births clock es.toList ∧ PF cx.F cx.w ks xs es.toList := by
 have e1 := zn hc h
 have hb := hc.st.blk _ _ hk
 simp only [R] at e1
 simp only [BR] at hb
 obtain ⟨h0, b', es, clock, h2, h3, h4, h5⟩ := hb
 obtain ⟨hd, _, hx⟩ := e1
 obtain ⟨b, h1, e1⟩ := hx h0
 rw [h1] at h2; injection h2 with h2; subst h2
 exact ⟨b, es, clock, e1, h1, h0, h3, h4, h5⟩
theorem wJ {kt : TypeId} {good : Value → Prop} (K : KeyOk P kt good) {F : Nat → Prop} {w : World} {ks : List Value} {xs : List AV} {es : List MapEntry} (hp : PF F w ks xs es) (hg : ∀ k ∈ ks, good k) {k : Value} (hk : good k) :
  ∃ r, (Instr.findKey kt k es).run P w = .ok r w ∧ ((r = none ∧ k ∉ ks) ∨ ∃ i e x, r = some (i, e.val) ∧ es[i]? = some e ∧ e.key = k ∧ ks[i]? = some k ∧ xs[i]? = some x ∧ RF F w x e.val) := by
 obtain ⟨h1, h2, h3⟩ := hp.get
 obtain ⟨r, g1, g2⟩ := K.find k es w hk (fun e he => hg _ (by rw [h1]; exact List.mem_map.2 ⟨e, he, rfl⟩))
 refine ⟨r, g1, ?_⟩
 rcases g2 with ⟨rfl, g2⟩ | ⟨i, e, rfl, g2, g3⟩
 ·refine .inl ⟨rfl, fun hm => ?_⟩
  rw [h1] at hm
  obtain ⟨e, he, e2⟩ := List.mem_map.1 hm
  exact g2 e he e2
 ·obtain ⟨x, q1, q2⟩ := h3 i e g2
  exact .inr ⟨i, e, x, rfl, g2, g3, by rw [h1, List.getElem?_map, g2]; simp [g3], q1, q2⟩
def zeroOf (P : Program) (e : TypeId) : Option Value := (P.info? e).bind (·.zero)
def avOf : Value → AV
 | .agg xs => .agg (xs.toList.map .v)
 | z => .v z
theorem avOf_RF {F : Nat → Prop} {w : World} {z : Value} (hz : z.cells.toList.all (·.oneCell') = true) : RF F w (avOf z) z := by
 unfold avOf
 split
 ·rename_i xs
  simp only [RF]
  refine ⟨xs, rfl, ?_⟩
  have : ∀ {zs : List Value}, zs.all (·.oneCell') = true → LF F w (zs.map .v) zs := by
   intro zs
   induction zs with
   | nil => intro _; simp only [List.map_nil, LF]
   | cons y r ih =>
    intro h
    simp only [List.all_cons, Bool.and_eq_true] at h
    simp only [List.map_cons, LF]
    exact ⟨y, r, rfl, by simp only [RF], h.1, ih h.2⟩
  exact this hz
 ·simp only [RF]
theorem run_zeroOf {e : Nat} {z : Value} (h : zeroOf P e = some z) (w : World) : (zeroValue e).run P w = .ok z w := by
 unfold zeroOf at h
 cases hi : P.info? e with
 | none => rw [hi] at h; cases h
 | some i =>
  rw [hi] at h
  simp only [Option.bind_some] at h
  simp [zeroValue, typeInfo, hi, h]
theorem zB {t kt e kk : Nat} {d : TD} {good : Value → Prop} {u q : Operand} {ks : List Value} {xs : List AV} {kv z : Value} {ok cm : Bool} {r : AV} (K : KeyOk P kt good) (h : val G S u = some (.mp kk)) (hk : L[kk]? = some (.map ks xs))
  {ka : AV} (hq : val G S q = some ka) (hka : ∀ c y, R c ka y → y = kv) (ht : lk td t = some d) (hs : d.k = .map kt e) (hz : zeroOf P e = some z) (hzo : z.cells.toList.all (·.oneCell') = true) (hg : ∀ k ∈ ks, good k) (hgk : good kv)
  (hl : MLook ks xs kv (avOf z) x ok) (hnd : ks.Nodup) (hr : r = bif cm then .tup [x, .v (.bool ok)] else x) : Ev P G N (.lookup t u q cm) ty S L r := by
 subst hr
 intro o ho _ cx a hc
 obtain ⟨b, es, clock, e1, h1, h2, h3, h4, h5⟩ := map_R hc h hk
 have e2 := hka _ _ (zn hc hq)
 obtain ⟨rr, g1, g2⟩ := wJ K h5 hg hgk
 have main : ∃ v, RF cx.F cx.w x v ∧ (Instr.lookup t (.map (some b)) kv cm).run P cx.w = .ok (if cm then .tuple #[v, .bool ok] else v) cx.w := by
  rcases g2 with ⟨rfl, hn⟩ | ⟨i, en, x', rfl, q1, q2, q3, q4, q5⟩
  ·rcases hl with ⟨_, i, h6, _⟩ | ⟨rfl, _, rfl⟩
   ·exact absurd (List.mem_of_getElem? h6) hn
   ·refine ⟨z, avOf_RF hzo, ?_⟩
    simp [Instr.lookup, run_underlying (qV (P := P) ht hs), Result.andThen, Go.MapKept.run_getObj_map h3, K.chk _ _ cx.w hgk, g1, run_zeroOf hz]
  ·rcases hl with ⟨rfl, j, h6, h7⟩ | ⟨_, hn, _⟩
   ·have := jS hnd h6 q3
    subst this
    rw [h7] at q4; injection q4 with q4; subst q4
    refine ⟨en.val, q5, ?_⟩
    simp [Instr.lookup, run_underlying (qV (P := P) ht hs), Result.andThen, Go.MapKept.run_getObj_map h3, K.chk _ _ cx.w hgk, g1]
   ·exact absurd (List.mem_of_getElem? q3) hn
 obtain ⟨v, hv, hrun⟩ := main
 refine ⟨if cm then .tuple #[v, .bool ok] else v, by simp only [execOp, ho, e1, e2, Sem.run_bind, hrun, Result.andThen_ok, Sem.run_pure], ?_⟩
 cases cm with
 | false => exact R.of_RF _ _ _ hv
 | true =>
  simp only [cond_true, if_true, R]
  refine ⟨#[v, .bool ok], rfl, ?_⟩
  simp only [TR]
  exact ⟨v, [.bool ok], rfl, R.of_RF _ _ _ hv, .bool ok, [], rfl, by simp only [R], rfl⟩
theorem births_push {clock : Nat} {es : List MapEntry} (h : Births clock es) (k v : Value) : Births (clock + 1) (es ++ [⟨k, v, clock⟩]) := by
 refine ⟨List.pairwise_append.2 ⟨h.1, by simp, fun a ha b hb => ?_⟩, fun e he => ?_⟩
 ·simp at hb; subst hb; exact h.2 a ha
 ·rcases List.mem_append.1 he with he | he
  ·have := h.2 e he; omega
  ·simp at he; subst he; simp
theorem births_modify {clock : Nat} {es : List MapEntry} (h : Births clock es) (i : Nat) (k v : Value) : Births clock (es.modify i fun e => { e with key := k, val := v }) := by
 have hm : (es.modify i fun e => { e with key := k, val := v }).map (·.born) = es.map (·.born) := by
  apply List.ext_getElem?
  intro j
  simp only [List.getElem?_map, List.getElem?_modify]
  by_cases e : i = j
  ·subst e; simp; cases es[i]? <;> rfl
  ·simp [e]
 refine ⟨?_, fun e he => ?_⟩
 ·have h1 : (es.map (·.born)).Pairwise (· < ·) := List.pairwise_map.2 h.1
  rw [← hm] at h1
  exact List.pairwise_map.1 h1
 ·have : e.born ∈ es.map (·.born) := by rw [← hm]; exact List.mem_map.2 ⟨e, he, rfl⟩
  obtain ⟨e', he', e2⟩ := List.mem_map.1 this
  rw [← e2]; exact h.2 e' he'
theorem births_erase {clock : Nat} {es : List MapEntry} (h : Births clock es) (i : Nat) : Births clock (es.eraseIdx i) :=
 ⟨h.1.sublist (List.eraseIdx_sublist _ _), fun e he => h.2 e ((List.eraseIdx_sublist _ _).subset he)⟩
theorem St.mapWr {c : Cx} (st : St G c L) {k b : Nat} {ks ks' : List Value} {xs xs' : List AV} {es es' : Array MapEntry} {clock clock' : Nat} (hk : L[k]? = some (.map ks xs)) (hb : c.φ k = some b) (hv : c.ver k = 0) (hh : c.w.heap[b]? = some (.map es clock)) (hB : Births clock' es'.toList)
  (hp : PF c.F c.w ks' xs' es'.toList) : Stp G c { c with w := { c.w with heap := c.w.heap.setIfInBounds b (.map es' clock') } } (L.set k (.map ks' xs')) := by
 have hlt : b < c.w.heap.size := (st.loc k b hb).2.2
 have hother : ∀ b', b' ≠ b → (c.w.heap.setIfInBounds b (.map es' clock'))[b']? = c.w.heap[b']? := fun b' h => by simp [Ne.symm h]
 refine st.wr (w' := { c.w with heap := c.w.heap.setIfInBounds b (.map es' clock') }) hb rfl rfl rfl (by simp) (fun b' h => hother b' h) (fun arr T h => ?_) (by rw [hk]; simp) (fun hs => ?_)
 ·rw [hh] at h; injection h with h; cases h
 ·simp only [BR]
  exact ⟨hv, b, es', clock', hb, by simp [hlt], hB, PF.mono hs.F hs.heap _ _ _ hp⟩
theorem qP {t kt e kk : Nat} {d : TD} {good : Value → Prop} {u q v : Operand} {ks ks' : List Value} {xs xs' : List AV} {kv : Value} {L' : List LB} (K : KeyOk P kt good) (h : val G S u = some (.mp kk)) (hk : L[kk]? = some (.map ks xs))
  {ka : AV} (hq : val G S q = some ka) (hka : ∀ c y, R c ka y → y = kv) (hv : val G S v = some x) (hx : isF x = true) (ht : lk td t = some d) (hs : d.k = .map kt e) (hg : ∀ k ∈ ks, good k) (hgk : good kv)
  (hl : MPut ks xs kv x ks' xs') (hnd : ks.Nodup) (hL : L.set kk (.map ks' xs') = L') : EvS P G N (.mapUpdate t u q v) ty S L L' := by
 subst hL
 intro o ho _ cx a hc
 obtain ⟨b, es, clock, e1, h1, h2, h3, h4, h5⟩ := map_R hc h hk
 have e2 := hka _ _ (zn hc hq)
 have hxv := Q7 hx (zn hc hv)
 obtain ⟨rr, g1, g2⟩ := wJ K h5 hg hgk
 obtain ⟨p1, p2, p3⟩ := h5.get
 have main : ∃ es' clock', (Instr.mapUpdate t (.map (some b)) kv (a.eval v)).run P cx.w = .ok () { cx.w with heap := cx.w.heap.setIfInBounds b (.map es' clock') } ∧ Births clock' es'.toList ∧ PF cx.F cx.w ks' xs' es'.toList := by
  rcases g2 with ⟨rfl, hn⟩ | ⟨i, en, x', rfl, q1, q2, q3, q4, q5⟩
  ·rcases hl with ⟨i, h6, _⟩ | ⟨_, rfl, rfl⟩
   ·exact absurd (List.mem_of_getElem? h6) hn
   ·refine ⟨es.push ⟨kv, a.eval v, clock⟩, clock + 1, ?_, by simpa using births_push h4 _ _, ?_⟩
    ·simp [Instr.mapUpdate, run_underlying (qV (P := P) ht hs), Result.andThen, Go.MapKept.run_getObj_map h3, K.chk _ _ cx.w hgk, g1, run_setObj_map _ h3]
    ·refine PF.mk (by simp [p1]) (by simp [p2]) fun i en y g1 g2 => ?_
     simp only [Array.toList_push] at g1
     rcases Nat.lt_or_ge i es.toList.length with hi | hi
     ·rw [List.getElem?_append_left hi] at g1
      rw [List.getElem?_append_left (by rw [p2]; exact hi)] at g2
      obtain ⟨z, r1, r2⟩ := p3 i en g1
      rw [g2] at r1; injection r1 with r1; subst r1; exact r2
     ·rw [List.getElem?_append_right hi] at g1
      rw [List.getElem?_append_right (by rw [p2]; exact hi)] at g2
      rw [p2] at g2
      cases hj : i - es.toList.length with
      | zero =>
       rw [hj] at g1 g2
       simp at g1 g2
       subst g1 g2
       exact hxv
      | succ j => rw [hj] at g1; simp at g1
  ·rcases hl with ⟨j, h6, rfl, rfl⟩ | ⟨hn, _, _⟩
   ·have := jS hnd h6 q3
    subst this
    have hkey : ((es[j]?).map (·.key)).getD kv = kv := by
     rw [show es[j]? = some en by simpa using q1]; simp [q2]
    have hstay : (Instr.keyThatStays kv kv).run P cx.w = .ok kv cx.w := by simp [Instr.keyThatStays, K.bits kv hgk]
    refine ⟨es.modify j fun e => { e with key := kv, val := a.eval v }, clock, ?_, ?_, ?_⟩
    ·simp [Instr.mapUpdate, run_underlying (qV (P := P) ht hs), Result.andThen, Go.MapKept.run_getObj_map h3, K.chk _ _ cx.w hgk, g1, hkey, hstay, run_setObj_map _ h3]
    ·rw [Array.toList_modify]; exact births_modify h4 _ _ _
    ·rw [Array.toList_modify]
     refine PF.mk ?_ (by simp [p2]) fun i e' y g1 g2 => ?_
     ·rw [p1]
      apply List.ext_getElem?
      intro i
      simp only [List.getElem?_map, List.getElem?_modify]
      by_cases e : j = i
      ·subst e; rw [q1]; simp [q2]
      ·simp [e]
     ·rw [List.getElem?_modify] at g1
      rw [List.getElem?_set] at g2
      by_cases e : j = i
      ·subst e
       rw [q1] at g1
       simp at g1
       subst g1
       rw [if_pos rfl] at g2
       split at g2
       ·injection g2 with g2; subst g2; exact hxv
       ·cases g2
      ·rw [if_neg e] at g2
       simp only [e, if_false] at g1
       cases h9 : es.toList[i]? with
       | none => rw [h9] at g1; cases g1
       | some e9 =>
        rw [h9] at g1
        simp at g1
        subst g1
        obtain ⟨z, r1, r2⟩ := p3 i e9 h9
        rw [g2] at r1; injection r1 with r1; subst r1; exact r2
   ·exact absurd (List.mem_of_getElem? q3) hn
 obtain ⟨es', clock', hrun, hB, hp⟩ := main
 exact ⟨_, by simp only [execOp, ho, e1, e2, Sem.run_bind, hrun, Result.andThen_ok, Sem.run_pure], hc.st.mapWr hk h1 h2 h3 hB hp⟩
theorem ev_delete {t kt e kk : Nat} {d : TD} {good : Value → Prop} {u q : Operand} {ks ks' : List Value} {xs xs' : List AV} {kv : Value} {L' : List LB} {ats : Array TypeId} (K : KeyOk P kt good) (h : val G S u = some (.mp kk)) (hk : L[kk]? = some (.map ks xs))
  {ka : AV} (hq : val G S q = some ka) (hka : ∀ c y, R c ka y → y = kv) (hat : ats = #[t, kt]) (ht : lk td t = some d) (hs : d.k = .map kt e) (hg : ∀ k ∈ ks, good k) (hgk : good kv)
  (hl : MDel ks xs kv ks' xs') (hnd : ks.Nodup) (hL : L.set kk (.map ks' xs') = L') : Ev2 P G N (.call { callee := .builtin .delete, args := #[u, q], argTypes := ats }) ty S L (.tup []) L' := by
 subst hL hat
 intro o ho _ cx a hc
 obtain ⟨b, es, clock, e1, h1, h2, h3, h4, h5⟩ := map_R hc h hk
 have e2 := hka _ _ (zn hc hq)
 obtain ⟨rr, g1, g2⟩ := wJ K h5 hg hgk
 obtain ⟨p1, p2, p3⟩ := h5.get
 have main : ∃ es' clock', (Builtin.delete_ #[t, kt] o.type #[.map (some b), kv]).run P cx.w = .ok (.tuple #[]) { cx.w with heap := cx.w.heap.setIfInBounds b (.map es' clock') } ∧ Births clock' es'.toList ∧ PF cx.F cx.w ks' xs' es'.toList := by
  rcases g2 with ⟨rfl, hn⟩ | ⟨i, en, x', rfl, q1, q2, q3, q4, q5⟩
  ·rcases hl with ⟨i, h6, _⟩ | ⟨_, rfl, rfl⟩
   ·exact absurd (List.mem_of_getElem? h6) hn
   ·refine ⟨es, clock, ?_, h4, h5⟩
    simp [Builtin.delete_, run_underlying (qV (P := P) ht hs), Result.andThen, Go.MapKept.run_getObj_map h3, K.chk _ _ cx.w hgk, g1, run_setObj_map _ h3]
  ·rcases hl with ⟨j, h6, rfl, rfl⟩ | ⟨hn, _, _⟩
   ·have := jS hnd h6 q3
    subst this
    have hjl : j < es.size := by simpa using (List.getElem?_eq_some_iff.1 q1).1
    have her : (es.eraseIdxIfInBounds j).toList = es.toList.eraseIdx j := by
     unfold Array.eraseIdxIfInBounds
     rw [dif_pos hjl]; simp
    refine ⟨es.eraseIdxIfInBounds j, clock, ?_, by rw [her]; exact births_erase h4 j, ?_⟩
    ·simp [Builtin.delete_, run_underlying (qV (P := P) ht hs), Result.andThen, Go.MapKept.run_getObj_map h3, K.chk _ _ cx.w hgk, g1, run_setObj_map _ h3]
    ·rw [her]
     refine PF.mk ?_ ?_ fun i e' y r1 r2 => ?_
     ·rw [p1]
      apply List.ext_getElem?
      intro i
      simp only [List.getElem?_map, List.getElem?_eraseIdx]
      split <;> rfl
     ·rw [List.length_eraseIdx, List.length_eraseIdx, p2]
     ·rw [List.getElem?_eraseIdx] at r1 r2
      by_cases hij : i < j
      ·rw [if_pos hij] at r1 r2
       obtain ⟨z, s1, s2⟩ := p3 i e' r1
       rw [r2] at s1; injection s1 with s1; subst s1; exact s2
      ·rw [if_neg hij] at r1 r2
       obtain ⟨z, s1, s2⟩ := p3 (i + 1) e' r1
       rw [r2] at s1; injection s1 with s1; subst s1; exact s2
   ·exact absurd (List.mem_of_getElem? q3) hn
 obtain ⟨es', clock', hrun, hB, hp⟩ := main
 refine ⟨.tuple #[], { cx with w := { cx.w with heap := cx.w.heap.setIfInBounds b (.map es' clock') } }, ?_, by simp only [R]; exact ⟨#[], rfl, by simp only [TR]⟩, hc.st.mapWr hk h1 h2 h3 hB hp⟩
 simp only [execOp, ho, resolve, invoke, builtin, Sem.run_bind, Sem.run_pure, Result.andThen_ok, List.map_toArray, List.map_cons, List.map_nil, e1, e2, hrun]
section data
variable {K V : Type} [DecidableEq K]
def aget (m : List (K × V)) (k : K) : Option V := (m.find? fun p => decide (p.1 = k)).map (·.2)
def aput (m : List (K × V)) (k : K) (v : V) : List (K × V) := match m.findIdx? fun p => decide (p.1 = k) with
 | some i => m.set i (k, v)
 | none => m ++ [(k, v)]
def adel (m : List (K × V)) (k : K) : List (K × V) := match m.findIdx? fun p => decide (p.1 = k) with
 | some i => m.eraseIdx i
 | none => m
theorem qN {kv : K → Value} {va : V → AV} (hkv : ∀ a b, kv a = kv b → a = b) (m : List (K × V)) (k : K) (z : AV) :
  MLook (m.map fun p => kv p.1) (m.map fun p => va p.2) (kv k) z (match aget m k with | some v => va v | none => z) (aget m k).isSome := by
 unfold aget
 cases h : m.find? fun p => decide (p.1 = k) with
 | none =>
  refine .inr ⟨rfl, fun hm => ?_, rfl⟩
  obtain ⟨p, hp, e⟩ := List.mem_map.1 hm
  have := List.find?_eq_none.1 h p hp
  simp at this
  exact this (hkv _ _ e)
 | some p =>
  have hp := List.find?_some h
  obtain ⟨i, hi⟩ := List.getElem?_of_mem (List.mem_of_find?_eq_some h)
  simp at hp
  refine .inl ⟨rfl, i, ?_, ?_⟩
  ·rw [List.getElem?_map, hi]; simp [hp]
  ·rw [List.getElem?_map, hi]; rfl
theorem Qv {kv : K → Value} {va : V → AV} (hkv : ∀ a b, kv a = kv b → a = b) (m : List (K × V)) (k : K) (v : V) :
  MPut (m.map fun p => kv p.1) (m.map fun p => va p.2) (kv k) (va v) ((aput m k v).map fun p => kv p.1) ((aput m k v).map fun p => va p.2) := by
 unfold aput
 cases h : m.findIdx? fun p => decide (p.1 = k) with
 | none =>
  refine .inr ⟨fun hm => ?_, by simp, by simp⟩
  obtain ⟨p, hp, e⟩ := List.mem_map.1 hm
  have := List.findIdx?_eq_none_iff.1 h p hp
  simp at this
  exact this (hkv _ _ e)
 | some i =>
  obtain ⟨hi, hp, _⟩ := List.findIdx?_eq_some_iff_getElem.1 h
  simp at hp
  refine .inl ⟨i, by rw [List.getElem?_map, List.getElem?_eq_getElem hi]; simp [hp], ?_, ?_⟩
  ·apply List.ext_getElem?
   intro j
   simp only [List.getElem?_map, List.getElem?_set]
   by_cases e : i = j
   ·subst e; simp [hi, hp]
   ·simp [e]
  ·apply List.ext_getElem?
   intro j
   simp only [List.getElem?_map, List.getElem?_set, List.length_map]
   by_cases e : i = j
   ·subst e; simp [hi]
   ·simp [e]
theorem del_data {kv : K → Value} {va : V → AV} (hkv : ∀ a b, kv a = kv b → a = b) (m : List (K × V)) (k : K) :
  MDel (m.map fun p => kv p.1) (m.map fun p => va p.2) (kv k) ((adel m k).map fun p => kv p.1) ((adel m k).map fun p => va p.2) := by
 unfold adel
 cases h : m.findIdx? fun p => decide (p.1 = k) with
 | none =>
  refine .inr ⟨fun hm => ?_, rfl, rfl⟩
  obtain ⟨p, hp, e⟩ := List.mem_map.1 hm
  have := List.findIdx?_eq_none_iff.1 h p hp
  simp at this
  exact this (hkv _ _ e)
 | some i =>
  obtain ⟨hi, hp, _⟩ := List.findIdx?_eq_some_iff_getElem.1 h
  simp at hp
  refine .inl ⟨i, by rw [List.getElem?_map, List.getElem?_eq_getElem hi]; simp [hp], ?_, ?_⟩
  ·apply List.ext_getElem?
   intro j
   simp only [List.getElem?_map, List.getElem?_eraseIdx]
   split <;> rfl
  ·apply List.ext_getElem?
   intro j
   simp only [List.getElem?_map, List.getElem?_eraseIdx]
   split <;> rfl
def ANd (m : List (K × V)) : Prop := (m.map (·.1)).Nodup
theorem ANd.put {m : List (K × V)} (h : ANd m) (k : K) (v : V) : ANd (aput m k v) := by
 unfold ANd aput at *
 split
 ·rename_i i hi
  obtain ⟨hl, hp, _⟩ := List.findIdx?_eq_some_iff_getElem.1 hi
  simp at hp
  have : (m.set i (k, v)).map (·.1) = m.map (·.1) := by
   apply List.ext_getElem?
   intro j
   simp only [List.getElem?_map, List.getElem?_set]
   by_cases e : i = j
   ·subst e; simp [hl, hp]
   ·simp [e]
  rw [this]; exact h
 ·rename_i hn
  rw [List.map_append]
  refine List.nodup_append.2 ⟨h, by simp, fun a ha b hb e => ?_⟩
  simp at hb
  subst hb e
  obtain ⟨p, hp, e⟩ := List.mem_map.1 ha
  have := List.findIdx?_eq_none_iff.1 hn p hp
  simp at this
  exact this e
theorem ANd.del {m : List (K × V)} (h : ANd m) (k : K) : ANd (adel m k) := by
 unfold ANd adel at *
 split
 ·exact h.sublist ((List.eraseIdx_sublist _ _).map _)
 ·exact h
theorem ANd.kv {kv : K → Value} (hkv : ∀ a b, kv a = kv b → a = b) {m : List (K × V)} (h : ANd m) : (m.map fun p => kv p.1).Nodup := by
 unfold ANd at h
 have : (m.map fun p => kv p.1) = (m.map (·.1)).map kv := by simp
 rw [this]
 refine List.Pairwise.map kv (fun a b hne e => hne (hkv a b e)) h
theorem QD (m : List (K × V)) (k : K) (v : V) (k' : K) : aget (aput m k v) k' = if k = k' then some v else aget m k' := by
 unfold aget aput
 split
 ·rename_i i hi
  obtain ⟨hl, hp, hf⟩ := List.findIdx?_eq_some_iff_getElem.1 hi
  simp at hp
  clear hi
  induction m generalizing i with
  | nil => simp at hl
  | cons p r ih =>
   cases i with
   | zero =>
    simp at hp
    simp only [List.set_cons_zero, List.find?_cons]
    by_cases e : k = k'
    ·subst e; simp
    ·simp [e, hp]
   | succ i =>
    simp only [List.set_cons_succ, List.find?_cons]
    have h0 := hf 0 (by omega)
    simp at h0
    by_cases e : p.1 = k'
    ·subst e
     simp [Ne.symm h0]
    ·simp only [e, decide_false]
     exact ih i (by simpa using hl) (fun j hj => by have := hf (j + 1) (by omega); simpa using this) (by simpa using hp)
 ·rename_i hn
  rw [List.find?_append]
  have hn' := List.findIdx?_eq_none_iff.1 hn
  by_cases e : k = k'
  ·subst e
   have : m.find? (fun p => decide (p.1 = k)) = none := List.find?_eq_none.2 fun p hp => by have := hn' p hp; simpa using this
   rw [this]; simp
  ·simp [e]
end data
end
end
section
abbrev Glo.nr (G : Glo) : Glo := { G with ro := none }
theorem St.nr {G : Glo} {c : Cx} {L : List LB} (st : St G c L) : St G.nr c L :=
 ⟨st.n, st.dm, st.inF, st.loc, st.inj, fun k x h => by have := st.blk k x h; cases x <;> exact this, st.glob, st.envd, st.mkd, st.mkE, st.mks, st.pin⟩
theorem St.ofNr {G : Glo} {c : Cx} {L : List LB} (st : St G.nr c L) : St G c L :=
 ⟨st.n, st.dm, st.inF, st.loc, st.inj, fun k x h => by have := st.blk k x h; cases x <;> exact this, st.glob, st.envd, st.mkd, st.mkE, st.mks, st.pin⟩
def ICalls (P : Program) (G : Glo) (f : FuncId) (args : List AV) (L L' : List LB) (r : AV) : Prop :=
 Callable P f ∧ ∀ (cx : Cx) (vs : Array Value), St G cx L → TR cx args vs.toList →
  CallsIn Fence.wide 0 P f vs cx.w fun e w' => ∃ y cx', e = .returned y ∧ R cx' r y ∧ St G cx' L' ∧ Ext cx cx' ∧ SubX allp cx cx' ∧ cx'.mks = cx.mks ∧ cx'.w = w'
def pinsOk : List LB → List LB → Bool
 | [], _ => true
 | .pin :: r, .pin :: s => pinsOk r s
 | .pin :: _, _ => false
 | _ :: r, _ :: s => pinsOk r s
 | _ :: r, [] => pinsOk r []
theorem QQ : ∀ {L L' : List LB}, pinsOk L L' = true → ∀ (k : Nat), L[k]? = some .pin → L'[k]? = some .pin
 | [], _, _, k, h => by simp at h
 | x :: r, [], h, k, hk => by
  cases x <;> simp only [pinsOk, Bool.false_eq_true] at h
  all_goals
   cases k with
   | zero => simp at hk
   | succ k => have := QQ h k (by simpa using hk); simp at this
 | x :: r, y :: s, h, k, hk => by
  cases k with
  | zero =>
   simp at hk
   subst hk
   cases y <;> simp only [pinsOk, Bool.false_eq_true] at h
   rfl
  | succ k =>
   have h' : pinsOk r s = true := by
    cases x <;> cases y <;> simp only [pinsOk, Bool.false_eq_true] at h <;> exact h
   simpa using QQ h' k (by simpa using hk)
section
variable {P : Program} {td : TDs} [T : TOK P td] {G : Glo} {N : Nat}
theorem St.push {c : Cx} {L : List LB} (st : St G c L) : St G { c with m := L.length + 1, dom := fun k => c.dom k ∨ k = L.length, mks := [] } (L ++ [.pin]) ∧
  SubX allp c { c with m := L.length + 1, dom := fun k => c.dom k ∨ k = L.length, mks := [] } := by
 have hs : SubX allp c { c with m := L.length + 1, dom := fun k => c.dom k ∨ k = L.length, mks := [] } :=
  ⟨fun _ h => h, fun _ _ => rfl, fun _ h _ => .inl h, fun _ _ _ => Nat.le_refl _, fun _ _ _ _ => rfl, fun _ _ _ _ => rfl, fun _ _ _ _ => rfl, fun _ _ arr _ _ _ _ _ h => ⟨arr, h, rfl⟩⟩
 have hm : Calm c { c with m := L.length + 1, dom := fun k => c.dom k ∨ k = L.length, mks := [] } := ⟨rfl, rfl, rfl, Nat.le_refl _, fun _ _ _ => rfl, fun _ h => .inl h, fun _ h => .inl h⟩
 refine ⟨⟨ye st, Wz st, st.inF, fun k b h => ⟨.inl (st.loc k b h).1, (st.loc k b h).2⟩, st.inj, fun k x h => ?_, st.glob, st.envd, List.nodup_nil, .inl rfl, (fun r h => by cases h), .inr (by simp)⟩, hs⟩
 rcases ZE h with ⟨h, _⟩ | ⟨rfl, rfl⟩
 ·exact BR.mono hs hm rfl ⟨rfl, rfl, rfl, rfl⟩ (zM x) (fun _ _ => rfl) (st.blk k x h)
 ·simp only [BR]
  cases hφ : c.φ L.length with
  | none => rfl
  | some b => have := st.n _ (st.loc _ b hφ).1; omega
theorem icalls {f : FuncId} {fn : Func} {c : Code} {args : List AV} {L L' : List LB} {r : AV} (hf : P.funcs[f]? = some fn) (hb : fn.body = some c) (hn : fn.ntmps = N) (hN : Nat.ble args.length N = true) (hname : (fn.name == "runtime.NumGoroutine") = false)
  (hp : pinsOk L L' = true) (hlen : L'.length = L.length) (hno : (L'.all fun x => noidB (low L.length) x) = true) (hr : noid (low L.length) r = true)
  (h : awp P G.nr N c (retQ td fn.results.toList fun r' L2 => r' = r ∧ L2.take L.length = L') (argS 0 args) (L ++ [.pin])) : ICalls P G f args L L' r := by
 refine ⟨⟨fn, hf, by rw [hb]; rfl, hname⟩, fun cx vs st ha => ?_⟩
 obtain ⟨st1, hs1⟩ := st.push
 have ha1 : TR { cx with m := L.length + 1, dom := fun k => cx.dom k ∨ k = L.length, mks := [] } args vs.toList := by
  have key : ∀ {asv : List AV} {ys : List Value}, TR cx asv ys → TR { cx with m := L.length + 1, dom := fun k => cx.dom k ∨ k = L.length, mks := [] } asv ys := by
   intro asv
   induction asv with
   | nil => intro ys h; simpa only [TR] using h
   | cons x r ih =>
    intro ys h
    simp only [TR] at h ⊢
    obtain ⟨y, s, e, hx, h⟩ := h
    exact ⟨y, s, e, R.mono hs1 _ _ (Zh x) hx, ih h⟩
  exact key ha
 refine (WO (P := P) hf hb hn (Nat.le_of_ble_eq_true hN) rfl h st1.nr rfl ha1).mono ?_
 rintro e w' ⟨y, r', L2, c2, rfl, ⟨rfl, hL2⟩, st2', hr2, he, rfl⟩
 have st2 := st2'.ofNr
 have hm2 : c2.m = L.length + 1 := he.m
 have hpin : L2[L.length]? = some .pin := by
  rcases st2.pin with h | h
  ·omega
  ·rw [hm2] at h; simpa using h
 have hL2l := zG hpin
 let c3 : Cx := { c2 with φ := fun k => if k < L.length then c2.φ k else none, dom := fun k => c2.dom k ∧ k < L.length, m := cx.m, mks := cx.mks }
 have hφ : ∀ {k b}, c3.φ k = some b → k < L.length ∧ c2.φ k = some b := by
  intro k b h
  simp only [c3] at h
  split at h
  ·rename_i e; exact ⟨e, h⟩
  ·cases h
 have hs23 : SubX (low L.length) c2 c3 := by
  refine ⟨fun _ h => h, fun _ _ => rfl, fun k hk hl => ⟨hk, zK hl⟩, fun _ _ _ => Nat.le_refl _, fun k _ hl _ => ?_, fun _ _ _ _ => rfl, fun _ _ _ _ => rfl, fun _ _ arr _ _ _ _ _ h => ⟨arr, h, rfl⟩⟩
  simp only [c3, if_pos (zK hl)]
 have hm23 : Calm c2 c3 := ⟨rfl, rfl, rfl, Nat.le_refl _, fun _ _ _ => rfl, fun b ⟨k, hk⟩ => .inl ⟨k, (hφ hk).2⟩, fun _ h => .inl h⟩
 have hpn := he.pin
 have hs : SubX allp cx c3 := by
  have hl : ∀ {k}, cx.dom k → low (L.length + 1) k = true := fun hk => Zb (by have := st.n _ hk; omega)
  have hk' : ∀ {k}, cx.dom k → k < L.length := fun hk => st.n _ hk
  refine ⟨fun b h => hpn.F b h, fun b h => hpn.heap b h, fun k hk _ => ⟨hpn.n k (.inl hk) (hl hk), hk' hk⟩, fun k hk _ => hpn.ver k (.inl hk) (hl hk), fun k hk _ hv => ?_, fun k hk _ hv => hpn.sz k (.inl hk) (hl hk) hv, fun k hk _ hv => hpn.len k (.inl hk) (hl hk) hv,
   fun k b arr T hk _ hv hb hh => hpn.row k b arr T (.inl hk) (hl hk) hv hb hh⟩
  simp only [c3, if_pos (hk' hk)]
  exact hpn.φ k (.inl hk) (hl hk) hv
 have hex : Ext cx c3 := by
  refine ⟨he.os, he.tape, he.output, he.size, he.newF, fun b ⟨k, hk⟩ => he.newφ b ⟨k, (hφ hk).2⟩, he.newE, fun r hr => .inl hr, he.keep, rfl, hs.all⟩
 have hget : ∀ {k x}, L'[k]? = some x → L2[k]? = some x ∧ k < L.length := by
  intro k x h
  rw [← hL2, List.getElem?_take] at h
  split at h
  ·rename_i e; exact ⟨h, e⟩
  ·cases h
 refine ⟨y, c3, rfl, R.mono hs23 _ _ hr hr2, ⟨fun k hk => by rw [hlen]; exact hk.2, fun k x hx hne => ⟨st2.dm k x (hget hx).1 hne, (hget hx).2⟩, st2.inF, fun k b h => ?_, fun k k' b h h' => st2.inj _ _ _ (hφ h).2 (hφ h').2, fun k x hx => ?_, st2.glob,
  fun b hb => ⟨(st2.envd b hb).1, (st2.envd b hb).2.1, fun k h => (st2.envd b hb).2.2 k (hφ h).2⟩, st.mkd, st.mkE, fun r hr => ?_, ?_⟩, hex, hs, rfl, rfl⟩
 ·obtain ⟨h1, h2⟩ := hφ h
  have := st2.loc k b h2
  exact ⟨⟨this.1, h1⟩, this.2⟩
 ·obtain ⟨h1, h2⟩ := hget hx
  refine BR.mono hs23 hm23 rfl ⟨if_pos h2, rfl, rfl, rfl⟩ (List.all_eq_true.1 hno x (List.mem_of_getElem? hx)) (fun _ _ => rfl) (st2.blk k x h1)
 ·have h1 := st.mks r hr
  obtain ⟨q1, q2, q3, q4, q5⟩ := h1
  have nr : ¬ rng cx r := fun ⟨k, hk⟩ => q5 k hk
  refine ⟨Nat.lt_of_lt_of_le q1 he.size, (he.keep r q1 q4 nr).trans q2, fun h => ?_, fun h => ?_, fun k h => ?_⟩
  ·rcases he.newF r h with h | h | h
   ·exact q3 h
   ·exact nr h
   ·have : cx.w.heap.size ≤ r := h; omega
  ·rcases he.newE r h with h | h
   ·exact q4 h
   ·have : cx.w.heap.size ≤ r := h; omega
  ·rcases he.newφ r ⟨k, (hφ h).2⟩ with h | h
   ·exact nr h
   ·have : cx.w.heap.size ≤ r := h; omega
 ·rcases st.pin with h | h
  ·exact .inl h
  ·exact .inr (QQ hp _ h)
variable {Q : AQ} {S : SL} {L : List LB} {ops : Array Oper} {rest : List Oper} {ty : TypeId} {pos : String} {af : Array Edge} {d : Nat}
theorem zv {f : FuncId} {us : Array Operand} {ats : Array TypeId} {args : List AV} {r : AV} {L' : List LB} (hargs : vals G S us.toList = some args) (h : ICalls P G f args L L' r) (hd : Nat.blt d N = true)
  (k : awpL P G N ops rest Q ((d, r) :: S) L') : awpL P G N ops (⟨some d, .call { callee := .value (.func f), args := us, argTypes := ats }, ty, pos, af, none⟩ :: rest) Q S L := by
 intro cx a hc
 have ha := ZV hc hargs
 refine wpListIn_plain rfl fun K hK => zy rfl ?_
 rw [qa h.1 (o := ⟨some d, .call { callee := .value (.func f), args := us, argTypes := ats }, ty, pos, af, none⟩) rfl a cx.w, Oper.uponIn_enter]
 refine ⟨fun h => by simp at h, CallsIn.mono (h.2 cx (us.map a.eval) hc.st (by simpa using ha)) ?_⟩
 rintro e w' ⟨y, cx', rfl, hr, st', ex, hs, hmk, rfl⟩
 refine hK _ _ (zq (fun e a w q => q.trans ex) _ _ _ (k cx' _ ((Cn.put (S := S) ⟨st', by rw [hmk]; exact hc.de, hc.sz, hc.sr.mono_all hs⟩ hd hr))))
end
end
section
def noG : LB → Bool
 | .ghost _ | .gone => false
 | _ => true
theorem BR.mono_ng {G : Glo} {p : Nat → Bool} {c c' : Cx} (hs : SubX p c c') {k : Nat} {x : LB} (hg : noG x = true) (hk : Same c c' k) (hid : noidB p x = true)
  (hb : ∀ b, c.φ k = some b → c'.w.heap[b]? = c.w.heap[b]?) (h : BR G c k x) : BR G c' k x := by
 cases x with
 | dead => simp only [BR] at h ⊢; exact hk.φ.trans h
 | pin => simp only [BR] at h ⊢; exact hk.φ.trans h
 | ghost n => cases hg
 | gone => cases hg
 | box cs =>
  simp only [BR] at h ⊢
  obtain ⟨h0, b, arr, T, e1, e2, e3, e4⟩ := h
  exact ⟨hk.ver.trans h0, b, arr, T, hk.φ.trans e1, (hb b e1).trans e2, e3, MR.mono hs cs b 0 (by simpa only [noidB] using hid) (hb b e1) e4⟩
 | row cs =>
  simp only [BR] at h ⊢
  obtain ⟨h0, r1, r2, b, arr, T, e1, e2, e3, e4⟩ := h
  exact ⟨hk.ver.trans h0, hk.sz.trans r1, hk.len.trans r2, b, arr, T, hk.φ.trans e1, (hb b e1).trans e2, e3, MR.mono hs cs b 0 (by simpa only [noidB] using hid) (hb b e1) e4⟩
 | own v E sz es =>
  simp only [BR] at h ⊢
  obtain ⟨h0, h1, h2, h⟩ := h
  refine ⟨hk.ver.trans h0, hk.sz.trans h1, hk.len.trans h2, ?_⟩
  rcases h with ⟨e1, e2⟩ | ⟨b, arr, e1, e2, e3, e4⟩
  ·exact .inl ⟨hk.φ.trans e1, e2⟩
  ·exact .inr ⟨b, arr, hk.φ.trans e1, (hb b e1).trans e2, e3, EF.mono hs.F hs.heap sz es b 0 (hb b e1) e4⟩
 | map ks xs =>
  simp only [BR] at h ⊢
  obtain ⟨h0, b, es, clock, e1, e2, e3, e4⟩ := h
  exact ⟨hk.ver.trans h0, b, es, clock, hk.φ.trans e1, (hb b e1).trans e2, e3, PF.mono hs.F hs.heap _ _ _ e4⟩
 | mapb m ck bs ks xs =>
  simp only [BR] at h ⊢
  obtain ⟨h0, e1, es, e2, e3, e5, e4⟩ := h
  exact ⟨hk.ver.trans h0, hk.φ.trans e1, es, (hb m e1).trans e2, e3, e5, PF.mono hs.F hs.heap _ _ _ e4⟩
 | obj o =>
  simp only [BR] at h ⊢
  obtain ⟨h0, b, e1, e2⟩ := h
  exact ⟨hk.ver.trans h0, b, hk.φ.trans e1, (hb b e1).trans e2⟩
def grow (E : Nat → Prop) (w w' : World) : Nat → Prop := fun b => E b ∨ (w.heap.size ≤ b ∧ b < w'.heap.size)
structure Rd (E : Nat → Prop) (w w' : World) : Prop where
 os : w'.os = w.os
 tape : w'.tape = w.tape
 output : w'.output = w.output
 size : w.heap.size ≤ w'.heap.size
 keep : ∀ b, b < w.heap.size → ¬ E b → w'.heap[b]? = w.heap[b]?
def YieldOk (P : Program) (env : Env) (yv : Value) (n : Nat) (xs : List AV) : Prop :=
 ∀ (U V E : Nat → Prop) (w : World) (ys : Array Value), (∀ b, U b ∨ V b → b < w.heap.size) → (∀ b, V b → ¬ U b) → (∀ b, E b → b < w.heap.size ∧ ¬ U b ∧ ¬ V b) → env.J n U V E w → TF V w xs ys.toList →
  ∃ (l : Nat) (f : FuncId) (tmps : Array Value) (asv bd : Code), yv = .func (.yield l) #[] #[] ∧ (Instr.yield l ys).run P w = .ok (.round l f tmps asv bd) w ∧
   RoundIn Fence.wide 0 P l f tmps asv bd w fun e w' => ∃ b, e = .returned (.bool b) ∧ Rd E w w' ∧ (bif b then env.J (n + 1) U V (grow E w w') w' else env.X U V (grow E w w') w')
def IterC (P : Program) (g : List (Nat × List AV)) (f : FuncId) (caps : List AV) (xss : List (List AV)) : Prop :=
 Callable P f ∧ ∀ (env : Env) (yv : Value), (∀ n xs, xss[n]? = some xs → YieldOk P env yv n xs) → ∀ (cx : Cx) (vs : Array Value), St ⟨g, env, none⟩ cx [.ghost 0] → cx.mks = [] → TF cx.F cx.w (.v yv :: caps) vs.toList →
  CallsIn Fence.wide 0 P f vs cx.w fun e w' => ∃ y cx' L', e = .returned y ∧ St ⟨g, env, none⟩ cx' L' ∧ (L'[0]? = some (.ghost xss.length) ∨ L'[0]? = some .gone) ∧ Ext cx cx' ∧ cx'.w = w'
section
variable {P : Program} {td : TDs} [T : TOK P td] {G : Glo} {N : Nat}
theorem iterC {g : List (Nat × List AV)} {f : FuncId} {fn : Func} {c : Code} {caps : List AV} {xss : List (List AV)} (hf : P.funcs[f]? = some fn) (hb : fn.body = some c) (hn : fn.ntmps = N) (hN : Nat.ble (caps.length + 1) N = true) (hname : (fn.name == "runtime.NumGoroutine") = false)
  (h : ∀ (env : Env) (yv : Value), (∀ n xs, xss[n]? = some xs → YieldOk P env yv n xs) → awp P ⟨g, env, none⟩ N c (retQ td fn.results.toList fun _ L' => L'[0]? = some (.ghost xss.length) ∨ L'[0]? = some .gone) (argS 0 (.v yv :: caps)) [.ghost 0]) : IterC P g f caps xss := by
 refine ⟨⟨fn, hf, by rw [hb]; rfl, hname⟩, fun env yv hy cx vs st hmk ha => ?_⟩
 refine (WO (P := P) hf hb hn (by simpa using Nat.le_of_ble_eq_true hN) rfl (h env yv hy) st hmk (TR.of_TF _ _ _ ha)).mono ?_
 rintro e w' ⟨y, r', L', c2, rfl, hq, st2, hr, he, rfl⟩
 exact ⟨y, c2, L', rfl, st2, hq, he, rfl⟩
variable {Q : AQ} {S : SL} {L : List LB} {ops : Array Oper} {rest : List Oper} {ty : TypeId} {pos : String} {af : Array Edge} {d : Nat}
theorem qm {p : Operand} {us : Array Operand} {ats : Array TypeId} {yv : Value} {n k : Nat} {xs : List AV} {L1 L2 : List LB} (hp : val G S p = some (.v yv)) (hargs : vals G S us.toList = some xs) (hF : xs.all isF = true) (hk : L[k]? = some (.ghost n))
  (hng : ((L.set k .dead).all noG) = true) (hy : YieldOk P G.env yv n xs) (hd : Nat.blt d N = true) (hL1 : L.set k (.ghost (n + 1)) = L1) (hL2 : L.set k .gone = L2)
  (k1 : awpL P G N ops rest Q ((d, .v (.bool true)) :: S) L1) (k2 : awpL P G N ops rest Q ((d, .v (.bool false)) :: S) L2) :
  awpL P G N ops (⟨some d, .call { callee := .value p, args := us, argTypes := ats }, ty, pos, af, none⟩ :: rest) Q S L := by
 subst hL1 hL2
 intro cx a hc
 have st := hc.st
 have hkl := zG hk
 have hb := st.blk k _ hk
 simp only [BR] at hb
 obtain ⟨hφk, hJ⟩ := hb
 have hmk : cx.mks = [] := by
  rcases st.mkE with h | h
  ·exact h
  ·rw [h] at hJ; exact hJ.elim
 have e1 := zn hc hp
 simp only [R] at e1
 have ha := QF hF (ZV hc hargs)
 obtain ⟨l, f, tmps, asv, bd, hyv, hrun, hround⟩ := hy (rng cx) cx.F cx.E cx.w (us.map a.eval) (fun b h => by
  rcases h with ⟨j, h⟩ | h
  ·exact (st.loc j b h).2.2
  ·exact st.inF b h) (fun b h ⟨j, hj⟩ => (st.loc j b hj).2.1 h) (fun b h => by have := st.envd b h; exact ⟨this.1, fun ⟨j, hj⟩ => this.2.2 j hj, this.2.1⟩) hJ (by simpa using ha)
 refine wpListIn_plain rfl fun K hK => zy rfl ?_
 have hexec : (execOp a.eval ⟨some d, .call { callee := .value p, args := us, argTypes := ats }, ty, pos, af, none⟩).run P cx.w = .ok (.round l f tmps asv bd) cx.w := by
  simp only [execOp, resolve, e1, hyv, Deferred.ofValue, Sem.run_bind, Sem.run_pure, Result.andThen_ok, invoke]
  have : (#[] : Array Value) ++ us.map a.eval = us.map a.eval := by simp
  rw [this]
  exact hrun
 rw [hexec, Oper.uponIn_round]
 refine ⟨fun h => by simp at h, RoundIn.mono hround ?_⟩
 rintro e w' ⟨b, rfl, hrd, hj⟩
 -- the context behind
 let c' : Cx := { cx with w := w', E := grow cx.E cx.w w' }
 have hkeepF : ∀ z, cx.F z → w'.heap[z]? = cx.w.heap[z]? := fun z hz => hrd.keep z (st.inF z hz) (fun hE => (st.envd z hE).2.1 hz)
 have hkeepφ : ∀ j z, cx.φ j = some z → w'.heap[z]? = cx.w.heap[z]? := fun j z hz => hrd.keep z (st.loc j z hz).2.2 (fun hE => (st.envd z hE).2.2 j hz)
 have hs : SubX allp cx c' := ⟨fun _ h => h, hkeepF, fun _ h _ => h, fun _ _ _ => Nat.le_refl _, fun _ _ _ _ => rfl, fun _ _ _ _ => rfl, fun _ _ _ _ => rfl, fun j z arr T _ _ _ hb hh => ⟨arr, (hkeepφ j z hb).trans hh, rfl⟩⟩
 have hex : Ext cx c' := by
  refine ⟨hrd.os, hrd.tape, hrd.output, hrd.size, fun _ h => .inl h, fun _ h => .inl h, fun z h => ?_, fun r hr => .inl hr, fun z hz hE _ => hrd.keep z hz hE, rfl, hs.all⟩
  rcases h with h | h
  ·exact .inl h
  ·exact .inr h.1
 have key : ∀ x : LB, x ≠ .dead → (x = .ghost (n + 1) ∧ b = true) ∨ (x = .gone ∧ b = false) → St G c' (L.set k x) := by
  intro x hxd hx
  refine ⟨fun j h => by rw [List.length_set]; exact st.n j h, fun j y h hy => ?_, fun z h => Nat.lt_of_lt_of_le (st.inF z h) hrd.size, fun j z h => ?_, st.inj, fun j y h => ?_, qO st hs, fun z h => ?_, by show cx.mks.Nodup; exact st.mkd, .inl hmk, fun r hr => ?_, ?_⟩
  ·rcases qG h with ⟨hj, h⟩ | ⟨rfl, rfl, _⟩
   ·exact st.dm j y h hy
   ·exact st.dm j _ hk (by simp)
  ·have := st.loc j z h; exact ⟨this.1, this.2.1, Nat.lt_of_lt_of_le this.2.2 hrd.size⟩
  ·rcases qG h with ⟨hj, h⟩ | ⟨rfl, rfl, _⟩
   ·have hg : noG y = true := List.all_eq_true.1 hng y (List.mem_of_getElem? (i := j) (by rw [List.getElem?_set_ne (Ne.symm hj)]; exact h))
    exact BR.mono_ng hs hg ⟨rfl, rfl, rfl, rfl⟩ (zM y) (fun z hz => hkeepφ j z hz) (st.blk j y h)
   ·rcases hx with ⟨rfl, rfl⟩ | ⟨rfl, rfl⟩
    ·simp only [BR]; exact ⟨hφk, hj⟩
    ·simp only [BR]; exact ⟨hφk, hj⟩
  ·rcases h with h | h
   ·have := st.envd z h; exact ⟨Nat.lt_of_lt_of_le this.1 hrd.size, this.2⟩
   ·refine ⟨h.2, fun hF => ?_, fun j hj => ?_⟩
    ·have := st.inF z hF; omega
    ·have := (st.loc j z hj).2.2; omega
  ·have : r ∈ cx.mks := hr
   rw [hmk] at this; cases this
  ·rcases st.pin with h | h
   ·exact .inl h
   ·refine .inr (JH (by rw [hk]; simp) h)
 cases b with
 | true => exact hK _ _ (zq (fun e a w q => q.trans hex) _ _ _ (k1 c' _ (Cn.put (S := S) ⟨key _ (by simp) (.inl ⟨rfl, rfl⟩), hc.de, hc.sz, hc.sr.mono_all hs⟩ hd (by simp only [R]))))
 | false => exact hK _ _ (zq (fun e a w q => q.trans hex) _ _ _ (k2 c' _ (Cn.put (S := S) ⟨key _ (by simp) (.inr ⟨rfl, rfl⟩), hc.de, hc.sz, hc.sr.mono_all hs⟩ hd (by simp only [R]))))
end
end
end Go.Ac
