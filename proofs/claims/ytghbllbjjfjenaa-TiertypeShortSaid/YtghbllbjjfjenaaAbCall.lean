/- Calls, in the abstract logic. -/
import Derived.Test.YtghbllbjjfjenaaAbApp
namespace Go.Ab
set_option linter.unusedSectionVars false
set_option linter.unusedVariables false
set_option linter.unusedSimpArgs false
set_option linter.unnecessarySimpa false

def Callable (P : Program) (f : FuncId) : Prop := ∃ fn, P.funcs[f]? = some fn ∧ fn.body.isNone = false ∧ (fn.name == "runtime.NumGoroutine") = false

/-- A context without local blocks. -/
def Cx.bare (F : Nat → Prop) (w : World) : Cx := { F := F, φ := fun _ => none, sz := fun _ => 0, len := fun _ => 0, n := 0, w := w }

/-- A call with arguments in memory that never changes; the result is such a tree, too. -/
def PCalls (P : Program) (G : List (Nat × List AV)) (f : FuncId) (args : List AV) (r : AV) : Prop :=
  Callable P f ∧ ∀ (F : Nat → Prop) (w : World) (vs : Array Value), St G (Cx.bare F w) [] → TF F w args vs.toList →
    Calls P f vs w fun e w' => ∃ y F', e = .returned y ∧ RF F' w' r y ∧ St G (Cx.bare F' w') [] ∧ Ext (Cx.bare F w) (Cx.bare F' w')

/-- The same; the result is a slice that nobody else holds. -/
def OCalls (P : Program) (G : List (Nat × List AV)) (f : FuncId) (args : List AV) (E sz : Nat) (es : List (List AV)) : Prop :=
  Callable P f ∧ ∀ (F : Nat → Prop) (w : World) (vs : Array Value), St G (Cx.bare F w) [] → TF F w args vs.toList →
    Calls P f vs w fun e w' => ∃ y c', e = .returned y ∧ R c' (.os 0) y ∧ St G c' [.own E sz es] ∧ Ext (Cx.bare F w) c' ∧ c'.w = w'

mutual
/-- A tree, all local blocks frozen. -/
def ex (L : List LB) : AV → AV
  | .os k => match L[k]? with
    | some (.own _ sz es) => .fs sz es.length es
    | _ => .any
  | .lag cs => .agg (exL L cs)
  | .tup cs => .tup (exL L cs)
  | .ifc t x => .ifc t (ex L x)
  | .lp k q => match L[k]? with
    | some (.box cs) => if cs.all isF then .fp (cs.drop q) else .any
    | _ => .any
  | .ep _ _ _ => .any
  | .mp _ => .any
  | .fn f as bs => .fn f (exL L as) (exL L bs)
  | .any => .any
  | .v x => .v x
  | .fs sz n es => .fs sz n es
  | .fz => .fz
  | .fp cs => .fp cs
  | .agg cs => .agg cs
def exL (L : List LB) : List AV → List AV
  | [] => []
  | x :: r => ex L x :: exL L r
end

def allF (c : Cx) : Nat → Prop := fun b => c.F b ∨ ∃ k, c.φ k = some b

section
variable {G : List (Nat × List AV)} {c : Cx} {L : List LB} (st : St G c L)
include st
theorem MF_of_MR : ∀ {cs : List AV} {b off : Nat}, cs.all isF = true → MR c cs b off → MF (allF c) c.w cs b off
  | [], _, _, _, _ => by simp only [MF]
  | x :: r, b, off, hf, h => by
    simp only [MR] at h; simp only [MF]
    simp only [List.all_cons, Bool.and_eq_true] at hf
    obtain ⟨⟨u, hc, hx, h1⟩, h⟩ := h
    exact ⟨⟨u, hc, RF.mono (fun _ h => .inl h) (fun _ _ => rfl) _ _ (RF_of_R hf.1 hx), h1⟩, MF_of_MR hf.2 h⟩
mutual
theorem ex_R : ∀ (x : AV) (y : Value), R c x y → RF (allF c) c.w (ex L x) y
  | .os k, y, h => by
    simp only [ex]
    split
    · rename_i E sz es hk
      have hb := st.blk _ _ hk
      simp only [R, OS] at h
      simp only [BR] at hb
      obtain ⟨b1, b2, hb⟩ := hb
      obtain ⟨_, h⟩ := h
      simp only [RF]
      refine ⟨trivial, ?_⟩
      rcases h with ⟨h1, rfl, h2⟩ | ⟨b, cap, arr, T, h1, rfl, h2, h3, h4, h5⟩
      · exact ⟨none, 0, by rw [← b2, h1], by rw [← b2, h1]; exact Nat.le_refl _, fun h => absurd (b2.symm.trans h1) h⟩
      · refine ⟨_, cap, by rw [b2], by rw [← b2]; exact h3, fun _ => ⟨b, 0, rfl, .inr ⟨k, h1⟩, ?_⟩⟩
        rcases hb with ⟨h6, _⟩ | ⟨b', arr', h6, h7, h8, h9⟩
        · rw [h1] at h6; cases h6
        · rw [h1] at h6; injection h6 with h6; subst h6
          exact EF.mono (fun _ h => .inl h) (fun _ _ => rfl) _ _ _ _ rfl h9
    · simp only [RF]
  | .lag cs, y, h => by
    simp only [R] at h; simp only [ex, RF]
    obtain ⟨xs, e, h⟩ := h
    exact ⟨xs, e, exL_LR cs _ h⟩
  | .tup cs, y, h => by
    simp only [R] at h; simp only [ex, RF]
    obtain ⟨xs, e, h⟩ := h
    exact ⟨xs, e, exL_TR cs _ h⟩
  | .ifc t x, y, h => by
    simp only [R] at h; simp only [ex, RF]
    obtain ⟨u, e, h⟩ := h
    exact ⟨u, e, ex_R x u h⟩
  | .lp k q, y, h => by
    simp only [ex]
    split
    · rename_i cs hk
      split
      · rename_i hf
        have hb := st.blk _ _ hk
        simp only [R] at h
        simp only [BR] at hb
        obtain ⟨_, b, h1, rfl⟩ := h
        obtain ⟨b', arr, T, h2, h3, h4, h5⟩ := hb
        rw [h1] at h2; injection h2 with h2; subst h2
        simp only [RF]
        refine ⟨b, q, rfl, .inr ⟨k, h1⟩, ?_⟩
        have := (MF_of_MR st hf h5).drop q
        rwa [Nat.zero_add] at this
      · simp only [RF]
    · simp only [RF]
  | .ep _ _ _, y, h => by simp only [ex, RF]
  | .mp _, y, h => by simp only [ex, RF]
  | .fn f as bs, y, h => by
    simp only [R] at h; simp only [ex, RF]
    obtain ⟨xs, ys, e, h, h2⟩ := h
    exact ⟨xs, ys, e, exL_TR as _ h, exL_TR bs _ h2⟩
  | .any, y, h => by simp only [ex, RF]
  | .v x, y, h => by simpa only [ex, RF, R] using h
  | .fs sz n es, y, h => by simp only [ex]; simp only [R] at h; exact RF.mono (fun _ h => .inl h) (fun _ _ => rfl) _ _ h
  | .fz, y, h => by simpa only [ex, RF, R] using h
  | .fp cs, y, h => by simp only [ex]; simp only [R] at h; exact RF.mono (fun _ h => .inl h) (fun _ _ => rfl) _ _ h
  | .agg cs, y, h => by simp only [ex]; simp only [R] at h; exact RF.mono (fun _ h => .inl h) (fun _ _ => rfl) _ _ h
theorem exL_LR : ∀ (cs : List AV) (ys : List Value), LR c cs ys → LF (allF c) c.w (exL L cs) ys
  | [], ys, h => by simpa only [LR, exL, LF] using h
  | x :: r, ys, h => by
    simp only [LR] at h; simp only [exL, LF]
    obtain ⟨y, s, e, hx, h1, h⟩ := h
    exact ⟨y, s, e, ex_R x y hx, h1, exL_LR r s h⟩
theorem exL_TR : ∀ (cs : List AV) (ys : List Value), TR c cs ys → TF (allF c) c.w (exL L cs) ys
  | [], ys, h => by simpa only [TR, exL, TF] using h
  | x :: r, ys, h => by
    simp only [TR] at h; simp only [exL, TF]
    obtain ⟨y, s, e, hx, h⟩ := h
    exact ⟨y, s, e, ex_R x y hx, exL_TR r s h⟩
end

theorem St.freeze : St G (Cx.bare (allF c) c.w) [] := by
  refine ⟨rfl, ?_, fun k b h => by simp [Cx.bare] at h, fun k k' b h => by simp [Cx.bare] at h, fun k x h => by simp at h, ?_⟩
  · rintro b (h | ⟨k, h⟩)
    · exact st.inF b h
    · exact (st.loc k b h).2.2
  · intro q hq
    exact ⟨.inl (st.glob q hq).1, MF.mono (fun _ h => .inl h) (fun _ _ => rfl) _ _ _ rfl (st.glob q hq).2⟩
theorem Ext.freeze : Ext c (Cx.bare (allF c) c.w) :=
  ⟨rfl, rfl, rfl, Nat.le_refl _, fun _ h => .inl h, fun b h => h.elim .inl (fun h => .inr (.inl h)), fun k b h => by simp [Cx.bare] at h, fun _ _ _ => rfl⟩
theorem St.bare : St G (Cx.bare c.F c.w) [] :=
  ⟨rfl, st.inF, fun k b h => by simp [Cx.bare] at h, fun k k' b h => by simp [Cx.bare] at h, fun k x h => by simp at h, st.glob⟩
end

theorem TF_of_TR {c : Cx} : ∀ {cs : List AV} {ys : List Value}, cs.all isF = true → TR c cs ys → TF c.F c.w cs ys
  | [], ys, _, h => by simpa only [TF, TR] using h
  | x :: r, ys, hf, h => by
    simp only [TR] at h; simp only [TF]
    simp only [List.all_cons, Bool.and_eq_true] at hf
    obtain ⟨y, s, e, hx, h⟩ := h
    exact ⟨y, s, e, RF_of_R hf.1 hx, TF_of_TR hf.2 h⟩

/-! ### A body -/
/-- The results in slots. -/
def resOne (td : TDs) (S : SL) (L : List LB) : ResultVar → Option AV
  | .tmp t => get S t
  | .cell p t => match get S p, lk td t with
    | some (.lp k 0), some d => match L[k]? with
      | some (.box bs) => if d.k.row then (if bs.length = d.size then some (.lag bs) else none) else bs[0]?
      | _ => none
    | _, _ => none
def resAll (td : TDs) (S : SL) (L : List LB) : List ResultVar → Option (List AV)
  | [] => some []
  | r :: rs => match resOne td S L r, resAll td S L rs with
    | some x, some xs => some (x :: xs)
    | _, _ => none
def resV (td : TDs) (S : SL) (L : List LB) (rs : List ResultVar) : Option AV :=
  match resAll td S L rs with
  | some [x] => some x
  | some xs => some (.tup xs)
  | none => none

section
variable {P : Program} {td : TDs} [T : TOK P td] {G : List (Nat × List AV)} {N : Nat}

/-- A result, read. -/
def resS (tmps : Array Value) : ResultVar → Sem Value
  | .tmp t => pure (tmps.getD t undef)
  | .cell a t => do loadVar t (← asAddr (tmps.getD a undef))
theorem results_eq (fn : Func) (tmps : Array Value) : results fn tmps = (do let vs ← fn.results.mapM (resS tmps); pure (if h : vs.size = 1 then vs[0] else .tuple vs)) := by
  unfold results
  congr 1

theorem resOne_run {S : SL} {L : List LB} {cx : Cx} {a : Act} (hc : Cn G N S L cx a) {r : ResultVar} {x : AV} (h : resOne td S L r = some x) :
    ∃ y, (resS a.tmps r).run P cx.w = .ok y cx.w ∧ R cx x y := by
  cases r with
  | tmp t => exact ⟨_, rfl, hc.sr t x h⟩
  | cell p t =>
    simp only [resOne] at h
    split at h
    · rename_i k d hp ht
      split at h
      · rename_i bs hk
        have hb := hc.st.blk _ _ hk
        have e1 := hc.sr p _ hp
        simp only [R] at e1
        simp only [BR] at hb
        obtain ⟨hk', b, hb', e1⟩ := e1
        obtain ⟨b2, arr, T', hb2, hh, hl, hm⟩ := hb
        rw [hb'] at hb2; injection hb2 with hb2; subst hb2
        split at h
        · rename_i hr
          split at h
          · rename_i hn
            injection h with h; subst h
            obtain ⟨xs, h1, h2⟩ := loadR_agg (P := P) ht hr hm hn
            exact ⟨.agg xs.toArray, by simp [resS, e1, asAddr, h1], by simp only [R]; exact ⟨_, rfl, h2⟩⟩
          · cases h
        · rename_i hr
          obtain ⟨y, hy, hx, _⟩ := hm.get h
          rw [Nat.zero_add] at hy
          exact ⟨y, by simp [resS, e1, asAddr, load_one (P := P) ht (by simpa using hr) hy], hx⟩
      · cases h
    · cases h

theorem resAll_run {S : SL} {L : List LB} {cx : Cx} {a : Act} (hc : Cn G N S L cx a) : ∀ {rs : List ResultVar} {xs : List AV}, resAll td S L rs = some xs →
    ∃ ys : List Value, (rs.mapM (resS a.tmps)).run P cx.w = .ok ys cx.w ∧ TR cx xs ys
  | [], xs, h => by
    simp only [resAll, Option.some.injEq] at h; subst h
    exact ⟨[], by simp, by simp only [TR]⟩
  | r :: rs, xs, h => by
    simp only [resAll] at h
    split at h
    · rename_i x xs' hx hxs
      injection h with h; subst h
      obtain ⟨y, h1, h2⟩ := resOne_run (P := P) hc hx
      obtain ⟨ys, h3, h4⟩ := resAll_run hc hxs
      refine ⟨y :: ys, ?_, by simp only [TR]; exact ⟨y, ys, rfl, h2, h4⟩⟩
      simp only [List.mapM_cons, Sem.run_bind, h1, Result.andThen_ok, h3, Sem.run_pure]
    · cases h

theorem resV_run {fn : Func} {S : SL} {L : List LB} {cx : Cx} {a : Act} (hc : Cn G N S L cx a) {x : AV} (h : resV td S L fn.results.toList = some x) :
    ∃ y, (results fn a.tmps).run P cx.w = .ok y cx.w ∧ R cx x y := by
  unfold resV at h
  have key : ∀ xs, resAll td S L fn.results.toList = some xs → ∃ ys : Array Value, (results fn a.tmps).run P cx.w = .ok (if h : ys.size = 1 then ys[0] else .tuple ys) cx.w ∧ TR cx xs ys.toList := by
    intro xs hxs
    obtain ⟨ys, h1, h2⟩ := resAll_run (P := P) hc hxs
    refine ⟨ys.toArray, ?_, by simpa using h2⟩
    rw [results_eq, Array.mapM_eq_mapM_toList]
    simp only [Sem.run_bind, Sem.run_map, h1, Result.andThen_ok, Sem.run_pure]
  cases hz : resAll td S L fn.results.toList with
  | none => simp [hz] at h
  | some zs =>
  rw [hz] at h
  split at h
  · rename_i z hz'
    injection hz' with hz'; subst hz'
    injection h with h; subst h
    obtain ⟨ys, h1, h2⟩ := key _ hz
    simp only [TR] at h2
    obtain ⟨y, s, e, hx, rfl⟩ := h2
    have : ys = #[y] := by apply Array.ext'; simpa using e
    subst this
    exact ⟨y, by simpa using h1, hx⟩
  · rename_i xs hne hz'
    injection hz' with hz'; subst hz'
    injection h with h; subst h
    obtain ⟨ys, h1, h2⟩ := key _ hz
    have hl : ys.size ≠ 1 := by
      intro e
      match zs, h2, hne with
      | [], h2, _ => simp only [TR] at h2; simp at h2; subst h2; simp at e
      | [z], _, hne => exact hne z rfl
      | z1 :: z2 :: r, h2, _ =>
        simp only [TR] at h2
        obtain ⟨y, s, e1, _, y2, s2, e2, _⟩ := h2
        have := congrArg List.length e1
        rw [e2] at this
        simp at this; omega
    exact ⟨.tuple ys, by simpa [hl] using h1, by simp only [R]; exact ⟨ys, rfl, h2⟩⟩
  · cases h

/-- What a body must end in. -/
def retQ (td : TDs) (rs : List ResultVar) (Q : AV → List LB → Prop) : AQ :=
  fun e S L => match e with
    | .normal | .ret => ∃ r, resV td S L rs = some r ∧ Q r L
    | _ => False

def argS (i : Nat) : List AV → SL
  | [] => []
  | x :: r => (i, x) :: argS (i + 1) r

theorem argS_get : ∀ {i : Nat} {args : List AV} {t : Nat} {x : AV}, get (argS i args) t = some x → i ≤ t ∧ args[t - i]? = some x
  | i, [], t, x, h => by simp [argS, get] at h
  | i, z :: r, t, x, h => by
    simp only [argS] at h
    rw [get_cons] at h
    split at h
    · rename_i e; subst e; injection h with h; subst h; simp
    · rename_i e
      obtain ⟨h1, h2⟩ := argS_get h
      refine ⟨by omega, ?_⟩
      rw [show t - i = (t - (i + 1)) + 1 by omega]
      simpa using h2

theorem body_wp {f : FuncId} {fn : Func} {c : Code} {args : List AV} {Q : AV → List LB → Prop} (hf : P.funcs[f]? = some fn) (hb : fn.body = some c) (hn : fn.ntmps = N) (hN : args.length ≤ N)
    (h : awp P G N c (retQ td fn.results.toList Q) (argS 0 args) []) {cx : Cx} {vs : Array Value} (st : St G cx []) (ha : TR cx args vs.toList) :
    Calls P f vs cx.w fun e w' => ∃ y S' L' cx' a', e = .returned y ∧ Cn G N S' L' cx' a' ∧ (∃ r, R cx' r y ∧ Q r L') ∧ Ext cx cx' ∧ cx'.w = w' := by
  have hlen : vs.size = args.length := by
    have : ∀ {cs : List AV} {ys : List Value}, TR cx cs ys → ys.length = cs.length := by
      intro cs
      induction cs with
      | nil => intro ys h; simp only [TR] at h; subst h; rfl
      | cons x r ih => intro ys h; simp only [TR] at h; obtain ⟨y, s, rfl, _, h⟩ := h; simp [ih h]
    simpa using this ha
  refine calls_of_wp hf hb (Code.wp_mono ?_ (h cx { tmps := vs ++ Array.replicate (fn.ntmps - vs.size) undef, defers := [] } ⟨st, rfl, by simp; omega, ?_⟩))
  · rintro e a w ⟨S', L', c', q, hc, he, rfl⟩
    cases e <;> simp only [retQ] at q
    all_goals
      obtain ⟨r, hr, hq⟩ := q
      obtain ⟨y, h1, h2⟩ := resV_run (P := P) hc hr
      exact ⟨hc.de, y, h1, y, S', L', c', a, rfl, hc, ⟨r, h2, hq⟩, he, rfl⟩
  · intro t x hx
    obtain ⟨_, h2⟩ := argS_get hx
    obtain ⟨y, h3, h4⟩ := TR.get ha h2
    simp only [Nat.sub_zero, Array.getElem?_toList] at h3
    have hlt : t < vs.size := (Array.getElem?_eq_some_iff.1 h3).1
    have : (vs ++ Array.replicate (fn.ntmps - vs.size) undef).getD t undef = y := by
      rw [Array.getD_eq_getD_getElem?, Array.getElem?_append_left hlt, h3]; rfl
    rw [this]; exact h4

/-- b says no more than a. -/
def Le (a b : AV) : Prop := ∀ F w y, RF F w a y → RF F w b y
theorem Le.of_eq {a b : AV} (h : a = b) : Le a b := fun _ _ _ hy => h ▸ hy
theorem Le.nil (sz : Nat) : Le (.v (.slice none 0 0)) (.fs sz 0 []) := fun F w y h => by
  simp only [RF] at h ⊢
  subst h
  exact ⟨rfl, none, 0, rfl, Nat.le_refl _, fun h => absurd rfl h⟩

theorem pcalls {f : FuncId} {fn : Func} {c : Code} {args : List AV} {r : AV} (hf : P.funcs[f]? = some fn) (hb : fn.body = some c) (hn : fn.ntmps = N) (hN : args.length ≤ N) (hname : (fn.name == "runtime.NumGoroutine") = false)
    (h : awp P G N c (retQ td fn.results.toList fun r' L' => Le (ex L' r') r) (argS 0 args) []) : PCalls P G f args r := by
  refine ⟨⟨fn, hf, by rw [hb]; rfl, hname⟩, fun F w vs st ha => ?_⟩
  refine (body_wp (P := P) hf hb hn hN h st (TR.of_TF _ _ _ ha)).mono ?_
  rintro e w' ⟨y, S', L', cx', a', rfl, hc, ⟨r', hr, hq⟩, he, rfl⟩
  exact ⟨y, allF cx', rfl, hq _ _ _ (ex_R hc.st r' y hr), hc.st.freeze, he.trans (Ext.freeze hc.st)⟩

/-! ### The operation -/
def vals (G : List (Nat × List AV)) (S : SL) : List Operand → Option (List AV)
  | [] => some []
  | o :: r => match val G S o, vals G S r with
    | some x, some xs => some (x :: xs)
    | _, _ => none
theorem vals_R {S : SL} {L : List LB} {cx : Cx} {a : Act} (hc : Cn G N S L cx a) : ∀ {us : List Operand} {xs : List AV}, vals G S us = some xs → TR cx xs (us.map a.eval)
  | [], xs, h => by simp only [vals, Option.some.injEq] at h; subst h; simp only [List.map_nil, TR]
  | o :: r, xs, h => by
    simp only [vals] at h
    split at h
    · rename_i x xs' h1 h2
      injection h with h; subst h
      simp only [List.map_cons, TR]
      exact ⟨_, _, rfl, val_R hc h1, vals_R hc h2⟩
    · cases h

theorem run_call {f : FuncId} (hf : Callable P f) {o : Oper} {us : Array Operand} {ats : Array TypeId} (ho : o.op = .call { callee := .value (.func f), args := us, argTypes := ats }) (a : Act) (w : World) :
    (execOp a.eval o).run P w = .ok (.enter f (us.map a.eval)) w := by
  obtain ⟨fn, h1, h2, h3⟩ := hf
  have h3' : ¬ fn.name = "runtime.NumGoroutine" := by simpa using h3
  have h2' : ¬ fn.body = none := by intro e; rw [e] at h2; cases h2
  simp [execOp, ho, resolve, Act.eval, Deferred.ofValue, invoke, callFunc, h1, h2', h3']

def scal : AV → Bool
  | .v _ => true
  | .any => true
  | .tup cs => cs.all fun x => match x with | .v _ => true | .any => true | _ => false
  | _ => false

theorem scal_R {F F' : Nat → Prop} {w w' : World} : ∀ {cs : List AV} {ys : List Value}, (cs.all fun x => match x with | .v _ => true | .any => true | _ => false) = true → TF F w cs ys → TF F' w' cs ys
  | [], ys, _, h => by simpa only [TF] using h
  | x :: r, ys, hf, h => by
    simp only [TF] at h ⊢
    simp only [List.all_cons, Bool.and_eq_true] at hf
    obtain ⟨y, s, e, hx, h⟩ := h
    refine ⟨y, s, e, ?_, scal_R hf.2 h⟩
    cases x <;> simp only [Bool.false_eq_true, false_and] at hf <;> simpa only [RF] using hx

section
variable {Q : AQ} {S : SL} {L : List LB} {ops : Array Oper} {rest : List Oper} {ty : TypeId} {pos : String} {af : Array Edge} {d : Nat}

theorem St.after {c : Cx} {L : List LB} (st : St G c L) {F' : Nat → Prop} {w' : World} (ex : Ext (Cx.bare c.F c.w) (Cx.bare F' w')) (st' : St G (Cx.bare F' w') []) :
    St G { c with F := F', w := w' } L ∧ Ext c { c with F := F', w := w' } ∧ SubX allp c { c with F := F', w := w' } := by
  have hk : ∀ b, b < c.w.heap.size → w'.heap[b]? = c.w.heap[b]? := fun b hb => ex.keep b hb (fun k h => by simp [Cx.bare] at h)
  have hs : SubX allp c { c with F := F', w := w' } :=
    ⟨ex.F, fun b h => hk b (st.inF b h), fun _ h _ => h, fun _ _ _ => rfl, fun _ _ _ => rfl, fun _ _ _ => rfl, fun k b arr T _ hb hh => ⟨arr, (hk b (st.loc k b hb).2.2).trans hh, rfl⟩⟩
  refine ⟨⟨st.n, st'.inF, ?_, st.inj, ?_, st'.glob⟩, ⟨ex.os, ex.tape, ex.output, ex.size, ex.F, ?_, fun k b h => .inl ⟨k, h⟩, fun b hb _ => hk b hb⟩, hs⟩
  · intro k b h
    have h1 := st.loc k b h
    refine ⟨h1.1, fun hF => ?_, Nat.lt_of_lt_of_le h1.2.2 ex.size⟩
    rcases ex.newF b hF with h2 | ⟨k', h2⟩ | h2
    · exact h1.2.1 h2
    · simp [Cx.bare] at h2
    · exact absurd h1.2.2 (Nat.not_lt.2 h2)
  · intro k x h
    exact BR.mono hs (by rw [st.n]; exact lt_of_get h) rfl (noidB_all x) (fun b hb => hk b (st.loc k b hb).2.2) (st.blk k x h)
  · intro b h
    rcases ex.newF b h with h2 | ⟨k', h2⟩ | h2
    · exact .inl h2
    · simp [Cx.bare] at h2
    · exact .inr (.inr h2)

theorem awpL_call {f : FuncId} {us : Array Operand} {ats : Array TypeId} {args : List AV} {r : AV} (hargs : vals G S us.toList = some args) (hF : args.all isF = true) (h : PCalls P G f args r) (hd : Nat.blt d N = true)
    (k : awpL P G N ops rest Q ((d, r) :: S) L) : awpL P G N ops (⟨some d, .call { callee := .value (.func f), args := us, argTypes := ats }, ty, pos, af, none⟩ :: rest) Q S L := by
  intro cx a hc
  have ha := TF_of_TR hF (vals_R hc hargs)
  refine wpList_plain rfl fun K hK => ?_
  simp only [Oper.wp, run_call h.1 (o := ⟨some d, .call { callee := .value (.func f), args := us, argTypes := ats }, ty, pos, af, none⟩) rfl a cx.w, Oper.upon_enter]
  refine (h.2 cx.F cx.w (us.map a.eval) hc.st.bare (by simpa using ha)).mono ?_
  rintro e w' ⟨y, F', rfl, hr, st', ex⟩
  obtain ⟨st2, ex2, hs⟩ := hc.st.after ex st'
  refine hK _ _ (wpList_mono (fun e a w q => q.trans ex2) _ _ _ (k { cx with F := F', w := w' } _ ⟨st2, hc.de, by simpa [Act.put] using hc.sz, ?_⟩))
  exact SR.put (hc.sr.mono_all hs) (by rw [hc.sz]; exact Nat.le_of_ble_eq_true hd) (R.of_RF _ _ _ hr)

theorem awpL_callS {f : FuncId} {us : Array Operand} {ats : Array TypeId} {args args' : List AV} {r : AV} (hargs : vals G S us.toList = some args) (hex : exL L args = args') (h : PCalls P G f args' r) (hscal : scal r = true) (hd : Nat.blt d N = true)
    (k : awpL P G N ops rest Q ((d, r) :: S) L) : awpL P G N ops (⟨some d, .call { callee := .value (.func f), args := us, argTypes := ats }, ty, pos, af, none⟩ :: rest) Q S L := by
  intro cx a hc
  subst hex
  have ha := exL_TR hc.st args _ (vals_R hc hargs)
  refine wpList_plain rfl fun K hK => ?_
  simp only [Oper.wp, run_call h.1 (o := ⟨some d, .call { callee := .value (.func f), args := us, argTypes := ats }, ty, pos, af, none⟩) rfl a cx.w, Oper.upon_enter]
  refine (h.2 (allF cx) cx.w (us.map a.eval) hc.st.freeze (by simpa using ha)).mono ?_
  rintro e w' ⟨y, F', rfl, hr, st', ex⟩
  have hk : ∀ b, b < cx.w.heap.size → w'.heap[b]? = cx.w.heap[b]? := fun b hb => ex.keep b hb (fun k h => by simp [Cx.bare] at h)
  have hs : SubX allp cx { cx with w := w' } :=
    ⟨fun _ h => h, fun b h => hk b (hc.st.inF b h), fun _ h _ => h, fun _ _ _ => rfl, fun _ _ _ => rfl, fun _ _ _ => rfl, fun k b arr T _ hb hh => ⟨arr, (hk b (hc.st.loc k b hb).2.2).trans hh, rfl⟩⟩
  have st2 : St G { cx with w := w' } L := by
    refine ⟨hc.st.n, fun b h => Nat.lt_of_lt_of_le (hc.st.inF b h) ex.size, fun k b h => ?_, hc.st.inj, ?_, glob_mono hc.st hs⟩
    · have h1 := hc.st.loc k b h; exact ⟨h1.1, h1.2.1, Nat.lt_of_lt_of_le h1.2.2 ex.size⟩
    · intro k x h
      exact BR.mono hs (by rw [hc.st.n]; exact lt_of_get h) rfl (noidB_all x) (fun b hb => hk b (hc.st.loc k b hb).2.2) (hc.st.blk k x h)
  have ex2 : Ext cx { cx with w := w' } := ⟨ex.os, ex.tape, ex.output, ex.size, fun _ h => h, fun _ h => .inl h, fun k b h => .inl ⟨k, h⟩, fun b hb _ => hk b hb⟩
  refine hK _ _ (wpList_mono (fun e a w q => q.trans ex2) _ _ _ (k { cx with w := w' } _ ⟨st2, hc.de, by simpa [Act.put] using hc.sz, ?_⟩))
  refine SR.put (hc.sr.mono_all hs) (by rw [hc.sz]; exact Nat.le_of_ble_eq_true hd) (R.of_RF _ _ _ ?_)
  cases r <;> simp only [scal, Bool.false_eq_true] at hscal <;> simp only [RF] at hr ⊢
  · exact hr
  · obtain ⟨xs, e, h⟩ := hr; exact ⟨xs, e, scal_R hscal h⟩
end
end
end Go.Ab
