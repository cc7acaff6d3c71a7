/- A region that draws its order, in the abstract logic. -/
import Derived.Test.YtghbllbjjfjenaaAbRule
import Derived.Orders
namespace Go.Ab
set_option linter.unusedSectionVars false
set_option linter.unusedVariables false
set_option linter.unusedSimpArgs false
set_option linter.unnecessarySimpa false

def hasE : List Edge → Nat → Bool
  | [], _ => false
  | e :: r, j => (Region.binds .any e && Nat.beq e.on j) || hasE r j
theorem hasE_spec : ∀ {l : List Edge} {j : Nat}, hasE l j = true → ∃ e ∈ l, Region.binds .any e = true ∧ e.on = j
  | [], j, h => by simp [hasE] at h
  | e :: r, j, h => by
    simp only [hasE, Bool.or_eq_true, Bool.and_eq_true] at h
    rcases h with ⟨h1, h2⟩ | h
    · exact ⟨e, List.mem_cons_self .., h1, Nat.eq_of_beq_eq_true h2⟩
    · obtain ⟨e', h1, h2⟩ := hasE_spec h; exact ⟨e', List.mem_cons_of_mem _ h1, h2⟩

/-- Of what was done, what an operation may lean on. -/
def depS (aft : List Edge) : Nat → SL → SL
  | _, [] => []
  | i, p :: r => bif hasE aft i then p :: depS aft (i + 1) r else depS aft (i + 1) r

theorem depS_get {aft : List Edge} : ∀ {i : Nat} {D : SL} {t : Nat} {x : AV}, get (depS aft i D) t = some x → ∃ j, D[j]? = some (t, x) ∧ hasE aft (i + j) = true
  | i, [], t, x, h => by simp [depS, get] at h
  | i, p :: r, t, x, h => by
    simp only [depS] at h
    have hrec : get (depS aft (i + 1) r) t = some x → ∃ j, (p :: r)[j]? = some (t, x) ∧ hasE aft (i + j) = true := by
      intro h
      obtain ⟨j, h1, h2⟩ := depS_get h
      exact ⟨j + 1, by simpa using h1, by rwa [show i + (j + 1) = i + 1 + j by omega]⟩
    cases hb : hasE aft i with
    | false => rw [hb] at h; exact hrec h
    | true =>
      rw [hb] at h
      simp only [cond_true] at h
      obtain ⟨d, z⟩ := p
      rw [get_cons] at h
      split at h
      · rename_i e; subst e; injection h with h; subst h
        exact ⟨0, rfl, by simpa using hb⟩
      · exact hrec h

theorem get_append {A B : SL} {t : Nat} {x : AV} (h : get (A ++ B) t = some x) : get A t = some x ∨ get B t = some x := by
  induction A with
  | nil => exact .inr h
  | cons p r ih =>
    obtain ⟨d, z⟩ := p
    simp only [List.cons_append] at h
    rw [get_cons] at h ⊢
    split at h
    · rename_i e; rw [if_pos e]; exact .inl h
    · rename_i e; rw [if_neg e]; exact ih h

theorem get_mem {S : SL} {t : Nat} {x : AV} (h : get S t = some x) : (t, x) ∈ S := by
  induction S with
  | nil => simp [get] at h
  | cons p r ih =>
    obtain ⟨d, z⟩ := p
    rw [get_cons] at h
    split at h
    · rename_i e; subst e; injection h with h; subst h; exact List.mem_cons_self ..
    · exact List.mem_cons_of_mem _ (ih h)

/-- An operation that yields x, whenever it runs. -/
def PEv (P : Program) (G : List (Nat × List AV)) (N : Nat) (op : Op) (ty : TypeId) (S : SL) (L : List LB) (x : AV) : Prop :=
  ∀ o : Oper, o.op = op → o.type = ty → ∀ (cx : Cx) (a : Act), Cn G N S L cx a → ∀ (K : Act → World → Prop) (Q : Exit → Act → World → Prop),
    (∀ y cx', R cx' x y → St G cx' L → Ext cx cx' → SubX allp cx cx' → K (a.put o.dst y) cx'.w) → o.wp P a cx.w K Q

section
variable {P : Program} {G : List (Nat × List AV)} {N : Nat} {Q : AQ} {S : SL} {L : List LB} {op : Op} {ty : TypeId} {x : AV}

theorem SubX.refl (c : Cx) : SubX allp c c := ⟨fun _ h => h, fun _ _ => rfl, fun _ h _ => h, fun _ _ _ => rfl, fun _ _ _ => rfl, fun _ _ _ => rfl, fun _ _ arr _ _ _ h => ⟨arr, h, rfl⟩⟩

theorem pev_ev (h : Ev P G N op ty S L x) : PEv P G N op ty S L x := by
  intro o ho ht cx a hc K Q hK
  obtain ⟨y, hr, hx⟩ := h o ho ht cx a hc
  simp only [Oper.wp, hr, Oper.upon_value]
  exact hK y cx hx hc.st (Ext.refl _) (SubX.refl _)

theorem pev_call {f : FuncId} {us : Array Operand} {ats : Array TypeId} {args : List AV} {r : AV} (hargs : vals G S us.toList = some args) (hF : args.all isF = true) (h : PCalls P G f args r) :
    PEv P G N (.call { callee := .value (.func f), args := us, argTypes := ats }) ty S L r := by
  intro o ho ht cx a hc K Q hK
  have ha := TF_of_TR hF (vals_R hc hargs)
  simp only [Oper.wp, run_call h.1 (o := o) ho a cx.w, Oper.upon_enter]
  refine (h.2 cx.F cx.w (us.map a.eval) hc.st.bare (by simpa using ha)).mono ?_
  rintro e w' ⟨y, F', rfl, hr, st', ex⟩
  obtain ⟨st2, ex2, hs⟩ := hc.st.after ex st'
  exact hK y { cx with F := F', w := w' } (R.of_RF _ _ _ hr) st2 ex2 hs

theorem pev_callS {f : FuncId} {us : Array Operand} {ats : Array TypeId} {args args' : List AV} {r : AV} (hargs : vals G S us.toList = some args) (hex : exL L args = args') (h : PCalls P G f args' r) (hscal : scal r = true) :
    PEv P G N (.call { callee := .value (.func f), args := us, argTypes := ats }) ty S L r := by
  subst hex
  intro o ho ht cx a hc K Q hK
  have ha := exL_TR hc.st args _ (vals_R hc hargs)
  simp only [Oper.wp, run_call h.1 (o := o) ho a cx.w, Oper.upon_enter]
  refine (h.2 (allF cx) cx.w (us.map a.eval) hc.st.freeze (by simpa using ha)).mono ?_
  rintro e w' ⟨y, F', rfl, hr, st', ex⟩
  have hk : ∀ b, b < cx.w.heap.size → w'.heap[b]? = cx.w.heap[b]? := fun b hb => ex.keep b hb (fun k h => by simp [Cx.bare] at h)
  have hs : SubX allp cx { cx with w := w' } :=
    ⟨fun _ h => h, fun b h => hk b (hc.st.inF b h), fun _ h _ => h, fun _ _ _ => rfl, fun _ _ _ => rfl, fun _ _ _ => rfl, fun k b arr T _ hb hh => ⟨arr, (hk b (hc.st.loc k b hb).2.2).trans hh, rfl⟩⟩
  have st2 : St G { cx with w := w' } L := by
    refine ⟨hc.st.n, fun b h => Nat.lt_of_lt_of_le (hc.st.inF b h) ex.size, fun k b h => ?_, hc.st.inj, ?_, glob_mono hc.st hs⟩
    · have h1 := hc.st.loc k b h; exact ⟨h1.1, h1.2.1, Nat.lt_of_lt_of_le h1.2.2 ex.size⟩
    · intro k x h
      exact BR.mono hs (by rw [hc.st.n]; exact lt_of_get h) rfl (noidB_all x) (fun b hb => hk b (hc.st.loc k b hb).2.2) (hc.st.blk k x h)
  have ex2 : Ext cx { cx with w := w' } := ⟨ex.os, ex.tape, ex.output, ex.size, fun _ h => h, fun _ h => .inl h, fun k b h => .inl ⟨k, h⟩, fun b hb _ => hk b hb⟩
  refine hK y { cx with w := w' } (R.of_RF _ _ _ ?_) st2 ex2 hs
  cases r <;> simp only [scal, Bool.false_eq_true] at hscal <;> simp only [RF] at hr ⊢
  · exact hr
  · obtain ⟨xs, e, h⟩ := hr; exact ⟨xs, e, scal_R hscal h⟩

/-- The state that one operation may lean on. -/
def pvS (aft : Array Edge) (D Sb : SL) : SL := depS aft.toList 0 D ++ Sb

/-- What must be shown of one operation. -/
def PV (P : Program) (G : List (Nat × List AV)) (N : Nat) (o : Oper) (D Sb : SL) (L : List LB) (x : AV) : Prop :=
  match o.guard with
  | none => PEv P G N o.op o.type (pvS o.after D Sb) L x
  | some (j, want) => hasE o.after.toList j = true ∧ ∃ t z, D[j]? = some (t, z) ∧
      ((z = .v (.bool want) ∧ PEv P G N o.op o.type (pvS o.after D Sb) L x) ∨ (z = .v (.bool !want) ∧ x = .v undef) ∨ (z = .v undef ∧ x = .v undef))

/-- The region, walked in the order of the text. -/
def awpD (P : Program) (G : List (Nat × List AV)) (N : Nat) (Q : AQ) (Sb : SL) (L : List LB) : List Oper → SL → Prop
  | [], D => Q .normal (D ++ Sb) L
  | o :: rest, D => ∃ d x, o.dst = some d ∧ PV P G N o D Sb L x ∧ awpD P G N Q Sb L rest (D ++ [(d, x)])

theorem awpD_all {Sb : SL} : ∀ (l : List Oper) (D : SL), awpD P G N Q Sb L l D → ∃ X : SL, X.length = D.length + l.length ∧ X.take D.length = D ∧
    (∀ i o, l[i]? = some o → ∃ d x, X[D.length + i]? = some (d, x) ∧ o.dst = some d ∧ PV P G N o (X.take (D.length + i)) Sb L x) ∧ Q .normal (X ++ Sb) L
  | [], D, h => ⟨D, by simp, by simp, fun i o h => by simp at h, h⟩
  | o :: rest, D, h => by
    obtain ⟨d, x, h1, h2, h3⟩ := h
    obtain ⟨X, e1, e2, e3, e4⟩ := awpD_all rest _ h3
    simp only [List.length_append, List.length_singleton] at e1 e2 e3
    have ed : X.take D.length = D := by
      have := congrArg (List.take D.length) e2
      rw [List.take_take, Nat.min_eq_left (by omega)] at this
      simpa using this
    have ex : X[D.length]? = some (d, x) := by
      have := congrArg (fun l => l[D.length]?) e2
      simp only [List.getElem?_take, List.getElem?_append_right (Nat.le_refl D.length)] at this
      simpa using this
    refine ⟨X, by simp; omega, ed, fun i o' hi => ?_, e4⟩
    cases i with
    | zero =>
      simp at hi; subst hi
      exact ⟨d, x, by simpa using ex, h1, by rw [Nat.add_zero, ed]; exact h2⟩
    | succ i =>
      obtain ⟨d', x', g1, g2, g3⟩ := e3 i o' (by simpa using hi)
      exact ⟨d', x', by rwa [show D.length + (i + 1) = D.length + 1 + i by omega], g2, by rwa [show D.length + (i + 1) = D.length + 1 + i by omega]⟩

/-- The closed check: destinations are there and differ, edges go back. -/
def drawOk (N : Nat) : Nat → List Nat → List Oper → Bool
  | _, _, [] => true
  | i, ds, o :: r => (match o.dst with
    | some d => Nat.blt d N && !(ds.contains d)
    | none => false) && (o.after.toList.all fun e => !(Region.binds .any e) || Nat.blt e.on i) && drawOk N (i + 1) (o.dst.toList ++ ds) r

theorem drawOk_spec : ∀ {l : List Oper} {i : Nat} {ds : List Nat}, drawOk N i ds l = true → ∀ k o, l[k]? = some o → ∃ d, o.dst = some d ∧ d < N ∧ d ∉ ds ∧
    (∀ e ∈ o.after, Region.binds .any e = true → e.on < i + k) ∧ (∀ k' o', k' < k → l[k']? = some o' → o'.dst ≠ some d)
  | [], _, _, _, k, o, h => by simp at h
  | o0 :: r, i, ds, hk, k, o, h => by
    simp only [drawOk, Bool.and_eq_true] at hk
    obtain ⟨⟨h1, h2⟩, h3⟩ := hk
    cases k with
    | zero =>
      simp at h; subst h
      cases hd : o0.dst with
      | none => simp [hd] at h1
      | some d =>
        simp only [hd, Bool.and_eq_true, Bool.not_eq_true'] at h1
        refine ⟨d, rfl, Nat.le_of_ble_eq_true h1.1, (fun hm => by have := h1.2; rw [List.contains_iff_mem.2 hm] at this; cases this), fun e he hb => ?_, fun k' o' hk' => absurd hk' (Nat.not_lt_zero _)⟩
        have := List.all_eq_true.1 h2 e (by simpa using he)
        rw [hb] at this
        have h4 : e.on < i := by simpa using this
        omega
    | succ k =>
      obtain ⟨d, g1, g2, g3, g4, g5⟩ := drawOk_spec h3 k o (by simpa using h)
      refine ⟨d, g1, g2, fun hm => g3 (List.mem_append_right _ hm), fun e he hb => by have := g4 e he hb; omega, fun k' o' hk' ho' => ?_⟩
      cases k' with
      | zero =>
        simp at ho'; subst ho'
        intro e; exact g3 (List.mem_append_left _ (by simp [e]))
      | succ k' => exact g5 k' o' (by omega) (by simpa using ho')

theorem countP_lt {α : Type} {p q : α → Bool} {l : List α} (h : ∀ x ∈ l, q x = true → p x = true) {z : α} (hz : z ∈ l) (hp : p z = true) (hq : q z = false) : l.countP q < l.countP p := by
  induction l with
  | nil => cases hz
  | cons y r ih =>
    have hle : r.countP q ≤ r.countP p := List.countP_mono_left fun x hx hqx => h x (List.mem_cons_of_mem _ hx) hqx
    rcases List.mem_cons.1 hz with e | hz
    · subst e
      rw [List.countP_cons_of_pos hp, List.countP_cons_of_neg (by simp [hq])]; omega
    · have := ih (fun x hx => h x (List.mem_cons_of_mem _ hx)) hz
      by_cases hqy : q y = true
      · rw [List.countP_cons_of_pos hqy, List.countP_cons_of_pos (h y (List.mem_cons_self ..) hqy)]; omega
      · rw [List.countP_cons_of_neg hqy]
        by_cases hpy : p y = true
        · rw [List.countP_cons_of_pos hpy]; omega
        · rw [List.countP_cons_of_neg hpy]; omega

/-- A region that draws its order: one walk in the order of the text. Sb: slots that it does not write. -/
theorem awp_draw {id : Nat} {l : List Oper} {Sb : SL} (hm : P.follows .mixedOrders = true) (hk : drawOk N 0 [] l = true) (hS : Keep allp S Sb)
    (hb : (Sb.all fun p => !(l.any fun o => match o.dst with | some d => Nat.beq d p.1 | none => false)) = true)
    (h : awpD P G N Q Sb L l []) : awp P G N (.region id l.toArray true) Q S L := by
  obtain ⟨X, e1, _, e3, e4⟩ := awpD_all l [] h
  simp only [List.length_nil, Nat.zero_add] at e1 e3
  have hX : ∀ i o, l[i]? = some o → ∃ d x, X[i]? = some (d, x) ∧ o.dst = some d ∧ d < N ∧ PV P G N o (X.take i) Sb L x ∧ (∀ e ∈ o.after, Region.binds .any e = true → e.on < i) := by
    intro i o ho
    obtain ⟨d, x, g1, g2, g3⟩ := e3 i o ho
    obtain ⟨d', q1, q2, _, q4, _⟩ := drawOk_spec hk i o ho
    rw [q1] at g2; injection g2 with g2; subst g2
    exact ⟨d', x, g1, q1, q2, g3, fun e he hb => by have := q4 e he hb; omega⟩
  have hne : ∀ (i j : Nat) (o o' : Oper) (d : Nat), l[i]? = some o → l[j]? = some o' → o.dst = some d → o'.dst = some d → i = j := by
    intro i j o o' d hi hj hd hd'
    rcases Nat.lt_trichotomy i j with hlt | heq | hgt
    · obtain ⟨d2, q1, _, _, _, q5⟩ := drawOk_spec hk j o' hj
      rw [hd'] at q1; injection q1 with q1; subst q1
      exact absurd hd (q5 i o hlt hi)
    · exact heq
    · obtain ⟨d2, q1, _, _, _, q5⟩ := drawOk_spec hk i o hi
      rw [hd] at q1; injection q1 with q1; subst q1
      exact absurd hd' (q5 j o' hgt hj)
  have hSb : ∀ t x, get Sb t = some x → ∀ (i : Nat) (o : Oper), l[i]? = some o → o.dst ≠ some t := by
    intro t x ht i o ho e
    have h1 := List.all_eq_true.1 hb (t, x) (get_mem ht)
    simp only [Bool.not_eq_true', List.any_eq_false] at h1
    have := h1 o (List.mem_of_getElem? ho)
    simp [e] at this
  -- the state behind some of the operations
  let Inv (listed : Array Bool) (cx : Cx) (a : Act) : Prop :=
    St G cx L ∧ a.defers = [] ∧ a.tmps.size = N ∧ (∀ t x, get Sb t = some x → R cx x (a.tmps.getD t undef)) ∧
      ∀ j t x, listed.getD j false = true → X[j]? = some (t, x) → R cx x (a.tmps.getD t undef)
  have key : ∀ (fuel : Nat) (listed : Array Bool) (cx0 cx : Cx) (a : Act), listed.size = l.length → (List.range l.length).countP (fun i => !listed.getD i true) ≤ fuel → Ext cx0 cx → Inv listed cx a →
      wpAny P .any l.toArray (conc G N Q cx0) fuel listed a cx.w := by
    have done : ∀ (listed : Array Bool) (cx0 cx : Cx) (a : Act), listed.size = l.length → Ext cx0 cx → Inv listed cx a → Region.ready .any l.toArray listed = [] → conc G N Q cx0 .normal a cx.w := by
      intro listed cx0 cx a hsz hex ⟨i1, i2, i3, i4, i5⟩ hr
      have all : ∀ i, i < l.length → listed.getD i false = true := by
        intro i
        induction i using Nat.strongRecOn with
        | _ i ih =>
          intro hi
          obtain ⟨d, x, g1, g2, g3, g4, g5⟩ := hX i _ (List.getElem?_eq_getElem hi)
          cases hl : listed.getD i false with
          | true => rfl
          | false =>
            have : i ∈ Region.ready .any l.toArray listed := by
              rw [mem_ready]
              refine ⟨?_, l[i], by simp [hi], fun e he hb => ih e.on (g5 e he hb) (by have := g5 e he hb; omega)⟩
              have hlt : i < listed.size := by omega
              simp only [Array.getD_eq_getD_getElem?, Array.getElem?_eq_getElem hlt, Option.getD_some] at hl ⊢
              exact hl
            rw [hr] at this; cases this
      refine ⟨X ++ Sb, L, cx, e4, ⟨i1, i2, i3, fun t x hx => ?_⟩, hex, rfl⟩
      rcases get_append hx with hx | hx
      · obtain ⟨j, hj⟩ := List.getElem?_of_mem (get_mem hx)
        exact i5 j t x (all j (by rw [← e1]; rcases Nat.lt_or_ge j X.length with h' | h'; exact h'; rw [List.getElem?_eq_none h'] at hj; cases hj)) hj
      · exact i4 t x hx
    intro fuel
    induction fuel with
    | zero =>
      intro listed cx0 cx a hsz hct hex hinv
      have hr : Region.ready .any l.toArray listed = [] := by
        cases hq : Region.ready .any l.toArray listed with
        | nil => rfl
        | cons i r =>
          have hi : i ∈ Region.ready .any l.toArray listed := by rw [hq]; exact List.mem_cons_self ..
          rw [mem_ready] at hi
          obtain ⟨h0, o, ho, _⟩ := hi
          have hi' : i < l.length := by have := (Array.getElem?_eq_some_iff.1 ho).1; simpa using this
          have : 0 < (List.range l.length).countP (fun i => !listed.getD i true) := List.countP_pos_iff.2 ⟨i, by simpa using hi', by simp only [h0]; rfl⟩
          omega
      exact ⟨hr, done listed cx0 cx a hsz hex hinv hr⟩
    | succ fuel ih =>
      intro listed cx0 cx a hsz hct hex hinv
      refine ⟨done listed cx0 cx a hsz hex hinv, fun i hi => ?_⟩
      rw [mem_ready] at hi
      obtain ⟨h0, o, ho, haft⟩ := hi
      have ho' : l[i]? = some o := by simpa using ho
      have hil : i < l.length := (List.getElem?_eq_some_iff.1 ho').1
      obtain ⟨i1, i2, i3, i4, i5⟩ := hinv
      obtain ⟨d, x, g1, g2, g3, g4, g5⟩ := hX i o ho'
      have hil' : i < listed.size := by omega
      -- the step
      have step : ∀ (y : Value) (cx' : Cx), R cx' x y → St G cx' L → Ext cx cx' → SubX allp cx cx' → wpAny P .any l.toArray (conc G N Q cx0) fuel (listed.setIfInBounds i true) (a.put o.dst y) cx'.w := by
        intro y cx' hx st' ex' hs
        refine ih _ _ _ _ (by simpa using hsz) ?_ (hex.trans ex') ⟨st', ?_, ?_, ?_, ?_⟩
        · have : (List.range l.length).countP (fun j => !(listed.setIfInBounds i true).getD j true) < (List.range l.length).countP (fun j => !listed.getD j true) := by
            refine countP_lt (z := i) (fun j _ hj => ?_) (by simpa using hil) (by simp only [h0]; rfl) ?_
            · by_cases e : i = j
              · subst e; simp [hil'] at hj
              · rwa [getD_set_ne true e] at hj
            · simp [hil']
          omega
        · rw [g2]; simpa [Act.put] using i2
        · rw [g2]; simpa [Act.put] using i3
        · intro t z ht
          have hne' : d ≠ t := fun e => hSb t z ht i o ho' (e ▸ g2)
          rw [g2]
          have := R.mono hs _ _ (noid_all z) (i4 t z ht)
          simpa [Act.put, Array.getD_eq_getD_getElem?, Array.getElem?_setIfInBounds, hne'] using this
        · intro j t z hj hX'
          rw [g2]
          by_cases e : i = j
          · subst e
            rw [g1] at hX'; injection hX' with hX'; injection hX' with e1 e2; subst e1 e2
            have hdl : d < a.tmps.size := by rw [i3]; exact g3
            simpa [Act.put, Array.getD_eq_getD_getElem?, Array.getElem?_setIfInBounds, hdl] using hx
          · rw [getD_set_ne false e] at hj
            have hjl : j < l.length := by rw [← e1]; rcases Nat.lt_or_ge j X.length with h' | h'; exact h'; rw [List.getElem?_eq_none h'] at hX'; cases hX'
            obtain ⟨d', x', q1, q2, _⟩ := hX j _ (List.getElem?_eq_getElem hjl)
            rw [hX'] at q1; injection q1 with q1; injection q1 with q1 q3; subst q1 q3
            have hne' : d ≠ t := fun e' => e (hne i j o _ d ho' (List.getElem?_eq_getElem hjl) g2 (e' ▸ q2))
            have := R.mono hs _ _ (noid_all z) (i5 j t z hj hX')
            simpa [Act.put, Array.getD_eq_getD_getElem?, Array.getElem?_setIfInBounds, hne'] using this
      have hcn : Cn G N (pvS o.after (X.take i) Sb) L cx a := by
        refine ⟨i1, i2, i3, fun t z hz => ?_⟩
        rcases get_append hz with hz | hz
        · obtain ⟨j, hj, hE⟩ := depS_get hz
          obtain ⟨e, he, hbn, hon⟩ := hasE_spec hE
          have hj' : X[j]? = some (t, z) := by rw [List.getElem?_take] at hj; split at hj; exact hj; cases hj
          exact i5 j t z (by have := haft e (by simpa using he) hbn; rw [hon] at this; simpa using this) hj'
        · exact i4 t z hz
      have run : PEv P G N o.op o.type (pvS o.after (X.take i) Sb) L x → o.wp P a cx.w (wpAny P .any l.toArray (conc G N Q cx0) fuel (listed.setIfInBounds i true)) (conc G N Q cx0) := by
        intro hp
        refine hp o rfl rfl cx a hcn _ _ fun y cx' hx st' ex' hs => step y cx' hx st' ex' hs
      unfold wpOp
      simp only [ho]
      cases hg : o.guard with
      | none =>
        simp only [PV, hg] at g4
        rw [if_pos (by simp [Region.wanted, hg])]
        exact .inl (run g4)
      | some jw =>
        obtain ⟨j, want⟩ := jw
        simp only [PV, hg] at g4
        obtain ⟨hE, t, z, hD, hz⟩ := g4
        obtain ⟨e, he, hbn, hon⟩ := hasE_spec hE
        have hD' : X[j]? = some (t, z) := by rw [List.getElem?_take] at hD; split at hD; exact hD; cases hD
        have hv := i5 j t z (by have := haft e (by simpa using he) hbn; rw [hon] at this; exact this) hD'
        have hjl : j < l.length := by rw [← e1]; rcases Nat.lt_or_ge j X.length with h' | h'; exact h'; rw [List.getElem?_eq_none h'] at hD'; cases hD'
        obtain ⟨d', x', q1, q2, q3, _⟩ := hX j _ (List.getElem?_eq_getElem hjl)
        rw [hD'] at q1; injection q1 with q1; injection q1 with q1 q4; subst q1 q4
        have htl : t < a.tmps.size := by rw [i3]; exact q3
        have hyd : ∀ u, a.tmps.getD t undef = u → yielded l.toArray a.tmps j = (match u with | .bool b => some b | _ => none) := by
          intro u hu
          rw [Array.getD_eq_getD_getElem?, Array.getElem?_eq_getElem htl, Option.getD_some] at hu
          simp only [yielded]
          rw [show ((l.toArray)[j]?).bind (·.dst) = some t by simp [hjl, q2]]
          simp only [Option.bind_some, Array.getElem?_eq_getElem htl, hu]
          cases u <;> rfl
        rcases hz with ⟨rfl, hp⟩ | ⟨rfl, rfl⟩ | ⟨rfl, rfl⟩
        · simp only [R] at hv
          rw [if_pos (by simp only [Region.wanted, hg, hyd _ hv]; simp)]
          exact .inl (run hp)
        · simp only [R] at hv
          rw [if_neg (by simp only [Region.wanted, hg, hyd _ hv]; cases want <;> simp)]
          exact step undef cx (by simp only [R]) i1 (Ext.refl _) (SubX.refl _)
        · simp only [R] at hv
          rw [if_neg (by simp only [Region.wanted, hg, hyd _ hv]; simp [undef])]
          exact step undef cx (by simp only [R]) i1 (Ext.refl _) (SubX.refl _)
  intro cx a hc
  refine wp_region_any hm ?_
  let cxd : Cx := { cx with w := { cx.w with drawn := cx.w.drawn + 1 } }
  have hcd : Ext cx cxd := ⟨rfl, rfl, rfl, Nat.le_refl _, fun _ h => h, fun _ h => .inl h, fun k b h => .inl ⟨k, h⟩, fun _ _ _ => rfl⟩
  have hsd : SubX allp cx cxd := ⟨fun _ h => h, fun _ _ => rfl, fun _ h _ => h, fun _ _ _ => rfl, fun _ _ _ => rfl, fun _ _ _ => rfl, fun _ _ arr _ _ _ h => ⟨arr, h, rfl⟩⟩
  have std : St G cxd L := ⟨hc.st.n, hc.st.inF, hc.st.loc, hc.st.inj, fun k x h => BR.mono hsd (by rw [hc.st.n]; exact lt_of_get h) rfl (noidB_all x) (fun _ _ => rfl) (hc.st.blk k x h), glob_mono hc.st hsd⟩
  refine key _ _ cx cxd a (by simp) ?_ hcd ⟨std, hc.de, hc.sz, fun t x hx => R.mono hsd _ _ (noid_all x) (hc.sr t x (hS.get t x hx).1), fun j t x hj => ?_⟩
  · exact Nat.le_trans List.countP_le_length (by simp)
  · exfalso
    simp only [Array.getD_eq_getD_getElem?, Array.getElem?_replicate] at hj
    split at hj <;> simp at hj
end
end Go.Ab
