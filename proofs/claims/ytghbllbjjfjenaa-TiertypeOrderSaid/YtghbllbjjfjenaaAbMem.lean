/- Operations that make or change memory, in the abstract logic. -/
import Derived.Test.YtghbllbjjfjenaaAbOps
namespace Go.Ab
set_option linter.unusedSectionVars false
set_option linter.unusedVariables false
set_option linter.unusedSimpArgs false
set_option linter.unnecessarySimpa false

section mono
variable {P : Program} {ops : Array Oper} {Q Q' : Exit → Act → World → Prop} (hq : ∀ e a w, Q e a w → Q' e a w)
include hq
theorem upon_mono {o : Oper} {a : Act} {K K' : Act → World → Prop} (hk : ∀ a w, K a w → K' a w) (r : Result Next) (h : o.upon P a K Q r) : o.upon P a K' Q' r := by
  unfold Oper.upon at *
  split at h
  · exact hk _ _ h
  · exact hk _ _ h
  · exact hk _ _ h
  · refine h.mono fun e w' he => ?_
    cases e with
    | returned v => exact hk _ _ he
    | panicked c => exact hq _ _ _ he
    | outgrown => obtain ⟨a, w, h⟩ := he; exact ⟨a, w, hq _ _ _ h⟩
  · exact h.mono fun v w' he => hk _ _ he
  · exact hq _ _ _ h
  · exact h.elim
theorem wpList_mono : ∀ (l : List Oper) (a : Act) (w : World), wpList P ops Q l a w → wpList P ops Q' l a w
  | [], a, w, h => hq _ _ _ h
  | o :: l, a, w, h => by
    simp only [wpList] at h ⊢
    split at h
    · rename_i hw
      rw [if_pos hw]
      rcases h with h | ⟨h1, a', w', h2⟩
      · exact .inl (upon_mono hq (fun a w h => wpList_mono l a w h) _ h)
      · exact .inr ⟨h1, a', w', hq _ _ _ h2⟩
    · rename_i hw
      rw [if_neg hw]
      exact wpList_mono l _ _ h
end mono

/-- An operation that yields x and turns the state. -/
def Ev2 (P : Program) (G : List (Nat × List AV)) (N : Nat) (op : Op) (ty : TypeId) (S : SL) (L : List LB) (x : AV) (S' : SL) (L' : List LB) : Prop :=
  ∀ o : Oper, o.op = op → o.type = ty → ∀ (cx : Cx) (a : Act), Cn G N S L cx a → ∃ y cx', (execOp a.eval o).run P cx.w = .ok (.value y) cx'.w ∧ R cx' x y ∧ St G cx' L' ∧ Ext cx cx' ∧ SR cx' S' a.tmps
/-- An operation that yields nothing and turns the state. -/
def EvS (P : Program) (G : List (Nat × List AV)) (N : Nat) (op : Op) (ty : TypeId) (S : SL) (L : List LB) (S' : SL) (L' : List LB) : Prop :=
  ∀ o : Oper, o.op = op → o.type = ty → ∀ (cx : Cx) (a : Act), Cn G N S L cx a → ∃ cx', (execOp a.eval o).run P cx.w = .ok .skip cx'.w ∧ St G cx' L' ∧ Ext cx cx' ∧ SR cx' S' a.tmps

section
variable {P : Program} {G : List (Nat × List AV)} {N : Nat} {Q : AQ} {S S' : SL} {L L' : List LB} {ops : Array Oper} {rest : List Oper}
  {op : Op} {ty : TypeId} {pos : String} {af : Array Edge} {d : Nat} {x : AV}

theorem awpL_ev2 (h : Ev2 P G N op ty S L x S' L') (hd : Nat.blt d N = true) (k : awpL P G N ops rest Q ((d, x) :: S') L') :
    awpL P G N ops (⟨some d, op, ty, pos, af, none⟩ :: rest) Q S L := by
  intro cx a hc
  obtain ⟨y, cx', hr, hx, hst, he, hsr⟩ := h ⟨some d, op, ty, pos, af, none⟩ rfl rfl cx a hc
  refine wpList_plain rfl fun K hK => ?_
  simp only [Oper.wp, hr, Oper.upon_value]
  refine hK _ _ (wpList_mono (fun e a w q => q.trans he) _ _ _ (k cx' _ ⟨hst, hc.de, by simpa [Act.put] using hc.sz, ?_⟩))
  exact SR.put hsr (by rw [hc.sz]; exact Nat.le_of_ble_eq_true hd) hx

theorem awpL_evS (h : EvS P G N op ty S L S' L') (k : awpL P G N ops rest Q S' L') :
    awpL P G N ops (⟨none, op, ty, pos, af, none⟩ :: rest) Q S L := by
  intro cx a hc
  obtain ⟨cx', hr, hst, he, hsr⟩ := h ⟨none, op, ty, pos, af, none⟩ rfl rfl cx a hc
  refine wpList_plain rfl fun K hK => ?_
  simp only [Oper.wp, hr, Oper.upon_skip]
  exact hK _ _ (wpList_mono (fun e a w q => q.trans he) _ _ _ (k cx' _ ⟨hst, hc.de, hc.sz, hsr⟩))
end

theorem SR.mono {p : Nat → Bool} {c c' : Cx} {S S' : SL} {t : Array Value} (hs : SubX p c c') (hk : Keep p S S') (h : SR c S t) : SR c' S' t :=
  fun i x hx => R.mono hs x _ (hk.get i x hx).2 (h i x (hk.get i x hx).1)
theorem SR.mono_all {c c' : Cx} {S : SL} {t : Array Value} (hs : SubX allp c c') (h : SR c S t) : SR c' S t :=
  fun i x hx => R.mono hs x _ (noid_all x) (h i x hx)

/-- w' is w with one block more. -/
structure Alloc (w w' : World) (o : Obj) : Prop where
  os : w'.os = w.os
  tape : w'.tape = w.tape
  output : w'.output = w.output
  size : w'.heap.size = w.heap.size + 1
  new : w'.heap[w.heap.size]? = some o
  old : ∀ b, b < w.heap.size → w'.heap[b]? = w.heap[b]?
theorem Alloc.alloc (w : World) (o : Obj) : Alloc w (w.alloc o) o := ⟨rfl, rfl, rfl, by simp, heap_alloc_new w o, fun _ h => heap_alloc_old w o h⟩
theorem Alloc.drew (w : World) (o : Obj) : Alloc w (w.drew.alloc o) o := ⟨rfl, rfl, rfl, by simp, heap_alloc_new w.drew o, fun _ h => heap_alloc_old w.drew o h⟩

/-- The new block is local. -/
def Cx.new (c : Cx) (w' : World) (s ln : Nat) : Cx :=
  { F := c.F, φ := fun k => if k = c.n then some c.w.heap.size else c.φ k, sz := fun k => if k = c.n then s else c.sz k, len := fun k => if k = c.n then ln else c.len k, n := c.n + 1, w := w' }
/-- A local number without a block. -/
def Cx.nul (c : Cx) (s : Nat) : Cx :=
  { F := c.F, φ := fun k => if k = c.n then none else c.φ k, sz := fun k => if k = c.n then s else c.sz k, len := fun k => if k = c.n then 0 else c.len k, n := c.n + 1, w := c.w }
/-- The new block is frozen. -/
def Cx.newF (c : Cx) (w' : World) : Cx := { c with F := fun b => c.F b ∨ b = c.w.heap.size, w := w' }

section
variable {G : List (Nat × List AV)} {c : Cx} {L : List LB} {w' : World} {o : Obj}
theorem SubX.new (st : St G c L) (A : Alloc c.w w' o) (s ln : Nat) : SubX allp c (c.new w' s ln) :=
  ⟨fun _ h => h, fun b h => A.old b (st.inF b h), fun k h _ => Nat.lt_succ_of_lt h, fun k h _ => if_neg (Nat.ne_of_lt h), fun k h _ => if_neg (Nat.ne_of_lt h), fun k h _ => if_neg (Nat.ne_of_lt h),
    fun k b arr T _ hb hh => ⟨arr, (A.old b (st.loc k b hb).2.2).trans hh, rfl⟩⟩
theorem SubX.nul (st : St G c L) (s : Nat) : SubX allp c (c.nul s) :=
  ⟨fun _ h => h, fun b h => rfl, fun k h _ => Nat.lt_succ_of_lt h, fun k h _ => if_neg (Nat.ne_of_lt h), fun k h _ => if_neg (Nat.ne_of_lt h), fun k h _ => if_neg (Nat.ne_of_lt h),
    fun k b arr T _ hb hh => ⟨arr, hh, rfl⟩⟩
theorem SubX.newF (st : St G c L) (A : Alloc c.w w' o) : SubX allp c (c.newF w') :=
  ⟨fun _ h => .inl h, fun b h => A.old b (st.inF b h), fun k h _ => h, fun k h _ => rfl, fun k h _ => rfl, fun k h _ => rfl,
    fun k b arr T _ hb hh => ⟨arr, (A.old b (st.loc k b hb).2.2).trans hh, rfl⟩⟩

theorem glob_mono {p : Nat → Bool} {c' : Cx} (st : St G c L) (hs : SubX p c c') : ∀ q ∈ G, c'.F q.1 ∧ MF c'.F c'.w q.2 q.1 0 :=
  fun q hq => ⟨hs.F _ (st.glob q hq).1, MF.mono hs.F hs.heap _ _ _ (hs.heap _ (st.glob q hq).1) (st.glob q hq).2⟩

theorem snoc_get {x y : LB} {k : Nat} (h : (L ++ [x])[k]? = some y) : L[k]? = some y ∧ k < L.length ∨ k = L.length ∧ y = x := by
  rcases Nat.lt_or_ge k L.length with hk | hk
  · rw [List.getElem?_append_left hk] at h; exact .inl ⟨h, hk⟩
  · rw [List.getElem?_append_right hk] at h
    rcases Nat.eq_zero_or_pos (k - L.length) with h0 | h0
    · rw [h0] at h; simp at h; exact .inr ⟨by omega, h.symm⟩
    · rw [List.getElem?_eq_none (by simp; omega)] at h; cases h

theorem St.new (st : St G c L) (A : Alloc c.w w' o) (s ln : Nat) {x : LB} (hx : BR (c.new w' s ln) c.n x) : St G (c.new w' s ln) (L ++ [x]) ∧ Ext c (c.new w' s ln) := by
  have hs := SubX.new st A s ln
  have hφ : ∀ k b, (c.new w' s ln).φ k = some b → (k = c.n ∧ b = c.w.heap.size) ∨ (k ≠ c.n ∧ c.φ k = some b) := by
    intro k b h
    simp only [Cx.new] at h
    split at h
    · rename_i e; exact .inl ⟨e, by injection h with h; exact h.symm⟩
    · rename_i e; exact .inr ⟨e, h⟩
  refine ⟨⟨by simp [Cx.new, st.n], ?_, ?_, ?_, ?_, glob_mono st hs⟩, ⟨A.os, A.tape, A.output, by simp [Cx.new, A.size], fun _ h => h, fun _ h => .inl h, ?_, fun b hb _ => A.old b hb⟩⟩
  · intro b h; simp only [Cx.new, A.size] at h ⊢; exact Nat.lt_succ_of_lt (st.inF b h)
  · intro k b h
    show k < c.n + 1 ∧ ¬ c.F b ∧ b < w'.heap.size
    rw [A.size]
    rcases hφ k b h with ⟨rfl, rfl⟩ | ⟨_, h⟩
    · exact ⟨Nat.lt_succ_self _, fun hF => Nat.lt_irrefl _ (st.inF _ hF), Nat.lt_succ_self _⟩
    · have := st.loc k b h; exact ⟨Nat.lt_succ_of_lt this.1, this.2.1, Nat.lt_succ_of_lt this.2.2⟩
  · intro k k' b h h'
    rcases hφ k b h with ⟨rfl, rfl⟩ | ⟨_, h⟩ <;> rcases hφ k' _ h' with ⟨e, e'⟩ | ⟨_, h'⟩
    · exact e.symm
    · exact absurd (st.loc k' _ h').2.2 (Nat.lt_irrefl _)
    · exact absurd (e' ▸ (st.loc k _ h).2.2) (Nat.lt_irrefl _)
    · exact st.inj k k' b h h'
  · intro k y h
    rcases snoc_get h with ⟨h, hk⟩ | ⟨rfl, rfl⟩
    · exact BR.mono hs (by rw [st.n]; exact hk) rfl (noidB_all y) (fun b hb => A.old b (st.loc k b hb).2.2) (st.blk k y h)
    · rw [← st.n]; exact hx
  · intro k b h
    rcases hφ k b h with ⟨rfl, rfl⟩ | ⟨_, h⟩
    · exact .inr (Nat.le_refl _)
    · exact .inl ⟨k, h⟩

theorem St.nul (st : St G c L) (s : Nat) (E : TypeId) : St G (c.nul s) (L ++ [.own E s []]) ∧ Ext c (c.nul s) := by
  have hs := SubX.nul st s
  have hφ : ∀ k b, (c.nul s).φ k = some b → k ≠ c.n ∧ c.φ k = some b := by
    intro k b h
    simp only [Cx.nul] at h
    split at h
    · cases h
    · rename_i e; exact ⟨e, h⟩
  refine ⟨⟨by simp [Cx.nul, st.n], st.inF, ?_, ?_, ?_, glob_mono st hs⟩, ⟨rfl, rfl, rfl, Nat.le_refl _, fun _ h => h, fun _ h => .inl h, ?_, fun b hb _ => rfl⟩⟩
  · intro k b h
    have := st.loc k b (hφ k b h).2; exact ⟨Nat.lt_succ_of_lt this.1, this.2.1, this.2.2⟩
  · intro k k' b h h'; exact st.inj k k' b (hφ k b h).2 (hφ k' b h').2
  · intro k y h
    rcases snoc_get h with ⟨h, hk⟩ | ⟨rfl, rfl⟩
    · exact BR.mono hs (by rw [st.n]; exact hk) rfl (noidB_all y) (fun b hb => rfl) (st.blk k y h)
    · rw [← st.n]; simp [BR, Cx.nul]
  · intro k b h; exact .inl ⟨k, (hφ k b h).2⟩

theorem St.newF (st : St G c L) (A : Alloc c.w w' o) : St G (c.newF w') L ∧ Ext c (c.newF w') := by
  have hs := SubX.newF st A
  refine ⟨⟨st.n, ?_, ?_, st.inj, ?_, glob_mono st hs⟩, ⟨A.os, A.tape, A.output, by simp [Cx.newF, A.size], fun _ h => .inl h, ?_, fun k b h => .inl ⟨k, h⟩, fun b hb _ => A.old b hb⟩⟩
  · intro b h; show b < w'.heap.size; rw [A.size]
    rcases h with h | h
    · exact Nat.lt_succ_of_lt (st.inF b h)
    · omega
  · intro k b h
    have := st.loc k b h
    refine ⟨this.1, ?_, by show b < w'.heap.size; rw [A.size]; omega⟩
    rintro (h | h)
    · exact this.2.1 h
    · omega
  · intro k y h
    exact BR.mono hs (by rw [st.n]; rcases Nat.lt_or_ge k L.length with h' | h'; exact h'; rw [List.getElem?_eq_none h'] at h; cases h) rfl (noidB_all y) (fun b hb => A.old b (st.loc k b hb).2.2) (st.blk k y h)
  · intro b h
    rcases h with h | h
    · exact .inl h
    · exact .inr (.inr (by omega))

theorem SubX.row' (st : St G c L) {k b : Nat} (hb : c.φ k = some b) {arr cur : Array Value} {T : TypeId} (hh : c.w.heap[b]? = some (.cells arr T (0, 0))) (hsz : cur.size = arr.size) :
    SubX allp c { c with w := c.w.setRow b cur } := by
  refine ⟨fun _ h => h, fun x hx => setRow_other _ _ _ _ (fun e => (st.loc k b hb).2.1 (e ▸ hx)), fun _ h _ => h, fun _ _ _ => rfl, fun _ _ _ => rfl, fun _ _ _ => rfl, ?_⟩
  intro k' b' arr' T' _ hb' hh'
  by_cases e : b' = b
  · subst e
    rw [hh] at hh'
    injection hh' with e1
    injection e1 with e1 e2 e3
    subst e1 e2
    exact ⟨cur, setRow_heap _ _ _ _ _ _ hh, hsz⟩
  · exact ⟨arr', (setRow_other _ _ _ _ e).trans hh', rfl⟩

theorem set_get {x y : LB} {k j : Nat} (h : (L.set k x)[j]? = some y) : (j ≠ k ∧ L[j]? = some y) ∨ (j = k ∧ y = x ∧ k < L.length) := by
  rw [List.getElem?_set] at h
  split at h
  · rename_i e
    split at h
    · rename_i hl; exact .inr ⟨e.symm, by injection h with h; exact h.symm, hl⟩
    · cases h
  · rename_i e; exact .inl ⟨fun e' => e e'.symm, h⟩

theorem lt_of_get {k : Nat} {x : LB} (h : L[k]? = some x) : k < L.length := by
  rcases Nat.lt_or_ge k L.length with h' | h'
  · exact h'
  · rw [List.getElem?_eq_none h'] at h; cases h

/-- A local block is written. -/
theorem St.write (st : St G c L) {k b : Nat} (hb : c.φ k = some b) {arr cur : Array Value} {T : TypeId} (hh : c.w.heap[b]? = some (.cells arr T (0, 0))) (hsz : cur.size = arr.size)
    {x : LB} (hx : BR { c with w := c.w.setRow b cur } k x) : St G { c with w := c.w.setRow b cur } (L.set k x) ∧ Ext c { c with w := c.w.setRow b cur } := by
  have hs := SubX.row' st hb hh hsz
  refine ⟨⟨by simp [st.n], ?_, ?_, st.inj, ?_, glob_mono st hs⟩, ⟨rfl, rfl, rfl, by simp, fun _ h => h, fun _ h => .inl h, fun k b h => .inl ⟨k, h⟩, fun b' _ hk => setRow_other _ _ _ _ (fun e => hk k (e ▸ hb))⟩⟩
  · intro b' h; simpa using st.inF b' h
  · intro k' b' h; simpa using st.loc k' b' h
  · intro j y h
    rcases set_get h with ⟨hj, h⟩ | ⟨rfl, rfl, _⟩
    · refine BR.mono hs (by rw [st.n]; exact lt_of_get h) rfl (noidB_all y) (fun b' hb' => setRow_other _ _ _ _ ?_) (st.blk j y h)
      intro e; subst e; exact hj (st.inj _ _ _ hb' hb)
    · exact hx
end

/-! ### Values as lists of cells -/
theorem rangeAt_append {w : World} {b off : Nat} {xs ys : List Value} : w.rangeAt b off (xs ++ ys) ↔ w.rangeAt b off xs ∧ w.rangeAt b (off + xs.length) ys := by
  constructor
  · intro h
    refine ⟨fun j v hj => h j v ?_, fun j v hj => ?_⟩
    · rw [List.getElem?_append_left]
      · exact hj
      · rcases Nat.lt_or_ge j xs.length with h' | h'
        · exact h'
        · rw [List.getElem?_eq_none h'] at hj; cases hj
    · have := h (xs.length + j) v (by rw [List.getElem?_append_right (by omega)]; simpa using hj)
      rwa [← Nat.add_assoc] at this
  · rintro ⟨h1, h2⟩ j v hj
    rcases Nat.lt_or_ge j xs.length with h' | h'
    · rw [List.getElem?_append_left h'] at hj; exact h1 j v hj
    · rw [List.getElem?_append_right h'] at hj
      have := h2 _ v hj
      rwa [show off + xs.length + (j - xs.length) = off + j by omega] at this

def EL (F : Nat → Prop) (w : World) (sz : Nat) : List (List AV) → List Value → Prop
  | [], ys => ys = []
  | e :: r, ys => ∃ a b, ys = a ++ b ∧ e.length = sz ∧ LF F w e a ∧ EL F w sz r b

section
variable {F : Nat → Prop} {w : World} {sz : Nat}
theorem EL.length : ∀ {es : List (List AV)} {ys : List Value}, EL F w sz es ys → ys.length = es.length * sz
  | [], ys, h => by simp only [EL] at h; subst h; simp
  | e :: r, ys, h => by
    simp only [EL] at h
    obtain ⟨a, b, rfl, h1, h2, h3⟩ := h
    rw [List.length_append, EL.length h3, h2.length, h1, List.length_cons, Nat.add_mul]; omega
theorem EL.one : ∀ {es : List (List AV)} {ys : List Value}, EL F w sz es ys → ∀ u ∈ ys, u.oneCell' = true
  | [], ys, h => by simp only [EL] at h; subst h; simp
  | e :: r, ys, h => by
    simp only [EL] at h
    obtain ⟨a, b, rfl, h1, h2, h3⟩ := h
    intro u hu
    rcases List.mem_append.1 hu with hu | hu
    · exact h2.one u hu
    · exact EL.one h3 u hu
theorem EL.append : ∀ {es fs : List (List AV)} {ys zs : List Value}, EL F w sz es ys → EL F w sz fs zs → EL F w sz (es ++ fs) (ys ++ zs)
  | [], fs, ys, zs, h, g => by simp only [EL] at h; subst h; simpa using g
  | e :: r, fs, ys, zs, h, g => by
    simp only [EL] at h
    obtain ⟨a, b, rfl, h1, h2, h3⟩ := h
    simp only [List.cons_append, EL]
    exact ⟨a, b ++ zs, by rw [List.append_assoc], h1, h2, EL.append h3 g⟩
theorem EL.mono {F' : Nat → Prop} {w' : World} (hF : ∀ b, F b → F' b) (hw : ∀ b, F b → w'.heap[b]? = w.heap[b]?) : ∀ {es : List (List AV)} {ys : List Value}, EL F w sz es ys → EL F' w' sz es ys
  | [], ys, h => by simpa only [EL] using h
  | e :: r, ys, h => by
    simp only [EL] at h ⊢
    obtain ⟨a, b, e1, h1, h2, h3⟩ := h
    exact ⟨a, b, e1, h1, LF.mono hF hw _ _ h2, EL.mono hF hw h3⟩
theorem MF.of : ∀ {cs : List AV} {ys : List Value} {b off : Nat}, LF F w cs ys → w.rangeAt b off ys → MF F w cs b off
  | [], _, _, _, _, _ => by simp only [MF]
  | x :: r, ys, b, off, h, g => by
    simp only [LF] at h
    obtain ⟨y, s, rfl, hx, h1, h⟩ := h
    have g' := rangeAt_append (xs := [y]).1 g
    simp only [MF]
    exact ⟨⟨y, by simpa using g'.1 0 y rfl, hx, h1⟩, MF.of h g'.2⟩
theorem EF.of : ∀ {es : List (List AV)} {ys : List Value} {b off : Nat}, EL F w sz es ys → w.rangeAt b off ys → EF F w sz es b off
  | [], _, _, _, _, _ => by simp only [EF]
  | e :: r, ys, b, off, h, g => by
    simp only [EL] at h
    obtain ⟨x, y, rfl, h1, h2, h3⟩ := h
    have g' := rangeAt_append.1 g
    simp only [EF]
    exact ⟨h1, MF.of h2 g'.1, EF.of h3 (by rw [← h1, ← h2.length]; exact g'.2)⟩
theorem EF.vals : ∀ {es : List (List AV)} {b off : Nat}, EF F w sz es b off → ∃ xs : List Value, EL F w sz es xs ∧ w.rangeAt b off xs
  | [], _, _, _ => ⟨[], by simp only [EL], fun j v h => by simp at h⟩
  | e :: r, b, off, h => by
    simp only [EF] at h
    obtain ⟨h1, h2, h3⟩ := h
    obtain ⟨xs, hl, hL, hr, _⟩ := h2.vals
    obtain ⟨ys, hE, hr'⟩ := EF.vals h3
    refine ⟨xs ++ ys, ?_, rangeAt_append.2 ⟨hr, by rw [hl, h1]; exact hr'⟩⟩
    simp only [EL]
    exact ⟨xs, ys, rfl, h1, hL, hE⟩
end

theorem rangeAt_row {w : World} {b off : Nat} {cur : Array Value} {T : TypeId} {fr : Nat × Nat} (h : w.heap[b]? = some (.cells cur T fr)) {xs : List Value}
    (hx : ∀ j v, xs[j]? = some v → cur[off + j]? = some v) : w.rangeAt b off xs := fun j v hj => by
  rw [cell_of_row w b (off + j) cur T fr h]; exact hx j v hj

/-! ### Cells of a local block -/
def one : AV → Bool
  | .any => false
  | .v x => x.oneCell'
  | .agg _ | .lag _ | .tup _ => false
  | _ => true
theorem one_R {c : Cx} {x : AV} {y : Value} (h1 : one x = true) (h : R c x y) : y.oneCell' = true := by
  cases x <;> simp only [one, Bool.false_eq_true] at h1 <;> simp only [R, RF, OS] at h
  · subst h; exact h1
  · obtain ⟨_, a, cap, rfl, _⟩ := h; rfl
  · obtain ⟨a, rfl⟩ := h; rfl
  · obtain ⟨b, off, rfl, _⟩ := h; rfl
  · obtain ⟨_, b, _, rfl⟩ := h; rfl
  · obtain ⟨_, b, _, rfl⟩ := h; rfl
  · rcases h with ⟨_, ⟨_, rfl, _⟩ | ⟨b, cap, arr, T, _, rfl, _⟩⟩ <;> rfl
  · obtain ⟨_, b, _, rfl⟩ := h; rfl
  · obtain ⟨xs, ys, rfl, _⟩ := h; rfl
  · obtain ⟨u, rfl, _⟩ := h; rfl

/-- A tree without local parts. -/
def isF : AV → Bool
  | .any | .v _ | .fs _ _ _ | .fz | .fp _ | .agg _ => true
  | _ => false
theorem RF_of_R {c : Cx} {x : AV} {y : Value} (hf : isF x = true) (h : R c x y) : RF c.F c.w x y := by
  cases x <;> simp only [isF, Bool.false_eq_true] at hf <;> simpa only [R, RF] using h

theorem MR.get {c : Cx} : ∀ {cs : List AV} {b off i : Nat} {x : AV}, MR c cs b off → cs[i]? = some x →
    ∃ u, c.w.cell? ⟨b, off + i, none⟩ = some u ∧ R c x u ∧ u.oneCell' = true
  | [], _, _, i, x, _, h => by simp at h
  | x0 :: r, b, off, i, x, h, hi => by
    simp only [MR] at h
    cases i with
    | zero => simp at hi; subst hi; exact h.1
    | succ i => have := MR.get h.2 (i := i) (by simpa using hi); rwa [show off + 1 + i = off + (i + 1) by omega] at this
theorem MR.mk {c : Cx} : ∀ {cs : List AV} {b off : Nat}, (∀ i x, cs[i]? = some x → ∃ u, c.w.cell? ⟨b, off + i, none⟩ = some u ∧ R c x u ∧ u.oneCell' = true) → MR c cs b off
  | [], _, _, _ => by simp only [MR]
  | x0 :: r, b, off, h => by
    simp only [MR]
    exact ⟨h 0 x0 rfl, MR.mk fun i x hi => by have := h (i + 1) x (by simpa using hi); rwa [show off + (i + 1) = off + 1 + i by omega] at this⟩
theorem MR.drop {c : Cx} {cs : List AV} {b off : Nat} (k : Nat) (h : MR c cs b off) : MR c (cs.drop k) b (off + k) :=
  MR.mk fun i x hi => by rw [List.getElem?_drop] at hi; have := h.get hi; rwa [← Nat.add_assoc] at this
theorem MR.take {c : Cx} {cs : List AV} {b off : Nat} (k : Nat) (h : MR c cs b off) : MR c (cs.take k) b off :=
  MR.mk fun i x hi => h.get (by rw [List.getElem?_take] at hi; split at hi; exact hi; cases hi)
theorem MR.vals {c : Cx} : ∀ {cs : List AV} {b off : Nat}, MR c cs b off → ∃ xs : List Value, xs.length = cs.length ∧ LR c cs xs ∧ c.w.rangeAt b off xs
  | [], _, _, _ => ⟨[], rfl, by simp only [LR], fun j v h => by simp at h⟩
  | x :: r, b, off, h => by
    simp only [MR] at h
    obtain ⟨⟨u, hc, hx, h1⟩, h⟩ := h
    obtain ⟨xs, hl, hL, hr⟩ := MR.vals h
    refine ⟨u :: xs, by simp [hl], ?_, ?_⟩
    · simp only [LR]; exact ⟨u, xs, rfl, hx, h1, hL⟩
    · intro j v hj
      cases j with
      | zero => simp at hj; subst hj; exact hc
      | succ j => have := hr j v (by simpa using hj); rwa [show off + 1 + j = off + (j + 1) by omega] at this
theorem LR.get {c : Cx} : ∀ {cs : List AV} {ys : List Value} {i : Nat} {x : AV}, LR c cs ys → cs[i]? = some x → ∃ y, ys[i]? = some y ∧ R c x y ∧ y.oneCell' = true
  | [], _, i, x, _, h => by simp at h
  | x0 :: r, ys, i, x, h, hi => by
    simp only [LR] at h
    obtain ⟨y, s, rfl, hx, h1, hr⟩ := h
    cases i with
    | zero => simp at hi; subst hi; exact ⟨y, rfl, hx, h1⟩
    | succ i => obtain ⟨y', h1, h2⟩ := LR.get hr (by simpa using hi); exact ⟨y', by simpa using h1, h2⟩
theorem LR.length {c : Cx} : ∀ {cs : List AV} {ys : List Value}, LR c cs ys → ys.length = cs.length
  | [], ys, h => by simp only [LR] at h; subst h; rfl
  | x :: r, ys, h => by
    simp only [LR] at h
    obtain ⟨y, s, rfl, _, h1, h⟩ := h
    simp [LR.length h]
theorem LR.one {c : Cx} : ∀ {cs : List AV} {ys : List Value}, LR c cs ys → ∀ u ∈ ys, u.oneCell' = true
  | [], ys, h => by simp only [LR] at h; subst h; simp
  | x :: r, ys, h => by
    simp only [LR] at h
    obtain ⟨y, s, rfl, _, h1, h⟩ := h
    intro u hu
    rcases List.mem_cons.1 hu with e | hu
    · subst e; exact h1
    · exact LR.one h u hu
theorem LR.of_LF {c : Cx} : ∀ {cs : List AV} {ys : List Value}, LF c.F c.w cs ys → LR c cs ys
  | [], ys, h => by simpa only [LF, LR] using h
  | x :: r, ys, h => by
    simp only [LF] at h; simp only [LR]
    obtain ⟨y, s, e, hx, h1, h⟩ := h
    exact ⟨y, s, e, R.of_RF _ _ _ hx, h1, LR.of_LF h⟩
theorem LF_of_LR {c : Cx} : ∀ {cs : List AV} {ys : List Value}, cs.all isF = true → LR c cs ys → LF c.F c.w cs ys
  | [], ys, _, h => by simpa only [LF, LR] using h
  | x :: r, ys, hf, h => by
    simp only [LR] at h; simp only [LF]
    simp only [List.all_cons, Bool.and_eq_true] at hf
    obtain ⟨y, s, e, hx, h1, h⟩ := h
    exact ⟨y, s, e, RF_of_R hf.1 hx, h1, LF_of_LR hf.2 h⟩

/-- What is written into one or several cells: the cells of a value. -/
def cellsOf : AV → List AV
  | .agg cs => cs
  | .lag cs => cs
  | x => [x]
theorem cells_R {c : Cx} {x : AV} {y : Value} (h : R c x y) (h1 : one x = true ∨ (∃ cs, x = .agg cs) ∨ ∃ cs, x = .lag cs) : LR c (cellsOf x) y.cells.toList := by
  rcases h1 with h1 | ⟨cs, rfl⟩ | ⟨cs, rfl⟩
  · have ho := one_R h1 h
    have e1 : cellsOf x = [x] := by cases x <;> first | rfl | (simp [one] at h1)
    have e2 : y.cells = #[y] := by cases y <;> first | rfl | (simp [Value.oneCell'] at ho)
    rw [e1, e2]
    simp only [LR]
    exact ⟨y, [], rfl, h, ho, rfl⟩
  · simp only [R, RF] at h
    obtain ⟨xs, rfl, h⟩ := h
    exact LR.of_LF h
  · simp only [R] at h
    obtain ⟨xs, rfl, h⟩ := h
    exact h
def fit : AV → Bool
  | .agg _ | .lag _ => true
  | x => one x
theorem fit_cells {x : AV} (h : fit x = true) : one x = true ∨ (∃ cs, x = .agg cs) ∨ ∃ cs, x = .lag cs := by
  cases x <;> first | exact .inl h | exact .inr (.inl ⟨_, rfl⟩) | exact .inr (.inr ⟨_, rfl⟩)

section
variable {P : Program} {td : TDs} [T : TOK P td] {G : List (Nat × List AV)} {N : Nat} {Q : AQ} {S : SL} {L : List LB}
  {op : Op} {ty : TypeId} {x : AV}

/-- A variable of its own. -/
theorem ev_box {t : TypeId} {u : Operand} {k : Nat} {L' : List LB} (h : val G S u = some x) (hf : fit x = true) (hk : L.length = k) (hL : L ++ [.box (cellsOf x)] = L') : Ev2 P G N (.box t u) ty S L (.lp k 0) S L' := by
  subst hk hL
  intro o ho _ cx a hc
  have hx := val_R hc h
  have hcs := cells_R hx (fit_cells hf)
  have A := Alloc.alloc cx.w (.cells (a.eval u).cells t)
  have hs := SubX.new hc.st A 0 0
  have hb : BR (cx.new (cx.w.alloc (.cells (a.eval u).cells t)) 0 0) cx.n (.box (cellsOf x)) := by
    simp only [BR]
    refine ⟨cx.w.heap.size, (a.eval u).cells, t, by simp [Cx.new], A.new, by have := hcs.length; simp at this; omega, ?_⟩
    refine MR.mk fun i z hi => ?_
    obtain ⟨y, h1, h2, h3⟩ := hcs.get hi
    refine ⟨y, ?_, R.mono hs _ _ (noid_all z) h2, h3⟩
    show (cx.w.alloc _).cell? _ = _
    rw [cell_of_row _ _ _ _ _ _ A.new]
    simpa using h1
  obtain ⟨st', ex⟩ := hc.st.new A 0 0 hb
  refine ⟨.pointer (some ⟨cx.w.heap.size, 0, none⟩), cx.new (cx.w.alloc (.cells (a.eval u).cells t)) 0 0, ?_, ?_, st', ex, hc.sr.mono_all hs⟩
  · simp only [execOp, ho, Instr.box, newVar, newRow, Sem.run_bind, run_newObj, Result.andThen_ok, Sem.run_pure]; rfl
  · simp only [R]; exact ⟨by simp [Cx.new, hc.st.n], cx.w.heap.size, by simp [Cx.new, hc.st.n], rfl⟩

theorem ev_alloc {t : TypeId} {d : TD} {k : Nat} {L' : List LB} (ht : lk td t = some d) (hz : d.zero.all (·.oneCell') = true) (hk : L.length = k) (hL : L ++ [.box (d.zero.map .v)] = L') : Ev2 P G N (.alloc t) ty S L (.lp k 0) S L' := by
  subst hk hL
  intro o ho _ cx a hc
  obtain ⟨i, u, z, h1, h2, h3, h4, h5, h6, h7⟩ := tok_parts (P := P) ht
  have A := Alloc.alloc cx.w (.cells z.cells t)
  have hs := SubX.new hc.st A 0 0
  have hb : BR (cx.new (cx.w.alloc (.cells z.cells t)) 0 0) cx.n (.box (d.zero.map .v)) := by
    simp only [BR]
    refine ⟨cx.w.heap.size, z.cells, t, by simp [Cx.new], A.new, by rw [← h7]; simp, ?_⟩
    refine MR.mk fun i w hi => ?_
    rw [List.getElem?_map] at hi
    cases hq : d.zero[i]? with
    | none => simp [hq] at hi
    | some y =>
      simp only [hq, Option.map_some, Option.some.injEq] at hi
      subst hi
      refine ⟨y, ?_, by simp only [R], (List.all_eq_true.1 hz) y (List.mem_of_getElem? hq)⟩
      show (cx.w.alloc _).cell? _ = _
      rw [cell_of_row _ _ _ _ _ _ A.new]
      rw [← h7] at hq
      simpa using hq
  obtain ⟨st', ex⟩ := hc.st.new A 0 0 hb
  refine ⟨.pointer (some ⟨cx.w.heap.size, 0, none⟩), cx.new (cx.w.alloc (.cells z.cells t)) 0 0, ?_, ?_, st', ex, hc.sr.mono_all hs⟩
  · simp [execOp, ho, Instr.alloc, zeroValue, typeInfo, h1, h3, newVar, newRow, Cx.new]
  · simp only [R]; exact ⟨by simp [Cx.new, hc.st.n], cx.w.heap.size, by simp [Cx.new, hc.st.n], rfl⟩

theorem ev_ll_one {t : Nat} {d : TD} {u : Operand} {k q : Nat} {bs : List AV} {c : AV} (h : val G S u = some (.lp k q)) (hk : L[k]? = some (.box bs)) (ht : lk td t = some d) (hr : d.k.row = false) (hcs : bs[q]? = some c) :
    Ev P G N (.load t u) ty S L c := by
  intro o ho _ cx a hc
  have e1 := val_R hc h
  have hb := hc.st.blk _ _ hk
  simp only [R] at e1
  simp only [BR] at hb
  obtain ⟨hk', b, hb', e1⟩ := e1
  obtain ⟨b2, arr, T', hb2, hh, hl, hm⟩ := hb
  rw [hb'] at hb2; injection hb2 with hb2; subst hb2
  obtain ⟨y, hy, hx, _⟩ := hm.get hcs
  rw [Nat.zero_add] at hy
  exact ⟨y, by simp [execOp, ho, e1, Instr.loadAt, Instr.sureAddr, load_one (P := P) ht hr hy], hx⟩

theorem loadR_agg {t : Nat} {d : TD} (ht : lk td t = some d) (hr : d.k.row = true) {c : Cx} {cs : List AV} {b off : Nat} (hm : MR c cs b off) (hn : cs.length = d.size) :
    ∃ xs : List Value, (loadVar t ⟨b, off, none⟩).run P c.w = .ok (.agg xs.toArray) c.w ∧ LR c cs xs := by
  obtain ⟨i, u, z, h1, h2, h3, h4, h5, h6, h7⟩ := tok_parts (P := P) ht
  obtain ⟨xs, hl, hL, hra⟩ := hm.vals
  exact ⟨xs, run_loadVar_mid c.w b off t xs u hra h2 (by rw [row_of_tk, h4, hr]) (by simp [h1, h5, hl, hn]), hL⟩

theorem ev_ll_lag {t : Nat} {d : TD} {u : Operand} {k q : Nat} {bs es : List AV} (h : val G S u = some (.lp k q)) (hk : L[k]? = some (.box bs)) (ht : lk td t = some d) (hr : d.k.row = true) (hcs : (bs.drop q).take d.size = es) (hn : es.length = d.size) :
    Ev P G N (.load t u) ty S L (.lag es) := by
  intro o ho _ cx a hc
  have e1 := val_R hc h
  have hb := hc.st.blk _ _ hk
  simp only [R] at e1
  simp only [BR] at hb
  obtain ⟨hk', b, hb', e1⟩ := e1
  obtain ⟨b2, arr, T', hb2, hh, hl, hm⟩ := hb
  rw [hb'] at hb2; injection hb2 with hb2; subst hb2
  have hm2 : MR cx es b q := by have := (hm.drop q).take d.size; rw [hcs, Nat.zero_add] at this; exact this
  obtain ⟨xs, h1, h2⟩ := loadR_agg (P := P) ht hr hm2 hn
  exact ⟨.agg xs.toArray, by simp [execOp, ho, e1, Instr.loadAt, Instr.sureAddr, h1], by simp only [R]; exact ⟨_, rfl, h2⟩⟩
theorem ev_ll_agg {t : Nat} {d : TD} {u : Operand} {k q : Nat} {bs es : List AV} (h : val G S u = some (.lp k q)) (hk : L[k]? = some (.box bs)) (ht : lk td t = some d) (hr : d.k.row = true) (hcs : (bs.drop q).take d.size = es) (hn : es.length = d.size)
    (hf : es.all isF = true) : Ev P G N (.load t u) ty S L (.agg es) := by
  intro o ho h0 cx a hc
  obtain ⟨y, h1, h2⟩ := ev_ll_lag (P := P) h hk ht hr hcs hn o ho h0 cx a hc
  refine ⟨y, h1, ?_⟩
  simp only [R, RF] at h2 ⊢
  obtain ⟨xs, e, h2⟩ := h2
  exact ⟨xs, e, LF_of_LR hf h2⟩

theorem ev_el_one {t : Nat} {d : TD} {u : Operand} {k i q E sz : Nat} {es : List (List AV)} {e : List AV} {c : AV} (h : val G S u = some (.ep k i q)) (hk : L[k]? = some (.own E sz es)) (ht : lk td t = some d) (hr : d.k.row = false)
    (he : es[i]? = some e) (hcs : e[q]? = some c) : Ev P G N (.load t u) ty S L c := by
  intro o ho _ cx a hc
  have e1 := val_R hc h
  have hb := hc.st.blk _ _ hk
  simp only [R] at e1
  simp only [BR] at hb
  obtain ⟨hk', b, hb', e1⟩ := e1
  obtain ⟨hsz, hln, hb⟩ := hb
  rcases hb with ⟨h0, _⟩ | ⟨b2, arr, hb2, hh, hl, hm⟩
  · rw [h0] at hb'; cases hb'
  · rw [hb'] at hb2; injection hb2 with hb2; subst hb2
    obtain ⟨y, hy, hx, _⟩ := (hm.get he).2.get hcs
    rw [Nat.zero_add, ← hsz] at hy
    exact ⟨y, by simp [execOp, ho, e1, Instr.loadAt, Instr.sureAddr, load_one (P := P) ht hr hy], R.of_RF _ _ _ hx⟩
theorem ev_el_agg {t : Nat} {d : TD} {u : Operand} {k i q E sz : Nat} {es : List (List AV)} {e f : List AV} (h : val G S u = some (.ep k i q)) (hk : L[k]? = some (.own E sz es)) (ht : lk td t = some d) (hr : d.k.row = true)
    (he : es[i]? = some e) (hcs : (e.drop q).take d.size = f) (hn : f.length = d.size) : Ev P G N (.load t u) ty S L (.agg f) := by
  intro o ho _ cx a hc
  have e1 := val_R hc h
  have hb := hc.st.blk _ _ hk
  simp only [R] at e1
  simp only [BR] at hb
  obtain ⟨hk', b, hb', e1⟩ := e1
  obtain ⟨hsz, hln, hb⟩ := hb
  rcases hb with ⟨h0, _⟩ | ⟨b2, arr, hb2, hh, hl, hm⟩
  · rw [h0] at hb'; cases hb'
  · rw [hb'] at hb2; injection hb2 with hb2; subst hb2
    have hm2 := ((hm.get he).2.drop q).take d.size
    rw [hcs, Nat.zero_add, ← hsz] at hm2
    obtain ⟨xs, h1, h2⟩ := load_agg (P := P) ht hr hm2 hn
    exact ⟨.agg xs.toArray, by simp [execOp, ho, e1, Instr.loadAt, Instr.sureAddr, h1], by simp only [R, RF]; exact ⟨_, rfl, h2⟩⟩

theorem run_storeAt' {t : Nat} {d : TD} (ht : lk td t = some d) {w : World} {b off : Nat} {arr : Array Value} {T' : TypeId} (hh : w.heap[b]? = some (.cells arr T' (0, 0))) {v : Value} (hn : v.cells.size = d.size) (hfit : off + v.cells.size ≤ arr.size)
    (h1 : ∀ u ∈ v.cells.toList, u.oneCell' = true) :
    (Instr.storeAt t (.pointer (some ⟨b, off, none⟩)) v).run P w = .ok () (w.setRow b (arr.toList.take off ++ v.cells.toList ++ arr.toList.drop (off + v.cells.size)).toArray) := by
  have := run_storeCells_at (P := P) b off T' v.cells.toList 0 arr w hh (by simpa using hfit) h1
  simp only [Nat.add_zero, Array.length_toList] at this
  simp [Instr.storeAt, Instr.sureAddr, storeVar, run_sizeOf' (P := P) ht, hn, this]

theorem splice_get {arr vs : List Value} {off j : Nat} (h : off + vs.length ≤ arr.length) :
    (arr.take off ++ vs ++ arr.drop (off + vs.length))[j]? = if j < off then arr[j]? else if j < off + vs.length then vs[j - off]? else arr[j]? := by
  have hl : (arr.take off).length = off := by rw [List.length_take]; omega
  by_cases h1 : j < off
  · rw [if_pos h1, List.append_assoc, List.getElem?_append_left (by omega), List.getElem?_take, if_pos h1]
  · rw [if_neg h1]
    by_cases h2 : j < off + vs.length
    · rw [if_pos h2, List.append_assoc, List.getElem?_append_right (by omega), hl, List.getElem?_append_left (by omega)]
    · rw [if_neg h2, List.getElem?_append_right (by simp; omega), List.getElem?_drop]
      congr 1
      simp; omega

/-- A store into a local variable. -/
theorem ev_st_lp {t : Nat} {d : TD} {u e : Operand} {k q : Nat} {bs : List AV} (h : val G S u = some (.lp k q)) (hk : L[k]? = some (.box bs)) (he : val G S e = some x) (hfx : fit x = true) (ht : lk td t = some d)
    (hn : (cellsOf x).length = d.size) (hq : Nat.ble (q + d.size) bs.length = true) {L' : List LB} (hL : L.set k (.box (bs.take q ++ cellsOf x ++ bs.drop (q + d.size))) = L') :
    EvS P G N (.store t u e) ty S L S L' := by
  subst hL
  replace hq := Nat.le_of_ble_eq_true hq
  intro o ho _ cx a hc
  have e1 := val_R hc h
  have hx := val_R hc he
  have hcs := cells_R hx (fit_cells hfx)
  have hb := hc.st.blk _ _ hk
  simp only [R] at e1
  simp only [BR] at hb
  obtain ⟨hk', b, hb', e1⟩ := e1
  obtain ⟨b2, arr, T', hb2, hh, hl, hm⟩ := hb
  rw [hb'] at hb2; injection hb2 with hb2; subst hb2
  have hvl : (a.eval e).cells.size = d.size := by rw [← hn, ← hcs.length]; simp
  have hr := run_storeAt' (P := P) (off := q) ht hh hvl (by omega) hcs.one
  generalize hcur : (arr.toList.take q ++ (a.eval e).cells.toList ++ arr.toList.drop (q + (a.eval e).cells.size)).toArray = cur at hr
  have hcs' : cur.size = arr.size := by rw [← hcur]; simp; omega
  have hs := SubX.row' hc.st hb' hh hcs'
  have hget : ∀ j, cur[j]? = if j < q then arr[j]? else if j < q + (a.eval e).cells.size then (a.eval e).cells[j - q]? else arr[j]? := by
    intro j
    have := splice_get (arr := arr.toList) (vs := (a.eval e).cells.toList) (off := q) (j := j) (by simp; omega)
    rw [← hcur]
    simpa using this
  have hbr : BR { cx with w := cx.w.setRow b cur } k (.box (bs.take q ++ cellsOf x ++ bs.drop (q + d.size))) := by
    simp only [BR]
    refine ⟨b, cur, T', hb', setRow_heap _ _ _ _ _ _ hh, by simp [hn]; omega, ?_⟩
    refine MR.mk fun i z hi => ?_
    rw [Nat.zero_add]
    show ∃ u, (cx.w.setRow b cur).cell? _ = some u ∧ _
    rw [cell_setRow_same _ _ _ _ _ _ _ hh, hget]
    have hl2 : (bs.take q).length = q := by rw [List.length_take]; omega
    by_cases h1 : i < q
    · rw [if_pos h1]
      rw [List.append_assoc, List.getElem?_append_left (by omega), List.getElem?_take, if_pos h1] at hi
      obtain ⟨y, h2, h3, h4⟩ := hm.get hi
      rw [Nat.zero_add, cell_of_row _ _ _ _ _ _ hh] at h2
      exact ⟨y, h2, R.mono hs _ _ (noid_all z) h3, h4⟩
    · rw [if_neg h1]
      by_cases h2 : i < q + d.size
      · rw [if_pos (by omega)]
        rw [List.append_assoc, List.getElem?_append_right (by omega), hl2, List.getElem?_append_left (by omega)] at hi
        obtain ⟨y, h3, h4, h5⟩ := hcs.get hi
        exact ⟨y, by simpa using h3, R.mono hs _ _ (noid_all z) h4, h5⟩
      · rw [if_neg (by omega)]
        rw [List.getElem?_append_right (by simp; omega), List.getElem?_drop] at hi
        have : q + d.size + (i - (bs.take q ++ cellsOf x).length) = i := by simp; omega
        rw [this] at hi
        obtain ⟨y, h3, h4, h5⟩ := hm.get hi
        rw [Nat.zero_add, cell_of_row _ _ _ _ _ _ hh] at h3
        exact ⟨y, h3, R.mono hs _ _ (noid_all z) h4, h5⟩
  obtain ⟨st', ex⟩ := hc.st.write hb' hh hcs' hbr
  exact ⟨{ cx with w := cx.w.setRow b cur }, by simp only [execOp, ho, e1, Sem.run_bind, hr, Result.andThen_ok, Sem.run_pure], st', ex, hc.sr.mono_all hs⟩
end
end Go.Ab
