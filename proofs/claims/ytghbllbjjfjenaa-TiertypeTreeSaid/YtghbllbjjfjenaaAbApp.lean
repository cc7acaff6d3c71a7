/- Slices that are made and grow, in the abstract logic. -/
import Derived.Test.YtghbllbjjfjenaaAbMem
namespace Go.Ab
set_option linter.unusedSectionVars false
set_option linter.unusedVariables false
set_option linter.unusedSimpArgs false
set_option linter.unnecessarySimpa false

/-- Local block k has moved, or was written. -/
def Cx.upd (c : Cx) (k : Nat) (nb : Option Nat) (ln : Nat) (w' : World) : Cx :=
  { c with φ := fun j => if j = k then nb else c.φ j, len := fun j => if j = k then ln else c.len j, w := w' }
abbrev but (k : Nat) : Nat → Bool := fun j => !(Nat.beq j k)
theorem but_ne {j k : Nat} (h : but k j = true) : j ≠ k := by
  intro e; subst e; simp [but] at h
theorem ne_but {j k : Nat} (h : j ≠ k) : but k j = true := by
  cases hb : Nat.beq j k with
  | false => simp [but, hb]
  | true => exact absurd (Nat.eq_of_beq_eq_true hb) h

section
variable {G : List (Nat × List AV)} {c : Cx} {L : List LB} {w' : World}
theorem St.upd (st : St G c L) {k : Nat} {nb : Option Nat} {ln : Nat} (hos : w'.os = c.w.os) (htape : w'.tape = c.w.tape) (hout : w'.output = c.w.output) (hsz : c.w.heap.size ≤ w'.heap.size)
    (hkeep : ∀ b, b < c.w.heap.size → c.φ k ≠ some b → w'.heap[b]? = c.w.heap[b]?) (hnb : nb = c.φ k ∨ ∃ z, nb = some z ∧ c.w.heap.size ≤ z ∧ z < w'.heap.size)
    (hk : k < L.length) (hid : ∀ j y, L[j]? = some y → j ≠ k → noidB (but k) y = true) {x : LB} (hx : SubX (but k) c (c.upd k nb ln w') → BR (c.upd k nb ln w') k x) :
    St G (c.upd k nb ln w') (L.set k x) ∧ Ext c (c.upd k nb ln w') ∧ SubX (but k) c (c.upd k nb ln w') := by
  have hs : SubX (but k) c (c.upd k nb ln w') := by
    refine ⟨fun _ h => h, fun b h => hkeep b (st.inF b h) (fun e => (st.loc k b e).2.1 h), fun _ h _ => h, fun j _ h => if_neg (but_ne h), fun _ _ _ => rfl, fun j _ h => if_neg (but_ne h), ?_⟩
    intro j b arr T hj hb hh
    exact ⟨arr, (hkeep b (st.loc j b hb).2.2 (fun e => but_ne hj (st.inj _ _ _ hb e))).trans hh, rfl⟩
  have hφ : ∀ j b, (c.upd k nb ln w').φ j = some b → (j ≠ k ∧ c.φ j = some b) ∨ (j = k ∧ c.φ k = some b) ∨ (j = k ∧ c.w.heap.size ≤ b ∧ b < w'.heap.size) := by
    intro j b h
    simp only [Cx.upd] at h
    split at h
    · rename_i e
      rcases hnb with h1 | ⟨z, h1, h2, h3⟩
      · rw [h1] at h; exact .inr (.inl ⟨e, h⟩)
      · rw [h1] at h; injection h with h; subst h; exact .inr (.inr ⟨e, h2, h3⟩)
    · rename_i e; exact .inl ⟨e, h⟩
  refine ⟨⟨by simp [Cx.upd, st.n], fun b h => Nat.lt_of_lt_of_le (st.inF b h) hsz, ?_, ?_, ?_, glob_mono st hs⟩, ⟨hos, htape, hout, hsz, fun _ h => h, fun _ h => .inl h, ?_, fun b hb hk' => hkeep b hb (hk' k)⟩, hs⟩
  · intro j b h
    show j < c.n ∧ ¬ c.F b ∧ b < w'.heap.size
    rcases hφ j b h with ⟨_, h⟩ | ⟨rfl, h⟩ | ⟨rfl, h1, h2⟩
    · have := st.loc j b h; exact ⟨this.1, this.2.1, Nat.lt_of_lt_of_le this.2.2 hsz⟩
    · have := st.loc j b h; exact ⟨this.1, this.2.1, Nat.lt_of_lt_of_le this.2.2 hsz⟩
    · exact ⟨by rw [st.n]; exact hk, fun hF => by have := st.inF b hF; omega, h2⟩
  · intro j j' b h h'
    rcases hφ j b h with ⟨n1, g⟩ | ⟨e1, g⟩ | ⟨e1, h1, h2⟩ <;> rcases hφ j' b h' with ⟨n2, g'⟩ | ⟨e2, g'⟩ | ⟨e2, h1', h2'⟩
    · exact st.inj _ _ _ g g'
    · rw [e2]; exact st.inj _ _ _ g g'
    · have := (st.loc _ _ g).2.2; omega
    · rw [e1]; exact st.inj _ _ _ g g'
    · rw [e1, e2]
    · rw [e1, e2]
    · have := (st.loc _ _ g').2.2; omega
    · rw [e1, e2]
    · rw [e1, e2]
  · intro j y h
    rcases set_get h with ⟨hj, h⟩ | ⟨rfl, rfl, _⟩
    · refine BR.mono hs (by rw [st.n]; exact lt_of_get h) (ne_but hj) (hid j y h hj) (fun b hb => hkeep b (st.loc j b hb).2.2 (fun e => hj (st.inj _ _ _ hb e))) (st.blk j y h)
    · exact hx hs
  · intro j b h
    rcases hφ j b h with ⟨_, h⟩ | ⟨_, h⟩ | ⟨_, h, _⟩
    · exact .inl ⟨j, h⟩
    · exact .inl ⟨k, h⟩
    · exact .inr h
end

/-- What a slice reads as, to append it: m elements. -/
def src (L : List LB) : AV → Option (List (List AV))
  | .fs _ _ es => some es
  | .os k => match L[k]? with
    | some (.own _ _ es) => some es
    | _ => none
  | .v (.slice none 0 0) => some []
  | .fz => some []
  | _ => none
def srcSz (L : List LB) (sz : Nat) : AV → Bool
  | .fs s _ _ => Nat.beq s sz
  | .os k => match L[k]? with
    | some (.own _ s _) => Nat.beq s sz
    | _ => false
  | _ => true

theorem src_R {G : List (Nat × List AV)} {c : Cx} {L : List LB} (st : St G c L) {x : AV} {y : Value} {es : List (List AV)} {sz : Nat} (hx : R c x y) (hs : src L x = some es) (hz : srcSz L sz x = true) :
    ∃ a cap, y = .slice a es.length cap ∧ es.length ≤ cap ∧ (es.length ≠ 0 → ∃ b off, a = some ⟨b, off, none⟩ ∧ EF c.F c.w sz es b off ∧ b < c.w.heap.size) := by
  unfold src at hs
  split at hs
  · injection hs with hs; subst hs
    simp only [R, RF] at hx
    simp only [srcSz] at hz
    have := Nat.eq_of_beq_eq_true hz; subst this
    obtain ⟨hl, a, cap, rfl, hc, hm⟩ := hx
    subst hl
    exact ⟨a, cap, rfl, hc, fun h => by obtain ⟨b, off, h1, h2, h3⟩ := hm h; exact ⟨b, off, h1, h3, st.inF b h2⟩⟩
  · rename_i k
    split at hs
    · rename_i E s es' hk
      injection hs with hs; subst hs
      simp only [srcSz, hk] at hz
      have := Nat.eq_of_beq_eq_true hz; subst this
      have hb := st.blk _ _ hk
      simp only [R, OS] at hx
      simp only [BR] at hb
      obtain ⟨h1, h2, hb⟩ := hb
      obtain ⟨_, hx⟩ := hx
      rcases hx with ⟨h3, rfl, h4⟩ | ⟨b, cap, arr, T, h3, rfl, h4, h5, h6, h7⟩
      · rcases hb with ⟨_, rfl⟩ | ⟨b, arr, h5, _⟩
        · exact ⟨none, 0, rfl, Nat.le_refl _, fun h => absurd rfl h⟩
        · rw [h4] at h5; cases h5
      · rcases hb with ⟨h8, rfl⟩ | ⟨b', arr', h8, h9, h10, h11⟩
        · rw [h3] at h8; cases h8
        · rw [h3] at h8; injection h8 with h8; subst h8
          rw [h2] at h5 ⊢
          exact ⟨_, cap, rfl, h5, fun _ => ⟨b, 0, rfl, h11, (st.loc _ _ h3).2.2⟩⟩
    · cases hs
  · injection hs with hs; subst hs
    simp only [R] at hx; subst hx
    exact ⟨none, 0, rfl, Nat.le_refl _, fun h => absurd rfl h⟩
  · injection hs with hs; subst hs
    simp only [R] at hx
    obtain ⟨a, rfl⟩ := hx
    exact ⟨a, 0, rfl, Nat.le_refl _, fun h => absurd rfl h⟩
  · cases hs

section
variable {P : Program} {td : TDs} [T : TOK P td] {G : List (Nat × List AV)} {N : Nat} {Q : AQ} {S S' : SL} {L : List LB}
  {op : Op} {ty : TypeId} {x : AV}

theorem run_append_zero {t e : Nat} {d ed : TD} (ht : lk td t = some d) (hs : d.k = .slice e) (he : lk td e = some ed) (w : World) (ty : Nat) (v : Value) (hv : v = .slice none 0 0 ∨ ∃ b n cap, v = .slice (some b) n cap ∧ n ≤ cap)
    (a : Option Addr) (cp : Nat) : (Builtin.append_ #[t, t] ty #[v, .slice a 0 cp]).run P w = .ok v w := by
  obtain ⟨i, u, z, h1, h2, h3, h4, h5, h6, h7⟩ := tok_parts (P := P) he
  have hf : (Builtin.firstCells i.size 0 (.slice a 0 cp)).run P w = .ok #[] w := by
    cases a with
    | none => simp [Builtin.firstCells]
    | some a => simp [Builtin.firstCells, loadCells, loadCellsFrom]
  rcases hv with rfl | ⟨b, n, cap, rfl, hle⟩
  · simp [Builtin.append_, run_underlying (slice_desc (P := P) ht hs), sizeOf, typeInfo, h1, Builtin.lenOf, hf]
  · simp [Builtin.append_, run_underlying (slice_desc (P := P) ht hs), sizeOf, typeInfo, h1, Builtin.lenOf, hf, hle, storeCells]

/-- 'append' to a slice of the call's own. -/
theorem ev_append {t e k sz : Nat} {d ed : TD} {u q : Operand} {es new : List (List AV)} {ats : Array TypeId} (h : val G S u = some (.os k)) (hk : L[k]? = some (.own e sz es)) (hq : val G S q = some x) (hsrc : src L x = some new) (hssz : srcSz L sz x = true)
    (hat : ats = #[t, t]) (ht : lk td t = some d) (hs : d.k = .slice e) (he : lk td e = some ed) (hsz : ed.size = sz) (hzl : ed.zero.length = sz) (hpos : Nat.blt 0 sz = true)
    (hb : (es.length + new.length) * ed.bytes ≤ 140737488355328 ∧ es.length + new.length ≤ maxLen) (hK : Keep (but k) S S') (hid : ∀ j y, L[j]? = some y → j ≠ k → noidB (but k) y = true) :
    Ev2 P G N (.call { callee := .builtin .append, args := #[u, q], argTypes := ats }) ty S L (.os k) S' (L.set k (.own e sz (es ++ new))) := by
  intro o ho _ cx a hc
  subst hat
  have e1 := val_R hc h
  have e2 := val_R hc hq
  have hbk := hc.st.blk _ _ hk
  have hkl := lt_of_get hk
  obtain ⟨ad, cp, ey, hcp, hsm⟩ := src_R hc.st e2 hsrc hssz
  obtain ⟨i, ud, z, h1, h2, h3, h4, h5, h6, h7⟩ := tok_parts (P := P) he
  have hsd := slice_desc (P := P) ht hs
  have hpos' : 0 < sz := Nat.le_of_ble_eq_true hpos
  have hzs : z.cells.size = sz := by rw [← hzl, ← h7]; simp
  simp only [R, OS] at e1
  simp only [BR] at hbk
  obtain ⟨b1, b2, hbk⟩ := hbk
  obtain ⟨hkn, e1⟩ := e1
  have hmax : es.length + new.length ≤ 9223372036854775807 := by have := hb.2; simp only [maxLen] at this; omega
  -- the end, from a run and the new place
  have fin : ∀ (nb : Option Nat) (w' : World) (v : Value), (Builtin.append_ #[t, t] o.type #[a.eval u, a.eval q]).run P cx.w = .ok v w' →
      w'.os = cx.w.os → w'.tape = cx.w.tape → w'.output = cx.w.output → cx.w.heap.size ≤ w'.heap.size →
      (∀ b, b < cx.w.heap.size → cx.φ k ≠ some b → w'.heap[b]? = cx.w.heap[b]?) → (nb = cx.φ k ∨ ∃ z, nb = some z ∧ cx.w.heap.size ≤ z ∧ z < w'.heap.size) →
      (SubX (but k) cx (cx.upd k nb (es ++ new).length w') → ((nb = none ∧ es ++ new = []) ∨ ∃ b arr, nb = some b ∧ w'.heap[b]? = some (.cells arr e (0, 0)) ∧ (es ++ new).length * sz ≤ arr.size ∧ EF cx.F w' sz (es ++ new) b 0)) →
      ((es ++ new).length = 0 ∧ v = .slice none 0 0 ∧ nb = none ∨ ∃ b cap arr T, nb = some b ∧ v = .slice (some ⟨b, 0, none⟩) (es ++ new).length cap ∧ w'.heap[b]? = some (.cells arr T (0, 0)) ∧ (es ++ new).length ≤ cap ∧ cap ≤ maxLen ∧ arr.size = cap * sz) →
      ∃ y cx', (execOp a.eval o).run P cx.w = .ok (.value y) cx'.w ∧ R cx' (.os k) y ∧ St G cx' (L.set k (.own e sz (es ++ new))) ∧ Ext cx cx' ∧ SR cx' S' a.tmps := by
    intro nb w' v hr hos htp hou hsz' hkeep hnb hbr hv
    obtain ⟨st', ex, hsub⟩ := hc.st.upd (k := k) (nb := nb) (ln := (es ++ new).length) hos htp hou hsz' hkeep hnb hkl hid (x := .own e sz (es ++ new)) (fun hsub => by
      simp only [BR, Cx.upd, if_true]
      exact ⟨b1, trivial, hbr hsub⟩)
    refine ⟨v, cx.upd k nb (es ++ new).length w', ?_, ?_, st', ex, SR.mono hsub hK hc.sr⟩
    · simp only [execOp, ho, resolve, invoke, builtin, Sem.run_bind, Sem.run_pure, Result.andThen_ok, List.map_toArray, List.map_cons, List.map_nil, hr]; rfl
    · simp only [R, OS, Cx.upd, if_true]
      refine ⟨hkn, ?_⟩
      rw [b1]
      exact hv
  by_cases hm0 : new.length = 0
  · have hn0 : new = [] := List.eq_nil_of_length_eq_zero hm0
    subst hn0
    simp only [List.length_nil] at ey
    have hr : (Builtin.append_ #[t, t] o.type #[a.eval u, a.eval q]).run P cx.w = .ok (a.eval u) cx.w := by
      rw [ey]
      refine run_append_zero (P := P) ht hs he cx.w _ _ ?_ _ _
      rcases e1 with ⟨_, e1, _⟩ | ⟨b, cap, arr, T', _, e1, _, hle, _⟩
      · exact .inl e1
      · exact .inr ⟨_, _, _, e1, hle⟩
    refine fin (cx.φ k) cx.w (a.eval u) hr rfl rfl rfl (Nat.le_refl _) (fun _ _ _ => rfl) (.inl rfl) (fun _ => by simpa using hbk) ?_
    rw [List.append_nil, ← b2]
    rw [← b1]
    exact e1
  · obtain ⟨sb, so, rfl, hE, hsb⟩ := hsm hm0
    obtain ⟨news, hEL, hra⟩ := hE.vals
    have hl : news.length = new.length * i.size := by rw [hEL.length, h5, hsz]
    have hnews : ∀ j v, news[j]? = some v → cx.w.cell? ((⟨sb, so, none⟩ : Addr).add j) = some v := fun j v hj => by rw [Addr.add_mid]; exact hra j v hj
    rcases e1 with ⟨l0, e1, f0⟩ | ⟨b, cap, arr, T', f1, e1, f2, f3, f4, f5⟩
    · -- from nil
      have hes : es = [] := by
        rcases hbk with ⟨_, h⟩ | ⟨b, _, h, _⟩
        · exact h
        · rw [f0] at h; cases h
      subst hes
      have hr := run_append_nil (P := P) cx.w t o.type e i z hsd h1 h3 ⟨sb, so, none⟩ new.length cp news hl hnews (by omega) (by simp at hmax; omega) (by have := hb.1; rw [← h6] at this; simp at this; omega)
      rw [← ey, ← e1] at hr
      have A := Alloc.drew cx.w (.cells (news.toArray ++ Builtin.zeroCells z.cells (grownCap cx.w new.length 0 e - new.length)) e)
      have hge := grownCap_ge cx.w new.length 0 e
      refine fin (some cx.w.heap.size) _ _ hr A.os A.tape A.output (by rw [A.size]; omega) (fun b hb _ => A.old b hb) (.inr ⟨_, rfl, Nat.le_refl _, by rw [A.size]; omega⟩) (fun hsub => .inr ⟨_, _, rfl, A.new, ?_, ?_⟩) (.inr ⟨_, grownCap cx.w new.length 0 e, _, _, rfl, ?_, A.new, ?_, ?_, ?_⟩)
      · simp only [List.nil_append]; rw [← hsz, ← h5, ← hl]; simp
      · simp only [List.nil_append]
        refine EF.of (EL.mono hsub.F hsub.heap hEL) (rangeAt_row A.new fun j v hj => ?_)
        rw [Nat.zero_add, Array.getElem?_append_left (by rcases Nat.lt_or_ge j news.length with h' | h'; simpa using h'; rw [List.getElem?_eq_none h'] at hj; cases hj)]
        simpa using hj
      · simp
      · simpa using hge
      · exact grownCap_le_maxLen cx.w new.length 0 e (by have := hb.2; simp at this; exact this)
      · simp only [Array.size_append, List.size_toArray, size_zeroCells, hzs, hl, h5, hsz, ← Nat.add_mul]
        congr 1; omega
    · have hbk' : ∃ arr', cx.w.heap[b]? = some (.cells arr' e (0, 0)) ∧ es.length * sz ≤ arr'.size ∧ EF cx.F cx.w sz es b 0 := by
        rcases hbk with ⟨g1, g2⟩ | ⟨b', arr', g1, g2, g3, g4⟩
        · rw [f1] at g1; cases g1
        · rw [f1] at g1; injection g1 with g1; subst g1; exact ⟨arr', g2, g3, g4⟩
      obtain ⟨arr', g2, g3, g4⟩ := hbk'
      rw [f2] at g2; injection g2 with g2; injection g2 with g2 g5; subst g2 g5
      rw [b2] at f3 e1
      rw [b1] at f5
      by_cases hroom : es.length + new.length ≤ cap
      · have hfit : es.length * i.size + news.length ≤ arr.size := by rw [hl, f5, h5, hsz, ← Nat.add_mul]; exact Nat.mul_le_mul_right _ hroom
        have hr := run_append_room (P := P) cx.w t o.type T' i hsd h1 b es.length cap arr f2 ⟨sb, so, none⟩ new.length cp news hl hnews hEL.one hroom hfit
        rw [← ey, ← e1] at hr
        have hlt : (arr.toList.take (es.length * i.size)).length = es.length * i.size := by rw [List.length_take]; simp; omega
        generalize hcur : (arr.toList.take (es.length * i.size) ++ news ++ arr.toList.drop (es.length * i.size + news.length)).toArray = cur at hr
        have hcs : cur.size = arr.size := by rw [← hcur]; simp; omega
        have hh := setRow_heap cx.w b arr cur T' (0, 0) f2
        refine fin (cx.φ k) _ _ hr rfl rfl rfl (by simp) (fun b' _ hne => setRow_other _ _ _ _ (fun e' => hne (e' ▸ f1))) (.inl rfl) (fun hsub => .inr ⟨b, cur, f1, hh, ?_, ?_⟩) (.inr ⟨b, cap, cur, T', f1, by simp, hh, by simpa using hroom, f4, by rw [hcs]; exact f5⟩)
        · rw [List.length_append, hcs, f5]; exact Nat.mul_le_mul_right _ hroom
        · obtain ⟨olds, hEo, hro⟩ := g4.vals
          refine EF.of ((EL.mono hsub.F hsub.heap hEo).append (EL.mono hsub.F hsub.heap hEL)) (rangeAt_row hh fun j v hj => ?_)
          rw [Nat.zero_add, ← hcur]
          have holen : olds.length = es.length * i.size := by rw [hEo.length, h5, hsz]
          simp only [List.getElem?_toArray]
          rcases Nat.lt_or_ge j olds.length with hjl | hjl
          · rw [List.getElem?_append_left hjl] at hj
            rw [List.append_assoc, List.getElem?_append_left (by omega), List.getElem?_take, if_pos (by omega)]
            have := hro j v hj
            rw [Nat.zero_add, cell_of_row _ _ _ _ _ _ f2] at this
            simpa using this
          · rw [List.getElem?_append_right hjl] at hj
            have hj2 : j - olds.length < news.length := by
              rcases Nat.lt_or_ge (j - olds.length) news.length with h' | h'
              · exact h'
              · rw [List.getElem?_eq_none h'] at hj; cases hj
            rw [List.append_assoc, List.getElem?_append_right (by omega), hlt, List.getElem?_append_left (by omega), ← holen]
            exact hj
      · obtain ⟨olds, hEo, hro⟩ := g4.vals
        have holen : olds.length = es.length * i.size := by rw [hEo.length, h5, hsz]
        have hr := run_append_grow (P := P) cx.w t o.type T' i z hsd h1 h3 ⟨b, 0, none⟩ es.length cap olds holen (fun j v hj => by rw [Addr.add_mid]; exact hro j v hj) ⟨sb, so, none⟩ new.length cp news hl hnews (by omega) (by omega)
          (growslice_fits (by omega) (by rw [h6]; exact hb.1))
        rw [← ey, ← e1] at hr
        have hge := grownCap_ge cx.w (es.length + new.length) cap T'
        have A := Alloc.drew cx.w (.cells (olds.toArray ++ news.toArray ++ Builtin.zeroCells z.cells (grownCap cx.w (es.length + new.length) cap T' - (es.length + new.length))) T')
        refine fin (some cx.w.heap.size) _ _ hr A.os A.tape A.output (by rw [A.size]; omega) (fun b hb _ => A.old b hb) (.inr ⟨_, rfl, Nat.le_refl _, by rw [A.size]; omega⟩) (fun hsub => .inr ⟨_, _, rfl, A.new, ?_, ?_⟩) (.inr ⟨_, grownCap cx.w (es.length + new.length) cap T', _, _, rfl, ?_, A.new, ?_, ?_, ?_⟩)
        · rw [List.length_append, Nat.add_mul, ← hsz, ← h5, ← hl, ← holen]; simp
        · refine EF.of ((EL.mono hsub.F hsub.heap hEo).append (EL.mono hsub.F hsub.heap hEL)) (rangeAt_row A.new fun j v hj => ?_)
          have hjl : j < olds.length + news.length := by
            rcases Nat.lt_or_ge j (olds ++ news).length with h' | h'
            · simpa using h'
            · rw [List.getElem?_eq_none h'] at hj; cases hj
          rw [Nat.zero_add, Array.getElem?_append_left (by simpa using hjl)]
          simpa using hj
        · simp
        · simpa using hge
        · exact grownCap_le_maxLen cx.w _ cap T' hb.2
        · simp only [Array.size_append, List.size_toArray, size_zeroCells, hzs, hl, holen, h5, hsz, ← Nat.add_mul]
          congr 1; omega
end
end Go.Ab
