/- Literals, slices of slices, makes, and more, in the abstract logic. -/
import Derived.Test.YtghbllbjjfjenaaAbDraw
namespace Go.Ab
set_option linter.unusedSectionVars false
set_option linter.unusedVariables false
set_option linter.unusedSimpArgs false
set_option linter.unnecessarySimpa false

/-! ### Literals -/
def afill (place : Nat → Option (Nat × Nat)) : List AV → List (Nat × AV) → Option (List AV)
  | cs, [] => some cs
  | cs, (i, x) :: r => match place i with
    | none => none
    | some (off, size) => bif fit x && Nat.beq (cellsOf x).length size && Nat.ble (off + size) cs.length then afill place (cs.take off ++ cellsOf x ++ cs.drop (off + size)) r else none

def partsV (G : List (Nat × List AV)) (S : SL) : List (Nat × Operand) → Option (List (Nat × AV))
  | [] => some []
  | (i, o) :: r => match val G S o, partsV G S r with
    | some x, some xs => some ((i, x) :: xs)
    | _, _ => none

theorem LR.mk {c : Cx} : ∀ {cs : List AV} {ys : List Value}, ys.length = cs.length → (∀ (i : Nat) (x : AV), cs[i]? = some x → ∃ y, ys[i]? = some y ∧ R c x y ∧ y.oneCell' = true) → LR c cs ys
  | [], ys, hl, _ => by simp only [LR]; exact List.eq_nil_of_length_eq_zero (by simpa using hl)
  | x :: r, [], hl, _ => by simp at hl
  | x :: r, y :: s, hl, h => by
    simp only [LR]
    obtain ⟨y', h1, h2, h3⟩ := h 0 x rfl
    simp at h1; subst h1
    exact ⟨_, s, rfl, h2, h3, LR.mk (by simpa using hl) fun i z hi => by have := h (i + 1) z (by simpa using hi); simpa using this⟩

theorem splice_LR {c : Cx} {cs : List AV} {arr : Array Value} {vs : List AV} {v : Value} {off : Nat} (h : LR c cs arr.toList) (hv : LR c vs v.cells.toList) (hle : off + vs.length ≤ cs.length) :
    LR c (cs.take off ++ vs ++ cs.drop (off + vs.length)) ((v.cells.zipIdx.foldl (fun cs (c, j) => cs.setIfInBounds (off + j) c) arr)).toList := by
  have hl := h.length
  have hvl := hv.length
  have h1 := Great.foldl_set off v.cells.toList 0 arr
  have e : (v.cells.zipIdx.foldl (fun cs (c, j) => cs.setIfInBounds (off + j) c) arr) = (v.cells.toList.zipIdx 0).foldl (fun cs (x : Value × Nat) => cs.setIfInBounds (off + x.2) x.1) arr := by
    rw [← Array.foldl_toList, Array.toList_zipIdx]
  rw [e]
  obtain ⟨h2, h3⟩ := h1
  refine LR.mk ?_ fun i x hi => ?_
  · simp only [Array.length_toList, h2]; simp only [List.length_append, List.length_take, List.length_drop]; simp at hl; omega
  · simp only [Array.getElem?_toList]
    rw [h3]
    simp only [Array.length_toList] at hl hvl
    have hl2 : (cs.take off).length = off := by rw [List.length_take]; omega
    by_cases c1 : i < off
    · rw [if_neg (by omega)]
      rw [List.append_assoc, List.getElem?_append_left (by omega), List.getElem?_take, if_pos c1] at hi
      obtain ⟨y, q1, q2⟩ := h.get hi
      exact ⟨y, by simpa using q1, q2⟩
    · by_cases c2 : i < off + vs.length
      · rw [if_pos ⟨by omega, by simp; omega, by omega⟩]
        rw [List.append_assoc, List.getElem?_append_right (by omega), hl2, List.getElem?_append_left (by omega)] at hi
        obtain ⟨y, q1, q2⟩ := hv.get hi
        exact ⟨y, by simpa using q1, q2⟩
      · rw [if_neg (by simp; omega)]
        rw [List.getElem?_append_right (by simp; omega), List.getElem?_drop] at hi
        have : off + vs.length + (i - (cs.take off ++ vs).length) = i := by simp; omega
        rw [this] at hi
        obtain ⟨y, q1, q2⟩ := h.get hi
        exact ⟨y, by simpa using q1, q2⟩

section
variable {P : Program} {td : TDs} [T : TOK P td] {G : List (Nat × List AV)} {N : Nat} {Q : AQ} {S S' : SL} {L : List LB}
  {op : Op} {ty : TypeId} {x : AV}

theorem fill_LR {cx : Cx} {a : Act} (hc : Cn G N S L cx a) {place : Nat → Option (Nat × Nat)} : ∀ {ps : List (Nat × Operand)} {xs : List (Nat × AV)} {cs cs' : List AV} {arr : Array Value},
    partsV G S ps = some xs → afill place cs xs = some cs' → LR cx cs arr.toList → ∃ arr', Instr.fill place arr (ps.map fun (i, o) => (i, a.eval o)) = some arr' ∧ LR cx cs' arr'.toList
  | [], xs, cs, cs', arr, hp, hf, h => by
    simp only [partsV, Option.some.injEq] at hp; subst hp
    simp only [afill, Option.some.injEq] at hf; subst hf
    exact ⟨arr, rfl, h⟩
  | (i, o) :: r, xs, cs, cs', arr, hp, hf, h => by
    simp only [partsV] at hp
    split at hp
    · rename_i x xs' hx hxs
      injection hp with hp; subst hp
      simp only [afill] at hf
      split at hf
      · cases hf
      · rename_i off size hpl
        cases hb : (fit x && Nat.beq (cellsOf x).length size && Nat.ble (off + size) cs.length) with
        | false => rw [hb] at hf; cases hf
        | true =>
          rw [hb] at hf
          simp only [cond_true] at hf
          simp only [Bool.and_eq_true] at hb
          have hsz := Nat.eq_of_beq_eq_true hb.1.2
          have hle := Nat.le_of_ble_eq_true hb.2
          subst hsz
          have hv := cells_R (val_R hc hx) (fit_cells hb.1.1)
          have hvl := hv.length
          have hl := h.length
          simp only [Array.length_toList] at hvl hl
          obtain ⟨arr', h1, h2⟩ := fill_LR hc hxs hf (splice_LR h hv hle)
          refine ⟨arr', ?_, h2⟩
          simp only [List.map_cons]
          unfold Instr.fill
          simp only [hpl]
          rw [if_neg (by simp; omega)]
          exact h1
    · cases hp

theorem zero_LR {cx : Cx} : ∀ {zs : List Value}, zs.all (·.oneCell') = true → LR cx (zs.map .v) zs
  | [], _ => by simp only [List.map_nil, LR]
  | z :: r, h => by
    simp only [List.all_cons, Bool.and_eq_true] at h
    simp only [List.map_cons, LR]
    exact ⟨z, r, rfl, by simp only [R], h.1, zero_LR h.2⟩

/-- Where the fields lie. -/
def placesOf (td : TDs) : List (TypeId × Nat) → Option (List (Nat × Nat))
  | [] => some []
  | (t, off) :: r => match lk td t, placesOf td r with
    | some d, some ps => some ((off, d.size) :: ps)
    | _, _ => none

theorem places_mapM (P : Program) {td : TDs} [TOK P td] : ∀ {fs : List Field} {ps : List (Nat × Nat)}, placesOf td (fs.map fun f => (f.type, f.offset)) = some ps →
    fs.mapM (fun f => (P.info? f.type).map fun i => (f.offset, i.size)) = some ps
  | [], ps, h => by simp only [List.map_nil, placesOf, Option.some.injEq] at h; subst h; rfl
  | f :: r, ps, h => by
    simp only [List.map_cons, placesOf] at h
    split at h
    · rename_i d ps' h1 h2
      injection h with h; subst h
      obtain ⟨i, u, z, q1, q2, q3, q4, q5, q6, q7⟩ := tok_parts (P := P) h1
      rw [List.mapM_cons, places_mapM P h2]
      simp [q1, q5]
    · cases h

/-- A struct literal. -/
theorem ev_build_lag {t : Nat} {d : TD} {ps : Array (Nat × Operand)} {fs : List (TypeId × Nat)} {pl : List (Nat × Nat)} {xs : List (Nat × AV)} {cs : List AV} (ht : lk td t = some d) (hs : d.k = .struct fs) (hpl : placesOf td fs = some pl)
    (hz : d.zero.all (·.oneCell') = true) (hx : partsV G S ps.toList = some xs) (hf : afill (pl[·]?) (d.zero.map .v) xs = some cs) : Ev P G N (.build t ps) ty S L (.lag cs) := by
  intro o ho _ cx a hc
  obtain ⟨i, u, z, h1, h2, h3, h4, h5, h6, h7⟩ := tok_parts (P := P) ht
  rw [hs] at h4
  cases u <;> simp only [tk, reduceCtorEq, TK.struct.injEq] at h4
  rename_i fields
  subst h4
  obtain ⟨arr, g1, g2⟩ := fill_LR hc (arr := z.cells) hx hf (by rw [h7]; exact zero_LR hz)
  refine ⟨.agg arr, ?_, by simp only [R]; exact ⟨arr, rfl, g2⟩⟩
  have hb : P.built t ((ps.map fun (i, x) => (i, a.eval x))).toList = some arr := by
    unfold Program.built
    simp only [h1, h2, h3, places_mapM P hpl]
    simpa using g1
  simp only [execOp, ho, Sem.run_bind, run_build cx.w t _ arr hb, Result.andThen_ok, Sem.run_pure]
theorem ev_build {t : Nat} {d : TD} {ps : Array (Nat × Operand)} {fs : List (TypeId × Nat)} {pl : List (Nat × Nat)} {xs : List (Nat × AV)} {cs : List AV} (ht : lk td t = some d) (hs : d.k = .struct fs) (hpl : placesOf td fs = some pl)
    (hz : d.zero.all (·.oneCell') = true) (hx : partsV G S ps.toList = some xs) (hf : afill (pl[·]?) (d.zero.map .v) xs = some cs) (hF : cs.all isF = true) : Ev P G N (.build t ps) ty S L (.agg cs) := by
  intro o ho h0 cx a hc
  obtain ⟨y, h1, h2⟩ := ev_build_lag (P := P) ht hs hpl hz hx hf o ho h0 cx a hc
  refine ⟨y, h1, ?_⟩
  simp only [R, RF] at h2 ⊢
  obtain ⟨xs, e, h2⟩ := h2
  exact ⟨xs, e, LF_of_LR hF h2⟩

/-- An array literal. -/
theorem ev_build_arr {t n e : Nat} {d ed : TD} {ps : Array (Nat × Operand)} {xs : List (Nat × AV)} {cs : List AV} (ht : lk td t = some d) (hs : d.k = .arr n e) (he : lk td e = some ed)
    (hz : d.zero.all (·.oneCell') = true) (hx : partsV G S ps.toList = some xs) (hf : afill (fun i => some (i * ed.size, ed.size)) (d.zero.map .v) xs = some cs) : Ev P G N (.build t ps) ty S L (.lag cs) := by
  intro o ho _ cx a hc
  obtain ⟨i, u, z, h1, h2, h3, h4, h5, h6, h7⟩ := tok_parts (P := P) ht
  obtain ⟨ie, ue, ze, g1, g2, g3, g4, g5, g6, g7⟩ := tok_parts (P := P) he
  have h2' := arr_desc (P := P) ht hs
  obtain ⟨arr, q1, q2⟩ := fill_LR hc (arr := z.cells) hx hf (by rw [h7]; exact zero_LR hz)
  refine ⟨.agg arr, ?_, by simp only [R]; exact ⟨arr, rfl, q2⟩⟩
  have hb : P.built t ((ps.map fun (i, x) => (i, a.eval x))).toList = some arr := by
    unfold Program.built
    simp only [h1, h2', h3, g1, g5]
    simpa using q1
  simp only [execOp, ho, Sem.run_bind, run_build cx.w t _ arr hb, Result.andThen_ok, Sem.run_pure]

def zerosA (z : List Value) : Nat → List AV
  | 0 => []
  | n + 1 => z.map .v ++ zerosA z n

/-- The elements of a row of cells. -/
def chunks (sz : Nat) : Nat → List AV → List (List AV)
  | 0, _ => []
  | n + 1, cs => cs.take sz :: chunks sz n (cs.drop sz)

theorem chunks_length {sz : Nat} : ∀ {n : Nat} {cs : List AV}, (chunks sz n cs).length = n
  | 0, _ => rfl
  | n + 1, cs => by simp [chunks, chunks_length]

theorem EL_chunks {F : Nat → Prop} {w : World} {sz : Nat} : ∀ {n : Nat} {cs : List AV} {ys : List Value}, LF F w cs ys → cs.length = n * sz → EL F w sz (chunks sz n cs) ys
  | 0, cs, ys, h, hl => by
    have : cs = [] := List.eq_nil_of_length_eq_zero (by simpa using hl)
    subst this
    simpa only [chunks, EL, LF] using h
  | n + 1, cs, ys, h, hl => by
    simp only [chunks, EL]
    have key : ∀ (k : Nat) {cs : List AV} {ys : List Value}, LF F w cs ys → LF F w (cs.take k) (ys.take k) ∧ LF F w (cs.drop k) (ys.drop k) := by
      intro k
      induction k with
      | zero => intro cs ys h; exact ⟨by simp only [List.take_zero, LF], by simpa using h⟩
      | succ k ih =>
        intro cs ys h
        cases cs with
        | nil => simp only [LF] at h; subst h; simp only [List.take_nil, List.drop_nil, LF]; exact ⟨trivial, trivial⟩
        | cons x r =>
          simp only [LF] at h
          obtain ⟨y, s, rfl, hx, h1, h⟩ := h
          obtain ⟨q1, q2⟩ := ih h
          simp only [List.take_succ_cons, List.drop_succ_cons, LF]
          exact ⟨⟨y, _, rfl, hx, h1, q1⟩, q2⟩
    have hs : sz ≤ cs.length := by rw [hl, Nat.add_mul]; omega
    exact ⟨ys.take sz, ys.drop sz, (List.take_append_drop ..).symm, by rw [List.length_take]; omega, (key sz h).1, EL_chunks (key sz h).2 (by rw [List.length_drop, hl, Nat.add_mul]; omega)⟩

theorem made_eq (z : Array Value) (n : Nat) (hz : 0 < z.size) : ((Array.range (n * z.size)).map (z[· % z.size]!)).toList = (List.replicate n z.toList).flatten := by
  induction n with
  | zero => simp
  | succ n ih =>
    rw [List.replicate_succ', List.flatten_append, ← ih]
    apply List.ext_getElem?
    intro i
    simp only [Array.toList_map, Array.toList_range, List.getElem?_map, List.flatten_cons, List.flatten_nil, List.append_nil]
    rcases Nat.lt_or_ge i (n * z.size) with h | h
    · rw [List.getElem?_append_left (by simpa using h)]
      simp only [List.getElem?_map]
      rw [List.getElem?_range (by rw [Nat.add_mul]; omega), List.getElem?_range h]
    · rw [List.getElem?_append_right (by simpa using h)]
      simp only [List.length_map, List.length_range]
      rcases Nat.lt_or_ge i ((n + 1) * z.size) with h2 | h2
      · have h3 : i - n * z.size < z.size := by rw [Nat.add_mul] at h2; omega
        rw [List.getElem?_range h2]
        have e : i % z.size = i - n * z.size := by
          have hcm : n * z.size = z.size * n := Nat.mul_comm ..
          have hi : i = (i - n * z.size) + z.size * n := by omega
          have : ((i - n * z.size) + z.size * n) % z.size = i - n * z.size := by rw [Nat.add_mul_mod_self_left, Nat.mod_eq_of_lt h3]
          rw [← hi] at this; exact this
        simp only [Option.map_some, e, Array.getElem?_toList, Array.getElem?_eq_getElem h3]
        rw [getElem!_pos z _ h3]
      · rw [List.getElem?_eq_none (by simpa using h2), List.getElem?_eq_none (by simp; rw [Nat.add_mul] at h2; omega)]
        rfl

theorem zeros_LR {cx : Cx} {zs : List Value} (hz : zs.all (·.oneCell') = true) : ∀ n, LR cx (zerosA zs n) (List.replicate n zs).flatten
  | 0 => by simp [zerosA, LR]
  | n + 1 => by
    rw [List.replicate_succ, List.flatten_cons]
    simp only [zerosA]
    have app : ∀ {cs ds : List AV} {ys ws : List Value}, LR cx cs ys → LR cx ds ws → LR cx (cs ++ ds) (ys ++ ws) := by
      intro cs
      induction cs with
      | nil => intro ds ys ws h g; simp only [LR] at h; subst h; simpa using g
      | cons x r ih =>
        intro ds ys ws h g
        simp only [LR] at h
        obtain ⟨y, s, rfl, hx, h1, h⟩ := h
        simp only [List.cons_append, LR]
        exact ⟨y, s ++ ws, rfl, hx, h1, ih h g⟩
    exact app (zero_LR hz) (zeros_LR hz n)

theorem zerosA_length {zs : List Value} : ∀ n, (zerosA zs n).length = n * zs.length
  | 0 => by simp [zerosA]
  | n + 1 => by simp [zerosA, zerosA_length n, Nat.add_mul]; omega

theorem run_bslice {t e n : Nat} {d ed : TD} {ps : Array (Nat × Operand)} {xs : List (Nat × AV)} {cs : List AV} (ht : lk td t = some d) (hs : d.k = .slice e) (he : lk td e = some ed) (hz : ed.zero.all (·.oneCell') = true) (hzl : Nat.beq ed.zero.length ed.size = true)
    (hpos : Nat.blt 0 ed.size = true) (hx : partsV G S ps.toList = some xs) (hf : afill (fun i => some (i * ed.size, ed.size)) (zerosA ed.zero n) xs = some cs) (hsmall : Nat.ble (n * ed.size) 16777216 = true)
    {cx : Cx} {a : Act} (hc : Cn G N S L cx a) :
    ∃ arr : Array Value, (Instr.buildSlice t n (ps.map fun (i, x) => (i, a.eval x))).run P cx.w = .ok (.slice (some ⟨cx.w.heap.size, 0, none⟩) n n) (cx.w.alloc (.cells arr e)) ∧ LR cx cs arr.toList ∧ arr.size = n * ed.size := by
  obtain ⟨i, u, z, h1, h2, h3, h4, h5, h6, h7⟩ := tok_parts (P := P) he
  have hsd := slice_desc (P := P) ht hs
  have hzl' := Nat.eq_of_beq_eq_true hzl
  have hzs : z.cells.size = ed.size := by rw [← hzl', ← h7]; simp
  have hpos' : 0 < ed.size := Nat.le_of_ble_eq_true hpos
  have hsm := Nat.le_of_ble_eq_true hsmall
  have hlen : ∀ {xs : List (Nat × AV)} {cs cs' : List AV}, afill (fun i => some (i * ed.size, ed.size)) cs xs = some cs' → cs'.length = cs.length := by
    intro xs
    induction xs with
    | nil => intro cs cs' h; simp only [afill, Option.some.injEq] at h; rw [h]
    | cons p r ih =>
      intro cs cs' h
      obtain ⟨i, x⟩ := p
      simp only [afill] at h
      cases hb : (fit x && Nat.beq (cellsOf x).length ed.size && Nat.ble (i * ed.size + ed.size) cs.length) with
      | false => rw [hb] at h; cases h
      | true =>
        rw [hb] at h
        simp only [Bool.and_eq_true] at hb
        have g1 := Nat.eq_of_beq_eq_true hb.1.2
        have g2 := Nat.le_of_ble_eq_true hb.2
        rw [ih h]; simp; omega
  have hcl := hlen hf
  rw [zerosA_length, hzl'] at hcl
  by_cases hn : n = 0
  · subst hn
    obtain ⟨arr, q1, q2⟩ := fill_LR hc (arr := #[]) hx hf (by simp [zerosA, LR])
    have hal := q2.length
    simp only [Array.length_toList] at hal
    refine ⟨arr, ?_, q2, by omega⟩
    have q1' : Instr.fill (fun i => some (i * ed.size, ed.size)) #[] (ps.map fun (i, x) => (i, a.eval x)).toList = some arr := by simpa using q1
    simp only [Instr.buildSlice, Sem.run_bind, run_underlying hsd, sizeOf, typeInfo, run_program, h1, Result.andThen_ok, Sem.run_pure, h5, Nat.zero_mul]
    simp only [Nat.not_lt_zero, gt_iff_lt, if_false, if_true, Sem.run_pure, Result.andThen_ok, Sem.run_bind]
    simp at q1'
    simp [q1', newRow, Array.range_zero']
  · have hpn : 0 < n * ed.size := Nat.mul_pos (by omega) hpos'
    obtain ⟨arr, q1, q2⟩ := fill_LR hc (arr := ((Array.range (n * z.cells.size)).map (z.cells[· % z.cells.size]!))) hx hf (by rw [made_eq _ _ (by omega), h7]; exact zeros_LR hz n)
    have hal := q2.length
    simp only [Array.length_toList] at hal
    refine ⟨arr, ?_, q2, by omega⟩
    refine run_buildSlice cx.w t e n _ arr i z hsd h1 h3 (by rw [h5]; omega) (by rw [h5]; omega) ?_
    rw [h5]
    rw [hzs] at q1
    simpa [hzs] using q1

/-- A slice literal in memory that is never written. -/
theorem ev_bslice_f {t e n : Nat} {d ed : TD} {ps : Array (Nat × Operand)} {xs : List (Nat × AV)} {cs : List AV} {es : List (List AV)} (ht : lk td t = some d) (hs : d.k = .slice e) (he : lk td e = some ed) (hz : ed.zero.all (·.oneCell') = true)
    (hzl : Nat.beq ed.zero.length ed.size = true) (hpos : Nat.blt 0 ed.size = true) (hx : partsV G S ps.toList = some xs) (hf : afill (fun i => some (i * ed.size, ed.size)) (zerosA ed.zero n) xs = some cs) (hsmall : Nat.ble (n * ed.size) 16777216 = true)
    (hF : cs.all isF = true) (hes : chunks ed.size n cs = es) : Ev2 P G N (.buildSlice t n ps) ty S L (.fs ed.size n es) S L := by
  subst hes
  intro o ho _ cx a hc
  obtain ⟨arr, h1, h2, h3⟩ := run_bslice (P := P) ht hs he hz hzl hpos hx hf hsmall hc
  have A := Alloc.alloc cx.w (.cells arr e)
  have hs' := SubX.newF hc.st A
  obtain ⟨st', ex⟩ := hc.st.newF A
  have hl := h2.length
  simp only [Array.length_toList] at hl
  refine ⟨.slice (some ⟨cx.w.heap.size, 0, none⟩) n n, cx.newF (cx.w.alloc (.cells arr e)), ?_, ?_, st', ex, hc.sr.mono_all hs'⟩
  · simp only [execOp, ho, Sem.run_bind, h1, Result.andThen_ok, Sem.run_pure]; rfl
  · simp only [R, RF]
    refine ⟨chunks_length, some ⟨cx.w.heap.size, 0, none⟩, n, rfl, Nat.le_refl _, fun _ => ⟨cx.w.heap.size, 0, rfl, .inr rfl, ?_⟩⟩
    have := EL_chunks (n := n) (sz := ed.size) (LF_of_LR hF h2) (by omega)
    refine EF.of (EL.mono hs'.F hs'.heap this) (rangeAt_row A.new fun j v hj => by simpa using hj)

/-- A slice literal of the call's own. -/
theorem ev_bslice_o {t e n k : Nat} {d ed : TD} {ps : Array (Nat × Operand)} {xs : List (Nat × AV)} {cs : List AV} {es : List (List AV)} {L' : List LB} (ht : lk td t = some d) (hs : d.k = .slice e) (he : lk td e = some ed) (hz : ed.zero.all (·.oneCell') = true)
    (hzl : Nat.beq ed.zero.length ed.size = true) (hpos : Nat.blt 0 ed.size = true) (hx : partsV G S ps.toList = some xs) (hf : afill (fun i => some (i * ed.size, ed.size)) (zerosA ed.zero n) xs = some cs) (hsmall : Nat.ble (n * ed.size) 16777216 = true)
    (hF : cs.all isF = true) (hes : chunks ed.size n cs = es) (hk : L.length = k) (hL : L ++ [.own e ed.size es] = L') : Ev2 P G N (.buildSlice t n ps) ty S L (.os k) S L' := by
  subst hes hk hL
  intro o ho _ cx a hc
  obtain ⟨arr, h1, h2, h3⟩ := run_bslice (P := P) ht hs he hz hzl hpos hx hf hsmall hc
  have A := Alloc.alloc cx.w (.cells arr e)
  have hs' := SubX.new hc.st A ed.size n
  have hl := h2.length
  simp only [Array.length_toList] at hl
  have hn : n ≤ maxLen := by
    have h4 := Nat.le_of_ble_eq_true hsmall
    have h5 : 0 < ed.size := Nat.le_of_ble_eq_true hpos
    have : n * 1 ≤ n * ed.size := Nat.mul_le_mul_left _ h5
    simp only [maxLen]; omega
  have hb : BR (cx.new (cx.w.alloc (.cells arr e)) ed.size n) cx.n (.own e ed.size (chunks ed.size n cs)) := by
    simp only [BR, Cx.new, if_true]
    refine ⟨trivial, chunks_length.symm, .inr ⟨_, arr, rfl, A.new, by rw [chunks_length]; omega, ?_⟩⟩
    have := EL_chunks (n := n) (sz := ed.size) (LF_of_LR hF h2) (by omega)
    exact EF.of (EL.mono hs'.F hs'.heap this) (rangeAt_row A.new fun j v hj => by simpa using hj)
  obtain ⟨st', ex⟩ := hc.st.new A ed.size n hb
  refine ⟨.slice (some ⟨cx.w.heap.size, 0, none⟩) n n, cx.new (cx.w.alloc (.cells arr e)) ed.size n, ?_, ?_, st', ex, hc.sr.mono_all hs'⟩
  · simp only [execOp, ho, Sem.run_bind, h1, Result.andThen_ok, Sem.run_pure]; rfl
  · simp only [R, OS, Cx.new, hc.st.n, if_true]
    exact ⟨Nat.lt_succ_self _, .inr ⟨_, n, arr, e, rfl, rfl, by rw [hc.st.n] at *; exact A.new, Nat.le_refl _, hn, h3⟩⟩

/-- make([]T, n). -/
theorem ev_make {t e k : Nat} {d ed : TD} {u q : Operand} {n : Int} {es : List (List AV)} {L' : List LB} (ht : lk td t = some d) (hs : d.k = .slice e) (he : lk td e = some ed) (hz : ed.zero.all (·.oneCell') = true)
    (hzl : Nat.beq ed.zero.length ed.size = true) (hpos : Nat.blt 0 ed.size = true) (hu : val G S u = some (.v (.int .i64 n))) (hq : val G S q = some (.v (.int .i64 n))) (hn : 0 ≤ n ∧ ed.bytes * n ≤ 281474976710656 ∧ n ≤ 9223372036854775807)
    (hes : List.replicate n.toNat (ed.zero.map .v) = es) (hk : L.length = k) (hL : L ++ [.own e ed.size es] = L') : Ev2 P G N (.makeSlice t u q) ty S L (.os k) S L' := by
  subst hes hk hL
  intro o ho _ cx a hc
  obtain ⟨i, ud, z, h1, h2, h3, h4, h5, h6, h7⟩ := tok_parts (P := P) he
  have hsd := slice_desc (P := P) ht hs
  have hzl' := Nat.eq_of_beq_eq_true hzl
  have hzs : z.cells.size = ed.size := by rw [← hzl', ← h7]; simp
  have hpos' : 0 < ed.size := Nat.le_of_ble_eq_true hpos
  have e1 := val_R hc hu
  have e2 := val_R hc hq
  simp only [R] at e1 e2
  have hr := run_make (P := P) cx.w t e i z hsd h1 h3 .i64 .i64 n n hn.1 (Int.le_refl _) (by rw [h6]; exact hn.2.1) hn.2.2
  have hm : (madeCells z.cells (n.toNat * i.size)).toList = (List.replicate n.toNat ed.zero).flatten := by
    have := made_eq z.cells n.toNat (by omega)
    rw [h7, hzs] at this
    rw [h5, ← this]; simp [madeCells, hzs]
  generalize madeCells z.cells (n.toNat * i.size) = arr at hr hm
  have A := Alloc.alloc cx.w (.cells arr e)
  have hs' := SubX.new hc.st A ed.size n.toNat
  have hal : arr.size = n.toNat * ed.size := by
    have := congrArg List.length hm
    simpa [List.length_flatten, hzl'] using this
  have hEL : ∀ m, EL cx.F cx.w ed.size (List.replicate m (ed.zero.map .v)) (List.replicate m ed.zero).flatten := by
    intro m
    induction m with
    | zero => simp [EL]
    | succ m ih =>
      simp only [List.replicate_succ, List.flatten_cons, EL]
      exact ⟨ed.zero, _, rfl, by simpa using hzl', LF_of_LR (c := cx) (by simp [isF]) (zero_LR hz), ih⟩
  have hb : BR (cx.new (cx.w.alloc (.cells arr e)) ed.size n.toNat) cx.n (.own e ed.size (List.replicate n.toNat (ed.zero.map .v))) := by
    simp only [BR, Cx.new, if_true]
    refine ⟨trivial, by simp, .inr ⟨_, arr, rfl, A.new, by simp [hal], ?_⟩⟩
    refine EF.of (EL.mono hs'.F hs'.heap (hEL n.toNat)) (rangeAt_row A.new fun j v hj => ?_)
    rw [← hm] at hj
    simpa using hj
  obtain ⟨st', ex⟩ := hc.st.new A ed.size n.toNat hb
  refine ⟨.slice (some ⟨cx.w.heap.size, 0, none⟩) n.toNat n.toNat, cx.new (cx.w.alloc (.cells arr e)) ed.size n.toNat, ?_, ?_, st', ex, hc.sr.mono_all hs'⟩
  · simp only [execOp, ho, e1, e2, Sem.run_bind, hr, Result.andThen_ok, Sem.run_pure]; rfl
  · simp only [R, OS, Cx.new, hc.st.n, if_true]
    exact ⟨Nat.lt_succ_self _, .inr ⟨_, n.toNat, arr, e, rfl, rfl, by rw [hc.st.n] at *; exact A.new, Nat.le_refl _, by simp only [maxLen]; omega, hal⟩⟩

/-- A nil slice becomes a slice of the call's own, without elements. -/
theorem awp_adopt {c : Code} {t E sz k : Nat} {L' : List LB} (h : get S t = some (.v (.slice none 0 0))) (hk : L.length = k) (hL : L ++ [.own E sz []] = L') (h2 : awp P G N c Q ((t, .os k) :: S) L') : awp P G N c Q S L := by
  subst hk hL
  intro cx a hc
  obtain ⟨st', ex⟩ := hc.st.nul sz E
  have hs := SubX.nul hc.st sz
  have := h2 (cx.nul sz) a ⟨st', hc.de, hc.sz, fun i x hx => ?_⟩
  · exact Code.wp_mono (fun e a w q => q.trans ex) this
  · rw [get_cons] at hx
    split at hx
    · rename_i e; subst e; injection hx with hx; subst hx
      have hv := hc.sr t _ h
      simp only [R] at hv
      simp only [R, OS, Cx.nul, hc.st.n, if_true]
      exact ⟨Nat.lt_succ_self _, .inl ⟨trivial, hv, trivial⟩⟩
    · exact hc.sr.mono_all hs i x hx

/-! ### Slices of slices, of strings -/
def loV (G : List (Nat × List AV)) (S : SL) : Option Operand → Option Int
  | none => some 0
  | some o => match val G S o with
    | some (.v (.int _ n)) => some n
    | _ => none
def hiV (G : List (Nat × List AV)) (S : SL) (n : Nat) : Option Operand → Option Int
  | none => some n
  | some o => match val G S o with
    | some (.v (.int _ m)) => some m
    | _ => none

theorem bounds_run {cx : Cx} {a : Act} (hc : Cn G N S L cx a) {lo hi : Option Operand} {l h : Int} {n cap : Nat} {b : Bool} (hl : loV G S lo = some l) (hh : hiV G S n hi = some h) (hb : 0 ≤ l ∧ l ≤ h ∧ h ≤ n) (hcap : n ≤ cap) (hsb : b = false → cap = n) :
    (Instr.sliceBounds b n cap (lo.map a.eval) (hi.map a.eval) none).run P cx.w = .ok (l.toNat, h.toNat, cap) cx.w := by
  have e2 : ∀ o, hi = some o → ∃ k, a.eval o = .int k h := by
    intro o ho
    subst ho
    simp only [hiV] at hh
    split at hh
    · rename_i k m hv
      injection hh with hh; subst hh
      have := val_R hc hv
      simp only [R] at this
      exact ⟨k, this⟩
    · cases hh
  have e1 : ∀ o, lo = some o → ∃ k, a.eval o = .int k l := by
    intro o ho
    subst ho
    simp only [loV] at hl
    split at hl
    · rename_i k m hv
      injection hl with hl; subst hl
      have := val_R hc hv
      simp only [R] at this
      exact ⟨k, this⟩
    · cases hl
  have hh0 : (h.toNat : Int) = h := Int.toNat_of_nonneg (by omega)
  cases hi with
  | none =>
    simp only [hiV, Option.some.injEq] at hh; subst hh
    cases lo with
    | none => simp only [loV, Option.some.injEq] at hl; subst hl; simp [Instr.sliceBounds]
    | some o =>
      obtain ⟨k, e⟩ := e1 o rfl
      simp [Instr.sliceBounds, e]
      rw [run_sliceBound _ _ _ _ _ hb.1 (by omega)]; rfl
  | some o2 =>
    obtain ⟨k2, e2⟩ := e2 o2 rfl
    cases lo with
    | none =>
      simp only [loV, Option.some.injEq] at hl; subst hl
      simp [Instr.sliceBounds, e2]
      rw [run_sliceBound _ _ _ _ _ (by omega) (by omega)]; rfl
    | some o =>
      obtain ⟨k, e⟩ := e1 o rfl
      simp [Instr.sliceBounds, e, e2]
      rw [run_sliceBound _ _ _ _ _ (by omega) (by omega)]
      simp only [Result.andThen_ok]
      rw [run_sliceBound _ _ _ _ _ hb.1 (by omega)]; rfl

theorem ev_slice_fs {t e : Nat} {d ed : TD} {u : Operand} {lo hi : Option Operand} {l h : Int} {sz n m : Nat} {es fs : List (List AV)} (hu : val G S u = some (.fs sz n es)) (ht : lk td t = some d) (hs : d.k = .slice e) (he : lk td e = some ed) (hsz : ed.size = sz)
    (hl : loV G S lo = some l) (hh : hiV G S n hi = some h) (hb : 0 ≤ l ∧ l ≤ h ∧ h ≤ n) (hm : (h - l).toNat = m) (hfs : (es.drop l.toNat).take m = fs) : Ev P G N (.slice t u lo hi none) ty S L (.fs sz m fs) := by
  subst hm hfs
  intro o ho _ cx a hc
  have e1 := val_R hc hu
  simp only [R, RF] at e1
  obtain ⟨hlen, ad, cap, e1, hcap, hmem⟩ := e1
  have hsd := slice_desc (P := P) ht hs
  have hbr := bounds_run (P := P) (b := true) (cap := cap) hc hl hh hb hcap (fun h => by cases h)
  have hlh : h.toNat - l.toNat = (h - l).toNat := by omega
  refine ⟨.slice (if cap = l.toNat then ad else ad.map (·.add (l.toNat * ed.size))) (h - l).toNat (cap - l.toNat), ?_, ?_⟩
  · simp only [execOp, ho, e1, Option.map_none, Instr.sliceAt, Instr.slice, Sem.run_bind, run_underlying hsd, Result.andThen_ok, hbr, run_sizeOf' (P := P) he, Sem.run_pure, hlh]
  · simp only [R, RF]
    refine ⟨by rw [List.length_take, List.length_drop, hlen]; omega, _, _, rfl, by omega, fun hne => ?_⟩
    obtain ⟨b, off, rfl, hF, hE⟩ := hmem (by omega)
    rw [if_neg (by omega)]
    exact ⟨b, off + l.toNat * sz, by simp [Addr.add_mid, hsz], hF, (hE.drop l.toNat).take _⟩

theorem ev_slice_str {t : Nat} {d : TD} {u : Operand} {lo hi : Option Operand} {l h : Int} {s s' : ByteArray} (hu : val G S u = some (.v (.string s))) (ht : lk td t = some d) (hs : d.k = .str)
    (hl : loV G S lo = some l) (hh : hiV G S s.size hi = some h) (hb : 0 ≤ l ∧ l ≤ h ∧ h ≤ s.size) (hs' : s.extract l.toNat h.toNat = s') : Ev P G N (.slice t u lo hi none) ty S L (.v (.string s')) := by
  subst hs'
  intro o ho _ cx a hc
  have e1 := val_R hc hu
  simp only [R] at e1
  have hsd := str_desc (P := P) ht hs
  have hbr := bounds_run (P := P) (b := false) (cap := s.size) hc hl hh hb (Nat.le_refl _) (fun _ => rfl)
  refine ⟨.string (s.extract l.toNat h.toNat), ?_, by simp only [R]⟩
  simp only [execOp, ho, e1, Option.map_none, Instr.sliceAt, Instr.slice, Sem.run_bind, run_underlying hsd, Result.andThen_ok, Option.isSome_none, Bool.false_eq_true, if_false, hbr, Sem.run_pure]
end
end Go.Ab
