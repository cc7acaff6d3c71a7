/- Tests of a goal's shape: a walk tries only what fits. -/
import Derived.Test.YtghbllbjjfjenaaAbTac
namespace Go.Ab
set_option linter.unusedSectionVars false
set_option linter.unusedVariables false
section
variable {P : Program} {G : List (Nat × List AV)} {N : Nat} {Q : AQ} {S Sb D : SL} {L : List LB} {ops : Array Oper} {rest : List Oper}
  {op : Op} {ty : TypeId} {pos : String} {af : Array Edge} {d : Nat} {x : AV} {dst : Option Tmp} {u v w : Operand} {t f : Nat} {xt yt : TypeId}

/-- The parts of a slice, all there and in order. -/
def inOrd (sz : Nat) : Nat → List (Nat × AV) → Bool
  | _, [] => true
  | i, (j, x) :: r => Nat.beq j i && (fit x && Nat.beq (cellsOf x).length sz) && inOrd sz (i + 1) r
theorem zerosA_len {z : List Value} {sz : Nat} (hz : z.length = sz) : ∀ n, (zerosA z n).length = n * sz
  | 0 => by simp [zerosA]
  | n + 1 => by simp [zerosA, zerosA_len hz n, hz, Nat.succ_mul, Nat.add_comm]
theorem afill_in {z : List Value} {sz : Nat} (hz : z.length = sz) : ∀ (xs : List (Nat × AV)) (i : Nat) (pre : List AV), pre.length = i * sz → inOrd sz i xs = true →
    afill (fun i => some (i * sz, sz)) (pre ++ zerosA z xs.length) xs = some (pre ++ (xs.map fun p => cellsOf p.2).flatten)
  | [], i, pre, _, _ => by simp [afill, zerosA]
  | (j, x) :: r, i, pre, hp, h => by
    simp only [inOrd, Bool.and_eq_true] at h
    obtain ⟨⟨hj, hf, hl⟩, h⟩ := h
    have hj := Nat.eq_of_beq_eq_true hj
    have hl := Nat.eq_of_beq_eq_true hl
    subst hj
    have h1 : Nat.ble (j * sz + sz) (pre ++ zerosA z ((j, x) :: r).length).length = true := by
      apply Nat.ble_eq_true_of_le
      simp only [List.length_append, zerosA_len hz, hp, List.length_cons, Nat.succ_mul]; omega
    have hb : Nat.beq sz sz = true := Nat.beq_refl sz
    simp only [afill, hf, hl, hb, h1, Bool.and_self, cond_true]
    have h2 : (pre ++ zerosA z ((j, x) :: r).length).take (j * sz) = pre := by rw [← hp, List.take_left]
    have h3 : (pre ++ zerosA z ((j, x) :: r).length).drop (j * sz + sz) = zerosA z r.length := by
      rw [← hp, ← List.drop_drop, List.drop_left]
      simp only [List.length_cons, zerosA]
      rw [List.drop_left' (by simpa using hz)]
    rw [h2, h3, afill_in hz r (j + 1) (pre ++ cellsOf x) (by simp [hp, hl, Nat.succ_mul]) h]
    simp
theorem chunks_flat {sz : Nat} : ∀ (l : List (List AV)), (∀ c ∈ l, c.length = sz) → chunks sz l.length l.flatten = l
  | [], _ => rfl
  | c :: r, h => by
    have hc := h c (by simp)
    simp only [List.length_cons, chunks, List.flatten_cons]
    rw [List.take_left' hc, List.drop_left' hc, chunks_flat r (fun x hx => h x (by simp [hx]))]
theorem inOrd_len {sz : Nat} : ∀ {xs : List (Nat × AV)} {i : Nat}, inOrd sz i xs = true → ∀ p ∈ xs, (cellsOf p.2).length = sz
  | [], _, _, p, hp => by simp at hp
  | (j, x) :: r, i, h, p, hp => by
    simp only [inOrd, Bool.and_eq_true] at h
    rcases List.mem_cons.1 hp with rfl | hp
    · exact Nat.eq_of_beq_eq_true h.1.2.2
    · exact inOrd_len h.2 p hp
theorem ev_bslice_in {td : TDs} [T : TOK P td] {t e n sz : Nat} {d ed : TD} {ps : Array (Nat × Operand)} {xs : List (Nat × AV)} {es : List (List AV)} (ht : lk td t = some d) (hs : d.k = .slice e) (he : lk td e = some ed) (hz : ed.zero.all (·.oneCell') = true)
    (hzl : Nat.beq ed.zero.length ed.size = true) (hpos : Nat.blt 0 ed.size = true) (hx : partsV G S ps.toList = some xs) (ho : inOrd ed.size 0 xs = true) (hn : xs.length = n) (hsmall : Nat.ble (n * ed.size) 16777216 = true)
    (hF : (xs.all fun p => (cellsOf p.2).all isF) = true) (hsz : ed.size = sz) (hes : (xs.map fun p => cellsOf p.2) = es) : Ev2 P G N (.buildSlice t n ps) ty S L (.fs sz n es) S L := by
  subst hes hsz hn
  have h1 := afill_in (Nat.eq_of_beq_eq_true hzl) xs 0 [] (by simp) ho
  refine ev_bslice_f ht hs he hz hzl hpos hx h1 hsmall ?_ ?_
  · simp only [List.nil_append, List.all_flatten, List.all_map]; exact hF
  · have := chunks_flat (sz := ed.size) (xs.map fun p => cellsOf p.2) (fun c hc => by
      obtain ⟨p, hp, rfl⟩ := List.mem_map.1 hc
      exact inOrd_len ho p hp)
    simpa using this

theorem pev_bslice_f {td : TDs} [T : TOK P td] {t e n : Nat} {d ed : TD} {ps : Array (Nat × Operand)} {xs : List (Nat × AV)} {cs : List AV} {es : List (List AV)} (ht : lk td t = some d) (hs : d.k = .slice e) (he : lk td e = some ed) (hz : ed.zero.all (·.oneCell') = true)
    (hzl : Nat.beq ed.zero.length ed.size = true) (hpos : Nat.blt 0 ed.size = true) (hx : partsV G S ps.toList = some xs) (hf : afill (fun i => some (i * ed.size, ed.size)) (zerosA ed.zero n) xs = some cs) (hsmall : Nat.ble (n * ed.size) 16777216 = true)
    (hF : cs.all isF = true) (hes : chunks ed.size n cs = es) : PEv P G N (.buildSlice t n ps) ty S L (.fs ed.size n es) := by
  subst hes
  intro o ho _ cx a hc K Q hK
  obtain ⟨arr, h1, h2, h3⟩ := run_bslice (P := P) ht hs he hz hzl hpos hx hf hsmall hc
  have A := Alloc.alloc cx.w (.cells arr e)
  have hs' := SubX.newF hc.st A
  obtain ⟨st', ex⟩ := hc.st.newF A
  have hl := h2.length
  simp only [Array.length_toList] at hl
  have hr : (execOp a.eval o).run P cx.w = .ok (.value (.slice (some ⟨cx.w.heap.size, 0, none⟩) n n)) (cx.newF (cx.w.alloc (.cells arr e))).w := by
    simp only [execOp, ho, Sem.run_bind, h1, Result.andThen_ok, Sem.run_pure]; rfl
  simp only [Oper.wp, hr, Oper.upon_value]
  refine hK _ (cx.newF (cx.w.alloc (.cells arr e))) ?_ st' ex hs'
  simp only [R, RF]
  refine ⟨chunks_length, some ⟨cx.w.heap.size, 0, none⟩, n, rfl, Nat.le_refl _, fun _ => ⟨cx.w.heap.size, 0, rfl, .inr rfl, ?_⟩⟩
  have := EL_chunks (n := n) (sz := ed.size) (LF_of_LR hF h2) (by omega)
  refine EF.of (EL.mono hs'.F hs'.heap this) (rangeAt_row A.new fun j v hj => by simpa using hj)
theorem pev_bslice_in {td : TDs} [T : TOK P td] {t e n sz : Nat} {d ed : TD} {ps : Array (Nat × Operand)} {xs : List (Nat × AV)} {es : List (List AV)} (ht : lk td t = some d) (hs : d.k = .slice e) (he : lk td e = some ed) (hz : ed.zero.all (·.oneCell') = true)
    (hzl : Nat.beq ed.zero.length ed.size = true) (hpos : Nat.blt 0 ed.size = true) (hx : partsV G S ps.toList = some xs) (ho : inOrd ed.size 0 xs = true) (hn : xs.length = n) (hsmall : Nat.ble (n * ed.size) 16777216 = true)
    (hF : (xs.all fun p => (cellsOf p.2).all isF) = true) (hsz : ed.size = sz) (hes : (xs.map fun p => cellsOf p.2) = es) : PEv P G N (.buildSlice t n ps) ty S L (.fs sz n es) := by
  subst hes hsz hn
  have h1 := afill_in (Nat.eq_of_beq_eq_true hzl) xs 0 [] (by simp) ho
  refine pev_bslice_f ht hs he hz hzl hpos hx h1 hsmall ?_ ?_
  · simp only [List.nil_append, List.all_flatten, List.all_map]; exact hF
  · have := chunks_flat (sz := ed.size) (xs.map fun p => cellsOf p.2) (fun c hc => by
      obtain ⟨p, hp, rfl⟩ := List.mem_map.1 hc
      exact inOrd_len ho p hp)
    simpa using this
theorem bool_desc {td : TDs} [T : TOK P td] {t : Nat} {d : TD} (ht : lk td t = some d) (hs : d.k = .bool) : P.underlying t = some .bool := by
  obtain ⟨i, u, z, h1, h2, h3, h4, h5, h6, h7⟩ := tok_parts (P := P) ht
  rw [hs] at h4
  cases u <;> simp only [tk, reduceCtorEq] at h4
  exact h2
theorem ev_eq_bool {td : TDs} [T : TOK P td] {t yt : Nat} {e : Operand} {p q : Bool} {tdd : TD} (h1 : val G S u = some (.v (.bool p))) (h2 : val G S e = some (.v (.bool q))) (ht : lk td t = some tdd) (hs : tdd.k = .bool) :
    Ev P G N (.binOp .eql t u e yt) ty S L (.v (.bool (p == q))) := by
  intro o ho _ cx a hc
  have e1 := val_R hc h1
  have e2 := val_R hc h2
  simp only [R] at e1 e2
  refine ⟨.bool (p == q), ?_, by simp only [R]⟩
  have := run_eql_bool (P := P) (w := cx.w) t p q (bool_desc (P := P) ht hs)
  simp only [execOp, ho, e1, e2, Sem.run_bind]
  simp [eqGuard, Result.andThen_ok, Sem.run_pure, this]
theorem awpDn {D' : SL} (hD : D ++ [(d, x)] = D') (k : awpD P G N Q Sb L rest D') : awpD P G N Q Sb L rest (D ++ [(d, x)]) := by
  rw [hD]; exact k
theorem awpD_pev (h : PEv P G N op ty (pvS af D Sb) L x) (k : awpD P G N Q Sb L rest (D ++ [(d, x)])) : awpD P G N Q Sb L (⟨some d, op, ty, pos, af, none⟩ :: rest) D :=
  ⟨d, x, rfl, h, k⟩

theorem is_un (k : awpL P G N ops (⟨dst, op, ty, pos, af, none⟩ :: rest) Q S L) : awpL P G N ops (⟨dst, op, ty, pos, af, none⟩ :: rest) Q S L := k
theorem is_gd {g : Nat × Bool} (k : awpL P G N ops (⟨dst, op, ty, pos, af, some g⟩ :: rest) Q S L) : awpL P G N ops (⟨dst, op, ty, pos, af, some g⟩ :: rest) Q S L := k
theorem is_move (k : awpL P G N ops (⟨dst, .move u, ty, pos, af, none⟩ :: rest) Q S L) : awpL P G N ops (⟨dst, .move u, ty, pos, af, none⟩ :: rest) Q S L := k
theorem is_assign (k : awpL P G N ops (⟨dst, .assign u, ty, pos, af, none⟩ :: rest) Q S L) : awpL P G N ops (⟨dst, .assign u, ty, pos, af, none⟩ :: rest) Q S L := k
theorem is_bin {b : BinOp} (k : awpL P G N ops (⟨dst, .binOp b xt u v yt, ty, pos, af, none⟩ :: rest) Q S L) : awpL P G N ops (⟨dst, .binOp b xt u v yt, ty, pos, af, none⟩ :: rest) Q S L := k
theorem is_fa (k : awpL P G N ops (⟨dst, .fieldAddr t u f, ty, pos, af, none⟩ :: rest) Q S L) : awpL P G N ops (⟨dst, .fieldAddr t u f, ty, pos, af, none⟩ :: rest) Q S L := k
theorem is_load (k : awpL P G N ops (⟨dst, .load t u, ty, pos, af, none⟩ :: rest) Q S L) : awpL P G N ops (⟨dst, .load t u, ty, pos, af, none⟩ :: rest) Q S L := k
theorem is_pick (k : awpL P G N ops (⟨dst, .pick u v w, ty, pos, af, none⟩ :: rest) Q S L) : awpL P G N ops (⟨dst, .pick u v w, ty, pos, af, none⟩ :: rest) Q S L := k
theorem is_call {c : Call} (k : awpL P G N ops (⟨dst, .call c, ty, pos, af, none⟩ :: rest) Q S L) : awpL P G N ops (⟨dst, .call c, ty, pos, af, none⟩ :: rest) Q S L := k
theorem is_awp {c : Code} (k : awp P G N c Q S L) : awp P G N c Q S L := k
theorem is_draw {id : Nat} {ops : Array Oper} (k : awp P G N (.region id ops true) Q S L) : awp P G N (.region id ops true) Q S L := k
theorem is_nil (k : awpL P G N ops [] Q S L) : awpL P G N ops [] Q S L := k
theorem is_then {next : SL → List LB → Prop} {e : Exit} (k : thenQ next Q e S L) : thenQ next Q e S L := k
theorem is_block {id : Nat} {e : Exit} (k : blockQ id Q e S L) : blockQ id Q e S L := k

theorem isD_un (k : awpD P G N Q Sb L (⟨dst, op, ty, pos, af, none⟩ :: rest) D) : awpD P G N Q Sb L (⟨dst, op, ty, pos, af, none⟩ :: rest) D := k
theorem isD_gd {g : Nat × Bool} (k : awpD P G N Q Sb L (⟨dst, op, ty, pos, af, some g⟩ :: rest) D) : awpD P G N Q Sb L (⟨dst, op, ty, pos, af, some g⟩ :: rest) D := k
theorem isD_move (k : awpD P G N Q Sb L (⟨dst, .move u, ty, pos, af, none⟩ :: rest) D) : awpD P G N Q Sb L (⟨dst, .move u, ty, pos, af, none⟩ :: rest) D := k
theorem isD_assign (k : awpD P G N Q Sb L (⟨dst, .assign u, ty, pos, af, none⟩ :: rest) D) : awpD P G N Q Sb L (⟨dst, .assign u, ty, pos, af, none⟩ :: rest) D := k
theorem isD_bin {b : BinOp} (k : awpD P G N Q Sb L (⟨dst, .binOp b xt u v yt, ty, pos, af, none⟩ :: rest) D) : awpD P G N Q Sb L (⟨dst, .binOp b xt u v yt, ty, pos, af, none⟩ :: rest) D := k
theorem isD_fa (k : awpD P G N Q Sb L (⟨dst, .fieldAddr t u f, ty, pos, af, none⟩ :: rest) D) : awpD P G N Q Sb L (⟨dst, .fieldAddr t u f, ty, pos, af, none⟩ :: rest) D := k
theorem isD_load (k : awpD P G N Q Sb L (⟨dst, .load t u, ty, pos, af, none⟩ :: rest) D) : awpD P G N Q Sb L (⟨dst, .load t u, ty, pos, af, none⟩ :: rest) D := k
theorem isD_pick (k : awpD P G N Q Sb L (⟨dst, .pick u v w, ty, pos, af, none⟩ :: rest) D) : awpD P G N Q Sb L (⟨dst, .pick u v w, ty, pos, af, none⟩ :: rest) D := k
theorem isD_call {c : Call} (k : awpD P G N Q Sb L (⟨dst, .call c, ty, pos, af, none⟩ :: rest) D) : awpD P G N Q Sb L (⟨dst, .call c, ty, pos, af, none⟩ :: rest) D := k

theorem awp_for2 {α β : Type} {c : Code} (n : Nat) (σ : α → β → SL) (Λ : α → β → List LB) (inv : α → β → Prop) (μ : α → β → Nat) (x0 : α) (y0 : β) (h0 : Wk n S L (σ x0 y0) (Λ x0 y0)) (hi : inv x0 y0)
    (round : ∀ x y, inv x y → awp P G N c (thenQ (fun S' L' => ∃ x' y', Wk n S' L' (σ x' y') (Λ x' y') ∧ inv x' y' ∧ μ x' y' < μ x y) Q) (σ x y) (Λ x y)) : awp P G N (.loop c) Q S L := by
  refine awp_for (α := α × β) n (fun p => σ p.1 p.2) (fun p => Λ p.1 p.2) (fun p => inv p.1 p.2) (fun p => μ p.1 p.2) (x0, y0) h0 hi ?_
  rintro ⟨x, y⟩ h
  refine awp_mono ?_ (round x y h)
  intro e S L h
  cases e with
  | normal => obtain ⟨x', y', h⟩ := h; exact ⟨(x', y'), h⟩
  | exit id => exact h
  | ret => exact h
  | goto _ => exact h
  | panic _ => exact h
  | outgrown => exact h
theorem awp_for3 {α β γ : Type} {c : Code} (n : Nat) (σ : α → β → γ → SL) (Λ : α → β → γ → List LB) (inv : α → β → γ → Prop) (μ : α → β → γ → Nat) (x0 : α) (y0 : β) (z0 : γ) (h0 : Wk n S L (σ x0 y0 z0) (Λ x0 y0 z0)) (hi : inv x0 y0 z0)
    (round : ∀ x y z, inv x y z → awp P G N c (thenQ (fun S' L' => ∃ x' y' z', Wk n S' L' (σ x' y' z') (Λ x' y' z') ∧ inv x' y' z' ∧ μ x' y' z' < μ x y z) Q) (σ x y z) (Λ x y z)) : awp P G N (.loop c) Q S L := by
  refine awp_for (α := α × β × γ) n (fun p => σ p.1 p.2.1 p.2.2) (fun p => Λ p.1 p.2.1 p.2.2) (fun p => inv p.1 p.2.1 p.2.2) (fun p => μ p.1 p.2.1 p.2.2) (x0, y0, z0) h0 hi ?_
  rintro ⟨x, y, z⟩ h
  refine awp_mono ?_ (round x y z h)
  intro e S L h
  cases e with
  | normal => obtain ⟨x', y', z', h⟩ := h; exact ⟨(x', y', z'), h⟩
  | exit id => exact h
  | ret => exact h
  | goto _ => exact h
  | panic _ => exact h
  | outgrown => exact h
end
end Go.Ab
