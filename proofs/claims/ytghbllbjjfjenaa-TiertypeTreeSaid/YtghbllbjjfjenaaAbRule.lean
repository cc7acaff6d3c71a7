/- Weakening, loops, further operations, in the abstract logic. -/
import Derived.Test.YtghbllbjjfjenaaAbCall
namespace Go.Ab
set_option linter.unusedSectionVars false
set_option linter.unusedVariables false
set_option linter.unusedSimpArgs false
set_option linter.unnecessarySimpa false

abbrev low (n : Nat) : Nat → Bool := fun k => Nat.blt k n

/-- The first n local blocks and some slots are kept. -/
structure Wk (n : Nat) (S : SL) (L : List LB) (S' : SL) (L' : List LB) : Prop where
  keep : Keep (low n) S S'
  eq : L.take n = L'
  id : (L'.all (noidB (low n))) = true
  le : Nat.ble n L.length = true

section
variable {P : Program} {G : List (Nat × List AV)} {N : Nat} {Q : AQ} {S S' : SL} {L L' : List LB}

theorem Cn.wk {n : Nat} {c : Cx} {a : Act} (hc : Cn G N S L c a) (h : Wk n S L S' L') : ∃ c', Cn G N S' L' c' a ∧ Ext c c' ∧ c'.w = c.w := by
  have hle : n ≤ L.length := Nat.le_of_ble_eq_true h.le
  have he := h.eq
  subst he
  let c' : Cx := { c with φ := fun k => if k < n then c.φ k else none, n := n }
  have hlow : ∀ k, low n k = true → k < n := fun k hk => Nat.le_of_ble_eq_true hk
  have hs : SubX (low n) c c' :=
    ⟨fun _ h => h, fun _ _ => rfl, fun k _ hk => hlow k hk, fun k _ hk => if_pos (hlow k hk), fun _ _ _ => rfl, fun _ _ _ => rfl, fun k b arr T _ _ hh => ⟨arr, hh, rfl⟩⟩
  have hφ : ∀ k b, c'.φ k = some b → k < n ∧ c.φ k = some b := by
    intro k b h
    simp only [c'] at h
    split at h
    · rename_i e; exact ⟨e, h⟩
    · cases h
  have hlen : (L.take n).length = n := by rw [List.length_take]; omega
  refine ⟨c', ⟨⟨hlen.symm, hc.st.inF, ?_, ?_, ?_, glob_mono hc.st hs⟩, hc.de, hc.sz, SR.mono hs h.keep hc.sr⟩, ⟨rfl, rfl, rfl, Nat.le_refl _, fun _ h => h, fun _ h => .inl h, fun k b h => .inl ⟨k, (hφ k b h).2⟩, fun _ _ _ => rfl⟩, rfl⟩
  · intro k b h
    obtain ⟨h1, h2⟩ := hφ k b h
    exact ⟨h1, (hc.st.loc k b h2).2⟩
  · intro k k' b h h'; exact hc.st.inj k k' b (hφ k b h).2 (hφ k' b h').2
  · intro k x hx
    have hk : k < n := by have := lt_of_get hx; omega
    have hx' : L[k]? = some x := by rw [List.getElem?_take, if_pos hk] at hx; exact hx
    exact BR.mono hs (by rw [hc.st.n]; omega) (Nat.ble_eq_true_of_le hk) ((List.all_eq_true.1 h.id) x (List.mem_of_getElem? hx)) (fun _ _ => rfl) (hc.st.blk k x hx')

theorem awp_wk {n : Nat} {c : Code} (h : Wk n S L S' L') (k : awp P G N c Q S' L') : awp P G N c Q S L := by
  intro cx a hc
  obtain ⟨c', hc', he, hw⟩ := hc.wk h
  have := k c' a hc'
  rw [hw] at this
  exact Code.wp_mono (fun e a w q => q.trans he) this

/-- A loop; each round may leave slots and blocks behind. -/
theorem awp_while {c : Code} (I : SL → List LB → Nat → Prop) {m : Nat} (h0 : I S L m)
    (round : ∀ S L m, I S L m → awp P G N c (thenQ (fun S' L' => ∃ n S2 L2 m', Wk n S' L' S2 L2 ∧ m' < m ∧ I S2 L2 m') Q) S L) : awp P G N (.loop c) Q S L := by
  have key : ∀ m S L cx a, I S L m → Cn G N S L cx a → ∀ (b : Frame) (k : List Item) (cs : List Frame),
      ∃ e a' w', conc G N Q cx e a' w' ∧ Arrives P (lone (b.at a (.code c :: .inLoop c :: k)) cs cx.w) b k cs e a' w' := by
    intro m
    induction m using Nat.strongRecOn with
    | _ m ih =>
      intro S L cx a hI hc b k cs
      obtain ⟨e, a₁, w₁, ⟨S', L', c', q, r, ex, hw⟩, harr⟩ := round S L m hI cx a hc b (.inLoop c :: k) cs
      subst hw
      cases e with
      | normal =>
        obtain ⟨n, S2, L2, m', hwk, hm, hI'⟩ := q
        obtain ⟨c2, hc2, he2, hw2⟩ := r.wk hwk
        obtain ⟨e₂, a₂, w₂, hq₂, harr₂⟩ := ih m' hm S2 L2 c2 a₁ hI' hc2 b k cs
        rw [hw2] at harr₂
        exact ⟨e₂, a₂, w₂, (hq₂.trans he2).trans ex, .of_steps (Steps.trans harr (.one step_inLoop)) harr₂⟩
      | exit id => exact ⟨_, a₁, _, ⟨S', L', c', q, r, ex, rfl⟩, .pass (x := .inLoop c) rfl (fun _ _ => .inl (by simp)) harr⟩
      | goto l => exact ⟨_, a₁, _, ⟨S', L', c', q, r, ex, rfl⟩, .pass (x := .inLoop c) rfl (fun _ _ => .inl (by simp)) harr⟩
      | ret => exact ⟨_, a₁, _, ⟨S', L', c', q, r, ex, rfl⟩, .pass (x := .inLoop c) rfl (fun _ _ => .inl (by simp)) harr⟩
      | panic ch => exact ⟨_, a₁, _, ⟨S', L', c', q, r, ex, rfl⟩, .pass (x := .inLoop c) rfl (fun _ _ => .inl (by simp)) harr⟩
      | outgrown => exact ⟨_, a₁, _, ⟨S', L', c', q, r, ex, rfl⟩, .pass (x := .inLoop c) rfl (fun _ _ => .inl (by simp)) harr⟩
  intro cx a hc b k cs
  obtain ⟨e, a', w', hq, harr⟩ := key m S L cx a h0 hc b k cs
  exact ⟨e, a', w', hq, .of_steps (.one step_loop) harr⟩

/-- A loop, its states by a parameter. -/
theorem awp_for {α : Type} {c : Code} (n : Nat) (σ : α → SL) (Λ : α → List LB) (inv : α → Prop) (μ : α → Nat) (x0 : α) (h0 : Wk n S L (σ x0) (Λ x0)) (hi : inv x0)
    (round : ∀ x, inv x → awp P G N c (thenQ (fun S' L' => ∃ y, Wk n S' L' (σ y) (Λ y) ∧ inv y ∧ μ y < μ x) Q) (σ x) (Λ x)) : awp P G N (.loop c) Q S L := by
  refine awp_wk h0 (awp_while (fun S L m => ∃ x, inv x ∧ S = σ x ∧ L = Λ x ∧ m = μ x) ⟨x0, hi, rfl, rfl, rfl⟩ ?_)
  rintro S L m ⟨x, hx, rfl, rfl, rfl⟩
  refine awp_mono ?_ (round x hx)
  intro e S L h
  cases e with
  | normal => obtain ⟨y, h1, h2, h3⟩ := h; exact ⟨n, _, _, _, h1, h3, y, h2, rfl, rfl, rfl⟩
  | exit id => exact h
  | goto l => exact h
  | ret => exact h
  | panic c => exact h
  | outgrown => exact h

theorem thenQ_n {next : SL → List LB → Prop} (h : next S L) : thenQ next Q .normal S L := h
theorem thenQ_r {next : SL → List LB → Prop} (h : Q .ret S L) : thenQ next Q .ret S L := h
theorem thenQ_e {next : SL → List LB → Prop} {id : Nat} (h : Q (.exit id) S L) : thenQ next Q (.exit id) S L := h
theorem blockQ_n {id : Nat} (h : Q .normal S L) : blockQ id Q .normal S L := h
theorem blockQ_r {id : Nat} (h : Q .ret S L) : blockQ id Q .ret S L := h
theorem blockQ_e {id : Nat} (h : Q .normal S L) : blockQ id Q (.exit id) S L := by simp only [blockQ, if_true]; exact h
theorem blockQ_o {id id' : Nat} (hn : Nat.beq id' id = false) (h : Q (.exit id') S L) : blockQ id Q (.exit id') S L := by
  have : id' ≠ id := fun e => by subst e; simp at hn
  simp only [blockQ, if_neg this]; exact h

theorem awp_cond_t {t : Nat} {x y : Code} {b : Bool} (hg : get S t = some (.v (.bool b))) (hb : b = true) (h : awp P G N x Q S L) : awp P G N (.cond (.tmp t) x y) Q S L :=
  awp_cond hg (fun _ => h) (fun e => by rw [hb] at e; cases e)
theorem awp_cond_f {t : Nat} {x y : Code} {b : Bool} (hg : get S t = some (.v (.bool b))) (hb : b = false) (h : awp P G N y Q S L) : awp P G N (.cond (.tmp t) x y) Q S L :=
  awp_cond hg (fun e => by rw [hb] at e; cases e) (fun _ => h)

theorem retP {td : TDs} {rs : List ResultVar} {r x : AV} (h : resV td S L rs = some r) (hx : ex L r = x) : retQ td rs (fun r' L' => Le (ex L' r') x) .ret S L := ⟨r, h, Le.of_eq hx⟩
theorem retN {td : TDs} {rs : List ResultVar} {r x : AV} (h : resV td S L rs = some r) (hx : ex L r = x) : retQ td rs (fun r' L' => Le (ex L' r') x) .normal S L := ⟨r, h, Le.of_eq hx⟩
theorem retLe {td : TDs} {rs : List ResultVar} {r x : AV} (h : resV td S L rs = some r) (hx : Le (ex L r) x) : retQ td rs (fun r' L' => Le (ex L' r') x) .ret S L := ⟨r, h, hx⟩
end
end Go.Ab
