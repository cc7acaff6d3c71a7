/- The core of an abstract logic over the model: values as trees, local blocks, and a weakest precondition over both. -/
import Derived.WalkKit
import Derived.Great.BuildSlice
import Derived.Deep.MidRow
namespace Go.Ab
set_option linter.unusedSectionVars false

/-- A value as a tree. -/
inductive AV where
  | any
  | v (x : Value)
  | fs (sz n : Nat) (es : List (List AV))
  | fz
  | fp (cs : List AV)
  | lp (k off : Nat)
  | ep (k i o : Nat)
  | os (k : Nat)
  | mp (k : Nat)
  | agg (cs : List AV)
  | lag (cs : List AV)
  | tup (vs : List AV)
  | fn (f : FuncId) (xs ys : List AV)
  | ifc (t : TypeId) (x : AV)
  deriving Inhabited

mutual
/-- A tree over memory that never changes. -/
def RF (F : Nat → Prop) (w : World) : AV → Value → Prop
  | .any, _ => True
  | .v x, y => y = x
  | .fs sz n es, y => es.length = n ∧ ∃ a cap, y = .slice a n cap ∧ n ≤ cap ∧ (n ≠ 0 → ∃ b off, a = some ⟨b, off, none⟩ ∧ F b ∧ EF F w sz es b off)
  | .fz, y => ∃ a, y = .slice a 0 0
  | .fp cs, y => ∃ b off, y = .pointer (some ⟨b, off, none⟩) ∧ F b ∧ MF F w cs b off
  | .agg cs, y => ∃ xs, y = .agg xs ∧ LF F w cs xs.toList
  | .tup cs, y => ∃ xs, y = .tuple xs ∧ TF F w cs xs.toList
  | .fn f as bs, y => ∃ xs ys, y = .func (.func f) xs ys ∧ TF F w as xs.toList ∧ TF F w bs ys.toList
  | .ifc t x, y => ∃ u, y = .iface t u ∧ RF F w x u
  | .lp _ _, _ => False
  | .ep _ _ _, _ => False
  | .os _, _ => False
  | .mp _, _ => False
  | .lag _, _ => False
def MF (F : Nat → Prop) (w : World) : List AV → Nat → Nat → Prop
  | [], _, _ => True
  | x :: r, b, off => (∃ u, w.cell? ⟨b, off, none⟩ = some u ∧ RF F w x u ∧ u.oneCell' = true) ∧ MF F w r b (off + 1)
def EF (F : Nat → Prop) (w : World) (sz : Nat) : List (List AV) → Nat → Nat → Prop
  | [], _, _ => True
  | e :: r, b, off => e.length = sz ∧ MF F w e b off ∧ EF F w sz r b (off + sz)
def LF (F : Nat → Prop) (w : World) : List AV → List Value → Prop
  | [], ys => ys = []
  | x :: r, ys => ∃ y s, ys = y :: s ∧ RF F w x y ∧ y.oneCell' = true ∧ LF F w r s
def TF (F : Nat → Prop) (w : World) : List AV → List Value → Prop
  | [], ys => ys = []
  | x :: r, ys => ∃ y s, ys = y :: s ∧ RF F w x y ∧ TF F w r s
end

/-- The concrete side: frozen blocks, where the local blocks lie, how many local blocks, the world. -/
structure Cx where
  F : Nat → Prop
  φ : Nat → Option Nat
  sz : Nat → Nat
  len : Nat → Nat
  n : Nat
  w : World

def OS (c : Cx) (k : Nat) (y : Value) : Prop :=
  k < c.n ∧ ((c.len k = 0 ∧ y = .slice none 0 0 ∧ c.φ k = none) ∨
    ∃ b cap arr T, c.φ k = some b ∧ y = .slice (some ⟨b, 0, none⟩) (c.len k) cap ∧ c.w.heap[b]? = some (.cells arr T (0, 0)) ∧ c.len k ≤ cap ∧ cap ≤ maxLen ∧ arr.size = cap * c.sz k)

mutual
def R (c : Cx) : AV → Value → Prop
  | .any, _ => True
  | .v x, y => y = x
  | .fs sz n es, y => RF c.F c.w (.fs sz n es) y
  | .fz, y => ∃ a, y = .slice a 0 0
  | .fp cs, y => RF c.F c.w (.fp cs) y
  | .agg cs, y => RF c.F c.w (.agg cs) y
  | .lp k off, y => k < c.n ∧ ∃ b, c.φ k = some b ∧ y = .pointer (some ⟨b, off, none⟩)
  | .ep k i o, y => k < c.n ∧ ∃ b, c.φ k = some b ∧ y = .pointer (some ⟨b, i * c.sz k + o, none⟩)
  | .os k, y => OS c k y
  | .mp k, y => k < c.n ∧ ∃ b, c.φ k = some b ∧ y = .map (some b)
  | .lag cs, y => ∃ xs, y = .agg xs ∧ LR c cs xs.toList
  | .tup cs, y => ∃ xs, y = .tuple xs ∧ TR c cs xs.toList
  | .fn f as bs, y => ∃ xs ys, y = .func (.func f) xs ys ∧ TR c as xs.toList ∧ TR c bs ys.toList
  | .ifc t x, y => ∃ u, y = .iface t u ∧ R c x u
def LR (c : Cx) : List AV → List Value → Prop
  | [], ys => ys = []
  | x :: r, ys => ∃ y s, ys = y :: s ∧ R c x y ∧ y.oneCell' = true ∧ LR c r s
def TR (c : Cx) : List AV → List Value → Prop
  | [], ys => ys = []
  | x :: r, ys => ∃ y s, ys = y :: s ∧ R c x y ∧ TR c r s
end

mutual
/-- All ids in x meet p. -/
def noid (p : Nat → Bool) : AV → Bool
  | .lp k _ => p k
  | .ep k _ _ => p k
  | .os k => p k
  | .mp k => p k
  | .lag cs => noidL p cs
  | .tup cs => noidL p cs
  | .fn _ as bs => noidL p as && noidL p bs
  | .ifc _ x => noid p x
  | .any | .v _ | .fs _ _ _ | .fz | .fp _ | .agg _ => true
def noidL (p : Nat → Bool) : List AV → Bool
  | [] => true
  | x :: r => noid p x && noidL p r
end

abbrev allp : Nat → Bool := fun _ => true
mutual
theorem noid_all : ∀ x : AV, noid allp x = true
  | .lp _ _ => rfl
  | .ep _ _ _ => rfl
  | .os _ => rfl
  | .mp _ => rfl
  | .lag cs => by simp only [noid]; exact noidL_all cs
  | .tup cs => by simp only [noid]; exact noidL_all cs
  | .fn _ as bs => by simp only [noid, noidL_all as, noidL_all bs]; rfl
  | .ifc _ x => by simp only [noid]; exact noid_all x
  | .any => rfl
  | .v _ => rfl
  | .fs _ _ _ => rfl
  | .fz => rfl
  | .fp _ => rfl
  | .agg _ => rfl
theorem noidL_all : ∀ x : List AV, noidL allp x = true
  | [] => rfl
  | x :: r => by simp only [noidL, noid_all x, noidL_all r]; rfl
end

theorem cell_of_heap {w w' : World} {b off : Nat} (h : w'.heap[b]? = w.heap[b]?) : w'.cell? ⟨b, off, none⟩ = w.cell? ⟨b, off, none⟩ :=
  World.cell?_of_block (w := w) (w' := w') (a := ⟨b, off, none⟩) h

section mono
variable {F F' : Nat → Prop} {w w' : World} (hF : ∀ b, F b → F' b) (hw : ∀ b, F b → w'.heap[b]? = w.heap[b]?)
include hF hw
mutual
theorem RF.mono : ∀ (x : AV) (y : Value), RF F w x y → RF F' w' x y
  | .any, _, _ => by simp only [RF]
  | .v x, y, h => by simpa only [RF] using h
  | .fs sz n es, y, h => by
    simp only [RF] at h ⊢
    obtain ⟨hl, a, cap, e, hn, h⟩ := h
    refine ⟨hl, a, cap, e, hn, fun hc => ?_⟩
    obtain ⟨b, off, e2, hb, hm⟩ := h hc
    exact ⟨b, off, e2, hF b hb, EF.mono sz es b off (hw b hb) hm⟩
  | .fz, y, h => by simpa only [RF] using h
  | .fp cs, y, h => by
    simp only [RF] at h ⊢
    obtain ⟨b, off, e, hb, hm⟩ := h
    exact ⟨b, off, e, hF b hb, MF.mono cs b off (hw b hb) hm⟩
  | .agg cs, y, h => by
    simp only [RF] at h ⊢
    obtain ⟨xs, e, h⟩ := h
    exact ⟨xs, e, LF.mono cs _ h⟩
  | .tup cs, y, h => by
    simp only [RF] at h ⊢
    obtain ⟨xs, e, h⟩ := h
    exact ⟨xs, e, TF.mono cs _ h⟩
  | .fn f as bs, y, h => by
    simp only [RF] at h ⊢
    obtain ⟨xs, ys, e, h, h2⟩ := h
    exact ⟨xs, ys, e, TF.mono as _ h, TF.mono bs _ h2⟩
  | .ifc t x, y, h => by
    simp only [RF] at h ⊢
    obtain ⟨u, e, h⟩ := h
    exact ⟨u, e, RF.mono x u h⟩
  | .lp _ _, _, h => by simp only [RF] at h
  | .ep _ _ _, _, h => by simp only [RF] at h
  | .os _, _, h => by simp only [RF] at h
  | .mp _, _, h => by simp only [RF] at h
  | .lag _, _, h => by simp only [RF] at h
theorem MF.mono : ∀ (cs : List AV) (b off : Nat), w'.heap[b]? = w.heap[b]? → MF F w cs b off → MF F' w' cs b off
  | [], _, _, _, _ => by simp only [MF]
  | x :: r, b, off, hb, h => by
    simp only [MF] at h ⊢
    obtain ⟨⟨u, hc, hx, h1⟩, h⟩ := h
    exact ⟨⟨u, (cell_of_heap hb).trans hc, RF.mono x u hx, h1⟩, MF.mono r b (off + 1) hb h⟩
theorem EF.mono (sz : Nat) : ∀ (es : List (List AV)) (b off : Nat), w'.heap[b]? = w.heap[b]? → EF F w sz es b off → EF F' w' sz es b off
  | [], _, _, _, _ => by simp only [EF]
  | e :: r, b, off, hb, h => by
    simp only [EF] at h ⊢
    exact ⟨h.1, MF.mono e b off hb h.2.1, EF.mono sz r b (off + sz) hb h.2.2⟩
theorem LF.mono : ∀ (cs : List AV) (ys : List Value), LF F w cs ys → LF F' w' cs ys
  | [], _, h => by simpa only [LF] using h
  | x :: r, ys, h => by
    simp only [LF] at h ⊢
    obtain ⟨y, s, e, hx, h1, h⟩ := h
    exact ⟨y, s, e, RF.mono x y hx, h1, LF.mono r s h⟩
theorem TF.mono : ∀ (cs : List AV) (ys : List Value), TF F w cs ys → TF F' w' cs ys
  | [], _, h => by simpa only [TF] using h
  | x :: r, ys, h => by
    simp only [TF] at h ⊢
    obtain ⟨y, s, e, hx, h⟩ := h
    exact ⟨y, s, e, RF.mono x y hx, TF.mono r s h⟩
end
end mono

/-- What is said of the ids that meet p stays so. -/
structure SubX (p : Nat → Bool) (c c' : Cx) : Prop where
  F : ∀ b, c.F b → c'.F b
  heap : ∀ b, c.F b → c'.w.heap[b]? = c.w.heap[b]?
  n : ∀ k, k < c.n → p k = true → k < c'.n
  φ : ∀ k, k < c.n → p k = true → c'.φ k = c.φ k
  sz : ∀ k, k < c.n → p k = true → c'.sz k = c.sz k
  len : ∀ k, k < c.n → p k = true → c'.len k = c.len k
  row : ∀ k b arr T, p k = true → c.φ k = some b → c.w.heap[b]? = some (.cells arr T (0, 0)) → ∃ arr', c'.w.heap[b]? = some (.cells arr' T (0, 0)) ∧ arr'.size = arr.size

section mono2
variable {p : Nat → Bool} {c c' : Cx} (hs : SubX p c c')
include hs
mutual
theorem R.mono : ∀ (x : AV) (y : Value), noid p x = true → R c x y → R c' x y
  | .any, _, _, _ => by simp only [R]
  | .v x, y, _, h => by simpa only [R] using h
  | .fs sz n es, y, _, h => by simp only [R] at h ⊢; exact RF.mono hs.F hs.heap _ _ h
  | .fz, y, _, h => by simpa only [R] using h
  | .fp cs, y, _, h => by simp only [R] at h ⊢; exact RF.mono hs.F hs.heap _ _ h
  | .agg cs, y, _, h => by simp only [R] at h ⊢; exact RF.mono hs.F hs.heap _ _ h
  | .lp k off, y, hk, h => by
    simp only [R] at h ⊢
    simp only [noid] at hk
    obtain ⟨hn, b, hb, e⟩ := h
    exact ⟨hs.n k hn hk, b, (hs.φ k hn hk).trans hb, e⟩
  | .ep k i o, y, hk, h => by
    simp only [R] at h ⊢
    simp only [noid] at hk
    obtain ⟨hn, b, hb, e⟩ := h
    exact ⟨hs.n k hn hk, b, (hs.φ k hn hk).trans hb, by rw [hs.sz k hn hk]; exact e⟩
  | .os k, y, hk, h => by
    simp only [R, OS] at h ⊢
    simp only [noid] at hk
    obtain ⟨hn, h⟩ := h
    refine ⟨hs.n k hn hk, ?_⟩
    rw [hs.len k hn hk, hs.sz k hn hk, hs.φ k hn hk]
    rcases h with h | ⟨b, cap, arr, T, e1, e2, e3, e4, e5, e6⟩
    · exact .inl h
    · obtain ⟨arr', e7, e8⟩ := hs.row k b arr T hk e1 e3
      exact .inr ⟨b, cap, arr', T, e1, e2, e7, e4, e5, e8.trans e6⟩
  | .mp k, y, hk, h => by
    simp only [R] at h ⊢
    simp only [noid] at hk
    obtain ⟨hn, b, hb, e⟩ := h
    exact ⟨hs.n k hn hk, b, (hs.φ k hn hk).trans hb, e⟩
  | .lag cs, y, hk, h => by
    simp only [R] at h ⊢
    obtain ⟨xs, e, h⟩ := h
    exact ⟨xs, e, LR.mono cs _ (by simpa only [noid] using hk) h⟩
  | .tup cs, y, hk, h => by
    simp only [R] at h ⊢
    obtain ⟨xs, e, h⟩ := h
    exact ⟨xs, e, TR.mono cs _ (by simpa only [noid] using hk) h⟩
  | .fn f as bs, y, hk, h => by
    simp only [R] at h ⊢
    obtain ⟨xs, ys, e, h, h2⟩ := h
    simp only [noid, Bool.and_eq_true] at hk
    exact ⟨xs, ys, e, TR.mono as _ hk.1 h, TR.mono bs _ hk.2 h2⟩
  | .ifc t x, y, hk, h => by
    simp only [R] at h ⊢
    obtain ⟨u, e, h⟩ := h
    exact ⟨u, e, R.mono x u (by simpa only [noid] using hk) h⟩
theorem LR.mono : ∀ (cs : List AV) (ys : List Value), noidL p cs = true → LR c cs ys → LR c' cs ys
  | [], _, _, h => by simpa only [LR] using h
  | x :: r, ys, hk, h => by
    simp only [LR] at h ⊢
    simp only [noidL, Bool.and_eq_true] at hk
    obtain ⟨y, s, e, hx, h1, h⟩ := h
    exact ⟨y, s, e, R.mono x y hk.1 hx, h1, LR.mono r s hk.2 h⟩
theorem TR.mono : ∀ (cs : List AV) (ys : List Value), noidL p cs = true → TR c cs ys → TR c' cs ys
  | [], _, _, h => by simpa only [TR] using h
  | x :: r, ys, hk, h => by
    simp only [TR] at h ⊢
    simp only [noidL, Bool.and_eq_true] at hk
    obtain ⟨y, s, e, hx, h⟩ := h
    exact ⟨y, s, e, R.mono x y hk.1 hx, TR.mono r s hk.2 h⟩
end
end mono2

mutual
theorem R.of_RF (c : Cx) : ∀ (x : AV) (y : Value), RF c.F c.w x y → R c x y
  | .any, _, _ => by simp only [R]
  | .v x, y, h => by simpa only [RF, R] using h
  | .fs sz n es, y, h => by simpa only [R] using h
  | .fz, y, h => by simpa only [RF, R] using h
  | .fp cs, y, h => by simpa only [R] using h
  | .agg cs, y, h => by simpa only [R] using h
  | .tup cs, y, h => by
    simp only [RF] at h; simp only [R]
    obtain ⟨xs, e, h⟩ := h
    exact ⟨xs, e, TR.of_TF c cs _ h⟩
  | .fn f as bs, y, h => by
    simp only [RF] at h; simp only [R]
    obtain ⟨xs, ys, e, h, h2⟩ := h
    exact ⟨xs, ys, e, TR.of_TF c as _ h, TR.of_TF c bs _ h2⟩
  | .ifc t x, y, h => by
    simp only [RF] at h; simp only [R]
    obtain ⟨u, e, h⟩ := h
    exact ⟨u, e, R.of_RF c x u h⟩
  | .lp _ _, _, h => by simp only [RF] at h
  | .ep _ _ _, _, h => by simp only [RF] at h
  | .os _, _, h => by simp only [RF] at h
  | .mp _, _, h => by simp only [RF] at h
  | .lag _, _, h => by simp only [RF] at h
theorem TR.of_TF (c : Cx) : ∀ (cs : List AV) (ys : List Value), TF c.F c.w cs ys → TR c cs ys
  | [], _, h => by simpa only [TF, TR] using h
  | x :: r, ys, h => by
    simp only [TF] at h; simp only [TR]
    obtain ⟨y, s, e, hx, h⟩ := h
    exact ⟨y, s, e, R.of_RF c x y hx, TR.of_TF c r s h⟩
end

/-- A local block. -/
inductive LB where
  | dead
  | box (cs : List AV)
  | own (E : TypeId) (sz : Nat) (es : List (List AV))
  | map (es : List (Value × AV))
  deriving Inhabited

/-- Cells of a local block. -/
def MR (c : Cx) : List AV → Nat → Nat → Prop
  | [], _, _ => True
  | x :: r, b, off => (∃ u, c.w.cell? ⟨b, off, none⟩ = some u ∧ R c x u ∧ u.oneCell' = true) ∧ MR c r b (off + 1)

def BR (c : Cx) (k : Nat) : LB → Prop
  | .dead => c.φ k = none
  | .box cs => ∃ b arr T, c.φ k = some b ∧ c.w.heap[b]? = some (.cells arr T (0, 0)) ∧ cs.length ≤ arr.size ∧ MR c cs b 0
  | .own E sz es => c.sz k = sz ∧ c.len k = es.length ∧ ((c.φ k = none ∧ es = []) ∨
      ∃ b arr, c.φ k = some b ∧ c.w.heap[b]? = some (.cells arr E (0, 0)) ∧ es.length * sz ≤ arr.size ∧ EF c.F c.w sz es b 0)
  | .map _ => False

def noidB (p : Nat → Bool) : LB → Bool
  | .box cs => noidL p cs
  | _ => true
theorem noidB_all (x : LB) : noidB allp x = true := by cases x <;> simp only [noidB]; exact noidL_all _

theorem MR.mono {p : Nat → Bool} {c c' : Cx} (hs : SubX p c c') : ∀ (cs : List AV) (b off : Nat), noidL p cs = true → c'.w.heap[b]? = c.w.heap[b]? → MR c cs b off → MR c' cs b off
  | [], _, _, _, _, _ => by simp only [MR]
  | x :: r, b, off, hk, hb, h => by
    simp only [MR] at h ⊢
    simp only [noidL, Bool.and_eq_true] at hk
    obtain ⟨⟨u, hc, hx, h1⟩, h⟩ := h
    exact ⟨⟨u, (cell_of_heap hb).trans hc, R.mono hs x u hk.1 hx, h1⟩, MR.mono hs r b (off + 1) hk.2 hb h⟩

theorem BR.mono {p : Nat → Bool} {c c' : Cx} (hs : SubX p c c') {k : Nat} {x : LB} (hk : k < c.n) (hp : p k = true) (hid : noidB p x = true)
    (hb : ∀ b, c.φ k = some b → c'.w.heap[b]? = c.w.heap[b]?) (h : BR c k x) : BR c' k x := by
  cases x with
  | dead => simp only [BR] at h ⊢; exact (hs.φ k hk hp).trans h
  | box cs =>
    simp only [BR] at h ⊢
    obtain ⟨b, arr, T, e1, e2, e3, e4⟩ := h
    exact ⟨b, arr, T, (hs.φ k hk hp).trans e1, (hb b e1).trans e2, e3, MR.mono hs cs b 0 (by simpa only [noidB] using hid) (hb b e1) e4⟩
  | own E sz es =>
    simp only [BR] at h ⊢
    obtain ⟨h1, h2, h⟩ := h
    refine ⟨(hs.sz k hk hp).trans h1, (hs.len k hk hp).trans h2, ?_⟩
    rcases h with ⟨e1, e2⟩ | ⟨b, arr, e1, e2, e3, e4⟩
    · exact .inl ⟨(hs.φ k hk hp).trans e1, e2⟩
    · exact .inr ⟨b, arr, (hs.φ k hk hp).trans e1, (hb b e1).trans e2, e3, EF.mono hs.F hs.heap sz es b 0 (hb b e1) e4⟩
  | map es => simp only [BR] at h

structure St (G : List (Nat × List AV)) (c : Cx) (L : List LB) : Prop where
  n : c.n = L.length
  inF : ∀ b, c.F b → b < c.w.heap.size
  loc : ∀ k b, c.φ k = some b → k < c.n ∧ ¬ c.F b ∧ b < c.w.heap.size
  inj : ∀ k k' b, c.φ k = some b → c.φ k' = some b → k = k'
  blk : ∀ k x, L[k]? = some x → BR c k x
  glob : ∀ p ∈ G, c.F p.1 ∧ MF c.F c.w p.2 p.1 0

structure Ext (c c' : Cx) : Prop where
  os : c'.w.os = c.w.os
  tape : c'.w.tape = c.w.tape
  output : c'.w.output = c.w.output
  size : c.w.heap.size ≤ c'.w.heap.size
  F : ∀ b, c.F b → c'.F b
  newF : ∀ b, c'.F b → c.F b ∨ (∃ k, c.φ k = some b) ∨ c.w.heap.size ≤ b
  newφ : ∀ k b, c'.φ k = some b → (∃ k', c.φ k' = some b) ∨ c.w.heap.size ≤ b
  keep : ∀ b, b < c.w.heap.size → (∀ k, c.φ k ≠ some b) → c'.w.heap[b]? = c.w.heap[b]?

theorem Ext.refl (c : Cx) : Ext c c :=
  ⟨rfl, rfl, rfl, Nat.le_refl _, fun _ h => h, fun _ h => .inl h, fun k _ h => .inl ⟨k, h⟩, fun _ _ _ => rfl⟩

theorem Ext.trans {a b c : Cx} (h : Ext a b) (g : Ext b c) : Ext a c := by
  refine ⟨g.os.trans h.os, g.tape.trans h.tape, g.output.trans h.output, Nat.le_trans h.size g.size, fun x hx => g.F x (h.F x hx), ?_, ?_, ?_⟩
  · intro x hx
    rcases g.newF x hx with h1 | ⟨k, h1⟩ | h1
    · exact h.newF x h1
    · rcases h.newφ k x h1 with h2 | h2
      · exact .inr (.inl h2)
      · exact .inr (.inr h2)
    · exact .inr (.inr (Nat.le_trans h.size h1))
  · intro k x hx
    rcases g.newφ k x hx with ⟨k', h1⟩ | h1
    · exact h.newφ k' x h1
    · exact .inr (Nat.le_trans h.size h1)
  · intro x hx hk
    rw [g.keep x (Nat.lt_of_lt_of_le hx h.size) ?_, h.keep x hx hk]
    intro k hk'
    rcases h.newφ k x hk' with ⟨k', h2⟩ | h2
    · exact hk k' h2
    · omega

/-- Slots. -/
abbrev SL := List (Nat × AV)
def get : SL → Nat → Option AV
  | [], _ => none
  | (d, x) :: S, t => bif Nat.beq d t then some x else get S t

def SR (c : Cx) (S : SL) (tmps : Array Value) : Prop := ∀ t x, get S t = some x → R c x (tmps.getD t undef)

theorem get_cons (d t : Nat) (x : AV) (S : SL) : get ((d, x) :: S) t = if d = t then some x else get S t := by
  simp only [get]
  by_cases h : d = t
  · subst h; simp
  · have : Nat.beq d t = false := by
      cases hb : Nat.beq d t with
      | false => rfl
      | true => exact absurd (Nat.eq_of_beq_eq_true hb) h
    simp [this, h]

theorem SR.put {c' : Cx} {S' : SL} {a : Act} {d : Nat} {x : AV} {y : Value} (h : SR c' S' a.tmps) (hd : d < a.tmps.size) (hx : R c' x y) :
    SR c' ((d, x) :: S') (a.put (some d) y).tmps := by
  intro t z hz
  rw [get_cons] at hz
  simp only [Act.put, Array.getD_eq_getD_getElem?, Array.getElem?_setIfInBounds] at *
  by_cases e : d = t
  · subst e
    simp only [if_true, Option.some.injEq] at hz
    subst hz
    simp [hd, hx]
  · rw [if_neg e] at hz
    have := h t z hz
    simpa [e, Array.getD_eq_getD_getElem?] using this

/-- The relation of a state. -/
structure Cn (G : List (Nat × List AV)) (N : Nat) (S : SL) (L : List LB) (c : Cx) (a : Act) : Prop where
  st : St G c L
  de : a.defers = []
  sz : a.tmps.size = N
  sr : SR c S a.tmps

abbrev AQ := Exit → SL → List LB → Prop

/-- The concrete meaning of an abstract postcondition. -/
def conc (G : List (Nat × List AV)) (N : Nat) (Q : AQ) (c : Cx) : Exit → Act → World → Prop :=
  fun e a' w' => ∃ S' L' c', Q e S' L' ∧ Cn G N S' L' c' a' ∧ Ext c c' ∧ c'.w = w'

def awp (P : Program) (G : List (Nat × List AV)) (N : Nat) (c : Code) (Q : AQ) (S : SL) (L : List LB) : Prop :=
  ∀ (cx : Cx) (a : Act), Cn G N S L cx a → c.wp P (conc G N Q cx) a cx.w

def awpL (P : Program) (G : List (Nat × List AV)) (N : Nat) (ops : Array Oper) (l : List Oper) (Q : AQ) (S : SL) (L : List LB) : Prop :=
  ∀ (cx : Cx) (a : Act), Cn G N S L cx a → wpList P ops (conc G N Q cx) l a cx.w

theorem conc.trans {G : List (Nat × List AV)} {N : Nat} {Q : AQ} {c c' : Cx} (h : Ext c c') {e : Exit} {a : Act} {w : World} (q : conc G N Q c' e a w) : conc G N Q c e a w := by
  obtain ⟨S', L', c2, hq, hc, he, hw⟩ := q
  exact ⟨S', L', c2, hq, hc, h.trans he, hw⟩

/-- The code ends normally with 'next', or otherwise with 'Q'. -/
def thenQ (next : SL → List LB → Prop) (Q : AQ) : AQ
  | .normal, S, L => next S L
  | e, S, L => Q e S L
def blockQ (id : Nat) (Q : AQ) : AQ
  | .exit id', S, L => if id' = id then Q .normal S L else Q (.exit id') S L
  | e, S, L => Q e S L

section rules
variable {P : Program} {G : List (Nat × List AV)} {N : Nat} {Q : AQ} {S : SL} {L : List LB}

set_option linter.unusedVariables false
theorem awp_mono {c : Code} {Q' : AQ} (hq : ∀ e S L, Q e S L → Q' e S L) (h : awp P G N c Q S L) : awp P G N c Q' S L :=
  fun cx a hc => Code.wp_mono (fun e a w ⟨S', L', c', q, r⟩ => ⟨S', L', c', hq _ _ _ q, r⟩) (h cx a hc)

theorem conc_then {x : Exit → SL → List LB → Prop} {y : Code} {cx : Cx} (e : Exit) (a : Act) (w : World)
    (h : conc G N (thenQ (fun S L => awp P G N y Q S L) Q) cx e a w) : Exit.then (y.wp P (conc G N Q cx)) (conc G N Q cx) e a w := by
  obtain ⟨S', L', c', q, r, ex, hw⟩ := h
  cases e with
  | normal =>
    subst hw
    exact Code.wp_mono (fun e a w q => q.trans ex) (q c' a r)
  | exit id => exact ⟨S', L', c', q, r, ex, hw⟩
  | goto l => exact ⟨S', L', c', q, r, ex, hw⟩
  | ret => exact ⟨S', L', c', q, r, ex, hw⟩
  | panic ch => exact ⟨S', L', c', q, r, ex, hw⟩
  | outgrown => exact ⟨S', L', c', q, r, ex, hw⟩

theorem awp_seq {x y : Code} (h : awp P G N x (thenQ (fun S L => awp P G N y Q S L) Q) S L) : awp P G N (.seq x y) Q S L :=
  fun cx a hc => wp_seq (Code.wp_mono (conc_then (x := Q)) (h cx a hc))

theorem here {cx : Cx} {a : Act} {e : Exit} (hc : Cn G N S L cx a) (h : Q e S L) : conc G N Q cx e a cx.w :=
  ⟨S, L, cx, h, hc, Ext.refl _, rfl⟩

theorem awp_skip (h : Q .normal S L) : awp P G N .skip Q S L := fun _ _ hc => wp_skip (here hc h)
theorem awp_label {l : Nat} (h : Q .normal S L) : awp P G N (.label l) Q S L := fun _ _ hc => wp_label (here hc h)
theorem awp_exit {id : Nat} (h : Q (.exit id) S L) : awp P G N (.exit id) Q S L := fun _ _ hc => wp_exit (here hc h)
theorem awp_ret (h : Q .ret S L) : awp P G N .ret Q S L := fun _ _ hc => wp_ret (here hc h)

theorem awp_block {id : Nat} {c : Code} (h : awp P G N c (blockQ id Q) S L) : awp P G N (.block id c) Q S L := by
  refine fun cx a hc => wp_block (Code.wp_mono ?_ (h cx a hc))
  rintro e a w ⟨S', L', c', q, r⟩
  cases e with
  | exit id' =>
    simp only [blockQ, Exit.inBlock] at q ⊢
    split at q
    · rename_i he; rw [if_pos he]; exact ⟨S', L', c', q, r⟩
    · rename_i he; rw [if_neg he]; exact ⟨S', L', c', q, r⟩
  | normal => exact ⟨S', L', c', q, r⟩
  | goto l => exact ⟨S', L', c', q, r⟩
  | ret => exact ⟨S', L', c', q, r⟩
  | panic ch => exact ⟨S', L', c', q, r⟩
  | outgrown => exact ⟨S', L', c', q, r⟩

theorem awp_cond {t : Nat} {x y : Code} {b : Bool} (hg : get S t = some (.v (.bool b))) (ht : b = true → awp P G N x Q S L) (hf : b = false → awp P G N y Q S L) :
    awp P G N (.cond (.tmp t) x y) Q S L := by
  intro cx a hc
  have hv := hc.sr t _ hg
  simp only [R] at hv
  exact wp_cond_split (t := b) hv (fun e => ht e cx a hc) (fun e => hf e cx a hc)

theorem awp_cond_const {b : Bool} {x y : Code} (ht : b = true → awp P G N x Q S L) (hf : b = false → awp P G N y Q S L) :
    awp P G N (.cond (.const (.bool b)) x y) Q S L :=
  fun cx a hc => wp_cond_split (t := b) rfl (fun e => ht e cx a hc) (fun e => hf e cx a hc)

theorem awp_region {id : Nat} {l : List Oper} (h : awpL P G N l.toArray l Q S L) : awp P G N (.region id l.toArray false) Q S L :=
  fun cx a hc => wp_region_lit (h cx a hc)

theorem awpL_nil {ops : Array Oper} (h : Q .normal S L) : awpL P G N ops [] Q S L := fun _ _ hc => wpList_nil (here hc h)

/-- Fewer slots are known. -/
inductive Keep (p : Nat → Bool) (S : SL) : SL → Prop
  | nil : Keep p S []
  | cons {t : Nat} {x : AV} {S' : SL} : get S t = some x → noid p x = true → Keep p S S' → Keep p S ((t, x) :: S')

theorem Keep.get {p : Nat → Bool} {S S' : SL} (h : Keep p S S') : ∀ t x, Ab.get S' t = some x → Ab.get S t = some x ∧ noid p x = true := by
  induction h with
  | nil => intro t x h; simp [Ab.get] at h
  | @cons t0 x0 S' h0 h1 _ ih =>
    intro t x h
    rw [get_cons] at h
    by_cases e : t0 = t
    · subst e
      simp only [if_true, Option.some.injEq] at h
      subst h; exact ⟨h0, h1⟩
    · rw [if_neg e] at h; exact ih t x h

theorem Cn.keep {p : Nat → Bool} {cx : Cx} {a : Act} {S' : SL} (hc : Cn G N S L cx a) (h : Keep p S S') : Cn G N S' L cx a :=
  ⟨hc.st, hc.de, hc.sz, fun t x hx => hc.sr t x (h.get t x hx).1⟩

theorem awp_keep {p : Nat → Bool} {c : Code} {S' : SL} (h : Keep p S S') (k : awp P G N c Q S' L) : awp P G N c Q S L := fun cx a hc => k cx a (hc.keep h)
theorem awpL_keep {p : Nat → Bool} {ops : Array Oper} {l : List Oper} {S' : SL} (h : Keep p S S') (k : awpL P G N ops l Q S' L) : awpL P G N ops l Q S L := fun cx a hc => k cx a (hc.keep h)

/-- A loop. -/
theorem awp_loop {c : Code} (I : SL → List LB → Nat → Prop) {m : Nat} (h0 : I S L m)
    (round : ∀ S L m, I S L m → awp P G N c (thenQ (fun S' L' => ∃ m', m' < m ∧ I S' L' m') Q) S L) : awp P G N (.loop c) Q S L := by
  have key : ∀ m S L cx a, I S L m → Cn G N S L cx a → ∀ (b : Frame) (k : List Item) (cs : List Frame),
      ∃ e a' w', conc G N Q cx e a' w' ∧ Arrives P (lone (b.at a (.code c :: .inLoop c :: k)) cs cx.w) b k cs e a' w' := by
    intro m
    induction m using Nat.strongRecOn with
    | _ m ih =>
      intro S L cx a hI hc b k cs
      obtain ⟨e, a₁, w₁, ⟨S', L', c', q, r, ex, hw⟩, harr⟩ := round S L m hI cx a hc b (.inLoop c :: k) cs
      subst hw
      cases e with
      | normal =>
        obtain ⟨m', hm, hI'⟩ := q
        obtain ⟨e₂, a₂, w₂, hq₂, harr₂⟩ := ih m' hm S' L' c' a₁ hI' r b k cs
        exact ⟨e₂, a₂, w₂, hq₂.trans ex, .of_steps (Steps.trans harr (.one step_inLoop)) harr₂⟩
      | exit id => exact ⟨_, a₁, _, ⟨S', L', c', q, r, ex, rfl⟩, .pass (x := .inLoop c) rfl (fun _ _ => .inl (by simp)) harr⟩
      | goto l => exact ⟨_, a₁, _, ⟨S', L', c', q, r, ex, rfl⟩, .pass (x := .inLoop c) rfl (fun _ _ => .inl (by simp)) harr⟩
      | ret => exact ⟨_, a₁, _, ⟨S', L', c', q, r, ex, rfl⟩, .pass (x := .inLoop c) rfl (fun _ _ => .inl (by simp)) harr⟩
      | panic ch => exact ⟨_, a₁, _, ⟨S', L', c', q, r, ex, rfl⟩, .pass (x := .inLoop c) rfl (fun _ _ => .inl (by simp)) harr⟩
      | outgrown => exact ⟨_, a₁, _, ⟨S', L', c', q, r, ex, rfl⟩, .pass (x := .inLoop c) rfl (fun _ _ => .inl (by simp)) harr⟩
  intro cx a hc b k cs
  obtain ⟨e, a', w', hq, harr⟩ := key m S L cx a h0 hc b k cs
  exact ⟨e, a', w', hq, .of_steps (.one step_loop) harr⟩
end rules
end Go.Ab
