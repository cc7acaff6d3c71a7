/- A logic of trees over the model's steps, and the contracts of the functions that the laws reach: part 1 of 29. -/
import Derived.WalkKit
import Derived.Great.BuildSlice
import Derived.Deep.MidRow
import Derived.RangeFuncRecord
import Derived.OrdersIn
import Derived.TacticsIn
import Derived.Orders
set_option linter.unusedVariables false
set_option linter.unusedSimpArgs false
set_option linter.unusedSectionVars false
set_option linter.unnecessarySimpa false
namespace Go.Ac
theorem qa0 {A : Prop} (h : A := by first | with_reducible rfl | with_reducible assumption) : A := h
theorem qb0 {A : Prop} (h : A := by (try simp only [List.nil_append, List.cons_append]); (try rfl)) : A := h
theorem qc0 {A : Prop} (h : A := by (try simp only [List.set_cons_zero, List.set_cons_succ, List.nil_append, List.cons_append, List.append_nil, cellsOf, List.take_zero, List.drop_zero, List.take_succ_cons, List.drop_succ_cons, Nat.zero_add, Nat.reduceAdd, List.drop_nil, List.map_cons, List.map_nil]); (try rfl)) : A := h
theorem qd0 {A : Prop} (h : A := by repeat' (first | exact Msk.nil | apply Msk.base | apply Msk.vis rfl | apply Msk.hid rfl)) : A := h
theorem qe0 {A : Prop} (h : A := by simp only [List.length_map, List.length_cons, List.length_nil, List.length_append, List.length_take]; omega) : A := h
theorem qf0 {A : Prop} (h : A := by (try simp only [List.length_nil, List.length_cons, Nat.reduceAdd]); (try rfl)) : A := h
end Go.Ac
namespace Go.Ac
section
inductive AV where
 | any
 | v (x : Value)
 | fs (sz n : Nat) (es : List (List AV))
 | fz
 | fp (cs : List AV)
 | fm (ks : List Value) (xs : List AV)
 | lp (k off : Nat)
 | ep (k v i o : Nat)
 | os (k v : Nat)
 | mp (k : Nat)
 | agg (cs : List AV)
 | lag (cs : List AV)
 | tup (vs : List AV)
 | fn (f : FuncId) (xs ys : List AV)
 | ifc (t : TypeId) (x : AV)
 deriving Inhabited
def Births (clock : Nat) : List MapEntry → Prop := fun es => es.Pairwise (fun a b => a.born < b.born) ∧ ∀ e ∈ es, e.born < clock
mutual
def RF (F : Nat → Prop) (w : World) : AV → Value → Prop
 | .any, _ => True
 | .v x, y => y = x
 | .fs sz n es, y => es.length = n ∧ ∃ a cap, y = .slice a n cap ∧ n ≤ cap ∧ (n ≠ 0 → ∃ b off, a = some ⟨b, off, none⟩ ∧ F b ∧ EF F w sz es b off)
 | .fz, y => ∃ a, y = .slice a 0 0
 | .fp cs, y => ∃ b off, y = .pointer (some ⟨b, off, none⟩) ∧ F b ∧ MF F w cs b off
 | .fm ks xs, y => ∃ b es clock, y = .map (some b) ∧ F b ∧ w.heap[b]? = some (.map es clock) ∧ Births clock es.toList ∧ PF F w ks xs es.toList
 | .agg cs, y => ∃ xs, y = .agg xs ∧ LF F w cs xs.toList
 | .tup cs, y => ∃ xs, y = .tuple xs ∧ TF F w cs xs.toList
 | .fn f asv bs, y => ∃ xs ys, y = .func (.func f) xs ys ∧ TF F w asv xs.toList ∧ TF F w bs ys.toList
 | .ifc t x, y => ∃ u, y = .iface t u ∧ RF F w x u
 | .lp _ _, _ => False
 | .ep _ _ _ _, _ => False
 | .os _ _, _ => False
 | .mp _, _ => False
 | .lag _, _ => False
def MF (F : Nat → Prop) (w : World) : List AV → Nat → Nat → Prop
 | [], _, _ => True
 | x :: r, b, off => (∃ u, w.cell? ⟨b, off, none⟩ = some u ∧ RF F w x u ∧ u.oneCell' = true) ∧ MF F w r b (off + 1)
def EF (F : Nat → Prop) (w : World) (sz : Nat) : List (List AV) → Nat → Nat → Prop
 | [], _, _ => True
 | e :: r, b, off => e.length = sz ∧ MF F w e b off ∧ EF F w sz r b (off + sz)
def LF (F : Nat → Prop) (w : World) : List AV → List Value → Prop
 | [], ys => ys = []
 | x :: r, ys => ∃ y s, ys = y :: s ∧ RF F w x y ∧ y.oneCell' = true ∧ LF F w r s
def TF (F : Nat → Prop) (w : World) : List AV → List Value → Prop
 | [], ys => ys = []
 | x :: r, ys => ∃ y s, ys = y :: s ∧ RF F w x y ∧ TF F w r s
def PF (F : Nat → Prop) (w : World) : List Value → List AV → List MapEntry → Prop
 | ks, [], es => ks = [] ∧ es = []
 | ks, x :: r, es => ∃ k kr e er, ks = k :: kr ∧ es = e :: er ∧ e.key = k ∧ RF F w x e.val ∧ PF F w kr r er
end
structure Cx where
 F : Nat → Prop
 φ : Nat → Option Nat
 ver : Nat → Nat
 sz : Nat → Nat
 len : Nat → Nat
 dom : Nat → Prop
 m : Nat
 E : Nat → Prop
 mks : List Nat
 w : World
def rng (c : Cx) (b : Nat) : Prop := ∃ k, c.φ k = some b
def OS (c : Cx) (k : Nat) (y : Value) : Prop :=
 (c.len k = 0 ∧ y = .slice none 0 0 ∧ c.φ k = none) ∨
  ∃ b cap arr T, c.φ k = some b ∧ y = .slice (some ⟨b, 0, none⟩) (c.len k) cap ∧ c.w.heap[b]? = some (.cells arr T (0, 0)) ∧ c.len k ≤ cap ∧ cap ≤ maxLen ∧ arr.size = cap * c.sz k
mutual
def R (c : Cx) : AV → Value → Prop
 | .any, _ => True
 | .v x, y => y = x
 | .fs sz n es, y => RF c.F c.w (.fs sz n es) y
 | .fz, y => ∃ a, y = .slice a 0 0
 | .fp cs, y => RF c.F c.w (.fp cs) y
 | .fm ks xs, y => RF c.F c.w (.fm ks xs) y
 | .agg cs, y => RF c.F c.w (.agg cs) y
 | .lp k off, y => c.dom k ∧ y.oneCell' = true ∧ (c.ver k = 0 → ∃ b, c.φ k = some b ∧ y = .pointer (some ⟨b, off, none⟩))
 | .ep k v i o, y => c.dom k ∧ v ≤ c.ver k ∧ y.oneCell' = true ∧ (c.ver k = v → ∃ b, c.φ k = some b ∧ y = .pointer (some ⟨b, i * c.sz k + o, none⟩))
 | .os k v, y => c.dom k ∧ v ≤ c.ver k ∧ y.oneCell' = true ∧ (c.ver k = v → OS c k y)
 | .mp k, y => c.dom k ∧ y.oneCell' = true ∧ (c.ver k = 0 → ∃ b, c.φ k = some b ∧ y = .map (some b))
 | .lag cs, y => ∃ xs, y = .agg xs ∧ LR c cs xs.toList
 | .tup cs, y => ∃ xs, y = .tuple xs ∧ TR c cs xs.toList
 | .fn f asv bs, y => ∃ xs ys, y = .func (.func f) xs ys ∧ TR c asv xs.toList ∧ TR c bs ys.toList
 | .ifc t x, y => ∃ u, y = .iface t u ∧ R c x u
def LR (c : Cx) : List AV → List Value → Prop
 | [], ys => ys = []
 | x :: r, ys => ∃ y s, ys = y :: s ∧ R c x y ∧ y.oneCell' = true ∧ LR c r s
def TR (c : Cx) : List AV → List Value → Prop
 | [], ys => ys = []
 | x :: r, ys => ∃ y s, ys = y :: s ∧ R c x y ∧ TR c r s
end
mutual
def noid (p : Nat → Bool) : AV → Bool
 | .lp k _ => p k
 | .ep k _ _ _ => p k
 | .os k _ => p k
 | .mp k => p k
 | .lag cs => noidL p cs
 | .tup cs => noidL p cs
 | .fn _ asv bs => noidL p asv && noidL p bs
 | .ifc _ x => noid p x
 | .any | .v _ | .fs _ _ _ | .fz | .fp _ | .agg _ | .fm _ _ => true
def noidL (p : Nat → Bool) : List AV → Bool
 | [] => true
 | x :: r => noid p x && noidL p r
end
abbrev allp : Nat → Bool := fun _ => true
abbrev low (n : Nat) : Nat → Bool := fun k => Nat.blt k n
mutual
theorem Zh : ∀ x : AV, noid allp x = true
 | .lp _ _ => rfl
 | .ep _ _ _ _ => rfl
 | .os _ _ => rfl
 | .mp _ => rfl
 | .lag cs => by simp only [noid]; exact ZZ cs
 | .tup cs => by simp only [noid]; exact ZZ cs
 | .fn _ asv bs => by simp only [noid, ZZ asv, ZZ bs]; rfl
 | .ifc _ x => by simp only [noid]; exact Zh x
 | .any => rfl
 | .v _ => rfl
 | .fs _ _ _ => rfl
 | .fz => rfl
 | .fp _ => rfl
 | .fm _ _ => rfl
 | .agg _ => rfl
theorem ZZ : ∀ x : List AV, noidL allp x = true
 | [] => rfl
 | x :: r => by simp only [noidL, Zh x, ZZ r]; rfl
end
theorem J1 {w w' : World} {b off : Nat} (h : w'.heap[b]? = w.heap[b]?) : w'.cell? ⟨b, off, none⟩ = w.cell? ⟨b, off, none⟩ :=
 World.cell?_of_block (w := w) (w' := w') (a := ⟨b, off, none⟩) h
section mono
variable {F F' : Nat → Prop} {w w' : World} (hF : ∀ b, F b → F' b) (hw : ∀ b, F b → w'.heap[b]? = w.heap[b]?)
include hF hw
mutual
theorem RF.mono : ∀ (x : AV) (y : Value), RF F w x y → RF F' w' x y
 | .any, _, _ => by simp only [RF]
 | .v x, y, h => by simpa only [RF] using h
 | .fs sz n es, y, h => by
  simp only [RF] at h ⊢
  obtain ⟨hl, a, cap, e, hn, h⟩ := h
  refine ⟨hl, a, cap, e, hn, fun hc => ?_⟩
  obtain ⟨b, off, e2, hb, hm⟩ := h hc
  exact ⟨b, off, e2, hF b hb, EF.mono sz es b off (hw b hb) hm⟩
 | .fz, y, h => by simpa only [RF] using h
 | .fp cs, y, h => by
  simp only [RF] at h ⊢
  obtain ⟨b, off, e, hb, hm⟩ := h
  exact ⟨b, off, e, hF b hb, MF.mono cs b off (hw b hb) hm⟩
 | .fm ks xs, y, h => by
  simp only [RF] at h ⊢
  obtain ⟨b, es, clock, e, hb, hh, hB, hm⟩ := h
  exact ⟨b, es, clock, e, hF b hb, (hw b hb).trans hh, hB, PF.mono ks xs _ hm⟩
 | .agg cs, y, h => by
  simp only [RF] at h ⊢
  obtain ⟨xs, e, h⟩ := h
  exact ⟨xs, e, LF.mono cs _ h⟩
 | .tup cs, y, h => by
  simp only [RF] at h ⊢
  obtain ⟨xs, e, h⟩ := h
  exact ⟨xs, e, TF.mono cs _ h⟩
 | .fn f asv bs, y, h => by
  simp only [RF] at h ⊢
  obtain ⟨xs, ys, e, h, h2⟩ := h
  exact ⟨xs, ys, e, TF.mono asv _ h, TF.mono bs _ h2⟩
 | .ifc t x, y, h => by
  simp only [RF] at h ⊢
  obtain ⟨u, e, h⟩ := h
  exact ⟨u, e, RF.mono x u h⟩
 | .lp _ _, _, h => by simp only [RF] at h
 | .ep _ _ _ _, _, h => by simp only [RF] at h
 | .os _ _, _, h => by simp only [RF] at h
 | .mp _, _, h => by simp only [RF] at h
 | .lag _, _, h => by simp only [RF] at h
theorem MF.mono : ∀ (cs : List AV) (b off : Nat), w'.heap[b]? = w.heap[b]? → MF F w cs b off → MF F' w' cs b off
 | [], _, _, _, _ => by simp only [MF]
 | x :: r, b, off, hb, h => by
  simp only [MF] at h ⊢
  obtain ⟨⟨u, hc, hx, h1⟩, h⟩ := h
  exact ⟨⟨u, (J1 hb).trans hc, RF.mono x u hx, h1⟩, MF.mono r b (off + 1) hb h⟩
theorem EF.mono (sz : Nat) : ∀ (es : List (List AV)) (b off : Nat), w'.heap[b]? = w.heap[b]? → EF F w sz es b off → EF F' w' sz es b off
 | [], _, _, _, _ => by simp only [EF]
 | e :: r, b, off, hb, h => by
  simp only [EF] at h ⊢
  exact ⟨h.1, MF.mono e b off hb h.2.1, EF.mono sz r b (off + sz) hb h.2.2⟩
theorem LF.mono : ∀ (cs : List AV) (ys : List Value), LF F w cs ys → LF F' w' cs ys
 | [], _, h => by simpa only [LF] using h
 | x :: r, ys, h => by
  simp only [LF] at h ⊢
  obtain ⟨y, s, e, hx, h1, h⟩ := h
  exact ⟨y, s, e, RF.mono x y hx, h1, LF.mono r s h⟩
theorem TF.mono : ∀ (cs : List AV) (ys : List Value), TF F w cs ys → TF F' w' cs ys
 | [], _, h => by simpa only [TF] using h
 | x :: r, ys, h => by
  simp only [TF] at h ⊢
  obtain ⟨y, s, e, hx, h⟩ := h
  exact ⟨y, s, e, RF.mono x y hx, TF.mono r s h⟩
theorem PF.mono : ∀ (ks : List Value) (xs : List AV) (es : List MapEntry), PF F w ks xs es → PF F' w' ks xs es
 | _, [], _, h => by simpa only [PF] using h
 | ks, x :: r, es, h => by
  simp only [PF] at h ⊢
  obtain ⟨k, kr, e, er, e1, e2, e3, hx, h⟩ := h
  exact ⟨k, kr, e, er, e1, e2, e3, RF.mono x _ hx, PF.mono kr r er h⟩
end
end mono
structure SubX (p : Nat → Bool) (c c' : Cx) : Prop where
 F : ∀ b, c.F b → c'.F b
 heap : ∀ b, c.F b → c'.w.heap[b]? = c.w.heap[b]?
 n : ∀ k, c.dom k → p k = true → c'.dom k
 ver : ∀ k, c.dom k → p k = true → c.ver k ≤ c'.ver k
 φ : ∀ k, c.dom k → p k = true → c'.ver k = c.ver k → c'.φ k = c.φ k
 sz : ∀ k, c.dom k → p k = true → c'.ver k = c.ver k → c'.sz k = c.sz k
 len : ∀ k, c.dom k → p k = true → c'.ver k = c.ver k → c'.len k = c.len k
 row : ∀ k b arr T, c.dom k → p k = true → c'.ver k = c.ver k → c.φ k = some b → c.w.heap[b]? = some (.cells arr T (0, 0)) → ∃ arr', c'.w.heap[b]? = some (.cells arr' T (0, 0)) ∧ arr'.size = arr.size
theorem SubX.refl (p : Nat → Bool) (c : Cx) : SubX p c c :=
 ⟨fun _ h => h, fun _ _ => rfl, fun _ h _ => h, fun _ _ _ => Nat.le_refl _, fun _ _ _ _ => rfl, fun _ _ _ _ => rfl, fun _ _ _ _ => rfl, fun _ _ arr _ _ _ _ _ h => ⟨arr, h, rfl⟩⟩
theorem SubX.weak {p q : Nat → Bool} {c c' : Cx} (h : SubX p c c') (hq : ∀ k, q k = true → p k = true) : SubX q c c' :=
 ⟨h.F, h.heap, fun k a b => h.n k a (hq k b), fun k a b => h.ver k a (hq k b), fun k a b => h.φ k a (hq k b), fun k a b => h.sz k a (hq k b), fun k a b => h.len k a (hq k b), fun k b arr T a e => h.row k b arr T a (hq k e)⟩
theorem SubX.all {q : Nat → Bool} {c c' : Cx} (h : SubX allp c c') : SubX q c c' := h.weak fun _ _ => rfl
theorem SubX.trans {p : Nat → Bool} {a b c : Cx} (h : SubX p a b) (g : SubX p b c) : SubX p a c := by
 have hv : ∀ k, a.dom k → p k = true → c.ver k = a.ver k → b.ver k = a.ver k ∧ c.ver k = b.ver k := fun k hk hp e => by
  have h1 := h.ver k hk hp
  have h2 := g.ver k (h.n k hk hp) hp
  omega
 refine ⟨fun x hx => g.F x (h.F x hx), fun x hx => (g.heap x (h.F x hx)).trans (h.heap x hx), fun k hk hp => g.n k (h.n k hk hp) hp,
  fun k hk hp => Nat.le_trans (h.ver k hk hp) (g.ver k (h.n k hk hp) hp), ?_, ?_, ?_, ?_⟩
 ·intro k hk hp e; obtain ⟨e1, e2⟩ := hv k hk hp e; exact (g.φ k (h.n k hk hp) hp e2).trans (h.φ k hk hp e1)
 ·intro k hk hp e; obtain ⟨e1, e2⟩ := hv k hk hp e; exact (g.sz k (h.n k hk hp) hp e2).trans (h.sz k hk hp e1)
 ·intro k hk hp e; obtain ⟨e1, e2⟩ := hv k hk hp e; exact (g.len k (h.n k hk hp) hp e2).trans (h.len k hk hp e1)
 ·intro k x arr T hk hp e hx hh
  obtain ⟨e1, e2⟩ := hv k hk hp e
  obtain ⟨arr1, q1, q2⟩ := h.row k x arr T hk hp e1 hx hh
  obtain ⟨arr2, q3, q4⟩ := g.row k x arr1 T (h.n k hk hp) hp e2 ((h.φ k hk hp e1).trans hx) q1
  exact ⟨arr2, q3, q4.trans q2⟩
section mono2
variable {p : Nat → Bool} {c c' : Cx} (hs : SubX p c c')
include hs
mutual
theorem R.mono : ∀ (x : AV) (y : Value), noid p x = true → R c x y → R c' x y
 | .any, _, _, _ => by simp only [R]
 | .v x, y, _, h => by simpa only [R] using h
 | .fs sz n es, y, _, h => by simp only [R] at h ⊢; exact RF.mono hs.F hs.heap _ _ h
 | .fz, y, _, h => by simpa only [R] using h
 | .fp cs, y, _, h => by simp only [R] at h ⊢; exact RF.mono hs.F hs.heap _ _ h
 | .fm ks xs, y, _, h => by simp only [R] at h ⊢; exact RF.mono hs.F hs.heap _ _ h
 | .agg cs, y, _, h => by simp only [R] at h ⊢; exact RF.mono hs.F hs.heap _ _ h
 | .lp k off, y, hk, h => by
  simp only [R] at h ⊢
  simp only [noid] at hk
  obtain ⟨hn, h1, h⟩ := h
  refine ⟨hs.n k hn hk, h1, fun hv => ?_⟩
  have h2 := hs.ver k hn hk
  have h3 : c.ver k = 0 := by omega
  obtain ⟨b, hb, e⟩ := h h3
  exact ⟨b, (hs.φ k hn hk (by omega)).trans hb, e⟩
 | .ep k v i o, y, hk, h => by
  simp only [R] at h ⊢
  simp only [noid] at hk
  obtain ⟨hn, h0, h1, h⟩ := h
  have h2 := hs.ver k hn hk
  refine ⟨hs.n k hn hk, by omega, h1, fun hv => ?_⟩
  have h3 : c.ver k = v := by omega
  obtain ⟨b, hb, e⟩ := h h3
  exact ⟨b, (hs.φ k hn hk (by omega)).trans hb, by rw [hs.sz k hn hk (by omega)]; exact e⟩
 | .os k v, y, hk, h => by
  simp only [R, OS] at h ⊢
  simp only [noid] at hk
  obtain ⟨hn, h0, h1, h⟩ := h
  have h2 := hs.ver k hn hk
  refine ⟨hs.n k hn hk, by omega, h1, fun hv => ?_⟩
  have h3 : c.ver k = v := by omega
  have h4 : c'.ver k = c.ver k := by omega
  rw [hs.len k hn hk h4, hs.sz k hn hk h4, hs.φ k hn hk h4]
  rcases h h3 with h | ⟨b, cap, arr, T, e1, e2, e3, e4, e5, e6⟩
  ·exact .inl h
  ·obtain ⟨arr', e7, e8⟩ := hs.row k b arr T hn hk h4 e1 e3
   exact .inr ⟨b, cap, arr', T, e1, e2, e7, e4, e5, e8.trans e6⟩
 | .mp k, y, hk, h => by
  simp only [R] at h ⊢
  simp only [noid] at hk
  obtain ⟨hn, h1, h⟩ := h
  refine ⟨hs.n k hn hk, h1, fun hv => ?_⟩
  have h2 := hs.ver k hn hk
  have h3 : c.ver k = 0 := by omega
  obtain ⟨b, hb, e⟩ := h h3
  exact ⟨b, (hs.φ k hn hk (by omega)).trans hb, e⟩
 | .lag cs, y, hk, h => by
  simp only [R] at h ⊢
  obtain ⟨xs, e, h⟩ := h
  exact ⟨xs, e, LR.mono cs _ (by simpa only [noid] using hk) h⟩
 | .tup cs, y, hk, h => by
  simp only [R] at h ⊢
  obtain ⟨xs, e, h⟩ := h
  exact ⟨xs, e, TR.mono cs _ (by simpa only [noid] using hk) h⟩
 | .fn f asv bs, y, hk, h => by
  simp only [R] at h ⊢
  obtain ⟨xs, ys, e, h, h2⟩ := h
  simp only [noid, Bool.and_eq_true] at hk
  exact ⟨xs, ys, e, TR.mono asv _ hk.1 h, TR.mono bs _ hk.2 h2⟩
 | .ifc t x, y, hk, h => by
  simp only [R] at h ⊢
  obtain ⟨u, e, h⟩ := h
  exact ⟨u, e, R.mono x u (by simpa only [noid] using hk) h⟩
theorem LR.mono : ∀ (cs : List AV) (ys : List Value), noidL p cs = true → LR c cs ys → LR c' cs ys
 | [], _, _, h => by simpa only [LR] using h
 | x :: r, ys, hk, h => by
  simp only [LR] at h ⊢
  simp only [noidL, Bool.and_eq_true] at hk
  obtain ⟨y, s, e, hx, h1, h⟩ := h
  exact ⟨y, s, e, R.mono x y hk.1 hx, h1, LR.mono r s hk.2 h⟩
theorem TR.mono : ∀ (cs : List AV) (ys : List Value), noidL p cs = true → TR c cs ys → TR c' cs ys
 | [], _, _, h => by simpa only [TR] using h
 | x :: r, ys, hk, h => by
  simp only [TR] at h ⊢
  simp only [noidL, Bool.and_eq_true] at hk
  obtain ⟨y, s, e, hx, h⟩ := h
  exact ⟨y, s, e, R.mono x y hk.1 hx, TR.mono r s hk.2 h⟩
end
end mono2
mutual
theorem R.of_RF (c : Cx) : ∀ (x : AV) (y : Value), RF c.F c.w x y → R c x y
 | .any, _, _ => by simp only [R]
 | .v x, y, h => by simpa only [RF, R] using h
 | .fs sz n es, y, h => by simpa only [R] using h
 | .fz, y, h => by simpa only [RF, R] using h
 | .fp cs, y, h => by simpa only [R] using h
 | .fm ks xs, y, h => by simpa only [R] using h
 | .agg cs, y, h => by simpa only [R] using h
 | .tup cs, y, h => by
  simp only [RF] at h; simp only [R]
  obtain ⟨xs, e, h⟩ := h
  exact ⟨xs, e, TR.of_TF c cs _ h⟩
 | .fn f asv bs, y, h => by
  simp only [RF] at h; simp only [R]
  obtain ⟨xs, ys, e, h, h2⟩ := h
  exact ⟨xs, ys, e, TR.of_TF c asv _ h, TR.of_TF c bs _ h2⟩
 | .ifc t x, y, h => by
  simp only [RF] at h; simp only [R]
  obtain ⟨u, e, h⟩ := h
  exact ⟨u, e, R.of_RF c x u h⟩
 | .lp _ _, _, h => by simp only [RF] at h
 | .ep _ _ _ _, _, h => by simp only [RF] at h
 | .os _ _, _, h => by simp only [RF] at h
 | .mp _, _, h => by simp only [RF] at h
 | .lag _, _, h => by simp only [RF] at h
theorem TR.of_TF (c : Cx) : ∀ (cs : List AV) (ys : List Value), TF c.F c.w cs ys → TR c cs ys
 | [], _, h => by simpa only [TF, TR] using h
 | x :: r, ys, h => by
  simp only [TF] at h; simp only [TR]
  obtain ⟨y, s, e, hx, h⟩ := h
  exact ⟨y, s, e, R.of_RF c x y hx, TR.of_TF c r s h⟩
end
structure Mv (U V : Nat → Prop) (w : World) (U' V' : Nat → Prop) (w' : World) : Prop where
 os : w'.os = w.os
 tape : w'.tape = w.tape
 output : w'.output = w.output
 size : w.heap.size ≤ w'.heap.size
 keep : ∀ b, b < w.heap.size → ¬ U b → w'.heap[b]? = w.heap[b]?
 newU : ∀ b, U' b → U b ∨ w.heap.size ≤ b
 newV : ∀ b, V' b → V b ∨ U b ∨ w.heap.size ≤ b
structure Env where
 J : Nat → (Nat → Prop) → (Nat → Prop) → (Nat → Prop) → World → Prop
 X : (Nat → Prop) → (Nat → Prop) → (Nat → Prop) → World → Prop
 sJ : ∀ {n U V E w U' V' w'}, Mv U V w U' V' w' → J n U V E w → J n U' V' E w'
 sX : ∀ {U V E w U' V' w'}, Mv U V w U' V' w' → X U V E w → X U' V' E w'
def Env.no : Env := ⟨fun _ _ _ _ _ => False, fun _ _ _ _ => False, fun _ h => h, fun _ h => h⟩
structure Glo where
 g : List (Nat × List AV)
 env : Env
 ro : Option Nat
abbrev Glo.of (g : List (Nat × List AV)) : Glo := ⟨g, .no, none⟩
inductive LB where
 | dead
 | box (cs : List AV)
 | row (cs : List AV)
 | own (v : Nat) (E : TypeId) (sz : Nat) (es : List (List AV))
 | map (ks : List Value) (xs : List AV)
 | mapb (m ck : Nat) (bs : List Nat) (ks : List Value) (xs : List AV)
 | obj (o : Obj)
 | pin
 | ghost (n : Nat)
 | gone
 deriving Inhabited
def MR (c : Cx) : List AV → Nat → Nat → Prop
 | [], _, _ => True
 | x :: r, b, off => (∃ u, c.w.cell? ⟨b, off, none⟩ = some u ∧ R c x u ∧ u.oneCell' = true) ∧ MR c r b (off + 1)
def BR (G : Glo) (c : Cx) (k : Nat) : LB → Prop
 | .dead => c.φ k = none
 | .box cs => c.ver k = 0 ∧ ∃ b arr T, c.φ k = some b ∧ c.w.heap[b]? = some (.cells arr T (0, 0)) ∧ cs.length ≤ arr.size ∧ MR c cs b 0
 | .row cs => c.ver k = 0 ∧ c.sz k = 1 ∧ c.len k = cs.length ∧ ∃ b arr T, c.φ k = some b ∧ c.w.heap[b]? = some (.cells arr T (0, 0)) ∧ cs.length ≤ arr.size ∧ MR c cs b 0
 | .own v E sz es => c.ver k = v ∧ c.sz k = sz ∧ c.len k = es.length ∧ ((c.φ k = none ∧ es = []) ∨
   ∃ b arr, c.φ k = some b ∧ c.w.heap[b]? = some (.cells arr E (0, 0)) ∧ es.length * sz ≤ arr.size ∧ EF c.F c.w sz es b 0)
 | .map ks xs => c.ver k = 0 ∧ ∃ b es clock, c.φ k = some b ∧ c.w.heap[b]? = some (.map es clock) ∧ Births clock es.toList ∧ PF c.F c.w ks xs es.toList
 | .mapb m ck bs ks xs => c.ver k = 0 ∧ c.φ k = some m ∧ ∃ es, c.w.heap[m]? = some (.map es ck) ∧ Births ck es.toList ∧ es.toList.map (·.born) = bs ∧ PF c.F c.w ks xs es.toList
 | .obj o => c.ver k = 0 ∧ ∃ b, c.φ k = some b ∧ c.w.heap[b]? = some o
 | .pin => c.φ k = none
 | .ghost n => c.φ k = none ∧ G.env.J n (rng c) c.F c.E c.w
 | .gone => c.φ k = none ∧ G.env.X (rng c) c.F c.E c.w
def noidB (p : Nat → Bool) : LB → Bool
 | .box cs => noidL p cs
 | .row cs => noidL p cs
 | _ => true
theorem zM (x : LB) : noidB allp x = true := by cases x <;> simp only [noidB] <;> exact ZZ _
theorem MR.mono {p : Nat → Bool} {c c' : Cx} (hs : SubX p c c') : ∀ (cs : List AV) (b off : Nat), noidL p cs = true → c'.w.heap[b]? = c.w.heap[b]? → MR c cs b off → MR c' cs b off
 | [], _, _, _, _, _ => by simp only [MR]
 | x :: r, b, off, hk, hb, h => by
  simp only [MR] at h ⊢
  simp only [noidL, Bool.and_eq_true] at hk
  obtain ⟨⟨u, hc, hx, h1⟩, h⟩ := h
  exact ⟨⟨u, (J1 hb).trans hc, R.mono hs x u hk.1 hx, h1⟩, MR.mono hs r b (off + 1) hk.2 hb h⟩
abbrev Calm (c c' : Cx) : Prop := Mv (rng c) c.F c.w (rng c') c'.F c'.w
structure Same (c c' : Cx) (k : Nat) : Prop where
 φ : c'.φ k = c.φ k
 ver : c'.ver k = c.ver k
 sz : c'.sz k = c.sz k
 len : c'.len k = c.len k
theorem BR.mono {G : Glo} {p : Nat → Bool} {c c' : Cx} (hs : SubX p c c') (hm : Calm c c') (hE : c'.E = c.E) {k : Nat} {x : LB} (hk : Same c c' k) (hid : noidB p x = true)
  (hb : ∀ b, c.φ k = some b → c'.w.heap[b]? = c.w.heap[b]?) (h : BR G c k x) : BR G c' k x := by
 cases x with
 | dead => simp only [BR] at h ⊢; exact hk.φ.trans h
 | pin => simp only [BR] at h ⊢; exact hk.φ.trans h
 | ghost n => simp only [BR] at h ⊢; rw [hE]; exact ⟨hk.φ.trans h.1, G.env.sJ hm h.2⟩
 | gone => simp only [BR] at h ⊢; rw [hE]; exact ⟨hk.φ.trans h.1, G.env.sX hm h.2⟩
 | box cs =>
  simp only [BR] at h ⊢
  obtain ⟨h0, b, arr, T, e1, e2, e3, e4⟩ := h
  exact ⟨hk.ver.trans h0, b, arr, T, hk.φ.trans e1, (hb b e1).trans e2, e3, MR.mono hs cs b 0 (by simpa only [noidB] using hid) (hb b e1) e4⟩
 | row cs =>
  simp only [BR] at h ⊢
  obtain ⟨h0, h1, h2, b, arr, T, e1, e2, e3, e4⟩ := h
  exact ⟨hk.ver.trans h0, hk.sz.trans h1, hk.len.trans h2, b, arr, T, hk.φ.trans e1, (hb b e1).trans e2, e3, MR.mono hs cs b 0 (by simpa only [noidB] using hid) (hb b e1) e4⟩
 | own v E sz es =>
  simp only [BR] at h ⊢
  obtain ⟨h0, h1, h2, h⟩ := h
  refine ⟨hk.ver.trans h0, hk.sz.trans h1, hk.len.trans h2, ?_⟩
  rcases h with ⟨e1, e2⟩ | ⟨b, arr, e1, e2, e3, e4⟩
  ·exact .inl ⟨hk.φ.trans e1, e2⟩
  ·exact .inr ⟨b, arr, hk.φ.trans e1, (hb b e1).trans e2, e3, EF.mono hs.F hs.heap sz es b 0 (hb b e1) e4⟩
 | map ks xs =>
  simp only [BR] at h ⊢
  obtain ⟨h0, b, es, clock, e1, e2, e3, e4⟩ := h
  exact ⟨hk.ver.trans h0, b, es, clock, hk.φ.trans e1, (hb b e1).trans e2, e3, PF.mono hs.F hs.heap _ _ _ e4⟩
 | mapb m ck bs ks xs =>
  simp only [BR] at h ⊢
  obtain ⟨h0, e1, es, e2, e3, e5, e4⟩ := h
  exact ⟨hk.ver.trans h0, hk.φ.trans e1, es, (hb m e1).trans e2, e3, e5, PF.mono hs.F hs.heap _ _ _ e4⟩
 | obj o =>
  simp only [BR] at h ⊢
  obtain ⟨h0, b, e1, e2⟩ := h
  exact ⟨hk.ver.trans h0, b, hk.φ.trans e1, (hb b e1).trans e2⟩
abbrev markOf (r : Nat) : Deferred := { target := .collected r, args := #[] }
def Exact (w : World) (n b : Nat) : Prop := ∃ arr T z, w.heap[b]? = some (.cells arr T z) ∧ arr.size = n
theorem Exact.keep {w w' : World} {n b : Nat} (h : w'.heap[b]? = w.heap[b]?) (e : Exact w n b) : Exact w' n b := by obtain ⟨a, T, z, h1, h2⟩ := e; exact ⟨a, T, z, h.trans h1, h2⟩
structure St (G : Glo) (c : Cx) (L : List LB) : Prop where
 n : ∀ k, c.dom k → k < L.length
 dm : ∀ k x, L[k]? = some x → x ≠ .dead → c.dom k
 inF : ∀ b, c.F b → b < c.w.heap.size
 loc : ∀ k b, c.φ k = some b → c.dom k ∧ ¬ c.F b ∧ b < c.w.heap.size
 inj : ∀ k k' b, c.φ k = some b → c.φ k' = some b → k = k'
 blk : ∀ k x, L[k]? = some x → BR G c k x
 glob : ∀ p ∈ G.g, c.F p.1 ∧ MF c.F c.w p.2 p.1 0 ∧ Exact c.w p.2.length p.1
 envd : ∀ b, c.E b → b < c.w.heap.size ∧ ¬ c.F b ∧ ∀ k, c.φ k ≠ some b
 mkd : c.mks.Nodup
 mkE : c.mks = [] ∨ G.env = .no
 mks : ∀ r ∈ c.mks, r < c.w.heap.size ∧ c.w.heap[r]? = some (.deferred (some [])) ∧ ¬ c.F r ∧ ¬ c.E r ∧ ∀ k, c.φ k ≠ some r
 pin : c.m = 0 ∨ L[c.m - 1]? = some .pin
structure Ext (c c' : Cx) : Prop where
 os : c'.w.os = c.w.os
 tape : c'.w.tape = c.w.tape
 output : c'.w.output = c.w.output
 size : c.w.heap.size ≤ c'.w.heap.size
 newF : ∀ b, c'.F b → c.F b ∨ rng c b ∨ c.w.heap.size ≤ b
 newφ : ∀ b, rng c' b → rng c b ∨ c.w.heap.size ≤ b
 newE : ∀ b, c'.E b → c.E b ∨ c.w.heap.size ≤ b
 newK : ∀ r ∈ c'.mks, r ∈ c.mks ∨ c.w.heap.size ≤ r
 keep : ∀ b, b < c.w.heap.size → ¬ c.E b → ¬ rng c b → c'.w.heap[b]? = c.w.heap[b]?
 m : c'.m = c.m
 pin : SubX (low c.m) c c'
theorem Ext.F {c c' : Cx} (h : Ext c c') : ∀ b, c.F b → c'.F b := h.pin.F
theorem Ext.refl (c : Cx) : Ext c c :=
 ⟨rfl, rfl, rfl, Nat.le_refl _, fun _ h => .inl h, fun _ h => .inl h, fun _ h => .inl h, fun _ h => .inl h, fun _ _ _ _ => rfl, rfl, SubX.refl _ _⟩
theorem Ext.trans {a b c : Cx} (h : Ext a b) (g : Ext b c) : Ext a c := by
 have g' := g.pin
 rw [h.m] at g'
 refine ⟨g.os.trans h.os, g.tape.trans h.tape, g.output.trans h.output, Nat.le_trans h.size g.size, ?_, ?_, ?_, ?_, ?_, g.m.trans h.m, h.pin.trans g'⟩
 ·intro x hx
  rcases g.newF x hx with h1 | h1 | h1
  ·exact h.newF x h1
  ·rcases h.newφ x h1 with h2 | h2
   ·exact .inr (.inl h2)
   ·exact .inr (.inr h2)
  ·exact .inr (.inr (Nat.le_trans h.size h1))
 ·intro x hx
  rcases g.newφ x hx with h1 | h1
  ·exact h.newφ x h1
  ·exact .inr (Nat.le_trans h.size h1)
 ·intro x hx
  rcases g.newE x hx with h1 | h1
  ·exact h.newE x h1
  ·exact .inr (Nat.le_trans h.size h1)
 ·intro x hx
  rcases g.newK x hx with h1 | h1
  ·exact h.newK x h1
  ·exact .inr (Nat.le_trans h.size h1)
 ·intro x hx hE hk
  rw [g.keep x (Nat.lt_of_lt_of_le hx h.size) (fun hE' => (h.newE x hE').elim hE (fun q => by omega)) (fun hk' => (h.newφ x hk').elim hk (fun q => by omega)), h.keep x hx hE hk]
theorem Calm.ext {c c' : Cx} (h : Calm c c') (hE : c'.E = c.E) (hmk : c'.mks = c.mks) (hm : c'.m = c.m) (hs : SubX (low c.m) c c') : Ext c c' :=
 ⟨h.os, h.tape, h.output, h.size, h.newV, h.newU, fun b hb => .inl (hE ▸ hb), fun r hr => .inl (hmk ▸ hr), fun b hb _ hk => h.keep b hb hk, hm, hs⟩
abbrev SL := List (Nat × AV)
def get : SL → Nat → Option AV
 | [], _ => none
 | (d, x) :: S, t => bif Nat.beq d t then some x else get S t
def SR (c : Cx) (S : SL) (tmps : Array Value) : Prop := ∀ t x, get S t = some x → R c x (tmps.getD t undef)
theorem ZT (d t : Nat) (x : AV) (S : SL) : get ((d, x) :: S) t = if d = t then some x else get S t := by
 simp only [get]
 by_cases h : d = t
 ·subst h; simp
 ·have : Nat.beq d t = false := by
   cases hb : Nat.beq d t with
   | false => rfl
   | true => exact absurd (Nat.eq_of_beq_eq_true hb) h
  simp [this, h]
theorem SR.put {c' : Cx} {S' : SL} {a : Act} {d : Nat} {x : AV} {y : Value} (h : SR c' S' a.tmps) (hd : d < a.tmps.size) (hx : R c' x y) :
  SR c' ((d, x) :: S') (a.put (some d) y).tmps := by
 intro t z hz
 rw [ZT] at hz
 simp only [Act.put, Array.getD_eq_getD_getElem?, Array.getElem?_setIfInBounds] at *
 by_cases e : d = t
 ·subst e
  simp only [if_true, Option.some.injEq] at hz
  subst hz
  simp [hd, hx]
 ·rw [if_neg e] at hz
  have := h t z hz
  simpa [e, Array.getD_eq_getD_getElem?] using this
structure Cn (G : Glo) (N : Nat) (S : SL) (L : List LB) (c : Cx) (a : Act) : Prop where
 st : St G c L
 de : a.defers = c.mks.map markOf
 sz : a.tmps.size = N
 sr : SR c S a.tmps
abbrev AQ := Exit → SL → List LB → Prop
def conc (G : Glo) (N : Nat) (Q : AQ) (c : Cx) : Exit → Act → World → Prop :=
 fun e a' w' => ∃ S' L' c', Q e S' L' ∧ Cn G N S' L' c' a' ∧ Ext c c' ∧ c'.w = w'
abbrev wf (ro : Option Nat) : Fence := { fn := fun _ => True, depth := none, alive := false, round := ro }
def awp (P : Program) (G : Glo) (N : Nat) (c : Code) (Q : AQ) (S : SL) (L : List LB) : Prop :=
 ∀ (cx : Cx) (a : Act), Cn G N S L cx a → c.wpIn (wf G.ro) 0 P (conc G N Q cx) a cx.w
def awpL (P : Program) (G : Glo) (N : Nat) (ops : Array Oper) (l : List Oper) (Q : AQ) (S : SL) (L : List LB) : Prop :=
 ∀ (cx : Cx) (a : Act), Cn G N S L cx a → wpListIn (wf G.ro) 0 P ops (conc G N Q cx) l a cx.w
theorem conc.trans {G : Glo} {N : Nat} {Q : AQ} {c c' : Cx} (h : Ext c c') {e : Exit} {a : Act} {w : World} (q : conc G N Q c' e a w) : conc G N Q c e a w := by
 obtain ⟨S', L', c2, hq, hc, he, hw⟩ := q
 exact ⟨S', L', c2, hq, hc, h.trans he, hw⟩
def thenQ (next : SL → List LB → Prop) (Q : AQ) : AQ
 | .normal, S, L => next S L
 | e, S, L => Q e S L
def blockQ (id : Nat) (Q : AQ) : AQ
 | .exit id', S, L => if id' = id then Q .normal S L else Q (.exit id') S L
 | e, S, L => Q e S L
section rules
variable {P : Program} {G : Glo} {N : Nat} {Q : AQ} {S : SL} {L : List LB}
theorem Qb {c : Code} {Q' : AQ} (hq : ∀ e S L, Q e S L → Q' e S L) (h : awp P G N c Q S L) : awp P G N c Q' S L :=
 fun cx a hc => Code.wpIn_mono (fun e a w ⟨S', L', c', q, r⟩ => ⟨S', L', c', hq _ _ _ q, r⟩) (h cx a hc)
theorem conc_then {x : Exit → SL → List LB → Prop} {y : Code} {cx : Cx} (e : Exit) (a : Act) (w : World)
  (h : conc G N (thenQ (fun S L => awp P G N y Q S L) Q) cx e a w) : Exit.then (y.wpIn (wf G.ro) 0 P (conc G N Q cx)) (conc G N Q cx) e a w := by
 obtain ⟨S', L', c', q, r, ex, hw⟩ := h
 cases e with
 | normal =>
  subst hw
  exact Code.wpIn_mono (fun e a w q => q.trans ex) (q c' a r)
 | exit id => exact ⟨S', L', c', q, r, ex, hw⟩
 | goto l => exact ⟨S', L', c', q, r, ex, hw⟩
 | ret => exact ⟨S', L', c', q, r, ex, hw⟩
 | panic ch => exact ⟨S', L', c', q, r, ex, hw⟩
 | outgrown => exact ⟨S', L', c', q, r, ex, hw⟩
theorem WP {x y : Code} (h : awp P G N x (thenQ (fun S L => awp P G N y Q S L) Q) S L) : awp P G N (.seq x y) Q S L :=
 fun cx a hc => wpIn_seq (Code.wpIn_mono (conc_then (x := Q)) (h cx a hc))
theorem here {cx : Cx} {a : Act} {e : Exit} (hc : Cn G N S L cx a) (h : Q e S L) : conc G N Q cx e a cx.w :=
 ⟨S, L, cx, h, hc, Ext.refl _, rfl⟩
theorem J6 (h : Q .normal S L) : awp P G N .skip Q S L := fun _ _ hc => wpIn_skip (here hc h)
theorem J9 {id : Nat} (h : Q (.exit id) S L) : awp P G N (.exit id) Q S L := fun _ _ hc => wpIn_exit (here hc h)
theorem J7 (h : Q .ret S L) : awp P G N .ret Q S L := fun _ _ hc => wpIn_ret (here hc h)
theorem Ja {id : Nat} {c : Code} (h : awp P G N c (blockQ id Q) S L) : awp P G N (.block id c) Q S L := by
 refine fun cx a hc => wpIn_block (Code.wpIn_mono ?_ (h cx a hc))
 rintro e a w ⟨S', L', c', q, r⟩
 cases e with
 | exit id' =>
  simp only [blockQ, Exit.inBlock] at q ⊢
  split at q
  ·rename_i he; rw [if_pos he]; exact ⟨S', L', c', q, r⟩
  ·rename_i he; rw [if_neg he]; exact ⟨S', L', c', q, r⟩
 | normal => exact ⟨S', L', c', q, r⟩
 | goto l => exact ⟨S', L', c', q, r⟩
 | ret => exact ⟨S', L', c', q, r⟩
 | panic ch => exact ⟨S', L', c', q, r⟩
 | outgrown => exact ⟨S', L', c', q, r⟩
theorem ze {t : Nat} {x y : Code} {b : Bool} (hg : get S t = some (.v (.bool b))) (ht : b = true → awp P G N x Q S L) (hf : b = false → awp P G N y Q S L) :
  awp P G N (.cond (.tmp t) x y) Q S L := by
 intro cx a hc
 have hv := hc.sr t _ hg
 simp only [R] at hv
 exact wpIn_cond_split (t := b) hv (fun e => ht e cx a hc) (fun e => hf e cx a hc)
theorem QX {id : Nat} {l : List Oper} (h : awpL P G N l.toArray l Q S L) : awp P G N (.region id l.toArray false) Q S L :=
 fun cx a hc => wpIn_region_lit (h cx a hc)
theorem wc {ops : Array Oper} (h : Q .normal S L) : awpL P G N ops [] Q S L := fun _ _ hc => wpListIn_nil (here hc h)
inductive Keep (p : Nat → Bool) (S : SL) : SL → Prop
 | nil : Keep p S []
 | cons {t : Nat} {x : AV} {S' : SL} : get S t = some x → noid p x = true → Keep p S S' → Keep p S ((t, x) :: S')
end rules
end
section
inductive TK where
 | int (k : IntKind)
 | bool
 | str
 | slice (e : TypeId)
 | ptr (e : TypeId)
 | struct (fs : List (TypeId × Nat))
 | arr (n : Nat) (e : TypeId)
 | map (k e : TypeId)
 | iface
 | other
structure TD where
 k : TK
 size : Nat
 bytes : Nat
 zero : List Value
abbrev TDs := List (Nat × TD)
def lk : TDs → Nat → Option TD
 | [], _ => none
 | (d, x) :: S, t => bif Nat.beq d t then some x else lk S t
def tk : TypeDesc → TK
 | .int k => .int k
 | .bool => .bool
 | .string => .str
 | .slice e => .slice e
 | .pointer e => .ptr e
 | .struct fs => .struct (fs.toList.map fun f => (f.type, f.offset))
 | .array n e => .arr n e
 | .map k e => .map k e
 | .interface _ => .iface
 | _ => .other
def TK.row : TK → Bool
 | .struct _ | .arr _ _ => true
 | _ => false
def tdOf (P : Program) (t : Nat) : Option TD :=
 match P.info? t, P.underlying t with
 | some i, some u => match i.zero with
  | some z => some ⟨tk u, i.size, i.bytes, z.cells.toList⟩
  | none => none
 | _, _ => none
def tdsOf (P : Program) (ts : List Nat) : TDs := ts.filterMap fun t => (tdOf P t).map (t, ·)
class TOK (P : Program) (td : outParam TDs) : Prop where
 ok : ∀ t d, lk td t = some d → tdOf P t = some d
theorem lk_tdsOf (P : Program) (ts : List Nat) : ∀ t d, lk (tdsOf P ts) t = some d → tdOf P t = some d := by
 induction ts with
 | nil => intro t d h; simp [tdsOf, lk] at h
 | cons a r ih =>
  intro t d h
  simp only [tdsOf, List.filterMap_cons] at h
  cases ha : tdOf P a with
  | none => rw [ha] at h; exact ih t d h
  | some x =>
   rw [ha] at h
   simp only [Option.map_some, lk] at h
   cases hb : Nat.beq a t with
   | false => rw [hb] at h; exact ih t d h
   | true =>
    rw [hb] at h
    simp only [cond_true, Option.some.injEq] at h
    have := Nat.eq_of_beq_eq_true hb
    subst this h; exact ha
theorem TOK.mk' {P : Program} {td : TDs} (ts : List Nat) (h : tdsOf P ts = td) : TOK P td := ⟨fun t d => by rw [← h]; exact lk_tdsOf P ts t d⟩
theorem tdOf_parts {P : Program} {t : Nat} {d : TD} (h : tdOf P t = some d) :
  ∃ i u z, P.info? t = some i ∧ P.underlying t = some u ∧ i.zero = some z ∧ tk u = d.k ∧ i.size = d.size ∧ i.bytes = d.bytes ∧ z.cells.toList = d.zero := by
 unfold tdOf at h
 split at h
 ·rename_i i u hi hu
  cases hz : i.zero with
  | none => simp [hz] at h
  | some z =>
   simp only [hz, Option.some.injEq] at h
   subst h
   exact ⟨i, u, z, hi, hu, hz, rfl, rfl, rfl, rfl⟩
 ·cases h
def getG : List (Nat × List AV) → Nat → Option AV
 | [], _ => none
 | (d, x) :: S, t => bif Nat.beq d t then some (.fp x) else getG S t
def val (G : Glo) (S : SL) : Operand → Option AV
 | .tmp t => get S t
 | .const c => some (.v c)
 | .global g => getG G.g g
 | .func f => some (.fn f [] [])
theorem getG_mem {G : List (Nat × List AV)} {g : Nat} {x : AV} (h : getG G g = some x) : ∃ cs, (g, cs) ∈ G ∧ x = .fp cs := by
 induction G with
 | nil => simp [getG] at h
 | cons p r ih =>
  obtain ⟨d, cs⟩ := p
  simp only [getG] at h
  cases hb : Nat.beq d g with
  | false => rw [hb] at h; obtain ⟨cs', h1, h2⟩ := ih h; exact ⟨cs', List.mem_cons_of_mem _ h1, h2⟩
  | true =>
   rw [hb] at h
   simp only [cond_true, Option.some.injEq] at h
   have := Nat.eq_of_beq_eq_true hb
   subst this h; exact ⟨cs, List.mem_cons_self .., rfl⟩
theorem zn {G : Glo} {N : Nat} {S : SL} {L : List LB} {cx : Cx} {a : Act} (hc : Cn G N S L cx a) {o : Operand} {x : AV} (h : val G S o = some x) :
  R cx x (a.eval o) := by
 cases o with
 | tmp t => exact hc.sr t x h
 | const c => simp only [val, Option.some.injEq] at h; subst h; simp only [R, Act.eval]
 | global g =>
  simp only [val] at h
  obtain ⟨cs, hm, rfl⟩ := getG_mem h
  obtain ⟨h1, h2, _⟩ := hc.st.glob _ hm
  simp only [R, RF, Act.eval]
  exact ⟨g, 0, rfl, h1, h2⟩
 | func f =>
  simp only [val, Option.some.injEq] at h; subst h
  simp only [R, Act.eval, TR]
  exact ⟨#[], #[], rfl, rfl, rfl⟩
def Ev (P : Program) (G : Glo) (N : Nat) (op : Op) (ty : TypeId) (S : SL) (L : List LB) (x : AV) : Prop :=
 ∀ o : Oper, o.op = op → o.type = ty → ∀ (cx : Cx) (a : Act), Cn G N S L cx a → ∃ y, (execOp a.eval o).run P cx.w = .ok (.value y) cx.w ∧ R cx x y
section
variable {P : Program} {G : Glo} {N : Nat} {Q : AQ} {S : SL} {L : List LB} {ops : Array Oper} {rest : List Oper}
 {op : Op} {ty : TypeId} {pos : String} {af : Array Edge} {d : Nat} {x : AV}
def nd : Op → Bool
 | .defer _ => false
 | _ => true
theorem semAt_nd {ro : Option Nat} {ρ : Operand → Value} {o : Oper} (h : nd o.op = true) : o.semAt ro ρ = execOp ρ o := by
 cases ro with
 | none => rfl
 | some l => exact Oper.semAt_some l ρ o fun c e => by rw [e] at h; cases h
theorem zy {ro : Option Nat} {o : Oper} {a : Act} {w : World} {K : Act → World → Prop} {Q : Exit → Act → World → Prop} (hnd : nd o.op = true)
  (h : o.uponIn (wf ro) 0 P a K Q ((execOp a.eval o).run P w)) : o.wpIn (wf ro) 0 P a w K Q := ⟨fun _ _ => trivial, by rw [show (wf ro).round = ro from rfl, semAt_nd hnd]; exact h⟩
theorem zb (h : Ev P G N op ty S L x) (hd : Nat.blt d N = true) (k : awpL P G N ops rest Q ((d, x) :: S) L) (hnd : nd op = true := by rfl) :
  awpL P G N ops (⟨some d, op, ty, pos, af, none⟩ :: rest) Q S L := by
 intro cx a hc
 obtain ⟨y, hr, hx⟩ := h ⟨some d, op, ty, pos, af, none⟩ rfl rfl cx a hc
 refine wpListIn_plain rfl fun K hK => zy hnd ?_
 rw [hr, Oper.uponIn_value]
 refine hK _ _ (k cx _ ⟨hc.st, hc.de, by simpa [Act.put] using hc.sz, ?_⟩)
 exact SR.put hc.sr (by rw [hc.sz]; exact Nat.le_of_ble_eq_true hd) hx
theorem wF {t : Nat} {v : Value} {cx : Cx} {a : Act} (hc : Cn G N S L cx a) (hg : get S t = some (.v v)) (ht : Nat.blt t N = true) : a.tmps[t]? = some v := by
 have hv := hc.sr t _ hg
 simp only [R] at hv
 have htt : t < a.tmps.size := by rw [hc.sz]; exact Nat.le_of_ble_eq_true ht
 rw [Array.getD_eq_getD_getElem?, Array.getElem?_eq_getElem htt] at hv
 rw [Array.getElem?_eq_getElem htt]
 simpa using hv
theorem wb {dst : Option Tmp} {j t : Nat} {want b : Bool} (hj : (ops.toList[j]?).bind (·.dst) = some t) (hg : get S t = some (.v (.bool b))) (ht : Nat.blt t N = true) (hb : b = want)
  (k : awpL P G N ops (⟨dst, op, ty, pos, af, none⟩ :: rest) Q S L) : awpL P G N ops (⟨dst, op, ty, pos, af, some (j, want)⟩ :: rest) Q S L := by
 subst hb
 intro cx a hc
 have hv' := wF hc hg ht
 have hw : Region.wanted ⟨dst, op, ty, pos, af, some (j, b)⟩ (yielded ops a.tmps) = true := by
  simp only [Region.wanted, yielded]
  rw [show (ops[j]?).bind (·.dst) = some t by simpa using hj]
  simp [hv']
 have := k cx a hc
 simp only [wpListIn, Region.wanted, if_true] at this
 simp only [wpListIn, hw, if_true]
 exact this
theorem awpL_pass {j t : Nat} {want b : Bool} (hj : (ops.toList[j]?).bind (·.dst) = some t) (hg : get S t = some (.v (.bool b))) (ht : Nat.blt t N = true) (hd : Nat.blt d N = true) (hb : b = !want)
  (k : awpL P G N ops rest Q ((d, .v undef) :: S) L) : awpL P G N ops (⟨some d, op, ty, pos, af, some (j, want)⟩ :: rest) Q S L := by
 subst hb
 intro cx a hc
 have hv' := wF hc hg ht
 have hw : Region.wanted ⟨some d, op, ty, pos, af, some (j, want)⟩ (yielded ops a.tmps) = false := by
  simp only [Region.wanted, yielded]
  rw [show (ops[j]?).bind (·.dst) = some t by simpa using hj]
  cases want <;> simp [hv']
 simp only [wpListIn, hw]
 refine ⟨fun _ _ => trivial, k cx _ ⟨hc.st, hc.de, by simpa [Act.put] using hc.sz, ?_⟩⟩
 exact SR.put hc.sr (by rw [hc.sz]; exact Nat.le_of_ble_eq_true hd) (by simp only [R])
theorem Q1 {j t : Nat} {want : Bool} (hj : (ops.toList[j]?).bind (·.dst) = some t) (hg : get S t = some (.v undef)) (ht : Nat.blt t N = true) (hd : Nat.blt d N = true)
  (k : awpL P G N ops rest Q ((d, .v undef) :: S) L) : awpL P G N ops (⟨some d, op, ty, pos, af, some (j, want)⟩ :: rest) Q S L := by
 intro cx a hc
 have hv' := wF hc hg ht
 have hw : Region.wanted ⟨some d, op, ty, pos, af, some (j, want)⟩ (yielded ops a.tmps) = false := by
  simp only [Region.wanted, yielded]
  rw [show (ops[j]?).bind (·.dst) = some t by simpa using hj]
  simp [hv', undef]
 simp only [wpListIn, hw]
 refine ⟨fun _ _ => trivial, k cx _ ⟨hc.st, hc.de, by simpa [Act.put] using hc.sz, ?_⟩⟩
 exact SR.put hc.sr (by rw [hc.sz]; exact Nat.le_of_ble_eq_true hd) (by simp only [R])
theorem Ql {o : Operand} (h : val G S o = some x) : Ev P G N (.move o) ty S L x := by
 intro q hq _ cx a hc
 exact ⟨a.eval o, by simp only [execOp, hq, Sem.run_pure], zn hc h⟩
theorem Z8 {o : Operand} (h : val G S o = some x) : Ev P G N (.assign o) ty S L x := by
 intro q hq _ cx a hc
 exact ⟨a.eval o, by simp only [execOp, hq, Sem.run_pure], zn hc h⟩
theorem Z0 {c u e : Operand} {b : Bool} (hc' : val G S c = some (.v (.bool b))) (hb : b = true) (h : val G S u = some x) : Ev P G N (.pick c u e) ty S L x := by
 intro q hq _ cx a hc
 subst hb
 have hv := zn hc hc'
 simp only [R] at hv
 exact ⟨a.eval u, by simp [execOp, hq, hv, asBool], zn hc h⟩
theorem Z1 {c u e : Operand} {b : Bool} (hc' : val G S c = some (.v (.bool b))) (hb : b = false) (h : val G S e = some x) : Ev P G N (.pick c u e) ty S L x := by
 intro q hq _ cx a hc
 subst hb
 have hv := zn hc hc'
 simp only [R] at hv
 exact ⟨a.eval e, by simp [execOp, hq, hv, asBool], zn hc h⟩
def binv : BinOp → Value → Value → Option Value
 | .add, .int .i64 a, .int .i64 b => some (.int .i64 (IntKind.i64.wrap (a + b)))
 | .sub, .int .i64 a, .int .i64 b => some (.int .i64 (IntKind.i64.wrap (a - b)))
 | .mul, .int .i64 a, .int .i64 b => some (.int .i64 (IntKind.i64.wrap (a * b)))
 | .eql, .int .i64 a, .int .i64 b => some (.bool (decide (a = b)))
 | .neq, .int .i64 a, .int .i64 b => some (.bool (!decide (a = b)))
 | .lss, .int .i64 a, .int .i64 b => some (.bool (decide (a < b)))
 | .leq, .int .i64 a, .int .i64 b => some (.bool (decide (a ≤ b)))
 | .gtr, .int .i64 a, .int .i64 b => some (.bool (decide (b < a)))
 | .geq, .int .i64 a, .int .i64 b => some (.bool (decide (b ≤ a)))
 | .eql, .int .u8 a, .int .u8 b => some (.bool (decide (a = b)))
 | .neq, .int .u8 a, .int .u8 b => some (.bool (!decide (a = b)))
 | .lss, .int .u8 a, .int .u8 b => some (.bool (decide (a < b)))
 | .leq, .int .u8 a, .int .u8 b => some (.bool (decide (a ≤ b)))
 | .gtr, .int .u8 a, .int .u8 b => some (.bool (decide (b < a)))
 | .geq, .int .u8 a, .int .u8 b => some (.bool (decide (b ≤ a)))
 | .eql, .string a, .string b => some (.bool (decide (a = b)))
 | .neq, .string a, .string b => some (.bool (!decide (a = b)))
 | _, _, _ => none
theorem j9 (a b : ByteArray) : (a.toList == b.toList) = decide (a = b) := by
 rw [← beq_toListBytes]
 cases a with | mk x => cases b with | mk y =>
 show (x == y) = _
 by_cases h : x = y
 ·subst h; simp
 ·have h2 : ¬ (ByteArray.mk x = ByteArray.mk y) := fun e => h (by injection e)
  simp [h, h2]
theorem qZ {bo : BinOp} {xt yt : TypeId} {u e : Operand} {p q r : Value} (h1 : val G S u = some (.v p)) (h2 : val G S e = some (.v q)) (hr : binv bo p q = some r) :
  Ev P G N (.binOp bo xt u e yt) ty S L (.v r) := by
 intro o ho _ cx a hc
 have e1 := zn hc h1
 have e2 := zn hc h2
 simp only [R] at e1 e2
 refine ⟨r, ?_, by simp only [R]⟩
 simp only [execOp, ho, e1, e2]
 unfold binv at hr
 split at hr <;> simp only [Option.some.injEq, reduceCtorEq] at hr <;> subst hr <;>
  simp [eqGuard, binOp, Op.intArith, Op.intCmp, Op.stringOp, j9] <;> (first | rfl | skip)
theorem Z9 {n : Int} (h1 : -9223372036854775808 ≤ n) (h2 : n ≤ 9223372036854775807) : IntKind.i64.wrap n = n := by
 rw [IntKind.wrap_i64]; omega
theorem QU {xt yt : TypeId} {u e : Operand} {p q : Int} (h1 : val G S u = some (.v (.int .i64 p))) (h2 : val G S e = some (.v (.int .i64 q)))
  (hr : -9223372036854775808 ≤ p + q ∧ p + q ≤ 9223372036854775807) : Ev P G N (.binOp .add xt u e yt) ty S L (.v (.int .i64 (p + q))) := by
 have := qZ (P := P) (N := N) (L := L) (ty := ty) (xt := xt) (yt := yt) (bo := .add) h1 h2 rfl
 rwa [Z9 hr.1 hr.2] at this
theorem QT {xt yt : TypeId} {u e : Operand} {p q : Int} (h1 : val G S u = some (.v (.int .i64 p))) (h2 : val G S e = some (.v (.int .i64 q)))
  (hr : -9223372036854775808 ≤ p - q ∧ p - q ≤ 9223372036854775807) : Ev P G N (.binOp .sub xt u e yt) ty S L (.v (.int .i64 (p - q))) := by
 have := qZ (P := P) (N := N) (L := L) (ty := ty) (xt := xt) (yt := yt) (bo := .sub) h1 h2 rfl
 rwa [Z9 hr.1 hr.2] at this
theorem qg {xt yt : TypeId} {u e : Operand} {p q : Int} (h1 : val G S u = some (.v (.int .i64 p))) (h2 : val G S e = some (.v (.int .i64 q)))
  (hr : -9223372036854775808 ≤ p * q ∧ p * q ≤ 9223372036854775807) : Ev P G N (.binOp .mul xt u e yt) ty S L (.v (.int .i64 (p * q))) := by
 have := qZ (P := P) (N := N) (L := L) (ty := ty) (xt := xt) (yt := yt) (bo := .mul) h1 h2 rfl
 rwa [Z9 hr.1 hr.2] at this
theorem jv {xt : TypeId} {u : Operand} {b : Bool} (h1 : val G S u = some (.v (.bool b))) : Ev P G N (.unOp .not xt u) ty S L (.v (.bool !b)) := by
 intro o ho _ cx a hc
 have e1 := zn hc h1
 simp only [R] at e1
 refine ⟨.bool !b, ?_, by simp only [R]⟩
 simp only [execOp, ho, e1]
 simp [Op.unary]
theorem ev_neg {xt : TypeId} {u : Operand} {n : Int} (h1 : val G S u = some (.v (.int .i64 n))) (hr : -9223372036854775807 ≤ n ∧ n ≤ 9223372036854775807) : Ev P G N (.unOp .neg xt u) ty S L (.v (.int .i64 (-n))) := by
 intro o ho _ cx a hc
 have e1 := zn hc h1
 simp only [R] at e1
 refine ⟨.int .i64 (-n), ?_, by simp only [R]⟩
 simp only [execOp, ho, e1]
 simp [Op.unary, Op.intArith]
 exact Z9 (by omega) (by omega)
theorem TR.get {c : Cx} : ∀ {cs : List AV} {ys : List Value} {i : Nat} {x : AV}, TR c cs ys → cs[i]? = some x → ∃ y, ys[i]? = some y ∧ R c x y
 | [], _, i, x, _, h => by simp at h
 | x0 :: r, ys, i, x, h, hi => by
  simp only [TR] at h
  obtain ⟨y, s, rfl, hx, hr⟩ := h
  cases i with
  | zero => simp at hi; subst hi; exact ⟨y, rfl, hx⟩
  | succ i => obtain ⟨y', h1, h2⟩ := TR.get hr (by simpa using hi); exact ⟨y', by simpa using h1, h2⟩
theorem ZL {u : Operand} {i : Nat} {xs : List AV} (h1 : val G S u = some (.tup xs)) (hi : xs[i]? = some x) : Ev P G N (.extract u i) ty S L x := by
 intro o ho _ cx a hc
 have e1 := zn hc h1
 simp only [R] at e1
 obtain ⟨ys, e1, ht⟩ := e1
 obtain ⟨y, hy, hx⟩ := ht.get hi
 refine ⟨y, ?_, hx⟩
 simp only [Array.getElem?_toList] at hy
 simp only [execOp, ho, e1, Instr.extract]
 simp [hy]
theorem MF.get {F : Nat → Prop} {w : World} : ∀ {cs : List AV} {b off i : Nat} {x : AV}, MF F w cs b off → cs[i]? = some x →
  ∃ u, w.cell? ⟨b, off + i, none⟩ = some u ∧ RF F w x u ∧ u.oneCell' = true
 | [], _, _, i, x, _, h => by simp at h
 | x0 :: r, b, off, i, x, h, hi => by
  simp only [MF] at h
  cases i with
  | zero => simp at hi; subst hi; exact h.1
  | succ i => have := MF.get h.2 (i := i) (by simpa using hi); rwa [show off + 1 + i = off + (i + 1) by omega] at this
theorem MF.drop {F : Nat → Prop} {w : World} : ∀ {cs : List AV} {b off : Nat} (k : Nat), MF F w cs b off → MF F w (cs.drop k) b (off + k)
 | cs, _, _, 0, h => by simpa using h
 | [], _, _, k + 1, _ => by simp only [List.drop_nil, MF]
 | x :: r, b, off, k + 1, h => by
  simp only [MF] at h
  have := MF.drop k h.2
  simp only [List.drop_succ_cons]
  rwa [show off + 1 + k = off + (k + 1) by omega] at this
theorem MF.take {F : Nat → Prop} {w : World} : ∀ {cs : List AV} {b off : Nat} (k : Nat), MF F w cs b off → MF F w (cs.take k) b off
 | _, _, _, 0, _ => by simp only [List.take_zero, MF]
 | [], _, _, k + 1, _ => by simp only [List.take_nil, MF]
 | x :: r, b, off, k + 1, h => by
  simp only [MF] at h
  simp only [List.take_succ_cons, MF]
  exact ⟨h.1, MF.take k h.2⟩
theorem MF.vals {F : Nat → Prop} {w : World} : ∀ {cs : List AV} {b off : Nat}, MF F w cs b off → ∃ xs : List Value, xs.length = cs.length ∧ LF F w cs xs ∧ w.rangeAt b off xs ∧ ∀ u ∈ xs, u.oneCell' = true
 | [], _, _, _ => ⟨[], rfl, by simp only [LF], fun j v h => by simp at h, fun u h => by simp at h⟩
 | x :: r, b, off, h => by
  simp only [MF] at h
  obtain ⟨⟨u, hc, hx, h1⟩, h⟩ := h
  obtain ⟨xs, hl, hL, hr, ho⟩ := MF.vals h
  refine ⟨u :: xs, by simp [hl], ?_, ?_, ?_⟩
  ·simp only [LF]; exact ⟨u, xs, rfl, hx, h1, hL⟩
  ·intro j v hj
   cases j with
   | zero => simp at hj; subst hj; exact hc
   | succ j => have := hr j v (by simpa using hj); rwa [show off + 1 + j = off + (j + 1) by omega] at this
  ·intro v hv
   rcases List.mem_cons.1 hv with e | hv
   ·subst e; exact h1
   ·exact ho v hv
theorem EF.get {F : Nat → Prop} {w : World} {sz : Nat} : ∀ {es : List (List AV)} {b off i : Nat} {e : List AV}, EF F w sz es b off → es[i]? = some e →
  e.length = sz ∧ MF F w e b (off + i * sz)
 | [], _, _, i, x, _, h => by simp at h
 | x0 :: r, b, off, i, x, h, hi => by
  simp only [EF] at h
  cases i with
  | zero => simp at hi; subst hi; simpa using ⟨h.1, h.2.1⟩
  | succ i => have := EF.get h.2.2 (i := i) (by simpa using hi); rwa [show off + sz + i * sz = off + (i + 1) * sz by rw [Nat.add_mul]; omega] at this
theorem EF.drop {F : Nat → Prop} {w : World} {sz : Nat} : ∀ {es : List (List AV)} {b off : Nat} (k : Nat), EF F w sz es b off → EF F w sz (es.drop k) b (off + k * sz)
 | es, _, _, 0, h => by simpa using h
 | [], _, _, k + 1, _ => by simp only [List.drop_nil, EF]
 | x :: r, b, off, k + 1, h => by
  simp only [EF] at h
  have := EF.drop k h.2.2
  simp only [List.drop_succ_cons]
  rwa [show off + sz + k * sz = off + (k + 1) * sz by rw [Nat.add_mul]; omega] at this
theorem EF.take {F : Nat → Prop} {w : World} {sz : Nat} : ∀ {es : List (List AV)} {b off : Nat} (k : Nat), EF F w sz es b off → EF F w sz (es.take k) b off
 | _, _, _, 0, _ => by simp only [List.take_zero, EF]
 | [], _, _, k + 1, _ => by simp only [List.take_nil, EF]
 | x :: r, b, off, k + 1, h => by
  simp only [EF] at h
  simp only [List.take_succ_cons, EF]
  exact ⟨h.1, h.2.1, EF.take k h.2.2⟩
end
section
variable {P : Program} {td : TDs} [T : TOK P td] {G : Glo} {N : Nat} {Q : AQ} {S : SL} {L : List LB}
 {op : Op} {ty : TypeId} {x : AV}
theorem zA {t : Nat} {d : TD} (h : lk td t = some d) :
  ∃ i u z, P.info? t = some i ∧ P.underlying t = some u ∧ i.zero = some z ∧ tk u = d.k ∧ i.size = d.size ∧ i.bytes = d.bytes ∧ z.cells.toList = d.zero :=
 tdOf_parts (T.ok t d h)
theorem wo {u : TypeDesc} : u.isRow = (tk u).row := by cases u <;> rfl
theorem wn {t : Nat} {d : TD} (h : lk td t = some d) (w : World) : (isAgg t).run P w = .ok d.k.row w := by
 obtain ⟨i, u, z, h1, h2, h3, h4, h5, h6, h7⟩ := zA (P := P) h
 unfold isAgg
 rw [Sem.run_bind, run_underlying h2 w]
 rw [← h4]
 cases u <;> rfl
theorem run_sizeOf' {t : Nat} {d : TD} (h : lk td t = some d) (w : World) : (sizeOf t).run P w = .ok d.size w := by
 obtain ⟨i, u, z, h1, h2, h3, h4, h5, h6, h7⟩ := zA (P := P) h
 simp [sizeOf, typeInfo, h1, h5]
theorem LF.one {F : Nat → Prop} {w : World} : ∀ {cs : List AV} {ys : List Value}, LF F w cs ys → ∀ u ∈ ys, u.oneCell' = true
 | [], ys, h => by simp only [LF] at h; subst h; simp
 | x :: r, ys, h => by
  simp only [LF] at h
  obtain ⟨y, s, rfl, _, h1, h⟩ := h
  intro u hu
  rcases List.mem_cons.1 hu with e | hu
  ·subst e; exact h1
  ·exact LF.one h u hu
theorem LF.length {F : Nat → Prop} {w : World} : ∀ {cs : List AV} {ys : List Value}, LF F w cs ys → ys.length = cs.length
 | [], ys, h => by simp only [LF] at h; subst h; rfl
 | x :: r, ys, h => by
  simp only [LF] at h
  obtain ⟨y, s, rfl, _, h1, h⟩ := h
  simp [LF.length h]
theorem yM {t : Nat} {d : TD} (ht : lk td t = some d) (hr : d.k.row = true) {F : Nat → Prop} {w : World} {cs : List AV} {b off : Nat} (hm : MF F w cs b off) (hn : cs.length = d.size) :
  ∃ xs : List Value, (loadVar t ⟨b, off, none⟩).run P w = .ok (.agg xs.toArray) w ∧ LF F w cs xs := by
 obtain ⟨i, u, z, h1, h2, h3, h4, h5, h6, h7⟩ := zA (P := P) ht
 obtain ⟨xs, hl, hL, hra, _⟩ := hm.vals
 exact ⟨xs, run_loadVar_mid w b off t xs u hra h2 (by rw [wo, h4, hr]) (by simp [h1, h5, hl, hn]), hL⟩
theorem jp {t : Nat} {d : TD} (ht : lk td t = some d) (hr : d.k.row = false) {w : World} {a : Addr} {u : Value} (hc : w.cell? a = some u) :
  (loadVar t a).run P w = .ok u w := by
 simp [loadVar, wn ht, hr, hc]
theorem Zs {t : Nat} {d : TD} {u : Operand} {cs : List AV} (h : val G S u = some (.fp cs)) (ht : lk td t = some d) (hr : d.k.row = true) (hn : cs.length = d.size) :
  Ev P G N (.load t u) ty S L (.agg cs) := by
 intro o ho _ cx a hc
 have e1 := zn hc h
 simp only [R, RF] at e1
 obtain ⟨b, off, e1, hb, hm⟩ := e1
 obtain ⟨xs, h1, h2⟩ := yM (P := P) ht hr hm hn
 exact ⟨.agg xs.toArray, by simp [execOp, ho, e1, Instr.loadAt, Instr.sureAddr, h1], by simp only [R, RF]; exact ⟨_, rfl, h2⟩⟩
theorem Zq {t : Nat} {d : TD} {u : Operand} {cs es : List AV} (h : val G S u = some (.fp cs)) (ht : lk td t = some d) (hr : d.k.row = true) (he : cs.take d.size = es) (hn : es.length = d.size) :
  Ev P G N (.load t u) ty S L (.agg es) := by
 intro o ho _ cx a hc
 have e1 := zn hc h
 simp only [R, RF] at e1
 obtain ⟨b, off, e1, hb, hm⟩ := e1
 subst he
 obtain ⟨xs, h1, h2⟩ := yM (P := P) ht hr (hm.take d.size) hn
 exact ⟨.agg xs.toArray, by simp [execOp, ho, e1, Instr.loadAt, Instr.sureAddr, h1], by simp only [R, RF]; exact ⟨_, rfl, h2⟩⟩
theorem Zr {t : Nat} {d : TD} {u : Operand} {cs r : List AV} {c : AV} (h : val G S u = some (.fp cs)) (ht : lk td t = some d) (hr : d.k.row = false) (hcs : cs = c :: r) :
  Ev P G N (.load t u) ty S L c := by
 intro o ho _ cx a hc
 have e1 := zn hc h
 simp only [R, RF] at e1
 obtain ⟨b, off, e1, hb, hm⟩ := e1
 subst hcs
 simp only [MF] at hm
 obtain ⟨⟨y, hy, hx, _⟩, _⟩ := hm
 exact ⟨y, by simp [execOp, ho, e1, Instr.loadAt, Instr.sureAddr, jp (P := P) ht hr hy], R.of_RF _ _ _ hx⟩
theorem run_fieldAt' {s : Nat} {d fd : TD} {fs : List (TypeId × Nat)} {f ft off : Nat} (ht : lk td s = some d) (hs : d.k = .struct fs) (hf : fs[f]? = some (ft, off)) (hft : lk td ft = some fd) (hz : Nat.beq fd.size 0 = false)
  (w : World) (b o : Nat) : (Instr.fieldAt s (.pointer (some ⟨b, o, none⟩)) f).run P w = .ok (.pointer (some ⟨b, o + off, none⟩)) w := by
 obtain ⟨i, u, z, h1, h2, h3, h4, h5, h6, h7⟩ := zA (P := P) ht
 rw [hs] at h4
 cases u <;> simp only [tk, reduceCtorEq, TK.struct.injEq] at h4
 rename_i fields
 subst h4
 simp only [List.getElem?_map, Array.getElem?_toList] at hf
 cases hq : fields[f]? with
 | none => simp [hq] at hf
 | some fl =>
  simp only [hq, Option.map_some, Option.some.injEq, Prod.mk.injEq] at hf
  obtain ⟨rfl, rfl⟩ := hf
  have hz' : ¬ fd.size = 0 := by intro e; rw [e] at hz; cases hz
  simp [Instr.fieldAt, run_underlying h2, hq, Instr.sureAddr, fieldPlace, run_sizeOf' (P := P) hft, hz', Addr.add_mid]
theorem qA {s : Nat} {d fd : TD} {fs : List (TypeId × Nat)} {f ft off : Nat} {u : Operand} {cs : List AV} (h : val G S u = some (.fp cs)) (ht : lk td s = some d) (hs : d.k = .struct fs) (hf : fs[f]? = some (ft, off))
  (hft : lk td ft = some fd) (hz : Nat.beq fd.size 0 = false) : Ev P G N (.fieldAddr s u f) ty S L (.fp (cs.drop off)) := by
 intro o ho _ cx a hc
 have e1 := zn hc h
 simp only [R, RF] at e1
 obtain ⟨b, of, e1, hb, hm⟩ := e1
 exact ⟨.pointer (some ⟨b, of + off, none⟩), by simp [execOp, ho, e1, run_fieldAt' (P := P) ht hs hf hft hz], by simp only [R, RF]; exact ⟨b, of + off, rfl, hb, hm.drop off⟩⟩
theorem qz {s : Nat} {d fd : TD} {fs : List (TypeId × Nat)} {f ft off : Nat} {u : Operand} {k q : Nat} {bs : List AV} (h : val G S u = some (.lp k q)) (hk : L[k]? = some (.box bs)) (ht : lk td s = some d) (hs : d.k = .struct fs) (hf : fs[f]? = some (ft, off))
  (hft : lk td ft = some fd) (hz : Nat.beq fd.size 0 = false) : Ev P G N (.fieldAddr s u f) ty S L (.lp k (q + off)) := by
 intro o ho _ cx a hc
 have e1 := zn hc h
 simp only [R] at e1
 obtain ⟨hkn, _, e1⟩ := e1
 obtain ⟨b, hb, e1⟩ := e1 (hc.st.blk _ _ hk).1
 exact ⟨.pointer (some ⟨b, q + off, none⟩), by simp [execOp, ho, e1, run_fieldAt' (P := P) ht hs hf hft hz], by simp only [R]; exact ⟨hkn, rfl, fun _ => ⟨b, hb, rfl⟩⟩⟩
theorem qB {s : Nat} {d fd : TD} {fs : List (TypeId × Nat)} {f ft off : Nat} {u : Operand} {k v i q E sz : Nat} {es : List (List AV)} (h : val G S u = some (.ep k v i q)) (hk : L[k]? = some (.own v E sz es)) (ht : lk td s = some d) (hs : d.k = .struct fs) (hf : fs[f]? = some (ft, off))
  (hft : lk td ft = some fd) (hz : Nat.beq fd.size 0 = false) : Ev P G N (.fieldAddr s u f) ty S L (.ep k v i (q + off)) := by
 intro o ho _ cx a hc
 have e1 := zn hc h
 simp only [R] at e1
 obtain ⟨hkn, hv, _, e1⟩ := e1
 obtain ⟨b, hb, e1⟩ := e1 (hc.st.blk _ _ hk).1
 exact ⟨.pointer (some ⟨b, i * cx.sz k + q + off, none⟩), by simp [execOp, ho, e1, run_fieldAt' (P := P) ht hs hf hft hz], by simp only [R]; exact ⟨hkn, hv, rfl, fun _ => ⟨b, hb, by rw [Nat.add_assoc]⟩⟩⟩
theorem zH {t e : Nat} {d : TD} (ht : lk td t = some d) (hs : d.k = .slice e) : P.underlying t = some (.slice e) := by
 obtain ⟨i, u, z, h1, h2, h3, h4, h5, h6, h7⟩ := zA (P := P) ht
 rw [hs] at h4
 cases u <;> simp only [tk, reduceCtorEq, TK.slice.injEq, TK.arr.injEq] at h4
 simpa [h4] using h2
theorem Qs {t : Nat} {d : TD} (ht : lk td t = some d) (hs : d.k = .str) : P.underlying t = some .string := by
 obtain ⟨i, u, z, h1, h2, h3, h4, h5, h6, h7⟩ := zA (P := P) ht
 rw [hs] at h4
 cases u <;> simp only [tk, reduceCtorEq, TK.slice.injEq, TK.arr.injEq] at h4
 simpa [h4] using h2
theorem jH {t n e : Nat} {d : TD} (ht : lk td t = some d) (hs : d.k = .arr n e) : P.underlying t = some (.array n e) := by
 obtain ⟨i, u, z, h1, h2, h3, h4, h5, h6, h7⟩ := zA (P := P) ht
 rw [hs] at h4
 cases u <;> simp only [tk, reduceCtorEq, TK.slice.injEq, TK.arr.injEq] at h4
 simpa [h4] using h2
theorem run_indexAt' {t e : Nat} {d ed : TD} (ht : lk td t = some d) (hs : d.k = .slice e) (he : lk td e = some ed) (w : World) (b off len cap : Nat) (k : IntKind) (i : Int) (hi : 0 ≤ i ∧ i < len) :
  (Instr.indexAt t (.slice (some ⟨b, off, none⟩) len cap) (.int k i)).run P w = .ok (.pointer (some ⟨b, off + i.toNat * ed.size, none⟩)) w := by
 simp [Instr.indexAt, asIntOf, run_underlying (zH (P := P) ht hs), hi, run_sizeOf' (P := P) he, Addr.add_mid]
theorem qy {t e : Nat} {d ed : TD} {u q : Operand} {sz n : Nat} {es : List (List AV)} {ik : IntKind} {i : Int} {c : List AV} (h : val G S u = some (.fs sz n es)) (hi : val G S q = some (.v (.int ik i)))
  (ht : lk td t = some d) (hs : d.k = .slice e) (he : lk td e = some ed) (hsz : ed.size = sz) (hc : 0 ≤ i ∧ es[i.toNat]? = some c) : Ev P G N (.indexAddr t u q) ty S L (.fp c) := by
 intro o ho _ cx a hcn
 have e1 := zn hcn h
 have e2 := zn hcn hi
 simp only [R, RF] at e1 e2
 obtain ⟨hl, ad, cap, e1, hcap, hm⟩ := e1
 have hlt : i.toNat < n := by
  rw [← hl]
  rcases Nat.lt_or_ge i.toNat es.length with h | h
  ·exact h
  ·rw [List.getElem?_eq_none h] at hc; cases hc.2
 obtain ⟨b, off, rfl, hb, hm⟩ := hm (by omega)
 have := hm.get hc.2
 refine ⟨_, by simp only [execOp, ho, e1, e2]; rw [Sem.run_bind, run_indexAt' (P := P) ht hs he cx.w b off n cap ik i ⟨hc.1, by omega⟩]; rfl, ?_⟩
 simp only [R, RF]
 exact ⟨b, off + i.toNat * sz, by rw [hsz], hb, this.2⟩
theorem qx {t e : Nat} {d ed : TD} {u q : Operand} {k v sz E : Nat} {es : List (List AV)} {ik : IntKind} {i : Int} (h : val G S u = some (.os k v)) (hL : L[k]? = some (.own v E sz es)) (hi : val G S q = some (.v (.int ik i)))
  (ht : lk td t = some d) (hs : d.k = .slice e) (he : lk td e = some ed) (hsz : ed.size = sz) (hc : 0 ≤ i ∧ i < es.length) : Ev P G N (.indexAddr t u q) ty S L (.ep k v i.toNat 0) := by
 intro o ho _ cx a hcn
 have e1 := zn hcn h
 have e2 := zn hcn hi
 have hb := hcn.st.blk _ _ hL
 simp only [R, OS] at e1 e2
 simp only [BR] at hb
 obtain ⟨hv, hz, hl, _⟩ := hb
 obtain ⟨hk, hvl, _, e1⟩ := e1
 rcases e1 hv with ⟨h0, _, _⟩ | ⟨b, cap, arr, T', hb, e1, hh, hn, hm, hs'⟩
 ·omega
 ·refine ⟨_, by simp only [execOp, ho, e1, e2]; rw [Sem.run_bind, run_indexAt' (P := P) ht hs he cx.w b 0 (cx.len k) cap ik i (by omega)]; rfl, ?_⟩
  simp only [R]
  exact ⟨hk, hvl, rfl, fun _ => ⟨b, hb, by rw [hsz, hz]; simp⟩⟩
theorem run_arrAt {t e n : Nat} {d ed : TD} (ht : lk td t = some d) (hs : d.k = .arr n e) (he : lk td e = some ed) (w : World) (b off : Nat) (k : IntKind) (i : Int) (hi : 0 ≤ i ∧ i < n) :
  (Instr.indexAt t (.pointer (some ⟨b, off, none⟩)) (.int k i)).run P w = .ok (.pointer (some ⟨b, off + i.toNat * ed.size, none⟩)) w := by
 simp [Instr.indexAt, asIntOf, run_underlying (jH (P := P) ht hs), hi, Instr.sureAddr, run_sizeOf' (P := P) he, Addr.add_mid]
theorem ZA {t e n : Nat} {d ed : TD} {u q : Operand} {cs : List AV} {ik : IntKind} {i : Int} (h : val G S u = some (.fp cs)) (hi : val G S q = some (.v (.int ik i)))
  (ht : lk td t = some d) (hs : d.k = .arr n e) (he : lk td e = some ed) (hc : 0 ≤ i ∧ i < n) : Ev P G N (.indexAddr t u q) ty S L (.fp (cs.drop (i.toNat * ed.size))) := by
 intro o ho _ cx a hcn
 have e1 := zn hcn h
 have e2 := zn hcn hi
 simp only [R, RF] at e1 e2
 obtain ⟨b, off, e1, hb, hm⟩ := e1
 refine ⟨_, by simp only [execOp, ho, e1, e2]; rw [Sem.run_bind, run_arrAt (P := P) ht hs he cx.w b off ik i hc]; rfl, ?_⟩
 simp only [R, RF]
 exact ⟨b, _, rfl, hb, hm.drop _⟩
theorem Zj {t e n : Nat} {d ed : TD} {u q : Operand} {k p : Nat} {bs : List AV} {ik : IntKind} {i : Int} (h : val G S u = some (.lp k p)) (hk : L[k]? = some (.box bs)) (hi : val G S q = some (.v (.int ik i)))
  (ht : lk td t = some d) (hs : d.k = .arr n e) (he : lk td e = some ed) (hc : 0 ≤ i ∧ i < n) : Ev P G N (.indexAddr t u q) ty S L (.lp k (p + i.toNat * ed.size)) := by
 intro o ho _ cx a hcn
 have e1 := zn hcn h
 have e2 := zn hcn hi
 simp only [R] at e1 e2
 obtain ⟨hkn, _, e1⟩ := e1
 obtain ⟨b, hb, e1⟩ := e1 (hcn.st.blk _ _ hk).1
 refine ⟨_, by simp only [execOp, ho, e1, e2]; rw [Sem.run_bind, run_arrAt (P := P) ht hs he cx.w b p ik i hc]; rfl, ?_⟩
 simp only [R]
 exact ⟨hkn, rfl, fun _ => ⟨b, hb, rfl⟩⟩
theorem Zi {t : Nat} {d : TD} {u q : Operand} {s : ByteArray} {ik : IntKind} {i : Int} {c : UInt8} (h : val G S u = some (.v (.string s))) (hi : val G S q = some (.v (.int ik i)))
  (ht : lk td t = some d) (hs : d.k = .str) (hc : 0 ≤ i ∧ s.data[i.toNat]? = some c) : Ev P G N (.index t u q) ty S L (.v (.int .u8 c.toNat)) := by
 intro o ho _ cx a hcn
 have e1 := zn hcn h
 have e2 := zn hcn hi
 simp only [R] at e1 e2
 refine ⟨.int .u8 c.toNat, ?_, by simp only [R]⟩
 have : s[i.toNat]? = some c := by
  have h2 := hc.2
  rw [Array.getElem?_eq_some_iff] at h2
  obtain ⟨hlt, he⟩ := h2
  have hlt' : i.toNat < s.size := hlt
  rw [getElem?_pos s i.toNat hlt']
  exact congrArg some he
 simp only [execOp, ho, e1, e2, Instr.index, asIntOf, Sem.run_bind, Sem.run_pure, Result.andThen_ok, run_underlying (Qs (P := P) ht hs)]
 simp [hc.1, this]
def lenv : AV → Option Int
 | .v (.string s) => some s.size
 | .v (.slice _ n _) => some n
 | .fs _ n _ => some n
 | .fz => some 0
 | _ => none
theorem jA {t : Nat} {d : TD} {u : Operand} {ats : Array TypeId} {n : Int} (h : val G S u = some x) (ht : lk td t = some d) (hk : (match d.k, x with | .str, .v (.string _) => true | .slice _, .v (.string _) => false | .slice _, _ => true | _, _ => false) = true)
  (hn : lenv x = some n) (hat : ats = #[t]) : Ev P G N (.call { callee := .builtin .len, args := #[u], argTypes := ats }) ty S L (.v (.int .i64 n)) := by
 intro o ho _ cx a hcn
 have e1 := zn hcn h
 refine ⟨.int .i64 n, ?_, by simp only [R]⟩
 subst hat
 obtain ⟨i, ud, z, h1, h2, h3, h4, h5, h6, h7⟩ := zA (P := P) ht
 have hgo : (Builtin.len_ #[t] o.type #[a.eval u]).run P cx.w = .ok (.int .i64 n) cx.w := by
  unfold lenv at hn
  split at hn
  ·simp only [R, Option.some.injEq] at e1 hn
   subst hn
   cases hd : d.k <;> simp only [hd] at hk <;> (try cases hk)
   have := Qs (P := P) ht hd
   simp [Builtin.len_, run_underlying this, e1, goInt]
  ·simp only [R, Option.some.injEq] at e1 hn
   subst hn
   cases hd : d.k <;> simp only [hd] at hk <;> (try cases hk)
   have := zH (P := P) ht hd
   simp [Builtin.len_, run_underlying this, e1, goInt]
  ·simp only [R, RF, Option.some.injEq] at e1 hn
   subst hn
   obtain ⟨_, ad, cap, e1, _⟩ := e1
   cases hd : d.k <;> simp only [hd] at hk <;> (try cases hk)
   have := zH (P := P) ht hd
   simp [Builtin.len_, run_underlying this, e1, goInt]
  ·simp only [R, Option.some.injEq] at e1 hn
   subst hn
   obtain ⟨ad, e1⟩ := e1
   cases hd : d.k <;> simp only [hd] at hk <;> (try cases hk)
   have := zH (P := P) ht hd
   simp [Builtin.len_, run_underlying this, e1, goInt]
  ·cases hn
 simp [execOp, ho, resolve, invoke, builtin, hgo]
theorem Z5 {t e : Nat} {d : TD} {u : Operand} {ats : Array TypeId} {k v E sz : Nat} {es : List (List AV)} (h : val G S u = some (.os k v)) (hL : L[k]? = some (.own v E sz es)) (ht : lk td t = some d) (hk : d.k = .slice e)
  (hat : ats = #[t]) : Ev P G N (.call { callee := .builtin .len, args := #[u], argTypes := ats }) ty S L (.v (.int .i64 es.length)) := by
 intro o ho _ cx a hcn
 have e1 := zn hcn h
 have hb := hcn.st.blk _ _ hL
 simp only [R, OS] at e1
 simp only [BR] at hb
 obtain ⟨hv, _, hl, _⟩ := hb
 refine ⟨.int .i64 es.length, ?_, by simp only [R]⟩
 subst hat
 have hu := zH (P := P) ht hk
 have hgo : (Builtin.len_ #[t] o.type #[a.eval u]).run P cx.w = .ok (.int .i64 es.length) cx.w := by
  rcases e1.2.2.2 hv with ⟨h0, e1, _⟩ | ⟨b, cap, arr, T', _, e1, _⟩
  ·simp [Builtin.len_, run_underlying hu, e1, goInt]; omega
  ·simp [Builtin.len_, run_underlying hu, e1, goInt]; omega
 simp [execOp, ho, resolve, invoke, builtin, hgo]
end
end
section
section mono
variable {F : Fence} {n : Nat} {P : Program} {ops : Array Oper} {Q Q' : Exit → Act → World → Prop} (hq : ∀ e a w, Q e a w → Q' e a w)
include hq
theorem uponIn_mono {o : Oper} {a : Act} {K K' : Act → World → Prop} (hk : ∀ a w, K a w → K' a w) (r : Result Next) (h : o.uponIn F n P a K Q r) : o.uponIn F n P a K' Q' r := by
 cases r with
 | ok x w' =>
  cases x <;> simp only [Oper.uponIn] at h ⊢ <;>
   first
    | exact hk _ _ h
    | exact ⟨h.1, CallsIn.mono h.2 (fun e w'' he => by cases e <;> first | exact hk _ _ he | exact hq _ _ _ he | exact (let ⟨a, w, h⟩ := he; ⟨a, w, hq _ _ _ h⟩))⟩
    | exact ⟨h.1, RowsIn.mono h.2 (fun _ _ he => hk _ _ he)⟩
    | exact ⟨h.1, RoundIn.mono h.2 (fun e w'' he => by cases e <;> first | exact hk _ _ he | exact hq _ _ _ he | exact (let ⟨a, w, h⟩ := he; ⟨a, w, hq _ _ _ h⟩))⟩
 | halt x w' => cases x <;> simp only [Oper.uponIn] at h ⊢ <;> exact hq _ _ _ h
theorem WU {o : Oper} {a : Act} {w : World} {K K' : Act → World → Prop} (hk : ∀ a w, K a w → K' a w) (h : o.wpIn F n P a w K Q) : o.wpIn F n P a w K' Q' := ⟨h.1, uponIn_mono hq hk _ h.2⟩
theorem zq : ∀ (l : List Oper) (a : Act) (w : World), wpListIn F n P ops Q l a w → wpListIn F n P ops Q' l a w
 | [], a, w, h => hq _ _ _ h
 | o :: l, a, w, h => by
  simp only [wpListIn] at h ⊢
  split at h
  ·rename_i hw
   rw [if_pos hw]
   exact WU hq (fun a w h => zq l a w h) h
  ·rename_i hw
   rw [if_neg hw]
   exact ⟨h.1, zq l _ _ h.2⟩
end mono
structure Stp (G : Glo) (c c' : Cx) (L' : List LB) : Prop where
 st : St G c' L'
 calm : Calm c c'
 sub : SubX allp c c'
 E : c'.E = c.E
 mks : c'.mks = c.mks
 m : c'.m = c.m
 dom : ∀ k, c'.dom k → c.dom k ∨ ∃ x, L'[k]? = some x ∧ x ≠ .dead
theorem Stp.mk' {G : Glo} {c c' : Cx} {L' : List LB} (hm : Calm c c') (hs : SubX allp c c') (hE : c'.E = c.E) (hk : c'.mks = c.mks) (hmm : c'.m = c.m) (st : St G c' L') (hd : ∀ k, c'.dom k → c.dom k ∨ ∃ x, L'[k]? = some x ∧ x ≠ .dead := by exact fun k h => .inl h) : Stp G c c' L' := ⟨st, hm, hs, hE, hk, hmm, hd⟩
theorem Stp.ext {G : Glo} {c c' : Cx} {L' : List LB} (h : Stp G c c' L') : Ext c c' := h.calm.ext h.E h.mks h.m h.sub.all
def Ev2 (P : Program) (G : Glo) (N : Nat) (op : Op) (ty : TypeId) (S : SL) (L : List LB) (x : AV) (L' : List LB) : Prop :=
 ∀ o : Oper, o.op = op → o.type = ty → ∀ (cx : Cx) (a : Act), Cn G N S L cx a → ∃ y cx', (execOp a.eval o).run P cx.w = .ok (.value y) cx'.w ∧ R cx' x y ∧ Stp G cx cx' L'
def EvS (P : Program) (G : Glo) (N : Nat) (op : Op) (ty : TypeId) (S : SL) (L : List LB) (L' : List LB) : Prop :=
 ∀ o : Oper, o.op = op → o.type = ty → ∀ (cx : Cx) (a : Act), Cn G N S L cx a → ∃ cx', (execOp a.eval o).run P cx.w = .ok .skip cx'.w ∧ Stp G cx cx' L'
theorem SR.mono_all {c c' : Cx} {S : SL} {t : Array Value} (hs : SubX allp c c') (h : SR c S t) : SR c' S t :=
 fun i x hx => R.mono hs x _ (Zh x) (h i x hx)
section
variable {P : Program} {G : Glo} {N : Nat} {Q : AQ} {S S' : SL} {L L' : List LB} {ops : Array Oper} {rest : List Oper}
 {op : Op} {ty : TypeId} {pos : String} {af : Array Edge} {d : Nat} {x : AV}
theorem Stp.cn {cx cx' : Cx} {a : Act} (h : Stp G cx cx' L') (hc : Cn G N S L cx a) : Cn G N S L' cx' a :=
 ⟨h.st, by rw [h.mks]; exact hc.de, hc.sz, hc.sr.mono_all h.sub⟩
theorem Cn.put {cx : Cx} {a : Act} {y : Value} (hc : Cn G N S L cx a) (hd : Nat.blt d N = true) (hx : R cx x y) : Cn G N ((d, x) :: S) L cx (a.put (some d) y) :=
 ⟨hc.st, hc.de, by simpa [Act.put] using hc.sz, SR.put hc.sr (by rw [hc.sz]; exact Nat.le_of_ble_eq_true hd) hx⟩
theorem zk (h : Ev2 P G N op ty S L x L') (hd : Nat.blt d N = true) (k : awpL P G N ops rest Q ((d, x) :: S) L') (hnd : nd op = true := by rfl) :
  awpL P G N ops (⟨some d, op, ty, pos, af, none⟩ :: rest) Q S L := by
 intro cx a hc
 obtain ⟨y, cx', hr, hx, hst⟩ := h ⟨some d, op, ty, pos, af, none⟩ rfl rfl cx a hc
 refine wpListIn_plain rfl fun K hK => zy hnd ?_
 rw [hr, Oper.uponIn_value]
 exact hK _ _ (zq (fun e a w q => q.trans hst.ext) _ _ _ (k cx' _ ((hst.cn hc).put hd hx)))
theorem Zk (h : EvS P G N op ty S L L') (k : awpL P G N ops rest Q S L') (hnd : nd op = true := by rfl) :
  awpL P G N ops (⟨none, op, ty, pos, af, none⟩ :: rest) Q S L := by
 intro cx a hc
 obtain ⟨cx', hr, hst⟩ := h ⟨none, op, ty, pos, af, none⟩ rfl rfl cx a hc
 refine wpListIn_plain rfl fun K hK => zy hnd ?_
 rw [hr, Oper.uponIn_skip]
 refine hK _ _ (zq (fun e a w q => q.trans hst.ext) _ _ _ (k cx' _ ?_))
 have := hst.cn hc
 exact ⟨this.st, this.de, by simpa [Act.put] using this.sz, by simpa [Act.put] using this.sr⟩
end
structure Alloc (w w' : World) (o : Obj) : Prop where
 os : w'.os = w.os
 tape : w'.tape = w.tape
 output : w'.output = w.output
 size : w'.heap.size = w.heap.size + 1
 new : w'.heap[w.heap.size]? = some o
 old : ∀ b, b < w.heap.size → w'.heap[b]? = w.heap[b]?
theorem Alloc.alloc (w : World) (o : Obj) : Alloc w (w.alloc o) o := ⟨rfl, rfl, rfl, by simp, heap_alloc_new w o, fun _ h => heap_alloc_old w o h⟩
theorem Alloc.drew (w : World) (o : Obj) : Alloc w (w.drew.alloc o) o := ⟨rfl, rfl, rfl, by simp, heap_alloc_new w.drew o, fun _ h => heap_alloc_old w.drew o h⟩
def Cx.new (c : Cx) (n : Nat) (w' : World) (s ln : Nat) : Cx :=
 { c with φ := fun k => if k = n then some c.w.heap.size else c.φ k, ver := fun k => if k = n then 0 else c.ver k, sz := fun k => if k = n then s else c.sz k, len := fun k => if k = n then ln else c.len k, dom := fun k => c.dom k ∨ k = n, w := w' }
def Cx.nul (c : Cx) (n : Nat) (s : Nat) : Cx :=
 { c with φ := fun k => if k = n then none else c.φ k, ver := fun k => if k = n then 0 else c.ver k, sz := fun k => if k = n then s else c.sz k, len := fun k => if k = n then 0 else c.len k, dom := fun k => c.dom k ∨ k = n }
def Cx.newF (c : Cx) (w' : World) : Cx := { c with F := fun b => c.F b ∨ b = c.w.heap.size, w := w' }
theorem ZE {L : List LB} {x y : LB} {k : Nat} (h : (L ++ [x])[k]? = some y) : L[k]? = some y ∧ k < L.length ∨ k = L.length ∧ y = x := by
 rcases Nat.lt_or_ge k L.length with hk | hk
 ·rw [List.getElem?_append_left hk] at h; exact .inl ⟨h, hk⟩
 ·rw [List.getElem?_append_right hk] at h
  rcases Nat.eq_zero_or_pos (k - L.length) with h0 | h0
  ·rw [h0] at h; simp at h; exact .inr ⟨by omega, h.symm⟩
  ·rw [List.getElem?_eq_none (by simp; omega)] at h; cases h
theorem yd {L : List LB} {x : LB} {j : Nat} (h : L[j]? = some .pin) : (L ++ [x])[j]? = some .pin := by
 rw [List.getElem?_append_left]
 ·exact h
 ·rcases Nat.lt_or_ge j L.length with h' | h'
  ·exact h'
  ·rw [List.getElem?_eq_none h'] at h; cases h
theorem qG {L : List LB} {x y : LB} {k j : Nat} (h : (L.set k x)[j]? = some y) : (j ≠ k ∧ L[j]? = some y) ∨ (j = k ∧ y = x ∧ k < L.length) := by
 rw [List.getElem?_set] at h
 split at h
 ·rename_i e
  split at h
  ·rename_i hl; exact .inr ⟨e.symm, by injection h with h; exact h.symm, hl⟩
  ·cases h
 ·rename_i e; exact .inl ⟨fun e' => e e'.symm, h⟩
theorem JH {L : List LB} {x : LB} {k j : Nat} (hne : L[k]? ≠ some .pin) (h : L[j]? = some .pin) : (L.set k x)[j]? = some .pin := by
 rw [List.getElem?_set]
 split
 ·rename_i e; subst e; exact absurd h hne
 ·exact h
theorem zG {L : List LB} {k : Nat} {x : LB} (h : L[k]? = some x) : k < L.length := by
 rcases Nat.lt_or_ge k L.length with h' | h'
 ·exact h'
 ·rw [List.getElem?_eq_none h'] at h; cases h
section
variable {G : Glo} {c c' : Cx} {L L' : List LB} {w' : World} {o : Obj}
theorem qO {p : Nat → Bool} (st : St G c L) (hs : SubX p c c') : ∀ q ∈ G.g, c'.F q.1 ∧ MF c'.F c'.w q.2 q.1 0 ∧ Exact c'.w q.2.length q.1 :=
 fun q hq => ⟨hs.F _ (st.glob q hq).1, MF.mono hs.F hs.heap _ _ _ (hs.heap _ (st.glob q hq).1) (st.glob q hq).2.1, (st.glob q hq).2.2.keep (hs.heap _ (st.glob q hq).1)⟩
theorem St.calm {p : Nat → Bool} (st : St G c L) (hm : Calm c c') (hs : SubX p c c') (hn : ∀ k, c'.dom k → k < L'.length) (dm : ∀ k x, L'[k]? = some x → x ≠ .dead → c'.dom k) (hE : c'.E = c.E) (hk : c'.mks = c.mks) (hmm : c'.m = c.m)
  (inF : ∀ b, c'.F b → b < c'.w.heap.size) (loc : ∀ k b, c'.φ k = some b → c'.dom k ∧ ¬ c'.F b ∧ b < c'.w.heap.size) (inj : ∀ k k' b, c'.φ k = some b → c'.φ k' = some b → k = k')
  (blk : ∀ k x, L'[k]? = some x → BR G c' k x) (hp : c.m = 0 ∨ (L[c.m - 1]? = some .pin → L'[c.m - 1]? = some .pin)) : St G c' L' := by
 have nr : ∀ b, b < c.w.heap.size → (∀ k, c.φ k ≠ some b) → ∀ k, c'.φ k ≠ some b := fun b hb h k e => by
  rcases hm.newU b ⟨k, e⟩ with ⟨j, hj⟩ | h2
  ·exact h j hj
  ·omega
 have nf : ∀ b, b < c.w.heap.size → ¬ c.F b → (∀ k, c.φ k ≠ some b) → ¬ c'.F b := fun b hb h h1 e => by
  rcases hm.newV b e with h2 | ⟨j, hj⟩ | h2
  ·exact h h2
  ·exact h1 j hj
  ·omega
 refine ⟨hn, dm, inF, loc, inj, blk, qO st hs, ?_, by rw [hk]; exact st.mkd, by rw [hk]; exact st.mkE, ?_, ?_⟩
 ·intro b hb
  rw [hE] at hb
  obtain ⟨h1, h2, h3⟩ := st.envd b hb
  exact ⟨Nat.lt_of_lt_of_le h1 hm.size, nf b h1 h2 h3, nr b h1 h3⟩
 ·intro r hr
  rw [hk] at hr
  obtain ⟨h0, h1, h2, h3, h4⟩ := st.mks r hr
  exact ⟨Nat.lt_of_lt_of_le h0 hm.size, (hm.keep r h0 (fun ⟨k, e⟩ => h4 k e)).trans h1, nf r h0 h2 h4, by rw [hE]; exact h3, nr r h0 h4⟩
 ·rw [hmm]
  rcases st.pin with h1 | h1
  ·exact .inl h1
  ·rcases hp with h2 | h2
   ·exact .inl h2
   ·exact .inr (h2 h1)
theorem Calm.of_alloc (A : Alloc c.w w' o) (hw : c'.w = w') (hU : ∀ b, rng c' b → rng c b ∨ b = c.w.heap.size) (hV : ∀ b, c'.F b → c.F b ∨ b = c.w.heap.size) : Calm c c' := by
 subst hw
 exact ⟨A.os, A.tape, A.output, by rw [A.size]; omega, fun b hb _ => A.old b hb, fun b hb => (hU b hb).imp id (fun e => by omega), fun b hb => (hV b hb).imp id (fun e => .inr (by omega))⟩
theorem SubX.new (st : St G c L) (A : Alloc c.w w' o) (s ln : Nat) : SubX allp c (c.new L.length w' s ln) := by
 have hne : ∀ {k}, c.dom k → ¬ k = L.length := fun h e => by have := st.n _ h; omega
 exact ⟨fun _ h => h, fun b h => A.old b (st.inF b h), fun k h _ => .inl h, fun k h _ => by simp [Cx.new, hne h], fun k h _ _ => if_neg (hne h), fun k h _ _ => if_neg (hne h), fun k h _ _ => if_neg (hne h),
  fun k b arr T _ _ _ hb hh => ⟨arr, (A.old b (st.loc k b hb).2.2).trans hh, rfl⟩⟩
theorem SubX.nul (st : St G c L) (s : Nat) : SubX allp c (c.nul L.length s) := by
 have hne : ∀ {k}, c.dom k → ¬ k = L.length := fun h e => by have := st.n _ h; omega
 exact ⟨fun _ h => h, fun b h => rfl, fun k h _ => .inl h, fun k h _ => by simp [Cx.nul, hne h], fun k h _ _ => if_neg (hne h), fun k h _ _ => if_neg (hne h), fun k h _ _ => if_neg (hne h),
  fun k b arr T _ _ _ hb hh => ⟨arr, hh, rfl⟩⟩
theorem SubX.newF (st : St G c L) (A : Alloc c.w w' o) : SubX allp c (c.newF w') :=
 ⟨fun _ h => .inl h, fun b h => A.old b (st.inF b h), fun k h _ => h, fun k h _ => Nat.le_refl _, fun k h _ _ => rfl, fun k h _ _ => rfl, fun k h _ _ => rfl,
  fun k b arr T _ _ _ hb hh => ⟨arr, (A.old b (st.loc k b hb).2.2).trans hh, rfl⟩⟩
theorem snoc_len {x : LB} {k : Nat} : k < (L ++ [x]).length ↔ k < L.length ∨ k = L.length := by simp; omega
theorem ye {x : LB} (st : St G c L) : ∀ k, c.dom k ∨ k = L.length → k < (L ++ [x]).length := fun k h => snoc_len.2 (h.imp (st.n k) id)
theorem Wz {x : LB} (st : St G c L) : ∀ k y, (L ++ [x])[k]? = some y → y ≠ .dead → c.dom k ∨ k = L.length := fun k y h hne => (ZE h).imp (fun h => st.dm k y h.1 hne) (fun h => h.1)
theorem St.new (st : St G c L) (A : Alloc c.w w' o) (s ln : Nat) {x : LB} (hx : BR G (c.new L.length w' s ln) L.length x) (hne : x ≠ .dead := by simp) : Stp G c (c.new L.length w' s ln) (L ++ [x]) := by
 have hs := SubX.new st A s ln
 have hφ : ∀ k b, (c.new L.length w' s ln).φ k = some b → (k = L.length ∧ b = c.w.heap.size) ∨ (k ≠ L.length ∧ c.φ k = some b) := by
  intro k b h
  simp only [Cx.new] at h
  split at h
  ·rename_i e; exact .inl ⟨e, by injection h with h; exact h.symm⟩
  ·rename_i e; exact .inr ⟨e, h⟩
 have hm : Calm c (c.new L.length w' s ln) := Calm.of_alloc A rfl (fun b ⟨k, h⟩ => by
  rcases hφ k b h with ⟨_, h⟩ | ⟨_, h⟩
  ·exact .inr h
  ·exact .inl ⟨k, h⟩) (fun b h => .inl h)
 refine Stp.mk' hm hs rfl rfl rfl (st.calm hm hs (ye st) (Wz st) rfl rfl rfl ?_ ?_ ?_ ?_ (.inr yd)) (fun k h => h.imp id (fun e => ⟨x, by rw [e]; simp, hne⟩))
 ·intro b h
  show b < w'.heap.size
  rw [A.size]; exact Nat.lt_succ_of_lt (st.inF b h)
 ·intro k b h
  show (c.dom k ∨ k = L.length) ∧ ¬ c.F b ∧ b < w'.heap.size
  rw [A.size]
  rcases hφ k b h with ⟨rfl, rfl⟩ | ⟨_, h⟩
  ·exact ⟨.inr rfl, fun hF => Nat.lt_irrefl _ (st.inF _ hF), Nat.lt_succ_self _⟩
  ·have := st.loc k b h; exact ⟨.inl this.1, this.2.1, Nat.lt_succ_of_lt this.2.2⟩
 ·intro k k' b h h'
  rcases hφ k b h with ⟨rfl, rfl⟩ | ⟨_, h⟩ <;> rcases hφ k' _ h' with ⟨e, e'⟩ | ⟨_, h'⟩
  ·exact e.symm
  ·exact absurd (st.loc k' _ h').2.2 (Nat.lt_irrefl _)
  ·exact absurd (e' ▸ (st.loc k _ h).2.2) (Nat.lt_irrefl _)
  ·exact st.inj k k' b h h'
 ·intro k y h
  rcases ZE h with ⟨h, hk⟩ | ⟨rfl, rfl⟩
  ·have hne : ¬ k = L.length := by omega
   exact BR.mono hs hm rfl ⟨if_neg hne, if_neg hne, if_neg hne, if_neg hne⟩ (zM y) (fun b hb => A.old b (st.loc k b hb).2.2) (st.blk k y h)
  ·exact hx
theorem St.nul (st : St G c L) (s : Nat) {x : LB} (hx : BR G (c.nul L.length s) L.length x) (hne : x ≠ .dead := by simp) : Stp G c (c.nul L.length s) (L ++ [x]) := by
 have hs := SubX.nul st s
 have hφ : ∀ k b, (c.nul L.length s).φ k = some b → k ≠ L.length ∧ c.φ k = some b := by
  intro k b h
  simp only [Cx.nul] at h
  split at h
  ·cases h
  ·rename_i e; exact ⟨e, h⟩
 have hm : Calm c (c.nul L.length s) := ⟨rfl, rfl, rfl, Nat.le_refl _, fun _ _ _ => rfl, fun b ⟨k, h⟩ => .inl ⟨k, (hφ k b h).2⟩, fun b h => .inl h⟩
 refine Stp.mk' hm hs rfl rfl rfl (st.calm hm hs (ye st) (Wz st) rfl rfl rfl st.inF ?_ ?_ ?_ (.inr yd)) (fun k h => h.imp id (fun e => ⟨x, by rw [e]; simp, hne⟩))
 ·intro k b h
  have := st.loc k b (hφ k b h).2; exact ⟨.inl this.1, this.2.1, this.2.2⟩
 ·intro k k' b h h'; exact st.inj k k' b (hφ k b h).2 (hφ k' b h').2
 ·intro k y h
  rcases ZE h with ⟨h, hk⟩ | ⟨rfl, rfl⟩
  ·have hne : ¬ k = L.length := by omega
   exact BR.mono hs hm rfl ⟨if_neg hne, if_neg hne, if_neg hne, if_neg hne⟩ (zM y) (fun b hb => rfl) (st.blk k y h)
  ·exact hx
theorem St.newF (st : St G c L) (A : Alloc c.w w' o) : Stp G c (c.newF w') L := by
 have hs := SubX.newF st A
 have hm : Calm c (c.newF w') := Calm.of_alloc A rfl (fun b h => .inl h) (fun b h => h)
 refine Stp.mk' hm hs rfl rfl rfl (st.calm hm hs st.n st.dm rfl rfl rfl ?_ ?_ st.inj ?_ (.inr id))
 ·intro b h; show b < w'.heap.size; rw [A.size]
  rcases h with h | h
  ·exact Nat.lt_succ_of_lt (st.inF b h)
  ·omega
 ·intro k b h
  have := st.loc k b h
  refine ⟨this.1, ?_, by show b < w'.heap.size; rw [A.size]; omega⟩
  rintro (h | h)
  ·exact this.2.1 h
  ·omega
 ·intro k y h
  exact BR.mono hs hm rfl ⟨rfl, rfl, rfl, rfl⟩ (zM y) (fun b hb => A.old b (st.loc k b hb).2.2) (st.blk k y h)
theorem set_dm {k : Nat} {x : LB} (st : St G c L) (hk : c.dom k) : ∀ j y, (L.set k x)[j]? = some y → y ≠ .dead → c.dom j := fun j y h hne => by
 rcases qG h with ⟨_, h⟩ | ⟨rfl, _, _⟩
 ·exact st.dm j y h hne
 ·exact hk
theorem St.wr (st : St G c L) {k b : Nat} (hb : c.φ k = some b) (hos : w'.os = c.w.os) (htape : w'.tape = c.w.tape) (hout : w'.output = c.w.output) (hsz : w'.heap.size = c.w.heap.size)
  (hoth : ∀ b', b' ≠ b → w'.heap[b']? = c.w.heap[b']?)
  (hrow : ∀ arr T, c.w.heap[b]? = some (.cells arr T (0, 0)) → ∃ arr', w'.heap[b]? = some (.cells arr' T (0, 0)) ∧ arr'.size = arr.size)
  (hne : L[k]? ≠ some .pin) {x : LB} (hx : SubX allp c { c with w := w' } → BR G { c with w := w' } k x) : Stp G c { c with w := w' } (L.set k x) := by
 have hs : SubX allp c { c with w := w' } := by
  refine ⟨fun _ h => h, fun x hx => hoth x (fun e => (st.loc k b hb).2.1 (e ▸ hx)), fun _ h _ => h, fun _ _ _ => Nat.le_refl _, fun _ _ _ _ => rfl, fun _ _ _ _ => rfl, fun _ _ _ _ => rfl, ?_⟩
  intro k' b' arr' T' _ _ _ hb' hh'
  by_cases e : b' = b
  ·subst e; exact hrow arr' T' hh'
  ·exact ⟨arr', (hoth b' e).trans hh', rfl⟩
 have hm : Calm c { c with w := w' } := ⟨hos, htape, hout, by show c.w.heap.size ≤ w'.heap.size; omega, fun b' _ h => hoth b' (fun e => h ⟨k, e ▸ hb⟩), fun b h => .inl h, fun b h => .inl h⟩
 refine Stp.mk' hm hs rfl rfl rfl (st.calm hm hs (by simpa using st.n) (show ∀ j y, (L.set k x)[j]? = some y → y ≠ .dead → c.dom j from set_dm st (st.loc k b hb).1) rfl rfl rfl ?_ ?_ st.inj ?_ (.inr (JH hne)))
 ·intro b' h; show b' < w'.heap.size; rw [hsz]; exact st.inF b' h
 ·intro k' b' h; show c.dom k' ∧ ¬ c.F b' ∧ b' < w'.heap.size; rw [hsz]; exact st.loc k' b' h
 ·intro j y h
  rcases qG h with ⟨hj, h⟩ | ⟨rfl, rfl, _⟩
  ·refine BR.mono hs hm rfl ⟨rfl, rfl, rfl, rfl⟩ (zM y) (fun b' hb' => hoth b' ?_) (st.blk j y h)
   intro e; subst e; exact hj (st.inj _ _ _ hb' hb)
  ·exact hx hs
theorem St.write (st : St G c L) {k b : Nat} (hb : c.φ k = some b) {arr cur : Array Value} {T : TypeId} (hh : c.w.heap[b]? = some (.cells arr T (0, 0))) (hsz : cur.size = arr.size)
  (hne : L[k]? ≠ some .pin) {x : LB} (hx : SubX allp c { c with w := c.w.setRow b cur } → BR G { c with w := c.w.setRow b cur } k x) : Stp G c { c with w := c.w.setRow b cur } (L.set k x) :=
 st.wr (w' := c.w.setRow b cur) hb rfl rfl rfl (by simp) (fun b' h => setRow_other _ _ _ _ h) (fun arr' T' h => by
  rw [hh] at h; injection h with e1; injection e1 with e1 e2 e3; subst e1 e2
  exact ⟨cur, setRow_heap _ _ _ _ _ _ hh, hsz⟩) hne hx
end
theorem qS {w : World} {b off : Nat} {xs ys : List Value} : w.rangeAt b off (xs ++ ys) ↔ w.rangeAt b off xs ∧ w.rangeAt b (off + xs.length) ys := by
 constructor
 ·intro h
  refine ⟨fun j v hj => h j v ?_, fun j v hj => ?_⟩
  ·rw [List.getElem?_append_left]
   ·exact hj
   ·rcases Nat.lt_or_ge j xs.length with h' | h'
    ·exact h'
    ·rw [List.getElem?_eq_none h'] at hj; cases hj
  ·have := h (xs.length + j) v (by rw [List.getElem?_append_right (by omega)]; simpa using hj)
   rwa [← Nat.add_assoc] at this
 ·rintro ⟨h1, h2⟩ j v hj
  rcases Nat.lt_or_ge j xs.length with h' | h'
  ·rw [List.getElem?_append_left h'] at hj; exact h1 j v hj
  ·rw [List.getElem?_append_right h'] at hj
   have := h2 _ v hj
   rwa [show off + xs.length + (j - xs.length) = off + j by omega] at this
def EL (F : Nat → Prop) (w : World) (sz : Nat) : List (List AV) → List Value → Prop
 | [], ys => ys = []
 | e :: r, ys => ∃ a b, ys = a ++ b ∧ e.length = sz ∧ LF F w e a ∧ EL F w sz r b
section
variable {F : Nat → Prop} {w : World} {sz : Nat}
theorem EL.length : ∀ {es : List (List AV)} {ys : List Value}, EL F w sz es ys → ys.length = es.length * sz
 | [], ys, h => by simp only [EL] at h; subst h; simp
 | e :: r, ys, h => by
  simp only [EL] at h
  obtain ⟨a, b, rfl, h1, h2, h3⟩ := h
  rw [List.length_append, EL.length h3, h2.length, h1, List.length_cons, Nat.add_mul]; omega
theorem EL.one : ∀ {es : List (List AV)} {ys : List Value}, EL F w sz es ys → ∀ u ∈ ys, u.oneCell' = true
 | [], ys, h => by simp only [EL] at h; subst h; simp
 | e :: r, ys, h => by
  simp only [EL] at h
  obtain ⟨a, b, rfl, h1, h2, h3⟩ := h
  intro u hu
  rcases List.mem_append.1 hu with hu | hu
  ·exact h2.one u hu
  ·exact EL.one h3 u hu
theorem EL.append : ∀ {es fs : List (List AV)} {ys zs : List Value}, EL F w sz es ys → EL F w sz fs zs → EL F w sz (es ++ fs) (ys ++ zs)
 | [], fs, ys, zs, h, g => by simp only [EL] at h; subst h; simpa using g
 | e :: r, fs, ys, zs, h, g => by
  simp only [EL] at h
  obtain ⟨a, b, rfl, h1, h2, h3⟩ := h
  simp only [List.cons_append, EL]
  exact ⟨a, b ++ zs, by rw [List.append_assoc], h1, h2, EL.append h3 g⟩
theorem EL.mono {F' : Nat → Prop} {w' : World} (hF : ∀ b, F b → F' b) (hw : ∀ b, F b → w'.heap[b]? = w.heap[b]?) : ∀ {es : List (List AV)} {ys : List Value}, EL F w sz es ys → EL F' w' sz es ys
 | [], ys, h => by simpa only [EL] using h
 | e :: r, ys, h => by
  simp only [EL] at h ⊢
  obtain ⟨a, b, e1, h1, h2, h3⟩ := h
  exact ⟨a, b, e1, h1, LF.mono hF hw _ _ h2, EL.mono hF hw h3⟩
theorem MF.of : ∀ {cs : List AV} {ys : List Value} {b off : Nat}, LF F w cs ys → w.rangeAt b off ys → MF F w cs b off
 | [], _, _, _, _, _ => by simp only [MF]
 | x :: r, ys, b, off, h, g => by
  simp only [LF] at h
  obtain ⟨y, s, rfl, hx, h1, h⟩ := h
  have g' := qS (xs := [y]).1 g
  simp only [MF]
  exact ⟨⟨y, by simpa using g'.1 0 y rfl, hx, h1⟩, MF.of h g'.2⟩
theorem EF.of : ∀ {es : List (List AV)} {ys : List Value} {b off : Nat}, EL F w sz es ys → w.rangeAt b off ys → EF F w sz es b off
 | [], _, _, _, _, _ => by simp only [EF]
 | e :: r, ys, b, off, h, g => by
  simp only [EL] at h
  obtain ⟨x, y, rfl, h1, h2, h3⟩ := h
  have g' := qS.1 g
  simp only [EF]
  exact ⟨h1, MF.of h2 g'.1, EF.of h3 (by rw [← h1, ← h2.length]; exact g'.2)⟩
theorem EF.vals : ∀ {es : List (List AV)} {b off : Nat}, EF F w sz es b off → ∃ xs : List Value, EL F w sz es xs ∧ w.rangeAt b off xs
 | [], _, _, _ => ⟨[], by simp only [EL], fun j v h => by simp at h⟩
 | e :: r, b, off, h => by
  simp only [EF] at h
  obtain ⟨h1, h2, h3⟩ := h
  obtain ⟨xs, hl, hL, hr, _⟩ := h2.vals
  obtain ⟨ys, hE, hr'⟩ := EF.vals h3
  refine ⟨xs ++ ys, ?_, qS.2 ⟨hr, by rw [hl, h1]; exact hr'⟩⟩
  simp only [EL]
  exact ⟨xs, ys, rfl, h1, hL, hE⟩
end
theorem ZG {w : World} {b off : Nat} {cur : Array Value} {T : TypeId} {fr : Nat × Nat} (h : w.heap[b]? = some (.cells cur T fr)) {xs : List Value}
  (hx : ∀ j v, xs[j]? = some v → cur[off + j]? = some v) : w.rangeAt b off xs := fun j v hj => by
 rw [cell_of_row w b (off + j) cur T fr h]; exact hx j v hj
def one : AV → Bool
 | .any => false
 | .v x => x.oneCell'
 | .agg _ | .lag _ | .tup _ => false
 | _ => true
theorem one_R {c : Cx} {x : AV} {y : Value} (h1 : one x = true) (h : R c x y) : y.oneCell' = true := by
 cases x <;> simp only [one, Bool.false_eq_true] at h1 <;> simp only [R, RF, OS] at h
 ·subst h; exact h1
 ·obtain ⟨_, a, cap, rfl, _⟩ := h; rfl
 ·obtain ⟨a, rfl⟩ := h; rfl
 ·obtain ⟨b, off, rfl, _⟩ := h; rfl
 ·obtain ⟨b, es, clock, rfl, _⟩ := h; rfl
 ·exact h.2.1
 ·exact h.2.2.1
 ·exact h.2.2.1
 ·exact h.2.1
 ·obtain ⟨xs, ys, rfl, _⟩ := h; rfl
 ·obtain ⟨u, rfl, _⟩ := h; rfl
mutual
def isF : AV → Bool
 | .any | .v _ | .fs _ _ _ | .fz | .fp _ | .agg _ | .fm _ _ => true
 | .fn _ asv bs => isFL asv && isFL bs
 | .ifc _ x => isF x
 | .tup cs => isFL cs
 | _ => false
def isFL : List AV → Bool
 | [] => true
 | x :: r => isF x && isFL r
end
mutual
theorem Q7 {c : Cx} : ∀ {x : AV} {y : Value}, isF x = true → R c x y → RF c.F c.w x y
 | .any, _, _, h => by simpa only [R, RF] using h
 | .v _, _, _, h => by simpa only [R, RF] using h
 | .fs _ _ _, _, _, h => by simpa only [R, RF] using h
 | .fz, _, _, h => by simpa only [R, RF] using h
 | .fp _, _, _, h => by simpa only [R, RF] using h
 | .fm _ _, _, _, h => by simpa only [R, RF] using h
 | .agg _, _, _, h => by simpa only [R, RF] using h
 | .tup cs, _, hf, h => by
  simp only [R] at h; simp only [RF]
  obtain ⟨xs, e, h⟩ := h
  exact ⟨xs, e, QE (by simpa only [isF] using hf) h⟩
 | .fn f asv bs, _, hf, h => by
  simp only [R] at h; simp only [RF]
  simp only [isF, Bool.and_eq_true] at hf
  obtain ⟨xs, ys, e, h, h2⟩ := h
  exact ⟨xs, ys, e, QE hf.1 h, QE hf.2 h2⟩
 | .ifc t x, _, hf, h => by
  simp only [R] at h; simp only [RF]
  obtain ⟨u, e, h⟩ := h
  exact ⟨u, e, Q7 (by simpa only [isF] using hf) h⟩
 | .lp _ _, _, hf, _ => by simp [isF] at hf
 | .ep _ _ _ _, _, hf, _ => by simp [isF] at hf
 | .os _ _, _, hf, _ => by simp [isF] at hf
 | .mp _, _, hf, _ => by simp [isF] at hf
 | .lag _, _, hf, _ => by simp [isF] at hf
theorem QE {c : Cx} : ∀ {cs : List AV} {ys : List Value}, isFL cs = true → TR c cs ys → TF c.F c.w cs ys
 | [], ys, _, h => by simpa only [TF, TR] using h
 | x :: r, ys, hf, h => by
  simp only [TR] at h; simp only [TF]
  simp only [isFL, Bool.and_eq_true] at hf
  obtain ⟨y, s, e, hx, h⟩ := h
  exact ⟨y, s, e, Q7 hf.1 hx, QE hf.2 h⟩
end
theorem isFL_all : ∀ {cs : List AV}, cs.all isF = true → isFL cs = true
 | [], _ => rfl
 | x :: r, h => by
  simp only [List.all_cons, Bool.and_eq_true] at h
  simp only [isFL, h.1, isFL_all h.2, Bool.and_self]
theorem MR.get {c : Cx} : ∀ {cs : List AV} {b off i : Nat} {x : AV}, MR c cs b off → cs[i]? = some x →
  ∃ u, c.w.cell? ⟨b, off + i, none⟩ = some u ∧ R c x u ∧ u.oneCell' = true
 | [], _, _, i, x, _, h => by simp at h
 | x0 :: r, b, off, i, x, h, hi => by
  simp only [MR] at h
  cases i with
  | zero => simp at hi; subst hi; exact h.1
  | succ i => have := MR.get h.2 (i := i) (by simpa using hi); rwa [show off + 1 + i = off + (i + 1) by omega] at this
theorem MR.mk {c : Cx} : ∀ {cs : List AV} {b off : Nat}, (∀ i x, cs[i]? = some x → ∃ u, c.w.cell? ⟨b, off + i, none⟩ = some u ∧ R c x u ∧ u.oneCell' = true) → MR c cs b off
 | [], _, _, _ => by simp only [MR]
 | x0 :: r, b, off, h => by
  simp only [MR]
  exact ⟨h 0 x0 rfl, MR.mk fun i x hi => by have := h (i + 1) x (by simpa using hi); rwa [show off + (i + 1) = off + 1 + i by omega] at this⟩
theorem MR.drop {c : Cx} {cs : List AV} {b off : Nat} (k : Nat) (h : MR c cs b off) : MR c (cs.drop k) b (off + k) :=
 MR.mk fun i x hi => by rw [List.getElem?_drop] at hi; have := h.get hi; rwa [← Nat.add_assoc] at this
theorem MR.take {c : Cx} {cs : List AV} {b off : Nat} (k : Nat) (h : MR c cs b off) : MR c (cs.take k) b off :=
 MR.mk fun i x hi => h.get (by rw [List.getElem?_take] at hi; split at hi; exact hi; cases hi)
theorem MR.vals {c : Cx} : ∀ {cs : List AV} {b off : Nat}, MR c cs b off → ∃ xs : List Value, xs.length = cs.length ∧ LR c cs xs ∧ c.w.rangeAt b off xs
 | [], _, _, _ => ⟨[], rfl, by simp only [LR], fun j v h => by simp at h⟩
 | x :: r, b, off, h => by
  simp only [MR] at h
  obtain ⟨⟨u, hc, hx, h1⟩, h⟩ := h
  obtain ⟨xs, hl, hL, hr⟩ := MR.vals h
  refine ⟨u :: xs, by simp [hl], ?_, ?_⟩
  ·simp only [LR]; exact ⟨u, xs, rfl, hx, h1, hL⟩
  ·intro j v hj
   cases j with
   | zero => simp at hj; subst hj; exact hc
   | succ j => have := hr j v (by simpa using hj); rwa [show off + 1 + j = off + (j + 1) by omega] at this
theorem LR.get {c : Cx} : ∀ {cs : List AV} {ys : List Value} {i : Nat} {x : AV}, LR c cs ys → cs[i]? = some x → ∃ y, ys[i]? = some y ∧ R c x y ∧ y.oneCell' = true
 | [], _, i, x, _, h => by simp at h
 | x0 :: r, ys, i, x, h, hi => by
  simp only [LR] at h
  obtain ⟨y, s, rfl, hx, h1, hr⟩ := h
  cases i with
  | zero => simp at hi; subst hi; exact ⟨y, rfl, hx, h1⟩
  | succ i => obtain ⟨y', h1, h2⟩ := LR.get hr (by simpa using hi); exact ⟨y', by simpa using h1, h2⟩
theorem LR.length {c : Cx} : ∀ {cs : List AV} {ys : List Value}, LR c cs ys → ys.length = cs.length
 | [], ys, h => by simp only [LR] at h; subst h; rfl
 | x :: r, ys, h => by
  simp only [LR] at h
  obtain ⟨y, s, rfl, _, h1, h⟩ := h
  simp [LR.length h]
theorem LR.one {c : Cx} : ∀ {cs : List AV} {ys : List Value}, LR c cs ys → ∀ u ∈ ys, u.oneCell' = true
 | [], ys, h => by simp only [LR] at h; subst h; simp
 | x :: r, ys, h => by
  simp only [LR] at h
  obtain ⟨y, s, rfl, _, h1, h⟩ := h
  intro u hu
  rcases List.mem_cons.1 hu with e | hu
  ·subst e; exact h1
  ·exact LR.one h u hu
theorem LR.of_LF {c : Cx} : ∀ {cs : List AV} {ys : List Value}, LF c.F c.w cs ys → LR c cs ys
 | [], ys, h => by simpa only [LF, LR] using h
 | x :: r, ys, h => by
  simp only [LF] at h; simp only [LR]
  obtain ⟨y, s, e, hx, h1, h⟩ := h
  exact ⟨y, s, e, R.of_RF _ _ _ hx, h1, LR.of_LF h⟩
theorem Qe {c : Cx} : ∀ {cs : List AV} {ys : List Value}, cs.all isF = true → LR c cs ys → LF c.F c.w cs ys
 | [], ys, _, h => by simpa only [LF, LR] using h
 | x :: r, ys, hf, h => by
  simp only [LR] at h; simp only [LF]
  simp only [List.all_cons, Bool.and_eq_true] at hf
  obtain ⟨y, s, e, hx, h1, h⟩ := h
  exact ⟨y, s, e, Q7 hf.1 hx, h1, Qe hf.2 h⟩
def cellsOf : AV → List AV
 | .agg cs => cs
 | .lag cs => cs
 | x => [x]
theorem WN {c : Cx} {x : AV} {y : Value} (h : R c x y) (h1 : one x = true ∨ (∃ cs, x = .agg cs) ∨ ∃ cs, x = .lag cs) : LR c (cellsOf x) y.cells.toList := by
 rcases h1 with h1 | ⟨cs, rfl⟩ | ⟨cs, rfl⟩
 ·have ho := one_R h1 h
  have e1 : cellsOf x = [x] := by cases x <;> first | rfl | (simp [one] at h1)
  have e2 : y.cells = #[y] := by cases y <;> first | rfl | (simp [Value.oneCell'] at ho)
  rw [e1, e2]
  simp only [LR]
  exact ⟨y, [], rfl, h, ho, rfl⟩
 ·simp only [R, RF] at h
  obtain ⟨xs, rfl, h⟩ := h
  exact LR.of_LF h
 ·simp only [R] at h
  obtain ⟨xs, rfl, h⟩ := h
  exact h
def fit : AV → Bool
 | .agg _ | .lag _ => true
 | x => one x
theorem j3 {x : AV} (h : fit x = true) : one x = true ∨ (∃ cs, x = .agg cs) ∨ ∃ cs, x = .lag cs := by
 cases x <;> first | exact .inl h | exact .inr (.inl ⟨_, rfl⟩) | exact .inr (.inr ⟨_, rfl⟩)
section
variable {P : Program} {td : TDs} [T : TOK P td] {G : Glo} {N : Nat} {Q : AQ} {S : SL} {L : List LB}
 {op : Op} {ty : TypeId} {x : AV}
theorem yY {t : TypeId} {u : Operand} {k : Nat} {L' : List LB} (h : val G S u = some x) (hf : fit x = true) (hk : L.length = k) (hL : L ++ [.box (cellsOf x)] = L') : Ev2 P G N (.box t u) ty S L (.lp k 0) L' := by
 subst hk hL
 intro o ho _ cx a hc
 have hx := zn hc h
 have hcs := WN hx (j3 hf)
 have A := Alloc.alloc cx.w (.cells (a.eval u).cells t)
 have hs := SubX.new hc.st A 0 0
 have hb : BR G (cx.new L.length (cx.w.alloc (.cells (a.eval u).cells t)) 0 0) L.length (.box (cellsOf x)) := by
  simp only [BR]
  refine ⟨by simp [Cx.new], cx.w.heap.size, (a.eval u).cells, t, by simp [Cx.new], A.new, by have := hcs.length; simp at this; omega, ?_⟩
  refine MR.mk fun i z hi => ?_
  obtain ⟨y, h1, h2, h3⟩ := hcs.get hi
  refine ⟨y, ?_, R.mono hs _ _ (Zh z) h2, h3⟩
  show (cx.w.alloc _).cell? _ = _
  rw [cell_of_row _ _ _ _ _ _ A.new]
  simpa using h1
 refine ⟨.pointer (some ⟨cx.w.heap.size, 0, none⟩), cx.new L.length (cx.w.alloc (.cells (a.eval u).cells t)) 0 0, ?_, ?_, hc.st.new A 0 0 hb⟩
 ·simp only [execOp, ho, Instr.box, newVar, newRow, Sem.run_bind, run_newObj, Result.andThen_ok, Sem.run_pure]; rfl
 ·simp only [R]; exact ⟨by simp [Cx.new], rfl, fun _ => ⟨cx.w.heap.size, by simp [Cx.new], rfl⟩⟩
theorem QB {t : TypeId} {d : TD} {k : Nat} {L' : List LB} (ht : lk td t = some d) (hz : d.zero.all (·.oneCell') = true) (hk : L.length = k) (hL : L ++ [.box (d.zero.map .v)] = L') : Ev2 P G N (.alloc t) ty S L (.lp k 0) L' := by
 subst hk hL
 intro o ho _ cx a hc
 obtain ⟨i, u, z, h1, h2, h3, h4, h5, h6, h7⟩ := zA (P := P) ht
 have A := Alloc.alloc cx.w (.cells z.cells t)
 have hs := SubX.new hc.st A 0 0
 have hb : BR G (cx.new L.length (cx.w.alloc (.cells z.cells t)) 0 0) L.length (.box (d.zero.map .v)) := by
  simp only [BR]
  refine ⟨by simp [Cx.new], cx.w.heap.size, z.cells, t, by simp [Cx.new], A.new, by rw [← h7]; simp, ?_⟩
  refine MR.mk fun i w hi => ?_
  rw [List.getElem?_map] at hi
  cases hq : d.zero[i]? with
  | none => simp [hq] at hi
  | some y =>
   simp only [hq, Option.map_some, Option.some.injEq] at hi
   subst hi
   refine ⟨y, ?_, by simp only [R], (List.all_eq_true.1 hz) y (List.mem_of_getElem? hq)⟩
   show (cx.w.alloc _).cell? _ = _
   rw [cell_of_row _ _ _ _ _ _ A.new]
   rw [← h7] at hq
   simpa using hq
 refine ⟨.pointer (some ⟨cx.w.heap.size, 0, none⟩), cx.new L.length (cx.w.alloc (.cells z.cells t)) 0 0, ?_, ?_, hc.st.new A 0 0 hb⟩
 ·simp [execOp, ho, Instr.alloc, zeroValue, typeInfo, h1, h3, newVar, newRow, Cx.new]
 ·simp only [R]; exact ⟨by simp [Cx.new], rfl, fun _ => ⟨cx.w.heap.size, by simp [Cx.new], rfl⟩⟩
theorem Z3 {t : Nat} {d : TD} {u : Operand} {k q : Nat} {bs : List AV} {c : AV} (h : val G S u = some (.lp k q)) (hk : L[k]? = some (.box bs)) (ht : lk td t = some d) (hr : d.k.row = false) (hcs : bs[q]? = some c) :
  Ev P G N (.load t u) ty S L c := by
 intro o ho _ cx a hc
 have e1 := zn hc h
 have hb := hc.st.blk _ _ hk
 simp only [R] at e1
 simp only [BR] at hb
 obtain ⟨hv0, b2, arr, T', hb2, hh, hl, hm⟩ := hb
 obtain ⟨hk', _, e1⟩ := e1
 obtain ⟨b, hb', e1⟩ := e1 hv0
 rw [hb'] at hb2; injection hb2 with hb2; subst hb2
 obtain ⟨y, hy, hx, _⟩ := hm.get hcs
 rw [Nat.zero_add] at hy
 exact ⟨y, by simp [execOp, ho, e1, Instr.loadAt, Instr.sureAddr, jp (P := P) ht hr hy], hx⟩
theorem loadR_agg {t : Nat} {d : TD} (ht : lk td t = some d) (hr : d.k.row = true) {c : Cx} {cs : List AV} {b off : Nat} (hm : MR c cs b off) (hn : cs.length = d.size) :
  ∃ xs : List Value, (loadVar t ⟨b, off, none⟩).run P c.w = .ok (.agg xs.toArray) c.w ∧ LR c cs xs := by
 obtain ⟨i, u, z, h1, h2, h3, h4, h5, h6, h7⟩ := zA (P := P) ht
 obtain ⟨xs, hl, hL, hra⟩ := hm.vals
 exact ⟨xs, run_loadVar_mid c.w b off t xs u hra h2 (by rw [wo, h4, hr]) (by simp [h1, h5, hl, hn]), hL⟩
theorem ZP {t : Nat} {d : TD} {u : Operand} {k q : Nat} {bs es : List AV} (h : val G S u = some (.lp k q)) (hk : L[k]? = some (.box bs)) (ht : lk td t = some d) (hr : d.k.row = true) (hcs : (bs.drop q).take d.size = es) (hn : es.length = d.size) :
  Ev P G N (.load t u) ty S L (.lag es) := by
 intro o ho _ cx a hc
 have e1 := zn hc h
 have hb := hc.st.blk _ _ hk
 simp only [R] at e1
 simp only [BR] at hb
 obtain ⟨hv0, b2, arr, T', hb2, hh, hl, hm⟩ := hb
 obtain ⟨hk', _, e1⟩ := e1
 obtain ⟨b, hb', e1⟩ := e1 hv0
 rw [hb'] at hb2; injection hb2 with hb2; subst hb2
 have hm2 : MR cx es b q := by have := (hm.drop q).take d.size; rw [hcs, Nat.zero_add] at this; exact this
 obtain ⟨xs, h1, h2⟩ := loadR_agg (P := P) ht hr hm2 hn
 exact ⟨.agg xs.toArray, by simp [execOp, ho, e1, Instr.loadAt, Instr.sureAddr, h1], by simp only [R]; exact ⟨_, rfl, h2⟩⟩
theorem Z4 {t : Nat} {d : TD} {u : Operand} {k q : Nat} {bs es : List AV} (h : val G S u = some (.lp k q)) (hk : L[k]? = some (.box bs)) (ht : lk td t = some d) (hr : d.k.row = true) (hcs : (bs.drop q).take d.size = es) (hn : es.length = d.size)
  (hf : es.all isF = true) : Ev P G N (.load t u) ty S L (.agg es) := by
 intro o ho h0 cx a hc
 obtain ⟨y, h1, h2⟩ := ZP (P := P) h hk ht hr hcs hn o ho h0 cx a hc
 refine ⟨y, h1, ?_⟩
 simp only [R, RF] at h2 ⊢
 obtain ⟨xs, e, h2⟩ := h2
 exact ⟨xs, e, Qe hf h2⟩
theorem Z7 {t : Nat} {d : TD} {u : Operand} {k v i q E sz : Nat} {es : List (List AV)} {e : List AV} {c : AV} (h : val G S u = some (.ep k v i q)) (hk : L[k]? = some (.own v E sz es)) (ht : lk td t = some d) (hr : d.k.row = false)
  (he : es[i]? = some e) (hcs : e[q]? = some c) : Ev P G N (.load t u) ty S L c := by
 intro o ho _ cx a hc
 have e1 := zn hc h
 have hb := hc.st.blk _ _ hk
 simp only [R] at e1
 simp only [BR] at hb
 obtain ⟨hv0, hsz, hln, hb⟩ := hb
 obtain ⟨hk', _, _, e1⟩ := e1
 obtain ⟨b, hb', e1⟩ := e1 hv0
 rcases hb with ⟨h0, _⟩ | ⟨b2, arr, hb2, hh, hl, hm⟩
 ·rw [h0] at hb'; cases hb'
 ·rw [hb'] at hb2; injection hb2 with hb2; subst hb2
  obtain ⟨y, hy, hx, _⟩ := (hm.get he).2.get hcs
  rw [Nat.zero_add, ← hsz] at hy
  exact ⟨y, by simp [execOp, ho, e1, Instr.loadAt, Instr.sureAddr, jp (P := P) ht hr hy], R.of_RF _ _ _ hx⟩
theorem zx {t : Nat} {d : TD} {u : Operand} {k v i q E sz : Nat} {es : List (List AV)} {e f : List AV} (h : val G S u = some (.ep k v i q)) (hk : L[k]? = some (.own v E sz es)) (ht : lk td t = some d) (hr : d.k.row = true)
  (he : es[i]? = some e) (hcs : (e.drop q).take d.size = f) (hn : f.length = d.size) : Ev P G N (.load t u) ty S L (.agg f) := by
 intro o ho _ cx a hc
 have e1 := zn hc h
 have hb := hc.st.blk _ _ hk
 simp only [R] at e1
 simp only [BR] at hb
 obtain ⟨hv0, hsz, hln, hb⟩ := hb
 obtain ⟨hk', _, _, e1⟩ := e1
 obtain ⟨b, hb', e1⟩ := e1 hv0
 rcases hb with ⟨h0, _⟩ | ⟨b2, arr, hb2, hh, hl, hm⟩
 ·rw [h0] at hb'; cases hb'
 ·rw [hb'] at hb2; injection hb2 with hb2; subst hb2
  have hm2 := ((hm.get he).2.drop q).take d.size
  rw [hcs, Nat.zero_add, ← hsz] at hm2
  obtain ⟨xs, h1, h2⟩ := yM (P := P) ht hr hm2 hn
  exact ⟨.agg xs.toArray, by simp [execOp, ho, e1, Instr.loadAt, Instr.sureAddr, h1], by simp only [R, RF]; exact ⟨_, rfl, h2⟩⟩
theorem run_storeAt' {t : Nat} {d : TD} (ht : lk td t = some d) {w : World} {b off : Nat} {arr : Array Value} {T' : TypeId} (hh : w.heap[b]? = some (.cells arr T' (0, 0))) {v : Value} (hn : v.cells.size = d.size) (hfit : off + v.cells.size ≤ arr.size)
  (h1 : ∀ u ∈ v.cells.toList, u.oneCell' = true) :
  (Instr.storeAt t (.pointer (some ⟨b, off, none⟩)) v).run P w = .ok () (w.setRow b (arr.toList.take off ++ v.cells.toList ++ arr.toList.drop (off + v.cells.size)).toArray) := by
 have := run_storeCells_at (P := P) b off T' v.cells.toList 0 arr w hh (by simpa using hfit) h1
 simp only [Nat.add_zero, Array.length_toList] at this
 simp [Instr.storeAt, Instr.sureAddr, storeVar, run_sizeOf' (P := P) ht, hn, this]
theorem W5 {arr vs : List Value} {off j : Nat} (h : off + vs.length ≤ arr.length) :
  (arr.take off ++ vs ++ arr.drop (off + vs.length))[j]? = if j < off then arr[j]? else if j < off + vs.length then vs[j - off]? else arr[j]? := by
 have hl : (arr.take off).length = off := by rw [List.length_take]; omega
 by_cases h1 : j < off
 ·rw [if_pos h1, List.append_assoc, List.getElem?_append_left (by omega), List.getElem?_take, if_pos h1]
 ·rw [if_neg h1]
  by_cases h2 : j < off + vs.length
  ·rw [if_pos h2, List.append_assoc, List.getElem?_append_right (by omega), hl, List.getElem?_append_left (by omega)]
  ·rw [if_neg h2, List.getElem?_append_right (by simp; omega), List.getElem?_drop]
   congr 1
   simp; omega
theorem qf {t : Nat} {d : TD} {u e : Operand} {k q : Nat} {bs : List AV} (h : val G S u = some (.lp k q)) (hk : L[k]? = some (.box bs)) (he : val G S e = some x) (hfx : fit x = true) (ht : lk td t = some d)
  (hn : (cellsOf x).length = d.size) (hq : Nat.ble (q + d.size) bs.length = true) {L' : List LB} (hL : L.set k (.box (bs.take q ++ cellsOf x ++ bs.drop (q + d.size))) = L') :
  EvS P G N (.store t u e) ty S L L' := by
 subst hL
 replace hq := Nat.le_of_ble_eq_true hq
 intro o ho _ cx a hc
 have e1 := zn hc h
 have hx := zn hc he
 have hcs := WN hx (j3 hfx)
 have hb := hc.st.blk _ _ hk
 simp only [R] at e1
 simp only [BR] at hb
 obtain ⟨hv0, b2, arr, T', hb2, hh, hl, hm⟩ := hb
 obtain ⟨hk', _, e1⟩ := e1
 obtain ⟨b, hb', e1⟩ := e1 hv0
 rw [hb'] at hb2; injection hb2 with hb2; subst hb2
 have hvl : (a.eval e).cells.size = d.size := by rw [← hn, ← hcs.length]; simp
 have hr := run_storeAt' (P := P) (off := q) ht hh hvl (by omega) hcs.one
 generalize hcur : (arr.toList.take q ++ (a.eval e).cells.toList ++ arr.toList.drop (q + (a.eval e).cells.size)).toArray = cur at hr
 have hcs' : cur.size = arr.size := by rw [← hcur]; simp; omega
 have hget : ∀ j, cur[j]? = if j < q then arr[j]? else if j < q + (a.eval e).cells.size then (a.eval e).cells[j - q]? else arr[j]? := by
  intro j
  have := W5 (arr := arr.toList) (vs := (a.eval e).cells.toList) (off := q) (j := j) (by simp; omega)
  rw [← hcur]
  simpa using this
 have hbr : SubX allp cx { cx with w := cx.w.setRow b cur } → BR G { cx with w := cx.w.setRow b cur } k (.box (bs.take q ++ cellsOf x ++ bs.drop (q + d.size))) := by
  intro hs
  simp only [BR]
  refine ⟨hv0, b, cur, T', hb', setRow_heap _ _ _ _ _ _ hh, by simp [hn]; omega, ?_⟩
  refine MR.mk fun i z hi => ?_
  rw [Nat.zero_add]
  show ∃ u, (cx.w.setRow b cur).cell? _ = some u ∧ _
  rw [cell_setRow_same _ _ _ _ _ _ _ hh, hget]
  have hl2 : (bs.take q).length = q := by rw [List.length_take]; omega
  by_cases h1 : i < q
  ·rw [if_pos h1]
   rw [List.append_assoc, List.getElem?_append_left (by omega), List.getElem?_take, if_pos h1] at hi
   obtain ⟨y, h2, h3, h4⟩ := hm.get hi
   rw [Nat.zero_add, cell_of_row _ _ _ _ _ _ hh] at h2
   exact ⟨y, h2, R.mono hs _ _ (Zh z) h3, h4⟩
  ·rw [if_neg h1]
   by_cases h2 : i < q + d.size
   ·rw [if_pos (by omega)]
    rw [List.append_assoc, List.getElem?_append_right (by omega), hl2, List.getElem?_append_left (by omega)] at hi
    obtain ⟨y, h3, h4, h5⟩ := hcs.get hi
    exact ⟨y, by simpa using h3, R.mono hs _ _ (Zh z) h4, h5⟩
   ·rw [if_neg (by omega)]
    rw [List.getElem?_append_right (by simp; omega), List.getElem?_drop] at hi
    have : q + d.size + (i - (bs.take q ++ cellsOf x).length) = i := by simp; omega
    rw [this] at hi
    obtain ⟨y, h3, h4, h5⟩ := hm.get hi
    rw [Nat.zero_add, cell_of_row _ _ _ _ _ _ hh] at h3
    exact ⟨y, h3, R.mono hs _ _ (Zh z) h4, h5⟩
 exact ⟨{ cx with w := cx.w.setRow b cur }, by simp only [execOp, ho, e1, Sem.run_bind, hr, Result.andThen_ok, Sem.run_pure], hc.st.write hb' hh hcs' (by rw [hk]; simp) hbr⟩
end
end
section
def Cx.upd (c : Cx) (k : Nat) (nb : Option Nat) (ln : Nat) (w' : World) : Cx :=
 { c with φ := fun j => if j = k then nb else c.φ j, ver := fun j => if j = k then c.ver k + 1 else c.ver j, len := fun j => if j = k then ln else c.len j, w := w' }
section
variable {G : Glo} {c : Cx} {L : List LB} {w' : World}
theorem St.upd (st : St G c L) {k : Nat} {nb : Option Nat} {ln : Nat} (hos : w'.os = c.w.os) (htape : w'.tape = c.w.tape) (hout : w'.output = c.w.output) (hsz : c.w.heap.size ≤ w'.heap.size)
  (hkeep : ∀ b, b < c.w.heap.size → c.φ k ≠ some b → w'.heap[b]? = c.w.heap[b]?) (hnb : nb = c.φ k ∨ ∃ z, nb = some z ∧ c.w.heap.size ≤ z ∧ z < w'.heap.size)
  (hk : c.dom k) (hne : L[k]? ≠ some .pin) {x : LB} (hx : SubX allp c (c.upd k nb ln w') → BR G (c.upd k nb ln w') k x) :
  Stp G c (c.upd k nb ln w') (L.set k x) := by
 have hver : ∀ j, j ≠ k → (c.upd k nb ln w').ver j = c.ver j := fun j h => if_neg h
 have hne' : ∀ {j}, (c.upd k nb ln w').ver j = c.ver j → j ≠ k := by
  intro j h e
  subst e
  simp only [Cx.upd, if_true] at h
  omega
 have hs : SubX allp c (c.upd k nb ln w') := by
  refine ⟨fun _ h => h, fun b h => hkeep b (st.inF b h) (fun e => (st.loc k b e).2.1 h), fun _ h _ => h, ?_, fun j _ _ h => if_neg (hne' h), fun _ _ _ _ => rfl, fun j _ _ h => if_neg (hne' h), ?_⟩
  ·intro j _ _
   by_cases e : j = k
   ·subst e; simp [Cx.upd]
   ·rw [hver j e]; exact Nat.le_refl _
  ·intro j b arr T _ _ hj hb hh
   exact ⟨arr, (hkeep b (st.loc j b hb).2.2 (fun e => hne' hj (st.inj _ _ _ hb e))).trans hh, rfl⟩
 have hφ : ∀ j b, (c.upd k nb ln w').φ j = some b → (j ≠ k ∧ c.φ j = some b) ∨ (j = k ∧ c.φ k = some b) ∨ (j = k ∧ c.w.heap.size ≤ b ∧ b < w'.heap.size) := by
  intro j b h
  simp only [Cx.upd] at h
  split at h
  ·rename_i e
   rcases hnb with h1 | ⟨z, h1, h2, h3⟩
   ·rw [h1] at h; exact .inr (.inl ⟨e, h⟩)
   ·rw [h1] at h; injection h with h; subst h; exact .inr (.inr ⟨e, h2, h3⟩)
  ·rename_i e; exact .inl ⟨e, h⟩
 have hm : Calm c (c.upd k nb ln w') := by
  refine ⟨hos, htape, hout, hsz, fun b hb h => hkeep b hb (fun e => h ⟨k, e⟩), fun b ⟨j, h⟩ => ?_, fun b h => .inl h⟩
  rcases hφ j b h with ⟨_, h⟩ | ⟨_, h⟩ | ⟨_, h, _⟩
  ·exact .inl ⟨j, h⟩
  ·exact .inl ⟨k, h⟩
  ·exact .inr h
 refine Stp.mk' hm hs rfl rfl rfl (st.calm hm hs (by simpa [Cx.upd] using st.n) (show ∀ j y, (L.set k x)[j]? = some y → y ≠ .dead → c.dom j from set_dm st hk) rfl rfl rfl (fun b h => Nat.lt_of_lt_of_le (st.inF b h) hsz) ?_ ?_ ?_ (.inr (JH hne)))
 ·intro j b h
  show c.dom j ∧ ¬ c.F b ∧ b < w'.heap.size
  rcases hφ j b h with ⟨_, h⟩ | ⟨rfl, h⟩ | ⟨rfl, h1, h2⟩
  ·have := st.loc j b h; exact ⟨this.1, this.2.1, Nat.lt_of_lt_of_le this.2.2 hsz⟩
  ·have := st.loc j b h; exact ⟨this.1, this.2.1, Nat.lt_of_lt_of_le this.2.2 hsz⟩
  ·exact ⟨hk, fun hF => by have := st.inF b hF; omega, h2⟩
 ·intro j j' b h h'
  rcases hφ j b h with ⟨n1, g⟩ | ⟨e1, g⟩ | ⟨e1, h1, h2⟩ <;> rcases hφ j' b h' with ⟨n2, g'⟩ | ⟨e2, g'⟩ | ⟨e2, h1', h2'⟩
  ·exact st.inj _ _ _ g g'
  ·rw [e2]; exact st.inj _ _ _ g g'
  ·have := (st.loc _ _ g).2.2; omega
  ·rw [e1]; exact st.inj _ _ _ g g'
  ·rw [e1, e2]
  ·rw [e1, e2]
  ·have := (st.loc _ _ g').2.2; omega
  ·rw [e1, e2]
  ·rw [e1, e2]
 ·intro j y h
  rcases qG h with ⟨hj, h⟩ | ⟨rfl, rfl, _⟩
  ·refine BR.mono hs hm rfl ⟨if_neg hj, if_neg hj, rfl, if_neg hj⟩ (zM y) (fun b hb => hkeep b (st.loc j b hb).2.2 (fun e => hj (st.inj _ _ _ hb e))) (st.blk j y h)
  ·exact hx hs
end
def src (L : List LB) : AV → Option (List (List AV))
 | .fs _ _ es => some es
 | .os k v => match L[k]? with
  | some (.own v' _ _ es) => bif Nat.beq v' v then some es else none
  | _ => none
 | .v (.slice none 0 0) => some []
 | .fz => some []
 | _ => none
def srcSz (L : List LB) (sz : Nat) : AV → Bool
 | .fs s _ _ => Nat.beq s sz
 | .os k _ => match L[k]? with
  | some (.own _ _ s _) => Nat.beq s sz
  | _ => false
 | _ => true
theorem src_R {G : Glo} {c : Cx} {L : List LB} (st : St G c L) {x : AV} {y : Value} {es : List (List AV)} {sz : Nat} (hx : R c x y) (hs : src L x = some es) (hz : srcSz L sz x = true) :
  ∃ a cap, y = .slice a es.length cap ∧ es.length ≤ cap ∧ (es.length ≠ 0 → ∃ b off, a = some ⟨b, off, none⟩ ∧ EF c.F c.w sz es b off ∧ b < c.w.heap.size) := by
 unfold src at hs
 split at hs
 ·injection hs with hs; subst hs
  simp only [R, RF] at hx
  simp only [srcSz] at hz
  have := Nat.eq_of_beq_eq_true hz; subst this
  obtain ⟨hl, a, cap, rfl, hc, hm⟩ := hx
  subst hl
  exact ⟨a, cap, rfl, hc, fun h => by obtain ⟨b, off, h1, h2, h3⟩ := hm h; exact ⟨b, off, h1, h3, st.inF b h2⟩⟩
 ·rename_i k v
  split at hs
  ·rename_i v' E s es' hk
   cases hv : Nat.beq v' v with
   | false => rw [hv] at hs; cases hs
   | true =>
   rw [hv] at hs
   have hv := Nat.eq_of_beq_eq_true hv; subst hv
   simp only [cond_true] at hs
   injection hs with hs; subst hs
   simp only [srcSz, hk] at hz
   have := Nat.eq_of_beq_eq_true hz; subst this
   have hb := st.blk _ _ hk
   simp only [R, OS] at hx
   simp only [BR] at hb
   obtain ⟨h0, h1, h2, hb⟩ := hb
   obtain ⟨_, _, _, hx⟩ := hx
   rcases hx h0 with ⟨h3, rfl, h4⟩ | ⟨b, cap, arr, T, h3, rfl, h4, h5, h6, h7⟩
   ·rcases hb with ⟨_, rfl⟩ | ⟨b, arr, h5, _⟩
    ·exact ⟨none, 0, rfl, Nat.le_refl _, fun h => absurd rfl h⟩
    ·rw [h4] at h5; cases h5
   ·rcases hb with ⟨h8, rfl⟩ | ⟨b', arr', h8, h9, h10, h11⟩
    ·rw [h3] at h8; cases h8
    ·rw [h3] at h8; injection h8 with h8; subst h8
     rw [h2] at h5 ⊢
     exact ⟨_, cap, rfl, h5, fun _ => ⟨b, 0, rfl, h11, (st.loc _ _ h3).2.2⟩⟩
  ·cases hs
 ·injection hs with hs; subst hs
  simp only [R] at hx; subst hx
  exact ⟨none, 0, rfl, Nat.le_refl _, fun h => absurd rfl h⟩
 ·injection hs with hs; subst hs
  simp only [R] at hx
  obtain ⟨a, rfl⟩ := hx
  exact ⟨a, 0, rfl, Nat.le_refl _, fun h => absurd rfl h⟩
 ·cases hs
section
variable {P : Program} {td : TDs} [T : TOK P td] {G : Glo} {N : Nat} {Q : AQ} {S S' : SL} {L : List LB}
 {op : Op} {ty : TypeId} {x : AV}
theorem Wt {t e : Nat} {d ed : TD} (ht : lk td t = some d) (hs : d.k = .slice e) (he : lk td e = some ed) (w : World) (ty : Nat) (v : Value) (hv : v = .slice none 0 0 ∨ ∃ b n cap, v = .slice (some b) n cap ∧ n ≤ cap)
  (a : Option Addr) (cp : Nat) : (Builtin.append_ #[t, t] ty #[v, .slice a 0 cp]).run P w = .ok v w := by
 obtain ⟨i, u, z, h1, h2, h3, h4, h5, h6, h7⟩ := zA (P := P) he
 have hf : (Builtin.firstCells i.size 0 (.slice a 0 cp)).run P w = .ok #[] w := by
  cases a with
  | none => simp [Builtin.firstCells]
  | some a => simp [Builtin.firstCells, loadCells, loadCellsFrom]
 rcases hv with rfl | ⟨b, n, cap, rfl, hle⟩
 ·simp [Builtin.append_, run_underlying (zH (P := P) ht hs), sizeOf, typeInfo, h1, Builtin.lenOf, hf]
 ·simp [Builtin.append_, run_underlying (zH (P := P) ht hs), sizeOf, typeInfo, h1, Builtin.lenOf, hf, hle, storeCells]
theorem ev_append {t e k v sz : Nat} {d ed : TD} {u q : Operand} {es new : List (List AV)} {ats : Array TypeId} (h : val G S u = some (.os k v)) (hk : L[k]? = some (.own v e sz es)) (hq : val G S q = some x) (hsrc : src L x = some new) (hssz : srcSz L sz x = true)
  (hat : ats = #[t, t]) (ht : lk td t = some d) (hs : d.k = .slice e) (he : lk td e = some ed) (hsz : ed.size = sz) (hzl : ed.zero.length = sz) (hpos : Nat.blt 0 sz = true)
  (hb : (es.length + new.length) * ed.bytes ≤ 140737488355328 ∧ es.length + new.length ≤ maxLen) :
  Ev2 P G N (.call { callee := .builtin .append, args := #[u, q], argTypes := ats }) ty S L (.os k (v + 1)) (L.set k (.own (v + 1) e sz (es ++ new))) := by
 intro o ho _ cx a hc
 subst hat
 have e1 := zn hc h
 have e2 := zn hc hq
 have hbk := hc.st.blk _ _ hk
 obtain ⟨ad, cp, ey, hcp, hsm⟩ := src_R hc.st e2 hsrc hssz
 obtain ⟨i, ud, z, h1, h2, h3, h4, h5, h6, h7⟩ := zA (P := P) he
 have hsd := zH (P := P) ht hs
 have hpos' : 0 < sz := Nat.le_of_ble_eq_true hpos
 have hzs : z.cells.size = sz := by rw [← hzl, ← h7]; simp
 simp only [R, OS] at e1
 simp only [BR] at hbk
 obtain ⟨b0, b1, b2, hbk⟩ := hbk
 obtain ⟨hkn, _, _, e1⟩ := e1
 replace e1 := e1 b0
 have hmax : es.length + new.length ≤ 9223372036854775807 := by have := hb.2; simp only [maxLen] at this; omega
 -- the end, from a run and the new place
 have fin : ∀ (nb : Option Nat) (w' : World) (y : Value), (Builtin.append_ #[t, t] o.type #[a.eval u, a.eval q]).run P cx.w = .ok y w' →
   w'.os = cx.w.os → w'.tape = cx.w.tape → w'.output = cx.w.output → cx.w.heap.size ≤ w'.heap.size →
   (∀ b, b < cx.w.heap.size → cx.φ k ≠ some b → w'.heap[b]? = cx.w.heap[b]?) → (nb = cx.φ k ∨ ∃ z, nb = some z ∧ cx.w.heap.size ≤ z ∧ z < w'.heap.size) →
   (SubX allp cx (cx.upd k nb (es ++ new).length w') → ((nb = none ∧ es ++ new = []) ∨ ∃ b arr, nb = some b ∧ w'.heap[b]? = some (.cells arr e (0, 0)) ∧ (es ++ new).length * sz ≤ arr.size ∧ EF cx.F w' sz (es ++ new) b 0)) →
   ((es ++ new).length = 0 ∧ y = .slice none 0 0 ∧ nb = none ∨ ∃ b cap arr T, nb = some b ∧ y = .slice (some ⟨b, 0, none⟩) (es ++ new).length cap ∧ w'.heap[b]? = some (.cells arr T (0, 0)) ∧ (es ++ new).length ≤ cap ∧ cap ≤ maxLen ∧ arr.size = cap * sz) →
   ∃ y cx', (execOp a.eval o).run P cx.w = .ok (.value y) cx'.w ∧ R cx' (.os k (v + 1)) y ∧ Stp G cx cx' (L.set k (.own (v + 1) e sz (es ++ new))) := by
  intro nb w' y hr hos htp hou hsz' hkeep hnb hbr hv
  have hst := hc.st.upd (k := k) (nb := nb) (ln := (es ++ new).length) hos htp hou hsz' hkeep hnb hkn (by rw [hk]; simp) (x := .own (v + 1) e sz (es ++ new)) (fun hsub => by
   simp only [BR, Cx.upd, if_true]
   exact ⟨by rw [b0], b1, trivial, hbr hsub⟩)
  refine ⟨y, cx.upd k nb (es ++ new).length w', ?_, ?_, hst⟩
  ·simp only [execOp, ho, resolve, invoke, builtin, Sem.run_bind, Sem.run_pure, Result.andThen_ok, List.map_toArray, List.map_cons, List.map_nil, hr]; rfl
  ·simp only [R, OS, Cx.upd, if_true]
   refine ⟨hkn, by rw [b0]; exact Nat.le_refl _, ?_, fun _ => ?_⟩
   ·rcases hv with ⟨_, rfl, _⟩ | ⟨b, cap, arr, T, _, rfl, _⟩ <;> rfl
   ·rw [b1]
    exact hv
 by_cases hm0 : new.length = 0
 ·have hn0 : new = [] := List.eq_nil_of_length_eq_zero hm0
  subst hn0
  simp only [List.length_nil] at ey
  have hr : (Builtin.append_ #[t, t] o.type #[a.eval u, a.eval q]).run P cx.w = .ok (a.eval u) cx.w := by
   rw [ey]
   refine Wt (P := P) ht hs he cx.w _ _ ?_ _ _
   rcases e1 with ⟨_, e1, _⟩ | ⟨b, cap, arr, T', _, e1, _, hle, _⟩
   ·exact .inl e1
   ·exact .inr ⟨_, _, _, e1, hle⟩
  refine fin (cx.φ k) cx.w (a.eval u) hr rfl rfl rfl (Nat.le_refl _) (fun _ _ _ => rfl) (.inl rfl) (fun _ => by simpa using hbk) ?_
  rw [List.append_nil, ← b2]
  rw [← b1]
  exact e1
 ·obtain ⟨sb, so, rfl, hE, hsb⟩ := hsm hm0
  obtain ⟨news, hEL, hra⟩ := hE.vals
  have hl : news.length = new.length * i.size := by rw [hEL.length, h5, hsz]
  have hnews : ∀ j v, news[j]? = some v → cx.w.cell? ((⟨sb, so, none⟩ : Addr).add j) = some v := fun j v hj => by rw [Addr.add_mid]; exact hra j v hj
  rcases e1 with ⟨l0, e1, f0⟩ | ⟨b, cap, arr, T', f1, e1, f2, f3, f4, f5⟩
  ·-- from nil
   have hes : es = [] := by
    rcases hbk with ⟨_, h⟩ | ⟨b, _, h, _⟩
    ·exact h
    ·rw [f0] at h; cases h
   subst hes
   have hr := run_append_nil (P := P) cx.w t o.type e i z hsd h1 h3 ⟨sb, so, none⟩ new.length cp news hl hnews (by omega) (by simp at hmax; omega) (by have := hb.1; rw [← h6] at this; simp at this; omega)
   rw [← ey, ← e1] at hr
   have A := Alloc.drew cx.w (.cells (news.toArray ++ Builtin.zeroCells z.cells (grownCap cx.w new.length 0 e - new.length)) e)
   have hge := grownCap_ge cx.w new.length 0 e
   refine fin (some cx.w.heap.size) _ _ hr A.os A.tape A.output (by rw [A.size]; omega) (fun b hb _ => A.old b hb) (.inr ⟨_, rfl, Nat.le_refl _, by rw [A.size]; omega⟩) (fun hsub => .inr ⟨_, _, rfl, A.new, ?_, ?_⟩) (.inr ⟨_, grownCap cx.w new.length 0 e, _, _, rfl, ?_, A.new, ?_, ?_, ?_⟩)
   ·simp only [List.nil_append]; rw [← hsz, ← h5, ← hl]; simp
   ·simp only [List.nil_append]
    refine EF.of (EL.mono hsub.F hsub.heap hEL) (ZG A.new fun j v hj => ?_)
    rw [Nat.zero_add, Array.getElem?_append_left (by rcases Nat.lt_or_ge j news.length with h' | h'; simpa using h'; rw [List.getElem?_eq_none h'] at hj; cases hj)]
    simpa using hj
   ·simp
   ·simpa using hge
   ·exact grownCap_le_maxLen cx.w new.length 0 e (by have := hb.2; simp at this; exact this)
   ·simp only [Array.size_append, List.size_toArray, size_zeroCells, hzs, hl, h5, hsz, ← Nat.add_mul]
    congr 1; omega
  ·have hbk' : ∃ arr', cx.w.heap[b]? = some (.cells arr' e (0, 0)) ∧ es.length * sz ≤ arr'.size ∧ EF cx.F cx.w sz es b 0 := by
    rcases hbk with ⟨g1, g2⟩ | ⟨b', arr', g1, g2, g3, g4⟩
    ·rw [f1] at g1; cases g1
    ·rw [f1] at g1; injection g1 with g1; subst g1; exact ⟨arr', g2, g3, g4⟩
   obtain ⟨arr', g2, g3, g4⟩ := hbk'
   rw [f2] at g2; injection g2 with g2; injection g2 with g2 g5; subst g2 g5
   rw [b2] at f3 e1
   rw [b1] at f5
   by_cases hroom : es.length + new.length ≤ cap
   ·have hfit : es.length * i.size + news.length ≤ arr.size := by rw [hl, f5, h5, hsz, ← Nat.add_mul]; exact Nat.mul_le_mul_right _ hroom
    have hr := run_append_room (P := P) cx.w t o.type T' i hsd h1 b es.length cap arr f2 ⟨sb, so, none⟩ new.length cp news hl hnews hEL.one hroom hfit
    rw [← ey, ← e1] at hr
    have hlt : (arr.toList.take (es.length * i.size)).length = es.length * i.size := by rw [List.length_take]; simp; omega
    generalize hcur : (arr.toList.take (es.length * i.size) ++ news ++ arr.toList.drop (es.length * i.size + news.length)).toArray = cur at hr
    have hcs : cur.size = arr.size := by rw [← hcur]; simp; omega
    have hh := setRow_heap cx.w b arr cur T' (0, 0) f2
    refine fin (cx.φ k) _ _ hr rfl rfl rfl (by simp) (fun b' _ hne => setRow_other _ _ _ _ (fun e' => hne (e' ▸ f1))) (.inl rfl) (fun hsub => .inr ⟨b, cur, f1, hh, ?_, ?_⟩) (.inr ⟨b, cap, cur, T', f1, by simp, hh, by simpa using hroom, f4, by rw [hcs]; exact f5⟩)
    ·rw [List.length_append, hcs, f5]; exact Nat.mul_le_mul_right _ hroom
    ·obtain ⟨olds, hEo, hro⟩ := g4.vals
     refine EF.of ((EL.mono hsub.F hsub.heap hEo).append (EL.mono hsub.F hsub.heap hEL)) (ZG hh fun j v hj => ?_)
     rw [Nat.zero_add, ← hcur]
     have holen : olds.length = es.length * i.size := by rw [hEo.length, h5, hsz]
     simp only [List.getElem?_toArray]
     rcases Nat.lt_or_ge j olds.length with hjl | hjl
     ·rw [List.getElem?_append_left hjl] at hj
      rw [List.append_assoc, List.getElem?_append_left (by omega), List.getElem?_take, if_pos (by omega)]
      have := hro j v hj
      rw [Nat.zero_add, cell_of_row _ _ _ _ _ _ f2] at this
      simpa using this
     ·rw [List.getElem?_append_right hjl] at hj
      have hj2 : j - olds.length < news.length := by
       rcases Nat.lt_or_ge (j - olds.length) news.length with h' | h'
       ·exact h'
       ·rw [List.getElem?_eq_none h'] at hj; cases hj
      rw [List.append_assoc, List.getElem?_append_right (by omega), hlt, List.getElem?_append_left (by omega), ← holen]
      exact hj
   ·obtain ⟨olds, hEo, hro⟩ := g4.vals
    have holen : olds.length = es.length * i.size := by rw [hEo.length, h5, hsz]
    have hr := run_append_grow (P := P) cx.w t o.type T' i z hsd h1 h3 ⟨b, 0, none⟩ es.length cap olds holen (fun j v hj => by rw [Addr.add_mid]; exact hro j v hj) ⟨sb, so, none⟩ new.length cp news hl hnews (by omega) (by omega)
     (growslice_fits (by omega) (by rw [h6]; exact hb.1))
    rw [← ey, ← e1] at hr
    have hge := grownCap_ge cx.w (es.length + new.length) cap T'
    have A := Alloc.drew cx.w (.cells (olds.toArray ++ news.toArray ++ Builtin.zeroCells z.cells (grownCap cx.w (es.length + new.length) cap T' - (es.length + new.length))) T')
    refine fin (some cx.w.heap.size) _ _ hr A.os A.tape A.output (by rw [A.size]; omega) (fun b hb _ => A.old b hb) (.inr ⟨_, rfl, Nat.le_refl _, by rw [A.size]; omega⟩) (fun hsub => .inr ⟨_, _, rfl, A.new, ?_, ?_⟩) (.inr ⟨_, grownCap cx.w (es.length + new.length) cap T', _, _, rfl, ?_, A.new, ?_, ?_, ?_⟩)
    ·rw [List.length_append, Nat.add_mul, ← hsz, ← h5, ← hl, ← holen]; simp
    ·refine EF.of ((EL.mono hsub.F hsub.heap hEo).append (EL.mono hsub.F hsub.heap hEL)) (ZG A.new fun j v hj => ?_)
     have hjl : j < olds.length + news.length := by
      rcases Nat.lt_or_ge j (olds ++ news).length with h' | h'
      ·simpa using h'
      ·rw [List.getElem?_eq_none h'] at hj; cases hj
     rw [Nat.zero_add, Array.getElem?_append_left (by simpa using hjl)]
     simpa using hj
    ·simp
    ·simpa using hge
    ·exact grownCap_le_maxLen cx.w _ cap T' hb.2
    ·simp only [Array.size_append, List.size_toArray, size_zeroCells, hzs, hl, holen, h5, hsz, ← Nat.add_mul]
     congr 1; omega
end
end
section
def Callable (P : Program) (f : FuncId) : Prop := ∃ fn, P.funcs[f]? = some fn ∧ fn.body.isNone = false ∧ (fn.name == "runtime.NumGoroutine") = false
def Cx.bare (F : Nat → Prop) (w : World) : Cx := { F := F, φ := fun _ => none, ver := fun _ => 0, sz := fun _ => 0, len := fun _ => 0, dom := fun _ => False, m := 0, E := fun _ => False, mks := [], w := w }
def PCalls (P : Program) (g : List (Nat × List AV)) (f : FuncId) (args : List AV) (r : AV) : Prop :=
 Callable P f ∧ ∀ (F : Nat → Prop) (w : World) (vs : Array Value), St (Glo.of g) (Cx.bare F w) [] → TF F w args vs.toList →
  CallsIn Fence.wide 0 P f vs w fun e w' => ∃ y F', e = .returned y ∧ RF F' w' r y ∧ St (Glo.of g) (Cx.bare F' w') [] ∧ Ext (Cx.bare F w) (Cx.bare F' w')
def OCalls (P : Program) (g : List (Nat × List AV)) (f : FuncId) (args : List AV) (E sz : Nat) (es : List (List AV)) : Prop :=
 Callable P f ∧ ∀ (F : Nat → Prop) (w : World) (vs : Array Value), St (Glo.of g) (Cx.bare F w) [] → TF F w args vs.toList →
  CallsIn Fence.wide 0 P f vs w fun e w' => ∃ y c', e = .returned y ∧ R c' (.os 0 0) y ∧ St (Glo.of g) c' [.own 0 E sz es] ∧ Ext (Cx.bare F w) c' ∧ c'.w = w' ∧ (∀ k, k ≠ 0 → c'.φ k = none)
mutual
def ex (L : List LB) : AV → AV
 | .os k v => match L[k]? with
  | some (.own v' _ sz es) => bif Nat.beq v' v then .fs sz es.length es else .any
  | _ => .any
 | .lag cs => .agg (exL L cs)
 | .tup cs => .tup (exL L cs)
 | .ifc t x => .ifc t (ex L x)
 | .lp k q => match L[k]? with
  | some (.box cs) => if cs.all isF then .fp (cs.drop q) else .any
  | _ => .any
 | .ep _ _ _ _ => .any
 | .mp k => match L[k]? with
  | some (.map ks xs) => .fm ks xs
  | _ => .any
 | .fn f asv bs => .fn f (exL L asv) (exL L bs)
 | .any => .any
 | .v x => .v x
 | .fs sz n es => .fs sz n es
 | .fz => .fz
 | .fp cs => .fp cs
 | .fm ks xs => .fm ks xs
 | .agg cs => .agg cs
def exL (L : List LB) : List AV → List AV
 | [] => []
 | x :: r => ex L x :: exL L r
end
def allF (c : Cx) : Nat → Prop := fun b => c.F b ∨ rng c b
section
variable {G : Glo} {c : Cx} {L : List LB} (st : St G c L)
include st
theorem MF_of_MR : ∀ {cs : List AV} {b off : Nat}, cs.all isF = true → MR c cs b off → MF (allF c) c.w cs b off
 | [], _, _, _, _ => by simp only [MF]
 | x :: r, b, off, hf, h => by
  simp only [MR] at h; simp only [MF]
  simp only [List.all_cons, Bool.and_eq_true] at hf
  obtain ⟨⟨u, hc, hx, h1⟩, h⟩ := h
  exact ⟨⟨u, hc, RF.mono (fun _ h => .inl h) (fun _ _ => rfl) _ _ (Q7 hf.1 hx), h1⟩, MF_of_MR hf.2 h⟩
mutual
theorem ex_R : ∀ (x : AV) (y : Value), R c x y → RF (allF c) c.w (ex L x) y
 | .os k v, y, h => by
  simp only [ex]
  split
  ·rename_i v' E sz es hk
   cases hv : Nat.beq v' v with
   | false => simp only [cond_false, RF]
   | true =>
   have hv := Nat.eq_of_beq_eq_true hv
   subst hv
   have hb := st.blk _ _ hk
   simp only [R, OS] at h
   simp only [BR] at hb
   obtain ⟨b0, b1, b2, hb⟩ := hb
   obtain ⟨_, _, _, h⟩ := h
   simp only [cond_true, RF]
   refine ⟨trivial, ?_⟩
   rcases h b0 with ⟨h1, rfl, h2⟩ | ⟨b, cap, arr, T, h1, rfl, h2, h3, h4, h5⟩
   ·exact ⟨none, 0, by rw [← b2, h1], by rw [← b2, h1]; exact Nat.le_refl _, fun h => absurd (b2.symm.trans h1) h⟩
   ·refine ⟨_, cap, by rw [b2], by rw [← b2]; exact h3, fun _ => ⟨b, 0, rfl, .inr ⟨k, h1⟩, ?_⟩⟩
    rcases hb with ⟨h6, _⟩ | ⟨b', arr', h6, h7, h8, h9⟩
    ·rw [h1] at h6; cases h6
    ·rw [h1] at h6; injection h6 with h6; subst h6
     exact EF.mono (fun _ h => .inl h) (fun _ _ => rfl) _ _ _ _ rfl h9
  ·simp only [RF]
 | .lag cs, y, h => by
  simp only [R] at h; simp only [ex, RF]
  obtain ⟨xs, e, h⟩ := h
  exact ⟨xs, e, exL_LR cs _ h⟩
 | .tup cs, y, h => by
  simp only [R] at h; simp only [ex, RF]
  obtain ⟨xs, e, h⟩ := h
  exact ⟨xs, e, Jy cs _ h⟩
 | .ifc t x, y, h => by
  simp only [R] at h; simp only [ex, RF]
  obtain ⟨u, e, h⟩ := h
  exact ⟨u, e, ex_R x u h⟩
 | .lp k q, y, h => by
  simp only [ex]
  split
  ·rename_i cs hk
   split
   ·rename_i hf
    have hb := st.blk _ _ hk
    simp only [R] at h
    simp only [BR] at hb
    obtain ⟨h0, b', arr, T, h2, h3, h4, h5⟩ := hb
    obtain ⟨_, _, h⟩ := h
    obtain ⟨b, h1, rfl⟩ := h h0
    rw [h1] at h2; injection h2 with h2; subst h2
    simp only [RF]
    refine ⟨b, q, rfl, .inr ⟨k, h1⟩, ?_⟩
    have := (MF_of_MR st hf h5).drop q
    rwa [Nat.zero_add] at this
   ·simp only [RF]
  ·simp only [RF]
 | .ep _ _ _ _, y, h => by simp only [ex, RF]
 | .mp k, y, h => by
  simp only [ex]
  split
  ·rename_i ks xs hk
   have hb := st.blk _ _ hk
   simp only [R] at h
   simp only [BR] at hb
   obtain ⟨h0, b', es, clock, h2, h3, h4, h5⟩ := hb
   obtain ⟨_, _, h⟩ := h
   obtain ⟨b, h1, rfl⟩ := h h0
   rw [h1] at h2; injection h2 with h2; subst h2
   simp only [RF]
   exact ⟨b, es, clock, rfl, .inr ⟨k, h1⟩, h3, h4, PF.mono (fun _ h => .inl h) (fun _ _ => rfl) _ _ _ h5⟩
  ·simp only [RF]
 | .fn f asv bs, y, h => by
  simp only [R] at h; simp only [ex, RF]
  obtain ⟨xs, ys, e, h, h2⟩ := h
  exact ⟨xs, ys, e, Jy asv _ h, Jy bs _ h2⟩
 | .any, y, h => by simp only [ex, RF]
 | .v x, y, h => by simpa only [ex, RF, R] using h
 | .fs sz n es, y, h => by simp only [ex]; simp only [R] at h; exact RF.mono (fun _ h => .inl h) (fun _ _ => rfl) _ _ h
 | .fz, y, h => by simpa only [ex, RF, R] using h
 | .fp cs, y, h => by simp only [ex]; simp only [R] at h; exact RF.mono (fun _ h => .inl h) (fun _ _ => rfl) _ _ h
 | .fm ks xs, y, h => by simp only [ex]; simp only [R] at h; exact RF.mono (fun _ h => .inl h) (fun _ _ => rfl) _ _ h
 | .agg cs, y, h => by simp only [ex]; simp only [R] at h; exact RF.mono (fun _ h => .inl h) (fun _ _ => rfl) _ _ h
theorem exL_LR : ∀ (cs : List AV) (ys : List Value), LR c cs ys → LF (allF c) c.w (exL L cs) ys
 | [], ys, h => by simpa only [LR, exL, LF] using h
 | x :: r, ys, h => by
  simp only [LR] at h; simp only [exL, LF]
  obtain ⟨y, s, e, hx, h1, h⟩ := h
  exact ⟨y, s, e, ex_R x y hx, h1, exL_LR r s h⟩
theorem Jy : ∀ (cs : List AV) (ys : List Value), TR c cs ys → TF (allF c) c.w (exL L cs) ys
 | [], ys, h => by simpa only [TR, exL, TF] using h
 | x :: r, ys, h => by
  simp only [TR] at h; simp only [exL, TF]
  obtain ⟨y, s, e, hx, h⟩ := h
  exact ⟨y, s, e, ex_R x y hx, Jy r s h⟩
end
theorem allF_in (b : Nat) (h : allF c b) : b < c.w.heap.size := by
 rcases h with h | ⟨k, h⟩
 ·exact st.inF b h
 ·exact (st.loc k b h).2.2
theorem St.bareOf {F : Nat → Prop} (hF : ∀ b, c.F b → F b) (hin : ∀ b, F b → b < c.w.heap.size) : St (Glo.of G.g) (Cx.bare F c.w) [] :=
 ⟨fun k h => h.elim, fun k x h => by simp at h, hin, fun k b h => by simp [Cx.bare] at h, fun k k' b h => by simp [Cx.bare] at h, fun k x h => by simp at h,
  fun q hq => ⟨hF _ (st.glob q hq).1, MF.mono hF (fun _ _ => rfl) _ _ _ rfl (st.glob q hq).2.1, (st.glob q hq).2.2⟩,
  fun b h => h.elim, List.nodup_nil, .inl rfl, fun r h => by simp [Cx.bare] at h, .inl rfl⟩
theorem St.freeze : St (Glo.of G.g) (Cx.bare (allF c) c.w) [] := st.bareOf (fun _ h => .inl h) (allF_in st)
theorem St.bare : St (Glo.of G.g) (Cx.bare c.F c.w) [] := st.bareOf (fun _ h => h) st.inF
end
theorem Ext.toBare {F : Nat → Prop} {w : World} {c : Cx} (h : Ext (Cx.bare F w) c) : Ext (Cx.bare F w) (Cx.bare (allF c) c.w) := by
 have hm : c.m = 0 := h.m
 refine ⟨h.os, h.tape, h.output, h.size, ?_, fun b ⟨k, hk⟩ => by simp [Cx.bare] at hk, fun b hb => hb.elim, fun r hr => by simp [Cx.bare] at hr, h.keep, rfl,
  ⟨fun b hb => .inl (h.F b hb), h.pin.heap, fun k hk _ => hk.elim, fun k hk _ => hk.elim, fun k hk _ => hk.elim, fun k hk _ => hk.elim, fun k hk _ => hk.elim, fun k b arr T hk _ => hk.elim⟩⟩
 rintro b (hb | hb)
 ·exact h.newF b hb
 ·exact (h.newφ b hb).elim (fun h => .inr (.inl h)) (fun h => .inr (.inr h))
theorem QF {c : Cx} {cs : List AV} {ys : List Value} (hf : cs.all isF = true) (h : TR c cs ys) : TF c.F c.w cs ys := QE (isFL_all hf) h
def resOne (td : TDs) (S : SL) (L : List LB) : ResultVar → Option AV
 | .tmp t => get S t
 | .cell p t => match get S p, lk td t with
  | some (.lp k 0), some d => match L[k]? with
   | some (.box bs) => if d.k.row then (if bs.length = d.size then some (.lag bs) else none) else bs[0]?
   | _ => none
  | _, _ => none
def resAll (td : TDs) (S : SL) (L : List LB) : List ResultVar → Option (List AV)
 | [] => some []
 | r :: rs => match resOne td S L r, resAll td S L rs with
  | some x, some xs => some (x :: xs)
  | _, _ => none
def resV (td : TDs) (S : SL) (L : List LB) (rs : List ResultVar) : Option AV :=
 match resAll td S L rs with
 | some [x] => some x
 | some xs => some (.tup xs)
 | none => none
section
variable {P : Program} {td : TDs} [T : TOK P td] {G : Glo} {N : Nat}
def resS (tmps : Array Value) : ResultVar → Sem Value
 | .tmp t => pure (tmps.getD t undef)
 | .cell a t => do loadVar t (← asAddr (tmps.getD a undef))
theorem results_eq (fn : Func) (tmps : Array Value) : results fn tmps = (do let vs ← fn.results.mapM (resS tmps); pure (if h : vs.size = 1 then vs[0] else .tuple vs)) := by
 unfold results
 congr 1
theorem resOne_run {S : SL} {L : List LB} {cx : Cx} {a : Act} (hc : Cn G N S L cx a) {r : ResultVar} {x : AV} (h : resOne td S L r = some x) :
  ∃ y, (resS a.tmps r).run P cx.w = .ok y cx.w ∧ R cx x y := by
 cases r with
 | tmp t => exact ⟨_, rfl, hc.sr t x h⟩
 | cell p t =>
  simp only [resOne] at h
  split at h
  ·rename_i k d hp ht
   split at h
   ·rename_i bs hk
    have hb := hc.st.blk _ _ hk
    have e1 := hc.sr p _ hp
    simp only [R] at e1
    simp only [BR] at hb
    obtain ⟨hv0, b2, arr, T', hb2, hh, hl, hm⟩ := hb
    obtain ⟨hk', _, e1⟩ := e1
    obtain ⟨b, hb', e1⟩ := e1 hv0
    rw [hb'] at hb2; injection hb2 with hb2; subst hb2
    split at h
    ·rename_i hr
     split at h
     ·rename_i hn
      injection h with h; subst h
      obtain ⟨xs, h1, h2⟩ := loadR_agg (P := P) ht hr hm hn
      exact ⟨.agg xs.toArray, by simp [resS, e1, asAddr, h1], by simp only [R]; exact ⟨_, rfl, h2⟩⟩
     ·cases h
    ·rename_i hr
     obtain ⟨y, hy, hx, _⟩ := hm.get h
     rw [Nat.zero_add] at hy
     exact ⟨y, by simp [resS, e1, asAddr, jp (P := P) ht (by simpa using hr) hy], hx⟩
   ·cases h
  ·cases h
theorem yl {S : SL} {L : List LB} {cx : Cx} {a : Act} (hc : Cn G N S L cx a) : ∀ {rs : List ResultVar} {xs : List AV}, resAll td S L rs = some xs →
  ∃ ys : List Value, (rs.mapM (resS a.tmps)).run P cx.w = .ok ys cx.w ∧ TR cx xs ys
 | [], xs, h => by
  simp only [resAll, Option.some.injEq] at h; subst h
  exact ⟨[], by simp, by simp only [TR]⟩
 | r :: rs, xs, h => by
  simp only [resAll] at h
  split at h
  ·rename_i x xs' hx hxs
   injection h with h; subst h
   obtain ⟨y, h1, h2⟩ := resOne_run (P := P) hc hx
   obtain ⟨ys, h3, h4⟩ := yl hc hxs
   refine ⟨y :: ys, ?_, by simp only [TR]; exact ⟨y, ys, rfl, h2, h4⟩⟩
   simp only [List.mapM_cons, Sem.run_bind, h1, Result.andThen_ok, h3, Sem.run_pure]
  ·cases h
theorem resV_run {fn : Func} {S : SL} {L : List LB} {cx : Cx} {a : Act} (hc : Cn G N S L cx a) {x : AV} (h : resV td S L fn.results.toList = some x) :
  ∃ y, (results fn a.tmps).run P cx.w = .ok y cx.w ∧ R cx x y := by
 unfold resV at h
 have key : ∀ xs, resAll td S L fn.results.toList = some xs → ∃ ys : Array Value, (results fn a.tmps).run P cx.w = .ok (if h : ys.size = 1 then ys[0] else .tuple ys) cx.w ∧ TR cx xs ys.toList := by
  intro xs hxs
  obtain ⟨ys, h1, h2⟩ := yl (P := P) hc hxs
  refine ⟨ys.toArray, ?_, by simpa using h2⟩
  rw [results_eq, Array.mapM_eq_mapM_toList]
  simp only [Sem.run_bind, Sem.run_map, h1, Result.andThen_ok, Sem.run_pure]
 cases hz : resAll td S L fn.results.toList with
 | none => simp [hz] at h
 | some zs =>
 rw [hz] at h
 split at h
 ·rename_i z hz'
  injection hz' with hz'; subst hz'
  injection h with h; subst h
  obtain ⟨ys, h1, h2⟩ := key _ hz
  simp only [TR] at h2
  obtain ⟨y, s, e, hx, rfl⟩ := h2
  have : ys = #[y] := by apply Array.ext'; simpa using e
  subst this
  exact ⟨y, by simpa using h1, hx⟩
 ·rename_i xs hne hz'
  injection hz' with hz'; subst hz'
  injection h with h; subst h
  obtain ⟨ys, h1, h2⟩ := key _ hz
  have hl : ys.size ≠ 1 := by
   intro e
   match zs, h2, hne with
   | [], h2, _ => simp only [TR] at h2; simp at h2; subst h2; simp at e
   | [z], _, hne => exact hne z rfl
   | z1 :: z2 :: r, h2, _ =>
    simp only [TR] at h2
    obtain ⟨y, s, e1, _, y2, s2, e2, _⟩ := h2
    have := congrArg List.length e1
    rw [e2] at this
    simp at this; omega
  exact ⟨.tuple ys, by simpa [hl] using h1, by simp only [R]; exact ⟨ys, rfl, h2⟩⟩
 ·cases h
def retQ (td : TDs) (rs : List ResultVar) (Q : AV → List LB → Prop) : AQ :=
 fun e S L => match e with
  | .normal | .ret => ∃ r, resV td S L rs = some r ∧ Q r L
  | _ => False
def argS (i : Nat) : List AV → SL
 | [] => []
 | x :: r => (i, x) :: argS (i + 1) r
theorem argS_get : ∀ {i : Nat} {args : List AV} {t : Nat} {x : AV}, get (argS i args) t = some x → i ≤ t ∧ args[t - i]? = some x
 | i, [], t, x, h => by simp [argS, get] at h
 | i, z :: r, t, x, h => by
  simp only [argS] at h
  rw [ZT] at h
  split at h
  ·rename_i e; subst e; injection h with h; subst h; simp
  ·rename_i e
   obtain ⟨h1, h2⟩ := argS_get h
   refine ⟨by omega, ?_⟩
   rw [show t - i = (t - (i + 1)) + 1 by omega]
   simpa using h2
structure Unmk (c c' : Cx) : Prop where
 os : c'.w.os = c.w.os
 tape : c'.w.tape = c.w.tape
 output : c'.w.output = c.w.output
 size : c'.w.heap.size = c.w.heap.size
 heap : ∀ b, b ∉ c.mks → c'.w.heap[b]? = c.w.heap[b]?
 rest : c' = { c with mks := [], w := c'.w }
theorem Wi {fn : Func} {tmps : Array Value} {R0 : Ending → World → Prop} {L : List LB} (hno : G.env = .no) : ∀ (mk : List Nat) (c : Cx), c.mks = mk → St G c L →
  (∀ c', St G c' L → SubX allp c c' → Unmk c c' → LeavesIn Fence.wide 0 P fn tmps R0 [] .returning c'.w) → LeavesInM Fence.wide 0 P fn tmps R0 (mk.map markOf) .returning c.w
 | [], c, hmk, st, h => h c st (SubX.refl _ _) ⟨rfl, rfl, rfl, rfl, fun _ _ => rfl, by cases c; simp only at hmk; subst hmk; rfl⟩
 | r :: mk, c, hmk, st, h => by
  have hr := st.mks r (by rw [hmk]; exact List.mem_cons_self ..)
  obtain ⟨h0, h1, h2, h3, h4⟩ := hr
  have hnd := st.mkd
  rw [hmk] at hnd
  have hnr := (List.nodup_cons.1 hnd).1
  let c1 : Cx := { c with mks := mk, w := c.w.putObj r (.deferred none) }
  have hoth : ∀ b, b ≠ r → c1.w.heap[b]? = c.w.heap[b]? := fun b hb => World.putObj_heap_other hb
  have hs : SubX allp c c1 :=
   ⟨fun _ h => h, fun b hb => hoth b (fun e => h2 (e ▸ hb)), fun _ h _ => h, fun _ _ _ => Nat.le_refl _, fun _ _ _ _ => rfl, fun _ _ _ _ => rfl, fun _ _ _ _ => rfl,
    fun k b arr T _ _ _ hb hh => ⟨arr, (hoth b (fun e => h4 k (e ▸ hb))).trans hh, rfl⟩⟩
  have hsz : c1.w.heap.size = c.w.heap.size := World.putObj_size
  have st1 : St G c1 L := by
   refine ⟨st.n, st.dm, fun b hb => by rw [hsz]; exact st.inF b hb, fun k b hb => by rw [hsz]; exact st.loc k b hb, st.inj, ?_, qO st hs, fun b hb => by rw [hsz]; exact st.envd b hb, (List.nodup_cons.1 hnd).2, .inr hno, ?_, st.pin⟩
   ·intro k x hx
    have hb := st.blk k x hx
    cases x with
    | dead => exact hb
    | pin => exact hb
    | ghost n => simp only [BR, hno] at hb; exact hb.2.elim
    | gone => simp only [BR, hno] at hb; exact hb.2.elim
    | box cs =>
     simp only [BR] at hb ⊢
     obtain ⟨q0, b, arr, T, q1, q2, q3, q4⟩ := hb
     have e := hoth b (fun e => h4 k (e ▸ q1))
     exact ⟨q0, b, arr, T, q1, e.trans q2, q3, MR.mono hs cs b 0 (ZZ cs) e q4⟩
    | row cs =>
     simp only [BR] at hb ⊢
     obtain ⟨q0, r1, r2, b, arr, T, q1, q2, q3, q4⟩ := hb
     have e := hoth b (fun e => h4 k (e ▸ q1))
     exact ⟨q0, r1, r2, b, arr, T, q1, e.trans q2, q3, MR.mono hs cs b 0 (ZZ cs) e q4⟩
    | own v E sz es =>
     simp only [BR] at hb ⊢
     obtain ⟨q0, q1, q2, hb⟩ := hb
     refine ⟨q0, q1, q2, ?_⟩
     rcases hb with hb | ⟨b, arr, q3, q4, q5, q6⟩
     ·exact .inl hb
     ·have e := hoth b (fun e => h4 k (e ▸ q3))
      exact .inr ⟨b, arr, q3, e.trans q4, q5, EF.mono hs.F hs.heap sz es b 0 e q6⟩
    | map ks xs =>
     simp only [BR] at hb ⊢
     obtain ⟨q0, b, es, clock, q1, q2, q3, q4⟩ := hb
     exact ⟨q0, b, es, clock, q1, (hoth b (fun e => h4 k (e ▸ q1))).trans q2, q3, PF.mono hs.F hs.heap _ _ _ q4⟩
    | mapb m ck bs ks xs =>
     simp only [BR] at hb ⊢
     obtain ⟨q0, q1, es, q2, q3, q5, q4⟩ := hb
     exact ⟨q0, q1, es, (hoth m (fun e => h4 k (e ▸ q1))).trans q2, q3, q5, PF.mono hs.F hs.heap _ _ _ q4⟩
    | obj o =>
     simp only [BR] at hb ⊢
     obtain ⟨q0, b, q1, q2⟩ := hb
     exact ⟨q0, b, q1, (hoth b (fun e => h4 k (e ▸ q1))).trans q2⟩
   ·intro r' hr'
    have hne : r' ≠ r := fun e => hnr (e ▸ hr')
    obtain ⟨p0, p1, p2, p3, p4⟩ := st.mks r' (by rw [hmk]; exact List.mem_cons_of_mem _ hr')
    exact ⟨by rw [hsz]; exact p0, (hoth r' hne).trans p1, p2, p3, p4⟩
  refine ⟨by simp, .inl ⟨r, c1.w, rfl, run_takeDeferred h1, ?_⟩⟩
  refine Wi hno mk c1 rfl st1 fun c' st' hs' hu => h c' st' (hs.trans hs') ?_
  refine ⟨hu.os, hu.tape, hu.output, hu.size.trans hsz, fun b hb => ?_, hu.rest⟩
  rw [hmk] at hb
  exact (hu.heap b (fun h => hb (List.mem_cons_of_mem _ h))).trans (hoth b (fun e => hb (e ▸ List.mem_cons_self ..)))
theorem Ext.unmk {c c1 c2 : Cx} (h : Ext c c1) (hmk : c.mks = []) (hu : Unmk c1 c2) (hs : SubX allp c1 c2) : Ext c c2 := by
 have hr := hu.rest
 have e1 : c2.F = c1.F := by rw [hr]
 have e2 : c2.φ = c1.φ := by rw [hr]
 have e3 : c2.E = c1.E := by rw [hr]
 have e4 : c2.mks = [] := by rw [hr]
 have e5 : c2.m = c1.m := by rw [hr]
 refine ⟨hu.os.trans h.os, hu.tape.trans h.tape, hu.output.trans h.output, by rw [hu.size]; exact h.size, fun b hb => h.newF b (e1 ▸ hb), fun b ⟨k, hk⟩ => h.newφ b ⟨k, by rw [← e2]; exact hk⟩, fun b hb => h.newE b (e3 ▸ hb),
  fun r hr => (by rw [e4] at hr; cases hr), fun b hb hE hk => ?_, e5.trans h.m, h.pin.trans hs.all⟩
 rw [hu.heap b (fun hm => ?_), h.keep b hb hE hk]
 rcases h.newK b hm with h1 | h1
 ·rw [hmk] at h1; cases h1
 ·omega
theorem WO {f : FuncId} {fn : Func} {c : Code} {args : List AV} {Q : AV → List LB → Prop} {L : List LB} (hf : P.funcs[f]? = some fn) (hb : fn.body = some c) (hn : fn.ntmps = N) (hN : args.length ≤ N) (hro : G.ro = none)
  (h : awp P G N c (retQ td fn.results.toList Q) (argS 0 args) L) {cx : Cx} {vs : Array Value} (st : St G cx L) (hmk0 : cx.mks = []) (ha : TR cx args vs.toList) :
  CallsIn Fence.wide 0 P f vs cx.w fun e w' => ∃ y r L' c2, e = .returned y ∧ Q r L' ∧ St G c2 L' ∧ R c2 r y ∧ Ext cx c2 ∧ c2.w = w' := by
 have hlen : vs.size = args.length := by
  have : ∀ {cs : List AV} {ys : List Value}, TR cx cs ys → ys.length = cs.length := by
   intro cs
   induction cs with
   | nil => intro ys h; simp only [TR] at h; subst h; rfl
   | cons x r ih => intro ys h; simp only [TR] at h; obtain ⟨y, s, rfl, _, h⟩ := h; simp [ih h]
  simpa using this ha
 have hw := h cx { tmps := vs ++ Array.replicate (fn.ntmps - vs.size) undef, defers := [] } ⟨st, by simp [hmk0], by simp; omega, ?_⟩
 ·rw [hro] at hw
  refine callsIn_of_wp_marks hf hb trivial (Code.wpIn_mono ?_ hw)
  rintro e a w ⟨S', L', c', q, hc, he, rfl⟩
  have key : ∀ (r : AV), resV td S' L' fn.results.toList = some r → Q r L' → LeavesInM Fence.wide 0 P fn a.tmps (fun e w' => ∃ y r L' c2, e = .returned y ∧ Q r L' ∧ St G c2 L' ∧ R c2 r y ∧ Ext cx c2 ∧ c2.w = w') a.defers .returning c'.w := by
   intro r hr hq
   rw [hc.de]
   rcases hc.st.mkE with hm | hno
   ·rw [hm]
    obtain ⟨y, h1, h2⟩ := resV_run (P := P) hc hr
    exact ⟨y, h1, y, r, L', c', rfl, hq, hc.st, h2, he, rfl⟩
   ·refine Wi hno c'.mks c' rfl hc.st fun c2 st2 hs2 hu => ?_
    have hc2 : Cn G N S' L' c2 { a with defers := [] } := ⟨st2, by rw [hu.rest]; rfl, hc.sz, hc.sr.mono_all hs2⟩
    obtain ⟨y, h1, h2⟩ := resV_run (P := P) hc2 hr
    exact ⟨y, h1, y, r, L', c2, rfl, hq, st2, h2, he.unmk hmk0 hu hs2, rfl⟩
  cases e <;> simp only [retQ] at q
  all_goals
   obtain ⟨r, hr, hq⟩ := q
   exact key r hr hq
 ·intro t x hx
  obtain ⟨_, h2⟩ := argS_get hx
  obtain ⟨y, h3, h4⟩ := TR.get ha h2
  simp only [Nat.sub_zero, Array.getElem?_toList] at h3
  have hlt : t < vs.size := (Array.getElem?_eq_some_iff.1 h3).1
  have : (vs ++ Array.replicate (fn.ntmps - vs.size) undef).getD t undef = y := by
   rw [Array.getD_eq_getD_getElem?, Array.getElem?_append_left hlt, h3]; rfl
  rw [this]; exact h4
def Le (a b : AV) : Prop := ∀ F w y, RF F w a y → RF F w b y
theorem Le.of_eq {a b : AV} (h : a = b) : Le a b := fun _ _ _ hy => h ▸ hy
theorem Le.nil (sz : Nat) : Le (.v (.slice none 0 0)) (.fs sz 0 []) := fun F w y h => by
 simp only [RF] at h ⊢
 subst h
 exact ⟨rfl, none, 0, rfl, Nat.le_refl _, fun h => absurd rfl h⟩
theorem pcalls {g : List (Nat × List AV)} {f : FuncId} {fn : Func} {c : Code} {args : List AV} {r : AV} (hf : P.funcs[f]? = some fn) (hb : fn.body = some c) (hn : fn.ntmps = N) (hN : args.length ≤ N) (hname : (fn.name == "runtime.NumGoroutine") = false)
  (h : awp P (Glo.of g) N c (retQ td fn.results.toList fun r' L' => Le (ex L' r') r) (argS 0 args) []) : PCalls P g f args r := by
 refine ⟨⟨fn, hf, by rw [hb]; rfl, hname⟩, fun F w vs st ha => ?_⟩
 refine (WO (P := P) hf hb hn hN rfl h st rfl (TR.of_TF _ _ _ ha)).mono ?_
 rintro e w' ⟨y, r', L', c2, rfl, hq, st2, hr, he, rfl⟩
 exact ⟨y, allF c2, rfl, hq _ _ _ (ex_R st2 r' y hr), st2.freeze, he.toBare⟩
theorem ocalls {g : List (Nat × List AV)} {f : FuncId} {fn : Func} {c : Code} {args : List AV} {E sz : Nat} {es : List (List AV)} (hf : P.funcs[f]? = some fn) (hb : fn.body = some c) (hn : fn.ntmps = N) (hN : args.length ≤ N) (hname : (fn.name == "runtime.NumGoroutine") = false)
  (h : awp P (Glo.of g) N c (retQ td fn.results.toList fun r' L' => ∃ k v, r' = .os k v ∧ L'[k]? = some (.own v E sz es)) (argS 0 args) []) : OCalls P g f args E sz es := by
 refine ⟨⟨fn, hf, by rw [hb]; rfl, hname⟩, fun F w vs st ha => ?_⟩
 refine (WO (P := P) hf hb hn hN rfl h st rfl (TR.of_TF _ _ _ ha)).mono ?_
 rintro e w' ⟨y, r', L', c2, rfl, ⟨k, v, rfl, hk⟩, st2, hr, he, rfl⟩
 have hb := st2.blk k _ hk
 simp only [R] at hr
 simp only [BR] at hb
 obtain ⟨b0, b1, b2, hb⟩ := hb
 obtain ⟨hkn, _, h1, hr⟩ := hr
 replace hr := hr b0
 let F' : Nat → Prop := fun b => c2.F b ∨ (rng c2 b ∧ c2.φ k ≠ some b)
 let c3 : Cx := { F := F', φ := fun j => if j = 0 then c2.φ k else none, ver := fun _ => 0, sz := fun _ => sz, len := fun _ => es.length, dom := fun j => j = 0, m := 0, E := fun _ => False, mks := [], w := c2.w }
 have hF : ∀ b, c2.F b → F' b := fun b h => .inl h
 have hφ0 : c3.φ 0 = c2.φ k := by simp [c3]
 have hφ : ∀ {j b}, c3.φ j = some b → j = 0 ∧ c2.φ k = some b := by
  intro j b h
  by_cases e : j = 0
  ·subst e; exact ⟨rfl, h⟩
  ·simp only [c3, if_neg e] at h; cases h
 have hin : ∀ b, F' b → b < c2.w.heap.size := by
  rintro b (h | ⟨⟨j, h⟩, _⟩)
  ·exact st2.inF b h
  ·exact (st2.loc j b h).2.2
 refine ⟨y, c3, rfl, ?_, ⟨fun j hj => by cases hj; exact Nat.one_pos, fun j x hx _ => by have := zG hx; simp at this; exact this, hin, ?_, ?_, ?_, ?_, fun b h => h.elim, List.nodup_nil, .inl rfl, (fun r h => by cases h), .inl rfl⟩, ?_, rfl, fun j hj => if_neg hj⟩
 ·simp only [R]
  refine ⟨rfl, Nat.le_refl _, h1, fun _ => ?_⟩
  unfold OS at hr ⊢
  rw [hφ0]
  simp only [c3]
  rw [b1, b2] at hr
  exact hr
 ·intro j b h
  obtain ⟨rfl, h⟩ := hφ h
  refine ⟨rfl, ?_, (st2.loc k b h).2.2⟩
  rintro (h' | ⟨_, h'⟩)
  ·exact (st2.loc k b h).2.1 h'
  ·exact h' h
 ·intro j j' b h h'
  rw [(hφ h).1, (hφ h').1]
 ·intro j x h
  match j, h with
  | 0, h =>
   simp at h; subst h
   simp only [BR]
   refine ⟨rfl, rfl, rfl, ?_⟩
   rw [hφ0]
   rcases hb with hb | ⟨b, arr, q1, q2, q3, q4⟩
   ·exact .inl hb
   ·exact .inr ⟨b, arr, q1, q2, q3, EF.mono hF (fun _ _ => rfl) _ _ _ _ rfl q4⟩
  | j + 1, h => simp at h
 ·intro q hq
  exact ⟨hF _ (st2.glob q hq).1, MF.mono hF (fun _ _ => rfl) _ _ _ rfl (st2.glob q hq).2.1, (st2.glob q hq).2.2⟩
 ·have hm : c2.m = 0 := he.m
  refine ⟨he.os, he.tape, he.output, he.size, ?_, fun b ⟨j, hj⟩ => he.newφ b ⟨k, (hφ hj).2⟩, fun b hb => hb.elim, (fun r hr => by cases hr), he.keep, rfl,
   ⟨fun b hb => .inl (he.F b hb), he.pin.heap, fun k hk _ => hk.elim, fun k hk _ => hk.elim, fun k hk _ => hk.elim, fun k hk _ => hk.elim, fun k hk _ => hk.elim, fun k b arr T hk _ => hk.elim⟩⟩
  rintro b (hb | ⟨hb, _⟩)
  ·exact he.newF b hb
  ·exact (he.newφ b hb).elim (fun h => .inr (.inl h)) (fun h => .inr (.inr h))
def vals (G : Glo) (S : SL) : List Operand → Option (List AV)
 | [] => some []
 | o :: r => match val G S o, vals G S r with
  | some x, some xs => some (x :: xs)
  | _, _ => none
theorem ZV {S : SL} {L : List LB} {cx : Cx} {a : Act} (hc : Cn G N S L cx a) : ∀ {us : List Operand} {xs : List AV}, vals G S us = some xs → TR cx xs (us.map a.eval)
 | [], xs, h => by simp only [vals, Option.some.injEq] at h; subst h; simp only [List.map_nil, TR]
 | o :: r, xs, h => by
  simp only [vals] at h
  split at h
  ·rename_i x xs' h1 h2
   injection h with h; subst h
   simp only [List.map_cons, TR]
   exact ⟨_, _, rfl, zn hc h1, ZV hc h2⟩
  ·cases h
theorem qa {f : FuncId} (hf : Callable P f) {o : Oper} {us : Array Operand} {ats : Array TypeId} (ho : o.op = .call { callee := .value (.func f), args := us, argTypes := ats }) (a : Act) (w : World) :
  (execOp a.eval o).run P w = .ok (.enter f (us.map a.eval)) w := by
 obtain ⟨fn, h1, h2, h3⟩ := hf
 have h3' : ¬ fn.name = "runtime.NumGoroutine" := by simpa using h3
 have h2' : ¬ fn.body = none := by intro e; rw [e] at h2; cases h2
 simp [execOp, ho, resolve, Act.eval, Deferred.ofValue, invoke, callFunc, h1, h2', h3']
def scal : AV → Bool
 | .v _ => true
 | .any => true
 | .tup cs => cs.all fun x => match x with | .v _ => true | .any => true | _ => false
 | _ => false
theorem scal_R {F F' : Nat → Prop} {w w' : World} : ∀ {cs : List AV} {ys : List Value}, (cs.all fun x => match x with | .v _ => true | .any => true | _ => false) = true → TF F w cs ys → TF F' w' cs ys
 | [], ys, _, h => by simpa only [TF] using h
 | x :: r, ys, hf, h => by
  simp only [TF] at h ⊢
  simp only [List.all_cons, Bool.and_eq_true] at hf
  obtain ⟨y, s, e, hx, h⟩ := h
  refine ⟨y, s, e, ?_, scal_R hf.2 h⟩
  cases x <;> simp only [Bool.false_eq_true, false_and] at hf <;> simpa only [RF] using hx
theorem scal_RF {F F' : Nat → Prop} {w w' : World} {r : AV} {y : Value} (hs : scal r = true) (h : RF F w r y) : RF F' w' r y := by
 cases r <;> simp only [scal, Bool.false_eq_true] at hs <;> simp only [RF] at h ⊢
 ·exact h
 ·obtain ⟨xs, e, h⟩ := h; exact ⟨xs, e, scal_R hs h⟩
section
variable {Q : AQ} {S : SL} {L : List LB} {ops : Array Oper} {rest : List Oper} {ty : TypeId} {pos : String} {af : Array Edge} {d : Nat}
theorem St.after {c : Cx} {L : List LB} (st : St G c L) {F' : Nat → Prop} {w' : World} (ex : Ext (Cx.bare c.F c.w) (Cx.bare F' w')) (st' : St (Glo.of G.g) (Cx.bare F' w') []) :
  Stp G c { c with F := F', w := w' } L := by
 have hk : ∀ b, b < c.w.heap.size → w'.heap[b]? = c.w.heap[b]? := fun b hb => ex.keep b hb (fun h => h) (fun ⟨k, h⟩ => by simp [Cx.bare] at h)
 have hs : SubX allp c { c with F := F', w := w' } :=
  ⟨ex.F, fun b h => hk b (st.inF b h), fun _ h _ => h, fun _ _ _ => Nat.le_refl _, fun _ _ _ _ => rfl, fun _ _ _ _ => rfl, fun _ _ _ _ => rfl, fun k b arr T _ _ _ hb hh => ⟨arr, (hk b (st.loc k b hb).2.2).trans hh, rfl⟩⟩
 have hV : ∀ b, F' b → c.F b ∨ c.w.heap.size ≤ b := fun b hF => by
  rcases ex.newF b hF with h2 | ⟨k', h2⟩ | h2
  ·exact .inl h2
  ·simp [Cx.bare] at h2
  ·exact .inr h2
 have hm : Calm c { c with F := F', w := w' } := ⟨ex.os, ex.tape, ex.output, ex.size, fun b hb _ => hk b hb, fun b h => .inl h, fun b hF => (hV b hF).imp id .inr⟩
 refine Stp.mk' hm hs rfl rfl rfl (st.calm hm hs st.n st.dm rfl rfl rfl st'.inF ?_ st.inj ?_ (.inr id))
 ·intro k b h
  have h1 := st.loc k b h
  refine ⟨h1.1, fun hF => ?_, Nat.lt_of_lt_of_le h1.2.2 ex.size⟩
  rcases hV b hF with h2 | h2
  ·exact h1.2.1 h2
  ·exact absurd h1.2.2 (Nat.not_lt.2 h2)
 ·intro k x h
  exact BR.mono hs hm rfl ⟨rfl, rfl, rfl, rfl⟩ (zM x) (fun b hb => hk b (st.loc k b hb).2.2) (st.blk k x h)
theorem St.afterS {c : Cx} {L : List LB} (st : St G c L) {F F' : Nat → Prop} {w' : World} (ex : Ext (Cx.bare F c.w) (Cx.bare F' w')) : Stp G c { c with w := w' } L := by
 have hk : ∀ b, b < c.w.heap.size → w'.heap[b]? = c.w.heap[b]? := fun b hb => ex.keep b hb (fun h => h) (fun ⟨k, h⟩ => by simp [Cx.bare] at h)
 have hs : SubX allp c { c with w := w' } :=
  ⟨fun _ h => h, fun b h => hk b (st.inF b h), fun _ h _ => h, fun _ _ _ => Nat.le_refl _, fun _ _ _ _ => rfl, fun _ _ _ _ => rfl, fun _ _ _ _ => rfl, fun k b arr T _ _ _ hb hh => ⟨arr, (hk b (st.loc k b hb).2.2).trans hh, rfl⟩⟩
 have hm : Calm c { c with w := w' } := ⟨ex.os, ex.tape, ex.output, ex.size, fun b hb _ => hk b hb, fun b h => .inl h, fun b hF => .inl hF⟩
 refine Stp.mk' hm hs rfl rfl rfl (st.calm hm hs st.n st.dm rfl rfl rfl (fun b h => Nat.lt_of_lt_of_le (st.inF b h) ex.size) ?_ st.inj ?_ (.inr id))
 ·intro k b h
  have h1 := st.loc k b h
  exact ⟨h1.1, h1.2.1, Nat.lt_of_lt_of_le h1.2.2 ex.size⟩
 ·intro k x h
  exact BR.mono hs hm rfl ⟨rfl, rfl, rfl, rfl⟩ (zM x) (fun b hb => hk b (st.loc k b hb).2.2) (st.blk k x h)
theorem qn {f : FuncId} {us : Array Operand} {ats : Array TypeId} {args : List AV} {r : AV} (hargs : vals G S us.toList = some args) (hF : args.all isF = true) (h : PCalls P G.g f args r) (hd : Nat.blt d N = true)
  (k : awpL P G N ops rest Q ((d, r) :: S) L) : awpL P G N ops (⟨some d, .call { callee := .value (.func f), args := us, argTypes := ats }, ty, pos, af, none⟩ :: rest) Q S L := by
 intro cx a hc
 have ha := QF hF (ZV hc hargs)
 refine wpListIn_plain rfl fun K hK => zy rfl ?_
 rw [qa h.1 (o := ⟨some d, .call { callee := .value (.func f), args := us, argTypes := ats }, ty, pos, af, none⟩) rfl a cx.w, Oper.uponIn_enter]
 refine ⟨fun h => by simp at h, CallsIn.mono (h.2 cx.F cx.w (us.map a.eval) hc.st.bare (by simpa using ha)) ?_⟩
 rintro e w' ⟨y, F', rfl, hr, st', ex⟩
 have hst := hc.st.after ex st'
 exact hK _ _ (zq (fun e a w q => q.trans hst.ext) _ _ _ (k { cx with F := F', w := w' } _ ((hst.cn hc).put hd (R.of_RF _ _ _ hr))))
theorem Q4 {f : FuncId} {us : Array Operand} {ats : Array TypeId} {args args' : List AV} {r : AV} (hargs : vals G S us.toList = some args) (hex : exL L args = args') (h : PCalls P G.g f args' r) (hscal : scal r = true) (hd : Nat.blt d N = true)
  (k : awpL P G N ops rest Q ((d, r) :: S) L) : awpL P G N ops (⟨some d, .call { callee := .value (.func f), args := us, argTypes := ats }, ty, pos, af, none⟩ :: rest) Q S L := by
 intro cx a hc
 subst hex
 have ha := Jy hc.st args _ (ZV hc hargs)
 refine wpListIn_plain rfl fun K hK => zy rfl ?_
 rw [qa h.1 (o := ⟨some d, .call { callee := .value (.func f), args := us, argTypes := ats }, ty, pos, af, none⟩) rfl a cx.w, Oper.uponIn_enter]
 refine ⟨fun h => by simp at h, CallsIn.mono (h.2 (allF cx) cx.w (us.map a.eval) hc.st.freeze (by simpa using ha)) ?_⟩
 rintro e w' ⟨y, F', rfl, hr, st', ex⟩
 have hst := hc.st.afterS ex
 exact hK _ _ (zq (fun e a w q => q.trans hst.ext) _ _ _ (k { cx with w := w' } _ ((hst.cn hc).put hd (R.of_RF _ _ _ (scal_RF hscal hr)))))
end
end
end
section
theorem zK {k q : Nat} (h : Nat.blt k q = true) : k < q := Nat.le_of_ble_eq_true h
theorem Zb {k q : Nat} (h : k < q) : Nat.blt k q = true := Nat.ble_eq_true_of_le h
def pinq : List LB → Nat
 | [] => 0
 | x :: r => match pinq r with
  | 0 => (match x with | .pin => 1 | _ => 0)
  | m + 1 => m + 2
theorem pinq_ge : ∀ {L : List LB} {j : Nat}, L[j]? = some .pin → j + 1 ≤ pinq L
 | [], j, h => by simp at h
 | x :: r, 0, h => by
  simp at h; subst h
  simp only [pinq]
  split <;> omega
 | x :: r, j + 1, h => by
  have := pinq_ge (L := r) (j := j) (by simpa using h)
  simp only [pinq]
  split <;> omega
theorem St.m_q {G : Glo} {c : Cx} {L : List LB} (st : St G c L) : c.m ≤ pinq L := by
 rcases st.pin with h | h
 ·omega
 ·have := pinq_ge h; omega
mutual
def nrm (L : List LB) (q n : Nat) : AV → AV
 | .lp k o => bif Nat.blt k q then .lp k o else bif Nat.blt k n then (match L[k]? with | some (.box _) => .lp k o | some (.row _) => .lp k o | some (.obj _) => .lp k o | _ => .any) else .any
 | .mp k => bif Nat.blt k q then .mp k else bif Nat.blt k n then (match L[k]? with | some (.map _ _) => .mp k | _ => .any) else .any
 | .os k v => bif Nat.blt k q then .os k v else bif Nat.blt k n then (match L[k]? with | some (.own v' _ _ _) => bif Nat.beq v' v then .os k 0 else .any | some (.row _) => bif Nat.beq 0 v then .os k 0 else .any | _ => .any) else .any
 | .ep k v i o => bif Nat.blt k q then .ep k v i o else bif Nat.blt k n then (match L[k]? with | some (.own v' _ _ _) => bif Nat.beq v' v then .ep k 0 i o else .any | _ => .any) else .any
 | .lag cs => .lag (nrmL L q n cs)
 | .tup cs => .tup (nrmL L q n cs)
 | .fn f asv bs => .fn f (nrmL L q n asv) (nrmL L q n bs)
 | .ifc t x => .ifc t (nrm L q n x)
 | .any => .any
 | .v x => .v x
 | .fs sz m es => .fs sz m es
 | .fz => .fz
 | .fp cs => .fp cs
 | .fm ks xs => .fm ks xs
 | .agg cs => .agg cs
def nrmL (L : List LB) (q n : Nat) : List AV → List AV
 | [] => []
 | x :: r => nrm L q n x :: nrmL L q n r
end
def nrmB (L : List LB) (q n k : Nat) : LB → LB
 | .own v E sz es => bif Nat.blt k q then .own v E sz es else .own 0 E sz es
 | .box cs => .box (nrmL L q n cs)
 | .row cs => .row (nrmL L q n cs)
 | .dead => .dead
 | .map ks xs => .map ks xs
 | .mapb m ck bs ks xs => .mapb m ck bs ks xs
 | .obj o => .obj o
 | .pin => .pin
 | .ghost m => .ghost m
 | .gone => .gone
def nrmBs (L : List LB) (q n : Nat) : Nat → List LB → List LB
 | _, [] => []
 | k, x :: r => nrmB L q n k x :: nrmBs L q n (k + 1) r
theorem wx {L : List LB} {q n : Nat} : ∀ {M : List LB} {i k : Nat} {y : LB}, (nrmBs L q n i M)[k]? = some y → ∃ x, M[k]? = some x ∧ y = nrmB L q n (i + k) x
 | [], i, k, y, h => by simp [nrmBs] at h
 | x :: r, i, 0, y, h => by simp [nrmBs] at h; exact ⟨x, rfl, h.symm⟩
 | x :: r, i, k + 1, y, h => by
  obtain ⟨z, h1, h2⟩ := wx (M := r) (i := i + 1) (k := k) (by simpa [nrmBs] using h)
  exact ⟨z, by simpa using h1, by rw [h2]; congr 1; omega⟩
theorem nrmBs_get' {L : List LB} {q n : Nat} : ∀ {M : List LB} {i k : Nat} {x : LB}, M[k]? = some x → (nrmBs L q n i M)[k]? = some (nrmB L q n (i + k) x)
 | [], i, k, x, h => by simp at h
 | x :: r, i, 0, y, h => by simp at h; subst h; simp [nrmBs]
 | x :: r, i, k + 1, y, h => by
  have := nrmBs_get' (L := L) (q := q) (n := n) (M := r) (i := i + 1) (k := k) (x := y) (by simpa using h)
  simp only [nrmBs, List.getElem?_cons_succ, this]
  congr 2; omega
theorem jR {L : List LB} {q n : Nat} : ∀ {M : List LB} {i : Nat}, (nrmBs L q n i M).length = M.length
 | [], _ => rfl
 | x :: r, i => by simp [nrmBs, jR]
inductive KeepN (L : List LB) (q n : Nat) (S : SL) : SL → Prop
 | nil : KeepN L q n S []
 | cons {t : Nat} {x x' : AV} {S' : SL} : get S t = some x → nrm L q n x = x' → KeepN L q n S S' → KeepN L q n S ((t, x') :: S')
theorem KeepN.get {L : List LB} {q n : Nat} {S S' : SL} (h : KeepN L q n S S') : ∀ t x, Ac.get S' t = some x → ∃ z, Ac.get S t = some z ∧ nrm L q n z = x := by
 induction h with
 | nil => intro t x h; simp [Ac.get] at h
 | @cons t0 x0 x0' S' h0 h1 _ ih =>
  intro t x h
  rw [ZT] at h
  by_cases e : t0 = t
  ·subst e
   simp only [if_true, Option.some.injEq] at h
   subst h; exact ⟨x0, h0, h1⟩
  ·rw [if_neg e] at h; exact ih t x h
structure Wk (n : Nat) (S : SL) (L : List LB) (S' : SL) (L' : List LB) : Prop where
 keep : KeepN L (pinq L) n S S'
 eq : nrmBs L (pinq L) n 0 (L.take n) = L'
 le : Nat.ble n L.length = true
 pq : Nat.ble (pinq L) n = true
section
variable {P : Program} {G : Glo} {N : Nat} {Q : AQ} {S S' : SL} {L L' : List LB}
def Cx.cut (c : Cx) (q n : Nat) : Cx := { c with φ := fun k => if k < n then c.φ k else none, ver := fun k => if k < q then c.ver k else 0, dom := fun k => c.dom k ∧ k < n }
section
variable {c : Cx} {q n : Nat} (st : St G c L) (hq : q ≤ n)
include st hq
mutual
theorem nrm_R : ∀ (x : AV) (y : Value), R c x y → R (c.cut q n) (nrm L q n x) y
 | .lp k o, y, h => by
  simp only [nrm]
  cases h1 : Nat.blt k q with
  | true =>
   have h1 := zK h1
   have hk : k < n := by omega
   simp only [cond_true, R, Cx.cut, if_pos h1, if_pos hk] at h ⊢
   exact ⟨⟨h.1, hk⟩, h.2⟩
  | false =>
   simp only [cond_false]
   cases h2 : Nat.blt k n with
   | false => simp only [cond_false, R]
   | true =>
    have h2 := zK h2
    simp only [cond_true]
    split
    ·rename_i cs hk
     have hb := st.blk _ _ hk
     simp only [BR] at hb
     simp only [R, Cx.cut, if_pos h2] at h ⊢
     exact ⟨⟨h.1, h2⟩, h.2.1, fun _ => h.2.2 hb.1⟩
    ·rename_i cs hk
     have hb := st.blk _ _ hk
     simp only [BR] at hb
     simp only [R, Cx.cut, if_pos h2] at h ⊢
     exact ⟨⟨h.1, h2⟩, h.2.1, fun _ => h.2.2 hb.1⟩
    ·rename_i ob hk
     have hb := st.blk _ _ hk
     simp only [BR] at hb
     simp only [R, Cx.cut, if_pos h2] at h ⊢
     exact ⟨⟨h.1, h2⟩, h.2.1, fun _ => h.2.2 hb.1⟩
    ·simp only [R]
 | .mp k, y, h => by
  simp only [nrm]
  cases h1 : Nat.blt k q with
  | true =>
   have h1 := zK h1
   have hk : k < n := by omega
   simp only [cond_true, R, Cx.cut, if_pos h1, if_pos hk] at h ⊢
   exact ⟨⟨h.1, hk⟩, h.2⟩
  | false =>
   simp only [cond_false]
   cases h2 : Nat.blt k n with
   | false => simp only [cond_false, R]
   | true =>
    have h2 := zK h2
    simp only [cond_true]
    split
    ·rename_i ks xs hk
     have hb := st.blk _ _ hk
     simp only [BR] at hb
     simp only [R, Cx.cut, if_pos h2] at h ⊢
     exact ⟨⟨h.1, h2⟩, h.2.1, fun _ => h.2.2 hb.1⟩
    ·simp only [R]
 | .os k v, y, h => by
  simp only [nrm]
  cases h1 : Nat.blt k q with
  | true =>
   have h1 := zK h1
   have hk : k < n := by omega
   simp only [cond_true, R, OS, Cx.cut, if_pos h1, if_pos hk] at h ⊢
   exact ⟨⟨h.1, hk⟩, h.2⟩
  | false =>
   have hq' : ¬ k < q := fun h => by rw [Zb h] at h1; cases h1
   simp only [cond_false]
   cases h2 : Nat.blt k n with
   | false => simp only [cond_false, R]
   | true =>
    have h2 := zK h2
    simp only [cond_true]
    split
    ·rename_i v' E sz es hk
     cases hv : Nat.beq v' v with
     | false => simp only [cond_false, R]
     | true =>
      have hv := Nat.eq_of_beq_eq_true hv
      subst hv
      have hb := st.blk _ _ hk
      simp only [BR] at hb
      simp only [cond_true, R, OS, Cx.cut, if_pos h2, if_neg hq'] at h ⊢
      exact ⟨⟨h.1, h2⟩, Nat.le_refl _, h.2.2.1, fun _ => h.2.2.2 hb.1⟩
    ·rename_i cs hk
     cases hv : Nat.beq 0 v with
     | false => simp only [cond_false, R]
     | true =>
      have hv := Nat.eq_of_beq_eq_true hv
      subst hv
      have hb := st.blk _ _ hk
      simp only [BR] at hb
      simp only [cond_true, R, OS, Cx.cut, if_pos h2, if_neg hq'] at h ⊢
      exact ⟨⟨h.1, h2⟩, Nat.le_refl _, h.2.2.1, fun _ => h.2.2.2 hb.1⟩
    ·simp only [R]
 | .ep k v i o, y, h => by
  simp only [nrm]
  cases h1 : Nat.blt k q with
  | true =>
   have h1 := zK h1
   have hk : k < n := by omega
   simp only [cond_true, R, Cx.cut, if_pos h1, if_pos hk] at h ⊢
   exact ⟨⟨h.1, hk⟩, h.2⟩
  | false =>
   have hq' : ¬ k < q := fun h => by rw [Zb h] at h1; cases h1
   simp only [cond_false]
   cases h2 : Nat.blt k n with
   | false => simp only [cond_false, R]
   | true =>
    have h2 := zK h2
    simp only [cond_true]
    split
    ·rename_i v' E sz es hk
     cases hv : Nat.beq v' v with
     | false => simp only [cond_false, R]
     | true =>
      have hv := Nat.eq_of_beq_eq_true hv
      subst hv
      have hb := st.blk _ _ hk
      simp only [BR] at hb
      simp only [cond_true, R, Cx.cut, if_pos h2, if_neg hq'] at h ⊢
      exact ⟨⟨h.1, h2⟩, Nat.le_refl _, h.2.2.1, fun _ => h.2.2.2 hb.1⟩
    ·simp only [R]
 | .lag cs, y, h => by
  simp only [R] at h; simp only [nrm, R]
  obtain ⟨xs, e, h⟩ := h
  exact ⟨xs, e, nrm_LR cs _ h⟩
 | .tup cs, y, h => by
  simp only [R] at h; simp only [nrm, R]
  obtain ⟨xs, e, h⟩ := h
  exact ⟨xs, e, nrm_TR cs _ h⟩
 | .fn f asv bs, y, h => by
  simp only [R] at h; simp only [nrm, R]
  obtain ⟨xs, ys, e, h, h2⟩ := h
  exact ⟨xs, ys, e, nrm_TR asv _ h, nrm_TR bs _ h2⟩
 | .ifc t x, y, h => by
  simp only [R] at h; simp only [nrm, R]
  obtain ⟨u, e, h⟩ := h
  exact ⟨u, e, nrm_R x u h⟩
 | .any, y, h => by simp only [nrm, R]
 | .v x, y, h => by simpa only [nrm, R] using h
 | .fs sz m es, y, h => by simp only [R] at h; simp only [nrm, R]; exact h
 | .fz, y, h => by simpa only [nrm, R] using h
 | .fp cs, y, h => by simp only [R] at h; simp only [nrm, R]; exact h
 | .fm ks xs, y, h => by simp only [R] at h; simp only [nrm, R]; exact h
 | .agg cs, y, h => by simp only [R] at h; simp only [nrm, R]; exact h
theorem nrm_LR : ∀ (cs : List AV) (ys : List Value), LR c cs ys → LR (c.cut q n) (nrmL L q n cs) ys
 | [], ys, h => by simpa only [LR, nrmL] using h
 | x :: r, ys, h => by
  simp only [LR] at h; simp only [nrmL, LR]
  obtain ⟨y, s, e, hx, h1, h⟩ := h
  exact ⟨y, s, e, nrm_R x y hx, h1, nrm_LR r s h⟩
theorem nrm_TR : ∀ (cs : List AV) (ys : List Value), TR c cs ys → TR (c.cut q n) (nrmL L q n cs) ys
 | [], ys, h => by simpa only [TR, nrmL] using h
 | x :: r, ys, h => by
  simp only [TR] at h; simp only [nrmL, TR]
  obtain ⟨y, s, e, hx, h⟩ := h
  exact ⟨y, s, e, nrm_R x y hx, nrm_TR r s h⟩
end
theorem nrm_MR : ∀ (cs : List AV) (b off : Nat), MR c cs b off → MR (c.cut q n) (nrmL L q n cs) b off
 | [], _, _, _ => by simp only [nrmL, MR]
 | x :: r, b, off, h => by
  simp only [MR] at h; simp only [nrmL, MR]
  obtain ⟨⟨u, h1, h2, h3⟩, h⟩ := h
  exact ⟨⟨u, h1, nrm_R st hq x u h2, h3⟩, nrm_MR r b (off + 1) h⟩
end
theorem JN {L : List LB} {q n : Nat} : ∀ {cs : List AV}, (nrmL L q n cs).length = cs.length
 | [] => rfl
 | x :: r => by simp [nrmL, JN]
theorem Cn.wk {n : Nat} {c : Cx} {a : Act} (hc : Cn G N S L c a) (h : Wk n S L S' L') : ∃ c', Cn G N S' L' c' a ∧ Ext c c' ∧ c'.w = c.w := by
 have hle : n ≤ L.length := Nat.le_of_ble_eq_true h.le
 have hq : pinq L ≤ n := Nat.le_of_ble_eq_true h.pq
 have he := h.eq
 have hmq := hc.st.m_q
 subst he
 have hφ : ∀ k b, (c.cut (pinq L) n).φ k = some b → k < n ∧ c.φ k = some b := by
  intro k b h
  simp only [Cx.cut] at h
  split at h
  ·rename_i e; exact ⟨e, h⟩
  ·cases h
 have hm : Calm c (c.cut (pinq L) n) := ⟨rfl, rfl, rfl, Nat.le_refl _, fun _ _ _ => rfl, fun b ⟨k, hk⟩ => .inl ⟨k, (hφ k b hk).2⟩, fun b h => .inl h⟩
 have hs : SubX (low c.m) c (c.cut (pinq L) n) := by
  have hl : ∀ {k}, low c.m k = true → k < pinq L := fun h => by have := zK h; omega
  refine ⟨fun _ h => h, fun _ _ => rfl, fun k hd hk => ⟨hd, by have := hl hk; omega⟩, fun k _ hk => ?_, fun k _ hk _ => ?_, fun _ _ _ _ => rfl, fun _ _ _ _ => rfl, fun k b arr T _ _ _ _ hh => ⟨arr, hh, rfl⟩⟩
  ·simp only [Cx.cut, if_pos (hl hk)]; exact Nat.le_refl _
  ·simp only [Cx.cut]; rw [if_pos (by have := hl hk; omega)]
 have hlen : (nrmBs L (pinq L) n 0 (L.take n)).length = n := by rw [jR, List.length_take]; omega
 refine ⟨c.cut (pinq L) n, ⟨hc.st.calm hm hs (fun k hk => by rw [hlen]; exact hk.2) (fun k y hy hne => ?_) rfl rfl rfl hc.st.inF ?_ ?_ ?_ ?_, hc.de, hc.sz, fun t x hx => ?_⟩, hm.ext rfl rfl rfl hs, rfl⟩
 ·obtain ⟨x, hx, rfl⟩ := wx hy
  have hk : k < n := by have := zG hx; rw [List.length_take] at this; omega
  rw [List.getElem?_take, if_pos hk] at hx
  exact ⟨hc.st.dm k x hx (fun e => hne (by rw [e]; rfl)), hk⟩
 ·intro k b h
  obtain ⟨h1, h2⟩ := hφ k b h
  have := hc.st.loc k b h2
  exact ⟨⟨this.1, h1⟩, this.2⟩
 ·intro k k' b h h'; exact hc.st.inj k k' b (hφ k b h).2 (hφ k' b h').2
 ·intro k y hy
  obtain ⟨x, hx, rfl⟩ := wx hy
  rw [Nat.zero_add]
  have hk : k < n := by have := zG hx; rw [List.length_take] at this; omega
  rw [List.getElem?_take, if_pos hk] at hx
  have hb := hc.st.blk k x hx
  have hkφ : (c.cut (pinq L) n).φ k = c.φ k := if_pos hk
  cases x with
  | dead => simp only [nrmB, BR] at hb ⊢; exact hkφ.trans hb
  | pin => simp only [nrmB, BR] at hb ⊢; exact hkφ.trans hb
  | ghost m => simp only [nrmB, BR] at hb ⊢; exact ⟨hkφ.trans hb.1, G.env.sJ hm hb.2⟩
  | gone => simp only [nrmB, BR] at hb ⊢; exact ⟨hkφ.trans hb.1, G.env.sX hm hb.2⟩
  | box cs =>
   simp only [nrmB, BR] at hb ⊢
   obtain ⟨h0, b, arr, T, h1, h2, h3, h4⟩ := hb
   refine ⟨?_, b, arr, T, hkφ.trans h1, h2, by rw [JN]; exact h3, nrm_MR hc.st hq cs b 0 h4⟩
   simp only [Cx.cut]; split
   ·exact h0
   ·rfl
  | row cs =>
   simp only [nrmB, BR] at hb ⊢
   obtain ⟨h0, r1, r2, b, arr, T, h1, h2, h3, h4⟩ := hb
   refine ⟨?_, r1, by rw [JN]; exact r2, b, arr, T, hkφ.trans h1, h2, by rw [JN]; exact h3, nrm_MR hc.st hq cs b 0 h4⟩
   simp only [Cx.cut]; split
   ·exact h0
   ·rfl
  | own v E sz es =>
   simp only [BR] at hb
   obtain ⟨h0, h1, h2, h3⟩ := hb
   simp only [nrmB]
   cases h4 : Nat.blt k (pinq L) with
   | true =>
    have h4 := zK h4
    simp only [cond_true, BR, hkφ]
    exact ⟨by simp only [Cx.cut]; rw [if_pos (by omega)]; exact h0, h1, h2, h3⟩
   | false =>
    have h4' : ¬ k < pinq L := fun h => by rw [Zb h] at h4; cases h4
    simp only [cond_false, BR, hkφ]
    exact ⟨by simp only [Cx.cut]; rw [if_neg h4'], h1, h2, h3⟩
  | mapb m ck bs ks xs =>
   simp only [nrmB, BR] at hb ⊢
   obtain ⟨h0, h1⟩ := hb
   rw [hkφ]
   refine ⟨?_, h1⟩
   simp only [Cx.cut]; split
   ·exact h0
   ·rfl
  | obj o =>
   simp only [nrmB, BR] at hb ⊢
   obtain ⟨h0, h1⟩ := hb
   rw [hkφ]
   refine ⟨?_, h1⟩
   simp only [Cx.cut]; split
   ·exact h0
   ·rfl
  | map ks xs =>
   simp only [nrmB, BR] at hb ⊢
   obtain ⟨h0, h1⟩ := hb
   rw [hkφ]
   refine ⟨?_, h1⟩
   simp only [Cx.cut]; split
   ·exact h0
   ·rfl
 ·by_cases h0 : c.m = 0
  ·exact .inl h0
  ·refine .inr fun hp => ?_
   have := nrmBs_get' (L := L) (q := pinq L) (n := n) (M := L.take n) (i := 0) (k := c.m - 1) (x := .pin) (by rw [List.getElem?_take, if_pos (by omega)]; exact hp)
   exact this
 ·obtain ⟨z, h1, rfl⟩ := h.keep.get t x hx
  exact nrm_R hc.st hq _ _ (hc.sr t z h1)
theorem JA {n : Nat} {c : Code} (h : Wk n S L S' L') (k : awp P G N c Q S' L') : awp P G N c Q S L := by
 intro cx a hc
 obtain ⟨c', hc', he, hw⟩ := hc.wk h
 have := k c' a hc'
 rw [hw] at this
 exact Code.wpIn_mono (fun e a w q => q.trans he) this
theorem awp_while {c : Code} (I : SL → List LB → Nat → Prop) {m : Nat} (h0 : I S L m)
  (round : ∀ S L m, I S L m → awp P G N c (thenQ (fun S' L' => ∃ n S2 L2 m', Wk n S' L' S2 L2 ∧ m' < m ∧ I S2 L2 m') Q) S L) : awp P G N (.loop c) Q S L := by
 intro cx a hc b k cs hro hb hr
 have key : ∀ m S L cx a, I S L m → Cn G N S L cx a →
   ∃ e a' w', conc G N Q cx e a' w' ∧ ArrivesIn (Machine.fenced P (wf G.ro)) P (lone (b.atR a (.code c :: .inLoop c :: k)) cs cx.w) b k cs e a' w' := by
  intro m
  induction m using Nat.strongRecOn with
  | _ m ih =>
   intro S L cx a hI hc
   obtain ⟨e, a₁, w₁, ⟨S', L', c', q, r, ex, hw⟩, harr⟩ := round S L m hI cx a hc b (.inLoop c :: k) cs hro hb hr
   subst hw
   cases e with
   | normal =>
    obtain ⟨n, S2, L2, m', hwk, hm, hI'⟩ := q
    obtain ⟨c2, hc2, he2, hw2⟩ := r.wk hwk
    obtain ⟨e₂, a₂, w₂, hq₂, harr₂⟩ := ih m' hm S2 L2 c2 a₁ hI' hc2
    rw [hw2] at harr₂
    exact ⟨e₂, a₂, w₂, (hq₂.trans he2).trans ex, .of_steps (StepsIn.trans harr (.one (fenced_calm hb hr rfl) stepR_inLoop)) harr₂⟩
   | exit id => exact ⟨_, a₁, _, ⟨S', L', c', q, r, ex, rfl⟩, .pass (x := .inLoop c) rfl (fun _ _ => .inl (by simp)) harr⟩
   | goto l => exact ⟨_, a₁, _, ⟨S', L', c', q, r, ex, rfl⟩, .pass (x := .inLoop c) rfl (fun _ _ => .inl (by simp)) harr⟩
   | ret => exact ⟨_, a₁, _, ⟨S', L', c', q, r, ex, rfl⟩, .pass (x := .inLoop c) rfl (fun _ _ => .inl (by simp)) harr⟩
   | panic ch => exact ⟨_, a₁, _, ⟨S', L', c', q, r, ex, rfl⟩, .pass (x := .inLoop c) rfl (fun _ _ => .inl (by simp)) harr⟩
   | outgrown => exact ⟨_, a₁, _, ⟨S', L', c', q, r, ex, rfl⟩, .pass (x := .inLoop c) rfl (fun _ _ => .inl (by simp)) harr⟩
 obtain ⟨e, a', w', hq, harr⟩ := key m S L cx a h0 hc
 exact ⟨e, a', w', hq, .of_steps (.one (fenced_calm hb hr rfl) stepR_loop) harr⟩
theorem zi {α : Type} {c : Code} (n : Nat) (σ : α → SL) (Λ : α → List LB) (inv : α → Prop) (μ : α → Nat) (x0 : α) (h0 : Wk n S L (σ x0) (Λ x0)) (hi : inv x0)
  (round : ∀ x, inv x → awp P G N c (thenQ (fun S' L' => ∃ y, Wk n S' L' (σ y) (Λ y) ∧ inv y ∧ μ y < μ x) Q) (σ x) (Λ x)) : awp P G N (.loop c) Q S L := by
 refine JA h0 (awp_while (fun S L m => ∃ x, inv x ∧ S = σ x ∧ L = Λ x ∧ m = μ x) ⟨x0, hi, rfl, rfl, rfl⟩ ?_)
 rintro S L m ⟨x, hx, rfl, rfl, rfl⟩
 refine Qb ?_ (round x hx)
 intro e S L h
 cases e with
 | normal => obtain ⟨y, h1, h2, h3⟩ := h; exact ⟨n, _, _, _, h1, h3, y, h2, rfl, rfl, rfl⟩
 | exit id => exact h
 | goto l => exact h
 | ret => exact h
 | panic c => exact h
 | outgrown => exact h
theorem Wx {next : SL → List LB → Prop} (h : next S L) : thenQ next Q .normal S L := h
theorem JE {next : SL → List LB → Prop} (h : Q .ret S L) : thenQ next Q .ret S L := h
theorem Wy {next : SL → List LB → Prop} {id : Nat} (h : Q (.exit id) S L) : thenQ next Q (.exit id) S L := h
theorem J4 {id : Nat} (h : Q .normal S L) : blockQ id Q .normal S L := h
theorem jF {id : Nat} (h : Q .ret S L) : blockQ id Q .ret S L := h
theorem J5 {id : Nat} (h : Q .normal S L) : blockQ id Q (.exit id) S L := by simp only [blockQ, if_true]; exact h
theorem J3 {id id' : Nat} (hn : Nat.beq id' id = false) (h : Q (.exit id') S L) : blockQ id Q (.exit id') S L := by
 have : id' ≠ id := fun e => by subst e; simp at hn
 simp only [blockQ, if_neg this]; exact h
theorem QZ {t : Nat} {x y : Code} {b : Bool} (hg : get S t = some (.v (.bool b))) (hb : b = true) (h : awp P G N x Q S L) : awp P G N (.cond (.tmp t) x y) Q S L :=
 ze hg (fun _ => h) (fun e => by rw [hb] at e; cases e)
theorem Q0 {t : Nat} {x y : Code} {b : Bool} (hg : get S t = some (.v (.bool b))) (hb : b = false) (h : awp P G N y Q S L) : awp P G N (.cond (.tmp t) x y) Q S L :=
 ze hg (fun e => by rw [hb] at e; cases e) (fun _ => h)
theorem retP {td : TDs} {rs : List ResultVar} {r x : AV} (h : resV td S L rs = some r) (hx : ex L r = x) : retQ td rs (fun r' L' => Le (ex L' r') x) .ret S L := ⟨r, h, Le.of_eq hx⟩
theorem retLe {td : TDs} {rs : List ResultVar} {r x : AV} (h : resV td S L rs = some r) (hx : Le (ex L r) x) : retQ td rs (fun r' L' => Le (ex L' r') x) .ret S L := ⟨r, h, hx⟩
theorem retO {td : TDs} {rs : List ResultVar} {k v E sz : Nat} {es : List (List AV)} (h : resV td S L rs = some (.os k v)) (hk : L[k]? = some (.own v E sz es)) :
  retQ td rs (fun r' L' => ∃ k v, r' = .os k v ∧ L'[k]? = some (.own v E sz es)) .ret S L := ⟨_, h, k, v, rfl, hk⟩
theorem ZC {c : Code} {t E sz k : Nat} {L' : List LB} (h : get S t = some (.v (.slice none 0 0))) (hk : L.length = k) (hL : L ++ [.own 0 E sz []] = L') (h2 : awp P G N c Q ((t, .os k 0) :: S) L') : awp P G N c Q S L := by
 subst hk hL
 intro cx a hc
 have hst := hc.st.nul sz (x := .own 0 E sz []) (by simp [BR, Cx.nul])
 have := h2 (cx.nul L.length sz) a ⟨hst.st, hc.de, hc.sz, fun i x hx => ?_⟩
 ·exact Code.wpIn_mono (fun e a w q => q.trans hst.ext) this
 ·rw [ZT] at hx
  split at hx
  ·rename_i e; subst e; injection hx with hx; subst hx
   have hv := hc.sr t _ h
   simp only [R] at hv
   simp only [R, OS, Cx.nul, if_true]
   refine ⟨.inr trivial, Nat.le_refl _, by rw [hv]; rfl, fun _ => .inl ⟨trivial, hv, trivial⟩⟩
  ·exact hc.sr.mono_all hst.sub i x hx
end
end
section
theorem qw {n : Nat} {S S' : SL} {L L' : List LB} (h : Wk n S L S' L' := by exact ⟨by repeat' (first | exact KeepN.nil | refine KeepN.cons rfl rfl ?_), rfl, rfl, rfl⟩) : Wk n S L S' L' := h
end
section
def hasE : List Edge → Nat → Bool
 | [], _ => false
 | e :: r, j => (Region.binds .any e && Nat.beq e.on j) || hasE r j
theorem zX : ∀ {l : List Edge} {j : Nat}, hasE l j = true → ∃ e ∈ l, Region.binds .any e = true ∧ e.on = j
 | [], j, h => by simp [hasE] at h
 | e :: r, j, h => by
  simp only [hasE, Bool.or_eq_true, Bool.and_eq_true] at h
  rcases h with ⟨h1, h2⟩ | h
  ·exact ⟨e, List.mem_cons_self .., h1, Nat.eq_of_beq_eq_true h2⟩
  ·obtain ⟨e', h1, h2⟩ := zX h; exact ⟨e', List.mem_cons_of_mem _ h1, h2⟩
def depS (aft : List Edge) : Nat → SL → SL
 | _, [] => []
 | i, p :: r => bif hasE aft i then p :: depS aft (i + 1) r else depS aft (i + 1) r
theorem y6 {aft : List Edge} : ∀ {i : Nat} {D : SL} {t : Nat} {x : AV}, get (depS aft i D) t = some x → ∃ j, D[j]? = some (t, x) ∧ hasE aft (i + j) = true
 | i, [], t, x, h => by simp [depS, get] at h
 | i, p :: r, t, x, h => by
  simp only [depS] at h
  have hrec : get (depS aft (i + 1) r) t = some x → ∃ j, (p :: r)[j]? = some (t, x) ∧ hasE aft (i + j) = true := by
   intro h
   obtain ⟨j, h1, h2⟩ := y6 h
   exact ⟨j + 1, by simpa using h1, by rwa [show i + (j + 1) = i + 1 + j by omega]⟩
  cases hb : hasE aft i with
  | false => rw [hb] at h; exact hrec h
  | true =>
   rw [hb] at h
   simp only [cond_true] at h
   obtain ⟨d, z⟩ := p
   rw [ZT] at h
   split at h
   ·rename_i e; subst e; injection h with h; subst h
    exact ⟨0, rfl, by simpa using hb⟩
   ·exact hrec h
theorem Jv {A B : SL} {t : Nat} {x : AV} (h : get (A ++ B) t = some x) : get A t = some x ∨ get B t = some x := by
 induction A with
 | nil => exact .inr h
 | cons p r ih =>
  obtain ⟨d, z⟩ := p
  simp only [List.cons_append] at h
  rw [ZT] at h ⊢
  split at h
  ·rename_i e; rw [if_pos e]; exact .inl h
  ·rename_i e; rw [if_neg e]; exact ih h
theorem get_mem {S : SL} {t : Nat} {x : AV} (h : get S t = some x) : (t, x) ∈ S := by
 induction S with
 | nil => simp [get] at h
 | cons p r ih =>
  obtain ⟨d, z⟩ := p
  rw [ZT] at h
  split at h
  ·rename_i e; subst e; injection h with h; subst h; exact List.mem_cons_self ..
  ·exact List.mem_cons_of_mem _ (ih h)
def PEv (P : Program) (G : Glo) (N : Nat) (op : Op) (ty : TypeId) (S : SL) (L : List LB) (x : AV) (L' : List LB) : Prop :=
 ∀ o : Oper, o.op = op → o.type = ty → ∀ (cx : Cx) (a : Act), Cn G N S L cx a → ∀ (K : Act → World → Prop) (Q : Exit → Act → World → Prop),
  (∀ y cx', R cx' x y → Stp G cx cx' L' → K (a.put o.dst y) cx'.w) → o.wpIn (wf G.ro) 0 P a cx.w K Q
section
variable {P : Program} {G : Glo} {N : Nat} {Q : AQ} {S : SL} {L L' : List LB} {op : Op} {ty : TypeId} {x : AV}
theorem Stp.refl {c : Cx} (st : St G c L) : Stp G c c L := ⟨st, ⟨rfl, rfl, rfl, Nat.le_refl _, fun _ _ _ => rfl, fun _ h => .inl h, fun _ h => .inl h⟩, SubX.refl _ _, rfl, rfl, rfl, fun _ h => .inl h⟩
theorem pev_ev (h : Ev P G N op ty S L x) (hnd : nd op = true := by rfl) : PEv P G N op ty S L x L := by
 intro o ho ht cx a hc K Q hK
 obtain ⟨y, hr, hx⟩ := h o ho ht cx a hc
 refine zy (by rw [ho]; exact hnd) ?_
 rw [hr, Oper.uponIn_value]
 exact hK y cx hx (Stp.refl hc.st)
theorem WA (h : Ev2 P G N op ty S L x L') (hnd : nd op = true := by rfl) : PEv P G N op ty S L x L' := by
 intro o ho ht cx a hc K Q hK
 obtain ⟨y, cx', hr, hx, hst⟩ := h o ho ht cx a hc
 refine zy (by rw [ho]; exact hnd) ?_
 rw [hr, Oper.uponIn_value]
 exact hK y cx' hx hst
theorem pev_call {f : FuncId} {us : Array Operand} {ats : Array TypeId} {args : List AV} {r : AV} (hargs : vals G S us.toList = some args) (hF : args.all isF = true) (h : PCalls P G.g f args r) :
  PEv P G N (.call { callee := .value (.func f), args := us, argTypes := ats }) ty S L r L := by
 intro o ho ht cx a hc K Q hK
 have ha := QF hF (ZV hc hargs)
 refine zy (by rw [ho]; rfl) ?_
 rw [qa h.1 (o := o) ho a cx.w, Oper.uponIn_enter]
 refine ⟨fun h => by simp at h, CallsIn.mono (h.2 cx.F cx.w (us.map a.eval) hc.st.bare (by simpa using ha)) ?_⟩
 rintro e w' ⟨y, F', rfl, hr, st', ex⟩
 exact hK y { cx with F := F', w := w' } (R.of_RF _ _ _ hr) (hc.st.after ex st')
theorem pev_callS {f : FuncId} {us : Array Operand} {ats : Array TypeId} {args args' : List AV} {r : AV} (hargs : vals G S us.toList = some args) (hex : exL L args = args') (h : PCalls P G.g f args' r) (hscal : scal r = true) :
  PEv P G N (.call { callee := .value (.func f), args := us, argTypes := ats }) ty S L r L := by
 subst hex
 intro o ho ht cx a hc K Q hK
 have ha := Jy hc.st args _ (ZV hc hargs)
 refine zy (by rw [ho]; rfl) ?_
 rw [qa h.1 (o := o) ho a cx.w, Oper.uponIn_enter]
 refine ⟨fun h => by simp at h, CallsIn.mono (h.2 (allF cx) cx.w (us.map a.eval) hc.st.freeze (by simpa using ha)) ?_⟩
 rintro e w' ⟨y, F', rfl, hr, st', ex⟩
 exact hK y { cx with w := w' } (R.of_RF _ _ _ (scal_RF hscal hr)) (hc.st.afterS ex)
end
mutual
theorem wR {c : Cx} {n : Nat} (hn : ∀ k, c.dom k → k < n) : ∀ (x : AV) (y : Value), R c x y → noid (low n) x = true
 | .lp k _, y, h => by simp only [R] at h; simp only [noid]; exact Zb (hn k h.1)
 | .ep k _ _ _, y, h => by simp only [R] at h; simp only [noid]; exact Zb (hn k h.1)
 | .os k _, y, h => by simp only [R] at h; simp only [noid]; exact Zb (hn k h.1)
 | .mp k, y, h => by simp only [R] at h; simp only [noid]; exact Zb (hn k h.1)
 | .lag cs, y, h => by simp only [R] at h; obtain ⟨xs, _, h⟩ := h; simp only [noid]; exact LR_noid hn cs _ h
 | .tup cs, y, h => by simp only [R] at h; obtain ⟨xs, _, h⟩ := h; simp only [noid]; exact WQ hn cs _ h
 | .fn _ asv bs, y, h => by simp only [R] at h; obtain ⟨xs, ys, _, h, h2⟩ := h; simp only [noid, WQ hn asv _ h, WQ hn bs _ h2]; rfl
 | .ifc _ x, y, h => by simp only [R] at h; obtain ⟨u, _, h⟩ := h; simp only [noid]; exact wR hn x u h
 | .any, _, _ => rfl
 | .v _, _, _ => rfl
 | .fs _ _ _, _, _ => rfl
 | .fz, _, _ => rfl
 | .fp _, _, _ => rfl
 | .fm _ _, _, _ => rfl
 | .agg _, _, _ => rfl
theorem LR_noid {c : Cx} {n : Nat} (hn : ∀ k, c.dom k → k < n) : ∀ (cs : List AV) (ys : List Value), LR c cs ys → noidL (low n) cs = true
 | [], _, _ => rfl
 | x :: r, ys, h => by
  simp only [LR] at h
  obtain ⟨y, s, _, hx, _, h⟩ := h
  simp only [noidL, wR hn x y hx, LR_noid hn r s h]; rfl
theorem WQ {c : Cx} {n : Nat} (hn : ∀ k, c.dom k → k < n) : ∀ (cs : List AV) (ys : List Value), TR c cs ys → noidL (low n) cs = true
 | [], _, _ => rfl
 | x :: r, ys, h => by
  simp only [TR] at h
  obtain ⟨y, s, _, hx, h⟩ := h
  simp only [noidL, wR hn x y hx, WQ hn r s h]; rfl
end
theorem wi {c : Cx} {n : Nat} (hn : ∀ k, c.dom k → k < n) : ∀ (cs : List AV) (b off : Nat), MR c cs b off → noidL (low n) cs = true
 | [], _, _, _ => rfl
 | x :: r, b, off, h => by
  simp only [MR] at h
  obtain ⟨⟨u, _, hx, _⟩, h⟩ := h
  simp only [noidL, wR hn x u hx, wi hn r b _ h]; rfl
mutual
theorem Qx {p q : Nat → Bool} (h : ∀ k, p k = true → q k = true) : ∀ x : AV, noid p x = true → noid q x = true
 | .lp k _, hx => h k hx
 | .ep k _ _ _, hx => h k hx
 | .os k _, hx => h k hx
 | .mp k, hx => h k hx
 | .lag cs, hx => by simp only [noid] at hx ⊢; exact zY h cs hx
 | .tup cs, hx => by simp only [noid] at hx ⊢; exact zY h cs hx
 | .fn _ asv bs, hx => by simp only [noid, Bool.and_eq_true] at hx ⊢; exact ⟨zY h asv hx.1, zY h bs hx.2⟩
 | .ifc _ x, hx => by simp only [noid] at hx ⊢; exact Qx h x hx
 | .any, _ => rfl
 | .v _, _ => rfl
 | .fs _ _ _, _ => rfl
 | .fz, _ => rfl
 | .fp _, _ => rfl
 | .fm _ _, _ => rfl
 | .agg _, _ => rfl
theorem zY {p q : Nat → Bool} (h : ∀ k, p k = true → q k = true) : ∀ x : List AV, noidL p x = true → noidL q x = true
 | [], _ => rfl
 | x :: r, hx => by simp only [noidL, Bool.and_eq_true] at hx ⊢; exact ⟨Qx h x hx.1, zY h r hx.2⟩
end
theorem yD {p q : Nat → Bool} (h : ∀ k, p k = true → q k = true) {x : LB} (hx : noidB p x = true) : noidB q x = true := by
 cases x with
 | box cs => simp only [noidB] at hx ⊢; exact zY h cs hx
 | row cs => simp only [noidB] at hx ⊢; exact zY h cs hx
 | _ => rfl
def okid (M : List LB) (nb k : Nat) : Bool := Nat.blt k nb || (match M[k]? with | some .dead => false | some _ => true | none => false)
def plainB (nb : Nat) : LB → Bool
 | .own _ _ _ _ => true
 | .map _ _ => true
 | .box cs => noidL (low nb) cs
 | _ => false
theorem JM {M : List LB} {nb k : Nat} (h : okid M nb k = true) (hnb : nb ≤ M.length) : k < M.length := by
 simp only [okid, Bool.or_eq_true] at h
 rcases h with h | h
 ·have := zK h; omega
 ·split at h <;> first | exact zG (by assumption) | cases h
theorem ZH {M : List LB} {nb k : Nat} (h : k < nb) : okid M nb k = true := by simp only [okid, Zb h, Bool.true_or]
theorem okid_dead {M : List LB} {nb k : Nat} (h : okid M nb k = false) (hk : k < M.length) : M[k]? = some .dead ∧ nb ≤ k := by
 simp only [okid, Bool.or_eq_false_iff] at h
 obtain ⟨h1, h2⟩ := h
 refine ⟨?_, Nat.not_lt.1 fun h => by rw [Zb h] at h1; cases h1⟩
 split at h2
 ·assumption
 ·cases h2
 ·rename_i h3; rw [List.getElem?_eq_getElem hk] at h3; cases h3
theorem qc {M : List LB} {nb k : Nat} {x : LB} (h : M[k]? = some x) (hx : x ≠ .dead) : okid M nb k = true := by
 unfold okid
 rw [h]
 cases x <;> first | exact absurd rfl hx | simp
def Cx.msk (c : Cx) (M : List LB) (nb : Nat) : Cx :=
 { c with φ := fun k => bif okid M nb k then c.φ k else none, ver := fun k => bif okid M nb k then c.ver k else c.ver k + 1, dom := fun k => c.dom k ∧ k < M.length }
def Cx.unmsk (c c' : Cx) (M' : List LB) (nb : Nat) : Cx :=
  { F := c'.F, φ := fun k => bif okid M' nb k then c'.φ k else c.φ k, ver := fun k => bif okid M' nb k then c'.ver k else c.ver k, sz := fun k => bif okid M' nb k then c'.sz k else c.sz k,
    len := fun k => bif okid M' nb k then c'.len k else c.len k, dom := fun k => c.dom k ∨ (c'.dom k ∧ okid M' nb k = true), m := c.m, E := c.E, mks := c.mks, w := c'.w }
section
variable {G : Glo} {c : Cx} {M L : List LB} {nb : Nat} (st : St G c L) (hnb : nb ≤ M.length) (hle : M.length ≤ L.length) (hm : c.m ≤ nb)
 (agree : ∀ k, okid M nb k = true → M[k]? = L[k]?) (hno : ∀ (k : Nat) (x : LB), M[k]? = some x → noidB (low nb) x = true)
include st hnb hle hm agree hno
theorem msk_sub : SubX (low M.length) c (c.msk M nb) := by
 refine ⟨fun _ h => h, fun _ _ => rfl, fun k hk hl => ⟨hk, zK hl⟩, fun k _ _ => ?_, fun k _ _ h => ?_, fun _ _ _ _ => rfl, fun _ _ _ _ => rfl, fun k b arr T _ _ _ _ hh => ⟨arr, hh, rfl⟩⟩
 ·simp only [Cx.msk]
  cases okid M nb k
  ·exact Nat.le_succ _
  ·exact Nat.le_refl _
 ·simp only [Cx.msk] at h ⊢
  cases ho : okid M nb k
  ·rw [ho] at h; simp at h
  ·rfl
theorem msk_st : St G (c.msk M nb) M := by
 have hφ : ∀ {k b}, (c.msk M nb).φ k = some b → okid M nb k = true ∧ c.φ k = some b := by
  intro k b h
  simp only [Cx.msk] at h
  cases ho : okid M nb k
  ·rw [ho] at h; cases h
  ·rw [ho] at h; exact ⟨rfl, h⟩
 have hs := msk_sub st hnb hle hm agree hno
 have hcm : Calm c (c.msk M nb) := ⟨rfl, rfl, rfl, Nat.le_refl _, fun _ _ _ => rfl, fun b ⟨k, hk⟩ => .inl ⟨k, (hφ hk).2⟩, fun b h => .inl h⟩
 refine st.calm hcm hs (fun k h => h.2) (fun k x hx hne => ?_) rfl rfl rfl st.inF (fun k b h => ?_) (fun k k' b h h' => st.inj k k' b (hφ h).2 (hφ h').2) (fun k x hx => ?_) ?_
 ·have hok := qc (nb := nb) hx hne
  rw [agree k hok] at hx
  exact ⟨st.dm k x hx hne, JM hok hnb⟩
 ·obtain ⟨h1, h2⟩ := hφ h
  have := st.loc k b h2
  exact ⟨⟨this.1, JM h1 hnb⟩, this.2⟩
 ·cases ho : okid M nb k with
  | true =>
   have hx' := hx
   rw [agree k ho] at hx
   exact BR.mono hs hcm rfl ⟨by simp only [Cx.msk, ho, cond_true], by simp only [Cx.msk, ho, cond_true], rfl, rfl⟩ (yD (fun j hj => Zb (Nat.lt_of_lt_of_le (zK hj) hnb)) (hno k x hx')) (fun _ _ => rfl) (st.blk k x hx)
  | false =>
   have := (okid_dead ho (zG hx)).1
   rw [hx] at this; injection this with this; subst this
   simp only [BR, Cx.msk, ho, cond_false]
 ·by_cases h0 : c.m = 0
  ·exact .inl h0
  ·exact .inr fun h => by rw [agree _ (ZH (by omega))]; exact h
variable {c' : Cx} {M' L' : List LB} (hst : Stp G (c.msk M nb) c' M') (hfree : ∀ k, nb ≤ k → L[k]? = some .dead → ¬ c.dom k)
 (hbase : ∀ k, k < nb → M'[k]? = M[k]?) (hnew : ∀ k, okid M' nb k = true → okid M nb k = true ∨ (k = M.length ∧ L[k]? = some .dead)) (hold : ∀ k, okid M nb k = true → okid M' nb k = true)
 (hle' : M'.length ≤ L.length) (hnb' : nb ≤ M'.length) (hLl : L'.length = L.length) (agree' : ∀ k, okid M' nb k = true → L'[k]? = M'[k]?) (other : ∀ k, okid M' nb k = false → L'[k]? = L[k]?)
 (hpl : ∀ (k : Nat) (x : LB), nb ≤ k → M'[k]? = some x → x = .dead ∨ plainB nb x = true)
include hst hfree hbase hnew hold hle' hnb' hLl agree' other hpl
theorem unmsk_stp : Stp G c (c.unmsk c' M' nb) L' ∧ SubX (okid M' nb) c' (c.unmsk c' M' nb) := by
 have hφ1 : ∀ {k b}, (c.msk M nb).φ k = some b → okid M nb k = true ∧ c.φ k = some b := by
  intro k b h
  simp only [Cx.msk] at h
  cases ho : okid M nb k
  ·rw [ho] at h; cases h
  ·rw [ho] at h; exact ⟨rfl, h⟩
 have hr1 : ∀ b, rng (c.msk M nb) b → rng c b := fun b ⟨k, hk⟩ => ⟨k, (hφ1 hk).2⟩
 -- a block that is hidden is none of the visible ones
 have hid : ∀ {k b}, okid M' nb k = false → c.φ k = some b → ¬ rng (c.msk M nb) b := by
  rintro k b ho hb ⟨j, hj⟩
  obtain ⟨h1, h2⟩ := hφ1 hj
  have := st.inj _ _ _ h2 hb
  subst this
  rw [hold j h1] at ho; cases ho
 have hkeep : ∀ {k b}, okid M' nb k = false → c.φ k = some b → c'.w.heap[b]? = c.w.heap[b]? := fun ho hb => hst.calm.keep _ (st.loc _ _ hb).2.2 (hid ho hb)
 have hokd : ∀ {k}, okid M' nb k = true → c.dom k → okid M nb k = true ∧ (c.msk M nb).dom k := by
  intro k ho hd
  rcases hnew k ho with h | ⟨h1, h2⟩
  ·exact ⟨h, hd, JM h hnb⟩
  ·exact absurd hd (hfree k (by omega) h2)
 have hs2 : SubX (okid M' nb) c' (c.unmsk c' M' nb) := by
  refine ⟨fun _ h => h, fun _ _ => rfl, fun k hk ho => .inr ⟨hk, ho⟩, fun k _ ho => ?_, fun k _ ho _ => ?_, fun k _ ho _ => ?_, fun k _ ho _ => ?_, fun k b arr T _ _ _ _ hh => ⟨arr, hh, rfl⟩⟩ <;> simp only [Cx.unmsk, ho, cond_true]
  exact Nat.le_refl _
 have hs : SubX allp c (c.unmsk c' M' nb) := by
  refine ⟨fun b h => hst.sub.F b h, fun b h => hst.sub.heap b h, fun k h _ => .inl h, fun k hk _ => ?_, fun k hk _ h => ?_, fun k hk _ h => ?_, fun k hk _ h => ?_, fun k b arr T hk _ h hb hh => ?_⟩
  ·simp only [Cx.unmsk]
   cases ho : okid M' nb k with
   | false => exact Nat.le_refl _
   | true =>
    obtain ⟨h1, h2⟩ := hokd ho hk
    have := hst.sub.ver k h2 rfl
    simp only [Cx.msk, h1, cond_true] at this
    exact this
  all_goals simp only [Cx.unmsk] at h ⊢
  all_goals cases ho : okid M' nb k with
   | false => first | rfl | exact ⟨arr, (hkeep ho hb).trans hh, rfl⟩
   | true =>
    obtain ⟨h1, h2⟩ := hokd ho hk
    rw [ho] at h
    have hv : c'.ver k = (c.msk M nb).ver k := by simp only [Cx.msk, h1, cond_true]; exact h
    first
     | (have := hst.sub.φ k h2 rfl hv; simp only [Cx.msk, h1, cond_true] at this; exact this)
     | exact hst.sub.sz k h2 rfl hv
     | exact hst.sub.len k h2 rfl hv
     | exact hst.sub.row k b arr T h2 rfl hv (by simp only [Cx.msk, h1, cond_true]; exact hb) hh
 have hφ2 : ∀ {k b}, (c.unmsk c' M' nb).φ k = some b → (okid M' nb k = true ∧ c'.φ k = some b) ∨ (okid M' nb k = false ∧ c.φ k = some b) := by
  intro k b h
  simp only [Cx.unmsk] at h
  cases ho : okid M' nb k
  ·rw [ho] at h; exact .inr ⟨rfl, h⟩
  ·rw [ho] at h; exact .inl ⟨rfl, h⟩
 have hcm : Calm c (c.unmsk c' M' nb) := by
  refine ⟨hst.calm.os, hst.calm.tape, hst.calm.output, hst.calm.size, fun b hb h => hst.calm.keep b hb (fun h' => h (hr1 b h')), fun b ⟨k, hk⟩ => ?_, fun b h => ?_⟩
  ·rcases hφ2 hk with ⟨_, h⟩ | ⟨_, h⟩
   ·exact (hst.calm.newU b ⟨k, h⟩).imp (hr1 b) id
   ·exact .inl ⟨k, h⟩
  ·exact (hst.calm.newV b h).imp id (fun h => h.imp (hr1 b) id)
 have hnF : ∀ {k b}, okid M' nb k = false → c.φ k = some b → ¬ c'.F b := by
  intro k b ho hb hF
  have h1 := st.loc k b hb
  rcases hst.calm.newV b hF with h | h | h
  ·exact h1.2.1 h
  ·exact hid ho hb h
  ·exact absurd h1.2.2 (Nat.not_lt.2 h)
 refine ⟨Stp.mk' hcm hs rfl rfl rfl (st.calm hcm hs (fun k hk => ?_) (fun k x hx hne => ?_) rfl rfl rfl hst.st.inF (fun k b h => ?_) (fun k k' b h h' => ?_) (fun k x hx => ?_) ?_) (fun k hk => hk.elim .inl (fun ⟨h1, h2⟩ => (hst.dom k h1).imp (fun h => h.1) (fun ⟨x, hx, hne⟩ => ⟨x, by rw [agree' k h2]; exact hx, hne⟩))), hs2⟩
 ·rw [hLl]
  rcases hk with hk | ⟨_, hk⟩
  ·exact st.n k hk
  ·have := JM hk hnb'; omega
 ·cases ho : okid M' nb k with
  | true =>
   rw [agree' k ho] at hx
   exact .inr ⟨hst.st.dm k x hx hne, ho⟩
  | false =>
   rw [other k ho] at hx
   exact .inl (st.dm k x hx hne)
 ·rcases hφ2 h with ⟨ho, h⟩ | ⟨ho, h⟩
  ·have := hst.st.loc k b h
   exact ⟨.inr ⟨this.1, ho⟩, this.2⟩
  ·have := st.loc k b h
   exact ⟨.inl this.1, hnF ho h, Nat.lt_of_lt_of_le this.2.2 hst.calm.size⟩
 ·have mix : ∀ {k j b}, okid M' nb k = true → c'.φ k = some b → okid M' nb j = false → c.φ j = some b → False := by
   intro k j b _ h1 ho h2
   rcases hst.calm.newU b ⟨k, h1⟩ with h | h
   ·exact hid ho h2 h
   ·have := (st.loc j b h2).2.2; exact absurd this (Nat.not_lt.2 h)
  rcases hφ2 h with ⟨ho, h⟩ | ⟨ho, h⟩ <;> rcases hφ2 h' with ⟨ho', h'⟩ | ⟨ho', h'⟩
  ·exact hst.st.inj _ _ _ h h'
  ·exact (mix ho h ho' h').elim
  ·exact (mix ho' h' ho h).elim
  ·exact st.inj _ _ _ h h'
 ·cases ho : okid M' nb k with
  | true =>
   rw [agree' k ho] at hx
   have hb := hst.st.blk k x hx
   have hsm : Same c' (c.unmsk c' M' nb) k := ⟨by simp only [Cx.unmsk, ho, cond_true], by simp only [Cx.unmsk, ho, cond_true], by simp only [Cx.unmsk, ho, cond_true], by simp only [Cx.unmsk, ho, cond_true]⟩
   have hnid : noidB (okid M' nb) x = true := by
    rcases Nat.lt_or_ge k nb with hk | hk
    ·rw [hbase k hk] at hx
     exact yD (fun j hj => ZH (zK hj)) (hno k x hx)
    ·rcases hpl k x hk hx with rfl | h
     ·rfl
     ·cases x <;> first | rfl | (simp only [plainB, Bool.false_eq_true] at h; done) | (simp only [plainB] at h; simp only [noidB]; exact zY (fun j hj => ZH (zK hj)) _ h)
   have ghost : (∃ n, x = .ghost n) ∨ x = .gone → BR G c k x := by
    intro hg
    rcases Nat.lt_or_ge k nb with hk | hk
    ·have hx' := hx
     rw [hbase k hk, agree k (ZH hk)] at hx'
     exact st.blk k x hx'
    ·rcases hpl k x hk hx with rfl | h
     ·rcases hg with ⟨n, h⟩ | h <;> cases h
     ·rcases hg with ⟨n, rfl⟩ | rfl <;> simp [plainB] at h
   cases x with
   | ghost n => have h2 := ghost (.inl ⟨n, rfl⟩); simp only [BR] at h2 hb ⊢; exact ⟨hsm.φ.trans hb.1, G.env.sJ hcm h2.2⟩
   | gone => have h2 := ghost (.inr rfl); simp only [BR] at h2 hb ⊢; exact ⟨hsm.φ.trans hb.1, G.env.sX hcm h2.2⟩
   | dead => simp only [BR] at hb ⊢; exact hsm.φ.trans hb
   | pin => simp only [BR] at hb ⊢; exact hsm.φ.trans hb
   | box cs =>
    simp only [BR] at hb ⊢
    obtain ⟨h0, b, arr, T, e1, e2, e3, e4⟩ := hb
    exact ⟨hsm.ver.trans h0, b, arr, T, hsm.φ.trans e1, e2, e3, MR.mono hs2 cs b 0 (by simpa only [noidB] using hnid) rfl e4⟩
   | row cs =>
    simp only [BR] at hb ⊢
    obtain ⟨h0, r1, r2, b, arr, T, e1, e2, e3, e4⟩ := hb
    exact ⟨hsm.ver.trans h0, hsm.sz.trans r1, hsm.len.trans r2, b, arr, T, hsm.φ.trans e1, e2, e3, MR.mono hs2 cs b 0 (by simpa only [noidB] using hnid) rfl e4⟩
   | own v E sz es =>
    simp only [BR] at hb ⊢
    obtain ⟨h0, h1, h2, h⟩ := hb
    refine ⟨hsm.ver.trans h0, hsm.sz.trans h1, hsm.len.trans h2, ?_⟩
    rw [hsm.φ]; exact h
   | map ks xs =>
    simp only [BR] at hb ⊢
    obtain ⟨h0, h⟩ := hb
    rw [hsm.φ]; exact ⟨hsm.ver.trans h0, h⟩
   | mapb m ck bs ks xs =>
    simp only [BR] at hb ⊢
    obtain ⟨h0, h⟩ := hb
    rw [hsm.φ]; exact ⟨hsm.ver.trans h0, h⟩
   | obj o =>
    simp only [BR] at hb ⊢
    obtain ⟨h0, h⟩ := hb
    rw [hsm.φ]; exact ⟨hsm.ver.trans h0, h⟩
  | false =>
   rw [other k ho] at hx
   exact BR.mono hs hcm rfl ⟨by simp only [Cx.unmsk, ho, cond_false], by simp only [Cx.unmsk, ho, cond_false], by simp only [Cx.unmsk, ho, cond_false], by simp only [Cx.unmsk, ho, cond_false]⟩ (zM x) (fun b hb => hkeep ho hb) (st.blk k x hx)
 ·by_cases h0 : c.m = 0
  ·exact .inl h0
  ·refine .inr fun h => ?_
   have hlt : c.m - 1 < nb := by omega
   rw [agree' _ (ZH hlt), hbase _ hlt, agree _ (ZH hlt)]; exact h
end
end
end Go.Ac
