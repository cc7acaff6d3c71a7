/- A logic of trees over the model's steps, and the contracts of the functions that the laws reach: part 22 of 29. -/
import Derived.Test.YtcfkokllinkigaaGreatDoorB21
set_option linter.unusedVariables false
set_option linter.unusedSimpArgs false
set_option linter.unusedSectionVars false
set_option linter.unnecessarySimpa false
namespace Go.Proofs.YtcfkokllinkigaaGreatDoor
section
open Go.Ac
attribute [local irreducible] awp awpL Ev Ev2 EvS thenQ blockQ retQ PCalls OCalls YieldOk IterC ICalls
variable {g : List (Nat × List AV)}
end
section
open Go.Ac
attribute [local irreducible] awp awpL Ev Ev2 EvS thenQ blockQ retQ PCalls OCalls YieldOk IterC ICalls
variable {g : List (Nat × List AV)}
theorem le_fz (sz : Nat) : Le .fz (.fs sz 0 []) := fun F w y h => by
 simp only [RF] at h ⊢
 obtain ⟨a, rfl⟩ := h
 exact ⟨rfl, a, 0, rfl, Nat.le_refl _, fun h => absurd rfl h⟩
set_option maxHeartbeats 2000000 in
theorem rinsert_spec (s : Span) : PCalls Tryz.prog g 157 [encSpans [], .agg (spanC s)] (encSpans [s]) := by
 have hj : ([] : List (List AV)) ++ [spanC s] = [spanC s] := rfl
 have hj2 : ([spanC s] : List (List AV)) ++ [] = [spanC s] := rfl
 have c1 : decide ((0 : Int) < (([] : List Span).length : Int)) = false := rfl
 refine pcalls' Tryz.func157 Tryz.ntmps157 rfl rfl rfl ?_
 repeat' (first
  | ((with_reducible refine zg ?_); refine zk (ZM (t := 155) (n := 0) (es := []) rfl rfl rfl rfl rfl rfl rfl rfl rfl rfl rfl qf0 qc0) rfl ?_)
  | refine stn [3] ?_
  | fail)
 refine zi (α := Nat) 3 (fun k => [(0, encSpans []), (3, .lp 0 0), (5, .os 1 0), (6, .os 2 0), (7, vi k)]) (fun k => [.box (spanC s), .own 0 54 2 [], .own 0 54 2 []]) (fun k => k = 0) (fun k => k) 0
  qw rfl ?_
 intro k hk
 subst hk
 show awp _ _ _ _ _ [(0, encSpans []), (3, .lp 0 0), (5, .os 1 0), (6, .os 2 0), (7, vi 0)] [.box (spanC s), .own 0 54 2 [], .own 0 54 2 []]
 repeat' (first
  | ((with_reducible refine zg ?_); (first | refine zk (zZ (es' := [spanC s]) rfl rfl rfl rfl rfl rfl rfl rfl rfl rfl rfl rfl rfl qe0 hj rfl) rfl ?_ | refine zk (zZ (es' := [spanC s]) rfl rfl rfl rfl rfl rfl rfl rfl rfl rfl rfl rfl rfl qe0 hj2 rfl) rfl ?_))
  | refine stn [3] ?_
  | fail)
 refine retP rfl ?_
 simp [ex]
set_option maxHeartbeats 2000000 in
theorem rUnion_spec (s : Span) (hs : spanRight s = true) : PCalls Tryz.prog g 130 [encSpans [s]] (encSpans [s]) := by
 have hR := ZF (g := g) s
 rw [hs] at hR
 have hI := (rinsert_spec (g := g) s).args (.cons (le_fz 2) (.cons (Le.of_eq rfl) .nil))
 refine pcalls' Tryz.func130 Tryz.ntmps130 rfl rfl rfl ?_
 refine runn [] ?_
 refine zi (α := Nat) 0 (fun k => [(0, encSpans [s]), (3, match k with | 0 => .fz | _ => encSpans [s]), (4, vi k)]) (fun k => []) (fun k => k ≤ 1) (fun k => 1 - k) 0
  qw (by omega) ?_
 intro k hk
 cases k with
 | zero =>
  have c1 : decide ((0 : Int) < ([s].length : Int)) = true := rfl
  have h1 : 0 ≤ (0 : Int) ∧ ([s].map spanC)[(0 : Int).toNat]? = some (spanC s) := ⟨by omega, rfl⟩
  show awp _ _ _ _ _ [(0, encSpans [s]), (3, .fz), (4, vi 0)] []
  refine runn [] ?_
  exact ⟨1, qw, by omega, by omega⟩
 | succ k =>
  obtain rfl : k = 0 := by omega
  have c1 : decide ((1 : Int) < ([s].length : Int)) = false := rfl
  show awp _ _ _ _ _ [(0, encSpans [s]), (3, encSpans [s]), (4, vi 1)] []
  refine runn [] ?_
  exact retP rfl rfl
abbrev woK (l : List Span) (b : Span) (k : Nat) : List Span := withoutL (l.take k) b
theorem woK_succ {l : List Span} {b x : Span} {k : Nat} (h : l[k]? = some x) : woK l b (k + 1) = woK l b k ++ cutS b x := by
 unfold woK withoutL
 rw [List.take_add_one, h, List.flatMap_append]
 simp
theorem cutS_len (b x : Span) : (cutS b x).length ≤ 2 := by
 unfold cutS
 rw [List.length_append]
 have h1 : ∀ (c : Prop) [Decidable c] (y : Span), (if c then [y] else []).length ≤ 1 := fun c _ y => by split <;> simp
 have := h1 (spanRight (leftS x b) = true) (leftS x b)
 have := h1 (spanRight (rightS x b) = true) (rightS x b)
 omega
theorem wW (b : Span) : ∀ l : List Span, (withoutL l b).length ≤ 2 * l.length
 | [] => by simp [withoutL]
 | x :: r => by
  have h1 := wW b r
  have h2 := cutS_len b x
  unfold withoutL at h1 ⊢
  rw [List.flatMap_cons, List.length_append, List.length_cons]
  omega
set_option maxRecDepth 4000 in
set_option maxHeartbeats 4000000 in
theorem rwithout_spec (l : List Span) (b : Span) (hl : l.length ≤ 4000000) : PCalls Tryz.prog g 131 [encSpans l, .agg (spanC b)] (encSpans (withoutL l b)) := by
 refine pcalls' Tryz.func131 Tryz.ntmps131 rfl rfl rfl ?_
 repeat' (first
  | ((with_reducible refine zg ?_); refine zk (ZM (t := 155) (n := 0) (es := []) rfl rfl rfl rfl rfl rfl rfl rfl rfl rfl rfl qf0 qc0) rfl ?_)
  | refine stn [] ?_
  | fail)
 refine zi (α := Nat) 1 (fun k => [(0, encSpans l), (3, .fp (spanC b)), (5, .os 0 0), (6, vi k)]) (fun k => [.own 0 54 2 ((woK l b k).map spanC)]) (fun k => k ≤ l.length) (fun k => l.length - k) 0
  qw (Nat.zero_le _) ?_
 intro k hk
 have hcl := wW b (l.take k)
 rw [List.length_take] at hcl
 cases ht : l[k]? with
 | none =>
  have hge : l.length ≤ k := by simpa using ht
  have c1 : decide ((k : Int) < l.length) = false := decide_eq_false (by omega)
  rw [show woK l b k = withoutL l b by unfold woK; rw [List.take_of_length_le hge]]
  refine runn [] ?_
  refine retP rfl ?_
  simp [ex]
 | some x =>
  have hlt : k < l.length := (List.getElem?_eq_some_iff.1 ht).1
  have c1 : decide ((k : Int) < l.length) = true := decide_eq_true (by omega)
  have h1 := span_get ht
  have hS := woK_succ (b := b) ht
  have hm1 : min x.til b.fro = min x.til b.fro := rfl
  have hRl := ZF (g := g) (leftS x b)
  have hRr := ZF (g := g) (rightS x b)
  change (woK l b k).length ≤ _ at hcl
  generalize hM : woK l b k = M at hS hcl ⊢
  generalize hM' : woK l b (k + 1) = M' at hS
  unfold cutS at hS
  cases hl1 : spanRight (leftS x b) with
  | true =>
   rw [hl1] at hRl hS
   cases hr1 : spanRight (rightS x b) with
   | true =>
    rw [hr1] at hRr hS
    have hj1 : M.map spanC ++ [spanC (leftS x b)] = (M ++ [leftS x b]).map spanC := by simp
    have hj2 : (M ++ [leftS x b]).map spanC ++ [spanC (rightS x b)] = M'.map spanC := by rw [hS]; simp
    repeat' (first
     | ((with_reducible refine zg ?_); (first | refine zk (Zx (es' := (M ++ [leftS x b]).map spanC) rfl rfl rfl rfl rfl rfl rfl rfl rfl rfl rfl rfl rfl qe0 hj1 rfl) rfl ?_ | refine zk (Zx (es' := M'.map spanC) rfl rfl rfl rfl rfl rfl rfl rfl rfl rfl rfl rfl rfl qe0 hj2 rfl) rfl ?_))
     | refine st [] ?_
     | fail)
    exact ⟨k + 1, by rw [hM']; exact qw, by omega, by omega⟩
   | false =>
    rw [hr1] at hRr hS
    have hj1 : M.map spanC ++ [spanC (leftS x b)] = M'.map spanC := by rw [hS]; simp
    repeat' (first
     | ((with_reducible refine zg ?_); refine zk (Zx (es' := M'.map spanC) rfl rfl rfl rfl rfl rfl rfl rfl rfl rfl rfl rfl rfl qe0 hj1 rfl) rfl ?_)
     | refine st [] ?_
     | fail)
    exact ⟨k + 1, by rw [hM']; exact qw, by omega, by omega⟩
  | false =>
   rw [hl1] at hRl hS
   cases hr1 : spanRight (rightS x b) with
   | true =>
    rw [hr1] at hRr hS
    have hj1 : M.map spanC ++ [spanC (rightS x b)] = M'.map spanC := by rw [hS]; simp
    repeat' (first
     | ((with_reducible refine zg ?_); refine zk (Zx (es' := M'.map spanC) rfl rfl rfl rfl rfl rfl rfl rfl rfl rfl rfl rfl rfl qe0 hj1 rfl) rfl ?_)
     | refine st [] ?_
     | fail)
    exact ⟨k + 1, by rw [hM']; exact qw, by omega, by omega⟩
   | false =>
    rw [hr1] at hRr hS
    have hS : M' = M := by rw [hS]; simp
    subst hS
    refine run [] ?_
    exact ⟨k + 1, by rw [hM']; exact qw, by omega, by omega⟩
abbrev minK (s : Span) (l : List Span) (k : Nat) : List Span := minusL s (l.take k)
theorem minK_succ {s b : Span} {l : List Span} {k : Nat} (h : l[k]? = some b) : minK s l (k + 1) = minusStep (minK s l k) b := by
 unfold minK minusL
 rw [List.take_add_one, h]
 simp
end
section
open Go.Ac
attribute [local irreducible] awp awpL Ev Ev2 EvS thenQ blockQ retQ PCalls OCalls
variable {g : List (Nat × List AV)}
set_option maxHeartbeats 1000000 in
theorem yq (k : Int) : PCalls Tryz.prog g 76 [vi k] (vb (timed k)) := by
 refine pcalls' Tryz.func76 Tryz.ntmps76 rfl rfl rfl ?_
 unfold timed
 by_cases h0 : k = 0
 ·have d0 : decide (k = 0) = true := decide_eq_true h0
  rw [d0]
  refine runn [] ?_
  exact retP rfl rfl
 have d0 : decide (k = 0) = false := decide_eq_false h0
 by_cases h1 : k = 1
 ·have d1 : decide (k = 1) = true := decide_eq_true h1
  rw [d0, d1]
  refine runn [] ?_
  exact retP rfl rfl
 have d1 : decide (k = 1) = false := decide_eq_false h1
 by_cases h2 : k = 2
 ·have d2 : decide (k = 2) = true := decide_eq_true h2
  rw [d0, d1, d2]
  refine runn [] ?_
  refine retP rfl ?_
  simp [ex, d2]
 have d2 : decide (k = 2) = false := decide_eq_false h2
 rw [d0, d1, d2]
 refine runn [] ?_
 refine retP rfl ?_
 simp [ex, d2]
def rankE (t : Tier) (n : Note) : Int := if n.rank < 0 ∨ (n.rank ≠ 0 ∧ t.kind ≠ 3) then 1 else 0
theorem rank_cases (t : Tier) (n : Note) :
  (decide (n.rank < 0) = true ∧ rankE t n = 1) ∨ (decide (n.rank < 0) = false ∧ (!decide (n.rank = 0)) = false ∧ rankE t n = 0) ∨
  (decide (n.rank < 0) = false ∧ (!decide (n.rank = 0)) = true ∧ (!decide (t.kind = 3)) = true ∧ rankE t n = 1) ∨
  (decide (n.rank < 0) = false ∧ (!decide (n.rank = 0)) = true ∧ (!decide (t.kind = 3)) = false ∧ rankE t n = 0) := by
 unfold rankE
 by_cases h1 : n.rank < 0
 ·exact .inl ⟨decide_eq_true h1, if_pos (.inl h1)⟩
 ·by_cases h2 : n.rank = 0
  ·exact .inr (.inl ⟨decide_eq_false h1, by simp [h2], if_neg (by omega)⟩)
  ·by_cases h3 : t.kind = 3
   ·exact .inr (.inr (.inr ⟨decide_eq_false h1, by simp [h2], by simp [h3], if_neg (by omega)⟩))
   ·exact .inr (.inr (.inl ⟨decide_eq_false h1, by simp [h2], by simp [h3], if_pos (.inr ⟨h2, h3⟩)⟩))
set_option maxRecDepth 8000 in
set_option maxHeartbeats 8000000 in
theorem rplaced_spec (d : Doc) (t : Tier) (n : Note) (ht : tierAt d.tiers n.tier = some t) (hl : d.notes.length ≤ 1000000) : PCalls Tryz.prog g 74 [.agg (docC d), .agg (noteC n)] (vi (placedE d t n)) := by
 have hA := yq (g := g) t.kind
 have hG := wt (g := g) d n.parent hl
 have hR := ZF (g := g) n.span
 have hsz := W6 n.span
 obtain ⟨_, _, g1⟩ := W2 ht
 have n1 : (!true) = false := rfl
 have n2 : (!false) = true := rfl
 rw [getV] at hG
 unfold placedE
 change PCalls _ _ _ _ (.tup [.agg (noteC ((getN d.notes n.parent).getD noNote)), _]) at hG
 generalize (getN d.notes n.parent).getD noNote = p at *
 generalize (getN d.notes n.parent).isSome = b at *
 generalize hz : decide (n.span = ⟨0, 0⟩) = z at hsz
 have hz' : (n.span ≠ ⟨0, 0⟩) ↔ z = false := by rw [← hz]; simp
 rw [show (if n.rank < 0 ∨ n.rank ≠ 0 ∧ t.kind ≠ 3 then (1 : Int) else 0) = rankE t n from rfl]
 have hrk := rank_cases t n
 generalize hrE : rankE t n = rE at *
 clear hrE
 refine pcalls' Tryz.func74 Tryz.ntmps74 rfl rfl rfl ?_
 by_cases k0 : t.kind = 0
 ·have c1 : decide (t.kind = 0) = true := decide_eq_true k0
  have c2 : (!decide (t.kind = 0)) = false := by simp [k0]
  have ht0 : timed t.kind = true := by rw [k0]; rfl
  rw [ht0] at hA
  by_cases p0 : n.parent = 0
  ·have c3 : (!decide (n.parent = 0)) = false := by simp [p0]
   cases hr : spanRight n.span with
   | false =>
    rw [hr] at hR
    rw [if_neg (by simp [k0, p0]), if_pos (.inr ⟨ht0, rfl⟩)]
    refine runn [] ?_
    exact retP rfl rfl
   | true =>
    rw [hr] at hR
    by_cases l0 : d.rec_.length < n.span.til
    ·have c4 : decide (d.rec_.length < n.span.til) = true := decide_eq_true l0
     rw [if_neg (by simp [k0, p0]), if_neg (by simp [ht0]), if_pos ⟨k0, l0⟩]
     refine runn [] ?_
     exact retP rfl rfl
    ·have c4 : decide (d.rec_.length < n.span.til) = false := decide_eq_false l0
     rw [if_neg (by simp [k0, p0]), if_neg (by simp [ht0]), if_neg (fun h => l0 h.2), if_neg (fun h => h.1.2 k0)]
     rcases hrk with ⟨r1, e⟩ | ⟨r1, r2, e⟩ | ⟨r1, r2, r3, e⟩ | ⟨r1, r2, r3, e⟩ <;> subst e
     all_goals
      refine runn [] ?_
      exact retP rfl rfl
  ·have c3 : (!decide (n.parent = 0)) = true := by simp [p0]
   rw [if_pos (.inl ⟨k0, p0⟩)]
   refine runn [] ?_
   exact retP rfl rfl
 ·have c1 : decide (t.kind = 0) = false := decide_eq_false k0
  have c2 : (!decide (t.kind = 0)) = true := by simp [k0]
  cases b with
  | false =>
   rw [if_pos (.inr ⟨k0, .inl rfl⟩)]
   refine runn [] ?_
   exact retP rfl rfl
  | true =>
   by_cases q0 : p.tier = t.parent
   ·have c3 : (!decide (p.tier = t.parent)) = false := by simp [q0]
    rw [if_neg (by simp [k0, q0])]
    cases ht0 : timed t.kind with
    | true =>
     rw [ht0] at hA
     cases hr : spanRight n.span with
     | false =>
      rw [hr] at hR
      rw [if_pos (.inr ⟨rfl, rfl⟩)]
      refine runn [] ?_
      exact retP rfl rfl
     | true =>
      rw [hr] at hR
      rw [if_neg (by simp), if_neg (fun h => k0 h.1)]
      by_cases f0 : n.span.fro < p.span.fro
      ·have c4 : decide (n.span.fro < p.span.fro) = true := decide_eq_true f0
       rw [if_pos ⟨⟨rfl, k0⟩, .inl f0⟩]
       refine runn [] ?_
       exact retP rfl rfl
      ·have c4 : decide (n.span.fro < p.span.fro) = false := decide_eq_false f0
       by_cases t0 : p.span.til < n.span.til
       ·have c5 : decide (p.span.til < n.span.til) = true := decide_eq_true t0
        rw [if_pos ⟨⟨rfl, k0⟩, .inr t0⟩]
        refine runn [] ?_
        exact retP rfl rfl
       ·have c5 : decide (p.span.til < n.span.til) = false := decide_eq_false t0
        rw [if_neg (fun h => h.2.elim f0 t0)]
        rcases hrk with ⟨r1, e⟩ | ⟨r1, r2, e⟩ | ⟨r1, r2, r3, e⟩ | ⟨r1, r2, r3, e⟩ <;> subst e
        all_goals
         refine runn [] ?_
         exact retP rfl rfl
    | false =>
     rw [ht0] at hA
     cases z with
     | false =>
      rw [if_pos (.inl ⟨rfl, hz'.2 rfl⟩)]
      repeat' (first
       | ((with_reducible refine zg ?_); refine zb (Zc (b := false) Qu (by kernel_rfl) rfl rfl rfl rfl (by rw [← hsz]; rfl)) rfl ?_)
       | refine stn [] ?_
       | fail)
      exact retP rfl rfl
     | true =>
      have hz2 : ¬ (n.span ≠ ⟨0, 0⟩) := fun h => by have := hz'.1 h; cases this
      rw [if_neg (by simp only [true_and, Bool.false_eq_true, false_and, or_false]; exact hz2), if_neg (fun h => k0 h.1), if_neg (by simp)]
      rcases hrk with ⟨r1, e⟩ | ⟨r1, r2, e⟩ | ⟨r1, r2, r3, e⟩ | ⟨r1, r2, r3, e⟩ <;> subst e
      all_goals
       repeat' (first
        | ((with_reducible refine zg ?_); refine zb (Zc (b := true) Qu (by kernel_rfl) rfl rfl rfl rfl (by rw [← hsz]; rfl)) rfl ?_)
        | refine stn [] ?_
        | fail)
       exact retP rfl rfl
   ·have c3 : (!decide (p.tier = t.parent)) = true := by simp [q0]
    rw [if_pos (.inr ⟨k0, .inr q0⟩)]
    refine runn [] ?_
    exact retP rfl rfl
def prevN (d : Doc) (i : Nat) : Option Note := if i = 0 then none else d.notes[i - 1]?
set_option maxHeartbeats 4000000 in
theorem rnoteE_spec (d : Doc) (i : Nat) (n : Note) (hn : d.notes[i]? = some n) (hl : d.notes.length ≤ 1000000) : PCalls Tryz.prog g 43 [.agg (docC d), vi i] (vi (noteE d (prevN d i) n)) := by
 have hT := yo (g := g) n.text
 have g1 := ZR hn
 have hi : i < d.notes.length := (List.getElem?_eq_some_iff.1 hn).1
 refine pcalls' Tryz.func43 Tryz.ntmps43 rfl rfl rfl ?_
 unfold noteE
 by_cases i1 : n.id < 1
 ·have c1 : decide (n.id < 1) = true := decide_eq_true i1
  rw [if_pos (.inl i1)]
  refine runn [] ?_
  exact retP rfl rfl
 have c1 : decide (n.id < 1) = false := decide_eq_false i1
 by_cases i2 : 1099511627776 < n.id
 ·have c2 : decide (1099511627776 < n.id) = true := decide_eq_true i2
  rw [if_pos (.inr i2)]
  refine runn [] ?_
  exact retP rfl rfl
 have c2 : decide (1099511627776 < n.id) = false := decide_eq_false i2
 rw [if_neg (by omega)]
 have hlate : (lateB (prevN d i) n = true ∧ ∃ q, decide ((0 : Int) < i) = true ∧ (0 ≤ (i : Int) - 1 ∧ (d.notes.map noteC)[((i : Int) - 1).toNat]? = some (noteC q)) ∧ decide (n.id ≤ q.id) = true) ∨
   (lateB (prevN d i) n = false ∧ (decide ((0 : Int) < i) = false ∨ ∃ q, decide ((0 : Int) < i) = true ∧ (0 ≤ (i : Int) - 1 ∧ (d.notes.map noteC)[((i : Int) - 1).toNat]? = some (noteC q)) ∧ decide (n.id ≤ q.id) = false)) := by
  by_cases e : i = 0
  ·subst e
   exact .inr ⟨rfl, .inl rfl⟩
  ·obtain ⟨q, hq⟩ : ∃ q, d.notes[i - 1]? = some q := ⟨_, List.getElem?_eq_getElem (by omega)⟩
   have hp : prevN d i = some q := by unfold prevN; rw [if_neg e, hq]
   have h1 : decide ((0 : Int) < i) = true := decide_eq_true (by omega)
   have h2 : 0 ≤ (i : Int) - 1 ∧ (d.notes.map noteC)[((i : Int) - 1).toNat]? = some (noteC q) := by
    refine ⟨by omega, ?_⟩
    rw [show ((i : Int) - 1).toNat = i - 1 by omega, List.getElem?_map, hq]
    rfl
   rw [hp]
   unfold lateB
   cases hc : decide (n.id ≤ q.id) with
   | true => exact .inl ⟨hc, q, h1, h2, hc⟩
   | false => exact .inr ⟨hc, .inr ⟨q, h1, h2, hc⟩⟩
 rcases hlate with ⟨hlt, q, a1, a2, a3⟩ | ⟨hlt, hlt2⟩
 ·rw [if_pos hlt]
  refine run [] ?_
  exact retP rfl rfl
 rw [if_neg (by rw [hlt]; decide)]
 cases ht : tierAt d.tiers n.tier with
 | none =>
  rcases tier_none ht with h0 | ⟨h0, h1⟩
  ·have c3 : decide (n.tier < 0) = true := decide_eq_true h0
   rcases hlt2 with a1 | ⟨q, a1, a2, a3⟩
   ·refine run [] ?_
    exact retP rfl rfl
   ·refine run [] ?_
    exact retP rfl rfl
  ·have c3 : decide (n.tier < 0) = false := decide_eq_false (by omega)
   have c4 : decide ((d.tiers.length : Int) ≤ n.tier) = true := decide_eq_true h1
   rcases hlt2 with a1 | ⟨q, a1, a2, a3⟩
   ·refine run [] ?_
    exact retP rfl rfl
   ·refine run [] ?_
    exact retP rfl rfl
 | some t =>
  obtain ⟨h0, h1, _⟩ := W2 ht
  have c3 : decide (n.tier < 0) = false := decide_eq_false (by omega)
  have c4 : decide ((d.tiers.length : Int) ≤ n.tier) = false := decide_eq_false (by omega)
  have hP := rplaced_spec (g := g) d t n ht hl
  simp only
  generalize placedE d t n = pe at *
  generalize textE n.text = te at *
  by_cases e0 : te = 0
  ·have c5 : (!decide (te = 0)) = false := by simp [e0]
   rw [if_neg (by simpa using e0)]
   rcases hlt2 with a1 | ⟨q, a1, a2, a3⟩
   ·refine run [] ?_
    exact retP rfl rfl
   ·refine run [] ?_
    exact retP rfl rfl
  ·have c5 : (!decide (te = 0)) = true := by simp [e0]
   rw [if_pos e0]
   rcases hlt2 with a1 | ⟨q, a1, a2, a3⟩
   ·refine run [] ?_
    exact retP rfl rfl
   ·refine run [] ?_
    exact retP rfl rfl
theorem tierE1_drop {d : Doc} {kind tier out : Int} {l : List Note} {k : Nat} {n : Note} (h : l[k]? = some n) : tierE1 d kind tier out (l.drop k) = if n.tier ≠ tier then tierE1 d kind tier out (l.drop (k + 1)) else if timed kind = true ∧ overlapL ((sibs d n.tier n.parent).map (·.span)) = true then 15 else tierE1 d kind tier (tierStep d kind out n) (l.drop (k + 1)) := by
 obtain ⟨h1, rfl⟩ := List.getElem?_eq_some_iff.1 h
 rw [List.drop_eq_getElem_cons h1]
 rfl
abbrev CovH (g : List (Nat × List AV)) (d : Doc) : Prop := ∀ (t p : Int) (s : Span), overlapL ((sibs d t p).map (·.span)) = false → PCalls Tryz.prog g 78 [encSpans ((sibs d t p).map (·.span)), .agg (spanC s)] (vb (covB ((sibs d t p).map (·.span)) s))
theorem yO (k : Int) : (decide (k = 1) = true ∧ decide (k = 3) = false ∧ decide (k = 4) = false ∧ k = 1) ∨ (decide (k = 1) = false ∧ decide (k = 3) = true ∧ decide (k = 4) = false ∧ k = 3) ∨
  (decide (k = 1) = false ∧ decide (k = 3) = false ∧ decide (k = 4) = true ∧ k = 4) ∨ (decide (k = 1) = false ∧ decide (k = 3) = false ∧ decide (k = 4) = false ∧ k ≠ 1 ∧ k ≠ 3 ∧ k ≠ 4) := by
 simp only [decide_eq_true_eq, decide_eq_false_iff_not]
 omega
set_option maxRecDepth 8000 in
set_option maxHeartbeats 8000000 in
theorem rtierE_spec (d : Doc) (i : Nat) (t : Tier) (ht : d.tiers[i]? = some t) (hl : d.notes.length ≤ 1000000) (hC : CovH g d) : PCalls Tryz.prog g 44 [.agg (docC d), vi i] (vi (tierE d i)) := by
 have g1 := qL ht
 have n1 : (!true) = false := rfl
 have n2 : (!false) = true := rfl
 have hAl := yq (g := g) t.kind
 have hta : tierAt d.tiers (i : Int) = some t := by unfold tierAt; rw [if_pos (by omega)]; simpa using ht
 refine pcalls' Tryz.func44 Tryz.ntmps44 rfl rfl rfl ?_
 have hv : tierE d i = tierE1 d t.kind i 0 d.notes := by unfold tierE; rw [hta]
 rw [hv]
 refine runn [] ?_
 generalize hkd : t.kind = kd at *
 refine zi (α := Nat × Int) 0 (fun p => [(1, vi i), (2, .fp (docC d)), (5, vi kd), (6, vi p.2), (7, vi p.1)]) (fun _ => []) (fun p => p.1 ≤ d.notes.length ∧ tierE1 d kd i 0 d.notes = tierE1 d kd i p.2 (d.notes.drop p.1)) (fun p => d.notes.length - p.1) (0, 0)
  qw ⟨Nat.zero_le _, rfl⟩ ?_
 rintro ⟨j, out⟩ ⟨hj, hf⟩
 simp only at hj hf
 cases hx : d.notes[j]? with
 | none =>
  have hge : d.notes.length ≤ j := by simpa using hx
  have c1 : decide ((j : Int) < d.notes.length) = false := decide_eq_false (by omega)
  rw [hf, List.drop_of_length_le hge]
  refine runn [] ?_
  exact retP rfl rfl
 | some x =>
  have hlt : j < d.notes.length := (List.getElem?_eq_some_iff.1 hx).1
  have c1 : decide ((j : Int) < d.notes.length) = true := decide_eq_true (by omega)
  have g2 := ZR hx
  have hd := tierE1_drop (d := d) (kind := kd) (tier := (i : Int)) (out := out) hx
  by_cases e0 : x.tier = i
  ·have c2 : (!decide (x.tier = i)) = false := by simp [e0]
   rw [if_neg (by simpa using e0)] at hd
   have hS := yj (g := g) d i x.parent hl
   have hsl := sibs_len d i x.parent
   have hO := roverlap_spec (g := g) (sibs d i x.parent) (by omega)
   have hG := wt (g := g) d x.parent hl
   have hSp := rspans_spec (g := g) (sibs d i x.parent) (by omega)
   have hRk := rranked_spec (g := g) (sibs d i x.parent) (by omega)
   have hCv := hC i x.parent
   have hst : tierStep d kd out x = (if kd = 4 ∧ 1 < (sibs d i x.parent).length then 8 else if kd = 3 ∧ rankedL ((sibs d i x.parent).map (·.rank)) = false then 10 else if kd = 1 ∧ covB ((sibs d i x.parent).map (·.span)) ((getN d.notes x.parent).getD noNote).span = false then 16 else out) := by
    unfold tierStep
    rw [e0]
   rw [hst, e0] at hd
   rw [getV] at hG
   change PCalls _ _ _ _ (.tup [.agg (noteC ((getN d.notes x.parent).getD noNote)), _]) at hG
   generalize (getN d.notes x.parent).getD noNote = p at *
   generalize (getN d.notes x.parent).isSome = pb at *
   generalize sibs d i x.parent = L at *
   cases htm : timed kd with
   | true =>
    rw [htm] at hAl
    cases hov : overlapL (L.map (·.span)) with
    | true =>
     rw [hov] at hO
     rw [if_pos ⟨htm, hov⟩] at hd
     rw [hf, hd]
     refine runn [] ?_
     exact retP rfl rfl
    | false =>
     rw [hov] at hO
     rw [if_neg (by rw [hov]; simp)] at hd
     have hCv := hCv p.span hov
     rcases yO kd with ⟨k1, k3, k4, kk⟩ | ⟨k1, k3, k4, kk⟩ | ⟨k1, k3, k4, kk⟩ | ⟨k1, k3, k4, kk⟩
     ·cases hcv : covB (L.map (·.span)) p.span with
      | true =>
       rw [hcv] at hCv
       rw [if_neg (by omega), if_neg (by omega), if_neg (by rw [hcv]; simp)] at hd
       refine run [] ?_
       exact ⟨(j + 1, out), qw, ⟨by simp only; omega, by simp only; rw [hf, hd]⟩, by simp only; omega⟩
      | false =>
       rw [hcv] at hCv
       rw [if_neg (by omega), if_neg (by omega), if_pos ⟨kk, hcv⟩] at hd
       refine run [] ?_
       exact ⟨(j + 1, 16), qw, ⟨by simp only; omega, by simp only; rw [hf, hd]⟩, by simp only; omega⟩
     ·subst kk; cases htm
     ·subst kk; cases htm
     ·rw [if_neg (by omega), if_neg (by omega), if_neg (by omega)] at hd
      refine run [] ?_
      exact ⟨(j + 1, out), qw, ⟨by simp only; omega, by simp only; rw [hf, hd]⟩, by simp only; omega⟩
   | false =>
    rw [htm] at hAl
    rw [if_neg (by rw [htm]; simp)] at hd
    rcases yO kd with ⟨k1, k3, k4, kk⟩ | ⟨k1, k3, k4, kk⟩ | ⟨k1, k3, k4, kk⟩ | ⟨k1, k3, k4, kk⟩
    ·subst kk; cases htm
    ·cases hrk : rankedL (L.map (·.rank)) with
     | true =>
      rw [hrk] at hRk
      rw [if_neg (by omega), if_neg (by rw [hrk]; simp), if_neg (by omega)] at hd
      refine run [] ?_
      exact ⟨(j + 1, out), qw, ⟨by simp only; omega, by simp only; rw [hf, hd]⟩, by simp only; omega⟩
     | false =>
      rw [hrk] at hRk
      rw [if_neg (by omega), if_pos ⟨kk, hrk⟩] at hd
      refine run [] ?_
      exact ⟨(j + 1, 10), qw, ⟨by simp only; omega, by simp only; rw [hf, hd]⟩, by simp only; omega⟩
    ·by_cases h1 : 1 < L.length
     ·have c4 : decide ((1 : Int) < L.length) = true := decide_eq_true (by omega)
      rw [if_pos ⟨kk, h1⟩] at hd
      refine run [] ?_
      exact ⟨(j + 1, 8), qw, ⟨by simp only; omega, by simp only; rw [hf, hd]⟩, by simp only; omega⟩
     ·have c4 : decide ((1 : Int) < L.length) = false := decide_eq_false (by omega)
      rw [if_neg (fun h => h1 h.2), if_neg (by omega), if_neg (by omega)] at hd
      refine run [] ?_
      exact ⟨(j + 1, out), qw, ⟨by simp only; omega, by simp only; rw [hf, hd]⟩, by simp only; omega⟩
    ·rw [if_neg (by omega), if_neg (by omega), if_neg (by omega)] at hd
     refine run [] ?_
     exact ⟨(j + 1, out), qw, ⟨by simp only; omega, by simp only; rw [hf, hd]⟩, by simp only; omega⟩
  ·have c2 : (!decide (x.tier = i)) = true := by simp [e0]
   rw [if_pos e0] at hd
   refine runn [] ?_
   exact ⟨(j + 1, out), qw, ⟨by simp only; omega, by simp only; rw [hf, hd]⟩, by simp only; omega⟩
end
section
open Go.Ac
attribute [local irreducible] awp awpL Ev Ev2 EvS thenQ blockQ retQ PCalls OCalls
variable {g : List (Nat × List AV)}
end
section
open Go.Ac
attribute [local irreducible] awp awpL Ev Ev2 EvS thenQ blockQ retQ PCalls OCalls
variable {g : List (Nat × List AV)}
theorem notesE_drop {d : Doc} {l : List Note} {k : Nat} {p : Option Note} {n : Note} (h : l[k]? = some n) : notesE d p (l.drop k) = if noteE d p n ≠ 0 then noteE d p n else notesE d (some n) (l.drop (k + 1)) := by
 obtain ⟨h1, rfl⟩ := List.getElem?_eq_some_iff.1 h
 rw [List.drop_eq_getElem_cons h1]
 rfl
theorem prevN_succ {d : Doc} {k : Nat} {n : Note} (h : d.notes[k]? = some n) : prevN d (k + 1) = some n := by
 unfold prevN
 rw [if_neg (by omega)]
 exact h
theorem eachE_step {d : Doc} {k : Nat} (h : k < d.tiers.length) : eachE d (d.tiers.length - k) k = if tierE d (k : Int) ≠ 0 then tierE d (k : Int) else eachE d (d.tiers.length - (k + 1)) (k + 1) := by
 rw [show d.tiers.length - k = (d.tiers.length - (k + 1)) + 1 by omega]
 rfl
structure FitN (d : Doc) : Prop where
 n : d.notes.length ≤ 1000000
 s : ∀ t ∈ d.tiers, t.name.size ≤ 9223372036854775807
set_option maxRecDepth 8000 in
set_option maxHeartbeats 8000000 in
theorem rdoc_spec (d : Doc) (hd : FitN d) (hC : CovH g d) : PCalls Tryz.prog g 16 [.agg (docC d)] (vi (docE d)) := by
 have hT := Wb (g := g) d.tiers hd.s
 have n1 : (!true) = false := rfl
 have n2 : (!false) = true := rfl
 refine pcalls' Tryz.func16 Tryz.ntmps16 rfl rfl rfl ?_
 unfold docE
 generalize hte : tiersE d.tiers = te at *
 by_cases e0 : te = 0
 ·have c0 : (!decide (te = 0)) = false := by simp [e0]
  rw [if_neg (by simpa using e0)]
  by_cases l1 : d.rec_.length < 0
  ·have c1 : decide (d.rec_.length < 0) = true := decide_eq_true l1
   rw [if_pos (.inl l1)]
   refine runn [] ?_
   exact retP rfl rfl
  have c1 : decide (d.rec_.length < 0) = false := decide_eq_false l1
  by_cases l2 : 86400000 < d.rec_.length
  ·have c2 : decide (86400000 < d.rec_.length) = true := decide_eq_true l2
   rw [if_pos (.inr l2)]
   refine runn [] ?_
   exact retP rfl rfl
  have c2 : decide (86400000 < d.rec_.length) = false := decide_eq_false l2
  rw [if_neg (by omega)]
  by_cases l3 : 300 < d.notes.length
  ·have c3 : decide ((300 : Int) < d.notes.length) = true := decide_eq_true (by omega)
   rw [if_pos l3]
   refine runn [] ?_
   exact retP rfl rfl
  have c3 : decide ((300 : Int) < d.notes.length) = false := decide_eq_false (by omega)
  rw [if_neg l3]
  have htl : d.tiers.length ≤ 12 := tiersE_len (hte.trans e0)
  refine runn [] ?_
  refine zi (α := Nat) 0 (fun k => [(1, .fp (docC d)), (4, vi k)]) (fun _ => []) (fun k => k ≤ d.notes.length ∧ notesE d none d.notes = notesE d (prevN d k) (d.notes.drop k)) (fun k => d.notes.length - k) 0
   qw ⟨Nat.zero_le _, rfl⟩ ?_
  rintro k ⟨hk, hf⟩
  cases hx : d.notes[k]? with
  | some x =>
   have hlt : k < d.notes.length := (List.getElem?_eq_some_iff.1 hx).1
   have d1 : decide ((k : Int) < d.notes.length) = true := decide_eq_true (by omega)
   have hN := rnoteE_spec (g := g) d k x hx (by omega)
   have hdr := notesE_drop (d := d) (p := prevN d k) hx
   generalize noteE d (prevN d k) x = e at *
   by_cases ee : e = 0
   ·have d2 : (!decide (e = 0)) = false := by simp [ee]
    rw [if_neg (by simpa using ee)] at hdr
    refine runn [] ?_
    exact ⟨k + 1, qw, ⟨by omega, by rw [hf, hdr, prevN_succ hx]⟩, by omega⟩
   ·have d2 : (!decide (e = 0)) = true := by simp [ee]
    rw [if_pos ee] at hdr
    rw [hf, hdr, if_pos ee]
    refine runn [] ?_
    exact retP rfl rfl
  | none =>
   have hge : d.notes.length ≤ k := by simpa using hx
   have d1 : decide ((k : Int) < d.notes.length) = false := decide_eq_false (by omega)
   rw [List.drop_of_length_le hge] at hf
   have hf : notesE d none d.notes = 0 := by rw [hf]; rfl
   rw [if_neg (by simpa using hf)]
   refine runn [] ?_
   refine zi (α := Nat) 0 (fun k => [(1, .fp (docC d)), (6, vi k)]) (fun _ => []) (fun k => k ≤ d.tiers.length ∧ eachE d d.tiers.length 0 = eachE d (d.tiers.length - k) k) (fun k => d.tiers.length - k) 0
    qw ⟨Nat.zero_le _, rfl⟩ ?_
   rintro j ⟨hj, hg⟩
   cases hy : d.tiers[j]? with
   | some t =>
    have hlt : j < d.tiers.length := (List.getElem?_eq_some_iff.1 hy).1
    have f1 : decide ((j : Int) < d.tiers.length) = true := decide_eq_true (by omega)
    have hE := rtierE_spec (g := g) d j t hy (by omega) hC
    have hdr := eachE_step hlt
    generalize tierE d (j : Int) = e at *
    by_cases ee : e = 0
    ·have d2 : (!decide (e = 0)) = false := by simp [ee]
     rw [if_neg (by simpa using ee)] at hdr
     refine runn [] ?_
     exact ⟨j + 1, qw, ⟨by omega, by rw [hg, hdr]⟩, by omega⟩
    ·have d2 : (!decide (e = 0)) = true := by simp [ee]
     rw [if_pos ee] at hdr
     rw [hg, hdr]
     refine runn [] ?_
     exact retP rfl rfl
   | none =>
    have hge : d.tiers.length ≤ j := by simpa using hy
    have f1 : decide ((j : Int) < d.tiers.length) = false := decide_eq_false (by omega)
    rw [hg, show d.tiers.length - j = 0 by omega]
    refine runn [] ?_
    exact retP rfl rfl
 ·have c0 : (!decide (te = 0)) = true := by simp [e0]
  rw [if_pos e0]
  refine runn [] ?_
  exact retP rfl rfl
end
end Go.Proofs.YtcfkokllinkigaaGreatDoor
