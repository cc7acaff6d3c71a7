/- A logic of trees over the model's steps, and the contracts of the functions that the laws reach: part 28 of 29. -/
import Derived.Test.YtcfkokllinkigaaGreatDoorB27
set_option linter.unusedVariables false
set_option linter.unusedSimpArgs false
set_option linter.unusedSectionVars false
set_option linter.unnecessarySimpa false
namespace Go.Proofs.YtcfkokllinkigaaGreatDoor
section
open Go.Ac
attribute [local irreducible] awp awpL Ev Ev2 EvS thenQ blockQ retQ PCalls OCalls
variable {g : List (Nat × List AV)}
abbrev Apart (l : List Span) : Prop := l.Pairwise fun x y => x.til ≤ y.fro
theorem cutS_in {b x y : Span} (h : y ∈ cutS b x) : x.fro ≤ y.fro ∧ y.til ≤ x.til := by
 unfold cutS at h
 rcases List.mem_append.1 h with h | h
 ·split at h
  ·simp only [List.mem_singleton] at h; subst h; simp only [leftS]; omega
  ·cases h
 ·split at h
  ·simp only [List.mem_singleton] at h; subst h; simp only [rightS]; omega
  ·cases h
theorem cutS_apart {b x : Span} (hb : spanRight b = true) : Apart (cutS b x) := by
 rw [jM] at hb
 unfold cutS Apart
 split
 ·split
  ·simp only [List.cons_append, List.nil_append, List.pairwise_cons, List.mem_singleton, forall_eq, List.not_mem_nil, false_implies, implies_true, List.Pairwise.nil, and_true, leftS, rightS]
   omega
  ·simp
 ·split <;> simp
theorem Jg {b : Span} (hb : spanRight b = true) : ∀ {l : List Span}, Apart l → Apart (withoutL l b)
 | [], _ => by simp [withoutL, Apart]
 | x :: r, h => by
  obtain ⟨h1, h2⟩ := List.pairwise_cons.1 h
  have ih := Jg hb h2
  unfold withoutL at ih ⊢
  rw [List.flatMap_cons]
  refine List.pairwise_append.2 ⟨cutS_apart hb, ih, fun y hy z hz => ?_⟩
  obtain ⟨w, hw, hz⟩ := List.mem_flatMap.1 hz
  have := cutS_in hy
  have := cutS_in hz
  have := h1 w hw
  omega
theorem cutS_one {b x : Span} (h : ¬ (x.fro < b.fro ∧ b.til < x.til)) : (cutS b x).length ≤ 1 := by
 unfold cutS
 rw [List.length_append]
 by_cases a : x.fro < b.fro
 ·have : spanRight (rightS x b) = false := by
   rw [Bool.eq_false_iff]; intro q; rw [jM] at q; simp only [rightS] at q; omega
  rw [this, if_neg (by decide : ¬ (false = true))]
  split <;> simp
 ·have : spanRight (leftS x b) = false := by
   rw [Bool.eq_false_iff]; intro q; rw [jM] at q; simp only [leftS] at q; omega
  rw [this, if_neg (by decide)]
  split <;> simp
theorem Jh {b : Span} : ∀ {l : List Span}, (∀ y ∈ l, ¬ (y.fro < b.fro ∧ b.til < y.til)) → (withoutL l b).length ≤ l.length
 | [], _ => by simp [withoutL]
 | x :: r, h => by
  have h1 := cutS_one (h x (List.mem_cons_self ..))
  have h2 := Jh (b := b) (l := r) (fun y hy => h y (List.mem_cons_of_mem _ hy))
  unfold withoutL at h2 ⊢
  rw [List.flatMap_cons, List.length_append, List.length_cons]
  omega
theorem JD {b : Span} (hb : spanRight b = true) : ∀ {l : List Span}, Apart l → (withoutL l b).length ≤ l.length + 1
 | [], _ => by simp [withoutL]
 | x :: r, h => by
  obtain ⟨h1, h2⟩ := List.pairwise_cons.1 h
  have hb' := jM.1 hb
  by_cases a : x.fro < b.fro ∧ b.til < x.til
  ·have h3 := Jh (b := b) (l := r) (fun y hy q => by have := h1 y hy; omega)
   have h4 := cutS_len b x
   unfold withoutL at h3 ⊢
   rw [List.flatMap_cons, List.length_append, List.length_cons]
   omega
  ·have h3 := JD hb h2
   have h4 := cutS_one a
   unfold withoutL at h3 ⊢
   rw [List.flatMap_cons, List.length_append, List.length_cons]
   omega
theorem yJ : ∀ {l out : List Span}, Apart out → Apart (l.foldl minusStep out) ∧ (l.foldl minusStep out).length ≤ out.length + l.length
 | [], out, h => ⟨h, by simp⟩
 | b :: r, out, h => by
  have h1 : Apart (minusStep out b) ∧ (minusStep out b).length ≤ out.length + 1 := by
   unfold minusStep
   split
   ·rename_i hb; exact ⟨Jg hb h, JD hb h⟩
   ·exact ⟨h, by omega⟩
  obtain ⟨h2, h3⟩ := yJ (l := r) h1.1
  refine ⟨h2, ?_⟩
  rw [List.foldl_cons, List.length_cons]
  omega
theorem minK_D {s : Span} (hs : spanRight s = true) (l : List Span) (k : Nat) : (minK s l k).length ≤ 1 + l.length := by
 have h := (yJ (l := l.take k) (out := [s]) (by simp [Apart])).2
 unfold minK minusL
 rw [List.length_take] at h
 simp only [List.length_cons, List.length_nil] at h
 omega
set_option maxHeartbeats 2000000 in
theorem rMinus_D (s : Span) (l : List Span) (hs : spanRight s = true) (hl : l.length ≤ 1000000) : PCalls Tryz.prog g 106 [encSpans [s], encSpans l] (encSpans (minusL s l)) := by
 have hU := rUnion_spec (g := g) s hs
 refine pcalls' Tryz.func106 Tryz.ntmps106 rfl rfl rfl ?_
 refine runn [] ?_
 refine zi (α := Nat) 0 (fun k => [(1, encSpans l), (5, encSpans (minK s l k)), (6, vi k)]) (fun k => []) (fun k => k ≤ l.length) (fun k => l.length - k) 0
  qw (Nat.zero_le _) ?_
 intro k hk
 have hml := minK_D hs l k
 cases ht : l[k]? with
 | none =>
  have hge : l.length ≤ k := by simpa using ht
  have c1 : decide ((k : Int) < l.length) = false := decide_eq_false (by omega)
  rw [show minK s l k = minusL s l by unfold minK; rw [List.take_of_length_le hge]]
  refine runn [] ?_
  exact retP rfl rfl
 | some b =>
  have hlt : k < l.length := (List.getElem?_eq_some_iff.1 ht).1
  have c1 : decide ((k : Int) < l.length) = true := decide_eq_true (by omega)
  have h1 := span_get ht
  have hR := ZF (g := g) b
  have hS := minK_succ (s := s) ht
  have hW := rwithout_spec (g := g) (minK s l k) b (by omega)
  generalize hM : minK s l k = M at hS hW ⊢
  generalize hM' : minK s l (k + 1) = M' at hS
  unfold minusStep at hS
  cases hb : spanRight b with
  | true =>
   rw [hb] at hR hS
   rw [if_pos rfl] at hS
   rw [← hS] at hW
   refine runn [] ?_
   exact ⟨k + 1, by rw [hM']; exact qw, by omega, by omega⟩
  | false =>
   rw [hb] at hR hS
   have hS : M' = M := by rw [hS]; rfl
   subst hS
   refine runn [] ?_
   exact ⟨k + 1, by rw [hM']; exact qw, by omega, by omega⟩
set_option maxHeartbeats 2000000 in
theorem rCovers_D (l : List Span) (s : Span) (hl : l.length ≤ 1000000) : PCalls Tryz.prog g 78 [encSpans l, .agg (spanC s)] (vb (covB l s)) := by
 have hR := ZF (g := g) s
 refine pcalls' Tryz.func78 Tryz.ntmps78 rfl rfl rfl ?_
 unfold covB
 cases hs : spanRight s with
 | false =>
  rw [hs] at hR
  refine runn [] ?_
  exact retP rfl rfl
 | true =>
  rw [hs] at hR
  have hM := rMinus_D (g := g) s l hs hl
  have hlen := minK_D hs l l.length
  rw [show minK s l l.length = minusL s l by unfold minK; rw [List.take_length]] at hlen
  generalize minusL s l = m at *
  have he : m.isEmpty = decide ((m.length : Int) = 0) := by cases m <;> simp; omega
  rw [he]
  refine runn [] ?_
  exact retP rfl rfl
theorem any_cov (d : Doc) (h : d.notes.length ≤ 1000000) : CovH g d := fun t p s _ => rCovers_D _ s (by have := sibs_len d t p; rw [List.length_map]; omega)
end
section
open Go.Ac
attribute [local irreducible] awp awpL Ev Ev2 EvS thenQ blockQ retQ PCalls OCalls
variable {g : List (Nat × List AV)}
end
section
open Go.Ac
attribute [local irreducible] awp awpL Ev Ev2 EvS thenQ blockQ retQ PCalls OCalls
variable {g : List (Nat × List AV)}
def tierEqV : List Value → List Value → Option Bool
 | [.string s, .int .i64 a, .int .i64 b, .int .i64 c], [.string s', .int .i64 a', .int .i64 b', .int .i64 c'] => some (s.toList == s'.toList && (a == a' && (b == b' && c == c')))
 | _, _ => none
theorem jL : EqT Tryz.prog 71 tierEqV := by
 intro xs ys b w h
 unfold tierEqV at h
 split at h
 ·rename_i s a b c s' a' b' c'
  have h := Option.some.inj h
  subst h
  have u3 := Tryz.underlying3
  have a3 := Tryz.isAgg3
  have z3 := Tryz.sizeOf3
  have u9 := Tryz.underlying9
  have a9 := Tryz.isAgg9
  have z9 := Tryz.sizeOf9
  have hS : Tryz.prog.underlying 71 = some (.struct (Tryz.prog.fieldsOf 71)) := by kernel_rfl
  rw [show (10000 : Nat) = 9999 + 1 from rfl, run_equalIn_agg w 9999 _ _ _ hS (by kernel_rfl)]
  simp only [Program.fieldsOf, Tryz.underlying71]
  go_simp
  by_cases h1 : a = a' <;> by_cases h2 : b = b' <;> by_cases h3 : c = c' <;> by_cases h7 : s.toList = s'.toList <;> simp [h1, h2, h3, h7]
 ·cases h
theorem listB {s t : ByteArray} : (s.toList == t.toList) = decide (s = t) := j9 s t
def tierVs (t : Tier) : List Value := [.string t.name, .int .i64 t.kind, .int .i64 t.role, .int .i64 t.parent]
def noteVs (n : Note) : List Value := [.int .i64 n.id, .int .i64 n.tier, .int .i64 n.parent, .int .i64 n.span.fro, .int .i64 n.span.til, .int .i64 n.rank, .string n.text]
theorem tierEqV_eq (x y : Tier) : tierEqV (tierVs x) (tierVs y) = some (decide (x = y)) := by
 obtain ⟨s, a, b, c⟩ := x
 obtain ⟨s', a', b', c'⟩ := y
 show some (s.toList == s'.toList && (a == a' && (b == b' && c == c'))) = _
 congr 1
 rw [listB, Bool.eq_iff_iff]
 simp only [Tier.mk.injEq, Bool.and_eq_true, decide_eq_true_eq, beq_iff_eq]
theorem noteEq_eq (x y : Note) : noteEq (noteVs x) (noteVs y) = some (decide (x = y)) := by
 obtain ⟨a, b, c, ⟨d, e⟩, f, s⟩ := x
 obtain ⟨a', b', c', ⟨d', e'⟩, f', s'⟩ := y
 show some (a == a' && (b == b' && (c == c' && ((d == d' && e == e') && (f == f' && s.toList == s'.toList))))) = _
 congr 1
 rw [listB, Bool.eq_iff_iff]
 simp only [Note.mk.injEq, Span.mk.injEq, Bool.and_eq_true, decide_eq_true_eq, beq_iff_eq]
theorem docEq {a b : Doc} : a = b ↔ a.rec_.id = b.rec_.id ∧ a.rec_.name = b.rec_.name ∧ a.rec_.length = b.rec_.length ∧ a.rec_.day = b.rec_.day ∧ a.rec_.speakers = b.rec_.speakers ∧ a.tiers = b.tiers ∧ a.notes = b.notes := by
 obtain ⟨⟨a1, a2, a3, a4, a5⟩, a6, a7⟩ := a
 obtain ⟨⟨b1, b2, b3, b4, b5⟩, b6, b7⟩ := b
 simp only [Doc.mk.injEq, Recording.mk.injEq]
 constructor
 ·rintro ⟨⟨h1, h2, h3, h4, h5⟩, h6, h7⟩; exact ⟨h1, h2, h3, h4, h5, h6, h7⟩
 ·rintro ⟨h1, h2, h3, h4, h5, h6, h7⟩; exact ⟨⟨h1, h2, h3, h4, h5⟩, h6, h7⟩
end
section
open Go.Ac
attribute [local irreducible] awp awpL Ev Ev2 EvS thenQ blockQ retQ PCalls OCalls
variable {g : List (Nat × List AV)}
set_option maxRecDepth 4000 in
set_option maxHeartbeats 2000000 in
theorem r12IntsB_spec (a b : List Int) (ha : a.length ≤ 140737488351232) (hb : b.length ≤ 140737488351232) : PCalls Tryz.prog g 45 [encIs a, encIs b] (vb (decide (a = b))) := by
 refine pcalls' Tryz.func45 Tryz.ntmps45 rfl rfl rfl ?_
 by_cases hl : a.length = b.length
 ·have c0 : (!decide ((a.length : Int) = b.length)) = false := by rw [hl]; simp
  refine runn [] ?_
  refine zi (α := Nat) 0 (fun k => [(0, encIs a), (1, encIs b), (5, vi k)]) (fun _ => []) (fun k => k ≤ a.length ∧ a.take k = b.take k) (fun k => a.length - k) 0
   qw ⟨Nat.zero_le _, by simp⟩ ?_
  rintro k ⟨hk, hf⟩
  cases ht : a[k]? with
  | none =>
   have hge : a.length ≤ k := by simpa using ht
   have c1 : decide ((k : Int) < a.length) = false := decide_eq_false (by omega)
   rw [List.take_of_length_le hge, List.take_of_length_le (by omega)] at hf
   rw [decide_eq_true hf]
   refine runn [] ?_
   exact retP rfl rfl
  | some n =>
   have hlt : k < a.length := (List.getElem?_eq_some_iff.1 ht).1
   have c1 : decide ((k : Int) < a.length) = true := decide_eq_true (by omega)
   obtain ⟨m, hm⟩ : ∃ m, b[k]? = some m := ⟨_, List.getElem?_eq_getElem (by omega)⟩
   have ik : 0 ≤ (k : Int) ∧ (a.map intC)[(k : Int).toNat]? = some (intC n) := ⟨by omega, by simp [ht]⟩
   have im : 0 ≤ (k : Int) ∧ (b.map intC)[(k : Int).toNat]? = some (intC m) := ⟨by omega, by simp [hm]⟩
   by_cases e : n = m
   ·have c2 : (!decide (n = m)) = false := by rw [decide_eq_true e]; rfl
    refine run [] ?_
    refine ⟨k + 1, qw, ⟨by omega, ?_⟩, by omega⟩
    rw [List.take_add_one, List.take_add_one, hf, ht, hm, e]
   ·have c2 : (!decide (n = m)) = true := by rw [decide_eq_false e]; rfl
    have hne : a ≠ b := fun q => by rw [q, hm] at ht; exact e (Option.some.inj ht).symm
    rw [decide_eq_false hne]
    refine run [] ?_
    exact retP rfl rfl
 ·have c0 : (!decide ((a.length : Int) = b.length)) = true := by
   rw [decide_eq_false (by omega)]; rfl
  have hne : a ≠ b := fun q => hl (by rw [q])
  rw [decide_eq_false hne]
  refine runn [] ?_
  exact retP rfl rfl
set_option maxRecDepth 8000 in
set_option maxHeartbeats 8000000 in
theorem r12SameB_spec (a b : Doc) (h1 : a.rec_.speakers.length ≤ 140737488351232) (h2 : a.tiers.length ≤ 1000000) (h3 : a.notes.length ≤ 1000000) (h4 : b.rec_.speakers.length ≤ 140737488351232) : PCalls Tryz.prog g 17 [.agg (docC a), .agg (docC b)] (vb (decide (a = b))) := by
 have hI := r12IntsB_spec (g := g) a.rec_.speakers b.rec_.speakers h1 h4
 have n1 : (!true) = false := rfl
 have n2 : (!false) = true := rfl
 refine pcalls' Tryz.func17 Tryz.ntmps17 rfl rfl rfl ?_
 by_cases e1 : a.rec_.id = b.rec_.id
 case neg =>
  have c1 : (!decide (a.rec_.id = b.rec_.id)) = true := by rw [decide_eq_false e1]; rfl
  rw [decide_eq_false (fun q => e1 (by rw [q]))]
  refine run [] ?_
  exact retP rfl rfl
 have c1 : (!decide (a.rec_.id = b.rec_.id)) = false := by rw [decide_eq_true e1]; rfl
 by_cases e2 : a.rec_.name = b.rec_.name
 case neg =>
  have c2 : (!decide (a.rec_.name = b.rec_.name)) = true := by rw [decide_eq_false e2]; rfl
  rw [decide_eq_false (fun q => e2 (by rw [q]))]
  refine run [] ?_
  exact retP rfl rfl
 have c2 : (!decide (a.rec_.name = b.rec_.name)) = false := by rw [decide_eq_true e2]; rfl
 by_cases e3 : a.rec_.length = b.rec_.length
 case neg =>
  have c3 : (!decide (a.rec_.length = b.rec_.length)) = true := by rw [decide_eq_false e3]; rfl
  rw [decide_eq_false (fun q => e3 (by rw [q]))]
  refine run [] ?_
  exact retP rfl rfl
 have c3 : (!decide (a.rec_.length = b.rec_.length)) = false := by rw [decide_eq_true e3]; rfl
 by_cases e4 : a.rec_.day = b.rec_.day
 case neg =>
  have c4 : (!decide (a.rec_.day = b.rec_.day)) = true := by rw [decide_eq_false e4]; rfl
  rw [decide_eq_false (fun q => e4 (by rw [q]))]
  refine run [] ?_
  exact retP rfl rfl
 have c4 : (!decide (a.rec_.day = b.rec_.day)) = false := by rw [decide_eq_true e4]; rfl
 by_cases e5 : a.rec_.speakers = b.rec_.speakers
 case neg =>
  rw [decide_eq_false e5] at hI
  rw [decide_eq_false (fun q => e5 (by rw [q]))]
  refine run [] ?_
  exact retP rfl rfl
 rw [decide_eq_true e5] at hI
 by_cases e6 : a.tiers.length = b.tiers.length
 case neg =>
  have c6 : (!decide ((a.tiers.length : Int) = b.tiers.length)) = true := by rw [decide_eq_false (by omega)]; rfl
  rw [decide_eq_false (fun q => e6 (by rw [q]))]
  refine run [] ?_
  exact retP rfl rfl
 have c6 : (!decide ((a.tiers.length : Int) = b.tiers.length)) = false := by rw [decide_eq_true (by omega)]; rfl
 by_cases e7 : a.notes.length = b.notes.length
 case neg =>
  have c7 : (!decide ((a.notes.length : Int) = b.notes.length)) = true := by rw [decide_eq_false (by omega)]; rfl
  rw [decide_eq_false (fun q => e7 (by rw [q]))]
  refine run [] ?_
  exact retP rfl rfl
 have c7 : (!decide ((a.notes.length : Int) = b.notes.length)) = false := by rw [decide_eq_true (by omega)]; rfl
 have hd : decide (a = b) = (decide (a.tiers = b.tiers) && decide (a.notes = b.notes)) := by
  rw [Bool.eq_iff_iff, Bool.and_eq_true, decide_eq_true_eq, decide_eq_true_eq, decide_eq_true_eq, docEq]
  simp only [e1, e2, e3, e4, e5, true_and]
 rw [hd]
 refine run [] ?_
 refine zi (α := Nat) 0 (fun k => [(2, .fp (docC a)), (3, .fp (docC b)), (7, vi k)]) (fun _ => []) (fun k => k ≤ a.tiers.length ∧ a.tiers.take k = b.tiers.take k) (fun k => a.tiers.length - k) 0
  qw ⟨Nat.zero_le _, by simp⟩ ?_
 rintro k ⟨hk, hf⟩
 cases ht : a.tiers[k]? with
 | some n =>
  have hlt : k < a.tiers.length := (List.getElem?_eq_some_iff.1 ht).1
  have d1 : decide ((k : Int) < a.tiers.length) = true := decide_eq_true (by omega)
  obtain ⟨m, hm⟩ : ∃ m, b.tiers[k]? = some m := ⟨_, List.getElem?_eq_getElem (by omega)⟩
  have ik := qL ht
  have im := qL hm
  have hEq := tierEqV_eq n m
  by_cases e : n = m
  ·rw [decide_eq_true e] at hEq
   repeat' (first
    | ((with_reducible refine zu ?_); refine zc (zh (fun _ => Zc (b := true) jL (by kernel_rfl) rfl rfl rfl rfl (by rw [← hEq]; rfl)) rfl rfl) qb0 ?_)
    | ((with_reducible refine zp ?_); refine zd rfl rfl qa0 (zh (fun _ => Zc (b := true) jL (by kernel_rfl) rfl rfl rfl rfl (by rw [← hEq]; rfl)) rfl rfl) qb0 ?_)
    | refine st [] ?_
    | fail)
   refine ⟨k + 1, qw, ⟨by omega, ?_⟩, by omega⟩
   rw [List.take_add_one, List.take_add_one, hf, ht, hm, e]
  ·rw [decide_eq_false e] at hEq
   have hne : a.tiers ≠ b.tiers := fun q => by rw [q, hm] at ht; exact e (Option.some.inj ht).symm
   rw [decide_eq_false hne, Bool.false_and]
   repeat' (first
    | ((with_reducible refine zu ?_); refine zc (zh (fun _ => Zc (b := false) jL (by kernel_rfl) rfl rfl rfl rfl (by rw [← hEq]; rfl)) rfl rfl) qb0 ?_)
    | ((with_reducible refine zp ?_); refine zd rfl rfl qa0 (zh (fun _ => Zc (b := false) jL (by kernel_rfl) rfl rfl rfl rfl (by rw [← hEq]; rfl)) rfl rfl) qb0 ?_)
    | refine st [] ?_
    | fail)
   exact retP rfl rfl
 | none =>
  have hge : a.tiers.length ≤ k := by simpa using ht
  have d1 : decide ((k : Int) < a.tiers.length) = false := decide_eq_false (by omega)
  rw [List.take_of_length_le hge, List.take_of_length_le (by omega)] at hf
  rw [decide_eq_true hf, Bool.true_and]
  refine runn [] ?_
  refine zi (α := Nat) 0 (fun k => [(2, .fp (docC a)), (3, .fp (docC b)), (8, vi k)]) (fun _ => []) (fun k => k ≤ a.notes.length ∧ a.notes.take k = b.notes.take k) (fun k => a.notes.length - k) 0
   qw ⟨Nat.zero_le _, by simp⟩ ?_
  rintro j ⟨hj, hg⟩
  cases hu : a.notes[j]? with
  | some n =>
   have hlt : j < a.notes.length := (List.getElem?_eq_some_iff.1 hu).1
   have d2 : decide ((j : Int) < a.notes.length) = true := decide_eq_true (by omega)
   obtain ⟨m, hm⟩ : ∃ m, b.notes[j]? = some m := ⟨_, List.getElem?_eq_getElem (by omega)⟩
   have ik := ZR hu
   have im := ZR hm
   have hEq := noteEq_eq n m
   by_cases e : n = m
   ·rw [decide_eq_true e] at hEq
    repeat' (first
     | ((with_reducible refine zu ?_); refine zc (zh (fun _ => Zc (b := true) ZS (by kernel_rfl) rfl rfl rfl rfl (by rw [← hEq]; rfl)) rfl rfl) qb0 ?_)
     | ((with_reducible refine zp ?_); refine zd rfl rfl qa0 (zh (fun _ => Zc (b := true) ZS (by kernel_rfl) rfl rfl rfl rfl (by rw [← hEq]; rfl)) rfl rfl) qb0 ?_)
     | refine st [] ?_
     | fail)
    refine ⟨j + 1, qw, ⟨by omega, ?_⟩, by omega⟩
    rw [List.take_add_one, List.take_add_one, hg, hu, hm, e]
   ·rw [decide_eq_false e] at hEq
    have hne : a.notes ≠ b.notes := fun q => by rw [q, hm] at hu; exact e (Option.some.inj hu).symm
    rw [decide_eq_false hne]
    repeat' (first
     | ((with_reducible refine zu ?_); refine zc (zh (fun _ => Zc (b := false) ZS (by kernel_rfl) rfl rfl rfl rfl (by rw [← hEq]; rfl)) rfl rfl) qb0 ?_)
     | ((with_reducible refine zp ?_); refine zd rfl rfl qa0 (zh (fun _ => Zc (b := false) ZS (by kernel_rfl) rfl rfl rfl rfl (by rw [← hEq]; rfl)) rfl rfl) qb0 ?_)
     | refine st [] ?_
     | fail)
    exact retP rfl rfl
  | none =>
   have hge : a.notes.length ≤ j := by simpa using hu
   have d2 : decide ((j : Int) < a.notes.length) = false := decide_eq_false (by omega)
   rw [List.take_of_length_le hge, List.take_of_length_le (by omega)] at hg
   rw [decide_eq_true hg]
   refine runn [] ?_
   exact retP rfl rfl
end
section
open Go.Ac Go.MapKept
attribute [local irreducible] awp awpL Ev Ev2 EvS thenQ blockQ retQ PCalls OCalls ICalls YieldOk IterC
theorem cellC_id {l : List Op} {note : Int} {c : Cell} (h : cell l note = some c) : ∃ o ∈ l, o.kind = 0 ∧ c.note = o.note := by
 unfold cell at h
 cases ha : addedO l note with
 | none => rw [ha] at h; cases h
 | some o =>
  rw [ha] at h
  refine ⟨o, ?_, ?_, ?_⟩
  ·unfold addedO at ha; exact List.mem_of_find?_eq_some ha
  ·unfold addedO at ha; have := List.find?_some ha; simp at this; exact this.1
  ·simp only at h
   split at h
   ·injection h with h; subst h; rfl
   ·cases h
structure CutOk (r d : Replica) (c : Nat) : Prop where
 res : PCalls Tryz.prog GL 7 [.agg (repC r), .v (.int .u16 c)] (.tup [.agg (repC d), vb true])
 chk : PCalls Tryz.prog GL 8 [.agg (repC d)] (vi 0)
 len : d.ops.length ≤ r.ops.length
 kn : PCalls Tryz.prog GL 9 [.agg (repC r), .agg (repC d)] (vb true)
 rep : repE d = 0
 ids : Ids d.ops
 few : d.ops.length ≤ 16
theorem Ju {a b : List Op} (h : ∀ o ∈ b, o ∈ a) : knowsD a b = true := by
 unfold knowsD
 rw [List.all_eq_true]
 intro o ho
 unfold hasD
 exact List.any_eq_true.2 ⟨o, h o ho, by simp⟩
theorem wN {r : Replica} {c : Nat} (hc : c < 65536) (hid : Ids r.ops) (hl : light r = true) : CutOk r (cutR r (cutK r c)) c := by
 obtain ⟨h1, h2, h3⟩ := light_rep hl
 have hr := cutR_rep h1 (cutK r c)
 have hi : Ids (cutR r (cutK r c)).ops := fun o ho => hid o (List.mem_of_mem_take ho)
 have hlen : (cutR r (cutK r c)).ops.length ≤ r.ops.length := by show (r.ops.take _).length ≤ _; rw [List.length_take]; omega
 have hK := QS (g := GL) r (cutR r (cutK r c)) (Zv h1).1 (Zv hr).1
 rw [Ju (a := r.ops) (b := (cutR r (cutK r c)).ops) fun o ho => List.mem_of_mem_take ho] at hK
 have hC := jf (g := GL) (cutR r (cutK r c)) (by have := (Zv hr).2; omega) hi
 rw [hr] at hC
 exact ⟨restored_spec r c hc h1 (by omega) hid, hC, hlen, hK, hr, hi, by omega⟩
theorem seen15 {r : Replica} (h : repE r = 0) : r.seen.length = 15 := by rw [(Zy h).2.1]; exact Zf _
theorem CutOk.cons {r d r' d' : Replica} {c c' : Nat} (h : CutOk r d c) (k : CutOk r' d' c') : PCalls Tryz.prog GL 10 [.agg (repC d), .agg (repC d')] (vb (half d' d && half d d')) :=
 consT_spec d d' (Zv h.rep).1 (Zv k.rep).1 (fun o ho => ZN h.rep ho) (fun o ho => ZN k.rep ho) (seen15 h.rep) (seen15 k.rep)
theorem CutOk.con {r d r' d' : Replica} {c c' : Nat} (h : CutOk r d c) (k : CutOk r' d' c') (q : (half d' d && half d d') = true) : Cons d d' := by
 rw [Bool.and_eq_true] at q
 exact ⟨h.rep, k.rep, half_iff.1 q.2, half_iff.1 q.1⟩
structure EndOk (rc : Recording) (l : List Tier) (d0 d1 d2 one two : Replica) (cs : List Cell) (x : Doc) (ls : List (Note × Int)) : Prop where
 agr : PCalls Tryz.prog GL 13 [.agg (repC one), .agg (repC two)] (vb true)
 k0 : PCalls Tryz.prog GL 9 [.agg (repC one), .agg (repC d0)] (vb true)
 k1 : PCalls Tryz.prog GL 9 [.agg (repC one), .agg (repC d1)] (vb true)
 k2 : PCalls Tryz.prog GL 9 [.agg (repC two), .agg (repC d2)] (vb true)
 chk : PCalls Tryz.prog GL 8 [.agg (repC two)] (vi 0)
 c1 : PCalls Tryz.prog GL 15 [.agg (repC one), vi rc.id] (encCells cs)
 c2 : PCalls Tryz.prog GL 15 [.agg (repC two), vi rc.id] (encCells cs)
 c3 : PCalls Tryz.prog GL 19 [.agg (repC one), vi rc.id] (encCells cs)
 doc : PCalls Tryz.prog GL 14 [.agg (rcC rc), encTiers l, encCells cs] (.tup [.agg (docC x), encLoose ls])
 right : PCalls Tryz.prog GL 16 [.agg (docC x)] (vi 0)
 same : PCalls Tryz.prog GL 17 [.agg (docC x), .agg (docC x)] (vb true)
 lost : PCalls Tryz.prog GL 18 [encCells cs, .agg (docC x), encLoose ls] (encIs [])
 few : ls.length ≤ 1000
theorem added_id {o : Op} (h : opE o = 0) (hk : o.kind = 0) : 1 ≤ o.note.id ∧ o.note.id ≤ 1099511627776 := by
 have hr := zO h
 unfold opE at h
 rw [if_neg (by simp [hr]), if_pos hk] at h
 split at h
 ·cases h
 ·have ha := (firstE3' _ _ _ h).1
  unfold addedE at ha
  split at ha
  ·cases ha
  ·rename_i hid
   have : o.note.id = idOf o.at_ := Decidable.of_not_not hid
   rw [this]
   unfold idOf
   rw [hr]
   simp only [right, Bool.and_eq_true, decide_eq_true_eq] at hr
   simp only [if_true]
   omega
theorem end_ok {rc : Recording} {l : List Tier} {d0 d1 d2 : Replica} {n : Int} (T : ThreeR d0 d1 d2 n) (hnm : ∀ t ∈ l, t.name.size ≤ 9223372036854775807) (h0 : 0 ≤ rc.length) (h1 : rc.length ≤ 86400000) (hl : l.length ≤ 8) (ht : tiersE l = 0) (hsp : rc.speakers.length ≤ 140737488351232)
  (r0 : repE d0 = 0) (r1 : repE d1 = 0) (r2 : repE d2 = 0) (i0 : Ids d0.ops) (i1 : Ids d1.ops) (i2 : Ids d2.ops) :
  EndOk rc l d0 d1 d2 (twoR d0 d1 d2) (partTwo d0 d1 d2 n) (cells (twoR d0 d1 d2).ops rc.id) (repDoc rc l (cells (twoR d0 d1 d2).ops rc.id)) (repLoose rc l (cells (twoR d0 d1 d2).ops rc.id)) := by
 have ho := T.ops
 have hm := T.mem
 have hlen := T.len
 have r1o := T.ro
 have r2o := T.r2
 clear T
 generalize twoR d0 d1 d2 = one at *
 generalize partTwo d0 d1 d2 n = two at *
 have ids1 : Ids one.ops := fun o h => by
  rcases (hm o).1 h with h | h | h
  ·exact i0 o h
  ·exact i1 o h
  ·exact i2 o h
 have ids2 : Ids two.ops := by rw [ho]; exact ids1
 have f1 := Zv r1o
 have f2 := Zv r2o
 have hg := good_of r1o
 have hag : agree one two = true := by
  unfold agree
  rw [ho, jG.2 fun o h => h]; rfl
 have hA := Yp one two (g := GL) f1 f2 (Zo r1o) (Zo r2o)
 rw [hag] at hA
 have kn : ∀ d : Replica, repE d = 0 → (∀ o ∈ d.ops, o ∈ one.ops) → PCalls Tryz.prog GL 9 [.agg (repC one), .agg (repC d)] (vb true) := fun d hd h => by
  have := QS (g := GL) one d f1.1 (Zv hd).1
  rw [Ju h] at this; exact this
 have kn2 : PCalls Tryz.prog GL 9 [.agg (repC two), .agg (repC d2)] (vb true) := by
  have := QS (g := GL) two d2 f2.1 (Zv r2).1
  rw [Ju fun o h => by rw [ho]; exact (hm o).2 (.inr (.inr h))] at this; exact this
 have hCk := jf (g := GL) two (by have := f2.2; omega) ids2
 rw [r2o] at hCk
 have hc1 := JC (g := GL) one rc.id f1.1.1 f1.1.2 hg
 have hc2 := JC (g := GL) two rc.id f2.1.1 f2.1.2 (by rw [ho]; exact hg)
 rw [ho] at hc2
 have hc3 := rCells_spec (g := GL) one rc.id ⟨by omega, f1.1.2⟩
 have hfit := cells_fit one.ops rc.id f1.1.1
 have hcl : (cells one.ops rc.id).length ≤ 48 := by
  rw [wO]
  exact Nat.le_trans (List.length_filterMap_le _ _) hlen
 have hcid : ∀ c ∈ cells one.ops rc.id, 1 ≤ c.note.id ∧ c.note.id ≤ 1099511627776 := fun c hc => by
  obtain ⟨o, o1, o2, o3⟩ := cellC_id ((cells_mem hg).1 hc).1
  rw [o3]
  exact added_id (hg.2 o o1) o2
 have hinc : (cells one.ops rc.id).Pairwise fun a b => a.note.id ≠ b.note.id := (cells_inc hg rc.id).imp fun {a b} q => by omega
 have hD := Doc_spec (g := GL) wT rc l (cells one.ops rc.id) (by omega) (by omega) hfit.2 hcid hinc
 generalize cells one.ops rc.id = cs at *
 have hmi : ∀ n ∈ cs.map current, 1 ≤ n.id ∧ n.id ≤ 1099511627776 := fun n hn => by
  obtain ⟨c, q1, rfl⟩ := List.mem_map.1 hn
  exact hcid c q1
 have hmp : (cs.map current).Pairwise fun a b => a.id ≠ b.id := List.pairwise_map.2 hinc
 have hR : docE (repDoc rc l cs) = 0 := repDoc_right ht h0 h1 hmi hmp
 have hI := QP rc.length (l := l) hmi hmp
 have hnl : (repDoc rc l cs).notes.length ≤ 300 := by
  have h := (q8 l (placeAll rc.length l (cs.map current)).notes).length_eq
  rw [List.length_map] at h
  have := hI.few
  show (doneN l (placeAll rc.length l (cs.map current)).notes).length ≤ 300
  omega
 have hll : (repLoose rc l cs).length ≤ 1000 := by
  have hall := We rc.length l (cs.map current)
  have := Wd (len := rc.length) (l := l) (F := (cs.map current).filter (inR l)) (((cs.map current).filter fun n => !inR l n).map fun n => (n, (2 : Int))) (hmp.filter _) l.length 0
  rw [hall] at this
  have g1 := List.length_filter_le (inR l) (cs.map current)
  have g2 := List.length_filter_le (fun n => !inR l n) (cs.map current)
  rw [List.length_map] at g1 g2 this
  show (placeAll rc.length l (cs.map current)).loose.length ≤ 1000
  omega
 have hDC := rdoc_spec (g := GL) (repDoc rc l cs) ⟨by omega, hnm⟩ (any_cov _ (by omega))
 rw [hR] at hDC
 have hS := r12SameB_spec (g := GL) (repDoc rc l cs) (repDoc rc l cs) hsp (show l.length ≤ 1000000 by omega) (by omega) hsp
 rw [decide_eq_true rfl] at hS
 have hL := Lost_spec (g := GL) cs (repDoc rc l cs) (repLoose rc l cs) (by omega) (by omega) (by omega) fun c hc => by
  rcases placeAll_in rc.length (l := l) (List.mem_map.2 ⟨c, hc, rfl⟩ : current c ∈ cs.map current) with h | h
  ·exact .inl (doneN_in h)
  ·exact .inr h
 exact ⟨hA, kn d0 r0 fun o h => (hm o).2 (.inl h), kn d1 r1 fun o h => (hm o).2 (.inr (.inl h)), kn2, hCk, hc1, hc2, hc3, hD, hDC, hS, hL, hll⟩
end
end Go.Proofs.YtcfkokllinkigaaGreatDoor
