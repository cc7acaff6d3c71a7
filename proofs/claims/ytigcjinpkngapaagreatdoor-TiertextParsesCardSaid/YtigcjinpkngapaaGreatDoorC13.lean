/- A logic of trees over the model's steps, and the contracts of the functions that the laws reach: part 13 of 20. -/
import Derived.Test.YtigcjinpkngapaaGreatDoorC12
set_option linter.unusedVariables false
set_option linter.unusedSimpArgs false
set_option linter.unusedSectionVars false
section
namespace Go.Proofs.YtigcjinpkngapaaGreatDoor
open Go.Ac
attribute [local irreducible] awp awpL Ev Ev2 EvS thenQ blockQ retQ PCalls OCalls
variable {g : List (Nat × List AV)}
def recL (r : Recording) : ByteArray := toB (joinW ((recW r).map lst))
def tierL (t : Tier) : ByteArray := toB (joinW ((tierW t).map lst))
def noteL (n : Note) : ByteArray := toB (joinW ((noteW n).map lst))
def docL (d : Doc) : List ByteArray := recL d.rec_ :: (d.tiers.map tierL ++ d.notes.map noteL)
def printD (d : Doc) : List UInt8 := textW ((docL d).map lst)
structure FitP (d : Doc) : Prop where
  r : InRec d.rec_
  t : ∀ t ∈ d.tiers, InTier t
  n : ∀ n ∈ d.notes, InNote n
  ls : d.rec_.speakers.length ≤ 99000
  lr : recOk d.rec_ = true → (recL d.rec_).size ≤ 80000
  lt : d.tiers.length ≤ 100
  ln : d.notes.length ≤ 300
  rs : d.rec_.name.size ≤ 9223372036854775807
  ts : ∀ t ∈ d.tiers, t.name.size ≤ 9223372036854775807
theorem nameOk_size {s : ByteArray} (h : nameOk s = true) : s.size ≤ 32 := by
  simp only [nameOk, Bool.and_eq_true, decide_eq_true_eq] at h
  exact h.1.1.2
theorem textE_size {s : ByteArray} (h : textE s = 0) : s.size ≤ 200 := by
  unfold textE at h
  split at h
  · cases h
  · omega
theorem tierOne_name {b : List Tier} {t : Tier} (h : tierOne b t = 0) : nameOk t.name = true := by
  cases hn : nameOk t.name with
  | true => rfl
  | false => unfold tierOne at h; rw [if_pos hn] at h; cases h
theorem printE_zero {d : Doc} (h : printE d = 0) : docE d = 0 ∧ recOk d.rec_ = true := by
  unfold printE at h
  split at h
  · rename_i h1; exact absurd h h1
  · rename_i h1
    split at h
    · rename_i h2; exact ⟨Decidable.of_not_not h1, h2⟩
    · cases h
theorem recOk_name {r : Recording} (h : recOk r = true) : nameOk r.name = true := by
  simp only [recOk, Bool.and_eq_true] at h
  exact h.2.2.1
theorem num_words {l : List Int} (h : ∀ n ∈ l, InI n) : ∀ s ∈ l.map numT, s.size ≤ 250 := by
  intro s hs
  obtain ⟨n, hn, rfl⟩ := List.mem_map.1 hs
  have := numT_len n (h n hn)
  omega
theorem recW_words {r : Recording} (h : InRec r) (hl : r.speakers.length ≤ 99000) (hn : nameOk r.name = true) : Words (recW r) := by
  obtain ⟨a1, a2, a3, a4, a5⟩ := h
  refine ⟨by simp [recW]; omega, fun s hs => ?_⟩
  have b1 := numT_len _ a1
  have b2 := numT_len _ a2
  have b3 := numT_len _ a3
  have b4 := nameOk_size hn
  simp only [recW, List.cons_append, List.nil_append, List.mem_cons] at hs
  rcases hs with rfl | rfl | rfl | rfl | rfl | hs
  · decide
  · omega
  · omega
  · omega
  · omega
  · exact num_words a5 s hs
theorem tierW_words {t : Tier} (h : InTier t) (hn : nameOk t.name = true) : Words (tierW t) := by
  obtain ⟨a1, a2, a3⟩ := h
  refine ⟨by simp [tierW], fun s hs => ?_⟩
  have b4 := nameOk_size hn
  simp only [tierW, List.cons_append, List.nil_append, List.mem_cons] at hs
  rcases hs with rfl | rfl | hs
  · decide
  · omega
  · exact num_words (l := [t.kind, t.role, t.parent]) (by simp; exact ⟨a1, a2, a3⟩) s hs
theorem noteW_words {n : Note} (h : InNote n) (hn : textE n.text = 0) : Words (noteW n) := by
  obtain ⟨a1, a2, a3, a4, a5, a6⟩ := h
  refine ⟨by simp [noteW], fun s hs => ?_⟩
  have b4 := textE_size hn
  simp only [noteW, List.mem_append, List.mem_singleton] at hs
  rcases hs with (rfl | hs) | rfl
  · decide
  · exact num_words (l := [n.id, n.tier, n.parent, n.span.fro, n.span.til, n.rank]) (by simp; exact ⟨a1, a2, a3, a4, a5, a6⟩) s hs
  · omega
theorem line_size {l : List ByteArray} (h : Words l) (hl : l.length ≤ 105) : (toB (joinW (l.map lst))).size ≤ 80000 := by
  have := joinW_len h.2
  rw [toB_size]
  omega
structure DocW (d : Doc) : Prop where
  r : Words (recW d.rec_)
  t : ∀ t ∈ d.tiers, Words (tierW t)
  n : ∀ n ∈ d.notes, Words (noteW n)
theorem docW {d : Doc} (hd : FitP d) (h : printE d = 0) : DocW d := by
  obtain ⟨h1, h2⟩ := printE_zero h
  obtain ⟨e1, _, _, _, e2, _⟩ := docE_zero h1
  refine ⟨recW_words hd.r hd.ls (recOk_name h2), fun t ht => ?_, fun n hn => ?_⟩
  · obtain ⟨k, hk⟩ := List.mem_iff_getElem?.1 ht
    exact tierW_words (hd.t t ht) (tierOne_name (tiersE_one e1 hk))
  · obtain ⟨q, hq⟩ := notesE_all _ _ e2 n hn
    exact noteW_words (hd.n n hn) (noteE_zero hq).2.2.1
theorem docL_fit {d : Doc} (hd : FitP d) (h : DocW d) (hr : recOk d.rec_ = true) : LinesB (docL d) := by
  have h1 := hd.lt
  have h2 := hd.ln
  have h3 := hd.ls
  refine ⟨by simp [docL]; omega, fun s hs => ?_⟩
  simp only [docL, List.mem_cons, List.mem_append] at hs
  rcases hs with rfl | hs | hs
  · exact hd.lr hr
  · obtain ⟨t, ht, rfl⟩ := List.mem_map.1 hs
    exact line_size (h.t t ht) (by simp [tierW])
  · obtain ⟨n, hn, rfl⟩ := List.mem_map.1 hs
    exact line_size (h.n n hn) (by simp [noteW])
abbrev printV (d : Doc) : AV := .tup [.v (.string (if printE d = 0 then toB (printD d) else ⟨#[]⟩)), vi (printE d)]
end Go.Proofs.YtigcjinpkngapaaGreatDoor
end
section
namespace Go.Proofs.YtigcjinpkngapaaGreatDoor
open Go.Ac
attribute [local irreducible] awp awpL Ev Ev2 EvS thenQ blockQ retQ PCalls OCalls
variable {g : List (Nat × List AV)}
theorem take_tail {α β : Type} (f : α → β) {l : List α} {k : Nat} {x : α} (a : List β) (h : l[k]? = some x) : (a ++ (l.take k).map f) ++ [f x] = a ++ (l.take (k + 1)).map f := by
  rw [List.take_add_one, h]; simp
end Go.Proofs.YtigcjinpkngapaaGreatDoor
end
section
namespace Go.Proofs.YtigcjinpkngapaaGreatDoor
open Go.Ac
attribute [local irreducible] awp awpL Ev Ev2 EvS thenQ blockQ retQ PCalls OCalls
variable {g : List (Nat × List AV)}
abbrev Apart (l : List Span) : Prop := l.Pairwise fun x y => x.til ≤ y.fro
theorem cutS_in {b x y : Span} (h : y ∈ cutS b x) : x.fro ≤ y.fro ∧ y.til ≤ x.til := by
  unfold cutS at h
  rcases List.mem_append.1 h with h | h
  · split at h
    · simp only [List.mem_singleton] at h; subst h; simp only [leftS]; omega
    · cases h
  · split at h
    · simp only [List.mem_singleton] at h; subst h; simp only [rightS]; omega
    · cases h
theorem cutS_apart {b x : Span} (hb : spanRight b = true) : Apart (cutS b x) := by
  rw [right_iff] at hb
  unfold cutS Apart
  split
  · split
    · simp only [List.cons_append, List.nil_append, List.pairwise_cons, List.mem_singleton, forall_eq, List.not_mem_nil, false_implies, implies_true, List.Pairwise.nil, and_true, leftS, rightS]
      omega
    · simp
  · split <;> simp
theorem without_apart {b : Span} (hb : spanRight b = true) : ∀ {l : List Span}, Apart l → Apart (withoutL l b)
  | [], _ => by simp [withoutL, Apart]
  | x :: r, h => by
    obtain ⟨h1, h2⟩ := List.pairwise_cons.1 h
    have ih := without_apart hb h2
    unfold withoutL at ih ⊢
    rw [List.flatMap_cons]
    refine List.pairwise_append.2 ⟨cutS_apart hb, ih, fun y hy z hz => ?_⟩
    obtain ⟨w, hw, hz⟩ := List.mem_flatMap.1 hz
    have := cutS_in hy
    have := cutS_in hz
    have := h1 w hw
    omega
theorem cutS_one {b x : Span} (h : ¬ (x.fro < b.fro ∧ b.til < x.til)) : (cutS b x).length ≤ 1 := by
  unfold cutS
  rw [List.length_append]
  by_cases a : x.fro < b.fro
  · have : spanRight (rightS x b) = false := by
      rw [Bool.eq_false_iff]; intro q; rw [right_iff] at q; simp only [rightS] at q; omega
    rw [this, if_neg (by decide : ¬ (false = true))]
    split <;> simp
  · have : spanRight (leftS x b) = false := by
      rw [Bool.eq_false_iff]; intro q; rw [right_iff] at q; simp only [leftS] at q; omega
    rw [this, if_neg (by decide)]
    split <;> simp
theorem without_after {b : Span} : ∀ {l : List Span}, (∀ y ∈ l, ¬ (y.fro < b.fro ∧ b.til < y.til)) → (withoutL l b).length ≤ l.length
  | [], _ => by simp [withoutL]
  | x :: r, h => by
    have h1 := cutS_one (h x (List.mem_cons_self ..))
    have h2 := without_after (b := b) (l := r) (fun y hy => h y (List.mem_cons_of_mem _ hy))
    unfold withoutL at h2 ⊢
    rw [List.flatMap_cons, List.length_append, List.length_cons]
    omega
theorem without_plus {b : Span} (hb : spanRight b = true) : ∀ {l : List Span}, Apart l → (withoutL l b).length ≤ l.length + 1
  | [], _ => by simp [withoutL]
  | x :: r, h => by
    obtain ⟨h1, h2⟩ := List.pairwise_cons.1 h
    have hb' := right_iff.1 hb
    by_cases a : x.fro < b.fro ∧ b.til < x.til
    · have h3 := without_after (b := b) (l := r) (fun y hy q => by have := h1 y hy; omega)
      have h4 := cutS_len b x
      unfold withoutL at h3 ⊢
      rw [List.flatMap_cons, List.length_append, List.length_cons]
      omega
    · have h3 := without_plus hb h2
      have h4 := cutS_one a
      unfold withoutL at h3 ⊢
      rw [List.flatMap_cons, List.length_append, List.length_cons]
      omega
theorem minus_plus : ∀ {l out : List Span}, Apart out → Apart (l.foldl minusStep out) ∧ (l.foldl minusStep out).length ≤ out.length + l.length
  | [], out, h => ⟨h, by simp⟩
  | b :: r, out, h => by
    have h1 : Apart (minusStep out b) ∧ (minusStep out b).length ≤ out.length + 1 := by
      unfold minusStep
      split
      · rename_i hb; exact ⟨without_apart hb h, without_plus hb h⟩
      · exact ⟨h, by omega⟩
    obtain ⟨h2, h3⟩ := minus_plus (l := r) h1.1
    refine ⟨h2, ?_⟩
    rw [List.foldl_cons, List.length_cons]
    omega
theorem minK_D {s : Span} (hs : spanRight s = true) (l : List Span) (k : Nat) : (minK s l k).length ≤ 1 + l.length := by
  have h := (minus_plus (l := l.take k) (out := [s]) (by simp [Apart])).2
  unfold minK minusL
  rw [List.length_take] at h
  simp only [List.length_cons, List.length_nil] at h
  omega
set_option maxHeartbeats 2000000 in
theorem rMinus_D (s : Span) (l : List Span) (hs : spanRight s = true) (hl : l.length ≤ 1000000) : PCalls Tryz.prog g 158 [encSpans [s], encSpans l] (encSpans (minusL s l)) := by
  have hU := rUnion_spec (g := g) s hs
  refine pcalls' Tryz.func158 Tryz.ntmps158 rfl rfl rfl ?_
  repeat' (first
   | refine stn [] ?_
   | ((with_reducible refine is_gd ?_); refine awpL_split rfl rfl (fun h => ?_) (fun h => ?_))
   | ((with_reducible refine is_awp ?_); refine awp_cond rfl (fun h => ?_) (fun h => ?_))
   | fail)
  refine awp_for (α := Nat) 0 (fun k => [(1, encSpans l), (5, encSpans (minK s l k)), (6, vi k)]) (fun k => []) (fun k => k ≤ l.length) (fun k => l.length - k) 0
    ⟨(.cons rfl rfl (.cons rfl rfl (.cons rfl rfl .nil))), rfl, rfl, rfl⟩ (Nat.zero_le _) ?_
  intro k hk
  have hml := minK_D hs l k
  cases ht : l[k]? with
  | none =>
    have hge : l.length ≤ k := by simpa using ht
    have c1 : decide ((k : Int) < l.length) = false := decide_eq_false (by omega)
    rw [show minK s l k = minusL s l by unfold minK; rw [List.take_of_length_le hge]]
    repeat' (first
     | refine stn [] ?_
     | ((with_reducible refine is_gd ?_); refine awpL_split rfl rfl (fun h => ?_) (fun h => ?_))
     | ((with_reducible refine is_awp ?_); refine awp_cond rfl (fun h => ?_) (fun h => ?_))
     | fail)
    exact retP rfl rfl
  | some b =>
    have hlt : k < l.length := (List.getElem?_eq_some_iff.1 ht).1
    have c1 : decide ((k : Int) < l.length) = true := decide_eq_true (by omega)
    have h1 := span_get ht
    have hR := rspanR_spec (g := g) b
    have hS := minK_succ (s := s) ht
    have hW := rwithout_spec (g := g) (minK s l k) b (by omega)
    generalize hM : minK s l k = M at hS hW ⊢
    generalize hM' : minK s l (k + 1) = M' at hS
    unfold minusStep at hS
    cases hb : spanRight b with
    | true =>
      rw [hb] at hR hS
      rw [if_pos rfl] at hS
      rw [← hS] at hW
      repeat' (first
       | refine stn [] ?_
       | ((with_reducible refine is_gd ?_); refine awpL_split rfl rfl (fun h => ?_) (fun h => ?_))
       | ((with_reducible refine is_awp ?_); refine awp_cond rfl (fun h => ?_) (fun h => ?_))
       | fail)
      exact ⟨k + 1, by rw [hM']; exact ⟨(.cons rfl rfl (.cons rfl rfl (.cons rfl rfl .nil))), rfl, rfl, rfl⟩, by omega, by omega⟩
    | false =>
      rw [hb] at hR hS
      have hS : M' = M := by rw [hS]; rfl
      subst hS
      repeat' (first
       | refine stn [] ?_
       | ((with_reducible refine is_gd ?_); refine awpL_split rfl rfl (fun h => ?_) (fun h => ?_))
       | ((with_reducible refine is_awp ?_); refine awp_cond rfl (fun h => ?_) (fun h => ?_))
       | fail)
      exact ⟨k + 1, by rw [hM']; exact ⟨(.cons rfl rfl (.cons rfl rfl (.cons rfl rfl .nil))), rfl, rfl, rfl⟩, by omega, by omega⟩
set_option maxHeartbeats 2000000 in
theorem rCovers_D (l : List Span) (s : Span) (hl : l.length ≤ 1000000) : PCalls Tryz.prog g 124 [encSpans l, .agg (spanC s)] (vb (covB l s)) := by
  have hR := rspanR_spec (g := g) s
  refine pcalls' Tryz.func124 Tryz.ntmps124 rfl rfl rfl ?_
  unfold covB
  cases hs : spanRight s with
  | false =>
    rw [hs] at hR
    repeat' (first
     | refine stn [] ?_
     | ((with_reducible refine is_gd ?_); refine awpL_split rfl rfl (fun h => ?_) (fun h => ?_))
     | ((with_reducible refine is_awp ?_); refine awp_cond rfl (fun h => ?_) (fun h => ?_))
     | fail)
    exact retP rfl rfl
  | true =>
    rw [hs] at hR
    have hM := rMinus_D (g := g) s l hs hl
    have hlen := minK_D hs l l.length
    rw [show minK s l l.length = minusL s l by unfold minK; rw [List.take_length]] at hlen
    generalize minusL s l = m at *
    have he : m.isEmpty = decide ((m.length : Int) = 0) := by cases m <;> simp; omega
    rw [he]
    repeat' (first
     | refine stn [] ?_
     | ((with_reducible refine is_gd ?_); refine awpL_split rfl rfl (fun h => ?_) (fun h => ?_))
     | ((with_reducible refine is_awp ?_); refine awp_cond rfl (fun h => ?_) (fun h => ?_))
     | fail)
    exact retP rfl rfl
theorem any_cov (d : Doc) (h : d.notes.length ≤ 1000000) : CovH g d := fun t p s _ => rCovers_D _ s (by have := sibs_len d t p; rw [List.length_map]; omega)
end Go.Proofs.YtigcjinpkngapaaGreatDoor
end
section
namespace Go.Proofs.YtigcjinpkngapaaGreatDoor
open Go.Ac
attribute [local irreducible] awp awpL Ev Ev2 EvS thenQ blockQ retQ PCalls OCalls
variable {g : List (Nat × List AV)}
set_option maxRecDepth 4000 in
set_option maxHeartbeats 8000000 in
theorem wPrint_spec (hN : NumG g) (d : Doc) (hd : FitP d) (hC : PCalls Tryz.prog g 20 [.agg (docC d)] (vi (docE d))) : PCalls Tryz.prog g 14 [.agg (docC d)] (printV d) := by
  have hls := hd.ls
  have hlt := hd.lt
  have hln := hd.ln
  have hP := wprintable_spec (g := g) d (by omega)
  have n1 : (!true) = false := rfl
  have n2 : (!false) = true := rfl
  have c0 : (!decide ((0 : Int) = 0)) = false := rfl
  refine pcalls' Tryz.func14 Tryz.ntmps14 rfl rfl rfl ?_
  by_cases hde : ¬ docE d = 0
  · have he : printE d = docE d := by unfold printE; rw [if_pos hde]
    have c1 : (!decide (docE d = 0)) = true := by rw [decide_eq_false hde]; rfl
    rw [show printV d = .tup [.v (.string ⟨#[]⟩), vi (printE d)] by unfold printV; rw [if_neg (by rw [he]; exact hde)], he]
    repeat' (first
     | refine stn [] ?_
     | ((with_reducible refine is_gd ?_); refine awpL_split rfl rfl (fun h => ?_) (fun h => ?_))
     | ((with_reducible refine is_awp ?_); refine awp_cond rfl (fun h => ?_) (fun h => ?_))
     | fail)
    exact retP rfl rfl
  have hde : docE d = 0 := Decidable.of_not_not hde
  cases hr : recOk d.rec_ with
  | false =>
    rw [hr] at hP
    have he : printE d = 1 := by unfold printE; rw [if_neg (by simpa using hde), hr]; rfl
    rw [show printV d = .tup [.v (.string ⟨#[]⟩), vi (printE d)] by unfold printV; rw [if_neg (by rw [he]; decide)], he]
    rw [hde] at hC
    repeat' (first
     | refine stn [] ?_
     | ((with_reducible refine is_gd ?_); refine awpL_split rfl rfl (fun h => ?_) (fun h => ?_))
     | ((with_reducible refine is_awp ?_); refine awp_cond rfl (fun h => ?_) (fun h => ?_))
     | fail)
    exact retP rfl rfl
  | true =>
    rw [hr] at hP
    have he : printE d = 0 := by unfold printE; rw [if_neg (by simpa using hde), hr]; rfl
    have hw := docW hd he
    rw [show printV d = .tup [.v (.string (toB (printD d))), vi (printE d)] by unfold printV; rw [if_pos he], he]
    rw [hde] at hC
    have hT := zTextP (g := g) (docL d) (docL_fit hd hw hr)
    rw [show textW ((docL d).map lst) = printD d from rfl] at hT
    generalize printD d = out at *
    obtain ⟨a1, a2, a3, a4, a5⟩ := hd.r
    have hT1 := NText_spec hN d.rec_.id a1
    have hN1 := wnumbers_spec hN [d.rec_.length, d.rec_.day] (by simp) (by simp; exact ⟨a2, a3⟩)
    have hN2 := wnumbers_spec hN d.rec_.speakers a4 a5
    have hRJ := wJoin_spec (g := g) (recW d.rec_) hw.r
    rw [show toB (joinW ((recW d.rec_).map lst)) = recL d.rec_ from rfl] at hRJ
    have hj1 : [strC kRec, strC (numT d.rec_.id), strC d.rec_.name] ++ ([d.rec_.length, d.rec_.day].map numT).map strC = [strC kRec, strC (numT d.rec_.id), strC d.rec_.name, strC (numT d.rec_.length), strC (numT d.rec_.day)] := by simp
    have hj2 : [strC kRec, strC (numT d.rec_.id), strC d.rec_.name, strC (numT d.rec_.length), strC (numT d.rec_.day)] ++ (d.rec_.speakers.map numT).map strC = (recW d.rec_).map strC := by simp [recW]
    repeat' (first
     | refine awpD_nw rfl qd0 (ev_bslice_o (t := 42) (n := 3) (es := [strC kRec, strC (numT d.rec_.id), strC d.rec_.name]) rfl rfl rfl rfl rfl rfl rfl rfl rfl rfl rfl qf0 qc0) rfl rfl rfl rfl rfl qc0 qb0 ?_
     | refine awpD_up (kk := 0) rfl qd0 rfl rfl rfl rfl (ev_appB (es' := [strC kRec, strC (numT d.rec_.id), strC d.rec_.name, strC (numT d.rec_.length), strC (numT d.rec_.day)]) (L' := [.own 1 9 1 [strC kRec, strC (numT d.rec_.id), strC d.rec_.name, strC (numT d.rec_.length), strC (numT d.rec_.day)]]) rfl rfl rfl rfl rfl rfl rfl rfl rfl rfl rfl rfl rfl (by simp) hj1 rfl) rfl rfl rfl rfl rfl rfl qb0 ?_
     | ((with_reducible refine is_un ?_); (first | refine awpL_frz (x := .os 0 2) (x' := encSs (recW d.rec_)) 42 rfl (by simp [frzV, encSs]) rfl rfl ?_ | refine awpL_ev2 (ev_bslice_o (t := 42) (n := 1) (es := [strC (recL d.rec_)]) rfl rfl rfl rfl rfl rfl rfl rfl rfl rfl rfl qf0 qc0) rfl ?_ | refine awpL_ev2 (ev_appB (es' := (recW d.rec_).map strC) rfl rfl rfl rfl rfl rfl rfl rfl rfl rfl rfl rfl rfl (by simp; omega) hj2 rfl) rfl ?_))
     | refine st [] ?_
     | ((with_reducible refine is_gd ?_); refine awpL_split rfl rfl (fun h => ?_) (fun h => ?_))
     | ((with_reducible refine isD_gd ?_); ((fail_if_success (refine isD_kn (c := true) rfl qa0 ?_)); (fail_if_success (refine isD_kn (c := false) rfl qa0 ?_)); refine awpD_split rfl (fun h => ?_) (fun h => ?_)))
     | ((with_reducible refine is_awp ?_); refine awp_cond rfl (fun h => ?_) (fun h => ?_))
     | fail)
    refine awp_for (α := Nat) 2 (fun k => [(1, .fp (docC d)), (6, .os 1 0), (46, encTiers d.tiers), (47, vi d.tiers.length), (48, vi k)]) (fun k => [.dead, .own 0 9 1 (([recL d.rec_] ++ (d.tiers.take k).map tierL).map strC)]) (fun k => k ≤ d.tiers.length) (fun k => d.tiers.length - k) 0
      ⟨(.cons rfl rfl (.cons rfl rfl (.cons rfl rfl (.cons rfl rfl (.cons rfl rfl .nil))))), rfl, rfl, rfl⟩ (Nat.zero_le _) ?_
    intro k hk
    cases ht : d.tiers[k]? with
    | some t =>
      have hlt2 : k < d.tiers.length := (List.getElem?_eq_some_iff.1 ht).1
      have c1 : decide ((k : Int) < d.tiers.length) = true := decide_eq_true (by omega)
      have g1 := tierC_get ht
      have hm := List.mem_of_getElem? ht
      obtain ⟨b1, b2, b3⟩ := hd.t t hm
      have hN3 := wnumbers_spec hN [t.kind, t.role, t.parent] (by simp) (by simp; exact ⟨b1, b2, b3⟩)
      have hTJ := wJoin_spec (g := g) (tierW t) (hw.t t hm)
      rw [show toB (joinW ((tierW t).map lst)) = tierL t from rfl] at hTJ
      have hj3 : [strC kTier, strC t.name] ++ ([t.kind, t.role, t.parent].map numT).map strC = (tierW t).map strC := by simp [tierW]
      have hj : ([recL d.rec_] ++ (d.tiers.take k).map tierL).map strC ++ [strC (tierL t)] = ([recL d.rec_] ++ (d.tiers.take (k + 1)).map tierL).map strC := by
        rw [← take_tail tierL _ ht]; simp
      have hmb : (([recL d.rec_] ++ (d.tiers.take k).map tierL).map strC).length ≤ 1000 := by simp [List.length_take]; omega
      generalize ([recL d.rec_] ++ (d.tiers.take k).map tierL).map strC = M at *
      generalize hM' : ([recL d.rec_] ++ (d.tiers.take (k + 1)).map tierL).map strC = M' at *
      repeat' (first
       | refine awp_drawT3 15 (by simp only [List.take_succ_cons, List.take_zero, List.take_nil]; rfl) (by simp only [List.drop_succ_cons, List.drop_zero, List.drop_nil]; rfl) (by kernel_rfl) rfl rfl rfl rfl (by repeat' (first | exact Strip.nil | apply Strip.keep rfl | apply Strip.drop rfl)) ?_
       | refine awpD_nw rfl qd0 (ev_bslice_o (t := 42) (n := 2) (es := [strC kTier, strC t.name]) rfl rfl rfl rfl rfl rfl rfl rfl rfl rfl rfl qf0 qc0) rfl rfl rfl rfl rfl qc0 qb0 ?_
       | refine awpD_up (kk := 3) rfl qd0 rfl rfl rfl rfl (ev_appB (es' := (tierW t).map strC) rfl rfl rfl rfl rfl rfl rfl rfl rfl rfl rfl rfl rfl (by simp) hj3 rfl) rfl rfl rfl rfl rfl rfl qb0 ?_
       | ((with_reducible refine is_un ?_); refine awpL_ev2 (ev_appB (es' := M') rfl rfl rfl rfl rfl rfl rfl rfl rfl rfl rfl rfl rfl qe0 hj rfl) rfl ?_)
       | ((with_reducible refine isD_un ?_); refine awpD_un (as_callS rfl qd0 rfl (by simp [exL, ex, encSs]) hTJ rfl rfl rfl) qb0 ?_)
       | ((with_reducible refine isD_gd ?_); refine awpD_gd rfl rfl qa0 (as_callS rfl qd0 rfl (by simp [exL, ex, encSs]) hTJ rfl rfl rfl) qb0 ?_)
       | refine st [] ?_
       | ((with_reducible refine is_gd ?_); refine awpL_split rfl rfl (fun h => ?_) (fun h => ?_))
       | ((with_reducible refine isD_gd ?_); ((fail_if_success (refine isD_kn (c := true) rfl qa0 ?_)); (fail_if_success (refine isD_kn (c := false) rfl qa0 ?_)); refine awpD_split rfl (fun h => ?_) (fun h => ?_)))
       | ((with_reducible refine is_awp ?_); refine awp_cond rfl (fun h => ?_) (fun h => ?_))
       | fail)
      exact ⟨k + 1, by rw [hM']; exact ⟨(.cons rfl rfl (.cons rfl rfl (.cons rfl rfl (.cons rfl rfl (.cons rfl rfl .nil))))), rfl, rfl, rfl⟩, by omega, by omega⟩
    | none =>
      have hge : d.tiers.length ≤ k := by simpa using ht
      have c1 : decide ((k : Int) < d.tiers.length) = false := decide_eq_false (by omega)
      rw [List.take_of_length_le hge]
      repeat' (first
       | refine stn [] ?_
       | ((with_reducible refine is_gd ?_); refine awpL_split rfl rfl (fun h => ?_) (fun h => ?_))
       | ((with_reducible refine is_awp ?_); refine awp_cond rfl (fun h => ?_) (fun h => ?_))
       | fail)
      refine awp_for (α := Nat) 2 (fun k => [(1, .fp (docC d)), (6, .os 1 0), (70, encNotes d.notes), (71, vi d.notes.length), (72, vi k)]) (fun k => [.dead, .own 0 9 1 (([recL d.rec_] ++ d.tiers.map tierL ++ (d.notes.take k).map noteL).map strC)]) (fun k => k ≤ d.notes.length) (fun k => d.notes.length - k) 0
        ⟨(.cons rfl rfl (.cons rfl rfl (.cons rfl rfl (.cons rfl rfl (.cons rfl rfl .nil))))), by simp only [List.take_zero, List.map_nil, List.append_nil]; rfl, rfl, rfl⟩ (Nat.zero_le _) ?_
      intro q hq
      cases hn : d.notes[q]? with
      | some n =>
        have hlt2 : q < d.notes.length := (List.getElem?_eq_some_iff.1 hn).1
        have c2 : decide ((q : Int) < d.notes.length) = true := decide_eq_true (by omega)
        have g1 := note_get hn
        have hm := List.mem_of_getElem? hn
        obtain ⟨b1, b2, b3, b4, b5, b6⟩ := hd.n n hm
        have hN4 := wnumbers_spec hN [n.id, n.tier, n.parent, n.span.fro, n.span.til, n.rank] (by simp) (by simp; exact ⟨b1, b2, b3, b4, b5, b6⟩)
        have hNJ := wJoin_spec (g := g) (noteW n) (hw.n n hm)
        rw [show toB (joinW ((noteW n).map lst)) = noteL n from rfl] at hNJ
        have hj3 : [strC kNote] ++ ([n.id, n.tier, n.parent, n.span.fro, n.span.til, n.rank].map numT).map strC = ([kNote] ++ [n.id, n.tier, n.parent, n.span.fro, n.span.til, n.rank].map numT).map strC := by simp
        have hj4 : ([kNote] ++ [n.id, n.tier, n.parent, n.span.fro, n.span.til, n.rank].map numT).map strC ++ [strC n.text] = (noteW n).map strC := by simp [noteW]
        have hj : ([recL d.rec_] ++ d.tiers.map tierL ++ (d.notes.take q).map noteL).map strC ++ [strC (noteL n)] = ([recL d.rec_] ++ d.tiers.map tierL ++ (d.notes.take (q + 1)).map noteL).map strC := by
          rw [← take_tail noteL _ hn]; simp
        have hmb : (([recL d.rec_] ++ d.tiers.map tierL ++ (d.notes.take q).map noteL).map strC).length ≤ 1000 := by simp [List.length_take]; omega
        generalize ([recL d.rec_] ++ d.tiers.map tierL ++ (d.notes.take q).map noteL).map strC = M at *
        generalize hM' : ([recL d.rec_] ++ d.tiers.map tierL ++ (d.notes.take (q + 1)).map noteL).map strC = M' at *
        repeat' (first
         | ((with_reducible refine is_un ?_); (first | refine awpL_ev2 (ev_bslice_o (t := 42) (n := 1) (es := [strC kNote]) rfl rfl rfl rfl rfl rfl rfl rfl rfl rfl rfl qf0 qc0) rfl ?_ | refine awpL_frz (x := .os 3 2) (x' := encSs (noteW n)) 99 rfl (by simp [frzV, encSs]) rfl rfl ?_ | refine awpL_ev2 (ev_appB (es' := ([kNote] ++ [n.id, n.tier, n.parent, n.span.fro, n.span.til, n.rank].map numT).map strC) rfl rfl rfl rfl rfl rfl rfl rfl rfl rfl rfl rfl rfl (by simp) hj3 rfl) rfl ?_ | refine awpL_ev2 (ev_appB (es' := (noteW n).map strC) rfl rfl rfl rfl rfl rfl rfl rfl rfl rfl rfl rfl rfl (by simp) hj4 rfl) rfl ?_ | refine awpL_ev2 (ev_appB (es' := M') rfl rfl rfl rfl rfl rfl rfl rfl rfl rfl rfl rfl rfl qe0 hj rfl) rfl ?_))
         | refine stn [] ?_
         | ((with_reducible refine is_gd ?_); refine awpL_split rfl rfl (fun h => ?_) (fun h => ?_))
         | ((with_reducible refine is_awp ?_); refine awp_cond rfl (fun h => ?_) (fun h => ?_))
         | fail)
        exact ⟨q + 1, by rw [hM']; exact ⟨(.cons rfl rfl (.cons rfl rfl (.cons rfl rfl (.cons rfl rfl (.cons rfl rfl .nil))))), rfl, rfl, rfl⟩, by omega, by omega⟩
      | none =>
        have hge2 : d.notes.length ≤ q := by simpa using hn
        have c2 : decide ((q : Int) < d.notes.length) = false := decide_eq_false (by omega)
        rw [List.take_of_length_le hge2, show [recL d.rec_] ++ d.tiers.map tierL ++ d.notes.map noteL = docL d by simp [docL]]
        repeat' (first
         | ((with_reducible refine is_un ?_); refine awpL_frz (x := .os 1 0) (x' := encSs (docL d)) 104 rfl (by simp [frzV, encSs]) rfl rfl ?_)
         | refine stn [] ?_
         | ((with_reducible refine is_gd ?_); refine awpL_split rfl rfl (fun h => ?_) (fun h => ?_))
         | ((with_reducible refine is_awp ?_); refine awp_cond rfl (fun h => ?_) (fun h => ?_))
         | fail)
        exact retP rfl rfl
end Go.Proofs.YtigcjinpkngapaaGreatDoor
end
section
namespace Go.Ac
section
variable {P : Program} {G : Glo} {N : Nat} {S : SL} {L : List LB} {ty : TypeId}
end
end Go.Ac
end
section
namespace Go.Proofs.YtigcjinpkngapaaGreatDoor
open Go.Ac
attribute [local irreducible] awp awpL Ev Ev2 EvS thenQ blockQ retQ PCalls OCalls
variable {g : List (Nat × List AV)}
end Go.Proofs.YtigcjinpkngapaaGreatDoor
end
section
namespace Go.Proofs.YtigcjinpkngapaaGreatDoor
open Go.Ac
attribute [local irreducible] awp awpL Ev Ev2 EvS thenQ blockQ retQ PCalls OCalls
variable {g : List (Nat × List AV)}
def sampleD : Doc := ⟨⟨3, ⟨#[116, 97, 112, 101]⟩, 900, 5, [1, 4]⟩, [⟨⟨#[116, 101, 120, 116]⟩, 0, 1, -1⟩], [⟨7, 0, 0, ⟨0, 400⟩, 0, ⟨#[98, 97, 32, 109, 105]⟩⟩, ⟨9, 0, 0, ⟨400, 900⟩, 0, .empty⟩]⟩
set_option maxRecDepth 4000 in
set_option maxHeartbeats 2000000 in
theorem sampleT_spec : PCalls Tryz.prog g 27 [] (.agg (docC sampleD)) := by
  refine pcalls' Tryz.func27 Tryz.ntmps27 rfl rfl rfl ?_
  repeat' (first
   | refine stn [0] ?_
   | ((with_reducible refine is_gd ?_); refine awpL_split rfl rfl (fun h => ?_) (fun h => ?_))
   | ((with_reducible refine is_awp ?_); refine awp_cond rfl (fun h => ?_) (fun h => ?_))
   | fail)
  exact retP rfl rfl
end Go.Proofs.YtigcjinpkngapaaGreatDoor
end
section
namespace Go.Proofs.YtigcjinpkngapaaGreatDoor
open Go.Ac
attribute [local irreducible] awp awpL Ev Ev2 EvS thenQ blockQ retQ PCalls OCalls
variable {g : List (Nat × List AV)}
end Go.Proofs.YtigcjinpkngapaaGreatDoor
end
section
namespace Go.Proofs.YtigcjinpkngapaaGreatDoor
open Go.Ac
attribute [local irreducible] awp awpL Ev Ev2 EvS thenQ blockQ retQ PCalls OCalls
variable {g : List (Nat × List AV)}
end Go.Proofs.YtigcjinpkngapaaGreatDoor
end
section
namespace Go.Proofs.YtigcjinpkngapaaGreatDoor
open Go.Ac
attribute [local irreducible] awp awpL Ev Ev2 EvS thenQ blockQ retQ PCalls OCalls
variable {g : List (Nat × List AV)}
set_option maxRecDepth 4000 in
set_option maxHeartbeats 2000000 in
theorem r12Ints_spec (a b : List Int) (ha : a.length ≤ 1000000) (hb : b.length ≤ 1000000) : PCalls Tryz.prog g 42 [encIs a, encIs b] (vb (decide (a = b))) := by
  refine pcalls' Tryz.func42 Tryz.ntmps42 rfl rfl rfl ?_
  by_cases hl : a.length = b.length
  · have c0 : (!decide ((a.length : Int) = b.length)) = false := by rw [hl]; simp
    repeat' (first
     | refine stn [] ?_
     | ((with_reducible refine is_gd ?_); refine awpL_split rfl rfl (fun h => ?_) (fun h => ?_))
     | ((with_reducible refine is_awp ?_); refine awp_cond rfl (fun h => ?_) (fun h => ?_))
     | fail)
    refine awp_for (α := Nat) 0 (fun k => [(0, encIs a), (1, encIs b), (5, vi k)]) (fun _ => []) (fun k => k ≤ a.length ∧ a.take k = b.take k) (fun k => a.length - k) 0
      ⟨(.cons rfl rfl (.cons rfl rfl (.cons rfl rfl .nil))), rfl, rfl, rfl⟩ ⟨Nat.zero_le _, by simp⟩ ?_
    rintro k ⟨hk, hf⟩
    cases ht : a[k]? with
    | none =>
      have hge : a.length ≤ k := by simpa using ht
      have c1 : decide ((k : Int) < a.length) = false := decide_eq_false (by omega)
      rw [List.take_of_length_le hge, List.take_of_length_le (by omega)] at hf
      rw [decide_eq_true hf]
      repeat' (first
       | refine stn [] ?_
       | ((with_reducible refine is_gd ?_); refine awpL_split rfl rfl (fun h => ?_) (fun h => ?_))
       | ((with_reducible refine is_awp ?_); refine awp_cond rfl (fun h => ?_) (fun h => ?_))
       | fail)
      exact retP rfl rfl
    | some n =>
      have hlt : k < a.length := (List.getElem?_eq_some_iff.1 ht).1
      have c1 : decide ((k : Int) < a.length) = true := decide_eq_true (by omega)
      obtain ⟨m, hm⟩ : ∃ m, b[k]? = some m := ⟨_, List.getElem?_eq_getElem (by omega)⟩
      have ik : 0 ≤ (k : Int) ∧ (a.map intC)[(k : Int).toNat]? = some (intC n) := ⟨by omega, by simp [ht]⟩
      have im : 0 ≤ (k : Int) ∧ (b.map intC)[(k : Int).toNat]? = some (intC m) := ⟨by omega, by simp [hm]⟩
      by_cases e : n = m
      · have c2 : (!decide (n = m)) = false := by rw [decide_eq_true e]; rfl
        repeat' (first
         | refine st [] ?_
         | ((with_reducible refine is_gd ?_); refine awpL_split rfl rfl (fun h => ?_) (fun h => ?_))
         | ((with_reducible refine isD_gd ?_); ((fail_if_success (refine isD_kn (c := true) rfl qa0 ?_)); (fail_if_success (refine isD_kn (c := false) rfl qa0 ?_)); refine awpD_split rfl (fun h => ?_) (fun h => ?_)))
         | ((with_reducible refine is_awp ?_); refine awp_cond rfl (fun h => ?_) (fun h => ?_))
         | fail)
        refine ⟨k + 1, ⟨(.cons rfl rfl (.cons rfl rfl (.cons rfl rfl .nil))), rfl, rfl, rfl⟩, ⟨by omega, ?_⟩, by omega⟩
        rw [List.take_add_one, List.take_add_one, hf, ht, hm, e]
      · have c2 : (!decide (n = m)) = true := by rw [decide_eq_false e]; rfl
        have hne : a ≠ b := fun q => by rw [q, hm] at ht; exact e (Option.some.inj ht).symm
        rw [decide_eq_false hne]
        repeat' (first
         | refine st [] ?_
         | ((with_reducible refine is_gd ?_); refine awpL_split rfl rfl (fun h => ?_) (fun h => ?_))
         | ((with_reducible refine isD_gd ?_); ((fail_if_success (refine isD_kn (c := true) rfl qa0 ?_)); (fail_if_success (refine isD_kn (c := false) rfl qa0 ?_)); refine awpD_split rfl (fun h => ?_) (fun h => ?_)))
         | ((with_reducible refine is_awp ?_); refine awp_cond rfl (fun h => ?_) (fun h => ?_))
         | fail)
        exact retP rfl rfl
  · have c0 : (!decide ((a.length : Int) = b.length)) = true := by
      rw [decide_eq_false (by omega)]; rfl
    have hne : a ≠ b := fun q => hl (by rw [q])
    rw [decide_eq_false hne]
    repeat' (first
     | refine stn [] ?_
     | ((with_reducible refine is_gd ?_); refine awpL_split rfl rfl (fun h => ?_) (fun h => ?_))
     | ((with_reducible refine is_awp ?_); refine awp_cond rfl (fun h => ?_) (fun h => ?_))
     | fail)
    exact retP rfl rfl
end Go.Proofs.YtigcjinpkngapaaGreatDoor
end
section
namespace Go.Proofs.YtigcjinpkngapaaGreatDoor
open Go.Ac
attribute [local irreducible] awp awpL Ev Ev2 EvS thenQ blockQ retQ PCalls OCalls
variable {g : List (Nat × List AV)}
def tierEqV : List Value → List Value → Option Bool
  | [.string s, .int .i64 a, .int .i64 b, .int .i64 c], [.string s', .int .i64 a', .int .i64 b', .int .i64 c'] => some (s.toList == s'.toList && (a == a' && (b == b' && c == c')))
  | _, _ => none
theorem tierEqV_T : EqT Tryz.prog 51 tierEqV := by
  intro xs ys b w h
  unfold tierEqV at h
  split at h
  · rename_i s a b c s' a' b' c'
    have h := Option.some.inj h
    subst h
    have u3 := Tryz.underlying3
    have a3 := Tryz.isAgg3
    have z3 := Tryz.sizeOf3
    have u9 := Tryz.underlying9
    have a9 := Tryz.isAgg9
    have z9 := Tryz.sizeOf9
    have hS : Tryz.prog.underlying 51 = some (.struct (Tryz.prog.fieldsOf 51)) := by kernel_rfl
    rw [show (10000 : Nat) = 9999 + 1 from rfl, run_equalIn_agg w 9999 _ _ _ hS (by kernel_rfl)]
    simp only [Program.fieldsOf, Tryz.underlying51]
    go_simp
    by_cases h1 : a = a' <;> by_cases h2 : b = b' <;> by_cases h3 : c = c' <;> by_cases h7 : s.toList = s'.toList <;> simp [h1, h2, h3, h7]
  · cases h
end Go.Proofs.YtigcjinpkngapaaGreatDoor
end
