/- A logic of trees over the model's steps, and the contracts of the functions that the laws reach: part 25 of 29. -/
import Derived.Test.YtcfkokllinkigaaGreatDoorB24
set_option linter.unusedVariables false
set_option linter.unusedSimpArgs false
set_option linter.unusedSectionVars false
set_option linter.unnecessarySimpa false
namespace Go.Proofs.YtcfkokllinkigaaGreatDoor
section
theorem countP_le' {α : Type} {p q : α → Bool} : ∀ {l : List α}, (∀ x ∈ l, p x = true → q x = true) → l.countP p ≤ l.countP q
 | [], _ => Nat.le_refl _
 | x :: r, h => by
  have ih := countP_le' (l := r) fun y hy => h y (List.mem_cons_of_mem _ hy)
  have hx := h x List.mem_cons_self
  rw [List.countP_cons, List.countP_cons]
  cases hp : p x with
  | true => rw [hx hp]; simp; exact ih
  | false => simp; omega
theorem countP_lt' {α : Type} {p q : α → Bool} {z : α} (hq : q z = true) (hp : p z = false) : ∀ {l : List α}, z ∈ l → (∀ x ∈ l, p x = true → q x = true) → l.countP p < l.countP q
 | x :: r, hz, h => by
  have h' : ∀ y ∈ r, p y = true → q y = true := fun y hy => h y (List.mem_cons_of_mem _ hy)
  rw [List.countP_cons, List.countP_cons]
  rcases List.mem_cons.1 hz with rfl | hz
  ·have := countP_le' h'
   rw [hq, hp]; simp; omega
  ·have ih := countP_lt' hq hp hz h'
   have hx := h x List.mem_cons_self
   cases hpx : p x with
   | true => rw [hx hpx]; simp; exact ih
   | false => simp; omega
def befN (x n : Note) : Bool := decide (x.rank < n.rank) || (decide (x.rank = n.rank) && decide (x.id < n.id))
def rkN (N : List Note) (n : Note) : Nat := N.countP fun x => sameP x n && befN x n
theorem befN_tr {a b c : Note} (h : befN a b = true) (k : befN b c = true) : befN a c = true := by
 simp only [befN, Bool.or_eq_true, Bool.and_eq_true, decide_eq_true_eq] at *; omega
theorem befN_irr (a : Note) : befN a a = false := by
 simp only [befN]; simp
theorem befN_tot {a b : Note} (h : a.id ≠ b.id) : befN a b = true ∨ befN b a = true := by
 simp only [befN, Bool.or_eq_true, Bool.and_eq_true, decide_eq_true_eq]; omega
theorem Zn {a b : Note} : sameP a b = true ↔ a.tier = b.tier ∧ a.parent = b.parent := by simp [sameP]
theorem sameP_comm (a b : Note) : sameP a b = sameP b a := by
 unfold sameP
 rw [show decide (a.tier = b.tier) = decide (b.tier = a.tier) from decide_eq_decide.2 eq_comm, show decide (a.parent = b.parent) = decide (b.parent = a.parent) from decide_eq_decide.2 eq_comm]
theorem rkN_lt {N : List Note} {a b : Note} (ha : a ∈ N) (hs : sameP a b = true) (h : befN a b = true) : rkN N a < rkN N b := by
 unfold rkN
 refine countP_lt' (z := a) (by rw [hs, h]; rfl) (by rw [befN_irr]; simp) ha fun x hx hp => ?_
 simp only [Bool.and_eq_true] at hp ⊢
 have h1 := Zn.1 hp.1
 have h2 := Zn.1 hs
 exact ⟨Zn.2 ⟨h1.1.trans h2.1, h1.2.trans h2.2⟩, befN_tr hp.2 h⟩
theorem rkN_len {N : List Note} {a : Note} (ha : a ∈ N) : rkN N a < N.countP fun x => sameP x a := by
 unfold rkN
 refine countP_lt' (p := fun x => sameP x a && befN x a) (q := fun x => sameP x a) (z := a) (Zn.2 ⟨rfl, rfl⟩) (by rw [befN_irr]; simp) ha fun x hx hp => by simp only [Bool.and_eq_true] at hp; exact hp.1
theorem wy {α : Type} [DecidableEq α] : ∀ {l m : List α}, l.Nodup → (∀ x ∈ l, x ∈ m) → l.length ≤ m.length
 | [], _, _, _ => Nat.zero_le _
 | x :: r, m, h, hs => by
  obtain ⟨h1, h2⟩ := List.nodup_cons.1 h
  have hx := hs x List.mem_cons_self
  have ih := wy (l := r) (m := m.erase x) h2 fun y hy => by
   have hne : y ≠ x := fun e => h1 (e ▸ hy)
   exact (List.mem_erase_of_ne hne).2 (hs y (List.mem_cons_of_mem _ hy))
  rw [List.length_erase_of_mem hx] at ih
  have := List.length_pos_of_mem hx
  simp only [List.length_cons]; omega
theorem rkN_all {N : List Note} (hn : (N.map (·.id)).Nodup) {a : Note} (k : Nat) (hk : k < N.countP fun x => sameP x a) : ∃ x ∈ N, sameP x a = true ∧ rkN N x = k := by
 have hlen : (N.filter fun x => sameP x a).length = N.countP fun x => sameP x a := List.countP_eq_length_filter.symm
 have hp : (N.filter fun x => sameP x a).Pairwise fun x y => x.id ≠ y.id := by
  have : N.Pairwise fun x y => x.id ≠ y.id := List.pairwise_map.1 hn
  exact this.filter _
 have hmem : ∀ x, x ∈ N.filter (fun x => sameP x a) → x ∈ N ∧ sameP x a = true := fun x hx => List.mem_filter.1 hx
 have hsame : ∀ x y, sameP x a = true → sameP y a = true → sameP x y = true := fun x y hx hy => by
  have h1 := Zn.1 hx
  have h2 := Zn.1 hy
  exact Zn.2 ⟨h1.1.trans h2.1.symm, h1.2.trans h2.2.symm⟩
 have hnd : ((N.filter fun x => sameP x a).map (rkN N)).Nodup := by
  refine List.pairwise_map.2 (List.Pairwise.imp_of_mem (fun {x y} hx hy hxy => ?_) hp)
  obtain ⟨x1, x2⟩ := hmem x hx
  obtain ⟨y1, y2⟩ := hmem y hy
  rcases befN_tot hxy with h | h
  ·exact Nat.ne_of_lt (rkN_lt x1 (hsame x y x2 y2) h)
  ·exact (Nat.ne_of_lt (rkN_lt y1 (hsame y x y2 x2) h)).symm
 apply Decidable.byContradiction
 intro hno
 have hsub : ∀ x ∈ (N.filter fun x => sameP x a).map (rkN N), x ∈ (List.range (N.countP fun x => sameP x a)).erase k := by
  intro v hv
  obtain ⟨x, hx, rfl⟩ := List.mem_map.1 hv
  obtain ⟨x1, x2⟩ := hmem x hx
  refine (List.mem_erase_of_ne fun e => hno ⟨x, x1, x2, e⟩).2 (List.mem_range.2 ?_)
  have h1 := rkN_len x1
  have : (fun y => sameP y x) = fun y => sameP y a := by
   funext y
   have h2 := Zn.1 x2
   unfold sameP
   rw [h2.1, h2.2]
  rwa [this] at h1
 have := wy hnd hsub
 rw [List.length_map, hlen, List.length_erase_of_mem (List.mem_range.2 hk), List.length_range] at this
 omega
theorem jZ (n : Note) : ∀ l : List Note, (insN n l).Perm (n :: l)
 | [] => .refl _
 | x :: r => by
  unfold insN
  split
  ·exact .refl _
  ·exact ((jZ n r).cons x).trans (.swap n x r)
theorem yc : ∀ (l s : List Note), (l.foldl (fun s n => insN n s) s).Perm (l ++ s)
 | [], s => .refl _
 | n :: r, s => by
  rw [List.foldl_cons]
  refine (yc r _).trans ?_
  exact ((jZ n s).append_left r).trans List.perm_middle
theorem W9 (l : List Note) : (sortN l).Perm l := by
 have := yc l []
 rwa [List.append_nil] at this
abbrev IncN (l : List Note) : Prop := l.Pairwise fun a b => a.id < b.id
theorem insN_inc (n : Note) : ∀ {l : List Note}, IncN l → (∀ x ∈ l, x.id ≠ n.id) → IncN (insN n l)
 | [], _, _ => List.pairwise_singleton ..
 | x :: r, h, hd => by
  obtain ⟨h1, h2⟩ := List.pairwise_cons.1 h
  unfold insN
  split
  ·rename_i q
   refine List.pairwise_cons.2 ⟨fun y hy => ?_, h⟩
   rcases List.mem_cons.1 hy with rfl | hy
   ·exact q
   ·have := h1 y hy; omega
  ·rename_i q
   refine List.pairwise_cons.2 ⟨fun y hy => ?_, insN_inc n h2 fun y hy => hd y (List.mem_cons_of_mem _ hy)⟩
   rcases List.mem_cons.1 ((jZ n r).mem_iff.1 hy) with rfl | hy
   ·have := hd x List.mem_cons_self; omega
   ·exact h1 y hy
theorem sortF_inc : ∀ (l : List Note) (s : List Note), IncN s → (l ++ s).Pairwise (fun a b => a.id ≠ b.id) → IncN (l.foldl (fun s n => insN n s) s)
 | [], s, h, _ => h
 | n :: r, s, h, hd => by
  rw [List.foldl_cons]
  rw [List.cons_append, List.pairwise_cons] at hd
  refine sortF_inc r _ (insN_inc n h fun x hx q => hd.1 x (List.mem_append_right _ hx) q.symm) ?_
  have hp : (r ++ insN n s).Perm (n :: (r ++ s)) := ((jZ n s).append_left r).trans List.perm_middle
  refine (hp.pairwise_iff (fun {a b} (h : a.id ≠ b.id) => h.symm)).2 (List.pairwise_cons.2 hd)
theorem sortN_inc {l : List Note} (h : l.Pairwise fun a b => a.id ≠ b.id) : IncN (sortN l) := sortF_inc l [] .nil (by rw [List.append_nil]; exact h)
theorem getN_iff {l : List Note} (h : l.Pairwise fun a b => a.id ≠ b.id) {i : Int} {n : Note} : getN l i = some n ↔ n ∈ l ∧ n.id = i := by
 constructor
 ·intro q; exact ⟨(JV q).2, (JV q).1⟩
 ·rintro ⟨h1, h2⟩
  cases hg : getN l i with
  | none =>
   unfold getN at hg
   have := List.find?_eq_none.1 hg n h1
   simp [h2] at this
  | some m =>
   obtain ⟨q1, q2⟩ := JV hg
   rw [pw_inj h q2 h1 (q1.trans h2.symm)]
end
section
theorem Zg (l : List Tier) (N : List Note) (n : Note) : (rankN l N n).id = n.id ∧ (rankN l N n).tier = n.tier ∧ (rankN l N n).parent = n.parent ∧ (rankN l N n).span = n.span ∧ (rankN l N n).text = n.text := by
 unfold rankN
 split <;> exact ⟨rfl, rfl, rfl, rfl, rfl⟩
theorem rankN_3 {l : List Tier} {N : List Note} {n : Note} (h : (tierOf l n).kind = 3) : (rankN l N n).rank = (rkN N n : Nat) := by
 unfold rankN; rw [if_pos h]; rfl
theorem rankN_n {l : List Tier} {N : List Note} {n : Note} (h : (tierOf l n).kind ≠ 3) : rankN l N n = n := by
 unfold rankN; rw [if_neg h]
def doneN (l : List Tier) (N : List Note) : List Note := sortN (N.map (rankN l N))
theorem q8 (l : List Tier) (N : List Note) : (doneN l N).Perm (N.map (rankN l N)) := W9 _
theorem QC {l : List Tier} {N : List Note} {x : Note} : x ∈ doneN l N ↔ ∃ n ∈ N, rankN l N n = x := by
 rw [(q8 l N).mem_iff, List.mem_map]
section
variable {len : Int} {l : List Tier} {N : List Note} (h : InvP len l N)
include h
theorem InvP.idN : N.Pairwise fun a b => a.id ≠ b.id := List.pairwise_map.1 h.ids
theorem InvP.idR : (N.map (rankN l N)).Pairwise fun a b => a.id ≠ b.id := by
 refine List.pairwise_map.2 (h.idN.imp fun {a b} q => ?_)
 rw [(Zg l N a).1, (Zg l N b).1]; exact q
theorem InvP.inc : IncN (doneN l N) := sortN_inc h.idR
theorem InvP.idD : (doneN l N).Pairwise fun a b => a.id ≠ b.id := h.inc.imp fun {a b} q => by omega
theorem InvP.get {i : Int} {p : Note} (q : getN N i = some p) : getN (doneN l N) i = some (rankN l N p) :=
 (getN_iff h.idD).2 ⟨QC.2 ⟨p, (JV q).2, rfl⟩, by rw [(Zg l N p).1]; exact (JV q).1⟩
theorem InvP.note (r : Recording) (hr : r.length = len) {n : Note} (hn : n ∈ N) {q : Option Note} (hq : lateB q (rankN l N n) = false) : noteE ⟨r, l, doneN l N⟩ q (rankN l N n) = 0 := by
 obtain ⟨t, ht⟩ := h.ok n hn
 obtain ⟨e1, e2, e3, e4, e5⟩ := Zg l N n
 unfold noteE
 rw [e1, if_neg (by have := ht.id; omega), hq, if_neg (by simp), e2]
 simp only [ht.tier]
 rw [e5, ht.text, if_neg (by simp)]
 unfold placedE
 rw [e3, e4]
 have hup : t.kind ≠ 0 → ∃ p, getN (doneN l N) n.parent = some p ∧ p.tier = t.parent ∧ (timed t.kind = true → p.span.fro ≤ n.span.fro ∧ n.span.til ≤ p.span.til) := fun k => by
  obtain ⟨p, p1, p2, p3⟩ := ht.up k
  refine ⟨_, h.get p1, ?_, ?_⟩
  ·rw [(Zg l N p).2.1]; exact p2
  ·rw [(Zg l N p).2.2.2.1]; exact p3
 have hrank : 0 ≤ (rankN l N n).rank ∧ (t.kind ≠ 3 → (rankN l N n).rank = 0) := by
  have et := je ht.tier
  by_cases k : t.kind = 3
  ·rw [rankN_3 (by rw [et]; exact k)]; exact ⟨by omega, fun q => absurd k q⟩
  ·rw [rankN_n (by rw [et]; exact k), ht.rank k]; exact ⟨by omega, fun _ => rfl⟩
 by_cases k : t.kind = 0
 ·rw [if_neg (by simp [k, ht.root k])]
  have kt : timed t.kind = true := by rw [k]; rfl
  rw [if_neg (by simp [kt, ht.span kt]), if_neg (by have := ht.len k; rw [hr]; omega), if_neg (by simp [k])]
  rw [if_neg (by have := hrank.2 (by omega); omega)]
 ·obtain ⟨p, p1, p2, p3⟩ := hup k
  rw [if_neg (by simp [k, p1, p2])]
  rw [if_neg (by
   intro q
   rcases q with ⟨q1, q2⟩ | ⟨q1, q2⟩
   ·exact q2 (ht.flat q1)
   ·rw [ht.span q1] at q2; cases q2), if_neg (by omega), if_neg (by
   rintro ⟨⟨q1, _⟩, q2⟩
   rw [p1] at q2
   have := p3 q1
   simp only [Option.getD_some] at q2
   omega)]
  rw [if_neg (by
   intro q
   rcases q with q | ⟨q1, q2⟩
   ·omega
   ·exact q1 (hrank.2 q2))]
omit h in
theorem notesE_of {d : Doc} : ∀ (l : List Note) (p : Option Note), (∀ x ∈ l, ∀ q, lateB q x = false → noteE d q x = 0) → IncN l → (∀ q, p = some q → ∀ x ∈ l, q.id < x.id) → notesE d p l = 0
 | [], _, _, _, _ => rfl
 | x :: r, p, hx, hi, hp => by
  obtain ⟨h1, h2⟩ := List.pairwise_cons.1 hi
  have hl : lateB p x = false := by
   cases p with
   | none => rfl
   | some q => have := hp q rfl x List.mem_cons_self; simp [lateB]; omega
  rw [notesE, hx x List.mem_cons_self p hl, if_neg (by simp)]
  exact notesE_of r (some x) (fun y hy => hx y (List.mem_cons_of_mem _ hy)) h2 fun q e y hy => by injection e with e; subst e; exact h1 y hy
theorem InvP.notes (r : Recording) (hr : r.length = len) : notesE ⟨r, l, doneN l N⟩ none (doneN l N) = 0 := by
 refine notesE_of _ _ (fun x hx q hq => ?_) h.inc fun q e => by cases e
 obtain ⟨n, hn, rfl⟩ := QC.1 hx
 exact h.note r hr hn hq
omit h in
theorem Beside.symm {a b : Note} (q : Beside l a b) : Beside l b a := by
 intro hs
 have hs2 : sameP a b = true := by rw [sameP_comm]; exact hs
 obtain ⟨q1, q2⟩ := q hs2
 have e := (Zn.1 hs2).1
 refine ⟨fun ha => ?_, ?_⟩
 ·have := q1 (by rw [← e]; exact ha)
  unfold meet at *
  rw [Bool.and_comm]; exact this
 ·unfold tierOf at *
  rw [e]; exact q2
theorem InvP.pairD : (doneN l N).Pairwise (Beside l) := by
 refine ((q8 l N).pairwise_iff fun {a b} q => Beside.symm q).2 (List.pairwise_map.2 (h.pair.imp fun {a b} q hs => ?_))
 obtain ⟨a1, a2, a3, a4, a5⟩ := Zg l N a
 obtain ⟨b1, b2, b3, b4, b5⟩ := Zg l N b
 have hs2 : sameP a b = true := by unfold sameP at *; rw [a2, a3, b2, b3] at hs; exact hs
 obtain ⟨q1, q2⟩ := q hs2
 refine ⟨fun k => ?_, ?_⟩
 ·rw [b2] at k
  rw [a4, b4]; exact q1 k
 ·unfold tierOf at *
  rw [b2]; exact q2
omit h in
theorem sibs_pair {R : Note → Note → Prop} {d : Doc} {i p : Int} (q : d.notes.Pairwise R) : (sibs d i p).Pairwise fun a b => R a b ∧ sameP a b = true ∧ b.tier = i := by
 unfold sibs
 refine List.Pairwise.imp_of_mem (fun {a b} ha hb hab => ?_) (q.filter _)
 simp only [List.mem_filter, Bool.and_eq_true, decide_eq_true_eq] at ha hb
 exact ⟨hab, Zn.2 ⟨ha.2.1.trans hb.2.1.symm, ha.2.2.trans hb.2.2.symm⟩, hb.2.1⟩
omit h in
theorem overlapL_no {L : List Span} (q : L.Pairwise fun a b => meet a b = false) : overlapL L = false := by
 cases ho : overlapL L with
 | false => rfl
 | true =>
  obtain ⟨i, hi, hk⟩ := List.any_eq_true.1 ho
  obtain ⟨k, hk, hm⟩ := List.any_eq_true.1 hk
  rw [List.mem_range] at hi hk
  have hki : k < L.length := by omega
  have := List.pairwise_iff_getElem.1 q k i hki hi hk
  rw [List.getD_eq_getElem?_getD, List.getD_eq_getElem?_getD, List.getElem?_eq_getElem hi, List.getElem?_eq_getElem hki, Option.getD_some, Option.getD_some] at hm
  unfold meet at *
  rw [Bool.and_comm] at hm
  rw [hm] at this; cases this
omit h in
theorem short_pair {R : Note → Note → Prop} {L : List Note} (q : L.Pairwise R) (hno : ∀ a b, R a b → False) : L.length ≤ 1 := by
 cases q with
 | nil => simp
 | cons h1 h2 =>
  rename_i a r
  cases r with
  | nil => simp
  | cons b s => exact (hno a b (h1 b List.mem_cons_self)).elim
omit h in
theorem InvP.sibs_len (r : Recording) {n : Note} : (sibs ⟨r, l, doneN l N⟩ n.tier n.parent).length = N.countP fun x => sameP x n := by
 unfold sibs
 rw [← List.countP_eq_length_filter, (q8 l N).countP_eq, List.countP_map]
 congr 1
 funext x
 obtain ⟨e1, e2, e3, e4, e5⟩ := Zg l N x
 show (decide ((rankN l N x).tier = n.tier) && decide ((rankN l N x).parent = n.parent)) = sameP x n
 rw [e2, e3]; rfl
theorem InvP.ranked (r : Recording) {n : Note} (hk : (tierOf l n).kind = 3) : rankedL ((sibs ⟨r, l, doneN l N⟩ n.tier n.parent).map (·.rank)) = true := by
 unfold rankedL
 rw [List.all_eq_true]
 intro k hk2
 rw [List.mem_range, List.length_map, InvP.sibs_len r] at hk2
 obtain ⟨x, x1, x2, x3⟩ := rkN_all h.ids k hk2
 obtain ⟨e1, e2, e3, e4, e5⟩ := Zg l N x
 have hs := Zn.1 x2
 refine List.any_eq_true.2 ⟨(rankN l N x).rank, List.mem_map.2 ⟨rankN l N x, ?_, rfl⟩, ?_⟩
 ·unfold sibs
  refine List.mem_filter.2 ⟨QC.2 ⟨x, x1, rfl⟩, ?_⟩
  rw [e2, e3, hs.1, hs.2]; simp
 ·have : (tierOf l x).kind = 3 := by unfold tierOf at *; rw [hs.1]; exact hk
  rw [rankN_3 this, x3]; simp
omit h in
theorem tierE1_no {d : Doc} {kind i : Int} : ∀ (L : List Note), (∀ n ∈ L, n.tier = i → (timed kind = true → overlapL ((sibs d n.tier n.parent).map (·.span)) = false) ∧ tierStep d kind 0 n = 0) → tierE1 d kind i 0 L = 0
 | [], _ => rfl
 | n :: r, hn => by
  have ih := tierE1_no r fun m hm => hn m (List.mem_cons_of_mem _ hm)
  rw [tierE1]
  by_cases k : n.tier = i
  ·obtain ⟨h1, h2⟩ := hn n List.mem_cons_self k
   rw [if_neg (fun q => q k), if_neg (by rintro ⟨q1, q2⟩; rw [h1 q1] at q2; cases q2), h2]
   exact ih
  ·rw [if_pos k]; exact ih
theorem InvP.tier (r : Recording) (i : Int) : tierE ⟨r, l, doneN l N⟩ i = 0 := by
 unfold tierE
 cases ht : tierAt l i with
 | none => rfl
 | some t =>
  refine tierE1_no _ fun x hx hxi => ?_
  obtain ⟨n, hn, rfl⟩ := QC.1 hx
  obtain ⟨t', ok⟩ := h.ok n hn
  obtain ⟨e1, e2, e3, e4, e5⟩ := Zg l N n
  rw [e2] at hxi ⊢
  rw [e3]
  have htt : t' = t := by have := ok.tier; rw [hxi, ht] at this; injection this with this; exact this.symm
  subst htt
  have et := je ok.tier
  have hp := sibs_pair (d := ⟨r, l, doneN l N⟩) (i := n.tier) (p := n.parent) h.pairD
  refine ⟨fun htm => overlapL_no (List.pairwise_map.2 (hp.imp fun {a b} q => (q.1 q.2.1).1 (by rw [q.2.2, wg ok.tier]; exact htm))), ?_⟩
  ·unfold tierStep
   rw [e2, e3]
   simp only [ok.kind, false_and, if_false]
   have hb : (if t'.kind = 3 ∧ rankedL ((sibs ⟨r, l, doneN l N⟩ n.tier n.parent).map (·.rank)) = false then (10 : Int) else 0) = 0 := by
    refine if_neg ?_
    rintro ⟨k, q⟩
    rw [h.ranked r (by rw [et]; exact k)] at q; cases q
   rw [hb]
   refine if_neg ?_
   rintro ⟨k, q⟩
   have := short_pair hp fun a b ⟨q1, q2, q3⟩ => (q1 q2).2 (by unfold tierOf at *; rw [q3]; rw [et]; exact k)
   omega
theorem InvP.each (r : Recording) : ∀ (m i : Nat), eachE ⟨r, l, doneN l N⟩ m i = 0
 | 0, _ => rfl
 | m + 1, i => by rw [eachE, h.tier r, if_neg (by simp)]; exact InvP.each r m (i + 1)
theorem InvP.doc (r : Recording) (hr : r.length = len) (ht : tiersE l = 0) (h0 : 0 ≤ len) (h1 : len ≤ 86400000) : docE ⟨r, l, doneN l N⟩ = 0 := by
 unfold docE
 rw [if_neg (by simp [ht]), if_neg (by simp only [hr]; omega), if_neg (by
  have := (q8 l N).length_eq
  rw [List.length_map] at this
  have := h.few
  simp only; omega), h.notes r hr, if_neg (by simp)]
 exact h.each r _ _
end
theorem repDoc_right {r : Recording} {l : List Tier} {ns : List Note} (ht : tiersE l = 0) (h0 : 0 ≤ r.length) (h1 : r.length ≤ 86400000) (hi : ∀ n ∈ ns, 1 ≤ n.id ∧ n.id ≤ 1099511627776) (hp : ns.Pairwise fun a b => a.id ≠ b.id) :
  docE ⟨r, l, doneN l (placeAll r.length l ns).notes⟩ = 0 := (QP r.length hi hp).doc r rfl ht h0 h1
theorem doneN_in {l : List Tier} {N : List Note} {i : Int} (h : ∃ x ∈ N, x.id = i) : ∃ x ∈ doneN l N, x.id = i := by
 obtain ⟨x, h1, h2⟩ := h
 exact ⟨rankN l N x, QC.2 ⟨x, h1, rfl⟩, by rw [(Zg l N x).1]; exact h2⟩
end
section
def mixN (l : List Tier) (N : List Note) (i : Nat) : List Note := (N.take i).map (rankN l N) ++ N.drop i
theorem mixN_len (l : List Tier) (N : List Note) {i : Nat} (h : i ≤ N.length) : (mixN l N i).length = N.length := by
 unfold mixN
 rw [List.length_append, List.length_map, List.length_take, List.length_drop]; omega
theorem mixN_all (l : List Tier) (N : List Note) : mixN l N N.length = N.map (rankN l N) := by
 unfold mixN
 rw [List.take_length, List.drop_length, List.append_nil]
theorem mixN_at {l : List Tier} {N : List Note} {i : Nat} {x : Note} (h : N[i]? = some x) : (mixN l N i)[i]? = some x := by
 have hi := (List.getElem?_eq_some_iff.1 h).1
 unfold mixN
 rw [List.getElem?_append_right (by rw [List.length_map, List.length_take]; omega), List.length_map, List.length_take, List.getElem?_drop]
 rw [show i + (i - min i N.length) = i by omega]; exact h
theorem mixN_set {l : List Tier} {N : List Note} {i : Nat} {x : Note} (h : N[i]? = some x) : (mixN l N i).set i (rankN l N x) = mixN l N (i + 1) := by
 obtain ⟨hi, rfl⟩ := List.getElem?_eq_some_iff.1 h
 unfold mixN
 rw [List.set_append_right _ _ (by rw [List.length_map, List.length_take]; omega), List.length_map, List.length_take, List.drop_eq_getElem_cons hi, show i - min i N.length = 0 by omega, List.set_cons_zero]
 rw [← List.take_append_getElem hi, List.map_append, List.append_assoc]; rfl
theorem mixN_same {l : List Tier} {N : List Note} {i : Nat} {x : Note} (h : N[i]? = some x) (hk : (tierOf l x).kind ≠ 3) : mixN l N i = mixN l N (i + 1) := by
 have h1 := mixN_set (l := l) h
 rw [rankN_n hk] at h1
 rw [← h1]
 obtain ⟨h2, h3⟩ := List.getElem?_eq_some_iff.1 (mixN_at (l := l) h)
 conv => lhs; rw [← List.set_getElem_self h2]
 rw [h3]
def cntK (N : List Note) (n : Note) (k : Nat) : Nat := (N.take k).countP fun x => sameP x n && befN x n
theorem cntK_len (N : List Note) (n : Note) (k : Nat) : cntK N n k ≤ k := by
 unfold cntK
 have h1 := List.countP_le_length (p := fun x => sameP x n && befN x n) (l := N.take k)
 rw [List.length_take] at h1
 omega
theorem cntK_succ {N : List Note} {n x : Note} {k : Nat} (h : N[k]? = some x) : cntK N n (k + 1) = cntK N n k + if (sameP x n && befN x n) = true then 1 else 0 := by
 unfold cntK
 rw [List.take_add_one, h, Option.toList, List.countP_append, List.countP_cons, List.countP_nil, Nat.zero_add]
theorem cntK_all {N : List Note} {n : Note} {k : Nat} (h : N.length ≤ k) : cntK N n k = rkN N n := by
 unfold cntK rkN
 rw [List.take_of_length_le h]
def insAt (S : List Note) (m : Note) (R : List Note) (k : Nat) : List Note := S.take k ++ m :: (S.drop k ++ R)
theorem insAt_len {S : List Note} {m : Note} {R : List Note} {k : Nat} (h : k ≤ S.length) : (insAt S m R k).length = S.length + 1 + R.length := by
 unfold insAt
 simp only [List.length_append, List.length_cons, List.length_take, List.length_drop]; omega
theorem insAt_k {S : List Note} {m : Note} {R : List Note} {k : Nat} (h : k ≤ S.length) : (insAt S m R k)[k]? = some m := by
 unfold insAt
 rw [List.getElem?_append_right (by rw [List.length_take]; omega), List.length_take, show k - min k S.length = 0 by omega]; rfl
theorem insAt_p {S : List Note} {m s : Note} {R : List Note} {k : Nat} (h : S[k]? = some s) : (insAt S m R (k + 1))[k]? = some s := by
 have hk := (List.getElem?_eq_some_iff.1 h).1
 unfold insAt
 rw [List.getElem?_append_left (by rw [List.length_take]; omega), List.getElem?_take, if_pos (by omega)]; exact h
theorem insAt_swap {S : List Note} {m s : Note} {R : List Note} {k : Nat} (h : S[k]? = some s) : ((insAt S m R (k + 1)).set (k + 1) s).set k m = insAt S m R k := by
 obtain ⟨hk, rfl⟩ := List.getElem?_eq_some_iff.1 h
 have e : (S.take k).length = k := by rw [List.length_take]; omega
 unfold insAt
 rw [← List.take_append_getElem hk, List.append_assoc]
 conv => rhs; rw [List.drop_eq_getElem_cons hk]
 generalize S.drop (k + 1) = b at *
 generalize S[k] = s at *
 generalize S.take k = a at *
 subst e
 rw [List.set_append_right _ _ (by omega), List.set_append_right _ _ (by omega), Nat.sub_self, show a.length + 1 - a.length = 1 by omega]; rfl
theorem insAt_0 (S : List Note) (m : Note) (R : List Note) : insAt S m R S.length = S ++ m :: R := by
 unfold insAt
 rw [List.take_length, List.drop_length]; rfl
theorem yR (m : Note) : ∀ (a b : List Note), (∀ x ∈ a, ¬ m.id < x.id) → (∀ x ∈ b, m.id < x.id) → insN m (a ++ b) = a ++ m :: b
 | [], [], _, _ => rfl
 | [], y :: b, _, hb => by
  show insN m (y :: b) = m :: y :: b
  rw [insN, if_pos (hb y List.mem_cons_self)]
 | x :: a, b, ha, hb => by
  show insN m (x :: (a ++ b)) = x :: (a ++ m :: b)
  rw [insN, if_neg (ha x List.mem_cons_self), yR m a b (fun y hy => ha y (List.mem_cons_of_mem _ hy)) hb]
theorem insAt_end {S : List Note} {m : Note} {R : List Note} {k : Nat} (hS : IncN S) (hb : ∀ x ∈ S.drop k, m.id < x.id) (ha : k = 0 ∨ ∃ j s, k = j + 1 ∧ S[j]? = some s ∧ ¬ m.id < s.id) : insAt S m R k = insN m S ++ R := by
 have hle : ∀ x ∈ S.take k, ¬ m.id < x.id := by
  rcases ha with rfl | ⟨j, s, rfl, hs, hn⟩
  ·intro x hx; cases hx
  ·obtain ⟨hj, rfl⟩ := List.getElem?_eq_some_iff.1 hs
   intro x hx
   rw [← List.take_append_getElem hj] at hx
   rcases List.mem_append.1 hx with q | q
   ·have hp : IncN (S.take j ++ S.drop j) := by rw [List.take_append_drop]; exact hS
    have := (List.pairwise_append.1 hp).2.2 x q S[j] (by rw [List.drop_eq_getElem_cons hj]; exact List.mem_cons_self)
    omega
   ·rw [List.mem_singleton] at q; rw [q]; exact hn
 have e := yR m (S.take k) (S.drop k) hle hb
 rw [List.take_append_drop] at e
 unfold insAt
 rw [e, List.append_assoc]; rfl
def sortI (M : List Note) (i : Nat) : List Note := sortN (M.take i)
theorem sortI_len (M : List Note) {i : Nat} (h : i ≤ M.length) : (sortI M i).length = i := by
 unfold sortI
 rw [(W9 _).length_eq, List.length_take]; omega
theorem sortI_succ {M : List Note} {i : Nat} {m : Note} (h : M[i]? = some m) : sortI M (i + 1) = insN m (sortI M i) := by
 unfold sortI sortN
 rw [List.take_add_one, h, Option.toList, List.foldl_append]; rfl
theorem sortI_inc {M : List Note} (h : M.Pairwise fun a b => a.id ≠ b.id) (i : Nat) : IncN (sortI M i) := sortN_inc (h.sublist (List.take_sublist i M))
theorem sortI_all (M : List Note) : sortI M M.length = sortN M := by unfold sortI; rw [List.take_length]
end
end Go.Proofs.YtcfkokllinkigaaGreatDoor
