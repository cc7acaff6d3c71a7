/- Plain facts for the laws Short, Order, Tree. -/
import Derived.Test.YtghbllbjjfjenaaC12
namespace Go.Proofs.Ytghbllbjjfjenaa
open Go.Ab
set_option linter.unusedSimpArgs false
set_option linter.unusedVariables false

theorem checkFrom_of {l : List Tier} (h : ∀ (k : Nat) (t : Tier), l[k]? = some t → one (l.take k) t = 0) : ∀ n i, checkFrom l n i = 0
  | 0, _ => rfl
  | n + 1, i => by
    rw [checkFrom]
    cases ht : l[i]? with
    | none => rfl
    | some t =>
      simp only []
      rw [if_neg (by rw [h i t ht]; simp)]
      exact checkFrom_of h n (i + 1)
theorem check_init {l : List Tier} (h : check l = 0) : check (l.take (l.length - 1)) = 0 := by
  have hl := check_len h
  unfold check
  rw [if_neg (by rw [List.length_take]; omega)]
  refine checkFrom_of (fun k t ht => ?_) _ _
  rw [List.getElem?_take] at ht
  split at ht
  · rename_i hk
    have := check_one h ht
    rwa [List.take_take, Nat.min_eq_left (by omega)]
  · cases ht

theorem one_timed {b : List Tier} {t p : Tier} (h : one b t = 0) (hk : t.kind ≠ 0) (hp : b[t.parent.toNat]? = some p) (ht : timed t.kind = true) : timed p.kind = true := by
  have hpar := one_parent h
  unfold one at h
  split at h
  · cases h
  split at h
  · cases h
  split at h
  · cases h
  split at h
  · cases h
  split at h
  · cases h
  split at h
  · cases h
  split at h
  · cases h
  · rename_i x p' hp'
    rw [hp] at hp'; injection hp' with hp'; subst hp'
    split at h
    · cases h
    · rename_i h2
      cases hq : timed p.kind with
      | true => rfl
      | false => exact absurd ⟨ht, hq⟩ h2

theorem path_step {l : List Tier} (hd : Down l) {i : Int} {t : Tier} (h0 : 0 ≤ i) (h : l[i.toNat]? = some t) : path l i = i :: path l t.parent := by
  have := (List.getElem?_eq_some_iff.1 h).1
  exact pathFrom_step hd h0 h (by omega)
theorem path_stop {l : List Tier} {i : Int} (h : i < 0 ∨ (l.length : Int) ≤ i) : path l i = [] := pathFrom_stop h
theorem get_in {l : List Tier} {i : Int} (h0 : 0 ≤ i) (h1 : i < l.length) : ∃ t, l[i.toNat]? = some t := ⟨l[i.toNat]'(by omega), by simp⟩
/-- By the way up. -/
theorem path_ind {l : List Tier} (hd : Down l) (p : Int → Prop) (stop : ∀ i, (i < 0 ∨ (l.length : Int) ≤ i) → p i) (step : ∀ (i : Int) (t : Tier), 0 ≤ i → i < l.length → l[i.toNat]? = some t → t.parent < i → p t.parent → p i) (i : Int) : p i := by
  have key : ∀ (N : Nat) (i : Int), i < N → p i := by
    intro N
    induction N with
    | zero => intro i h; exact stop i (.inl (by omega))
    | succ N ih =>
      intro i h
      by_cases h0 : i < 0 ∨ (l.length : Int) ≤ i
      · exact stop i h0
      · obtain ⟨t, ht⟩ := get_in (l := l) (i := i) (by omega) (by omega)
        have := hd _ _ ht
        exact step i t (by omega) (by omega) ht (by omega) (ih t.parent (by omega))
  exact key (i + 1).toNat i (by omega)
theorem path_range {l : List Tier} (hd : Down l) (i : Int) : ∀ x ∈ path l i, 0 ≤ x ∧ x < l.length ∧ x ≤ i := by
  refine path_ind hd (fun i => ∀ x ∈ path l i, 0 ≤ x ∧ x < l.length ∧ x ≤ i) (fun i h x hx => by rw [path_stop h] at hx; cases hx) (fun i t h0 h1 ht hlt ih x hx => ?_) i
  rw [path_step hd h0 ht] at hx
  rcases List.mem_cons.1 hx with rfl | hx
  · exact ⟨h0, h1, Int.le_refl _⟩
  · have := ih x hx; omega
theorem path_trans {l : List Tier} (hd : Down l) (i : Int) : ∀ j ∈ path l i, ∀ k ∈ path l j, k ∈ path l i := by
  refine path_ind hd (fun i => ∀ j ∈ path l i, ∀ k ∈ path l j, k ∈ path l i) (fun i h x hx => by rw [path_stop h] at hx; cases hx) (fun i t h0 h1 ht hlt ih j hj k hk => ?_) i
  rw [path_step hd h0 ht] at hj
  rcases List.mem_cons.1 hj with rfl | hj
  · exact hk
  · rw [path_step hd h0 ht]; exact List.mem_cons_of_mem _ (ih j hj k hk)
theorem aligned_up {l : List Tier} (h : check l = 0) (i : Int) (ha : alignedAt l i = true) : ∀ x ∈ path l i, alignedAt l x = true := by
  have hd := check_down h
  revert ha
  refine path_ind hd (fun i => alignedAt l i = true → ∀ x ∈ path l i, alignedAt l x = true) (fun i h _ x hx => by rw [path_stop h] at hx; cases hx) (fun i t h0 h1 ht hlt ih ha x hx => ?_) i
  rw [path_step hd h0 ht] at hx
  rcases List.mem_cons.1 hx with rfl | hx
  · exact ha
  · refine ih ?_ x hx
    have h3 := check_one h ht
    have hpar := one_parent h3
    rw [List.length_take] at hpar
    have hat : timed t.kind = true := by
      have := ha; unfold alignedAt at this; rw [ht] at this; simpa [h0, h1] using this
    by_cases hk : t.kind = 0
    · exfalso
      have : path l t.parent = [] := path_stop (.inl (by omega))
      rw [this] at hx; cases hx
    · obtain ⟨p, hp⟩ := get_in (l := l) (i := t.parent) (by omega) (by omega)
      have hp' : (l.take i.toNat)[t.parent.toNat]? = some p := by rw [List.getElem?_take, if_pos (by omega)]; exact hp
      have := one_timed h3 hk hp' hat
      unfold alignedAt; rw [hp]; simp [this]; omega

theorem above_iff (l : List Tier) (i j : Int) : above l i j = true ↔ i ≠ j ∧ j ∈ path l i := by
  unfold above
  by_cases h : i = j
  · simp [h]
  · simp only [h, if_false, anyFrom, List.any_eq_true, ne_eq, not_false_eq_true, true_and]
    constructor
    · rintro ⟨x, hx, e⟩; simp only [decide_eq_true_eq] at e; exact e ▸ hx
    · intro hx; exact ⟨j, hx, by simp⟩
theorem above_lt {l : List Tier} (hd : Down l) {i j : Int} (h : above l i j = true) : j < i := by
  obtain ⟨h1, h2⟩ := (above_iff l i j).1 h
  have := path_range hd i j h2; omega
theorem above_trans {l : List Tier} (hd : Down l) {i j k : Int} (h : above l i j = true) (g : above l j k = true) : above l i k = true := by
  have h1 := above_lt hd h
  have h2 := above_lt hd g
  exact (above_iff l i k).2 ⟨by omega, path_trans hd i j ((above_iff l i j).1 h).2 k ((above_iff l j k).1 g).2⟩

theorem kidsFrom_mem (i : Int) : ∀ (l : List Tier) (k : Nat) (c : Int), c ∈ kidsFrom i k l ↔ ∃ (j : Nat) (t : Tier), c = k + j ∧ l[j]? = some t ∧ t.parent = i
  | [], k, c => by simp [kidsFrom]
  | t :: r, k, c => by
    rw [kidsFrom]
    have ih := kidsFrom_mem i r (k + 1) c
    have e : (∃ (j : Nat) (u : Tier), c = k + j ∧ (t :: r)[j]? = some u ∧ u.parent = i) ↔ (c = k ∧ t.parent = i) ∨ ∃ (j : Nat) (u : Tier), c = (k + 1 : Nat) + j ∧ r[j]? = some u ∧ u.parent = i := by
      constructor
      · rintro ⟨j, u, h1, h2, h3⟩
        cases j with
        | zero => simp at h2; subst h2; exact .inl ⟨by omega, h3⟩
        | succ j => exact .inr ⟨j, u, by omega, by simpa using h2, h3⟩
      · rintro (⟨h1, h2⟩ | ⟨j, u, h1, h2, h3⟩)
        · exact ⟨0, t, by omega, rfl, h2⟩
        · exact ⟨j + 1, u, by omega, by simpa using h2, h3⟩
    rw [e, ← ih]
    split
    · rename_i h; simp [h]
    · rename_i h; simp [h]
theorem kidsFrom_sorted (i : Int) : ∀ (l : List Tier) (k : Nat), (kidsFrom i k l).Pairwise (· < ·)
  | [], _ => List.Pairwise.nil
  | t :: r, k => by
    rw [kidsFrom]
    split
    · refine List.Pairwise.cons (fun c hc => ?_) (kidsFrom_sorted i r (k + 1))
      obtain ⟨j, u, h1, _, _⟩ := (kidsFrom_mem i r (k + 1) c).1 hc
      omega
    · exact kidsFrom_sorted i r (k + 1)
theorem kids_mem {l : List Tier} {i : Int} (h0 : 0 ≤ i) (h1 : i < l.length) (c : Int) : c ∈ kids l i ↔ 0 ≤ c ∧ ∃ t, l[c.toNat]? = some t ∧ t.parent = i := by
  unfold kids
  rw [if_neg (by omega), kidsFrom_mem]
  constructor
  · rintro ⟨j, t, e, h2, h3⟩
    obtain rfl : c.toNat = j := by omega
    exact ⟨by omega, t, h2, h3⟩
  · rintro ⟨hc, t, h2, h3⟩
    exact ⟨c.toNat, t, by omega, h2, h3⟩
theorem kids_sorted (l : List Tier) (i : Int) : (kids l i).Pairwise (· < ·) := by
  unfold kids; split
  · exact List.Pairwise.nil
  · exact kidsFrom_sorted i l 0

/-- How often the tier c has been counted, before the kids of i from the k-th on. -/
def timesAt (l : List Tier) (i : Int) (k : Nat) (c : Nat) : Int :=
  match l[c]? with
  | some t => if 0 ≤ t.parent ∧ (t.parent < i ∨ (c : Int) ∈ (kids l i).take k) then 1 else 0
  | none => 0
theorem timesAt_step {l : List Tier} (hd : Down l) {i : Int} {k : Nat} {c : Int} (h0 : 0 ≤ i) (h1 : i < l.length) (hc : (kids l i)[k]? = some c) (d : Nat) (hdl : d < l.length) :
    timesAt l i (k + 1) d = if (d : Int) = c then timesAt l i k d + 1 else timesAt l i k d := by
  have hk := (List.getElem?_eq_some_iff.1 hc).1
  have hmem := (kids_mem h0 h1 c).1 (List.mem_of_getElem? hc)
  obtain ⟨hc0, t, ht, htp⟩ := hmem
  have hs := kids_sorted l i
  have hnot : c ∉ (kids l i).take k := by
    intro hm
    obtain ⟨j, hj⟩ := List.getElem?_of_mem hm
    rw [List.getElem?_take] at hj
    split at hj
    · rename_i hjk
      have e1 := (List.getElem?_eq_some_iff.1 hj)
      have e2 := (List.getElem?_eq_some_iff.1 hc)
      have := List.pairwise_iff_getElem.1 hs j k e1.1 e2.1 hjk
      rw [e1.2, e2.2] at this; omega
    · cases hj
  have htk : (kids l i).take (k + 1) = (kids l i).take k ++ [c] := by
    obtain ⟨h3, h4⟩ := List.getElem?_eq_some_iff.1 hc
    rw [List.take_succ_eq_append_getElem h3, h4]
  unfold timesAt
  obtain ⟨u, hu⟩ : ∃ u, l[d]? = some u := ⟨l[d], by simp [hdl]⟩
  simp only [hu, htk, List.mem_append, List.mem_singleton]
  by_cases e : (d : Int) = c
  · have : c.toNat = d := by omega
    rw [this, hu] at ht; injection ht with ht; subst ht
    rw [if_pos e, if_pos ⟨by omega, .inr (.inr e)⟩, if_neg]
    · rfl
    · rintro ⟨_, h | h⟩
      · omega
      · exact hnot (e ▸ h)
  · rw [if_neg e]
    simp [e]
theorem timesAt_next {l : List Tier} (hd : Down l) {i : Int} {k : Nat} (h0 : 0 ≤ i) (h1 : i < l.length) (hk : (kids l i).length ≤ k) (d : Nat) : timesAt l (i + 1) 0 d = timesAt l i k d := by
  unfold timesAt
  cases hu : l[d]? with
  | none => rfl
  | some u =>
    simp only [List.take_zero, List.not_mem_nil, or_false]
    have e : (d : Int) ∈ (kids l i).take k ↔ u.parent = i := by
      rw [List.take_of_length_le hk, kids_mem h0 h1]
      constructor
      · rintro ⟨_, t, h2, h3⟩
        rw [show (d : Int).toNat = d by omega, hu] at h2; injection h2 with h2; subst h2; exact h3
      · intro h; exact ⟨by omega, u, by simpa using hu, h⟩
    simp only [e]
    by_cases h2 : 0 ≤ u.parent ∧ u.parent < i + 1
    · rw [if_pos h2, if_pos ⟨h2.1, by omega⟩]
    · rw [if_neg h2, if_neg (by omega)]
theorem decide_eq_true_or_false (p : Prop) [Decidable p] : decide p = true ∨ decide p = false := by
  cases decide p
  · exact .inr rfl
  · exact .inl rfl
end Go.Proofs.Ytghbllbjjfjenaa
