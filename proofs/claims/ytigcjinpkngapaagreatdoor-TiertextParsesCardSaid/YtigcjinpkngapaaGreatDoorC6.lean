/- A logic of trees over the model's steps, and the contracts of the functions that the laws reach: part 6 of 20. -/
import Derived.Test.YtigcjinpkngapaaGreatDoorC5
set_option linter.unusedVariables false
set_option linter.unusedSimpArgs false
set_option linter.unusedSectionVars false
section
namespace Go.Ac
def tailOkR : Nat → List Oper → Bool
  | _, [] => true
  | i, o :: r => hasE o.after.toList (i - 1) && (o.after.toList.all fun e => !(Region.binds .any e) || Nat.blt e.on i) && tailOkR (i + 1) r
def tailOk2 : Nat → List Oper → Bool
  | _, [] => true
  | i, o :: r => (List.range i).all (hasE o.after.toList) && (o.after.toList.all fun e => !(Region.binds .any e) || Nat.blt e.on i) && tailOkR (i + 1) r
theorem tailOkR_get : ∀ {l : List Oper} {i k : Nat} {o : Oper}, tailOkR i l = true → l[k]? = some o → hasE o.after.toList (i + k - 1) = true ∧ ∀ e ∈ o.after.toList, Region.binds .any e = true → e.on < i + k
  | [], _, k, o, _, h => by simp at h
  | o0 :: r, i, k, o, ht, h => by
    simp only [tailOkR, Bool.and_eq_true] at ht
    obtain ⟨⟨h1, h2⟩, h3⟩ := ht
    cases k with
    | zero =>
      simp at h; subst h
      refine ⟨h1, fun e he hb => ?_⟩
      have := List.all_eq_true.1 h2 e he
      simp only [hb, Bool.not_true, Bool.false_or] at this
      simpa using blt_lt this
    | succ k =>
      have := tailOkR_get h3 (by simpa using h)
      rw [show i + 1 + k = i + (k + 1) by omega] at this
      exact this
theorem tailOk2_get {l : List Oper} {i k : Nat} {o : Oper} (ht : tailOk2 i l = true) (h : l[k]? = some o) : ((k = 0 → ∀ m, m < i → hasE o.after.toList m = true) ∧ (k ≠ 0 → hasE o.after.toList (i + k - 1) = true)) ∧ ∀ e ∈ o.after.toList, Region.binds .any e = true → e.on < i + k := by
  cases l with
  | nil => simp at h
  | cons o0 r =>
    simp only [tailOk2, Bool.and_eq_true] at ht
    obtain ⟨⟨h1, h2⟩, h3⟩ := ht
    cases k with
    | zero =>
      simp at h; subst h
      refine ⟨⟨fun _ m hm => List.all_eq_true.1 h1 m (by simpa using hm), fun e => absurd rfl e⟩, fun e he hb => ?_⟩
      have := List.all_eq_true.1 h2 e he
      simp only [hb, Bool.not_true, Bool.false_or] at this
      simpa using blt_lt this
    | succ k =>
      have := tailOkR_get h3 (by simpa using h)
      rw [show i + 1 + k = i + (k + 1) by omega] at this
      exact ⟨⟨fun e => by omega, fun _ => this.1⟩, this.2⟩
section
variable {F : Fence} {n : Nat} {P : Program} {Q : Exit → Act → World → Prop} {l1 l2 : List Oper}
theorem tail_run2 (ht : tailOk2 l1.length l2 = true) : ∀ (d k : Nat), d + k = l2.length → ∀ (listed : Array Bool) (a : Act) (w : World), listed.size = (l1 ++ l2).length →
    (∀ i, i < l1.length + k → listed.getD i false = true) → (∀ i, l1.length + k ≤ i → i < (l1 ++ l2).length → listed.getD i false = false) →
    wpListIn F n P (l1 ++ l2).toArray Q (l2.drop k) a w → ∀ fuel, d ≤ fuel → wpAnyIn F n P .any (l1 ++ l2).toArray Q fuel listed a w := by
  intro d
  induction d with
  | zero =>
    intro k hk listed a w hsz h1 h2 h fuel _
    rw [List.drop_of_length_le (by omega)] at h
    have hr : Region.ready .any (l1 ++ l2).toArray listed = [] := by
      cases hq : Region.ready .any (l1 ++ l2).toArray listed with
      | nil => rfl
      | cons i r =>
        have hi : i ∈ Region.ready .any (l1 ++ l2).toArray listed := by rw [hq]; exact List.mem_cons_self ..
        rw [mem_ready] at hi
        obtain ⟨h0, o, ho, _⟩ := hi
        have hil : i < (l1 ++ l2).length := by have := (Array.getElem?_eq_some_iff.1 ho).1; simpa using this
        rw [getD_tf (by omega), h1 i (by simp at hil; omega)] at h0
        cases h0
    cases fuel with
    | zero => exact ⟨hr, h⟩
    | succ f => exact ⟨fun _ => h, fun i hi => by rw [hr] at hi; cases hi⟩
  | succ d ih =>
    intro k hk listed a w hsz h1 h2 h fuel hf
    obtain ⟨f, rfl⟩ : ∃ f, fuel = f + 1 := ⟨fuel - 1, by omega⟩
    obtain ⟨o, ho⟩ : ∃ o, l2[k]? = some o := ⟨_, List.getElem?_eq_getElem (by omega)⟩
    have hgo : (l1 ++ l2).toArray[l1.length + k]? = some o := by rw [List.getElem?_toArray, List.getElem?_append_right (Nat.le_add_right _ _), Nat.add_sub_cancel_left]; exact ho
    have hlt : l1.length + k < (l1 ++ l2).length := by simp; omega
    obtain ⟨t1, t2⟩ := tailOk2_get ht ho
    have hme : l1.length + k ∈ Region.ready .any (l1 ++ l2).toArray listed := by
      rw [mem_ready]
      exact ⟨by rw [getD_tf (by omega)]; exact h2 _ (Nat.le_refl _) hlt, o, hgo, fun e he hb => h1 _ (t2 e (by simpa using he) hb)⟩
    refine ⟨fun hr => (by rw [hr] at hme; cases hme), fun i hi => ?_⟩
    have hii : i = l1.length + k := by
      rw [mem_ready] at hi
      obtain ⟨h0, o', ho', haft⟩ := hi
      have hil : i < (l1 ++ l2).length := by have := (Array.getElem?_eq_some_iff.1 ho').1; simpa using this
      rw [getD_tf (by omega)] at h0
      rcases Nat.lt_trichotomy i (l1.length + k) with g | g | g
      · rw [h1 i g] at h0; cases h0
      · exact g
      · obtain ⟨j, rfl⟩ : ∃ j, i = l1.length + j := ⟨i - l1.length, by omega⟩
        have ho2 : l2[j]? = some o' := by rw [List.getElem?_toArray, List.getElem?_append_right (Nat.le_add_right _ _), Nat.add_sub_cancel_left] at ho'; exact ho'
        obtain ⟨e, he, hb, hon⟩ := hasE_spec ((tailOk2_get ht ho2).1.2 (by omega))
        have := haft e (by simpa using he) hb
        rw [hon, h2 _ (by omega) (by omega)] at this
        cases this
    subst hii
    unfold wpOpIn
    simp only [hgo]
    have hd : l2.drop k = o :: l2.drop (k + 1) := by
      obtain ⟨hl, rfl⟩ := List.getElem?_eq_some_iff.1 ho
      exact List.drop_eq_getElem_cons hl
    rw [hd] at h
    have next : ∀ a w, wpListIn F n P (l1 ++ l2).toArray Q (l2.drop (k + 1)) a w → wpAnyIn F n P .any (l1 ++ l2).toArray Q f (listed.setIfInBounds (l1.length + k) true) a w := by
      intro a w h
      refine ih (k + 1) (by omega) _ a w (by simpa using hsz) (fun i hi => ?_) (fun i hi hil => ?_) h f (by omega)
      · by_cases e : l1.length + k = i
        · subst e; simp [Array.getD_eq_getD_getElem?, hsz, hlt]; omega
        · rw [getD_set_ne false e]; exact h1 i (by omega)
      · rw [getD_set_ne false (by omega)]; exact h2 i (by omega) hil
    simp only [wpListIn] at h
    split at h
    · rename_i hw
      rw [if_pos hw]
      exact Oper.wpIn_mono next h
    · rename_i hw
      rw [if_neg hw]
      exact ⟨h.1, next _ _ h.2⟩
theorem body_run2 {N : Nat} (ht : tailOk2 l1.length l2 = true) (hg : gdOk l1.length l1 = true) (hk : drawOk N 0 [] l1 = true) {Qt : Exit → Act → World → Prop} (hq : ∀ e a w, e ≠ .normal → Qt e a w → Q e a w)
    (hn : ∀ a w, Qt .normal a w → wpListIn F n P (l1 ++ l2).toArray Q l2 a w) : ∀ (fuel1 : Nat) (listed1 listed : Array Bool) (a : Act) (w : World), listed1.size = l1.length → listed.size = (l1 ++ l2).length →
      (∀ i, i < l1.length → listed.getD i false = listed1.getD i false) → (∀ i, l1.length ≤ i → i < (l1 ++ l2).length → listed.getD i false = false) →
      wpAnyIn F n P .any l1.toArray Qt fuel1 listed1 a w → ∀ fuel, fuel1 + l2.length ≤ fuel → wpAnyIn F n P .any (l1 ++ l2).toArray Q fuel listed a w := by
  have back : ∀ (i : Nat) (o : Oper), l1[i]? = some o → ∀ e ∈ o.after.toList, Region.binds .any e = true → e.on < i := fun i o ho e he hb => by
    have := (drawOk_spec hk i o ho).2 e (by simpa using he) hb
    omega
  intro fuel1
  induction fuel1 with
  | zero =>
    intro listed1 listed a w hs1 hs heq hfa h fuel hf
    have all : ∀ i, i < l1.length → listed1.getD i false = true := by
      intro i
      induction i using Nat.strongRecOn with
      | _ i ih =>
        intro hi
        cases hl : listed1.getD i false with
        | true => rfl
        | false =>
          have : i ∈ Region.ready .any l1.toArray listed1 := by
            rw [mem_ready]
            refine ⟨by rw [getD_tf (by omega)]; exact hl, l1[i], by simp [hi], fun e he hb => ?_⟩
            have := back i _ (List.getElem?_eq_getElem hi) e (by simpa using he) hb
            exact ih e.on this (by omega)
          rw [h.1] at this; cases this
    exact tail_run2 ht l2.length 0 (by omega) listed a w hs (fun i hi => by rw [heq i (by omega)]; exact all i (by omega)) (fun i hi hil => hfa i (by omega) hil) (hn a w h.2) fuel (by omega)
  | succ f1 ih =>
    intro listed1 listed a w hs1 hs heq hfa h fuel hf
    by_cases hr : Region.ready .any l1.toArray listed1 = []
    · have all : ∀ i, i < l1.length → listed1.getD i false = true := by
        intro i
        induction i using Nat.strongRecOn with
        | _ i ih =>
          intro hi
          cases hl : listed1.getD i false with
          | true => rfl
          | false =>
            have : i ∈ Region.ready .any l1.toArray listed1 := by
              rw [mem_ready]
              refine ⟨by rw [getD_tf (by omega)]; exact hl, l1[i], by simp [hi], fun e he hb => ?_⟩
              have := back i _ (List.getElem?_eq_getElem hi) e (by simpa using he) hb
              exact ih e.on this (by omega)
            rw [hr] at this; cases this
      exact tail_run2 ht l2.length 0 (by omega) listed a w hs (fun i hi => by rw [heq i (by omega)]; exact all i (by omega)) (fun i hi hil => hfa i (by omega) hil) (hn a w (h.1 hr)) fuel (by omega)
    · obtain ⟨f, rfl⟩ : ∃ f, fuel = f + 1 := ⟨fuel - 1, by omega⟩
      obtain ⟨i0, hi0⟩ := List.exists_mem_of_ne_nil _ hr
      have hi0' := hi0
      rw [mem_ready] at hi0'
      obtain ⟨z0, o0, zo, za⟩ := hi0'
      have hl0 : i0 < l1.length := by have := (Array.getElem?_eq_some_iff.1 zo).1; simpa using this
      rw [getD_tf (by omega)] at z0
      have up : ∀ i, i ∈ Region.ready .any (l1 ++ l2).toArray listed ↔ i ∈ Region.ready .any l1.toArray listed1 := by
        intro i
        rw [mem_ready, mem_ready]
        constructor
        · rintro ⟨h0, o, ho, haft⟩
          have hil : i < (l1 ++ l2).length := by have := (Array.getElem?_eq_some_iff.1 ho).1; simpa using this
          rw [getD_tf (by omega)] at h0
          rcases Nat.lt_or_ge i l1.length with g | g
          · have ho1 : l1[i]? = some o := by rw [List.getElem?_toArray, List.getElem?_append_left g] at ho; exact ho
            refine ⟨by rw [getD_tf (by omega), ← heq i g]; exact h0, o, by simpa using ho1, fun e he hb => ?_⟩
            have := back i o ho1 e (by simpa using he) hb
            rw [← heq _ (by omega)]; exact haft e he hb
          · exfalso
            obtain ⟨j, rfl⟩ : ∃ j, i = l1.length + j := ⟨i - l1.length, by omega⟩
            have ho2 : l2[j]? = some o := by rw [List.getElem?_toArray, List.getElem?_append_right (Nat.le_add_right _ _), Nat.add_sub_cancel_left] at ho; exact ho
            rcases Nat.eq_zero_or_pos j with hj0 | hj0
            · obtain ⟨e, he, hb, hon⟩ := hasE_spec ((tailOk2_get ht ho2).1.1 hj0 i0 (by omega))
              have := haft e (by simpa using he) hb
              rw [hon, heq i0 hl0, z0] at this
              cases this
            · obtain ⟨e, he, hb, hon⟩ := hasE_spec ((tailOk2_get ht ho2).1.2 (by omega))
              have := haft e (by simpa using he) hb
              rw [hon, hfa _ (by omega) (by omega)] at this
              cases this
        · rintro ⟨h0, o, ho, haft⟩
          have g : i < l1.length := by have := (Array.getElem?_eq_some_iff.1 ho).1; simpa using this
          have ho1 : l1[i]? = some o := by simpa using ho
          rw [getD_tf (by omega)] at h0
          refine ⟨by rw [getD_tf (by simp at hs; omega), heq i g]; exact h0, o, by rw [List.getElem?_toArray, List.getElem?_append_left g]; exact ho1, fun e he hb => ?_⟩
          have := back i o ho1 e (by simpa using he) hb
          rw [heq _ (by omega)]; exact haft e he hb
      refine ⟨fun hr2 => ?_, fun i hi => ?_⟩
      · have := (up i0).2 hi0
        rw [hr2] at this; cases this
      · have hi1 := (up i).1 hi
        have hw := h.2 i hi1
        rw [mem_ready] at hi1
        obtain ⟨h0, o, ho, haft⟩ := hi1
        have g : i < l1.length := by have := (Array.getElem?_eq_some_iff.1 ho).1; simpa using this
        have ho1 : l1[i]? = some o := by simpa using ho
        have hoc : (l1 ++ l2).toArray[i]? = some o := by rw [List.getElem?_toArray, List.getElem?_append_left g]; exact ho1
        unfold wpOpIn at hw ⊢
        simp only [ho, hoc] at hw ⊢
        have hwant : Region.wanted o (yielded (l1 ++ l2).toArray a.tmps) = Region.wanted o (yielded l1.toArray a.tmps) := by
          unfold Region.wanted
          have hgo := List.all_eq_true.1 hg o (List.mem_of_getElem? ho1)
          split
          · rfl
          · rename_i j want he
            rw [he] at hgo
            have hj := blt_lt hgo
            have : yielded (l1 ++ l2).toArray a.tmps j = yielded l1.toArray a.tmps j := by
              unfold yielded
              rw [List.getElem?_toArray, List.getElem?_toArray, List.getElem?_append_left hj]
            rw [this]
        rw [hwant]
        have next : ∀ a w, wpAnyIn F n P .any l1.toArray Qt f1 (listed1.setIfInBounds i true) a w → wpAnyIn F n P .any (l1 ++ l2).toArray Q f (listed.setIfInBounds i true) a w := by
          intro a w h
          refine ih _ _ a w (by simpa using hs1) (by simpa using hs) (fun j hj => ?_) (fun j hj hjl => ?_) h f (by omega)
          · by_cases e : i = j
            · subst e
              have : i < listed.size := by simp at hs; omega
              simp [Array.getD_eq_getD_getElem?, hs1, g, this]
            · rw [getD_set_ne false e, getD_set_ne false e]; exact heq j hj
          · rw [getD_set_ne false (by omega)]; exact hfa j hj hjl
        split at hw
        · rename_i hq2
          rw [if_pos hq2]
          exact wpIn_monoN hq next hw
        · rename_i hq2
          rw [if_neg hq2]
          exact ⟨hw.1, next _ _ hw.2⟩
end
section
variable {P : Program} {td : TDs} [T : TOK P td] {G : Glo} {N : Nat} {Q : AQ} {S Sb : SL} {L : List LB} {l l1 l2 : List Oper}
theorem awp_drawT2 (n : Nat) {id : Nat} {ds : List Nat} (h1 : l.take n = l1) (h2 : l.drop n = l2) (hm : P.follows .mixedOrders = true) (hk : drawOk N 0 [] l1 = true) (ht : tailOk2 l1.length l2 = true) (hg : gdOk l1.length l1 = true) (hds : dsts l1 = ds) (hS : Strip ds S Sb)
    (h : awpD P G N (fun S' L' => awpL P G N l.toArray l2 Q S' L') Sb L.length l1 [] ⟨L, [], [], false⟩) : awp P G N (.region id l.toArray true) Q S L := by
  have hl : l = l1 ++ l2 := by rw [← h1, ← h2, List.take_append_drop]
  subst hl
  clear h1 h2
  have hb : (Sb.all fun p => !(l1.any fun o => match o.dst with | some d => Nat.beq d p.1 | none => false)) = true := by
    rw [List.all_eq_true]
    rintro ⟨t, x⟩ hp
    have hm := strip_keep hS t x hp
    rw [Bool.not_eq_true', List.any_eq_false]
    intro o ho
    cases hd : o.dst with
    | none => simp
    | some d =>
      have hdm : d ∈ ds := by rw [← hds]; exact List.mem_filterMap.2 ⟨o, ho, hd⟩
      simp only [Bool.not_eq_true]
      cases he : Nat.beq d t with
      | false => rfl
      | true =>
        have := Nat.eq_of_beq_eq_true he
        subst this
        rw [memN_of hdm] at hm; cases hm
  intro cx a hc
  refine wpIn_region_any hm ?_
  have hA := draw_any (Q := thenQ (fun S' L' => awpL P G N (l1 ++ l2).toArray l2 Q S' L') Q) hk (fun t x hx => (hS.get t x hx).1) hb h cx a hc
  refine body_run2 ht hg hk (Qt := conc G N (thenQ (fun S' L' => awpL P G N (l1 ++ l2).toArray l2 Q S' L') Q) cx) (fun e a w hne q => ?_) (fun a w q => ?_) _ _ _ _ _ (by simp) (by simp) (fun i hi => ?_) (fun i hi hil => ?_) hA _ (by simp)
  · obtain ⟨S', L', c', q1, q2, q3, q4⟩ := q
    refine ⟨S', L', c', ?_, q2, q3, q4⟩
    cases e with
    | normal => exact absurd rfl hne
    | _ => exact q1
  · obtain ⟨S', L', c', q1, q2, q3, q4⟩ := q
    subst q4
    exact wpListIn_mono (fun e a w r => r.trans q3) _ _ _ (q1 c' a q2)
  · have hi2 : i < l1.length + l2.length := by omega
    simp [Array.getD_eq_getD_getElem?, hi, hi2]
  · simp at hil
    simp [Array.getD_eq_getD_getElem?, hil]
end
end Go.Ac
end
section
namespace Go.Ac
def reachE (l : List Oper) : Nat → List Edge → Nat → Bool
  | 0, x, m => hasE x m
  | f + 1, x, m => hasE x m || (List.range l.length).any fun j => hasE x j && (match l[j]? with | some o => reachE l f o.after.toList m | none => false)
def tailOk3 (l1 : List Oper) : Nat → List Oper → Bool
  | _, [] => true
  | i, o :: r => (List.range i).all (reachE l1 l1.length o.after.toList) && (o.after.toList.all fun e => !(Region.binds .any e) || Nat.blt e.on i) && tailOkR (i + 1) r
theorem reach_done {l : List Oper} {listed : Array Bool} (hcl : ∀ (i : Nat) (o : Oper), l[i]? = some o → listed.getD i false = true → ∀ e ∈ o.after.toList, Region.binds .any e = true → listed.getD e.on false = true) :
    ∀ (f : Nat) (x : List Edge) (m : Nat), (∀ e ∈ x, Region.binds .any e = true → listed.getD e.on false = true) → reachE l f x m = true → listed.getD m false = true
  | 0, x, m, hx, h => by
    simp only [reachE] at h
    obtain ⟨e, he, hb, rfl⟩ := hasE_spec h
    exact hx e he hb
  | f + 1, x, m, hx, h => by
    simp only [reachE, Bool.or_eq_true, List.any_eq_true, Bool.and_eq_true] at h
    rcases h with h | ⟨j, _, h1, h2⟩
    · obtain ⟨e, he, hb, rfl⟩ := hasE_spec h
      exact hx e he hb
    · obtain ⟨e, he, hb, rfl⟩ := hasE_spec h1
      cases ho : l[e.on]? with
      | none => rw [ho] at h2; cases h2
      | some o =>
        rw [ho] at h2
        exact reach_done hcl f o.after.toList m (hcl e.on o ho (hx e he hb)) h2
theorem tailOk3_get {l1 l : List Oper} {i k : Nat} {o : Oper} (ht : tailOk3 l1 i l = true) (h : l[k]? = some o) : ((k = 0 → ∀ m, m < i → reachE l1 l1.length o.after.toList m = true) ∧ (k ≠ 0 → hasE o.after.toList (i + k - 1) = true)) ∧ ∀ e ∈ o.after.toList, Region.binds .any e = true → e.on < i + k := by
  cases l with
  | nil => simp at h
  | cons o0 r =>
    simp only [tailOk3, Bool.and_eq_true] at ht
    obtain ⟨⟨h1, h2⟩, h3⟩ := ht
    cases k with
    | zero =>
      simp at h; subst h
      refine ⟨⟨fun _ m hm => List.all_eq_true.1 h1 m (by simpa using hm), fun e => absurd rfl e⟩, fun e he hb => ?_⟩
      have := List.all_eq_true.1 h2 e he
      simp only [hb, Bool.not_true, Bool.false_or] at this
      simpa using blt_lt this
    | succ k =>
      have := tailOkR_get h3 (by simpa using h)
      rw [show i + 1 + k = i + (k + 1) by omega] at this
      exact ⟨⟨fun e => by omega, fun _ => this.1⟩, this.2⟩
section
variable {F : Fence} {n : Nat} {P : Program} {Q : Exit → Act → World → Prop} {l1 l2 : List Oper}
theorem tail_run3 (ht : tailOk3 l1 l1.length l2 = true) : ∀ (d k : Nat), d + k = l2.length → ∀ (listed : Array Bool) (a : Act) (w : World), listed.size = (l1 ++ l2).length →
    (∀ i, i < l1.length + k → listed.getD i false = true) → (∀ i, l1.length + k ≤ i → i < (l1 ++ l2).length → listed.getD i false = false) →
    wpListIn F n P (l1 ++ l2).toArray Q (l2.drop k) a w → ∀ fuel, d ≤ fuel → wpAnyIn F n P .any (l1 ++ l2).toArray Q fuel listed a w := by
  intro d
  induction d with
  | zero =>
    intro k hk listed a w hsz h1 h2 h fuel _
    rw [List.drop_of_length_le (by omega)] at h
    have hr : Region.ready .any (l1 ++ l2).toArray listed = [] := by
      cases hq : Region.ready .any (l1 ++ l2).toArray listed with
      | nil => rfl
      | cons i r =>
        have hi : i ∈ Region.ready .any (l1 ++ l2).toArray listed := by rw [hq]; exact List.mem_cons_self ..
        rw [mem_ready] at hi
        obtain ⟨h0, o, ho, _⟩ := hi
        have hil : i < (l1 ++ l2).length := by have := (Array.getElem?_eq_some_iff.1 ho).1; simpa using this
        rw [getD_tf (by omega), h1 i (by simp at hil; omega)] at h0
        cases h0
    cases fuel with
    | zero => exact ⟨hr, h⟩
    | succ f => exact ⟨fun _ => h, fun i hi => by rw [hr] at hi; cases hi⟩
  | succ d ih =>
    intro k hk listed a w hsz h1 h2 h fuel hf
    obtain ⟨f, rfl⟩ : ∃ f, fuel = f + 1 := ⟨fuel - 1, by omega⟩
    obtain ⟨o, ho⟩ : ∃ o, l2[k]? = some o := ⟨_, List.getElem?_eq_getElem (by omega)⟩
    have hgo : (l1 ++ l2).toArray[l1.length + k]? = some o := by rw [List.getElem?_toArray, List.getElem?_append_right (Nat.le_add_right _ _), Nat.add_sub_cancel_left]; exact ho
    have hlt : l1.length + k < (l1 ++ l2).length := by simp; omega
    obtain ⟨t1, t2⟩ := tailOk3_get ht ho
    have hme : l1.length + k ∈ Region.ready .any (l1 ++ l2).toArray listed := by
      rw [mem_ready]
      exact ⟨by rw [getD_tf (by omega)]; exact h2 _ (Nat.le_refl _) hlt, o, hgo, fun e he hb => h1 _ (t2 e (by simpa using he) hb)⟩
    refine ⟨fun hr => (by rw [hr] at hme; cases hme), fun i hi => ?_⟩
    have hii : i = l1.length + k := by
      rw [mem_ready] at hi
      obtain ⟨h0, o', ho', haft⟩ := hi
      have hil : i < (l1 ++ l2).length := by have := (Array.getElem?_eq_some_iff.1 ho').1; simpa using this
      rw [getD_tf (by omega)] at h0
      rcases Nat.lt_trichotomy i (l1.length + k) with g | g | g
      · rw [h1 i g] at h0; cases h0
      · exact g
      · obtain ⟨j, rfl⟩ : ∃ j, i = l1.length + j := ⟨i - l1.length, by omega⟩
        have ho2 : l2[j]? = some o' := by rw [List.getElem?_toArray, List.getElem?_append_right (Nat.le_add_right _ _), Nat.add_sub_cancel_left] at ho'; exact ho'
        obtain ⟨e, he, hb, hon⟩ := hasE_spec ((tailOk3_get ht ho2).1.2 (by omega))
        have := haft e (by simpa using he) hb
        rw [hon, h2 _ (by omega) (by omega)] at this
        cases this
    subst hii
    unfold wpOpIn
    simp only [hgo]
    have hd : l2.drop k = o :: l2.drop (k + 1) := by
      obtain ⟨hl, rfl⟩ := List.getElem?_eq_some_iff.1 ho
      exact List.drop_eq_getElem_cons hl
    rw [hd] at h
    have next : ∀ a w, wpListIn F n P (l1 ++ l2).toArray Q (l2.drop (k + 1)) a w → wpAnyIn F n P .any (l1 ++ l2).toArray Q f (listed.setIfInBounds (l1.length + k) true) a w := by
      intro a w h
      refine ih (k + 1) (by omega) _ a w (by simpa using hsz) (fun i hi => ?_) (fun i hi hil => ?_) h f (by omega)
      · by_cases e : l1.length + k = i
        · subst e; simp [Array.getD_eq_getD_getElem?, hsz, hlt]; omega
        · rw [getD_set_ne false e]; exact h1 i (by omega)
      · rw [getD_set_ne false (by omega)]; exact h2 i (by omega) hil
    simp only [wpListIn] at h
    split at h
    · rename_i hw
      rw [if_pos hw]
      exact Oper.wpIn_mono next h
    · rename_i hw
      rw [if_neg hw]
      exact ⟨h.1, next _ _ h.2⟩
theorem body_run3 {N : Nat} (ht : tailOk3 l1 l1.length l2 = true) (hg : gdOk l1.length l1 = true) (hk : drawOk N 0 [] l1 = true) {Qt : Exit → Act → World → Prop} (hq : ∀ e a w, e ≠ .normal → Qt e a w → Q e a w)
    (hn : ∀ a w, Qt .normal a w → wpListIn F n P (l1 ++ l2).toArray Q l2 a w) : ∀ (fuel1 : Nat) (listed1 listed : Array Bool) (a : Act) (w : World), listed1.size = l1.length → listed.size = (l1 ++ l2).length →
      (∀ i, i < l1.length → listed.getD i false = listed1.getD i false) → (∀ i, l1.length ≤ i → i < (l1 ++ l2).length → listed.getD i false = false) →
      (∀ (i : Nat) (o : Oper), l1[i]? = some o → listed1.getD i false = true → ∀ e ∈ o.after.toList, Region.binds .any e = true → listed1.getD e.on false = true) →
      wpAnyIn F n P .any l1.toArray Qt fuel1 listed1 a w → ∀ fuel, fuel1 + l2.length ≤ fuel → wpAnyIn F n P .any (l1 ++ l2).toArray Q fuel listed a w := by
  have back : ∀ (i : Nat) (o : Oper), l1[i]? = some o → ∀ e ∈ o.after.toList, Region.binds .any e = true → e.on < i := fun i o ho e he hb => by
    have := (drawOk_spec hk i o ho).2 e (by simpa using he) hb
    omega
  intro fuel1
  induction fuel1 with
  | zero =>
    intro listed1 listed a w hs1 hs heq hfa hcl h fuel hf
    have all : ∀ i, i < l1.length → listed1.getD i false = true := by
      intro i
      induction i using Nat.strongRecOn with
      | _ i ih =>
        intro hi
        cases hl : listed1.getD i false with
        | true => rfl
        | false =>
          have : i ∈ Region.ready .any l1.toArray listed1 := by
            rw [mem_ready]
            refine ⟨by rw [getD_tf (by omega)]; exact hl, l1[i], by simp [hi], fun e he hb => ?_⟩
            have := back i _ (List.getElem?_eq_getElem hi) e (by simpa using he) hb
            exact ih e.on this (by omega)
          rw [h.1] at this; cases this
    exact tail_run3 ht l2.length 0 (by omega) listed a w hs (fun i hi => by rw [heq i (by omega)]; exact all i (by omega)) (fun i hi hil => hfa i (by omega) hil) (hn a w h.2) fuel (by omega)
  | succ f1 ih =>
    intro listed1 listed a w hs1 hs heq hfa hcl h fuel hf
    by_cases hr : Region.ready .any l1.toArray listed1 = []
    · have all : ∀ i, i < l1.length → listed1.getD i false = true := by
        intro i
        induction i using Nat.strongRecOn with
        | _ i ih =>
          intro hi
          cases hl : listed1.getD i false with
          | true => rfl
          | false =>
            have : i ∈ Region.ready .any l1.toArray listed1 := by
              rw [mem_ready]
              refine ⟨by rw [getD_tf (by omega)]; exact hl, l1[i], by simp [hi], fun e he hb => ?_⟩
              have := back i _ (List.getElem?_eq_getElem hi) e (by simpa using he) hb
              exact ih e.on this (by omega)
            rw [hr] at this; cases this
      exact tail_run3 ht l2.length 0 (by omega) listed a w hs (fun i hi => by rw [heq i (by omega)]; exact all i (by omega)) (fun i hi hil => hfa i (by omega) hil) (hn a w (h.1 hr)) fuel (by omega)
    · obtain ⟨f, rfl⟩ : ∃ f, fuel = f + 1 := ⟨fuel - 1, by omega⟩
      obtain ⟨i0, hi0⟩ := List.exists_mem_of_ne_nil _ hr
      have hi0' := hi0
      rw [mem_ready] at hi0'
      obtain ⟨z0, o0, zo, za⟩ := hi0'
      have hl0 : i0 < l1.length := by have := (Array.getElem?_eq_some_iff.1 zo).1; simpa using this
      rw [getD_tf (by omega)] at z0
      have up : ∀ i, i ∈ Region.ready .any (l1 ++ l2).toArray listed ↔ i ∈ Region.ready .any l1.toArray listed1 := by
        intro i
        rw [mem_ready, mem_ready]
        constructor
        · rintro ⟨h0, o, ho, haft⟩
          have hil : i < (l1 ++ l2).length := by have := (Array.getElem?_eq_some_iff.1 ho).1; simpa using this
          rw [getD_tf (by omega)] at h0
          rcases Nat.lt_or_ge i l1.length with g | g
          · have ho1 : l1[i]? = some o := by rw [List.getElem?_toArray, List.getElem?_append_left g] at ho; exact ho
            refine ⟨by rw [getD_tf (by omega), ← heq i g]; exact h0, o, by simpa using ho1, fun e he hb => ?_⟩
            have := back i o ho1 e (by simpa using he) hb
            rw [← heq _ (by omega)]; exact haft e he hb
          · exfalso
            obtain ⟨j, rfl⟩ : ∃ j, i = l1.length + j := ⟨i - l1.length, by omega⟩
            have ho2 : l2[j]? = some o := by rw [List.getElem?_toArray, List.getElem?_append_right (Nat.le_add_right _ _), Nat.add_sub_cancel_left] at ho; exact ho
            rcases Nat.eq_zero_or_pos j with hj0 | hj0
            · have hre := (tailOk3_get ht ho2).1.1 hj0 i0 (by omega)
              have := reach_done hcl l1.length o.after.toList i0 (fun e he hb => by
                have hlt := (tailOk3_get ht ho2).2 e he hb
                rw [← heq _ (by omega)]
                exact haft e (by simpa using he) hb) hre
              rw [z0] at this
              cases this
            · obtain ⟨e, he, hb, hon⟩ := hasE_spec ((tailOk3_get ht ho2).1.2 (by omega))
              have := haft e (by simpa using he) hb
              rw [hon, hfa _ (by omega) (by omega)] at this
              cases this
        · rintro ⟨h0, o, ho, haft⟩
          have g : i < l1.length := by have := (Array.getElem?_eq_some_iff.1 ho).1; simpa using this
          have ho1 : l1[i]? = some o := by simpa using ho
          rw [getD_tf (by omega)] at h0
          refine ⟨by rw [getD_tf (by simp at hs; omega), heq i g]; exact h0, o, by rw [List.getElem?_toArray, List.getElem?_append_left g]; exact ho1, fun e he hb => ?_⟩
          have := back i o ho1 e (by simpa using he) hb
          rw [heq _ (by omega)]; exact haft e he hb
      refine ⟨fun hr2 => ?_, fun i hi => ?_⟩
      · have := (up i0).2 hi0
        rw [hr2] at this; cases this
      · have hi1 := (up i).1 hi
        have hw := h.2 i hi1
        rw [mem_ready] at hi1
        obtain ⟨h0, o, ho, haft⟩ := hi1
        have g : i < l1.length := by have := (Array.getElem?_eq_some_iff.1 ho).1; simpa using this
        have ho1 : l1[i]? = some o := by simpa using ho
        have hoc : (l1 ++ l2).toArray[i]? = some o := by rw [List.getElem?_toArray, List.getElem?_append_left g]; exact ho1
        unfold wpOpIn at hw ⊢
        simp only [ho, hoc] at hw ⊢
        have hwant : Region.wanted o (yielded (l1 ++ l2).toArray a.tmps) = Region.wanted o (yielded l1.toArray a.tmps) := by
          unfold Region.wanted
          have hgo := List.all_eq_true.1 hg o (List.mem_of_getElem? ho1)
          split
          · rfl
          · rename_i j want he
            rw [he] at hgo
            have hj := blt_lt hgo
            have : yielded (l1 ++ l2).toArray a.tmps j = yielded l1.toArray a.tmps j := by
              unfold yielded
              rw [List.getElem?_toArray, List.getElem?_toArray, List.getElem?_append_left hj]
            rw [this]
        rw [hwant]
        have next : ∀ a w, wpAnyIn F n P .any l1.toArray Qt f1 (listed1.setIfInBounds i true) a w → wpAnyIn F n P .any (l1 ++ l2).toArray Q f (listed.setIfInBounds i true) a w := by
          intro a w h
          refine ih _ _ a w (by simpa using hs1) (by simpa using hs) (fun j hj => ?_) (fun j hj hjl => ?_) ?_ h f (by omega)
          · by_cases e : i = j
            · subst e
              have : i < listed.size := by simp at hs; omega
              simp [Array.getD_eq_getD_getElem?, hs1, g, this]
            · rw [getD_set_ne false e, getD_set_ne false e]; exact heq j hj
          · rw [getD_set_ne false (by omega)]; exact hfa j hj hjl
          · intro j o' ho' hl' e he hb
            have hback := back j o' ho' e he hb
            have hjl : j < l1.length := (List.getElem?_eq_some_iff.1 ho').1
            by_cases e1 : i = e.on
            · subst e1; simp [Array.getD_eq_getD_getElem?, hs1, g]
            · rw [getD_set_ne false e1]
              by_cases e2 : i = j
              · subst e2
                rw [ho1] at ho'
                cases ho'
                exact haft e (by simpa using he) hb
              · rw [getD_set_ne false e2] at hl'
                exact hcl j o' ho' hl' e he hb
        split at hw
        · rename_i hq2
          rw [if_pos hq2]
          exact wpIn_monoN hq next hw
        · rename_i hq2
          rw [if_neg hq2]
          exact ⟨hw.1, next _ _ hw.2⟩
end
section
variable {P : Program} {td : TDs} [T : TOK P td] {G : Glo} {N : Nat} {Q : AQ} {S Sb : SL} {L : List LB} {l l1 l2 : List Oper}
theorem awp_drawT3 (n : Nat) {id : Nat} {ds : List Nat} (h1 : l.take n = l1) (h2 : l.drop n = l2) (hm : P.follows .mixedOrders = true) (hk : drawOk N 0 [] l1 = true) (ht : tailOk3 l1 l1.length l2 = true) (hg : gdOk l1.length l1 = true) (hds : dsts l1 = ds) (hS : Strip ds S Sb)
    (h : awpD P G N (fun S' L' => awpL P G N l.toArray l2 Q S' L') Sb L.length l1 [] ⟨L, [], [], false⟩) : awp P G N (.region id l.toArray true) Q S L := by
  have hl : l = l1 ++ l2 := by rw [← h1, ← h2, List.take_append_drop]
  subst hl
  clear h1 h2
  have hb : (Sb.all fun p => !(l1.any fun o => match o.dst with | some d => Nat.beq d p.1 | none => false)) = true := by
    rw [List.all_eq_true]
    rintro ⟨t, x⟩ hp
    have hm := strip_keep hS t x hp
    rw [Bool.not_eq_true', List.any_eq_false]
    intro o ho
    cases hd : o.dst with
    | none => simp
    | some d =>
      have hdm : d ∈ ds := by rw [← hds]; exact List.mem_filterMap.2 ⟨o, ho, hd⟩
      simp only [Bool.not_eq_true]
      cases he : Nat.beq d t with
      | false => rfl
      | true =>
        have := Nat.eq_of_beq_eq_true he
        subst this
        rw [memN_of hdm] at hm; cases hm
  intro cx a hc
  refine wpIn_region_any hm ?_
  have hA := draw_any (Q := thenQ (fun S' L' => awpL P G N (l1 ++ l2).toArray l2 Q S' L') Q) hk (fun t x hx => (hS.get t x hx).1) hb h cx a hc
  refine body_run3 ht hg hk (Qt := conc G N (thenQ (fun S' L' => awpL P G N (l1 ++ l2).toArray l2 Q S' L') Q) cx) (fun e a w hne q => ?_) (fun a w q => ?_) _ _ _ _ _ (by simp) (by simp) (fun i hi => ?_) (fun i hi hil => ?_) (fun i o ho hl => ?_) hA _ (by simp)
  · obtain ⟨S', L', c', q1, q2, q3, q4⟩ := q
    refine ⟨S', L', c', ?_, q2, q3, q4⟩
    cases e with
    | normal => exact absurd rfl hne
    | _ => exact q1
  · obtain ⟨S', L', c', q1, q2, q3, q4⟩ := q
    subst q4
    exact wpListIn_mono (fun e a w r => r.trans q3) _ _ _ (q1 c' a q2)
  · have hi2 : i < l1.length + l2.length := by omega
    simp [Array.getD_eq_getD_getElem?, hi, hi2]
  · simp at hil
    simp [Array.getD_eq_getD_getElem?, hil]
  · have hlt := (List.getElem?_eq_some_iff.1 ho).1
    simp [Array.getD_eq_getD_getElem?, hlt] at hl
end
end Go.Ac
end
section
namespace Go.Proofs.YtigcjinpkngapaaGreatDoor
open Go.Ac
attribute [local irreducible] awp awpL Ev Ev2 EvS thenQ blockQ retQ PCalls OCalls
variable {g : List (Nat × List AV)}
abbrev u8v (c : UInt8) : AV := .v (.int .u8 c.toNat)
set_option maxHeartbeats 1000000 in
theorem r3plain_spec (c : UInt8) : PCalls Tryz.prog g 92 [u8v c] (vb (plainC c)) := by
  refine pcalls' Tryz.func92 Tryz.ntmps92 rfl rfl rfl ?_
  unfold plainC
  by_cases h1 : 128 ≤ c.toNat
  · have c1 : decide ((128 : Int) ≤ c.toNat) = true := decide_eq_true (by omega)
    rw [decide_eq_true h1]
    repeat' (first
     | refine stn [] ?_
     | ((with_reducible refine is_gd ?_); refine awpL_split rfl rfl (fun h => ?_) (fun h => ?_))
     | ((with_reducible refine is_awp ?_); refine awp_cond rfl (fun h => ?_) (fun h => ?_))
     | fail)
    exact retP rfl rfl
  have c1 : decide ((128 : Int) ≤ c.toNat) = false := decide_eq_false (by omega)
  rw [decide_eq_false h1, Bool.false_or]
  by_cases h2 : 33 ≤ c.toNat
  · have c2 : decide ((33 : Int) ≤ c.toNat) = true := decide_eq_true (by omega)
    have c2' : decide ((32 : Int) < c.toNat) = true := decide_eq_true (by omega)
    rw [decide_eq_true h2, Bool.true_and]
    by_cases h3 : c.toNat ≤ 126
    · have c3 : decide ((c.toNat : Int) ≤ 126) = true := decide_eq_true (by omega)
      have c3' : decide ((c.toNat : Int) < 127) = true := decide_eq_true (by omega)
      rw [decide_eq_true h3, Bool.true_and]
      by_cases h4 : c.toNat = 37
      · have c4 : (!decide ((c.toNat : Int) = 37)) = false := by simp [h4]
        rw [decide_eq_true h4]
        repeat' (first
         | refine stn [] ?_
         | ((with_reducible refine is_gd ?_); refine awpL_split rfl rfl (fun h => ?_) (fun h => ?_))
         | ((with_reducible refine is_awp ?_); refine awp_cond rfl (fun h => ?_) (fun h => ?_))
         | fail)
        refine retP rfl ?_
        simp [ex, c4]
      · have c4 : (!decide ((c.toNat : Int) = 37)) = true := by simp; omega
        rw [decide_eq_false h4]
        repeat' (first
         | refine stn [] ?_
         | ((with_reducible refine is_gd ?_); refine awpL_split rfl rfl (fun h => ?_) (fun h => ?_))
         | ((with_reducible refine is_awp ?_); refine awp_cond rfl (fun h => ?_) (fun h => ?_))
         | fail)
        refine retP rfl ?_
        simp [ex, c4]
    · have c3 : decide ((c.toNat : Int) ≤ 126) = false := decide_eq_false (by omega)
      have c3' : decide ((c.toNat : Int) < 127) = false := decide_eq_false (by omega)
      rw [decide_eq_false h3, Bool.false_and]
      repeat' (first
       | refine stn [] ?_
       | ((with_reducible refine is_gd ?_); refine awpL_split rfl rfl (fun h => ?_) (fun h => ?_))
       | ((with_reducible refine is_awp ?_); refine awp_cond rfl (fun h => ?_) (fun h => ?_))
       | fail)
      refine retP rfl ?_
      rfl
  · have c2 : decide ((33 : Int) ≤ c.toNat) = false := decide_eq_false (by omega)
    have c2' : decide ((32 : Int) < c.toNat) = false := decide_eq_false (by omega)
    rw [decide_eq_false h2, Bool.false_and]
    repeat' (first
     | refine stn [] ?_
     | ((with_reducible refine is_gd ?_); refine awpL_split rfl rfl (fun h => ?_) (fun h => ?_))
     | ((with_reducible refine is_awp ?_); refine awp_cond rfl (fun h => ?_) (fun h => ?_))
     | fail)
    refine retP rfl ?_
    rfl
theorem wplain_spec (c : UInt8) : PCalls Tryz.prog g 85 [u8v c] (vb (plainC c)) := by
  refine pcalls' Tryz.func85 Tryz.ntmps85 rfl rfl rfl ?_
  unfold plainC
  by_cases h1 : 128 ≤ c.toNat
  · have c1 : decide ((128 : Int) ≤ c.toNat) = true := decide_eq_true (by omega)
    rw [decide_eq_true h1]
    repeat' (first
     | refine stn [] ?_
     | ((with_reducible refine is_gd ?_); refine awpL_split rfl rfl (fun h => ?_) (fun h => ?_))
     | ((with_reducible refine is_awp ?_); refine awp_cond rfl (fun h => ?_) (fun h => ?_))
     | fail)
    exact retP rfl rfl
  have c1 : decide ((128 : Int) ≤ c.toNat) = false := decide_eq_false (by omega)
  rw [decide_eq_false h1, Bool.false_or]
  by_cases h2 : 33 ≤ c.toNat
  · have c2 : decide ((33 : Int) ≤ c.toNat) = true := decide_eq_true (by omega)
    have c2' : decide ((32 : Int) < c.toNat) = true := decide_eq_true (by omega)
    rw [decide_eq_true h2, Bool.true_and]
    by_cases h3 : c.toNat ≤ 126
    · have c3 : decide ((c.toNat : Int) ≤ 126) = true := decide_eq_true (by omega)
      have c3' : decide ((c.toNat : Int) < 127) = true := decide_eq_true (by omega)
      rw [decide_eq_true h3, Bool.true_and]
      by_cases h4 : c.toNat = 37
      · have c4 : (!decide ((c.toNat : Int) = 37)) = false := by simp [h4]
        rw [decide_eq_true h4]
        repeat' (first
         | refine stn [] ?_
         | ((with_reducible refine is_gd ?_); refine awpL_split rfl rfl (fun h => ?_) (fun h => ?_))
         | ((with_reducible refine is_awp ?_); refine awp_cond rfl (fun h => ?_) (fun h => ?_))
         | fail)
        refine retP rfl ?_
        simp [ex, c4]
      · have c4 : (!decide ((c.toNat : Int) = 37)) = true := by simp; omega
        rw [decide_eq_false h4]
        repeat' (first
         | refine stn [] ?_
         | ((with_reducible refine is_gd ?_); refine awpL_split rfl rfl (fun h => ?_) (fun h => ?_))
         | ((with_reducible refine is_awp ?_); refine awp_cond rfl (fun h => ?_) (fun h => ?_))
         | fail)
        refine retP rfl ?_
        simp [ex, c4]
    · have c3 : decide ((c.toNat : Int) ≤ 126) = false := decide_eq_false (by omega)
      have c3' : decide ((c.toNat : Int) < 127) = false := decide_eq_false (by omega)
      rw [decide_eq_false h3, Bool.false_and]
      repeat' (first
       | refine stn [] ?_
       | ((with_reducible refine is_gd ?_); refine awpL_split rfl rfl (fun h => ?_) (fun h => ?_))
       | ((with_reducible refine is_awp ?_); refine awp_cond rfl (fun h => ?_) (fun h => ?_))
       | fail)
      refine retP rfl ?_
      rfl
  · have c2 : decide ((33 : Int) ≤ c.toNat) = false := decide_eq_false (by omega)
    have c2' : decide ((32 : Int) < c.toNat) = false := decide_eq_false (by omega)
    rw [decide_eq_false h2, Bool.false_and]
    repeat' (first
     | refine stn [] ?_
     | ((with_reducible refine is_gd ?_); refine awpL_split rfl rfl (fun h => ?_) (fun h => ?_))
     | ((with_reducible refine is_awp ?_); refine awp_cond rfl (fun h => ?_) (fun h => ?_))
     | fail)
    refine retP rfl ?_
    rfl
theorem quoteC_len (c : UInt8) : (quoteC c).length ≤ 3 := by unfold quoteC; split <;> simp
theorem flat_len : ∀ l : List UInt8, (l.flatMap quoteC).length ≤ 3 * l.length
  | [] => by simp
  | c :: r => by
    rw [List.flatMap_cons, List.length_append, List.length_cons]
    have := quoteC_len c
    have := flat_len r
    omega
def hexB : ByteArray := ⟨#[48, 49, 50, 51, 52, 53, 54, 55, 56, 57, 97, 98, 99, 100, 101, 102]⟩
theorem hex_get {n : Nat} (h : n < 16) {i : Int} (hi : i = n) : 0 ≤ i ∧ hexB.data[i.toNat]? = some (hexD n) := by
  subst hi
  refine ⟨by omega, ?_⟩
  rw [Int.toNat_natCast]
  exact (by decide : ∀ m : Fin 16, hexB.data[m.val]? = some (hexD m.val)) ⟨n, h⟩
theorem eq_toB (s : ByteArray) (l : List UInt8) : s = toB l ↔ s.data.toList = l := by
  constructor
  · rintro rfl; exact toB_list l
  · intro h
    rw [← h, toB_of]
end Go.Proofs.YtigcjinpkngapaaGreatDoor
end
section
namespace Go.Proofs.YtigcjinpkngapaaGreatDoor
open Go.Ac
attribute [local irreducible] awp awpL Ev Ev2 EvS thenQ blockQ retQ PCalls OCalls
variable {g : List (Nat × List AV)}
def digI (c : UInt8) : Int := match unhex c with
  | some n => n
  | none => -1
theorem digI_some {c : UInt8} {n : Nat} (h : unhex c = some n) : digI c = n := by unfold digI; rw [h]
theorem digI_none {c : UInt8} (h : unhex c = none) : digI c = -1 := by unfold digI; rw [h]
set_option maxHeartbeats 1000000 in
theorem r3digit_spec (c : UInt8) : PCalls Tryz.prog g 133 [u8v c] (vi (digI c)) := by
  refine pcalls' Tryz.func133 Tryz.ntmps133 rfl rfl rfl ?_
  repeat' (first
   | refine stn [] ?_
   | ((with_reducible refine is_gd ?_); refine awpL_split rfl rfl (fun h => ?_) (fun h => ?_))
   | ((with_reducible refine is_awp ?_); refine awp_cond rfl (fun h => ?_) (fun h => ?_))
   | fail)
  refine awp_for (α := Nat) 0 (fun k => [(0, u8v c), (3, vi k)]) (fun _ => []) (fun k => k ≤ 16 ∧ ∀ j, j < k → hexD j ≠ c) (fun k => 16 - k) 0
    ⟨(.cons rfl rfl (.cons rfl rfl .nil)), rfl, rfl, rfl⟩ ⟨Nat.zero_le _, fun j h => absurd h (Nat.not_lt_zero _)⟩ ?_
  rintro k ⟨hk, hf⟩
  by_cases hlt : k < 16
  · have c1 : decide ((k : Int) < 16) = true := decide_eq_true (by omega)
    have x1 := hex_get (n := k) hlt rfl
    by_cases e : hexD k = c
    · have c2 : decide (((hexD k).toNat : Int) = c.toNat) = true := decide_eq_true (by rw [e])
      have hu := unhex_hexD hlt
      rw [e] at hu
      rw [digI_some hu]
      repeat' (first
       | ((with_reducible refine is_un ?_); refine awpL_ev (ev_index_str (s := hexB) rfl rfl rfl rfl x1) rfl ?_)
       | refine stn [] ?_
       | ((with_reducible refine is_gd ?_); refine awpL_split rfl rfl (fun h => ?_) (fun h => ?_))
       | ((with_reducible refine is_awp ?_); refine awp_cond rfl (fun h => ?_) (fun h => ?_))
       | fail)
      exact retP rfl rfl
    · have c2 : decide (((hexD k).toNat : Int) = c.toNat) = false := decide_eq_false (fun q => e (UInt8.toNat_inj.1 (by omega)))
      repeat' (first
       | ((with_reducible refine is_un ?_); refine awpL_ev (ev_index_str (s := hexB) rfl rfl rfl rfl x1) rfl ?_)
       | refine stn [] ?_
       | ((with_reducible refine is_gd ?_); refine awpL_split rfl rfl (fun h => ?_) (fun h => ?_))
       | ((with_reducible refine is_awp ?_); refine awp_cond rfl (fun h => ?_) (fun h => ?_))
       | fail)
      refine ⟨k + 1, ⟨(.cons rfl rfl (.cons rfl rfl .nil)), rfl, rfl, rfl⟩, ⟨by omega, fun j hj => ?_⟩, by omega⟩
      by_cases q : j = k
      · subst q; exact e
      · exact hf j (by omega)
  · have c1 : decide ((k : Int) < 16) = false := decide_eq_false (by omega)
    have hn : unhex c = none := by
      cases h : unhex c with
      | none => rfl
      | some n =>
        obtain ⟨q1, q2⟩ := hexD_unhex h
        exact absurd q1 (hf n (by omega))
    rw [digI_none hn]
    repeat' (first
     | refine stn [] ?_
     | ((with_reducible refine is_gd ?_); refine awpL_split rfl rfl (fun h => ?_) (fun h => ?_))
     | ((with_reducible refine is_awp ?_); refine awp_cond rfl (fun h => ?_) (fun h => ?_))
     | fail)
    exact retP rfl rfl
abbrev unqV (o : Option (List UInt8)) : AV := .tup [.v (.string (toB (o.getD []))), vb o.isSome]
theorem unq_map {o : Option (List UInt8)} {M : List UInt8} {c : UInt8} : (o.map (c :: ·)).map (M ++ ·) = o.map ((M ++ [c]) ++ ·) := by
  cases o <;> simp
theorem unhex_lt {c : UInt8} {n : Nat} (h : unhex c = some n) : n < 16 := (hexD_unhex h).2
set_option maxRecDepth 4000 in
set_option maxHeartbeats 4000000 in
theorem r3Unquote_spec (s : ByteArray) (hs : s.size ≤ 90000000) : PCalls Tryz.prog g 101 [.v (.string s)] (unqV (unquoteL s.data.toList)) := by
  have hlen := size_list s
  have n1 : (!true) = false := rfl
  have n2 : (!false) = true := rfl
  have zz : decide ((-1 : Int) < 0) = true := rfl
  refine pcalls' Tryz.func101 Tryz.ntmps101 rfl rfl rfl ?_
  by_cases h0 : s = ⟨#[37, 45]⟩
  · have c0 : decide (s = (⟨#[37, 45]⟩ : ByteArray)) = true := decide_eq_true h0
    have e : unquoteL s.data.toList = some [] := by rw [h0]; rfl
    rw [e]
    repeat' (first
     | refine stn [] ?_
     | ((with_reducible refine is_gd ?_); refine awpL_split rfl rfl (fun h => ?_) (fun h => ?_))
     | ((with_reducible refine is_awp ?_); refine awp_cond rfl (fun h => ?_) (fun h => ?_))
     | fail)
    exact retP rfl rfl
  have c0 : decide (s = (⟨#[37, 45]⟩ : ByteArray)) = false := decide_eq_false h0
  by_cases h1 : s = ⟨#[]⟩
  · have c1 : decide (s = (⟨#[]⟩ : ByteArray)) = true := decide_eq_true h1
    have e : unquoteL s.data.toList = none := by rw [h1]; rfl
    rw [e]
    repeat' (first
     | refine stn [] ?_
     | ((with_reducible refine is_gd ?_); refine awpL_split rfl rfl (fun h => ?_) (fun h => ?_))
     | ((with_reducible refine is_awp ?_); refine awp_cond rfl (fun h => ?_) (fun h => ?_))
     | fail)
    exact retP rfl rfl
  have c1 : decide (s = (⟨#[]⟩ : ByteArray)) = false := decide_eq_false h1
  have e : unquoteL s.data.toList = unqL s.data.toList := by
    unfold unquoteL
    rw [if_neg, if_neg]
    · exact fun q => h1 ((eq_toB s []).2 q)
    · exact fun q => h0 ((eq_toB s [37, 45]).2 q)
  rw [e]
  repeat' (first
   | ((with_reducible refine is_un ?_); refine awpL_ev2 (ev_bslice_o (t := 75) (n := 0) (es := []) rfl rfl rfl rfl rfl rfl rfl rfl rfl rfl rfl qf0 qc0) rfl ?_)
   | refine stn [] ?_
   | ((with_reducible refine is_gd ?_); refine awpL_split rfl rfl (fun h => ?_) (fun h => ?_))
   | ((with_reducible refine is_awp ?_); refine awp_cond rfl (fun h => ?_) (fun h => ?_))
   | fail)
  refine awp_for2 (α := Nat) (β := List UInt8) 1 (fun k _ => [(0, .v (.string s)), (4, .os 0 0), (5, vi k)]) (fun _ M => [.own 0 5 1 (bytesL M)]) (fun k M => k ≤ s.size ∧ M.length ≤ k ∧ unqL s.data.toList = (unqL (s.data.toList.drop k)).map (M ++ ·)) (fun k _ => s.size - k) 0 []
    ⟨(.cons rfl rfl (.cons rfl rfl (.cons rfl rfl .nil))), rfl, rfl, rfl⟩ ⟨Nat.zero_le _, Nat.zero_le _, by simp⟩ ?_
  rintro k M ⟨hk, hM, hf⟩
  have hmb : (bytesL M).length ≤ 90000000 := by rw [bytesL, List.length_map]; omega
  cases ht : s.data.toList[k]? with
  | none =>
    have hge : s.data.toList.length ≤ k := by simpa using ht
    have d1 : decide ((k : Int) < s.size) = false := decide_eq_false (by omega)
    rw [List.drop_of_length_le hge] at hf
    have hf : unqL s.data.toList = some M := by rw [hf]; simp [unqL]
    rw [hf]
    repeat' (first
     | ((with_reducible refine is_un ?_); refine awpL_ev (ev_bts_os (l := M) rfl rfl rfl rfl rfl rfl rfl rfl rfl rfl) rfl ?_)
     | refine stn [] ?_
     | ((with_reducible refine is_gd ?_); refine awpL_split rfl rfl (fun h => ?_) (fun h => ?_))
     | ((with_reducible refine is_awp ?_); refine awp_cond rfl (fun h => ?_) (fun h => ?_))
     | fail)
    exact retP rfl rfl
  | some c =>
    have hlt : k < s.data.toList.length := (List.getElem?_eq_some_iff.1 ht).1
    have d1 : decide ((k : Int) < s.size) = true := decide_eq_true (by omega)
    have ik := byteL_get ht
    have hdr := dropB_cons ht
    have hP := r3plain_spec (g := g) c
    by_cases hc : c = 37
    · have d2 : (!decide ((c.toNat : Int) = 37)) = false := by rw [hc]; rfl
      by_cases h2 : k + 2 < s.size
      · have d3 : decide ((s.size : Int) ≤ (k : Int) + 2) = false := decide_eq_false (by omega)
        obtain ⟨a, ha⟩ : ∃ a, s.data.toList[k + 1]? = some a := ⟨_, List.getElem?_eq_getElem (by omega)⟩
        obtain ⟨b, hb⟩ : ∃ b, s.data.toList[k + 2]? = some b := ⟨_, List.getElem?_eq_getElem (by omega)⟩
        have ia : 0 ≤ (k : Int) + 1 ∧ s.data[((k : Int) + 1).toNat]? = some a := ⟨by omega, by rw [show ((k : Int) + 1).toNat = k + 1 by omega]; simpa using ha⟩
        have ib : 0 ≤ (k : Int) + 2 ∧ s.data[((k : Int) + 2).toNat]? = some b := ⟨by omega, by rw [show ((k : Int) + 2).toNat = k + 2 by omega]; simpa using hb⟩
        have hd2 : unqL (s.data.toList.drop k) = (pairC a b).bind fun x => (unqL (s.data.toList.drop (k + 3))).map (x :: ·) := by
          rw [hdr, dropB_cons ha, dropB_cons hb, hc, unqL_pct]
        have hDa := r3digit_spec (g := g) a
        have hDb := r3digit_spec (g := g) b
        cases ua : unhex a with
        | none =>
          rw [digI_none ua] at hDa
          have hpc : pairC a b = none := by unfold pairC; rw [ua]
          rw [hd2, hpc] at hf
          have hf : unqL s.data.toList = none := hf
          rw [hf]
          generalize digI b = db at *
          repeat' (first
           | refine st [] ?_
           | ((with_reducible refine is_gd ?_); refine awpL_split rfl rfl (fun h => ?_) (fun h => ?_))
           | ((with_reducible refine isD_gd ?_); ((fail_if_success (refine isD_kn (c := true) rfl qa0 ?_)); (fail_if_success (refine isD_kn (c := false) rfl qa0 ?_)); refine awpD_split rfl (fun h => ?_) (fun h => ?_)))
           | ((with_reducible refine is_awp ?_); refine awp_cond rfl (fun h => ?_) (fun h => ?_))
           | fail)
          exact retP rfl rfl
        | some h =>
          have hh := unhex_lt ua
          rw [digI_some ua] at hDa
          have d4 : decide ((h : Int) < 0) = false := decide_eq_false (by omega)
          cases ub : unhex b with
          | none =>
            rw [digI_none ub] at hDb
            have hpc : pairC a b = none := by unfold pairC; rw [ua, ub]
            rw [hd2, hpc] at hf
            have hf : unqL s.data.toList = none := hf
            rw [hf]
            repeat' (first
             | refine st [] ?_
             | ((with_reducible refine is_gd ?_); refine awpL_split rfl rfl (fun h => ?_) (fun h => ?_))
             | ((with_reducible refine isD_gd ?_); ((fail_if_success (refine isD_kn (c := true) rfl qa0 ?_)); (fail_if_success (refine isD_kn (c := false) rfl qa0 ?_)); refine awpD_split rfl (fun h => ?_) (fun h => ?_)))
             | ((with_reducible refine is_awp ?_); refine awp_cond rfl (fun h => ?_) (fun h => ?_))
             | fail)
            exact retP rfl rfl
          | some l =>
            have hl := unhex_lt ub
            rw [digI_some ub] at hDb
            have d5 : decide ((l : Int) < 0) = false := decide_eq_false (by omega)
            have e1 : (UInt8.ofNat (16 * h + l)).toNat = 16 * h + l := by rw [UInt8.toNat_ofNat']; omega
            have w1 : IntKind.u8.wrap (16 * (h : Int) + (l : Int)) = ((UInt8.ofNat (16 * h + l)).toNat : Int) := by rw [e1]; exact u8_small (by omega) (by omega)
            have hPx := r3plain_spec (g := g) (UInt8.ofNat (16 * h + l))
            cases hp : plainC (UInt8.ofNat (16 * h + l)) with
            | true =>
              rw [hp] at hPx
              have hpc : pairC a b = none := by unfold pairC; rw [ua, ub]; simp only [hp, if_true]
              rw [hd2, hpc] at hf
              have hf : unqL s.data.toList = none := hf
              rw [hf]
              generalize UInt8.ofNat (16 * h + l) = x at *
              repeat' (first
               | ((with_reducible refine is_un ?_); (first | refine awpL_ev (ev_conv_int rfl rfl rfl rfl w1) rfl ?_ | refine awpL_ev (ev_mul rfl rfl (by omega)) rfl ?_))
               | refine st [] ?_
               | ((with_reducible refine is_gd ?_); refine awpL_split rfl rfl (fun h => ?_) (fun h => ?_))
               | ((with_reducible refine isD_gd ?_); ((fail_if_success (refine isD_kn (c := true) rfl qa0 ?_)); (fail_if_success (refine isD_kn (c := false) rfl qa0 ?_)); refine awpD_split rfl (fun h => ?_) (fun h => ?_)))
               | ((with_reducible refine is_awp ?_); refine awp_cond rfl (fun h => ?_) (fun h => ?_))
               | fail)
              exact retP rfl rfl
            | false =>
              rw [hp] at hPx
              have hpc : pairC a b = some (UInt8.ofNat (16 * h + l)) := by unfold pairC; rw [ua, ub]; simp only [hp, Bool.false_eq_true, if_false]
              generalize UInt8.ofNat (16 * h + l) = x at *
              rw [hd2, hpc] at hf
              have hf : unqL s.data.toList = ((unqL (s.data.toList.drop (k + 3))).map (x :: ·)).map (M ++ ·) := hf
              rw [unq_map] at hf
              have hj : bytesL M ++ [[u8v x]] = bytesL (M ++ [x]) := by simp [bytesL]
              repeat' (first
               | ((with_reducible refine is_un ?_); (first | refine awpL_ev (ev_conv_int rfl rfl rfl rfl w1) rfl ?_ | refine awpL_ev (ev_mul rfl rfl (by omega)) rfl ?_ | refine awpL_ev2 (ev_appB (es' := bytesL (M ++ [x])) rfl rfl rfl rfl rfl rfl rfl rfl rfl rfl rfl rfl rfl qe0 hj rfl) rfl ?_))
               | refine st [] ?_
               | ((with_reducible refine is_gd ?_); refine awpL_split rfl rfl (fun h => ?_) (fun h => ?_))
               | ((with_reducible refine isD_gd ?_); ((fail_if_success (refine isD_kn (c := true) rfl qa0 ?_)); (fail_if_success (refine isD_kn (c := false) rfl qa0 ?_)); refine awpD_split rfl (fun h => ?_) (fun h => ?_)))
               | ((with_reducible refine is_awp ?_); refine awp_cond rfl (fun h => ?_) (fun h => ?_))
               | fail)
              exact ⟨k + 3, M ++ [x], ⟨(.cons rfl rfl (.cons rfl rfl (.cons rfl rfl .nil))), rfl, rfl, rfl⟩, ⟨by omega, by simp; omega, hf⟩, by omega⟩
      · have d3 : decide ((s.size : Int) ≤ (k : Int) + 2) = true := decide_eq_true (by omega)
        have hn : unqL (s.data.toList.drop k) = none := by
          rw [hdr, hc]
          exact unqL_short (by rw [List.length_drop]; omega)
        rw [hn] at hf
        have hf : unqL s.data.toList = none := hf
        rw [hf]
        repeat' (first
         | refine stn [] ?_
         | ((with_reducible refine is_gd ?_); refine awpL_split rfl rfl (fun h => ?_) (fun h => ?_))
         | ((with_reducible refine is_awp ?_); refine awp_cond rfl (fun h => ?_) (fun h => ?_))
         | fail)
        exact retP rfl rfl
    · have d2 : (!decide ((c.toNat : Int) = 37)) = true := by
        have : c.toNat ≠ 37 := fun q => hc (UInt8.toNat_inj.1 q)
        simp; omega
      cases hp : plainC c with
      | true =>
        rw [hp] at hP
        rw [hdr, unqL_plain hp, unq_map] at hf
        have hj : bytesL M ++ [[u8v c]] = bytesL (M ++ [c]) := by simp [bytesL]
        repeat' (first
         | ((with_reducible refine is_un ?_); refine awpL_ev2 (ev_appB (es' := bytesL (M ++ [c])) rfl rfl rfl rfl rfl rfl rfl rfl rfl rfl rfl rfl rfl qe0 hj rfl) rfl ?_)
         | refine stn [] ?_
         | ((with_reducible refine is_gd ?_); refine awpL_split rfl rfl (fun h => ?_) (fun h => ?_))
         | ((with_reducible refine is_awp ?_); refine awp_cond rfl (fun h => ?_) (fun h => ?_))
         | fail)
        exact ⟨k + 1, M ++ [c], ⟨(.cons rfl rfl (.cons rfl rfl (.cons rfl rfl .nil))), rfl, rfl, rfl⟩, ⟨by omega, by simp; omega, hf⟩, by omega⟩
      | false =>
        rw [hp] at hP
        rw [hdr, unqL_bad hp hc] at hf
        have hf : unqL s.data.toList = none := hf
        rw [hf]
        repeat' (first
         | refine stn [] ?_
         | ((with_reducible refine is_gd ?_); refine awpL_split rfl rfl (fun h => ?_) (fun h => ?_))
         | ((with_reducible refine is_awp ?_); refine awp_cond rfl (fun h => ?_) (fun h => ?_))
         | fail)
        exact retP rfl rfl
end Go.Proofs.YtigcjinpkngapaaGreatDoor
end
section
namespace Go.Proofs.YtigcjinpkngapaaGreatDoor
open Go.Ac
attribute [local irreducible] awp awpL Ev Ev2 EvS thenQ blockQ retQ PCalls OCalls
variable {g : List (Nat × List AV)}
def strC (s : ByteArray) : List AV := [.v (.string s)]
abbrev encSs (l : List ByteArray) : AV := .fs 1 l.length (l.map strC)
abbrev lst (s : ByteArray) : List UInt8 := s.data.toList
theorem str_get {l : List ByteArray} {k : Nat} {x : ByteArray} (h : l[k]? = some x) : 0 ≤ (k : Int) ∧ (l.map strC)[(k : Int).toNat]? = some (strC x) := ⟨by omega, by simp [h]⟩
theorem glue_snoc {c : UInt8} : ∀ {l : List (List UInt8)} (x : List UInt8), l ≠ [] → glue c (l ++ [x]) = glue c l ++ c :: x
  | [], _, h => absurd rfl h
  | [y], x, _ => rfl
  | y :: z :: r, x, _ => by
    have := glue_snoc (c := c) (l := z :: r) x (List.cons_ne_nil _ _)
    rw [List.cons_append, glue_cons y (by simp), this, glue_cons y (List.cons_ne_nil _ _)]
    simp
theorem quoteL_len (s : List UInt8) : (quoteL s).length ≤ 3 * s.length + 2 := by
  unfold quoteL
  split
  · simp
  · have := flat_len s; omega
def Words (l : List ByteArray) : Prop := l.length ≤ 100000 ∧ ∀ s ∈ l, s.size ≤ 250
theorem joinW_len {l : List ByteArray} (h : ∀ s ∈ l, s.size ≤ 250) : (joinW (l.map lst)).length ≤ 760 * l.length := by
  unfold joinW
  induction l with
  | nil => simp [glue]
  | cons x r ih =>
    have hx := h x (List.mem_cons_self ..)
    have hq := quoteL_len (lst x)
    have hl : (lst x).length = x.size := size_list x
    have ih := ih (fun s hs => h s (List.mem_cons_of_mem _ hs))
    simp only [List.map_cons, List.length_cons]
    cases r with
    | nil => simp only [List.map_nil, glue]; simp; omega
    | cons y r =>
      rw [glue_cons _ (by simp), List.length_append, List.length_cons]
      omega
theorem textW_take {l : List ByteArray} {k : Nat} {x : ByteArray} (h : l[k]? = some x) : textW ((l.take (k + 1)).map lst) = textW ((l.take k).map lst) ++ lst x ++ [10] := by
  unfold textW
  rw [List.take_add_one, h, Option.toList_some, List.map_append, List.flatMap_append]
  simp
def LinesB (l : List ByteArray) : Prop := l.length ≤ 1000 ∧ ∀ s ∈ l, s.size ≤ 80000
theorem textW_len {l : List ByteArray} (h : ∀ s ∈ l, s.size ≤ 80000) : (textW (l.map lst)).length ≤ 80001 * l.length := by
  unfold textW
  induction l with
  | nil => simp
  | cons x r ih =>
    have hx := h x (List.mem_cons_self ..)
    have hl : (lst x).length = x.size := size_list x
    have ih := ih (fun s hs => h s (List.mem_cons_of_mem _ hs))
    simp only [List.map_cons, List.flatMap_cons, List.length_append, List.length_cons, List.length_nil]
    omega
end Go.Proofs.YtigcjinpkngapaaGreatDoor
end
