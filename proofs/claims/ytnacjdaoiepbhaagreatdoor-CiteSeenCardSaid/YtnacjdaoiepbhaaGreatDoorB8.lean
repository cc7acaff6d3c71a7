/- A logic of trees over the model's steps, and the contracts of the functions that the laws reach: part 8 of 19. -/
import Derived.Test.YtnacjdaoiepbhaaGreatDoorB7
set_option linter.unusedVariables false
set_option linter.unusedSimpArgs false
set_option linter.unusedSectionVars false
section
namespace Go.Ac
def tailOkR : Nat → List Oper → Bool
  | _, [] => true
  | i, o :: r => hasE o.after.toList (i - 1) && (o.after.toList.all fun e => !(Region.binds .any e) || Nat.blt e.on i) && tailOkR (i + 1) r
def tailOk2 : Nat → List Oper → Bool
  | _, [] => true
  | i, o :: r => (List.range i).all (hasE o.after.toList) && (o.after.toList.all fun e => !(Region.binds .any e) || Nat.blt e.on i) && tailOkR (i + 1) r
theorem tailOkR_get : ∀ {l : List Oper} {i k : Nat} {o : Oper}, tailOkR i l = true → l[k]? = some o → hasE o.after.toList (i + k - 1) = true ∧ ∀ e ∈ o.after.toList, Region.binds .any e = true → e.on < i + k
  | [], _, k, o, _, h => by simp at h
  | o0 :: r, i, k, o, ht, h => by
    simp only [tailOkR, Bool.and_eq_true] at ht
    obtain ⟨⟨h1, h2⟩, h3⟩ := ht
    cases k with
    | zero =>
      simp at h; subst h
      refine ⟨h1, fun e he hb => ?_⟩
      have := List.all_eq_true.1 h2 e he
      simp only [hb, Bool.not_true, Bool.false_or] at this
      simpa using blt_lt this
    | succ k =>
      have := tailOkR_get h3 (by simpa using h)
      rw [show i + 1 + k = i + (k + 1) by omega] at this
      exact this
theorem tailOk2_get {l : List Oper} {i k : Nat} {o : Oper} (ht : tailOk2 i l = true) (h : l[k]? = some o) : ((k = 0 → ∀ m, m < i → hasE o.after.toList m = true) ∧ (k ≠ 0 → hasE o.after.toList (i + k - 1) = true)) ∧ ∀ e ∈ o.after.toList, Region.binds .any e = true → e.on < i + k := by
  cases l with
  | nil => simp at h
  | cons o0 r =>
    simp only [tailOk2, Bool.and_eq_true] at ht
    obtain ⟨⟨h1, h2⟩, h3⟩ := ht
    cases k with
    | zero =>
      simp at h; subst h
      refine ⟨⟨fun _ m hm => List.all_eq_true.1 h1 m (by simpa using hm), fun e => absurd rfl e⟩, fun e he hb => ?_⟩
      have := List.all_eq_true.1 h2 e he
      simp only [hb, Bool.not_true, Bool.false_or] at this
      simpa using blt_lt this
    | succ k =>
      have := tailOkR_get h3 (by simpa using h)
      rw [show i + 1 + k = i + (k + 1) by omega] at this
      exact ⟨⟨fun e => by omega, fun _ => this.1⟩, this.2⟩
section
variable {F : Fence} {n : Nat} {P : Program} {Q : Exit → Act → World → Prop} {l1 l2 : List Oper}
theorem tail_run2 (ht : tailOk2 l1.length l2 = true) : ∀ (d k : Nat), d + k = l2.length → ∀ (listed : Array Bool) (a : Act) (w : World), listed.size = (l1 ++ l2).length →
    (∀ i, i < l1.length + k → listed.getD i false = true) → (∀ i, l1.length + k ≤ i → i < (l1 ++ l2).length → listed.getD i false = false) →
    wpListIn F n P (l1 ++ l2).toArray Q (l2.drop k) a w → ∀ fuel, d ≤ fuel → wpAnyIn F n P .any (l1 ++ l2).toArray Q fuel listed a w := by
  intro d
  induction d with
  | zero =>
    intro k hk listed a w hsz h1 h2 h fuel _
    rw [List.drop_of_length_le (by omega)] at h
    have hr : Region.ready .any (l1 ++ l2).toArray listed = [] := by
      cases hq : Region.ready .any (l1 ++ l2).toArray listed with
      | nil => rfl
      | cons i r =>
        have hi : i ∈ Region.ready .any (l1 ++ l2).toArray listed := by rw [hq]; exact List.mem_cons_self ..
        rw [mem_ready] at hi
        obtain ⟨h0, o, ho, _⟩ := hi
        have hil : i < (l1 ++ l2).length := by have := (Array.getElem?_eq_some_iff.1 ho).1; simpa using this
        rw [getD_tf (by omega), h1 i (by simp at hil; omega)] at h0
        cases h0
    cases fuel with
    | zero => exact ⟨hr, h⟩
    | succ f => exact ⟨fun _ => h, fun i hi => by rw [hr] at hi; cases hi⟩
  | succ d ih =>
    intro k hk listed a w hsz h1 h2 h fuel hf
    obtain ⟨f, rfl⟩ : ∃ f, fuel = f + 1 := ⟨fuel - 1, by omega⟩
    obtain ⟨o, ho⟩ : ∃ o, l2[k]? = some o := ⟨_, List.getElem?_eq_getElem (by omega)⟩
    have hgo : (l1 ++ l2).toArray[l1.length + k]? = some o := by rw [List.getElem?_toArray, List.getElem?_append_right (Nat.le_add_right _ _), Nat.add_sub_cancel_left]; exact ho
    have hlt : l1.length + k < (l1 ++ l2).length := by simp; omega
    obtain ⟨t1, t2⟩ := tailOk2_get ht ho
    have hme : l1.length + k ∈ Region.ready .any (l1 ++ l2).toArray listed := by
      rw [mem_ready]
      exact ⟨by rw [getD_tf (by omega)]; exact h2 _ (Nat.le_refl _) hlt, o, hgo, fun e he hb => h1 _ (t2 e (by simpa using he) hb)⟩
    refine ⟨fun hr => (by rw [hr] at hme; cases hme), fun i hi => ?_⟩
    have hii : i = l1.length + k := by
      rw [mem_ready] at hi
      obtain ⟨h0, o', ho', haft⟩ := hi
      have hil : i < (l1 ++ l2).length := by have := (Array.getElem?_eq_some_iff.1 ho').1; simpa using this
      rw [getD_tf (by omega)] at h0
      rcases Nat.lt_trichotomy i (l1.length + k) with g | g | g
      · rw [h1 i g] at h0; cases h0
      · exact g
      · obtain ⟨j, rfl⟩ : ∃ j, i = l1.length + j := ⟨i - l1.length, by omega⟩
        have ho2 : l2[j]? = some o' := by rw [List.getElem?_toArray, List.getElem?_append_right (Nat.le_add_right _ _), Nat.add_sub_cancel_left] at ho'; exact ho'
        obtain ⟨e, he, hb, hon⟩ := hasE_spec ((tailOk2_get ht ho2).1.2 (by omega))
        have := haft e (by simpa using he) hb
        rw [hon, h2 _ (by omega) (by omega)] at this
        cases this
    subst hii
    unfold wpOpIn
    simp only [hgo]
    have hd : l2.drop k = o :: l2.drop (k + 1) := by
      obtain ⟨hl, rfl⟩ := List.getElem?_eq_some_iff.1 ho
      exact List.drop_eq_getElem_cons hl
    rw [hd] at h
    have next : ∀ a w, wpListIn F n P (l1 ++ l2).toArray Q (l2.drop (k + 1)) a w → wpAnyIn F n P .any (l1 ++ l2).toArray Q f (listed.setIfInBounds (l1.length + k) true) a w := by
      intro a w h
      refine ih (k + 1) (by omega) _ a w (by simpa using hsz) (fun i hi => ?_) (fun i hi hil => ?_) h f (by omega)
      · by_cases e : l1.length + k = i
        · subst e; simp [Array.getD_eq_getD_getElem?, hsz, hlt]; omega
        · rw [getD_set_ne false e]; exact h1 i (by omega)
      · rw [getD_set_ne false (by omega)]; exact h2 i (by omega) hil
    simp only [wpListIn] at h
    split at h
    · rename_i hw
      rw [if_pos hw]
      exact Oper.wpIn_mono next h
    · rename_i hw
      rw [if_neg hw]
      exact ⟨h.1, next _ _ h.2⟩
theorem body_run2 {N : Nat} (ht : tailOk2 l1.length l2 = true) (hg : gdOk l1.length l1 = true) (hk : drawOk N 0 [] l1 = true) {Qt : Exit → Act → World → Prop} (hq : ∀ e a w, e ≠ .normal → Qt e a w → Q e a w)
    (hn : ∀ a w, Qt .normal a w → wpListIn F n P (l1 ++ l2).toArray Q l2 a w) : ∀ (fuel1 : Nat) (listed1 listed : Array Bool) (a : Act) (w : World), listed1.size = l1.length → listed.size = (l1 ++ l2).length →
      (∀ i, i < l1.length → listed.getD i false = listed1.getD i false) → (∀ i, l1.length ≤ i → i < (l1 ++ l2).length → listed.getD i false = false) →
      wpAnyIn F n P .any l1.toArray Qt fuel1 listed1 a w → ∀ fuel, fuel1 + l2.length ≤ fuel → wpAnyIn F n P .any (l1 ++ l2).toArray Q fuel listed a w := by
  have back : ∀ (i : Nat) (o : Oper), l1[i]? = some o → ∀ e ∈ o.after.toList, Region.binds .any e = true → e.on < i := fun i o ho e he hb => by
    have := (drawOk_spec hk i o ho).2 e (by simpa using he) hb
    omega
  intro fuel1
  induction fuel1 with
  | zero =>
    intro listed1 listed a w hs1 hs heq hfa h fuel hf
    have all : ∀ i, i < l1.length → listed1.getD i false = true := by
      intro i
      induction i using Nat.strongRecOn with
      | _ i ih =>
        intro hi
        cases hl : listed1.getD i false with
        | true => rfl
        | false =>
          have : i ∈ Region.ready .any l1.toArray listed1 := by
            rw [mem_ready]
            refine ⟨by rw [getD_tf (by omega)]; exact hl, l1[i], by simp [hi], fun e he hb => ?_⟩
            have := back i _ (List.getElem?_eq_getElem hi) e (by simpa using he) hb
            exact ih e.on this (by omega)
          rw [h.1] at this; cases this
    exact tail_run2 ht l2.length 0 (by omega) listed a w hs (fun i hi => by rw [heq i (by omega)]; exact all i (by omega)) (fun i hi hil => hfa i (by omega) hil) (hn a w h.2) fuel (by omega)
  | succ f1 ih =>
    intro listed1 listed a w hs1 hs heq hfa h fuel hf
    by_cases hr : Region.ready .any l1.toArray listed1 = []
    · have all : ∀ i, i < l1.length → listed1.getD i false = true := by
        intro i
        induction i using Nat.strongRecOn with
        | _ i ih =>
          intro hi
          cases hl : listed1.getD i false with
          | true => rfl
          | false =>
            have : i ∈ Region.ready .any l1.toArray listed1 := by
              rw [mem_ready]
              refine ⟨by rw [getD_tf (by omega)]; exact hl, l1[i], by simp [hi], fun e he hb => ?_⟩
              have := back i _ (List.getElem?_eq_getElem hi) e (by simpa using he) hb
              exact ih e.on this (by omega)
            rw [hr] at this; cases this
      exact tail_run2 ht l2.length 0 (by omega) listed a w hs (fun i hi => by rw [heq i (by omega)]; exact all i (by omega)) (fun i hi hil => hfa i (by omega) hil) (hn a w (h.1 hr)) fuel (by omega)
    · obtain ⟨f, rfl⟩ : ∃ f, fuel = f + 1 := ⟨fuel - 1, by omega⟩
      obtain ⟨i0, hi0⟩ := List.exists_mem_of_ne_nil _ hr
      have hi0' := hi0
      rw [mem_ready] at hi0'
      obtain ⟨z0, o0, zo, za⟩ := hi0'
      have hl0 : i0 < l1.length := by have := (Array.getElem?_eq_some_iff.1 zo).1; simpa using this
      rw [getD_tf (by omega)] at z0
      have up : ∀ i, i ∈ Region.ready .any (l1 ++ l2).toArray listed ↔ i ∈ Region.ready .any l1.toArray listed1 := by
        intro i
        rw [mem_ready, mem_ready]
        constructor
        · rintro ⟨h0, o, ho, haft⟩
          have hil : i < (l1 ++ l2).length := by have := (Array.getElem?_eq_some_iff.1 ho).1; simpa using this
          rw [getD_tf (by omega)] at h0
          rcases Nat.lt_or_ge i l1.length with g | g
          · have ho1 : l1[i]? = some o := by rw [List.getElem?_toArray, List.getElem?_append_left g] at ho; exact ho
            refine ⟨by rw [getD_tf (by omega), ← heq i g]; exact h0, o, by simpa using ho1, fun e he hb => ?_⟩
            have := back i o ho1 e (by simpa using he) hb
            rw [← heq _ (by omega)]; exact haft e he hb
          · exfalso
            obtain ⟨j, rfl⟩ : ∃ j, i = l1.length + j := ⟨i - l1.length, by omega⟩
            have ho2 : l2[j]? = some o := by rw [List.getElem?_toArray, List.getElem?_append_right (Nat.le_add_right _ _), Nat.add_sub_cancel_left] at ho; exact ho
            rcases Nat.eq_zero_or_pos j with hj0 | hj0
            · obtain ⟨e, he, hb, hon⟩ := hasE_spec ((tailOk2_get ht ho2).1.1 hj0 i0 (by omega))
              have := haft e (by simpa using he) hb
              rw [hon, heq i0 hl0, z0] at this
              cases this
            · obtain ⟨e, he, hb, hon⟩ := hasE_spec ((tailOk2_get ht ho2).1.2 (by omega))
              have := haft e (by simpa using he) hb
              rw [hon, hfa _ (by omega) (by omega)] at this
              cases this
        · rintro ⟨h0, o, ho, haft⟩
          have g : i < l1.length := by have := (Array.getElem?_eq_some_iff.1 ho).1; simpa using this
          have ho1 : l1[i]? = some o := by simpa using ho
          rw [getD_tf (by omega)] at h0
          refine ⟨by rw [getD_tf (by simp at hs; omega), heq i g]; exact h0, o, by rw [List.getElem?_toArray, List.getElem?_append_left g]; exact ho1, fun e he hb => ?_⟩
          have := back i o ho1 e (by simpa using he) hb
          rw [heq _ (by omega)]; exact haft e he hb
      refine ⟨fun hr2 => ?_, fun i hi => ?_⟩
      · have := (up i0).2 hi0
        rw [hr2] at this; cases this
      · have hi1 := (up i).1 hi
        have hw := h.2 i hi1
        rw [mem_ready] at hi1
        obtain ⟨h0, o, ho, haft⟩ := hi1
        have g : i < l1.length := by have := (Array.getElem?_eq_some_iff.1 ho).1; simpa using this
        have ho1 : l1[i]? = some o := by simpa using ho
        have hoc : (l1 ++ l2).toArray[i]? = some o := by rw [List.getElem?_toArray, List.getElem?_append_left g]; exact ho1
        unfold wpOpIn at hw ⊢
        simp only [ho, hoc] at hw ⊢
        have hwant : Region.wanted o (yielded (l1 ++ l2).toArray a.tmps) = Region.wanted o (yielded l1.toArray a.tmps) := by
          unfold Region.wanted
          have hgo := List.all_eq_true.1 hg o (List.mem_of_getElem? ho1)
          split
          · rfl
          · rename_i j want he
            rw [he] at hgo
            have hj := blt_lt hgo
            have : yielded (l1 ++ l2).toArray a.tmps j = yielded l1.toArray a.tmps j := by
              unfold yielded
              rw [List.getElem?_toArray, List.getElem?_toArray, List.getElem?_append_left hj]
            rw [this]
        rw [hwant]
        have next : ∀ a w, wpAnyIn F n P .any l1.toArray Qt f1 (listed1.setIfInBounds i true) a w → wpAnyIn F n P .any (l1 ++ l2).toArray Q f (listed.setIfInBounds i true) a w := by
          intro a w h
          refine ih _ _ a w (by simpa using hs1) (by simpa using hs) (fun j hj => ?_) (fun j hj hjl => ?_) h f (by omega)
          · by_cases e : i = j
            · subst e
              have : i < listed.size := by simp at hs; omega
              simp [Array.getD_eq_getD_getElem?, hs1, g, this]
            · rw [getD_set_ne false e, getD_set_ne false e]; exact heq j hj
          · rw [getD_set_ne false (by omega)]; exact hfa j hj hjl
        split at hw
        · rename_i hq2
          rw [if_pos hq2]
          exact wpIn_monoN hq next hw
        · rename_i hq2
          rw [if_neg hq2]
          exact ⟨hw.1, next _ _ hw.2⟩
end
section
variable {P : Program} {td : TDs} [T : TOK P td] {G : Glo} {N : Nat} {Q : AQ} {S Sb : SL} {L : List LB} {l l1 l2 : List Oper}
theorem awp_drawT2 (n : Nat) {id : Nat} {ds : List Nat} (h1 : l.take n = l1) (h2 : l.drop n = l2) (hm : P.follows .mixedOrders = true) (hk : drawOk N 0 [] l1 = true) (ht : tailOk2 l1.length l2 = true) (hg : gdOk l1.length l1 = true) (hds : dsts l1 = ds) (hS : Strip ds S Sb)
    (h : awpD P G N (fun S' L' => awpL P G N l.toArray l2 Q S' L') Sb L.length l1 [] ⟨L, [], [], false⟩) : awp P G N (.region id l.toArray true) Q S L := by
  have hl : l = l1 ++ l2 := by rw [← h1, ← h2, List.take_append_drop]
  subst hl
  clear h1 h2
  have hb : (Sb.all fun p => !(l1.any fun o => match o.dst with | some d => Nat.beq d p.1 | none => false)) = true := by
    rw [List.all_eq_true]
    rintro ⟨t, x⟩ hp
    have hm := strip_keep hS t x hp
    rw [Bool.not_eq_true', List.any_eq_false]
    intro o ho
    cases hd : o.dst with
    | none => simp
    | some d =>
      have hdm : d ∈ ds := by rw [← hds]; exact List.mem_filterMap.2 ⟨o, ho, hd⟩
      simp only [Bool.not_eq_true]
      cases he : Nat.beq d t with
      | false => rfl
      | true =>
        have := Nat.eq_of_beq_eq_true he
        subst this
        rw [memN_of hdm] at hm; cases hm
  intro cx a hc
  refine wpIn_region_any hm ?_
  have hA := draw_any (Q := thenQ (fun S' L' => awpL P G N (l1 ++ l2).toArray l2 Q S' L') Q) hk (fun t x hx => (hS.get t x hx).1) hb h cx a hc
  refine body_run2 ht hg hk (Qt := conc G N (thenQ (fun S' L' => awpL P G N (l1 ++ l2).toArray l2 Q S' L') Q) cx) (fun e a w hne q => ?_) (fun a w q => ?_) _ _ _ _ _ (by simp) (by simp) (fun i hi => ?_) (fun i hi hil => ?_) hA _ (by simp)
  · obtain ⟨S', L', c', q1, q2, q3, q4⟩ := q
    refine ⟨S', L', c', ?_, q2, q3, q4⟩
    cases e with
    | normal => exact absurd rfl hne
    | _ => exact q1
  · obtain ⟨S', L', c', q1, q2, q3, q4⟩ := q
    subst q4
    exact wpListIn_mono (fun e a w r => r.trans q3) _ _ _ (q1 c' a q2)
  · have hi2 : i < l1.length + l2.length := by omega
    simp [Array.getD_eq_getD_getElem?, hi, hi2]
  · simp at hil
    simp [Array.getD_eq_getD_getElem?, hil]
end
end Go.Ac
end
section
namespace Go.Proofs.YtnacjdaoiepbhaaGreatDoor
open Go.Ac
attribute [local irreducible] awp awpL Ev Ev2 EvS thenQ blockQ retQ PCalls OCalls YieldOk IterC ICalls
variable {g : List (Nat × List AV)}
abbrev mrgK (d : List Span) (k : Nat) : List Span := (d.take k).foldl mergeS []
theorem mrgK_succ {d : List Span} {k : Nat} {x : Span} (h : d[k]? = some x) : mrgK d (k + 1) = mergeS (mrgK d k) x := by
  unfold mrgK
  rw [List.take_add_one, h]
  simp
theorem mrgK_len (d : List Span) (k : Nat) : (mrgK d k).length ≤ d.length := by
  have := merge_len (d.take k) []
  rw [List.length_take] at this
  simp only [List.length_nil] at this
  unfold mrgK
  omega
theorem set_last {m : List Span} {z y : Span} : ((m ++ [z]).map spanC).set m.length (spanC y) = (m ++ [y]).map spanC := by
  rw [List.map_append, List.set_append_right _ _ (by rw [List.length_map]; exact Nat.le_refl _), List.length_map, Nat.sub_self, List.map_append]
  rfl
set_option maxRecDepth 8000 in
set_option maxHeartbeats 8000000 in
theorem Union_spec (l : List Span) (hl : l.length ≤ 100000) : PCalls Tryz.prog g 87 [encSpans l] (encSpans (unionS l)) := by
  have hC := CloneS_spec (g := g) l hl
  have n1 : (!true) = false := rfl
  have n2 : (!false) = true := rfl
  refine pcalls' Tryz.func87 Tryz.ntmps87 rfl rfl rfl ?_
  cases ha : allRight l with
  | true =>
    have hD := Delete_all (g := g) l (by omega) ha
    have hfl : (l.filter spanRight).length ≤ 100000 := Nat.le_trans (List.length_filter_le ..) hl
    have hfa : l.filter spanRight = l := List.filter_eq_self.2 (fun x hx => List.all_eq_true.1 ha x hx)
    repeat' (first
     | ((with_reducible refine is_un ?_); (first | refine awpL_ocall rfl rfl hC rfl (by simp only [List.length_nil]; rfl) (by simp only [List.nil_append]; rfl) ?_ | refine awpL_icall rfl hD rfl ?_))
     | refine stn [] ?_
     | ((with_reducible refine is_gd ?_); refine awpL_split rfl rfl (fun h => ?_) (fun h => ?_))
     | ((with_reducible refine is_awp ?_); refine awp_cond rfl (fun h => ?_) (fun h => ?_))
     | fail)
    refine awpL_sort (enc := encSp) (d := l) (lt := Go.Proofs.ltOf cmpSp) rfl rfl (fun _ => rfl) (fun x v hv => by simp [encSp] at hv; rcases hv with rfl | rfl <;> rfl) (callable Tryz.func122 rfl rfl) (fun blk cap w hH hb => sortSpans_calls _ blk cap w (by omega) hH hb) (fun _ w => sortSpans_none w) rfl fun d hp hs => ?_
    have hso : SortS d := hs.imp fun h => by rw [ltSp] at h; simpa using h
    have hdl : d.length ≤ 100000 := by rw [hp.length_eq]; omega
    have hU := unionS_eq (l := l) (by rw [hfa]; exact hp) hso
    have hU2 : mrgK d d.length = unionS l := by rw [← hU]; unfold mrgK; rw [List.take_length]
    clear hU hp hs hso
    have hLd : ([LB.own 0 63 2 (l.map spanC)].set 0 (.own 0 63 2 (d.map fun x => (encSp x).map AV.v))) = [.own 0 63 2 (d.map spanC)] := rfl
    repeat' (first
     | refine stn [] ?_
     | ((with_reducible refine is_gd ?_); refine awpL_split rfl rfl (fun h => ?_) (fun h => ?_))
     | ((with_reducible refine is_awp ?_); refine awp_cond rfl (fun h => ?_) (fun h => ?_))
     | fail)
    refine awp_adopt (t := 3) (E := 63) (sz := 2) rfl rfl rfl ?_
    refine awp_for (α := Nat) 2 (fun k => [(3, .os 1 0), (12, .os 0 0), (13, vi d.length), (14, vi k)]) (fun k => [.own 0 63 2 (d.map spanC), .own 0 63 2 ((mrgK d k).map spanC)]) (fun k => k ≤ d.length) (fun k => d.length - k) 0
      ?_ (Nat.zero_le _) ?_
    · rw [show (d.length : Int) = ((d.map fun x => (encSp x).map AV.v).length : Int) by rw [List.length_map]]
      exact ⟨(.cons rfl rfl (.cons rfl rfl (.cons rfl rfl (.cons rfl rfl .nil)))), rfl, rfl, rfl⟩
    intro k hk
    have hml := mrgK_len d k
    cases ht : d[k]? with
    | none =>
      have hge : d.length ≤ k := by simpa using ht
      have c1 : decide ((k : Int) < d.length) = false := decide_eq_false (by omega)
      rw [show mrgK d k = unionS l by rw [← hU2, show k = d.length by omega]]
      repeat' (first
       | refine stn [] ?_
       | ((with_reducible refine is_gd ?_); refine awpL_split rfl rfl (fun h => ?_) (fun h => ?_))
       | ((with_reducible refine is_awp ?_); refine awp_cond rfl (fun h => ?_) (fun h => ?_))
       | fail)
      refine retP rfl ?_
      simp [ex]
    | some x =>
      have hlt : k < d.length := (List.getElem?_eq_some_iff.1 ht).1
      have c1 : decide ((k : Int) < d.length) = true := decide_eq_true (by omega)
      have hb1 : 0 ≤ (k : Int) ∧ (k : Int) < (d.map spanC).length := ⟨by omega, by rw [List.length_map]; omega⟩
      have hel : (d.map spanC)[(k : Int).toNat]? = some (spanC x) := by rw [show (k : Int).toNat = k by omega, List.getElem?_map, ht]; rfl
      have hS := mrgK_succ ht
      generalize hM : mrgK d k = M at hS hml ⊢
      generalize hM' : mrgK d (k + 1) = M' at hS
      have hMl : ((M.map spanC).length : Int) = M.length := by rw [List.length_map]
      have hmb : (M.map spanC).length ≤ 100000 := by rw [List.length_map]; omega
      rcases List.eq_nil_or_concat M with hM0 | ⟨m, z, hMz⟩
      · subst hM0
        have d1 : decide ((0 : Int) < (([] : List (List AV)).length : Int)) = false := rfl
        have hj : ([] : List (List AV)) ++ [spanC x] = M'.map spanC := by rw [hS]; rfl
        repeat' (first
         | ((with_reducible refine is_un ?_); (first | refine awpL_ev (ev_el_agg (f := spanC x) rfl rfl rfl rfl hel rfl rfl) rfl ?_ | refine awpL_ev2 (ev_app (es' := M'.map spanC) rfl rfl rfl rfl rfl rfl rfl rfl rfl rfl rfl rfl rfl (by simp only [List.length_map, List.length_cons, List.length_nil, List.length_append, List.length_take]; omega) hj rfl) rfl ?_))
         | refine st [] ?_
         | ((with_reducible refine is_gd ?_); refine awpL_split rfl rfl (fun h => ?_) (fun h => ?_))
         | ((with_reducible refine isD_gd ?_); ((fail_if_success (refine isD_kn (c := true) rfl (by first | with_reducible rfl | with_reducible assumption) ?_)); (fail_if_success (refine isD_kn (c := false) rfl (by first | with_reducible rfl | with_reducible assumption) ?_)); refine awpD_split rfl (fun h => ?_) (fun h => ?_)))
         | ((with_reducible refine is_awp ?_); refine awp_cond rfl (fun h => ?_) (fun h => ?_))
         | fail)
        exact ⟨k + 1, by rw [hM']; exact ⟨(.cons rfl rfl (.cons rfl rfl (.cons rfl rfl (.cons rfl rfl .nil)))), rfl, rfl, rfl⟩, by omega, by omega⟩
      · rw [List.concat_eq_append] at hMz
        subst hMz
        have hn1 : (((m ++ [z]).map spanC).length : Int) - 1 = m.length := by rw [List.length_map, List.length_append]; simp
        have d1 : decide ((0 : Int) < ((m ++ [z]).map spanC).length) = true := decide_eq_true (by omega)
        have hb2 : 0 ≤ (((m ++ [z]).map spanC).length : Int) - 1 ∧ (((m ++ [z]).map spanC).length : Int) - 1 < ((m ++ [z]).map spanC).length := ⟨by omega, by omega⟩
        have hel2 : ((m ++ [z]).map spanC)[((((m ++ [z]).map spanC).length : Int) - 1).toNat]? = some (spanC z) := by
          rw [hn1, show (m.length : Int).toNat = m.length by omega, List.getElem?_map, List.getElem?_append_right (Nat.le_refl _), Nat.sub_self]; rfl
        have hms : M' = if x.fro ≤ z.til then m ++ [⟨z.fro, max z.til x.til⟩] else (m ++ [z]) ++ [x] := by
          rw [hS]; unfold mergeS
          simp only [List.getLast?_append, List.getLast?_singleton, Option.some_or, List.dropLast_concat]
        by_cases hle : x.fro ≤ z.til
        · have d2 : decide (x.fro ≤ z.til) = true := decide_eq_true hle
          rw [if_pos hle] at hms
          have hset : ((m ++ [z]).map spanC).set ((((m ++ [z]).map spanC).length : Int) - 1).toNat (spanC ⟨z.fro, max z.til x.til⟩) = M'.map spanC := by
            rw [hn1, show (m.length : Int).toNat = m.length by omega, hms]; exact set_last
          repeat' (first
           | refine awp_drawT2 12 (by simp only [List.take_succ_cons, List.take_zero, List.take_nil]; rfl) (by simp only [List.drop_succ_cons, List.drop_zero, List.drop_nil]; rfl) (by kernel_rfl) rfl rfl rfl rfl (by repeat' (first | exact Strip.nil | apply Strip.keep rfl | apply Strip.drop rfl)) ?_
           | ((with_reducible refine is_un ?_); (first | refine awpL_ev (ev_el_agg (f := spanC x) rfl rfl rfl rfl hel rfl rfl) rfl ?_ | refine awpL_evS (ev_st_ep (el' := spanC ⟨z.fro, max z.til x.til⟩) (L' := [.own 0 63 2 (d.map spanC), .own 0 63 2 (M'.map spanC), .dead]) rfl rfl rfl rfl rfl rfl rfl rfl hel2 rfl (by rw [← hset]; rfl)) ?_))
           | refine st [] ?_
           | ((with_reducible refine is_gd ?_); refine awpL_split rfl rfl (fun h => ?_) (fun h => ?_))
           | ((with_reducible refine isD_gd ?_); ((fail_if_success (refine isD_kn (c := true) rfl (by first | with_reducible rfl | with_reducible assumption) ?_)); (fail_if_success (refine isD_kn (c := false) rfl (by first | with_reducible rfl | with_reducible assumption) ?_)); refine awpD_split rfl (fun h => ?_) (fun h => ?_)))
           | ((with_reducible refine is_awp ?_); refine awp_cond rfl (fun h => ?_) (fun h => ?_))
           | fail)
          exact ⟨k + 1, by rw [hM']; exact ⟨(.cons rfl rfl (.cons rfl rfl (.cons rfl rfl (.cons rfl rfl .nil)))), rfl, rfl, rfl⟩, by omega, by omega⟩
        · have d2 : decide (x.fro ≤ z.til) = false := decide_eq_false hle
          rw [if_neg hle] at hms
          have hj : (m ++ [z]).map spanC ++ [spanC x] = M'.map spanC := by rw [hms]; simp
          repeat' (first
           | ((with_reducible refine is_un ?_); (first | refine awpL_ev (ev_el_agg (f := spanC x) rfl rfl rfl rfl hel rfl rfl) rfl ?_ | refine awpL_ev2 (ev_app (es' := M'.map spanC) rfl rfl rfl rfl rfl rfl rfl rfl rfl rfl rfl rfl rfl (by simp only [List.length_map, List.length_cons, List.length_nil, List.length_append, List.length_take]; omega) hj rfl) rfl ?_))
           | refine st [] ?_
           | ((with_reducible refine is_gd ?_); refine awpL_split rfl rfl (fun h => ?_) (fun h => ?_))
           | ((with_reducible refine isD_gd ?_); ((fail_if_success (refine isD_kn (c := true) rfl (by first | with_reducible rfl | with_reducible assumption) ?_)); (fail_if_success (refine isD_kn (c := false) rfl (by first | with_reducible rfl | with_reducible assumption) ?_)); refine awpD_split rfl (fun h => ?_) (fun h => ?_)))
           | ((with_reducible refine is_awp ?_); refine awp_cond rfl (fun h => ?_) (fun h => ?_))
           | fail)
          exact ⟨k + 1, by rw [hM']; exact ⟨(.cons rfl rfl (.cons rfl rfl (.cons rfl rfl (.cons rfl rfl .nil)))), rfl, rfl, rfl⟩, by omega, by omega⟩
  | false =>
    have hD := Delete_some (g := g) l (by omega) ha
    have hfl : (l.filter spanRight).length ≤ 100000 := Nat.le_trans (List.length_filter_le ..) hl
    skip
    repeat' (first
     | ((with_reducible refine is_un ?_); (first | refine awpL_ocall rfl rfl hC rfl (by simp only [List.length_nil]; rfl) (by simp only [List.nil_append]; rfl) ?_ | refine awpL_icall rfl hD rfl ?_))
     | refine stn [] ?_
     | ((with_reducible refine is_gd ?_); refine awpL_split rfl rfl (fun h => ?_) (fun h => ?_))
     | ((with_reducible refine is_awp ?_); refine awp_cond rfl (fun h => ?_) (fun h => ?_))
     | fail)
    refine awpL_sort (enc := encSp) (d := (l.filter spanRight)) (lt := Go.Proofs.ltOf cmpSp) rfl rfl (fun _ => rfl) (fun x v hv => by simp [encSp] at hv; rcases hv with rfl | rfl <;> rfl) (callable Tryz.func122 rfl rfl) (fun blk cap w hH hb => sortSpans_calls _ blk cap w (by omega) hH hb) (fun _ w => sortSpans_none w) rfl fun d hp hs => ?_
    have hso : SortS d := hs.imp fun h => by rw [ltSp] at h; simpa using h
    have hdl : d.length ≤ 100000 := by rw [hp.length_eq]; omega
    have hU := unionS_eq (l := l) hp hso
    have hU2 : mrgK d d.length = unionS l := by rw [← hU]; unfold mrgK; rw [List.take_length]
    clear hU hp hs hso
    have hLd : ([LB.own 1 63 2 ((l.filter spanRight).map spanC)].set 0 (.own 1 63 2 (d.map fun x => (encSp x).map AV.v))) = [.own 1 63 2 (d.map spanC)] := rfl
    repeat' (first
     | refine stn [] ?_
     | ((with_reducible refine is_gd ?_); refine awpL_split rfl rfl (fun h => ?_) (fun h => ?_))
     | ((with_reducible refine is_awp ?_); refine awp_cond rfl (fun h => ?_) (fun h => ?_))
     | fail)
    refine awp_adopt (t := 3) (E := 63) (sz := 2) rfl rfl rfl ?_
    refine awp_for (α := Nat) 2 (fun k => [(3, .os 1 0), (12, .os 0 0), (13, vi d.length), (14, vi k)]) (fun k => [.own 0 63 2 (d.map spanC), .own 0 63 2 ((mrgK d k).map spanC)]) (fun k => k ≤ d.length) (fun k => d.length - k) 0
      ?_ (Nat.zero_le _) ?_
    · rw [show (d.length : Int) = ((d.map fun x => (encSp x).map AV.v).length : Int) by rw [List.length_map]]
      exact ⟨(.cons rfl rfl (.cons rfl rfl (.cons rfl rfl (.cons rfl rfl .nil)))), rfl, rfl, rfl⟩
    intro k hk
    have hml := mrgK_len d k
    cases ht : d[k]? with
    | none =>
      have hge : d.length ≤ k := by simpa using ht
      have c1 : decide ((k : Int) < d.length) = false := decide_eq_false (by omega)
      rw [show mrgK d k = unionS l by rw [← hU2, show k = d.length by omega]]
      repeat' (first
       | refine stn [] ?_
       | ((with_reducible refine is_gd ?_); refine awpL_split rfl rfl (fun h => ?_) (fun h => ?_))
       | ((with_reducible refine is_awp ?_); refine awp_cond rfl (fun h => ?_) (fun h => ?_))
       | fail)
      refine retP rfl ?_
      simp [ex]
    | some x =>
      have hlt : k < d.length := (List.getElem?_eq_some_iff.1 ht).1
      have c1 : decide ((k : Int) < d.length) = true := decide_eq_true (by omega)
      have hb1 : 0 ≤ (k : Int) ∧ (k : Int) < (d.map spanC).length := ⟨by omega, by rw [List.length_map]; omega⟩
      have hel : (d.map spanC)[(k : Int).toNat]? = some (spanC x) := by rw [show (k : Int).toNat = k by omega, List.getElem?_map, ht]; rfl
      have hS := mrgK_succ ht
      generalize hM : mrgK d k = M at hS hml ⊢
      generalize hM' : mrgK d (k + 1) = M' at hS
      have hMl : ((M.map spanC).length : Int) = M.length := by rw [List.length_map]
      have hmb : (M.map spanC).length ≤ 100000 := by rw [List.length_map]; omega
      rcases List.eq_nil_or_concat M with hM0 | ⟨m, z, hMz⟩
      · subst hM0
        have d1 : decide ((0 : Int) < (([] : List (List AV)).length : Int)) = false := rfl
        have hj : ([] : List (List AV)) ++ [spanC x] = M'.map spanC := by rw [hS]; rfl
        repeat' (first
         | ((with_reducible refine is_un ?_); (first | refine awpL_ev (ev_el_agg (f := spanC x) rfl rfl rfl rfl hel rfl rfl) rfl ?_ | refine awpL_ev2 (ev_app (es' := M'.map spanC) rfl rfl rfl rfl rfl rfl rfl rfl rfl rfl rfl rfl rfl (by simp only [List.length_map, List.length_cons, List.length_nil, List.length_append, List.length_take]; omega) hj rfl) rfl ?_))
         | refine st [] ?_
         | ((with_reducible refine is_gd ?_); refine awpL_split rfl rfl (fun h => ?_) (fun h => ?_))
         | ((with_reducible refine isD_gd ?_); ((fail_if_success (refine isD_kn (c := true) rfl (by first | with_reducible rfl | with_reducible assumption) ?_)); (fail_if_success (refine isD_kn (c := false) rfl (by first | with_reducible rfl | with_reducible assumption) ?_)); refine awpD_split rfl (fun h => ?_) (fun h => ?_)))
         | ((with_reducible refine is_awp ?_); refine awp_cond rfl (fun h => ?_) (fun h => ?_))
         | fail)
        exact ⟨k + 1, by rw [hM']; exact ⟨(.cons rfl rfl (.cons rfl rfl (.cons rfl rfl (.cons rfl rfl .nil)))), rfl, rfl, rfl⟩, by omega, by omega⟩
      · rw [List.concat_eq_append] at hMz
        subst hMz
        have hn1 : (((m ++ [z]).map spanC).length : Int) - 1 = m.length := by rw [List.length_map, List.length_append]; simp
        have d1 : decide ((0 : Int) < ((m ++ [z]).map spanC).length) = true := decide_eq_true (by omega)
        have hb2 : 0 ≤ (((m ++ [z]).map spanC).length : Int) - 1 ∧ (((m ++ [z]).map spanC).length : Int) - 1 < ((m ++ [z]).map spanC).length := ⟨by omega, by omega⟩
        have hel2 : ((m ++ [z]).map spanC)[((((m ++ [z]).map spanC).length : Int) - 1).toNat]? = some (spanC z) := by
          rw [hn1, show (m.length : Int).toNat = m.length by omega, List.getElem?_map, List.getElem?_append_right (Nat.le_refl _), Nat.sub_self]; rfl
        have hms : M' = if x.fro ≤ z.til then m ++ [⟨z.fro, max z.til x.til⟩] else (m ++ [z]) ++ [x] := by
          rw [hS]; unfold mergeS
          simp only [List.getLast?_append, List.getLast?_singleton, Option.some_or, List.dropLast_concat]
        by_cases hle : x.fro ≤ z.til
        · have d2 : decide (x.fro ≤ z.til) = true := decide_eq_true hle
          rw [if_pos hle] at hms
          have hset : ((m ++ [z]).map spanC).set ((((m ++ [z]).map spanC).length : Int) - 1).toNat (spanC ⟨z.fro, max z.til x.til⟩) = M'.map spanC := by
            rw [hn1, show (m.length : Int).toNat = m.length by omega, hms]; exact set_last
          repeat' (first
           | refine awp_drawT2 12 (by simp only [List.take_succ_cons, List.take_zero, List.take_nil]; rfl) (by simp only [List.drop_succ_cons, List.drop_zero, List.drop_nil]; rfl) (by kernel_rfl) rfl rfl rfl rfl (by repeat' (first | exact Strip.nil | apply Strip.keep rfl | apply Strip.drop rfl)) ?_
           | ((with_reducible refine is_un ?_); (first | refine awpL_ev (ev_el_agg (f := spanC x) rfl rfl rfl rfl hel rfl rfl) rfl ?_ | refine awpL_evS (ev_st_ep (el' := spanC ⟨z.fro, max z.til x.til⟩) (L' := [.own 0 63 2 (d.map spanC), .own 0 63 2 (M'.map spanC), .dead]) rfl rfl rfl rfl rfl rfl rfl rfl hel2 rfl (by rw [← hset]; rfl)) ?_))
           | refine st [] ?_
           | ((with_reducible refine is_gd ?_); refine awpL_split rfl rfl (fun h => ?_) (fun h => ?_))
           | ((with_reducible refine isD_gd ?_); ((fail_if_success (refine isD_kn (c := true) rfl (by first | with_reducible rfl | with_reducible assumption) ?_)); (fail_if_success (refine isD_kn (c := false) rfl (by first | with_reducible rfl | with_reducible assumption) ?_)); refine awpD_split rfl (fun h => ?_) (fun h => ?_)))
           | ((with_reducible refine is_awp ?_); refine awp_cond rfl (fun h => ?_) (fun h => ?_))
           | fail)
          exact ⟨k + 1, by rw [hM']; exact ⟨(.cons rfl rfl (.cons rfl rfl (.cons rfl rfl (.cons rfl rfl .nil)))), rfl, rfl, rfl⟩, by omega, by omega⟩
        · have d2 : decide (x.fro ≤ z.til) = false := decide_eq_false hle
          rw [if_neg hle] at hms
          have hj : (m ++ [z]).map spanC ++ [spanC x] = M'.map spanC := by rw [hms]; simp
          repeat' (first
           | ((with_reducible refine is_un ?_); (first | refine awpL_ev (ev_el_agg (f := spanC x) rfl rfl rfl rfl hel rfl rfl) rfl ?_ | refine awpL_ev2 (ev_app (es' := M'.map spanC) rfl rfl rfl rfl rfl rfl rfl rfl rfl rfl rfl rfl rfl (by simp only [List.length_map, List.length_cons, List.length_nil, List.length_append, List.length_take]; omega) hj rfl) rfl ?_))
           | refine st [] ?_
           | ((with_reducible refine is_gd ?_); refine awpL_split rfl rfl (fun h => ?_) (fun h => ?_))
           | ((with_reducible refine isD_gd ?_); ((fail_if_success (refine isD_kn (c := true) rfl (by first | with_reducible rfl | with_reducible assumption) ?_)); (fail_if_success (refine isD_kn (c := false) rfl (by first | with_reducible rfl | with_reducible assumption) ?_)); refine awpD_split rfl (fun h => ?_) (fun h => ?_)))
           | ((with_reducible refine is_awp ?_); refine awp_cond rfl (fun h => ?_) (fun h => ?_))
           | fail)
          exact ⟨k + 1, by rw [hM']; exact ⟨(.cons rfl rfl (.cons rfl rfl (.cons rfl rfl (.cons rfl rfl .nil)))), rfl, rfl, rfl⟩, by omega, by omega⟩
set_option maxHeartbeats 2000000 in
theorem Covers_S (l : List Span) (s : Span) (hl : l.length ≤ 100000) : PCalls Tryz.prog g 57 [encSpans l, .agg (spanC s)] (vb (covB l s)) := by
  have hR := spanR_spec (g := g) s
  have hU := Union_spec (g := g) l hl
  have hul : (unionS l).length ≤ 1000000 := by
    have h1 := merge_len (sortedS (l.filter spanRight)) []
    have h2 := (sortedS_perm (l.filter spanRight)).length_eq
    have h3 := List.length_filter_le spanRight l
    unfold unionS
    simp only [List.length_nil] at h1
    omega
  have hN := ContainsS1_spec (g := g) (around s) 88 (spanC s) (fun x => CoversC_spec s x) (unionS l) hul
  refine pcalls' Tryz.func57 Tryz.ntmps57 rfl rfl rfl ?_
  cases hs : spanRight s with
  | false =>
    rw [hs] at hR
    rw [show covB l s = false by unfold covB; rw [hs]; rfl]
    repeat' (first
     | refine stn [] ?_
     | ((with_reducible refine is_gd ?_); refine awpL_split rfl rfl (fun h => ?_) (fun h => ?_))
     | ((with_reducible refine is_awp ?_); refine awp_cond rfl (fun h => ?_) (fun h => ?_))
     | fail)
    exact retP rfl rfl
  | true =>
    rw [hs] at hR
    rw [unionS_cov hs] at hN
    repeat' (first
     | refine stn [] ?_
     | ((with_reducible refine is_gd ?_); refine awpL_split rfl rfl (fun h => ?_) (fun h => ?_))
     | ((with_reducible refine is_awp ?_); refine awp_cond rfl (fun h => ?_) (fun h => ?_))
     | fail)
    exact retP rfl rfl
end Go.Proofs.YtnacjdaoiepbhaaGreatDoor
end
section
namespace Go.Ac
section
variable {P : Program} {td : TDs} [T : TOK P td] {G : Glo} {N : Nat} {S : SL} {L : List LB} {ty : TypeId} {x : AV}
theorem ev_appB {t e k v sz : Nat} {d ed : TD} {u q : Operand} {es new es' : List (List AV)} {ats : Array TypeId} {L' : List LB} (h : val G S u = some (.os k v)) (hk : L[k]? = some (.own v e sz es)) (hq : val G S q = some x) (hsrc : src L x = some new) (hssz : srcSz L sz x = true)
    (hat : ats = #[t, t]) (ht : lk td t = some d) (hs : d.k = .slice e) (he : lk td e = some ed) (hsz : ed.size = sz) (hzl : ed.zero.length = sz) (hpos : Nat.blt 0 sz = true) (hby : Nat.ble ed.bytes 1000 = true)
    (hb : es.length + new.length ≤ 100000000) (hes : es ++ new = es') (hL : L.set k (.own (v + 1) e sz es') = L') :
    Ev2 P G N (.call { callee := .builtin .append, args := #[u, q], argTypes := ats }) ty S L (.os k (v + 1)) L' := by
  subst hes hL
  refine ev_append h hk hq hsrc hssz hat ht hs he hsz hzl hpos ⟨?_, ?_⟩
  · have := Nat.le_of_ble_eq_true hby
    calc (es.length + new.length) * ed.bytes ≤ 100000000 * 1000 := Nat.mul_le_mul hb this
      _ ≤ 140737488355328 := by omega
  · simp only [maxLen]; omega
end
end Go.Ac
end
section
namespace Go.Proofs.YtnacjdaoiepbhaaGreatDoor
open Go.Ac
attribute [local irreducible] awp awpL Ev Ev2 EvS thenQ blockQ retQ PCalls OCalls YieldOk IterC ICalls
variable {g : List (Nat × List AV)}
theorem le_fz (sz : Nat) : Le .fz (.fs sz 0 []) := fun F w y h => by
  simp only [RF] at h ⊢
  obtain ⟨a, rfl⟩ := h
  exact ⟨rfl, a, 0, rfl, Nat.le_refl _, fun h => absurd rfl h⟩
set_option maxHeartbeats 2000000 in
theorem rinsert_spec (s : Span) : PCalls Tryz.prog g 192 [encSpans [], .agg (spanC s)] (encSpans [s]) := by
  have hj : ([] : List (List AV)) ++ [spanC s] = [spanC s] := rfl
  have hj2 : ([spanC s] : List (List AV)) ++ [] = [spanC s] := rfl
  have c1 : decide ((0 : Int) < (([] : List Span).length : Int)) = false := rfl
  refine pcalls' Tryz.func192 Tryz.ntmps192 rfl rfl rfl ?_
  repeat' (first
   | ((with_reducible refine is_un ?_); refine awpL_ev2 (ev_bslice_o (t := 54) (n := 0) (es := []) rfl rfl rfl rfl rfl rfl rfl rfl rfl rfl rfl (by (try simp only [List.length_nil, List.length_cons, Nat.reduceAdd]); (try rfl)) (by (try simp only [List.set_cons_zero, List.set_cons_succ, List.nil_append, List.cons_append, List.append_nil, cellsOf, List.take_zero, List.drop_zero, List.take_succ_cons, List.drop_succ_cons, Nat.zero_add, Nat.reduceAdd, List.drop_nil, List.map_cons, List.map_nil]); (try rfl))) rfl ?_)
   | refine stn [3] ?_
   | ((with_reducible refine is_gd ?_); refine awpL_split rfl rfl (fun h => ?_) (fun h => ?_))
   | ((with_reducible refine is_awp ?_); refine awp_cond rfl (fun h => ?_) (fun h => ?_))
   | fail)
  refine awp_for (α := Nat) 3 (fun k => [(0, encSpans []), (3, .lp 0 0), (5, .os 1 0), (6, .os 2 0), (7, vi k)]) (fun k => [.box (spanC s), .own 0 63 2 [], .own 0 63 2 []]) (fun k => k = 0) (fun k => k) 0
    ⟨(.cons rfl rfl (.cons rfl rfl (.cons rfl rfl (.cons rfl rfl (.cons rfl rfl .nil))))), rfl, rfl, rfl⟩ rfl ?_
  intro k hk
  subst hk
  show awp _ _ _ _ _ [(0, encSpans []), (3, .lp 0 0), (5, .os 1 0), (6, .os 2 0), (7, vi 0)] [.box (spanC s), .own 0 63 2 [], .own 0 63 2 []]
  repeat' (first
   | ((with_reducible refine is_un ?_); (first | refine awpL_ev2 (ev_app (es' := [spanC s]) rfl rfl rfl rfl rfl rfl rfl rfl rfl rfl rfl rfl rfl (by simp only [List.length_map, List.length_cons, List.length_nil, List.length_append, List.length_take]; omega) hj rfl) rfl ?_ | refine awpL_ev2 (ev_app (es' := [spanC s]) rfl rfl rfl rfl rfl rfl rfl rfl rfl rfl rfl rfl rfl (by simp only [List.length_map, List.length_cons, List.length_nil, List.length_append, List.length_take]; omega) hj2 rfl) rfl ?_))
   | refine stn [3] ?_
   | ((with_reducible refine is_gd ?_); refine awpL_split rfl rfl (fun h => ?_) (fun h => ?_))
   | ((with_reducible refine is_awp ?_); refine awp_cond rfl (fun h => ?_) (fun h => ?_))
   | fail)
  refine retP rfl ?_
  simp [ex]
set_option maxHeartbeats 2000000 in
theorem rUnion_spec (s : Span) (hs : spanRight s = true) : PCalls Tryz.prog g 149 [encSpans [s]] (encSpans [s]) := by
  have hR := rspanR_spec (g := g) s
  rw [hs] at hR
  have hI := (rinsert_spec (g := g) s).args (.cons (le_fz 2) (.cons (Le.of_eq rfl) .nil))
  refine pcalls' Tryz.func149 Tryz.ntmps149 rfl rfl rfl ?_
  repeat' (first
   | refine stn [] ?_
   | ((with_reducible refine is_gd ?_); refine awpL_split rfl rfl (fun h => ?_) (fun h => ?_))
   | ((with_reducible refine is_awp ?_); refine awp_cond rfl (fun h => ?_) (fun h => ?_))
   | fail)
  refine awp_for (α := Nat) 0 (fun k => [(0, encSpans [s]), (3, match k with | 0 => .fz | _ => encSpans [s]), (4, vi k)]) (fun k => []) (fun k => k ≤ 1) (fun k => 1 - k) 0
    ⟨(.cons rfl rfl (.cons rfl rfl (.cons rfl rfl .nil))), rfl, rfl, rfl⟩ (by omega) ?_
  intro k hk
  cases k with
  | zero =>
    have c1 : decide ((0 : Int) < ([s].length : Int)) = true := rfl
    have h1 : 0 ≤ (0 : Int) ∧ ([s].map spanC)[(0 : Int).toNat]? = some (spanC s) := ⟨by omega, rfl⟩
    show awp _ _ _ _ _ [(0, encSpans [s]), (3, .fz), (4, vi 0)] []
    repeat' (first
     | refine stn [] ?_
     | ((with_reducible refine is_gd ?_); refine awpL_split rfl rfl (fun h => ?_) (fun h => ?_))
     | ((with_reducible refine is_awp ?_); refine awp_cond rfl (fun h => ?_) (fun h => ?_))
     | fail)
    exact ⟨1, ⟨(.cons rfl rfl (.cons rfl rfl (.cons rfl rfl .nil))), rfl, rfl, rfl⟩, by omega, by omega⟩
  | succ k =>
    obtain rfl : k = 0 := by omega
    have c1 : decide ((1 : Int) < ([s].length : Int)) = false := rfl
    show awp _ _ _ _ _ [(0, encSpans [s]), (3, encSpans [s]), (4, vi 1)] []
    repeat' (first
     | refine stn [] ?_
     | ((with_reducible refine is_gd ?_); refine awpL_split rfl rfl (fun h => ?_) (fun h => ?_))
     | ((with_reducible refine is_awp ?_); refine awp_cond rfl (fun h => ?_) (fun h => ?_))
     | fail)
    exact retP rfl rfl
abbrev woK (l : List Span) (b : Span) (k : Nat) : List Span := withoutL (l.take k) b
theorem woK_succ {l : List Span} {b x : Span} {k : Nat} (h : l[k]? = some x) : woK l b (k + 1) = woK l b k ++ cutS b x := by
  unfold woK withoutL
  rw [List.take_add_one, h, List.flatMap_append]
  simp
theorem cutS_len (b x : Span) : (cutS b x).length ≤ 2 := by
  unfold cutS
  rw [List.length_append]
  have h1 : ∀ (c : Prop) [Decidable c] (y : Span), (if c then [y] else []).length ≤ 1 := fun c _ y => by split <;> simp
  have := h1 (spanRight (leftS x b) = true) (leftS x b)
  have := h1 (spanRight (rightS x b) = true) (rightS x b)
  omega
theorem without_len (b : Span) : ∀ l : List Span, (withoutL l b).length ≤ 2 * l.length
  | [] => by simp [withoutL]
  | x :: r => by
    have h1 := without_len b r
    have h2 := cutS_len b x
    unfold withoutL at h1 ⊢
    rw [List.flatMap_cons, List.length_append, List.length_cons]
    omega
set_option maxRecDepth 4000 in
set_option maxHeartbeats 4000000 in
theorem rwithout_spec (l : List Span) (b : Span) (hl : l.length ≤ 4000000) : PCalls Tryz.prog g 150 [encSpans l, .agg (spanC b)] (encSpans (withoutL l b)) := by
  refine pcalls' Tryz.func150 Tryz.ntmps150 rfl rfl rfl ?_
  repeat' (first
   | ((with_reducible refine is_un ?_); refine awpL_ev2 (ev_bslice_o (t := 54) (n := 0) (es := []) rfl rfl rfl rfl rfl rfl rfl rfl rfl rfl rfl (by (try simp only [List.length_nil, List.length_cons, Nat.reduceAdd]); (try rfl)) (by (try simp only [List.set_cons_zero, List.set_cons_succ, List.nil_append, List.cons_append, List.append_nil, cellsOf, List.take_zero, List.drop_zero, List.take_succ_cons, List.drop_succ_cons, Nat.zero_add, Nat.reduceAdd, List.drop_nil, List.map_cons, List.map_nil]); (try rfl))) rfl ?_)
   | refine stn [] ?_
   | ((with_reducible refine is_gd ?_); refine awpL_split rfl rfl (fun h => ?_) (fun h => ?_))
   | ((with_reducible refine is_awp ?_); refine awp_cond rfl (fun h => ?_) (fun h => ?_))
   | fail)
  refine awp_for (α := Nat) 1 (fun k => [(0, encSpans l), (3, .fp (spanC b)), (5, .os 0 0), (6, vi k)]) (fun k => [.own 0 63 2 ((woK l b k).map spanC)]) (fun k => k ≤ l.length) (fun k => l.length - k) 0
    ⟨(.cons rfl rfl (.cons rfl rfl (.cons rfl rfl (.cons rfl rfl .nil)))), rfl, rfl, rfl⟩ (Nat.zero_le _) ?_
  intro k hk
  have hcl := without_len b (l.take k)
  rw [List.length_take] at hcl
  cases ht : l[k]? with
  | none =>
    have hge : l.length ≤ k := by simpa using ht
    have c1 : decide ((k : Int) < l.length) = false := decide_eq_false (by omega)
    rw [show woK l b k = withoutL l b by unfold woK; rw [List.take_of_length_le hge]]
    repeat' (first
     | refine stn [] ?_
     | ((with_reducible refine is_gd ?_); refine awpL_split rfl rfl (fun h => ?_) (fun h => ?_))
     | ((with_reducible refine is_awp ?_); refine awp_cond rfl (fun h => ?_) (fun h => ?_))
     | fail)
    refine retP rfl ?_
    simp [ex]
  | some x =>
    have hlt : k < l.length := (List.getElem?_eq_some_iff.1 ht).1
    have c1 : decide ((k : Int) < l.length) = true := decide_eq_true (by omega)
    have h1 := span_get ht
    have hS := woK_succ (b := b) ht
    have hm1 : min x.til b.fro = min x.til b.fro := rfl
    have hRl := rspanR_spec (g := g) (leftS x b)
    have hRr := rspanR_spec (g := g) (rightS x b)
    change (woK l b k).length ≤ _ at hcl
    generalize hM : woK l b k = M at hS hcl ⊢
    generalize hM' : woK l b (k + 1) = M' at hS
    unfold cutS at hS
    cases hl1 : spanRight (leftS x b) with
    | true =>
      rw [hl1] at hRl hS
      cases hr1 : spanRight (rightS x b) with
      | true =>
        rw [hr1] at hRr hS
        have hj1 : M.map spanC ++ [spanC (leftS x b)] = (M ++ [leftS x b]).map spanC := by simp
        have hj2 : (M ++ [leftS x b]).map spanC ++ [spanC (rightS x b)] = M'.map spanC := by rw [hS]; simp
        repeat' (first
         | ((with_reducible refine is_un ?_); (first | refine awpL_ev2 (ev_appB (es' := (M ++ [leftS x b]).map spanC) rfl rfl rfl rfl rfl rfl rfl rfl rfl rfl rfl rfl rfl (by simp only [List.length_map, List.length_cons, List.length_nil, List.length_append, List.length_take]; omega) hj1 rfl) rfl ?_ | refine awpL_ev2 (ev_appB (es' := M'.map spanC) rfl rfl rfl rfl rfl rfl rfl rfl rfl rfl rfl rfl rfl (by simp only [List.length_map, List.length_cons, List.length_nil, List.length_append, List.length_take]; omega) hj2 rfl) rfl ?_))
         | refine st [] ?_
         | ((with_reducible refine is_gd ?_); refine awpL_split rfl rfl (fun h => ?_) (fun h => ?_))
         | ((with_reducible refine isD_gd ?_); ((fail_if_success (refine isD_kn (c := true) rfl (by first | with_reducible rfl | with_reducible assumption) ?_)); (fail_if_success (refine isD_kn (c := false) rfl (by first | with_reducible rfl | with_reducible assumption) ?_)); refine awpD_split rfl (fun h => ?_) (fun h => ?_)))
         | ((with_reducible refine is_awp ?_); refine awp_cond rfl (fun h => ?_) (fun h => ?_))
         | fail)
        exact ⟨k + 1, by rw [hM']; exact ⟨(.cons rfl rfl (.cons rfl rfl (.cons rfl rfl (.cons rfl rfl .nil)))), rfl, rfl, rfl⟩, by omega, by omega⟩
      | false =>
        rw [hr1] at hRr hS
        have hj1 : M.map spanC ++ [spanC (leftS x b)] = M'.map spanC := by rw [hS]; simp
        repeat' (first
         | ((with_reducible refine is_un ?_); refine awpL_ev2 (ev_appB (es' := M'.map spanC) rfl rfl rfl rfl rfl rfl rfl rfl rfl rfl rfl rfl rfl (by simp only [List.length_map, List.length_cons, List.length_nil, List.length_append, List.length_take]; omega) hj1 rfl) rfl ?_)
         | refine st [] ?_
         | ((with_reducible refine is_gd ?_); refine awpL_split rfl rfl (fun h => ?_) (fun h => ?_))
         | ((with_reducible refine isD_gd ?_); ((fail_if_success (refine isD_kn (c := true) rfl (by first | with_reducible rfl | with_reducible assumption) ?_)); (fail_if_success (refine isD_kn (c := false) rfl (by first | with_reducible rfl | with_reducible assumption) ?_)); refine awpD_split rfl (fun h => ?_) (fun h => ?_)))
         | ((with_reducible refine is_awp ?_); refine awp_cond rfl (fun h => ?_) (fun h => ?_))
         | fail)
        exact ⟨k + 1, by rw [hM']; exact ⟨(.cons rfl rfl (.cons rfl rfl (.cons rfl rfl (.cons rfl rfl .nil)))), rfl, rfl, rfl⟩, by omega, by omega⟩
    | false =>
      rw [hl1] at hRl hS
      cases hr1 : spanRight (rightS x b) with
      | true =>
        rw [hr1] at hRr hS
        have hj1 : M.map spanC ++ [spanC (rightS x b)] = M'.map spanC := by rw [hS]; simp
        repeat' (first
         | ((with_reducible refine is_un ?_); refine awpL_ev2 (ev_appB (es' := M'.map spanC) rfl rfl rfl rfl rfl rfl rfl rfl rfl rfl rfl rfl rfl (by simp only [List.length_map, List.length_cons, List.length_nil, List.length_append, List.length_take]; omega) hj1 rfl) rfl ?_)
         | refine st [] ?_
         | ((with_reducible refine is_gd ?_); refine awpL_split rfl rfl (fun h => ?_) (fun h => ?_))
         | ((with_reducible refine isD_gd ?_); ((fail_if_success (refine isD_kn (c := true) rfl (by first | with_reducible rfl | with_reducible assumption) ?_)); (fail_if_success (refine isD_kn (c := false) rfl (by first | with_reducible rfl | with_reducible assumption) ?_)); refine awpD_split rfl (fun h => ?_) (fun h => ?_)))
         | ((with_reducible refine is_awp ?_); refine awp_cond rfl (fun h => ?_) (fun h => ?_))
         | fail)
        exact ⟨k + 1, by rw [hM']; exact ⟨(.cons rfl rfl (.cons rfl rfl (.cons rfl rfl (.cons rfl rfl .nil)))), rfl, rfl, rfl⟩, by omega, by omega⟩
      | false =>
        rw [hr1] at hRr hS
        have hS : M' = M := by rw [hS]; simp
        subst hS
        repeat' (first
         | refine st [] ?_
         | ((with_reducible refine is_gd ?_); refine awpL_split rfl rfl (fun h => ?_) (fun h => ?_))
         | ((with_reducible refine isD_gd ?_); ((fail_if_success (refine isD_kn (c := true) rfl (by first | with_reducible rfl | with_reducible assumption) ?_)); (fail_if_success (refine isD_kn (c := false) rfl (by first | with_reducible rfl | with_reducible assumption) ?_)); refine awpD_split rfl (fun h => ?_) (fun h => ?_)))
         | ((with_reducible refine is_awp ?_); refine awp_cond rfl (fun h => ?_) (fun h => ?_))
         | fail)
        exact ⟨k + 1, by rw [hM']; exact ⟨(.cons rfl rfl (.cons rfl rfl (.cons rfl rfl (.cons rfl rfl .nil)))), rfl, rfl, rfl⟩, by omega, by omega⟩
abbrev minK (s : Span) (l : List Span) (k : Nat) : List Span := minusL s (l.take k)
theorem minK_succ {s b : Span} {l : List Span} {k : Nat} (h : l[k]? = some b) : minK s l (k + 1) = minusStep (minK s l k) b := by
  unfold minK minusL
  rw [List.take_add_one, h]
  simp
theorem minus_len (s : Span) : ∀ (l out : List Span), (l.foldl minusStep out).length ≤ 2 ^ l.length * out.length
  | [], out => by simp
  | b :: r, out => by
    have h1 := minus_len s r (minusStep out b)
    have h2 : (minusStep out b).length ≤ 2 * out.length := by
      unfold minusStep
      split
      · exact without_len b out
      · omega
    rw [List.foldl_cons, List.length_cons, Nat.pow_succ]
    calc _ ≤ 2 ^ r.length * (minusStep out b).length := h1
      _ ≤ 2 ^ r.length * (2 * out.length) := Nat.mul_le_mul_left _ h2
      _ = _ := by rw [Nat.mul_assoc]
theorem minK_len (s : Span) (l : List Span) (k : Nat) (hl : l.length ≤ 20) : (minK s l k).length ≤ 1048576 := by
  have h := minus_len s (l.take k) [s]
  have h2 : 2 ^ (l.take k).length ≤ 2 ^ 20 := Nat.pow_le_pow_right (by omega) (by rw [List.length_take]; omega)
  unfold minK minusL
  simp only [List.length_cons, List.length_nil, Nat.zero_add, Nat.mul_one] at h
  have : (2 : Nat) ^ 20 = 1048576 := rfl
  omega
set_option maxHeartbeats 2000000 in
theorem rMinus_spec (s : Span) (l : List Span) (hs : spanRight s = true) (hl : l.length ≤ 20) : PCalls Tryz.prog g 116 [encSpans [s], encSpans l] (encSpans (minusL s l)) := by
  have hU := rUnion_spec (g := g) s hs
  refine pcalls' Tryz.func116 Tryz.ntmps116 rfl rfl rfl ?_
  repeat' (first
   | refine stn [] ?_
   | ((with_reducible refine is_gd ?_); refine awpL_split rfl rfl (fun h => ?_) (fun h => ?_))
   | ((with_reducible refine is_awp ?_); refine awp_cond rfl (fun h => ?_) (fun h => ?_))
   | fail)
  refine awp_for (α := Nat) 0 (fun k => [(1, encSpans l), (5, encSpans (minK s l k)), (6, vi k)]) (fun k => []) (fun k => k ≤ l.length) (fun k => l.length - k) 0
    ⟨(.cons rfl rfl (.cons rfl rfl (.cons rfl rfl .nil))), rfl, rfl, rfl⟩ (Nat.zero_le _) ?_
  intro k hk
  have hml := minK_len s l k hl
  cases ht : l[k]? with
  | none =>
    have hge : l.length ≤ k := by simpa using ht
    have c1 : decide ((k : Int) < l.length) = false := decide_eq_false (by omega)
    rw [show minK s l k = minusL s l by unfold minK; rw [List.take_of_length_le hge]]
    repeat' (first
     | refine stn [] ?_
     | ((with_reducible refine is_gd ?_); refine awpL_split rfl rfl (fun h => ?_) (fun h => ?_))
     | ((with_reducible refine is_awp ?_); refine awp_cond rfl (fun h => ?_) (fun h => ?_))
     | fail)
    exact retP rfl rfl
  | some b =>
    have hlt : k < l.length := (List.getElem?_eq_some_iff.1 ht).1
    have c1 : decide ((k : Int) < l.length) = true := decide_eq_true (by omega)
    have h1 := span_get ht
    have hR := rspanR_spec (g := g) b
    have hS := minK_succ (s := s) ht
    have hW := rwithout_spec (g := g) (minK s l k) b (by omega)
    generalize hM : minK s l k = M at hS hW ⊢
    generalize hM' : minK s l (k + 1) = M' at hS
    unfold minusStep at hS
    cases hb : spanRight b with
    | true =>
      rw [hb] at hR hS
      rw [if_pos rfl] at hS
      rw [← hS] at hW
      repeat' (first
       | refine stn [] ?_
       | ((with_reducible refine is_gd ?_); refine awpL_split rfl rfl (fun h => ?_) (fun h => ?_))
       | ((with_reducible refine is_awp ?_); refine awp_cond rfl (fun h => ?_) (fun h => ?_))
       | fail)
      exact ⟨k + 1, by rw [hM']; exact ⟨(.cons rfl rfl (.cons rfl rfl (.cons rfl rfl .nil))), rfl, rfl, rfl⟩, by omega, by omega⟩
    | false =>
      rw [hb] at hR hS
      have hS : M' = M := by rw [hS]; rfl
      subst hS
      repeat' (first
       | refine stn [] ?_
       | ((with_reducible refine is_gd ?_); refine awpL_split rfl rfl (fun h => ?_) (fun h => ?_))
       | ((with_reducible refine is_awp ?_); refine awp_cond rfl (fun h => ?_) (fun h => ?_))
       | fail)
      exact ⟨k + 1, by rw [hM']; exact ⟨(.cons rfl rfl (.cons rfl rfl (.cons rfl rfl .nil))), rfl, rfl, rfl⟩, by omega, by omega⟩
set_option maxHeartbeats 2000000 in
theorem rCovers_S (l : List Span) (s : Span) (hl : l.length ≤ 20) : PCalls Tryz.prog g 83 [encSpans l, .agg (spanC s)] (vb (covB l s)) := by
  have hR := rspanR_spec (g := g) s
  refine pcalls' Tryz.func83 Tryz.ntmps83 rfl rfl rfl ?_
  unfold covB
  cases hs : spanRight s with
  | false =>
    rw [hs] at hR
    repeat' (first
     | refine stn [] ?_
     | ((with_reducible refine is_gd ?_); refine awpL_split rfl rfl (fun h => ?_) (fun h => ?_))
     | ((with_reducible refine is_awp ?_); refine awp_cond rfl (fun h => ?_) (fun h => ?_))
     | fail)
    exact retP rfl rfl
  | true =>
    rw [hs] at hR
    have hM := rMinus_spec (g := g) s l hs hl
    have hlen := minK_len s l l.length hl
    rw [show minK s l l.length = minusL s l by unfold minK; rw [List.take_length]] at hlen
    generalize minusL s l = m at *
    have he : m.isEmpty = decide ((m.length : Int) = 0) := by cases m <;> simp; omega
    rw [he]
    repeat' (first
     | refine stn [] ?_
     | ((with_reducible refine is_gd ?_); refine awpL_split rfl rfl (fun h => ?_) (fun h => ?_))
     | ((with_reducible refine is_awp ?_); refine awp_cond rfl (fun h => ?_) (fun h => ?_))
     | fail)
    exact retP rfl rfl
end Go.Proofs.YtnacjdaoiepbhaaGreatDoor
end
section
namespace Go.Proofs.YtnacjdaoiepbhaaGreatDoor
structure Tier where
  name : ByteArray
  kind : Int
  role : Int
  parent : Int
  deriving Inhabited, DecidableEq
structure Recording where
  id : Int
  name : ByteArray
  length : Int
  day : Int
  speakers : List Int
  deriving Inhabited, DecidableEq
structure Doc where
  rec_ : Recording
  tiers : List Tier
  notes : List Note
  deriving Inhabited, DecidableEq
def timed (k : Int) : Bool := decide (k = 0) || (decide (k = 1) || decide (k = 2))
def tierAt (l : List Tier) (i : Int) : Option Tier := if 0 ≤ i then l[i.toNat]? else none
def alignedT (l : List Tier) (i : Int) : Bool := match tierAt l i with
  | some t => timed t.kind
  | none => false
def getN (l : List Note) (id : Int) : Option Note := l.find? fun n => decide (n.id = id)
def whereF (d : Doc) : Nat → Int → Option (Option Span)
  | 0, _ => none
  | m + 1, id => match getN d.notes id with
    | none => some none
    | some n => if alignedT d.tiers n.tier then some (some n.span) else whereF d m n.parent
theorem getN_id {l : List Note} {id : Int} {n : Note} (h : getN l id = some n) : n.id = id ∧ n ∈ l := by
  unfold getN at h
  exact ⟨by simpa using List.find?_some h, List.mem_of_find?_eq_some h⟩
def chainK (d : Doc) : Nat → Int → List Int
  | 0, _ => []
  | m + 1, id => match getN d.notes id with
    | none => []
    | some n => n.id :: chainK d m n.parent
def firstAl (d : Doc) : List Int → Option Span
  | [] => none
  | id :: r => match getN d.notes id with
    | some n => if alignedT d.tiers n.tier then some n.span else firstAl d r
    | none => if alignedT d.tiers 0 then some ⟨0, 0⟩ else firstAl d r
theorem firstAl_chain {d : Doc} : ∀ {m : Nat} {id : Int} {x : Option Span}, whereF d m id = some x → firstAl d (chainK d m id) = x
  | 0, _, _, h => by cases h
  | m + 1, id, x, h => by
    simp only [whereF, chainK] at h ⊢
    cases hg : getN d.notes id with
    | none => rw [hg] at h; cases h; rfl
    | some n =>
      rw [hg] at h
      simp only [firstAl] at h ⊢
      have hid := (getN_id hg).1
      rw [hid, hg]
      simp only
      split
      · rename_i e; rw [if_pos e] at h; cases h; rfl
      · rename_i e; rw [if_neg e] at h; exact firstAl_chain h
theorem chainK_mem {d : Doc} : ∀ {m : Nat} {id x : Int}, x ∈ chainK d m id → ∃ n, getN d.notes x = some n
  | 0, _, _, h => by cases h
  | m + 1, id, x, h => by
    simp only [chainK] at h
    cases hg : getN d.notes id with
    | none => rw [hg] at h; cases h
    | some n =>
      rw [hg] at h
      rcases List.mem_cons.1 h with rfl | h
      · rw [(getN_id hg).1]; exact ⟨n, hg⟩
      · exact chainK_mem h
theorem chainK_len (d : Doc) : ∀ (m : Nat) (id : Int), (chainK d m id).length ≤ m
  | 0, _ => Nat.le_refl _
  | m + 1, id => by
    simp only [chainK]
    cases getN d.notes id with
    | none => simp
    | some n => simp only [List.length_cons]; have := chainK_len d m n.parent; omega
theorem find_dropN {α : Type} {l : List α} {f : α → Bool} {k : Nat} {x : α} (h : l[k]? = some x) : (l.drop k).find? f = if f x then some x else (l.drop (k + 1)).find? f := by
  obtain ⟨h1, h2⟩ := List.getElem?_eq_some_iff.1 h
  rw [List.drop_eq_getElem_cons h1, h2, List.find?_cons]
  cases f x <;> rfl
end Go.Proofs.YtnacjdaoiepbhaaGreatDoor
end
