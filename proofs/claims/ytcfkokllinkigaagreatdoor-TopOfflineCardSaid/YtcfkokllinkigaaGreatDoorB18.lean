/- A logic of trees over the model's steps, and the contracts of the functions that the laws reach: part 18 of 29. -/
import Derived.Test.YtcfkokllinkigaaGreatDoorB17
set_option linter.unusedVariables false
set_option linter.unusedSimpArgs false
set_option linter.unusedSectionVars false
set_option linter.unnecessarySimpa false
namespace Go.Ac
section
def tailOkR : Nat → List Oper → Bool
 | _, [] => true
 | i, o :: r => hasE o.after.toList (i - 1) && (o.after.toList.all fun e => !(Region.binds .any e) || Nat.blt e.on i) && tailOkR (i + 1) r
def tailOk2 : Nat → List Oper → Bool
 | _, [] => true
 | i, o :: r => (List.range i).all (hasE o.after.toList) && (o.after.toList.all fun e => !(Region.binds .any e) || Nat.blt e.on i) && tailOkR (i + 1) r
theorem wZ : ∀ {l : List Oper} {i k : Nat} {o : Oper}, tailOkR i l = true → l[k]? = some o → hasE o.after.toList (i + k - 1) = true ∧ ∀ e ∈ o.after.toList, Region.binds .any e = true → e.on < i + k
 | [], _, k, o, _, h => by simp at h
 | o0 :: r, i, k, o, ht, h => by
  simp only [tailOkR, Bool.and_eq_true] at ht
  obtain ⟨⟨h1, h2⟩, h3⟩ := ht
  cases k with
  | zero =>
   simp at h; subst h
   refine ⟨h1, fun e he hb => ?_⟩
   have := List.all_eq_true.1 h2 e he
   simp only [hb, Bool.not_true, Bool.false_or] at this
   simpa using zK this
  | succ k =>
   have := wZ h3 (by simpa using h)
   rw [show i + 1 + k = i + (k + 1) by omega] at this
   exact this
theorem Qf {l : List Oper} {i k : Nat} {o : Oper} (ht : tailOk2 i l = true) (h : l[k]? = some o) : ((k = 0 → ∀ m, m < i → hasE o.after.toList m = true) ∧ (k ≠ 0 → hasE o.after.toList (i + k - 1) = true)) ∧ ∀ e ∈ o.after.toList, Region.binds .any e = true → e.on < i + k := by
 cases l with
 | nil => simp at h
 | cons o0 r =>
  simp only [tailOk2, Bool.and_eq_true] at ht
  obtain ⟨⟨h1, h2⟩, h3⟩ := ht
  cases k with
  | zero =>
   simp at h; subst h
   refine ⟨⟨fun _ m hm => List.all_eq_true.1 h1 m (by simpa using hm), fun e => absurd rfl e⟩, fun e he hb => ?_⟩
   have := List.all_eq_true.1 h2 e he
   simp only [hb, Bool.not_true, Bool.false_or] at this
   simpa using zK this
  | succ k =>
   have := wZ h3 (by simpa using h)
   rw [show i + 1 + k = i + (k + 1) by omega] at this
   exact ⟨⟨fun e => by omega, fun _ => this.1⟩, this.2⟩
section
variable {F : Fence} {n : Nat} {P : Program} {Q : Exit → Act → World → Prop} {l1 l2 : List Oper}
theorem tail_run2 (ht : tailOk2 l1.length l2 = true) : ∀ (d k : Nat), d + k = l2.length → ∀ (listed : Array Bool) (a : Act) (w : World), listed.size = (l1 ++ l2).length →
  (∀ i, i < l1.length + k → listed.getD i false = true) → (∀ i, l1.length + k ≤ i → i < (l1 ++ l2).length → listed.getD i false = false) →
  wpListIn F n P (l1 ++ l2).toArray Q (l2.drop k) a w → ∀ fuel, d ≤ fuel → wpAnyIn F n P .any (l1 ++ l2).toArray Q fuel listed a w := by
 intro d
 induction d with
 | zero =>
  intro k hk listed a w hsz h1 h2 h fuel _
  rw [List.drop_of_length_le (by omega)] at h
  have hr : Region.ready .any (l1 ++ l2).toArray listed = [] := by
   cases hq : Region.ready .any (l1 ++ l2).toArray listed with
   | nil => rfl
   | cons i r =>
    have hi : i ∈ Region.ready .any (l1 ++ l2).toArray listed := by rw [hq]; exact List.mem_cons_self ..
    rw [mem_ready] at hi
    obtain ⟨h0, o, ho, _⟩ := hi
    have hil : i < (l1 ++ l2).length := by have := (Array.getElem?_eq_some_iff.1 ho).1; simpa using this
    rw [zR (by omega), h1 i (by simp at hil; omega)] at h0
    cases h0
  cases fuel with
  | zero => exact ⟨hr, h⟩
  | succ f => exact ⟨fun _ => h, fun i hi => by rw [hr] at hi; cases hi⟩
 | succ d ih =>
  intro k hk listed a w hsz h1 h2 h fuel hf
  obtain ⟨f, rfl⟩ : ∃ f, fuel = f + 1 := ⟨fuel - 1, by omega⟩
  obtain ⟨o, ho⟩ : ∃ o, l2[k]? = some o := ⟨_, List.getElem?_eq_getElem (by omega)⟩
  have hgo : (l1 ++ l2).toArray[l1.length + k]? = some o := by rw [List.getElem?_toArray, List.getElem?_append_right (Nat.le_add_right _ _), Nat.add_sub_cancel_left]; exact ho
  have hlt : l1.length + k < (l1 ++ l2).length := by simp; omega
  obtain ⟨t1, t2⟩ := Qf ht ho
  have hme : l1.length + k ∈ Region.ready .any (l1 ++ l2).toArray listed := by
   rw [mem_ready]
   exact ⟨by rw [zR (by omega)]; exact h2 _ (Nat.le_refl _) hlt, o, hgo, fun e he hb => h1 _ (t2 e (by simpa using he) hb)⟩
  refine ⟨fun hr => (by rw [hr] at hme; cases hme), fun i hi => ?_⟩
  have hii : i = l1.length + k := by
   rw [mem_ready] at hi
   obtain ⟨h0, o', ho', haft⟩ := hi
   have hil : i < (l1 ++ l2).length := by have := (Array.getElem?_eq_some_iff.1 ho').1; simpa using this
   rw [zR (by omega)] at h0
   rcases Nat.lt_trichotomy i (l1.length + k) with g | g | g
   ·rw [h1 i g] at h0; cases h0
   ·exact g
   ·obtain ⟨j, rfl⟩ : ∃ j, i = l1.length + j := ⟨i - l1.length, by omega⟩
    have ho2 : l2[j]? = some o' := by rw [List.getElem?_toArray, List.getElem?_append_right (Nat.le_add_right _ _), Nat.add_sub_cancel_left] at ho'; exact ho'
    obtain ⟨e, he, hb, hon⟩ := zX ((Qf ht ho2).1.2 (by omega))
    have := haft e (by simpa using he) hb
    rw [hon, h2 _ (by omega) (by omega)] at this
    cases this
  subst hii
  unfold wpOpIn
  simp only [hgo]
  have hd : l2.drop k = o :: l2.drop (k + 1) := by
   obtain ⟨hl, rfl⟩ := List.getElem?_eq_some_iff.1 ho
   exact List.drop_eq_getElem_cons hl
  rw [hd] at h
  have next : ∀ a w, wpListIn F n P (l1 ++ l2).toArray Q (l2.drop (k + 1)) a w → wpAnyIn F n P .any (l1 ++ l2).toArray Q f (listed.setIfInBounds (l1.length + k) true) a w := by
   intro a w h
   refine ih (k + 1) (by omega) _ a w (by simpa using hsz) (fun i hi => ?_) (fun i hi hil => ?_) h f (by omega)
   ·by_cases e : l1.length + k = i
    ·subst e; simp [Array.getD_eq_getD_getElem?, hsz, hlt]; omega
    ·rw [getD_set_ne false e]; exact h1 i (by omega)
   ·rw [getD_set_ne false (by omega)]; exact h2 i (by omega) hil
  simp only [wpListIn] at h
  split at h
  ·rename_i hw
   rw [if_pos hw]
   exact Oper.wpIn_mono next h
  ·rename_i hw
   rw [if_neg hw]
   exact ⟨h.1, next _ _ h.2⟩
theorem body_run2 {N : Nat} (ht : tailOk2 l1.length l2 = true) (hg : gdOk l1.length l1 = true) (hk : drawOk N 0 [] l1 = true) {Qt : Exit → Act → World → Prop} (hq : ∀ e a w, e ≠ .normal → Qt e a w → Q e a w)
  (hn : ∀ a w, Qt .normal a w → wpListIn F n P (l1 ++ l2).toArray Q l2 a w) : ∀ (fuel1 : Nat) (listed1 listed : Array Bool) (a : Act) (w : World), listed1.size = l1.length → listed.size = (l1 ++ l2).length →
   (∀ i, i < l1.length → listed.getD i false = listed1.getD i false) → (∀ i, l1.length ≤ i → i < (l1 ++ l2).length → listed.getD i false = false) →
   wpAnyIn F n P .any l1.toArray Qt fuel1 listed1 a w → ∀ fuel, fuel1 + l2.length ≤ fuel → wpAnyIn F n P .any (l1 ++ l2).toArray Q fuel listed a w := by
 have back : ∀ (i : Nat) (o : Oper), l1[i]? = some o → ∀ e ∈ o.after.toList, Region.binds .any e = true → e.on < i := fun i o ho e he hb => by
  have := (Zu hk i o ho).2 e (by simpa using he) hb
  omega
 intro fuel1
 induction fuel1 with
 | zero =>
  intro listed1 listed a w hs1 hs heq hfa h fuel hf
  have all : ∀ i, i < l1.length → listed1.getD i false = true := by
   intro i
   induction i using Nat.strongRecOn with
   | _ i ih =>
    intro hi
    cases hl : listed1.getD i false with
    | true => rfl
    | false =>
     have : i ∈ Region.ready .any l1.toArray listed1 := by
      rw [mem_ready]
      refine ⟨by rw [zR (by omega)]; exact hl, l1[i], by simp [hi], fun e he hb => ?_⟩
      have := back i _ (List.getElem?_eq_getElem hi) e (by simpa using he) hb
      exact ih e.on this (by omega)
     rw [h.1] at this; cases this
  exact tail_run2 ht l2.length 0 (by omega) listed a w hs (fun i hi => by rw [heq i (by omega)]; exact all i (by omega)) (fun i hi hil => hfa i (by omega) hil) (hn a w h.2) fuel (by omega)
 | succ f1 ih =>
  intro listed1 listed a w hs1 hs heq hfa h fuel hf
  by_cases hr : Region.ready .any l1.toArray listed1 = []
  ·have all : ∀ i, i < l1.length → listed1.getD i false = true := by
    intro i
    induction i using Nat.strongRecOn with
    | _ i ih =>
     intro hi
     cases hl : listed1.getD i false with
     | true => rfl
     | false =>
      have : i ∈ Region.ready .any l1.toArray listed1 := by
       rw [mem_ready]
       refine ⟨by rw [zR (by omega)]; exact hl, l1[i], by simp [hi], fun e he hb => ?_⟩
       have := back i _ (List.getElem?_eq_getElem hi) e (by simpa using he) hb
       exact ih e.on this (by omega)
      rw [hr] at this; cases this
   exact tail_run2 ht l2.length 0 (by omega) listed a w hs (fun i hi => by rw [heq i (by omega)]; exact all i (by omega)) (fun i hi hil => hfa i (by omega) hil) (hn a w (h.1 hr)) fuel (by omega)
  ·obtain ⟨f, rfl⟩ : ∃ f, fuel = f + 1 := ⟨fuel - 1, by omega⟩
   obtain ⟨i0, hi0⟩ := List.exists_mem_of_ne_nil _ hr
   have hi0' := hi0
   rw [mem_ready] at hi0'
   obtain ⟨z0, o0, zo, za⟩ := hi0'
   have hl0 : i0 < l1.length := by have := (Array.getElem?_eq_some_iff.1 zo).1; simpa using this
   rw [zR (by omega)] at z0
   have up : ∀ i, i ∈ Region.ready .any (l1 ++ l2).toArray listed ↔ i ∈ Region.ready .any l1.toArray listed1 := by
    intro i
    rw [mem_ready, mem_ready]
    constructor
    ·rintro ⟨h0, o, ho, haft⟩
     have hil : i < (l1 ++ l2).length := by have := (Array.getElem?_eq_some_iff.1 ho).1; simpa using this
     rw [zR (by omega)] at h0
     rcases Nat.lt_or_ge i l1.length with g | g
     ·have ho1 : l1[i]? = some o := by rw [List.getElem?_toArray, List.getElem?_append_left g] at ho; exact ho
      refine ⟨by rw [zR (by omega), ← heq i g]; exact h0, o, by simpa using ho1, fun e he hb => ?_⟩
      have := back i o ho1 e (by simpa using he) hb
      rw [← heq _ (by omega)]; exact haft e he hb
     ·exfalso
      obtain ⟨j, rfl⟩ : ∃ j, i = l1.length + j := ⟨i - l1.length, by omega⟩
      have ho2 : l2[j]? = some o := by rw [List.getElem?_toArray, List.getElem?_append_right (Nat.le_add_right _ _), Nat.add_sub_cancel_left] at ho; exact ho
      rcases Nat.eq_zero_or_pos j with hj0 | hj0
      ·obtain ⟨e, he, hb, hon⟩ := zX ((Qf ht ho2).1.1 hj0 i0 (by omega))
       have := haft e (by simpa using he) hb
       rw [hon, heq i0 hl0, z0] at this
       cases this
      ·obtain ⟨e, he, hb, hon⟩ := zX ((Qf ht ho2).1.2 (by omega))
       have := haft e (by simpa using he) hb
       rw [hon, hfa _ (by omega) (by omega)] at this
       cases this
    ·rintro ⟨h0, o, ho, haft⟩
     have g : i < l1.length := by have := (Array.getElem?_eq_some_iff.1 ho).1; simpa using this
     have ho1 : l1[i]? = some o := by simpa using ho
     rw [zR (by omega)] at h0
     refine ⟨by rw [zR (by simp at hs; omega), heq i g]; exact h0, o, by rw [List.getElem?_toArray, List.getElem?_append_left g]; exact ho1, fun e he hb => ?_⟩
     have := back i o ho1 e (by simpa using he) hb
     rw [heq _ (by omega)]; exact haft e he hb
   refine ⟨fun hr2 => ?_, fun i hi => ?_⟩
   ·have := (up i0).2 hi0
    rw [hr2] at this; cases this
   ·have hi1 := (up i).1 hi
    have hw := h.2 i hi1
    rw [mem_ready] at hi1
    obtain ⟨h0, o, ho, haft⟩ := hi1
    have g : i < l1.length := by have := (Array.getElem?_eq_some_iff.1 ho).1; simpa using this
    have ho1 : l1[i]? = some o := by simpa using ho
    have hoc : (l1 ++ l2).toArray[i]? = some o := by rw [List.getElem?_toArray, List.getElem?_append_left g]; exact ho1
    unfold wpOpIn at hw ⊢
    simp only [ho, hoc] at hw ⊢
    have hwant : Region.wanted o (yielded (l1 ++ l2).toArray a.tmps) = Region.wanted o (yielded l1.toArray a.tmps) := by
     unfold Region.wanted
     have hgo := List.all_eq_true.1 hg o (List.mem_of_getElem? ho1)
     split
     ·rfl
     ·rename_i j want he
      rw [he] at hgo
      have hj := zK hgo
      have : yielded (l1 ++ l2).toArray a.tmps j = yielded l1.toArray a.tmps j := by
       unfold yielded
       rw [List.getElem?_toArray, List.getElem?_toArray, List.getElem?_append_left hj]
      rw [this]
    rw [hwant]
    have next : ∀ a w, wpAnyIn F n P .any l1.toArray Qt f1 (listed1.setIfInBounds i true) a w → wpAnyIn F n P .any (l1 ++ l2).toArray Q f (listed.setIfInBounds i true) a w := by
     intro a w h
     refine ih _ _ a w (by simpa using hs1) (by simpa using hs) (fun j hj => ?_) (fun j hj hjl => ?_) h f (by omega)
     ·by_cases e : i = j
      ·subst e
       have : i < listed.size := by simp at hs; omega
       simp [Array.getD_eq_getD_getElem?, hs1, g, this]
      ·rw [getD_set_ne false e, getD_set_ne false e]; exact heq j hj
     ·rw [getD_set_ne false (by omega)]; exact hfa j hj hjl
    split at hw
    ·rename_i hq2
     rw [if_pos hq2]
     exact WV hq next hw
    ·rename_i hq2
     rw [if_neg hq2]
     exact ⟨hw.1, next _ _ hw.2⟩
end
section
variable {P : Program} {td : TDs} [T : TOK P td] {G : Glo} {N : Nat} {Q : AQ} {S Sb : SL} {L : List LB} {l l1 l2 : List Oper}
end
end
section
def reachE (l : List Oper) : Nat → List Edge → Nat → Bool
 | 0, x, m => hasE x m
 | f + 1, x, m => hasE x m || (List.range l.length).any fun j => hasE x j && (match l[j]? with | some o => reachE l f o.after.toList m | none => false)
theorem yn {l : List Oper} {listed : Array Bool} (hcl : ∀ (i : Nat) (o : Oper), l[i]? = some o → listed.getD i false = true → ∀ e ∈ o.after.toList, Region.binds .any e = true → listed.getD e.on false = true) :
  ∀ (f : Nat) (x : List Edge) (m : Nat), (∀ e ∈ x, Region.binds .any e = true → listed.getD e.on false = true) → reachE l f x m = true → listed.getD m false = true
 | 0, x, m, hx, h => by
  simp only [reachE] at h
  obtain ⟨e, he, hb, rfl⟩ := zX h
  exact hx e he hb
 | f + 1, x, m, hx, h => by
  simp only [reachE, Bool.or_eq_true, List.any_eq_true, Bool.and_eq_true] at h
  rcases h with h | ⟨j, _, h1, h2⟩
  ·obtain ⟨e, he, hb, rfl⟩ := zX h
   exact hx e he hb
  ·obtain ⟨e, he, hb, rfl⟩ := zX h1
   cases ho : l[e.on]? with
   | none => rw [ho] at h2; cases h2
   | some o =>
    rw [ho] at h2
    exact yn hcl f o.after.toList m (hcl e.on o ho (hx e he hb)) h2
section
variable {F : Fence} {n : Nat} {P : Program} {Q : Exit → Act → World → Prop} {l1 l2 : List Oper}
end
section
variable {P : Program} {td : TDs} [T : TOK P td] {G : Glo} {N : Nat} {Q : AQ} {S Sb : SL} {L : List LB} {l l1 l2 : List Oper}
end
end
end Go.Ac
namespace Go.Proofs.YtcfkokllinkigaaGreatDoor
section
open Go.Ac
attribute [local irreducible] awp awpL Ev Ev2 EvS thenQ blockQ retQ PCalls OCalls ICalls
variable {g : List (Nat × List AV)}
theorem QG (l : List UInt8) (hl : l.length ≤ 1000000) (n : Int) (h : Nm n) : PCalls Tryz.prog g 110 [encBy l, vi n] (encBy (l ++ vint n)) := by
 have := (PutInt_O (g := g) l (by omega) n h.1 (by have := h.2; omega)).toP
 rw [List.length_map] at this
 exact this
theorem PutText_P (l : List UInt8) (hl : l.length ≤ 1000000) (s : ByteArray) (hs : s.size ≤ 200) : PCalls Tryz.prog g 111 [encBy l, .v (.string s)] (encBy (l ++ vtext s)) := by
 have := (PutText_O (g := g) l (by omega) s (by omega)).toP
 rw [List.length_map] at this
 exact this
def manyB (l : List Int) (k : Nat) : List UInt8 := (l.take k).flatMap vint
theorem yK {l : List Int} {k : Nat} {x : Int} (h : l[k]? = some x) : manyB l (k + 1) = manyB l k ++ vint x := by
 unfold manyB
 rw [List.take_add_one, h]; simp
theorem manyB_len {l : List Int} (h : ∀ n ∈ l, Nm n) (k : Nat) : (manyB l k).length ≤ 6 * l.length := by
 have := wI (l := l.take k) fun n hn => h n (List.mem_of_mem_take hn)
 rw [List.length_take] at this
 unfold manyB; omega
def heldB (l : List Int) : Nat → AV
 | 0 => nilB
 | k + 1 => encBy (manyB l (k + 1))
theorem held_F (l : List Int) (k : Nat) : isF (heldB l k) = true := by cases k <;> rfl
theorem PutInt_held (l : List Int) (hl : ∀ n ∈ l, Nm n) (hn : l.length ≤ 1000) {k : Nat} {x : Int} (h : l[k]? = some x) : PCalls Tryz.prog g 110 [heldB l k, vi x] (heldB l (k + 1)) := by
 have hx := hl x (List.mem_of_getElem? h)
 have hm := manyB_len hl k
 have := QG (g := g) (manyB l k) (by omega) x hx
 rw [← yK h] at this
 cases k with
 | zero => exact this.args (asv := [nilB, vi x]) (.cons (Le.nil 1) (.cons (Le.rfl' _) .nil))
 | succ k => exact this
def overB (b : List UInt8) (l : List Stamp) (k : Nat) : List UInt8 := b ++ (l.take k).flatMap vstamp
theorem overB_succ {b : List UInt8} {l : List Stamp} {k : Nat} {x : Stamp} (h : l[k]? = some x) : overB b l (k + 1) = overB b l k ++ vint x.count ++ vint x.dev := by
 unfold overB
 rw [List.take_add_one, h]; simp [vstamp]
theorem overB_len {b : List UInt8} {l : List Stamp} (h : ∀ s ∈ l, right s = true) (k : Nat) : (overB b l k).length ≤ b.length + 12 * l.length := by
 have := ja (l := l.take k) fun n hn => h n (List.mem_of_mem_take hn)
 rw [List.length_take] at this
 unfold overB; rw [List.length_append]; omega
set_option maxRecDepth 8000 in
set_option maxHeartbeats 4000000 in
theorem Bytes_spec (hu : Utf g) (o : Op) (ho : opE o = 0) (hid : I64 o.note.id) : PCalls Tryz.prog g 86 [.agg (opC o)] (.tup [encBy (opBy o), vi 0]) := by
 have hC := Op_spec hu o hid
 rw [ho] at hC
 have hF := jP ho
 have z0 : (!decide ((0 : Int) = 0)) = false := rfl
 have hll : (headN o).length = 10 := rfl
 refine pcalls' Tryz.func86 Tryz.ntmps86 rfl rfl rfl ?_
 refine runn [] ?_
 refine zi (α := Nat) 0 (fun k => [(1, .fp (opC o)), (5, .fp (noteC o.note)), (6, heldB (headN o) k), (42, .fs 1 10 ((headN o).map intC)), (43, vi 10), (44, vi k)]) (fun _ => []) (fun k => k ≤ 10) (fun k => 10 - k) 0
  qw (Nat.zero_le _) ?_
 intro k hk
 cases ht : (headN o)[k]? with
 | some x =>
  have hlt := (List.getElem?_eq_some_iff.1 ht).1
  rw [hll] at hlt
  have c1 : decide ((k : Int) < 10) = true := decide_eq_true (by omega)
  have g1 := qI ht
  have hP := PutInt_held (g := g) (headN o) hF.head (by omega) ht
  generalize (headN o).map intC = es at *
  have hf := held_F (headN o) k
  repeat' (first
   | ((with_reducible refine zg ?_); refine qn rfl (by simp only [List.all_cons, List.all_nil, hf]; rfl) hP rfl ?_)
   | refine stn [] ?_
   | fail)
  exact ⟨k + 1, qw, by omega, by omega⟩
 | none =>
  have hge : (headN o).length ≤ k := by simpa using ht
  have hk10 : k = 10 := by omega
  subst hk10
  have c1 : decide (((10 : Nat) : Int) < 10) = false := rfl
  have hb0 : (manyB (headN o) 10).length ≤ 60 := by have := manyB_len hF.head 10; omega
  have hh : heldB (headN o) 10 = encBy (manyB (headN o) 10) := rfl
  have hmany : manyB (headN o) 10 = (headN o).flatMap vint := by unfold manyB; rw [List.take_of_length_le (by omega)]
  rw [hh]
  have e1 := PutText_P (g := g) (manyB (headN o) 10) (by omega) o.note.text hF.nt
  have l1 := jJ hF.nt
  have e2 := QG (g := g) (manyB (headN o) 10 ++ vtext o.note.text) (by rw [List.length_append]; omega) o.set (by have := hF.set; unfold Nm; omega)
  have l2 := zN (n := o.set) (by have := hF.set; omega)
  have e3 := QG (g := g) (manyB (headN o) 10 ++ vtext o.note.text ++ vint o.set) (by simp only [List.length_append]; omega) o.n (by have := hF.n; unfold Nm; omega)
  have l3 := zN (n := o.n) (by have := hF.n; omega)
  have e4 := PutText_P (g := g) (manyB (headN o) 10 ++ vtext o.note.text ++ vint o.set ++ vint o.n) (by simp only [List.length_append]; omega) o.text hF.tx
  have l4 := jJ hF.tx
  have e5 := QG (g := g) (manyB (headN o) 10 ++ vtext o.note.text ++ vint o.set ++ vint o.n ++ vtext o.text) (by simp only [List.length_append]; omega) o.over.length (by have := hF.ol; unfold Nm; omega)
  have l5 := zN (n := o.over.length) (by have := hF.ol; omega)
  have hlast : (manyB (headN o) 10 ++ vtext o.note.text ++ vint o.set ++ vint o.n ++ vtext o.text ++ vint o.over.length).length ≤ 1000 := by simp only [List.length_append]; omega
  have hend : overB (manyB (headN o) 10 ++ vtext o.note.text ++ vint o.set ++ vint o.n ++ vtext o.text ++ vint o.over.length) o.over o.over.length = opBy o := by
   unfold overB opBy
   rw [List.take_length, hmany]
  have h0 : overB (manyB (headN o) 10 ++ vtext o.note.text ++ vint o.set ++ vint o.n ++ vtext o.text ++ vint o.over.length) o.over 0 = manyB (headN o) 10 ++ vtext o.note.text ++ vint o.set ++ vint o.n ++ vtext o.text ++ vint o.over.length := by simp [overB]
  rw [← h0] at e5
  generalize manyB (headN o) 10 ++ vtext o.note.text ++ vint o.set ++ vint o.n ++ vtext o.text ++ vint o.over.length = b0 at *
  generalize manyB (headN o) 10 ++ vtext o.note.text ++ vint o.set ++ vint o.n ++ vtext o.text = b5 at *
  generalize manyB (headN o) 10 ++ vtext o.note.text ++ vint o.set ++ vint o.n = b4 at *
  generalize manyB (headN o) 10 ++ vtext o.note.text ++ vint o.set = b3 at *
  generalize manyB (headN o) 10 ++ vtext o.note.text = b2 at *
  generalize manyB (headN o) 10 = b1 at *
  generalize (headN o).map intC = es at *
  repeat' (first
   | ((with_reducible refine zJ ?_); (first | refine zC 7 (by simp only [List.take_succ_cons, List.take_zero, List.take_nil]; rfl) (by simp only [List.drop_succ_cons, List.drop_zero, List.drop_nil]; rfl) (by kernel_rfl) rfl rfl rfl rfl (by repeat' (first | exact Strip.nil | apply Strip.keep rfl | apply Strip.drop rfl)) ?_ | refine zC 8 (by simp only [List.take_succ_cons, List.take_zero, List.take_nil]; rfl) (by simp only [List.drop_succ_cons, List.drop_zero, List.drop_nil]; rfl) (by kernel_rfl) rfl rfl rfl rfl (by repeat' (first | exact Strip.nil | apply Strip.keep rfl | apply Strip.drop rfl)) ?_))
   | refine st [] ?_
   | fail)
  refine zi (α := Nat) 0 (fun j => [(1, .fp (opC o)), (6, encBy (overB b0 o.over j)), (72, .fs 2 o.over.length (o.over.map stampC)), (73, vi o.over.length), (74, vi j)]) (fun _ => []) (fun j => j ≤ o.over.length) (fun j => o.over.length - j) 0
   qw (Nat.zero_le _) ?_
  intro j hj
  cases hs : o.over[j]? with
  | none =>
   have hge : o.over.length ≤ j := by simpa using hs
   have hje : j = o.over.length := by omega
   subst hje
   have d1 : decide ((o.over.length : Int) < o.over.length) = false := decide_eq_false (by omega)
   rw [hend]
   refine runn [] ?_
   exact retP rfl rfl
  | some x =>
   have hlt := (List.getElem?_eq_some_iff.1 hs).1
   have d1 : decide ((j : Int) < o.over.length) = true := decide_eq_true (by omega)
   have g1 := Ze hs
   have hr := qb (hF.over x (List.mem_of_getElem? hs))
   have hol := overB_len (b := b0) hF.over j
   have ho16 := hF.ol
   have f1 := QG (g := g) (overB b0 o.over j) (by omega) x.count (by unfold Nm; omega)
   have lx := zN (n := x.count) (by omega)
   have f2 := QG (g := g) (overB b0 o.over j ++ vint x.count) (by rw [List.length_append]; omega) x.dev (by unfold Nm; omega)
   rw [← overB_succ hs] at f2
   repeat' (first
    | ((with_reducible refine zJ ?_); refine zC 7 (by simp only [List.take_succ_cons, List.take_zero, List.take_nil]; rfl) (by simp only [List.drop_succ_cons, List.drop_zero, List.drop_nil]; rfl) (by kernel_rfl) rfl rfl rfl rfl (by repeat' (first | exact Strip.nil | apply Strip.keep rfl | apply Strip.drop rfl)) ?_)
    | refine st [] ?_
    | fail)
   exact ⟨j + 1, qw, by omega, by omega⟩
end
end Go.Proofs.YtcfkokllinkigaaGreatDoor
namespace Go.Ac
section
section
variable {P : Program} {td : TDs} [T : TOK P td] {G : Glo} {N : Nat} {S : SL} {L : List LB} {ty : TypeId}
theorem ev_bslice_row {t e n k : Nat} {d ed : TD} {ps : Array (Nat × Operand)} {xs : List (Nat × AV)} {cs : List AV} {L' : List LB} (ht : lk td t = some d) (hs : d.k = .slice e) (he : lk td e = some ed) (hz : ed.zero.all (·.oneCell') = true)
  (hzl : Nat.beq ed.zero.length ed.size = true) (hone : ed.size = 1) (hx : partsV G S ps.toList = some xs) (hf : afill (fun i => some (i * ed.size, ed.size)) (zerosA ed.zero n) xs = some cs) (hsmall : Nat.ble (n * ed.size) 16777216 = true)
  (hlen : cs.length = n) (hk : L.length = k) (hL : L ++ [.row cs] = L') : Ev2 P G N (.buildSlice t n ps) ty S L (.os k 0) L' := by
 subst hk hL
 intro o ho _ cx a hc
 obtain ⟨arr, h1, h2, h3⟩ := QN (P := P) ht hs he hz hzl (by rw [hone]; rfl) hx hf hsmall hc
 have A := Alloc.alloc cx.w (.cells arr e)
 have hs' := SubX.new hc.st A ed.size n
 have hl := h2.length
 simp only [Array.length_toList] at hl
 have hn : n ≤ maxLen := by
  have h4 := Nat.le_of_ble_eq_true hsmall
  rw [hone] at h4
  simp only [maxLen]; omega
 have hb : BR G (cx.new L.length (cx.w.alloc (.cells arr e)) ed.size n) L.length (.row cs) := by
  simp only [BR, Cx.new, if_true]
  refine ⟨trivial, hone, hlen.symm, _, arr, e, rfl, A.new, by omega, MR.mk fun i z hi => ?_⟩
  obtain ⟨y, q1, q2, q3⟩ := h2.get hi
  refine ⟨y, ?_, R.mono hs' _ _ (Zh z) q2, q3⟩
  show (cx.w.alloc _).cell? _ = _
  rw [cell_of_row _ _ _ _ _ _ A.new]
  simpa using q1
 refine ⟨.slice (some ⟨cx.w.heap.size, 0, none⟩) n n, cx.new L.length (cx.w.alloc (.cells arr e)) ed.size n, ?_, ?_, hc.st.new A ed.size n hb⟩
 ·simp only [execOp, ho, Sem.run_bind, h1, Result.andThen_ok, Sem.run_pure]; rfl
 ·simp only [R, OS, Cx.new, if_true]
  exact ⟨.inr trivial, Nat.le_refl _, rfl, fun _ => .inr ⟨_, n, arr, e, rfl, rfl, A.new, Nat.le_refl _, hn, h3⟩⟩
theorem ev_len_row {t e : Nat} {d : TD} {u : Operand} {ats : Array TypeId} {k n : Nat} {cs : List AV} (h : val G S u = some (.os k 0)) (hL : L[k]? = some (.row cs)) (ht : lk td t = some d) (hk : d.k = .slice e)
  (hat : ats = #[t]) (hn : cs.length = n) : Ev P G N (.call { callee := .builtin .len, args := #[u], argTypes := ats }) ty S L (.v (.int .i64 n)) := by
 subst hn
 intro o ho _ cx a hcn
 have e1 := zn hcn h
 have hb := hcn.st.blk _ _ hL
 simp only [R, OS] at e1
 simp only [BR] at hb
 obtain ⟨hv, _, hl, _⟩ := hb
 refine ⟨.int .i64 cs.length, ?_, by simp only [R]⟩
 subst hat
 have hu := zH (P := P) ht hk
 have hgo : (Builtin.len_ #[t] o.type #[a.eval u]).run P cx.w = .ok (.int .i64 cs.length) cx.w := by
  rcases e1.2.2.2 hv with ⟨h0, e1, _⟩ | ⟨b, cap, arr, T', _, e1, _⟩
  ·simp [Builtin.len_, run_underlying hu, e1, goInt]; omega
  ·simp [Builtin.len_, run_underlying hu, e1, goInt]; omega
 simp [execOp, ho, resolve, invoke, builtin, hgo]
theorem Z6 {t e : Nat} {d ed : TD} {u q : Operand} {k j : Nat} {cs : List AV} {ik : IntKind} {i : Int} (h : val G S u = some (.os k 0)) (hL : L[k]? = some (.row cs)) (hi : val G S q = some (.v (.int ik i)))
  (ht : lk td t = some d) (hs : d.k = .slice e) (he : lk td e = some ed) (hsz : ed.size = 1) (hc : 0 ≤ i ∧ i < cs.length) (hj : i.toNat = j) : Ev P G N (.indexAddr t u q) ty S L (.lp k j) := by
 subst hj
 intro o ho _ cx a hcn
 have e1 := zn hcn h
 have e2 := zn hcn hi
 have hb := hcn.st.blk _ _ hL
 simp only [R, OS] at e1 e2
 simp only [BR] at hb
 obtain ⟨hv, hz, hl, _⟩ := hb
 obtain ⟨hk, hvl, _, e1⟩ := e1
 rcases e1 hv with ⟨h0, _, _⟩ | ⟨b, cap, arr, T', hb, e1, hh, hn, hm, hs'⟩
 ·omega
 ·refine ⟨_, by simp only [execOp, ho, e1, e2]; rw [Sem.run_bind, run_indexAt' (P := P) ht hs he cx.w b 0 (cx.len k) cap ik i (by omega)]; rfl, ?_⟩
  simp only [R]
  exact ⟨hk, rfl, fun _ => ⟨b, hb, by rw [hsz]; simp⟩⟩
theorem Z2 {t : Nat} {d : TD} {u : Operand} {k q : Nat} {bs : List AV} {c : AV} (h : val G S u = some (.lp k q)) (hk : L[k]? = some (.row bs)) (ht : lk td t = some d) (hr : d.k.row = false) (hcs : bs[q]? = some c) :
  Ev P G N (.load t u) ty S L c := by
 intro o ho _ cx a hc
 have e1 := zn hc h
 have hb := hc.st.blk _ _ hk
 simp only [R] at e1
 simp only [BR] at hb
 obtain ⟨hv0, _, _, b2, arr, T', hb2, hh, hl, hm⟩ := hb
 obtain ⟨hk', _, e1⟩ := e1
 obtain ⟨b, hb', e1⟩ := e1 hv0
 rw [hb'] at hb2; injection hb2 with hb2; subst hb2
 obtain ⟨y, hy, hx, _⟩ := hm.get hcs
 rw [Nat.zero_add] at hy
 exact ⟨y, by simp [execOp, ho, e1, Instr.loadAt, Instr.sureAddr, jp (P := P) ht hr hy], hx⟩
end
end
section
section monoE
variable {F : Fence} {n : Nat} {P : Program} {Q Q' : Exit → Act → World → Prop} (hq : ∀ e a w, e ≠ .normal → Q e a w → Q' e a w)
include hq
theorem uponIn_monoE {o : Oper} {a : Act} {K K' : Act → World → Prop} (hk : ∀ a w, K a w → K' a w) (r : Result Next) (h : o.uponIn F n P a K Q r) : o.uponIn F n P a K' Q' r := by
 cases r with
 | ok x w' =>
  cases x <;> simp only [Oper.uponIn] at h ⊢ <;>
   first
    | exact hk _ _ h
    | exact ⟨h.1, CallsIn.mono h.2 (fun e w'' he => by cases e <;> first | exact hk _ _ he | exact hq _ _ _ (fun q => by cases q) he | exact (let ⟨a, w, h⟩ := he; ⟨a, w, hq _ _ _ (fun q => by cases q) h⟩))⟩
    | exact ⟨h.1, RowsIn.mono h.2 (fun _ _ he => hk _ _ he)⟩
    | exact ⟨h.1, RoundIn.mono h.2 (fun e w'' he => by cases e <;> first | exact hk _ _ he | exact hq _ _ _ (fun q => by cases q) he | exact (let ⟨a, w, h⟩ := he; ⟨a, w, hq _ _ _ (fun q => by cases q) h⟩))⟩
 | halt x w' => cases x <;> simp only [Oper.uponIn] at h ⊢ <;> exact hq _ _ _ (fun q => by cases q) h
theorem wpIn_monoE {o : Oper} {a : Act} {w : World} {K K' : Act → World → Prop} (hk : ∀ a w, K a w → K' a w) (h : o.wpIn F n P a w K Q) : o.wpIn F n P a w K' Q' := ⟨h.1, uponIn_monoE hq hk _ h.2⟩
end monoE
section
variable {P : Program} {G : Glo} {N : Nat} {Q : AQ} {S : SL} {L : List LB} {ops : Array Oper}
theorem ZQ {F : Fence} {n : Nat} {Q Q' : Exit → Act → World → Prop} (hq : ∀ e a w, Q e a w → Q' e a w) : ∀ (fuel : Nat) (listed : Array Bool) (a : Act) (w : World), wpAnyIn F n P .any ops Q fuel listed a w → wpAnyIn F n P .any ops Q' fuel listed a w
 | 0, listed, a, w, h => ⟨h.1, hq _ _ _ h.2⟩
 | fuel + 1, listed, a, w, h => by
  refine ⟨fun e => hq _ _ _ (h.1 e), fun i hi => ?_⟩
  have := h.2 i hi
  unfold wpOpIn at this ⊢
  split at this
  ·exact ZQ hq fuel _ _ _ this
  ·split at this
   ·rename_i hw
    rw [if_pos hw]
    exact WU hq (fun a w h => ZQ hq fuel _ a w h) this
   ·rename_i hw
    rw [if_neg hw]
    exact ⟨this.1, ZQ hq fuel _ _ _ this.2⟩
def awpR (P : Program) (G : Glo) (N : Nat) (ops : Array Oper) (Q : AQ) (fuel : Nat) (listed : Array Bool) (S : SL) (L : List LB) : Prop :=
 ∀ (cx : Cx) (a : Act), Cn G N S L cx a → wpAnyIn (wf G.ro) 0 P .any ops (conc G N Q cx) fuel listed a cx.w
theorem awpR_end {fuel : Nat} {listed : Array Bool} (hr : Region.ready .any ops listed = []) (h : Q .normal S L) : awpR P G N ops Q fuel listed S L := by
 intro cx a hc
 have hq : conc G N Q cx .normal a cx.w := ⟨S, L, cx, h, hc, Ext.refl cx, rfl⟩
 cases fuel with
 | zero => exact ⟨hr, hq⟩
 | succ fuel => exact ⟨fun _ => hq, fun i hi => by rw [hr] at hi; cases hi⟩
abbrev nextR (P : Program) (G : Glo) (N : Nat) (ops : Array Oper) (Q : AQ) (fuel : Nat) (listed : Array Bool) : AQ := fun e S' L' => e = .normal ∧ awpR P G N ops Q fuel listed S' L'
theorem awpR_op {fuel : Nat} {listed : Array Bool} {i : Nat} {o : Oper} (ho : ops[i]? = some o) (h : awpL P G N ops [o] (nextR P G N ops Q fuel listed) S L) (cx : Cx) (a : Act) (hc : Cn G N S L cx a) :
  wpOpIn (wf G.ro) 0 P ops (conc G N Q cx) i (wpAnyIn (wf G.ro) 0 P .any ops (conc G N Q cx) fuel listed) a cx.w := by
 have h1 := h cx a hc
 have hk : ∀ (e : Exit) (a' : Act) (w' : World), conc G N (nextR P G N ops Q fuel listed) cx e a' w' → e = .normal ∧ wpAnyIn (wf G.ro) 0 P .any ops (conc G N Q cx) fuel listed a' w' := by
  rintro e a' w' ⟨S', L', c', ⟨rfl, h2⟩, hc', he, rfl⟩
  exact ⟨rfl, ZQ (fun e a w q => q.trans he) _ _ _ _ (h2 c' a' hc')⟩
 unfold wpOpIn
 simp only [ho]
 simp only [wpListIn] at h1
 split at h1
 ·rename_i hw
  rw [if_pos hw]
  exact wpIn_monoE (fun e a' w' hne q => absurd (hk e a' w' q).1 hne) (fun a' w' q => (hk _ a' w' q).2) h1
 ·rename_i hw
  rw [if_neg hw]
  exact ⟨h1.1, (hk _ _ _ h1.2).2⟩
def rdy (l : List Oper) (ds : List Bool) (i : Nat) : Bool := !(ds.getD i true) && (match l[i]? with
 | some o => o.after.toList.all fun e => !(Region.binds .any e) || ds.getD e.on false
 | none => false)
def readyL (l : List Oper) (ds : List Bool) : List Nat := (List.range l.length).filter (rdy l ds)
theorem wp {l : List Oper} {ds : List Bool} {i : Nat} : i ∈ Region.ready .any l.toArray ds.toArray ↔ i ∈ readyL l ds := by
 rw [mem_ready]
 constructor
 ·rintro ⟨h0, o, ho, ha⟩
  have ho' : l[i]? = some o := by simpa using ho
  refine List.mem_filter.2 ⟨List.mem_range.2 (List.getElem?_eq_some_iff.1 ho').1, ?_⟩
  unfold rdy
  rw [ho']
  simp only [Bool.and_eq_true, Bool.not_eq_true', List.all_eq_true, Bool.or_eq_true]
  refine ⟨by simpa using h0, fun e he => ?_⟩
  cases hb : Region.binds .any e with
  | false => exact .inl rfl
  | true => exact .inr (by simpa using ha e (by simpa using he) hb)
 ·intro h
  obtain ⟨h1, h2⟩ := List.mem_filter.1 h
  unfold rdy at h2
  cases ho : l[i]? with
  | none => rw [ho] at h2; simp at h2
  | some o =>
   rw [ho] at h2
   simp only [Bool.and_eq_true, Bool.not_eq_true', List.all_eq_true, Bool.or_eq_true] at h2
   refine ⟨by simpa using h2.1, o, by simpa using ho, fun e he hb => ?_⟩
   rcases h2.2 e (by simpa using he) with q | q
   ·rw [hb] at q; cases q
   ·simpa using q
def awpS (P : Program) (G : Glo) (N : Nat) (l : List Oper) (Q : AQ) (fuel : Nat) (ds : List Bool) (S : SL) (L : List LB) : Prop := awpR P G N l.toArray Q fuel ds.toArray S L
abbrev nextS (P : Program) (G : Glo) (N : Nat) (l : List Oper) (Q : AQ) (fuel : Nat) (ds : List Bool) : AQ := fun e S' L' => e = .normal ∧ awpS P G N l Q fuel ds S' L'
theorem nextS_n {l : List Oper} {fuel : Nat} {ds : List Bool} (h : awpS P G N l Q fuel ds S L) : nextS P G N l Q fuel ds .normal S L := ⟨rfl, h⟩
theorem awpS_end {l : List Oper} {fuel : Nat} {ds : List Bool} (hr : readyL l ds = []) (h : Q .normal S L) : awpS P G N l Q fuel ds S L := by
 refine awpR_end ?_ h
 cases hq : Region.ready .any l.toArray ds.toArray with
 | nil => rfl
 | cons i r =>
  have := (wp (l := l) (ds := ds) (i := i)).1 (by rw [hq]; exact List.mem_cons_self ..)
  rw [hr] at this; cases this
theorem awpS_op {l : List Oper} {fuel i : Nat} {ds : List Bool} {o : Oper} (ho : l[i]? = some o) (h : awpL P G N l.toArray [o] (nextS P G N l Q fuel (ds.set i true)) S L) (cx : Cx) (a : Act) (hc : Cn G N S L cx a) :
  wpOpIn (wf G.ro) 0 P l.toArray (conc G N Q cx) i (wpAnyIn (wf G.ro) 0 P .any l.toArray (conc G N Q cx) fuel (ds.toArray.setIfInBounds i true)) a cx.w := by
 refine awpR_op (by simpa using ho) (fun cx a hc => ?_) cx a hc
 have := h cx a hc
 unfold nextS awpS at this
 rw [← List.setIfInBounds_toArray] at this
 exact this
theorem Jb {l : List Oper} {fuel i0 : Nat} {r : List Nat} {ds : List Bool} (hr : readyL l ds = i0 :: r) (h : ∀ i ∈ i0 :: r, ∃ o, l[i]? = some o ∧ awpL P G N l.toArray [o] (nextS P G N l Q fuel (ds.set i true)) S L) : awpS P G N l Q (fuel + 1) ds S L := by
 intro cx a hc
 refine ⟨fun e => ?_, fun j hj => ?_⟩
 ·have : i0 ∈ Region.ready .any l.toArray ds.toArray := wp.2 (by rw [hr]; exact List.mem_cons_self ..)
  rw [e] at this; cases this
 ·obtain ⟨o, ho, h'⟩ := h j (by rw [← hr]; exact wp.1 hj)
  exact awpS_op ho h' cx a hc
theorem awpS_1 {l : List Oper} {fuel i : Nat} {ds : List Bool} {o : Oper} (hr : readyL l ds = [i]) (ho : l[i]? = some o) (h : awpL P G N l.toArray [o] (nextS P G N l Q fuel (ds.set i true)) S L) : awpS P G N l Q (fuel + 1) ds S L :=
 Jb hr fun j hj => by obtain rfl := List.mem_singleton.1 hj; exact ⟨o, ho, h⟩
theorem awpS_2 {l : List Oper} {fuel i j : Nat} {ds : List Bool} {o o' : Oper} (hr : readyL l ds = [i, j]) (ho : l[i]? = some o) (ho' : l[j]? = some o') (h : awpL P G N l.toArray [o] (nextS P G N l Q fuel (ds.set i true)) S L) (h' : awpL P G N l.toArray [o'] (nextS P G N l Q fuel (ds.set j true)) S L) : awpS P G N l Q (fuel + 1) ds S L :=
 Jb hr fun k hk => by
  simp only [List.mem_cons, List.not_mem_nil, or_false] at hk
  rcases hk with rfl | rfl
  ·exact ⟨o, ho, h⟩
  ·exact ⟨o', ho', h'⟩
theorem Yd {l : List Oper} {id n : Nat} {ds : List Bool} (hm : P.follows .mixedOrders = true) (hn : l.length = n) (hd : List.replicate n false = ds) (h : awpS P G N l Q n ds S L) : awp P G N (.region id l.toArray true) Q S L := by
 subst hn hd
 intro cx a hc
 refine wpIn_region_any hm ?_
 let cxd : Cx := { cx with w := { cx.w with drawn := cx.w.drawn + 1 } }
 have hsd : SubX allp cx cxd := ⟨fun _ h => h, fun _ _ => rfl, fun _ h _ => h, fun _ _ _ => Nat.le_refl _, fun _ _ _ _ => rfl, fun _ _ _ _ => rfl, fun _ _ _ _ => rfl, fun _ _ arr _ _ _ _ _ h => ⟨arr, h, rfl⟩⟩
 have hcd : Calm cx cxd := ⟨rfl, rfl, rfl, Nat.le_refl _, fun _ _ _ => rfl, fun _ h => .inl h, fun _ h => .inl h⟩
 have std : St G cxd L := hc.st.calm hcd hsd hc.st.n hc.st.dm rfl rfl rfl hc.st.inF hc.st.loc hc.st.inj (fun k x h => BR.mono hsd hcd rfl ⟨rfl, rfl, rfl, rfl⟩ (zM x) (fun _ _ => rfl) (hc.st.blk k x h)) (hc.st.pin.imp (fun h => h) fun h h' => h)
 have hex : Ext cx cxd := hcd.ext rfl rfl rfl hsd.all
 have h2 := ZQ (fun e a w q => q.trans hex) _ _ _ _ (h cxd a ⟨std, hc.de, hc.sz, hc.sr.mono_all hsd⟩)
 rw [show (List.replicate l.length false).toArray = Array.replicate l.toArray.size false by simp] at h2
 exact h2
end
end
end Go.Ac
namespace Go.Proofs.YtcfkokllinkigaaGreatDoor
section
open Go.Ac
attribute [local irreducible] awp awpL Ev Ev2 EvS thenQ blockQ retQ PCalls OCalls ICalls
variable {g : List (Nat × List AV)}
abbrev rdB (b : List UInt8) (at_ : Nat) : LB := .box [encBy b, vi at_, vi 0]
theorem up6 {cs : List AV} (h : noidL (low 4) cs = true) : noidL (low 6) cs = true := zY (fun k hk => Zb (by have := zK hk; omega)) cs h
abbrev tlA (oc ps zt : List AV) : List LB := [.box oc, .row ps]
abbrev tlB (oc ps zt : List AV) : List LB := [.pin, .box zt]
set_option maxRecDepth 8000 in
set_option maxHeartbeats 4000000 in
theorem ZI {b pre rest : List UInt8} {n : Int} (hn : Nm n) (hb : b = pre ++ vint n ++ rest) (hl : b.length ≤ 1000000) (z oc ps zt : List AV) (hz : noidL (low 4) z = true) (ho : noidL (low 4) oc = true) (hp : noidL (low 4) ps = true) (hs : noidL (low 4) zt = true) :
  ICalls Tryz.prog (Glo.of g) 140 [.lp 1 0] (.box z :: rdB b pre.length :: tlA oc ps zt) (.box z :: rdB b (pre.length + (vint n).length) :: tlA oc ps zt) (vi n) := by
 have hI := wS (g := g) hn.1 (by have := hn.2; omega) hb (by omega)
 have z0 : (!decide ((0 : Int) = 0)) = false := rfl
 refine icalls Tryz.func140 rfl Tryz.ntmps140 rfl rfl rfl rfl ?_ rfl ?_
 ·have u1 := up6 hz; have u2 := up6 ho; have u3 := up6 hp; have u4 := up6 hs
  simp only [List.all_cons, List.all_nil, List.length_cons, List.length_nil, noidB, encBy, noidL, noid, hz, ho, hp, hs, u1, u2, u3, u4, Bool.and_self, Nat.zero_add, Nat.reduceAdd]
 unfold encBy at *
 refine run [] ?_
 exact retI rfl ⟨rfl, rfl⟩
set_option maxRecDepth 8000 in
set_option maxHeartbeats 4000000 in
theorem number_B {b pre rest : List UInt8} {n : Int} (hn : Nm n) (hb : b = pre ++ vint n ++ rest) (hl : b.length ≤ 1000000) (z oc ps zt : List AV) (hz : noidL (low 4) z = true) (ho : noidL (low 4) oc = true) (hp : noidL (low 4) ps = true) (hs : noidL (low 4) zt = true) :
  ICalls Tryz.prog (Glo.of g) 140 [.lp 1 0] (.box z :: rdB b pre.length :: tlB oc ps zt) (.box z :: rdB b (pre.length + (vint n).length) :: tlB oc ps zt) (vi n) := by
 have hI := wS (g := g) hn.1 (by have := hn.2; omega) hb (by omega)
 have z0 : (!decide ((0 : Int) = 0)) = false := rfl
 refine icalls Tryz.func140 rfl Tryz.ntmps140 rfl rfl rfl rfl ?_ rfl ?_
 ·have u1 := up6 hz; have u2 := up6 ho; have u3 := up6 hp; have u4 := up6 hs
  simp only [List.all_cons, List.all_nil, List.length_cons, List.length_nil, noidB, encBy, noidL, noid, hz, ho, hp, hs, u1, u2, u3, u4, Bool.and_self, Nat.zero_add, Nat.reduceAdd]
 unfold encBy at *
 refine run [] ?_
 exact retI rfl ⟨rfl, rfl⟩
set_option maxRecDepth 8000 in
set_option maxHeartbeats 4000000 in
theorem text_A {b pre rest : List UInt8} {s : ByteArray} (hs0 : s.size ≤ 200) (hb : b = pre ++ vtext s ++ rest) (hl : b.length ≤ 1000000) (z oc ps zt : List AV) (hz : noidL (low 4) z = true) (ho : noidL (low 4) oc = true) (hp : noidL (low 4) ps = true) :
  ICalls Tryz.prog (Glo.of g) 141 [.lp 1 0] (.box z :: rdB b pre.length :: tlA oc ps zt) (.box z :: rdB b (pre.length + (vtext s).length) :: tlA oc ps zt) (.v (.string s)) := by
 have hI := Text_ok (g := g) (by omega) hb (by omega)
 have z0 : (!decide ((0 : Int) = 0)) = false := rfl
 refine icalls Tryz.func141 rfl Tryz.ntmps141 rfl rfl rfl rfl ?_ rfl ?_
 ·simp only [List.all_cons, List.all_nil, List.length_cons, List.length_nil, noidB, encBy, noidL, noid, hz, ho, hp, Bool.and_self, Nat.zero_add, Nat.reduceAdd]
 unfold encBy at *
 refine run [] ?_
 exact retI rfl ⟨rfl, rfl⟩
abbrev tl0 (oc ps : List AV) : List LB := []
set_option maxRecDepth 8000 in
set_option maxHeartbeats 4000000 in
theorem stamp_0 {b pre rest : List UInt8} {s : Stamp} (hr : right s = true) (hb : b = pre ++ vstamp s ++ rest) (hl : b.length ≤ 1000000) (z oc ps : List AV) (hz : noidL (low 2) z = true) (ho : noidL (low 4) oc = true) (hp : noidL (low 4) ps = true) :
  ICalls Tryz.prog (Glo.of g) 139 [.lp 1 0] (.box z :: rdB b pre.length :: tl0 oc ps) (.box z :: rdB b (pre.length + (vstamp s).length) :: tl0 oc ps) (.lag (stampC s)) := by
 have hnm := qb hr
 have hz4 : noidL (low 4) z = true := zY (fun k hk => Zb (by have := zK hk; omega)) z hz
 have n1 := number_B (g := g) (n := s.count) (by unfold Nm; omega) (show b = pre ++ vint s.count ++ (vint s.dev ++ rest) by rw [hb, vstamp]; simp) hl z oc ps [.v (.int .i64 0), .v (.int .i64 0)] hz4 ho hp rfl
 have n2 := number_B (g := g) (n := s.dev) (pre := pre ++ vint s.count) (by unfold Nm; omega) (show b = pre ++ vint s.count ++ vint s.dev ++ rest by rw [hb, vstamp]; simp) hl z oc ps [.v (.int .i64 0), .v (.int .i64 0)] hz4 ho hp rfl
 have e1 : (pre ++ vint s.count).length = pre.length + (vint s.count).length := List.length_append
 have e2 : pre.length + (vstamp s).length = pre.length + (vint s.count).length + (vint s.dev).length := by rw [vstamp, List.length_append]; omega
 rw [e1] at n2
 rw [e2]
 refine icalls Tryz.func139 rfl Tryz.ntmps139 rfl rfl rfl rfl ?_ rfl ?_
 ·simp only [List.all_cons, List.all_nil, List.length_cons, List.length_nil, noidB, encBy, noidL, noid, hz, hz4, ho, hp, Bool.and_self, Nat.zero_add, Nat.reduceAdd]
 unfold encBy at *
 repeat' (first
  | ((with_reducible refine zg ?_); (first | refine zv rfl n1 rfl ?_ | refine zv rfl n2 rfl ?_))
  | refine stn [2] ?_
  | fail)
 exact retI rfl ⟨rfl, rfl⟩
theorem up7 {cs : List AV} (h : noidL (low 5) cs = true) : noidL (low 7) cs = true := zY (fun k hk => Zb (by have := zK hk; omega)) cs h
abbrev tlO (v : Nat) (es : List (List AV)) (oc ps : List AV) : List LB := [.box oc, .row ps, .own v 77 2 es]
set_option maxRecDepth 8000 in
set_option maxHeartbeats 4000000 in
theorem number_O {b pre rest : List UInt8} {n : Int} (hn : Nm n) (hb : b = pre ++ vint n ++ rest) (hl : b.length ≤ 1000000) (v : Nat) (es : List (List AV)) (z oc ps zt : List AV) (hz : noidL (low 5) z = true) (ho : noidL (low 5) oc = true) (hp : noidL (low 5) ps = true) (hs : noidL (low 5) zt = true) :
  ICalls Tryz.prog (Glo.of g) 140 [.lp 1 0] (.box z :: rdB b pre.length :: (tlO v es oc ps ++ [.pin, .box zt])) (.box z :: rdB b (pre.length + (vint n).length) :: (tlO v es oc ps ++ [.pin, .box zt])) (vi n) := by
 have hI := wS (g := g) hn.1 (by have := hn.2; omega) hb (by omega)
 have z0 : (!decide ((0 : Int) = 0)) = false := rfl
 refine icalls Tryz.func140 rfl Tryz.ntmps140 rfl rfl rfl rfl ?_ rfl ?_
 ·have u1 := up7 hz; have u2 := up7 ho; have u3 := up7 hp; have u4 := up7 hs
  simp only [List.cons_append, List.nil_append, List.all_cons, List.all_nil, List.length_cons, List.length_nil, noidB, encBy, noidL, noid, u1, u2, u3, u4, Bool.and_self, Nat.zero_add, Nat.reduceAdd]
 unfold encBy at *
 refine run [] ?_
 exact retI rfl ⟨rfl, rfl⟩
set_option maxRecDepth 8000 in
set_option maxHeartbeats 4000000 in
theorem stamp_O {b pre rest : List UInt8} {s : Stamp} (hr : right s = true) (hb : b = pre ++ vstamp s ++ rest) (hl : b.length ≤ 1000000) (v : Nat) (es : List (List AV)) (z oc ps : List AV) (hz : noidL (low 5) z = true) (ho : noidL (low 5) oc = true) (hp : noidL (low 5) ps = true) :
  ICalls Tryz.prog (Glo.of g) 139 [.lp 1 0] (.box z :: rdB b pre.length :: tlO v es oc ps) (.box z :: rdB b (pre.length + (vstamp s).length) :: tlO v es oc ps) (.lag (stampC s)) := by
 have hnm := qb hr
 have n1 := number_O (g := g) (n := s.count) (by unfold Nm; omega) (show b = pre ++ vint s.count ++ (vint s.dev ++ rest) by rw [hb, vstamp]; simp) hl v es z oc ps [.v (.int .i64 0), .v (.int .i64 0)] hz ho hp rfl
 have n2 := number_O (g := g) (n := s.dev) (pre := pre ++ vint s.count) (by unfold Nm; omega) (show b = pre ++ vint s.count ++ vint s.dev ++ rest by rw [hb, vstamp]; simp) hl v es z oc ps [.v (.int .i64 0), .v (.int .i64 0)] hz ho hp rfl
 have e1 : (pre ++ vint s.count).length = pre.length + (vint s.count).length := List.length_append
 have e2 : pre.length + (vstamp s).length = pre.length + (vint s.count).length + (vint s.dev).length := by rw [vstamp, List.length_append]; omega
 rw [e1] at n2
 rw [e2]
 refine icalls Tryz.func139 rfl Tryz.ntmps139 rfl rfl rfl rfl ?_ rfl ?_
 ·simp only [List.all_cons, List.all_nil, List.length_cons, List.length_nil, noidB, encBy, noidL, noid, hz, ho, hp, Bool.and_self, Nat.zero_add, Nat.reduceAdd]
 unfold encBy at *
 repeat' (first
  | ((with_reducible refine zg ?_); (first | refine zv rfl n1 rfl ?_ | refine zv rfl n2 rfl ?_))
  | refine stn [2] ?_
  | fail)
 exact retI rfl ⟨rfl, rfl⟩
end
end Go.Proofs.YtcfkokllinkigaaGreatDoor
