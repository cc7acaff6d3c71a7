/- A logic of trees over the model's steps, and the contracts of the functions that the laws reach: part 10 of 19. -/
import Derived.Test.YtnacjdaoiepbhaaGreatDoorB9
set_option linter.unusedVariables false
set_option linter.unusedSimpArgs false
set_option linter.unusedSectionVars false
section
namespace Go.Proofs.YtnacjdaoiepbhaaGreatDoor
open Go.Ac
attribute [local irreducible] awp awpL Ev Ev2 EvS thenQ blockQ retQ PCalls OCalls
variable {g : List (Nat × List AV)}
def tierC (t : Tier) : List AV := [.v (.string t.name), .v (.int .i64 t.kind), .v (.int .i64 t.role), .v (.int .i64 t.parent)]
abbrev encTiers (l : List Tier) : AV := .fs 4 l.length (l.map tierC)
abbrev encNotes (l : List Note) : AV := .fs 7 l.length (l.map noteC)
def docC (d : Doc) : List AV := [.v (.int .i64 d.rec_.id), .v (.string d.rec_.name), .v (.int .i64 d.rec_.length), .v (.int .i64 d.rec_.day), encIs d.rec_.speakers, encTiers d.tiers, encNotes d.notes]
theorem note_get {l : List Note} {k : Nat} {x : Note} (h : l[k]? = some x) : 0 ≤ (k : Int) ∧ (l.map noteC)[(k : Int).toNat]? = some (noteC x) := ⟨by omega, by simp [h]⟩
theorem tier_get {l : List Tier} {i : Int} {x : Tier} (h : tierAt l i = some x) : 0 ≤ i ∧ i < l.length ∧ (0 ≤ i ∧ (l.map tierC)[i.toNat]? = some (tierC x)) := by
  unfold tierAt at h
  split at h
  · rename_i h0
    have := (List.getElem?_eq_some_iff.1 h).1
    exact ⟨h0, by omega, h0, by rw [List.getElem?_map, h]; rfl⟩
  · cases h
theorem tier_none {l : List Tier} {i : Int} (h : tierAt l i = none) : i < 0 ∨ 0 ≤ i ∧ (l.length : Int) ≤ i := by
  unfold tierAt at h
  split at h
  · rename_i h0
    have := List.getElem?_eq_none_iff.1 h
    exact .inr ⟨h0, by omega⟩
  · exact .inl (by omega)
def zeroNote : Note := ⟨0, 0, 0, ⟨0, 0⟩, 0, .empty⟩
abbrev getV (o : Option Note) : AV := .tup [.agg (noteC (o.getD zeroNote)), vb o.isSome]
set_option maxHeartbeats 1000000 in
theorem Get_spec (d : Doc) (n : Int) (hl : d.notes.length ≤ 1000000) : PCalls Tryz.prog g 53 [.agg (docC d), vi n] (getV (getN d.notes n)) := by
  refine pcalls' Tryz.func53 Tryz.ntmps53 rfl rfl rfl ?_
  repeat' (first
   | refine stn [4] ?_
   | ((with_reducible refine is_gd ?_); refine awpL_split rfl rfl (fun h => ?_) (fun h => ?_))
   | ((with_reducible refine is_awp ?_); refine awp_cond rfl (fun h => ?_) (fun h => ?_))
   | fail)
  refine awp_for (α := Nat) 1 (fun k => [(1, vi n), (4, .lp 0 0), (9, encNotes d.notes), (10, vi d.notes.length), (11, vi k)]) (fun k => [.box (noteC zeroNote)]) (fun k => k ≤ d.notes.length ∧ getN d.notes n = (d.notes.drop k).find? fun o => decide (o.id = n)) (fun k => d.notes.length - k) 0
    ⟨(.cons rfl rfl (.cons rfl rfl (.cons rfl rfl (.cons rfl rfl (.cons rfl rfl .nil))))), rfl, rfl, rfl⟩ ⟨Nat.zero_le _, rfl⟩ ?_
  rintro k ⟨hk, hf⟩
  cases ht : d.notes[k]? with
  | none =>
    have hge : d.notes.length ≤ k := by simpa using ht
    have c1 : decide ((k : Int) < d.notes.length) = false := decide_eq_false (by omega)
    rw [List.drop_of_length_le hge] at hf
    rw [hf]
    repeat' (first
     | refine stn [4] ?_
     | ((with_reducible refine is_gd ?_); refine awpL_split rfl rfl (fun h => ?_) (fun h => ?_))
     | ((with_reducible refine is_awp ?_); refine awp_cond rfl (fun h => ?_) (fun h => ?_))
     | fail)
    refine retP rfl ?_
    rfl
  | some x =>
    have hlt : k < d.notes.length := (List.getElem?_eq_some_iff.1 ht).1
    have c1 : decide ((k : Int) < d.notes.length) = true := decide_eq_true (by omega)
    have h1 := note_get ht
    rw [find_dropN ht] at hf
    by_cases hid : x.id = n
    · have d2 : decide (x.id = n) = true := decide_eq_true hid
      rw [d2] at hf
      rw [hf]
      repeat' (first
       | refine stn [4] ?_
       | ((with_reducible refine is_gd ?_); refine awpL_split rfl rfl (fun h => ?_) (fun h => ?_))
       | ((with_reducible refine is_awp ?_); refine awp_cond rfl (fun h => ?_) (fun h => ?_))
       | fail)
      refine retP rfl ?_
      rfl
    · have d2 : decide (x.id = n) = false := decide_eq_false hid
      rw [d2] at hf
      repeat' (first
       | refine stn [4] ?_
       | ((with_reducible refine is_gd ?_); refine awpL_split rfl rfl (fun h => ?_) (fun h => ?_))
       | ((with_reducible refine is_awp ?_); refine awp_cond rfl (fun h => ?_) (fun h => ?_))
       | fail)
      exact ⟨k + 1, ⟨(.cons rfl rfl (.cons rfl rfl (.cons rfl rfl (.cons rfl rfl (.cons rfl rfl .nil))))), rfl, rfl, rfl⟩, ⟨by omega, hf⟩, by omega⟩
set_option maxHeartbeats 1000000 in
theorem rGet_spec (d : Doc) (n : Int) (hl : d.notes.length ≤ 1000000) : PCalls Tryz.prog g 54 [.agg (docC d), vi n] (getV (getN d.notes n)) := by
  refine pcalls' Tryz.func54 Tryz.ntmps54 rfl rfl rfl ?_
  repeat' (first
   | refine stn [4] ?_
   | ((with_reducible refine is_gd ?_); refine awpL_split rfl rfl (fun h => ?_) (fun h => ?_))
   | ((with_reducible refine is_awp ?_); refine awp_cond rfl (fun h => ?_) (fun h => ?_))
   | fail)
  refine awp_for (α := Nat) 1 (fun k => [(1, vi n), (2, .fp (docC d)), (4, .lp 0 0), (6, vi k)]) (fun k => [.box (noteC zeroNote)]) (fun k => k ≤ d.notes.length ∧ getN d.notes n = (d.notes.drop k).find? fun o => decide (o.id = n)) (fun k => d.notes.length - k) 0
    ⟨(.cons rfl rfl (.cons rfl rfl (.cons rfl rfl (.cons rfl rfl .nil)))), rfl, rfl, rfl⟩ ⟨Nat.zero_le _, rfl⟩ ?_
  rintro k ⟨hk, hf⟩
  cases ht : d.notes[k]? with
  | none =>
    have hge : d.notes.length ≤ k := by simpa using ht
    have c1 : decide ((k : Int) < d.notes.length) = false := decide_eq_false (by omega)
    rw [List.drop_of_length_le hge] at hf
    rw [hf]
    repeat' (first
     | refine stn [4] ?_
     | ((with_reducible refine is_gd ?_); refine awpL_split rfl rfl (fun h => ?_) (fun h => ?_))
     | ((with_reducible refine is_awp ?_); refine awp_cond rfl (fun h => ?_) (fun h => ?_))
     | fail)
    refine retP rfl ?_
    rfl
  | some x =>
    have hlt : k < d.notes.length := (List.getElem?_eq_some_iff.1 ht).1
    have c1 : decide ((k : Int) < d.notes.length) = true := decide_eq_true (by omega)
    have h1 := note_get ht
    rw [find_dropN ht] at hf
    by_cases hid : x.id = n
    · have d2 : decide (x.id = n) = true := decide_eq_true hid
      rw [d2] at hf
      rw [hf]
      repeat' (first
       | refine stn [4] ?_
       | ((with_reducible refine is_gd ?_); refine awpL_split rfl rfl (fun h => ?_) (fun h => ?_))
       | ((with_reducible refine is_awp ?_); refine awp_cond rfl (fun h => ?_) (fun h => ?_))
       | fail)
      refine retP rfl ?_
      rfl
    · have d2 : decide (x.id = n) = false := decide_eq_false hid
      rw [d2] at hf
      repeat' (first
       | refine stn [4] ?_
       | ((with_reducible refine is_gd ?_); refine awpL_split rfl rfl (fun h => ?_) (fun h => ?_))
       | ((with_reducible refine is_awp ?_); refine awp_cond rfl (fun h => ?_) (fun h => ?_))
       | fail)
      exact ⟨k + 1, ⟨(.cons rfl rfl (.cons rfl rfl (.cons rfl rfl (.cons rfl rfl .nil)))), rfl, rfl, rfl⟩, ⟨by omega, hf⟩, by omega⟩
set_option maxHeartbeats 1000000 in
theorem al_spec (k : Int) : PCalls Tryz.prog g 117 [vi k] (vb (timed k)) := by
  refine pcalls' Tryz.func117 Tryz.ntmps117 rfl rfl rfl ?_
  unfold timed
  by_cases h0 : k = 0
  · have d0 : decide (k = 0) = true := decide_eq_true h0
    rw [d0]
    repeat' (first
     | refine stn [] ?_
     | ((with_reducible refine is_gd ?_); refine awpL_split rfl rfl (fun h => ?_) (fun h => ?_))
     | ((with_reducible refine is_awp ?_); refine awp_cond rfl (fun h => ?_) (fun h => ?_))
     | fail)
    exact retP rfl rfl
  have d0 : decide (k = 0) = false := decide_eq_false h0
  by_cases h1 : k = 1
  · have d1 : decide (k = 1) = true := decide_eq_true h1
    rw [d0, d1]
    repeat' (first
     | refine stn [] ?_
     | ((with_reducible refine is_gd ?_); refine awpL_split rfl rfl (fun h => ?_) (fun h => ?_))
     | ((with_reducible refine is_awp ?_); refine awp_cond rfl (fun h => ?_) (fun h => ?_))
     | fail)
    exact retP rfl rfl
  have d1 : decide (k = 1) = false := decide_eq_false h1
  by_cases h2 : k = 2
  · have d2 : decide (k = 2) = true := decide_eq_true h2
    rw [d0, d1, d2]
    repeat' (first
     | refine stn [] ?_
     | ((with_reducible refine is_gd ?_); refine awpL_split rfl rfl (fun h => ?_) (fun h => ?_))
     | ((with_reducible refine is_awp ?_); refine awp_cond rfl (fun h => ?_) (fun h => ?_))
     | fail)
    refine retP rfl ?_
    simp [ex, d2]
  have d2 : decide (k = 2) = false := decide_eq_false h2
  rw [d0, d1, d2]
  repeat' (first
   | refine stn [] ?_
   | ((with_reducible refine is_gd ?_); refine awpL_split rfl rfl (fun h => ?_) (fun h => ?_))
   | ((with_reducible refine is_awp ?_); refine awp_cond rfl (fun h => ?_) (fun h => ?_))
   | fail)
  refine retP rfl ?_
  simp [ex, d2]
set_option maxHeartbeats 1000000 in
theorem rtimed_spec (k : Int) : PCalls Tryz.prog g 148 [vi k] (vb (timed k)) := by
  refine pcalls' Tryz.func148 Tryz.ntmps148 rfl rfl rfl ?_
  unfold timed
  by_cases h0 : k = 0
  · have d0 : decide (k = 0) = true := decide_eq_true h0
    rw [d0]
    repeat' (first
     | refine stn [] ?_
     | ((with_reducible refine is_gd ?_); refine awpL_split rfl rfl (fun h => ?_) (fun h => ?_))
     | ((with_reducible refine is_awp ?_); refine awp_cond rfl (fun h => ?_) (fun h => ?_))
     | fail)
    exact retP rfl rfl
  have d0 : decide (k = 0) = false := decide_eq_false h0
  by_cases h1 : k = 1
  · have d1 : decide (k = 1) = true := decide_eq_true h1
    rw [d0, d1]
    repeat' (first
     | refine stn [] ?_
     | ((with_reducible refine is_gd ?_); refine awpL_split rfl rfl (fun h => ?_) (fun h => ?_))
     | ((with_reducible refine is_awp ?_); refine awp_cond rfl (fun h => ?_) (fun h => ?_))
     | fail)
    exact retP rfl rfl
  have d1 : decide (k = 1) = false := decide_eq_false h1
  by_cases h2 : k = 2
  · have d2 : decide (k = 2) = true := decide_eq_true h2
    rw [d0, d1, d2]
    repeat' (first
     | refine stn [] ?_
     | ((with_reducible refine is_gd ?_); refine awpL_split rfl rfl (fun h => ?_) (fun h => ?_))
     | ((with_reducible refine is_awp ?_); refine awp_cond rfl (fun h => ?_) (fun h => ?_))
     | fail)
    refine retP rfl ?_
    simp [ex, d2]
  have d2 : decide (k = 2) = false := decide_eq_false h2
  rw [d0, d1, d2]
  repeat' (first
   | refine stn [] ?_
   | ((with_reducible refine is_gd ?_); refine awpL_split rfl rfl (fun h => ?_) (fun h => ?_))
   | ((with_reducible refine is_awp ?_); refine awp_cond rfl (fun h => ?_) (fun h => ?_))
   | fail)
  refine retP rfl ?_
  simp [ex, d2]
set_option maxHeartbeats 1000000 in
theorem Aligned_spec (l : List Tier) (i : Int) (hl : l.length ≤ 1000000) : PCalls Tryz.prog g 84 [encTiers l, vi i] (vb (alignedT l i)) := by
  refine pcalls' Tryz.func84 Tryz.ntmps84 rfl rfl rfl ?_
  unfold alignedT
  cases ht : tierAt l i with
  | some t =>
    obtain ⟨h0, h1, h2⟩ := tier_get ht
    have d0 : decide (0 ≤ i) = true := decide_eq_true h0
    have d1 : decide (i < l.length) = true := decide_eq_true h1
    have hT := al_spec (g := g) t.kind
    repeat' (first
     | refine stn [] ?_
     | ((with_reducible refine is_gd ?_); refine awpL_split rfl rfl (fun h => ?_) (fun h => ?_))
     | ((with_reducible refine is_awp ?_); refine awp_cond rfl (fun h => ?_) (fun h => ?_))
     | fail)
    exact retP rfl rfl
  | none =>
    rcases tier_none ht with h | ⟨h, h'⟩
    · have d0 : decide (0 ≤ i) = false := decide_eq_false (by omega)
      repeat' (first
       | refine stn [] ?_
       | ((with_reducible refine is_gd ?_); refine awpL_split rfl rfl (fun h => ?_) (fun h => ?_))
       | ((with_reducible refine is_awp ?_); refine awp_cond rfl (fun h => ?_) (fun h => ?_))
       | fail)
      exact retP rfl rfl
    · have d0 : decide (0 ≤ i) = true := decide_eq_true h
      have d1 : decide (i < l.length) = false := decide_eq_false (by omega)
      repeat' (first
       | refine stn [] ?_
       | ((with_reducible refine is_gd ?_); refine awpL_split rfl rfl (fun h => ?_) (fun h => ?_))
       | ((with_reducible refine is_awp ?_); refine awp_cond rfl (fun h => ?_) (fun h => ?_))
       | fail)
      exact retP rfl rfl
set_option maxHeartbeats 1000000 in
theorem rAligned_spec (l : List Tier) (i : Int) (hl : l.length ≤ 1000000) : PCalls Tryz.prog g 114 [encTiers l, vi i] (vb (alignedT l i)) := by
  refine pcalls' Tryz.func114 Tryz.ntmps114 rfl rfl rfl ?_
  unfold alignedT
  cases ht : tierAt l i with
  | some t =>
    obtain ⟨h0, h1, h2⟩ := tier_get ht
    have d0 : decide (0 ≤ i) = true := decide_eq_true h0
    have d1 : decide (i < l.length) = true := decide_eq_true h1
    have hT := rtimed_spec (g := g) t.kind
    repeat' (first
     | refine stn [] ?_
     | ((with_reducible refine is_gd ?_); refine awpL_split rfl rfl (fun h => ?_) (fun h => ?_))
     | ((with_reducible refine is_awp ?_); refine awp_cond rfl (fun h => ?_) (fun h => ?_))
     | fail)
    exact retP rfl rfl
  | none =>
    rcases tier_none ht with h | ⟨h, h'⟩
    · have d0 : decide (0 ≤ i) = false := decide_eq_false (by omega)
      repeat' (first
       | refine stn [] ?_
       | ((with_reducible refine is_gd ?_); refine awpL_split rfl rfl (fun h => ?_) (fun h => ?_))
       | ((with_reducible refine is_awp ?_); refine awp_cond rfl (fun h => ?_) (fun h => ?_))
       | fail)
      exact retP rfl rfl
    · have d0 : decide (0 ≤ i) = true := decide_eq_true h
      have d1 : decide (i < l.length) = false := decide_eq_false (by omega)
      repeat' (first
       | refine stn [] ?_
       | ((with_reducible refine is_gd ?_); refine awpL_split rfl rfl (fun h => ?_) (fun h => ?_))
       | ((with_reducible refine is_awp ?_); refine awp_cond rfl (fun h => ?_) (fun h => ?_))
       | fail)
      exact retP rfl rfl
abbrev whereV (o : Option Span) : AV := .tup [.agg (spanC (o.getD ⟨0, 0⟩)), vb o.isSome]
set_option maxHeartbeats 2000000 in
theorem Where_spec (d : Doc) (id : Int) (m : Nat) (x : Option Span) (hw : whereF d m id = some x) (hl : d.notes.length ≤ 1000000) (ht : d.tiers.length ≤ 1000000) : PCalls Tryz.prog g 56 [.agg (docC d), vi id] (whereV x) := by
  have hG := fun n => Get_spec (g := g) d n hl
  have hA := fun i => Aligned_spec (g := g) d.tiers i ht
  have hG0 := hG id
  have n1 : (!true) = false := rfl
  have n2 : (!false) = true := rfl
  refine pcalls' Tryz.func56 Tryz.ntmps56 rfl rfl rfl ?_
  repeat' (first
   | refine stn [4, 6] ?_
   | ((with_reducible refine is_gd ?_); refine awpL_split rfl rfl (fun h => ?_) (fun h => ?_))
   | ((with_reducible refine is_awp ?_); refine awp_cond rfl (fun h => ?_) (fun h => ?_))
   | fail)
  refine awp_for2 (α := Nat) (β := Option Note) 2 (fun m o => [(1, vi id), (2, .fp (docC d)), (4, .lp 0 0), (6, .lp 1 0), (7, vb o.isSome)]) (fun m o => [.box (spanC ⟨0, 0⟩), .box (noteC (o.getD zeroNote))]) (fun m o => (match o with | none => x = none | some n => if alignedT d.tiers n.tier then x = some n.span else whereF d m n.parent = some x)) (fun m _ => m) (m - 1) (getN d.notes id)
    ⟨(.cons rfl rfl (.cons rfl rfl (.cons rfl rfl (.cons rfl rfl (.cons rfl rfl .nil))))), rfl, rfl, rfl⟩ ?_ ?_
  · cases m with
    | zero => cases hw
    | succ m =>
      simp only [whereF] at hw
      cases hg : getN d.notes id with
      | none => rw [hg] at hw; cases hw; rfl
      | some n =>
        rw [hg] at hw
        simp only [Nat.add_sub_cancel] at hw ⊢
        split
        · rename_i e; rw [if_pos e] at hw; cases hw; rfl
        · rename_i e; rw [if_neg e] at hw; exact hw
  rintro k o hi
  cases o with
  | none =>
    simp only at hi
    subst hi
    show awp _ _ _ _ _ [(1, vi id), (2, .fp (docC d)), (4, .lp 0 0), (6, .lp 1 0), (7, vb false)] [.box (spanC ⟨0, 0⟩), .box (noteC zeroNote)]
    repeat' (first
     | refine stn [4, 6] ?_
     | ((with_reducible refine is_gd ?_); refine awpL_split rfl rfl (fun h => ?_) (fun h => ?_))
     | ((with_reducible refine is_awp ?_); refine awp_cond rfl (fun h => ?_) (fun h => ?_))
     | fail)
    refine retP rfl ?_
    rfl
  | some n =>
    simp only at hi
    show awp _ _ _ _ _ [(1, vi id), (2, .fp (docC d)), (4, .lp 0 0), (6, .lp 1 0), (7, vb true)] [.box (spanC ⟨0, 0⟩), .box (noteC n)]
    have hAn := hA n.tier
    cases ha : alignedT d.tiers n.tier with
    | true =>
      rw [ha] at hi hAn
      simp only [if_true] at hi
      subst hi
      repeat' (first
       | refine stn [4, 6] ?_
       | ((with_reducible refine is_gd ?_); refine awpL_split rfl rfl (fun h => ?_) (fun h => ?_))
       | ((with_reducible refine is_awp ?_); refine awp_cond rfl (fun h => ?_) (fun h => ?_))
       | fail)
      refine retP rfl ?_
      rfl
    | false =>
      rw [ha] at hi hAn
      have hi : whereF d k n.parent = some x := hi
      have hGn := hG n.parent
      repeat' (first
       | refine stn [4, 6] ?_
       | ((with_reducible refine is_gd ?_); refine awpL_split rfl rfl (fun h => ?_) (fun h => ?_))
       | ((with_reducible refine is_awp ?_); refine awp_cond rfl (fun h => ?_) (fun h => ?_))
       | fail)
      cases k with
      | zero => cases hi
      | succ k =>
        refine ⟨k, getN d.notes n.parent, ⟨(.cons rfl rfl (.cons rfl rfl (.cons rfl rfl (.cons rfl rfl (.cons rfl rfl .nil))))), rfl, rfl, rfl⟩, ?_, by omega⟩
        simp only [whereF] at hi
        cases hg : getN d.notes n.parent with
        | none => rw [hg] at hi; cases hi; rfl
        | some p =>
          rw [hg] at hi
          simp only at hi ⊢
          split
          · rename_i e; rw [if_pos e] at hi; cases hi; rfl
          · rename_i e; rw [if_neg e] at hi; exact hi
end Go.Proofs.YtnacjdaoiepbhaaGreatDoor
end
section
namespace Go.Proofs.YtnacjdaoiepbhaaGreatDoor
open Go.Ac
attribute [local irreducible] awp awpL Ev Ev2 EvS thenQ blockQ retQ PCalls OCalls
variable {g : List (Nat × List AV)}
def restC (d : Doc) : Nat → Option Note → List Int
  | _, none => []
  | 0, some _ => []
  | m + 1, some n => n.id :: chainK d m n.parent
theorem chain_rest (d : Doc) (m : Nat) (id : Int) : chainK d m id = restC d m (getN d.notes id) := by
  cases m with
  | zero => cases getN d.notes id <;> rfl
  | succ m => simp only [chainK]; cases getN d.notes id <;> rfl
set_option maxHeartbeats 2000000 in
theorem rChain_spec (d : Doc) (id : Int) (hl : d.notes.length ≤ 1000000) (ht : d.tiers.length ≤ 100000) : PCalls Tryz.prog g 113 [.agg (docC d), vi id] (encIs (chainK d (d.tiers.length + 1) id)) := by
  have hG := fun n => rGet_spec (g := g) d n hl
  have hG0 := hG id
  have n1 : (!true) = false := rfl
  have n2 : (!false) = true := rfl
  refine pcalls' Tryz.func113 Tryz.ntmps113 rfl rfl rfl ?_
  repeat' (first
   | refine stn [6] ?_
   | ((with_reducible refine is_gd ?_); refine awpL_split rfl rfl (fun h => ?_) (fun h => ?_))
   | ((with_reducible refine is_awp ?_); refine awp_cond rfl (fun h => ?_) (fun h => ?_))
   | fail)
  refine awp_adopt (t := 5) (E := 3) (sz := 1) rfl rfl rfl ?_
  refine awp_for3 (α := Nat) (β := Option Note) (γ := List Int) 2 (fun i o out => [(1, vi id), (2, .fp (docC d)), (5, .os 1 0), (6, .lp 0 0), (7, vb o.isSome), (8, vi i)]) (fun i o out => [.box (noteC (o.getD zeroNote)), .own 0 3 1 (out.map intC)])
    (fun i o out => i ≤ d.tiers.length + 1 ∧ out.length ≤ i ∧ chainK d (d.tiers.length + 1) id = out ++ restC d (d.tiers.length + 1 - i) o) (fun i _ _ => d.tiers.length + 1 - i) 0 (getN d.notes id) []
    ⟨(.cons rfl rfl (.cons rfl rfl (.cons rfl rfl (.cons rfl rfl (.cons rfl rfl (.cons rfl rfl .nil)))))), rfl, rfl, rfl⟩ ⟨Nat.zero_le _, Nat.le_refl _, by rw [chain_rest]; rfl⟩ ?_
  rintro i o out ⟨hi, hol, hc⟩
  rcases Nat.lt_or_ge d.tiers.length i with hlt | hge
  · have c1 : decide ((i : Int) ≤ d.tiers.length) = false := decide_eq_false (by omega)
    rw [show d.tiers.length + 1 - i = 0 by omega] at hc
    have hr : restC d 0 o = [] := by cases o <;> rfl
    rw [hr, List.append_nil] at hc
    rw [hc]
    repeat' (first
     | refine stn [6] ?_
     | ((with_reducible refine is_gd ?_); refine awpL_split rfl rfl (fun h => ?_) (fun h => ?_))
     | ((with_reducible refine is_awp ?_); refine awp_cond rfl (fun h => ?_) (fun h => ?_))
     | fail)
    refine retP rfl ?_
    simp [ex]
  · have c1 : decide ((i : Int) ≤ d.tiers.length) = true := decide_eq_true (by omega)
    cases o with
    | none =>
      rw [show restC d (d.tiers.length + 1 - i) none = [] by cases (d.tiers.length + 1 - i) <;> rfl, List.append_nil] at hc
      rw [hc]
      show awp _ _ _ _ _ [(1, vi id), (2, .fp (docC d)), (5, .os 1 0), (6, .lp 0 0), (7, vb false), (8, vi i)] [.box (noteC zeroNote), .own 0 3 1 (out.map intC)]
      repeat' (first
       | refine stn [6] ?_
       | ((with_reducible refine is_gd ?_); refine awpL_split rfl rfl (fun h => ?_) (fun h => ?_))
       | ((with_reducible refine is_awp ?_); refine awp_cond rfl (fun h => ?_) (fun h => ?_))
       | fail)
      refine retP rfl ?_
      simp [ex]
    | some n =>
      have hGn := hG n.parent
      have hj : out.map intC ++ [intC n.id] = (out ++ [n.id]).map intC := by simp
      have hmb : (out.map intC).length ≤ 100000000 := by rw [List.length_map]; omega
      show awp _ _ _ _ _ [(1, vi id), (2, .fp (docC d)), (5, .os 1 0), (6, .lp 0 0), (7, vb true), (8, vi i)] [.box (noteC n), .own 0 3 1 (out.map intC)]
      repeat' (first
       | ((with_reducible refine is_un ?_); refine awpL_ev2 (ev_app (es' := (out ++ [n.id]).map intC) rfl rfl rfl rfl rfl rfl rfl rfl rfl rfl rfl rfl rfl (by simp only [List.length_map, List.length_cons, List.length_nil, List.length_append, List.length_take]; omega) hj rfl) rfl ?_)
       | refine stn [6] ?_
       | ((with_reducible refine is_gd ?_); refine awpL_split rfl rfl (fun h => ?_) (fun h => ?_))
       | ((with_reducible refine is_awp ?_); refine awp_cond rfl (fun h => ?_) (fun h => ?_))
       | fail)
      refine ⟨i + 1, getN d.notes n.parent, out ++ [n.id], ⟨(.cons rfl rfl (.cons rfl rfl (.cons rfl rfl (.cons rfl rfl (.cons rfl rfl (.cons rfl rfl .nil)))))), rfl, rfl, rfl⟩, ⟨by omega, by rw [List.length_append]; simp; omega, ?_⟩, by omega⟩
      rw [hc, List.append_assoc]
      congr 1
      rw [show d.tiers.length + 1 - i = (d.tiers.length + 1 - (i + 1)) + 1 by omega]
      simp only [restC]
      rw [chain_rest]
      rfl
theorem firstAl_drop {d : Doc} {l : List Int} {k : Nat} {id : Int} {n : Note} (h : l[k]? = some id) (hn : getN d.notes id = some n) : firstAl d (l.drop k) = if alignedT d.tiers n.tier then some n.span else firstAl d (l.drop (k + 1)) := by
  obtain ⟨h1, h2⟩ := List.getElem?_eq_some_iff.1 h
  rw [List.drop_eq_getElem_cons h1, h2]
  simp only [firstAl, hn]
set_option maxHeartbeats 2000000 in
theorem rWhere_spec (d : Doc) (id : Int) (hl : d.notes.length ≤ 1000000) (ht : d.tiers.length ≤ 100000) : PCalls Tryz.prog g 82 [.agg (docC d), vi id] (whereV (firstAl d (chainK d (d.tiers.length + 1) id))) := by
  have hC := rChain_spec (g := g) d id hl (by omega)
  have hcl := chainK_len d (d.tiers.length + 1) id
  have hcm := fun x => chainK_mem (d := d) (m := d.tiers.length + 1) (id := id) (x := x)
  have n1 : (!true) = false := rfl
  have n2 : (!false) = true := rfl
  refine pcalls' Tryz.func82 Tryz.ntmps82 rfl rfl rfl ?_
  generalize chainK d (d.tiers.length + 1) id = l at *
  repeat' (first
   | refine stn [4] ?_
   | ((with_reducible refine is_gd ?_); refine awpL_split rfl rfl (fun h => ?_) (fun h => ?_))
   | ((with_reducible refine is_awp ?_); refine awp_cond rfl (fun h => ?_) (fun h => ?_))
   | fail)
  refine awp_for (α := Nat) 1 (fun k => [(2, .fp (docC d)), (4, .lp 0 0), (6, encIs l), (7, vi k)]) (fun k => [.box (spanC ⟨0, 0⟩)]) (fun k => k ≤ l.length ∧ firstAl d l = firstAl d (l.drop k)) (fun k => l.length - k) 0
    ⟨(.cons rfl rfl (.cons rfl rfl (.cons rfl rfl (.cons rfl rfl .nil)))), rfl, rfl, rfl⟩ ⟨Nat.zero_le _, rfl⟩ ?_
  rintro k ⟨hk, hf⟩
  cases hx : l[k]? with
  | none =>
    have hge : l.length ≤ k := by simpa using hx
    have c1 : decide ((k : Int) < l.length) = false := decide_eq_false (by omega)
    rw [List.drop_of_length_le hge] at hf
    rw [hf]
    repeat' (first
     | refine stn [4] ?_
     | ((with_reducible refine is_gd ?_); refine awpL_split rfl rfl (fun h => ?_) (fun h => ?_))
     | ((with_reducible refine is_awp ?_); refine awp_cond rfl (fun h => ?_) (fun h => ?_))
     | fail)
    refine retP rfl ?_
    rfl
  | some x =>
    have hlt : k < l.length := (List.getElem?_eq_some_iff.1 hx).1
    have c1 : decide ((k : Int) < l.length) = true := decide_eq_true (by omega)
    have h1 := int_get hx
    obtain ⟨n, hn⟩ := hcm x (List.mem_of_getElem? hx)
    rw [firstAl_drop hx hn] at hf
    have hG := rGet_spec (g := g) d x hl
    rw [getV, hn] at hG
    simp only [Option.getD_some, Option.isSome_some] at hG
    have hA := rAligned_spec (g := g) d.tiers n.tier (by omega)
    cases ha : alignedT d.tiers n.tier with
    | true =>
      rw [ha] at hf hA
      rw [hf]
      repeat' (first
       | refine st [4] ?_
       | ((with_reducible refine is_gd ?_); refine awpL_split rfl rfl (fun h => ?_) (fun h => ?_))
       | ((with_reducible refine isD_gd ?_); ((fail_if_success (refine isD_kn (c := true) rfl (by first | with_reducible rfl | with_reducible assumption) ?_)); (fail_if_success (refine isD_kn (c := false) rfl (by first | with_reducible rfl | with_reducible assumption) ?_)); refine awpD_split rfl (fun h => ?_) (fun h => ?_)))
       | ((with_reducible refine is_awp ?_); refine awp_cond rfl (fun h => ?_) (fun h => ?_))
       | fail)
      refine retP rfl ?_
      rfl
    | false =>
      rw [ha] at hf hA
      repeat' (first
       | refine st [4] ?_
       | ((with_reducible refine is_gd ?_); refine awpL_split rfl rfl (fun h => ?_) (fun h => ?_))
       | ((with_reducible refine isD_gd ?_); ((fail_if_success (refine isD_kn (c := true) rfl (by first | with_reducible rfl | with_reducible assumption) ?_)); (fail_if_success (refine isD_kn (c := false) rfl (by first | with_reducible rfl | with_reducible assumption) ?_)); refine awpD_split rfl (fun h => ?_) (fun h => ?_)))
       | ((with_reducible refine is_awp ?_); refine awp_cond rfl (fun h => ?_) (fun h => ?_))
       | fail)
      exact ⟨k + 1, ⟨(.cons rfl rfl (.cons rfl rfl (.cons rfl rfl (.cons rfl rfl .nil)))), rfl, rfl, rfl⟩, ⟨by omega, hf⟩, by omega⟩
end Go.Proofs.YtnacjdaoiepbhaaGreatDoor
end
section
namespace Go.Ac
theorem PCalls.sub {P : Program} {g g' : List (Nat × List AV)} {f : FuncId} {args : List AV} {r : AV} (h : PCalls P g f args r) (hs : ∀ p ∈ g, p ∈ g') : PCalls P g' f args r := by
  refine ⟨h.1, fun F w vs st ha => ?_⟩
  have st0 : St (Glo.of g) (Cx.bare F w) [] :=
    ⟨st.n, st.dm, st.inF, st.loc, st.inj, fun k x h => by simp at h, fun p hp => st.glob p (hs p hp), st.envd, st.mkd, st.mkE, st.mks, st.pin⟩
  refine (h.2 F w vs st0 ha).mono ?_
  rintro e w' ⟨y, F', he, hr, st', hx⟩
  refine ⟨y, F', he, hr, ⟨st'.n, st'.dm, st'.inF, st'.loc, st'.inj, fun k x h => by simp at h, fun q hq => ?_, st'.envd, st'.mkd, st'.mkE, st'.mks, st'.pin⟩, hx⟩
  have hp := hx.pin
  exact ⟨hp.F _ (st.glob q hq).1, MF.mono hp.F hp.heap _ _ _ (hp.heap _ (st.glob q hq).1) (st.glob q hq).2.1, (st.glob q hq).2.2.keep (hp.heap _ (st.glob q hq).1)⟩
end Go.Ac
end
section
namespace Go.Proofs.YtnacjdaoiepbhaaGreatDoor
open Go.Lib
def sgnd (n : Int) (m : Nat) : Int := if n < 0 then -(m : Int) else m
theorem sgnd_self (n : Int) : sgnd n n.natAbs = n := by unfold sgnd; split <;> omega
theorem sgnd_zero (n : Int) (m : Nat) : sgnd n m = 0 ↔ m = 0 := by unfold sgnd; split <;> omega
theorem sgnd_bound (n : Int) (m : Nat) (hm : m ≤ n.natAbs) (h : -9223372036854775808 ≤ n ∧ n ≤ 9223372036854775807) : -9223372036854775808 ≤ sgnd n m ∧ sgnd n m ≤ 9223372036854775807 := by unfold sgnd; split <;> omega
theorem sgnd_div (n : Int) (m : Nat) : (sgnd n m).tdiv 10 = sgnd n (m / 10) := by
  unfold sgnd
  split
  · rw [Int.neg_tdiv, Int.tdiv_eq_ediv_of_nonneg (by omega)]; omega
  · rw [Int.tdiv_eq_ediv_of_nonneg (by omega)]; omega
theorem sgnd_mod (n : Int) (m : Nat) : (sgnd n m).tmod 10 = sgnd n (m % 10) := by
  unfold sgnd
  split
  · rw [Int.neg_tmod, Int.tmod_eq_emod_of_nonneg (by omega)]; omega
  · rw [Int.tmod_eq_emod_of_nonneg (by omega)]; omega
theorem sgnd_small (n : Int) (m : Nat) : -9 ≤ sgnd n (m % 10) ∧ sgnd n (m % 10) ≤ 9 := by unfold sgnd; split <;> omega
def lastD (m : Nat) : UInt8 := UInt8.ofNat (48 + m % 10)
theorem lastD_nat (m : Nat) : (lastD m).toNat = 48 + m % 10 := by
  have hm : (48 + m % 10) % 256 = 48 + m % 10 := Nat.mod_eq_of_lt (by omega)
  simp [lastD, UInt8.toNat_ofNat', hm]
def restD (m : Nat) (l : List UInt8) : List UInt8 := (if m = 0 then [] else decDigits m) ++ l
theorem restD_step {m : Nat} (h : m ≠ 0) (l : List UInt8) : restD (m / 10) (lastD m :: l) = restD m l := by
  unfold restD
  rw [if_neg h]
  by_cases hs : m < 10
  · rw [if_pos (by omega), decDigits, dif_pos hs]
    have : m % 10 = m := Nat.mod_eq_of_lt hs
    simp [lastD, this]
  · rw [if_neg (by omega)]
    conv => rhs; rw [decDigits, dif_neg hs]
    simp [lastD]
theorem restD_len (m : Nat) (l : List UInt8) : l.length ≤ (restD m l).length := by unfold restD; simp
theorem nDigits_20 (u : Nat) (h : u < 18446744073709551616) : nDigits u ≤ 20 := by
  rcases Nat.eq_zero_or_pos u with h0 | h0
  · subst h0; rw [nDigits_small (by omega)]; omega
  · have := numDigits_eq u h0 h
    split at this <;> omega
theorem itoa_len (n : Int) (h : -9223372036854775808 ≤ n ∧ n ≤ 9223372036854775807) : 1 ≤ (itoa n).length ∧ (itoa n).length ≤ 21 := by
  unfold itoa
  split
  · rw [List.length_cons, decDigits_length]
    have := nDigits_20 n.natAbs (by omega)
    omega
  · rw [decDigits_length]
    have := nDigits_20 n.toNat (by omega)
    have := nDigits_pos n.toNat
    omega
theorem numT_len (n : Int) (h : -9223372036854775808 ≤ n ∧ n ≤ 9223372036854775807) : 1 ≤ (numT n).size ∧ (numT n).size ≤ 21 := by
  have := itoa_len n h
  simpa [numT, ByteArray.size] using this
theorem bytes_cat (a b : List UInt8) : (⟨a.toArray⟩ : ByteArray) ++ ⟨b.toArray⟩ = ⟨(a ++ b).toArray⟩ := by
  apply ByteArray.ext
  simp [ByteArray.data_append]
theorem numT_neg {n : Int} (h : n < 0) : numT n = ⟨(45 :: decDigits n.natAbs).toArray⟩ := by unfold numT itoa; rw [if_pos h]
theorem numT_pos {n : Int} (h : ¬ n < 0) : numT n = ⟨(decDigits n.natAbs).toArray⟩ := by unfold numT itoa; rw [if_neg h]; rw [show n.toNat = n.natAbs by omega]
theorem numT_dig {n : Nat} (h : n < 10) : numT n = ⟨#[UInt8.ofNat (48 + n)]⟩ := by
  rw [numT_pos (by omega), show (n : Int).natAbs = n by omega, decDigits_one h]
end Go.Proofs.YtnacjdaoiepbhaaGreatDoor
end
section
namespace Go.Proofs.YtnacjdaoiepbhaaGreatDoor
open Go.Ac
attribute [local irreducible] awp awpL Ev Ev2 EvS thenQ blockQ retQ PCalls OCalls
variable {g : List (Nat × List AV)}
theorem u8_small {n : Int} {m : Nat} (h : n = m) (hm : m < 256) : IntKind.u8.wrap n = (m : Int) := by
  subst h
  rw [IntKind.wrap_u8]; omega
set_option maxHeartbeats 2000000 in
theorem rNText_spec (n : Int) (h : -9223372036854775808 ≤ n ∧ n ≤ 9223372036854775807) : PCalls Tryz.prog g 38 [vi n] (.v (.string (numT n))) := by
  refine pcalls' Tryz.func38 Tryz.ntmps38 rfl rfl rfl ?_
  by_cases h0 : n = 0
  · have c0 : decide (n = 0) = true := decide_eq_true h0
    repeat' (first
     | refine stn [] ?_
     | ((with_reducible refine is_gd ?_); refine awpL_split rfl rfl (fun h => ?_) (fun h => ?_))
     | ((with_reducible refine is_awp ?_); refine awp_cond rfl (fun h => ?_) (fun h => ?_))
     | fail)
    refine retP rfl ?_
    subst h0
    rw [show (0 : Int) = ((0 : Nat) : Int) from rfl, numT_dig (by omega)]
    rfl
  have c0 : decide (n = 0) = false := decide_eq_false h0
  repeat' (first
   | refine stn [] ?_
   | ((with_reducible refine is_gd ?_); refine awpL_split rfl rfl (fun h => ?_) (fun h => ?_))
   | ((with_reducible refine is_awp ?_); refine awp_cond rfl (fun h => ?_) (fun h => ?_))
   | fail)
  refine awp_for2 (α := Nat) (β := List UInt8) 0 (fun m l => [(0, vi n), (3, .v (.string ⟨l.toArray⟩)), (4, vi (sgnd n m))]) (fun _ _ => []) (fun m l => m ≤ n.natAbs ∧ restD m l = Go.Lib.decDigits n.natAbs) (fun m _ => m) n.natAbs []
    (by rw [sgnd_self]; exact ⟨(.cons rfl rfl (.cons rfl rfl (.cons rfl rfl .nil))), rfl, rfl, rfl⟩) ⟨Nat.le_refl _, by unfold restD; rw [if_neg (by omega)]; simp⟩ ?_
  rintro m l ⟨hm, hl⟩
  have hb := sgnd_bound n m hm h
  by_cases hz : m = 0
  · have c1 : (!decide (sgnd n m = 0)) = false := by simp [sgnd_zero, hz]
    have hl' : l = Go.Lib.decDigits n.natAbs := by rw [← hl, hz]; rfl
    have hsz : (⟨l.toArray⟩ : ByteArray).size ≤ 21 := by
      rw [hl']
      have := nDigits_20 n.natAbs (by omega)
      simp only [ByteArray.size, List.size_toArray, Go.Lib.decDigits_length]; omega
    by_cases hn : n < 0
    · have c2 : decide (n < 0) = true := decide_eq_true hn
      have e1 : (⟨#[45]⟩ : ByteArray) ++ ⟨l.toArray⟩ = numT n := by
        rw [numT_neg hn, hl', show (⟨#[45]⟩ : ByteArray) = ⟨[45].toArray⟩ from rfl, bytes_cat]; rfl
      have e2 : (⟨#[45]⟩ : ByteArray).size = 1 := rfl
      repeat' (first
       | ((with_reducible refine is_un ?_); refine awpL_ev (ev_catE rfl rfl (by omega) e1) rfl ?_)
       | refine stn [] ?_
       | ((with_reducible refine is_gd ?_); refine awpL_split rfl rfl (fun h => ?_) (fun h => ?_))
       | ((with_reducible refine is_awp ?_); refine awp_cond rfl (fun h => ?_) (fun h => ?_))
       | fail)
      exact retP rfl rfl
    · have c2 : decide (n < 0) = false := decide_eq_false hn
      have e1 : (⟨l.toArray⟩ : ByteArray) = numT n := by rw [numT_pos hn, hl']
      rw [e1]
      repeat' (first
       | refine stn [] ?_
       | ((with_reducible refine is_gd ?_); refine awpL_split rfl rfl (fun h => ?_) (fun h => ?_))
       | ((with_reducible refine is_awp ?_); refine awp_cond rfl (fun h => ?_) (fun h => ?_))
       | fail)
      exact retP rfl rfl
  · have c1 : (!decide (sgnd n m = 0)) = true := by simp [sgnd_zero, hz]
    have hq := sgnd_div n m
    have hr := sgnd_mod n m
    have hs := sgnd_small n m
    have hst := restD_step hz l
    have hd : (48 + m % 10 : Nat) < 256 := by omega
    have hk := lastD_nat m
    have hsz : (⟨l.toArray⟩ : ByteArray).size ≤ 21 := by
      have h1 := restD_len m l
      have := nDigits_20 n.natAbs (by omega)
      rw [hl, Go.Lib.decDigits_length] at h1
      simp only [ByteArray.size, List.size_toArray]; omega
    have e2 : (⟨[lastD m].toArray⟩ : ByteArray).size = 1 := rfl
    have e3 : (⟨[lastD m].toArray⟩ : ByteArray) ++ ⟨l.toArray⟩ = ⟨(lastD m :: l).toArray⟩ := by rw [bytes_cat]; rfl
    have hb2 : [[AV.v (.int .u8 (lastD m).toNat)]] = bytesL [lastD m] := rfl
    by_cases hn : sgnd n (m % 10) < 0
    · have c2 : decide (sgnd n (m % 10) < 0) = true := decide_eq_true hn
      have hw : IntKind.u8.wrap (48 + -sgnd n (m % 10)) = ((lastD m).toNat : Int) := by
        rw [hk]; refine u8_small ?_ hd
        unfold sgnd at hn ⊢; split at hn <;> rename_i hx <;> simp only [hx, if_true, if_false] <;> omega
      repeat' (first
       | ((with_reducible refine is_un ?_); (first | refine awpL_ev (ev_neg rfl ⟨by omega, by omega⟩) rfl ?_ | refine awpL_ev (ev_conv_int rfl rfl rfl rfl hw) rfl ?_ | refine awpL_ev (ev_bts rfl rfl rfl rfl rfl rfl rfl hb2 rfl) rfl ?_ | refine awpL_ev (ev_tdivE rfl rfl ⟨by omega, hb⟩ hq) rfl ?_ | refine awpL_ev (ev_tmodE rfl rfl (by omega) hr) rfl ?_ | refine awpL_ev (ev_catE rfl rfl (by omega) e3) rfl ?_))
       | refine stn [] ?_
       | ((with_reducible refine is_gd ?_); refine awpL_split rfl rfl (fun h => ?_) (fun h => ?_))
       | ((with_reducible refine is_awp ?_); refine awp_cond rfl (fun h => ?_) (fun h => ?_))
       | fail)
      exact ⟨m / 10, lastD m :: l, ⟨(.cons rfl rfl (.cons rfl rfl (.cons rfl rfl .nil))), rfl, rfl, rfl⟩, ⟨by omega, by rw [hst, hl]⟩, by omega⟩
    · have c2 : decide (sgnd n (m % 10) < 0) = false := decide_eq_false hn
      have hw : IntKind.u8.wrap (48 + sgnd n (m % 10)) = ((lastD m).toNat : Int) := by
        rw [hk]; refine u8_small ?_ hd
        unfold sgnd at hn ⊢; split at hn <;> rename_i hx <;> simp only [hx, if_true, if_false] <;> omega
      repeat' (first
       | ((with_reducible refine is_un ?_); (first | refine awpL_ev (ev_neg rfl ⟨by omega, by omega⟩) rfl ?_ | refine awpL_ev (ev_conv_int rfl rfl rfl rfl hw) rfl ?_ | refine awpL_ev (ev_bts rfl rfl rfl rfl rfl rfl rfl hb2 rfl) rfl ?_ | refine awpL_ev (ev_tdivE rfl rfl ⟨by omega, hb⟩ hq) rfl ?_ | refine awpL_ev (ev_tmodE rfl rfl (by omega) hr) rfl ?_ | refine awpL_ev (ev_catE rfl rfl (by omega) e3) rfl ?_))
       | refine stn [] ?_
       | ((with_reducible refine is_gd ?_); refine awpL_split rfl rfl (fun h => ?_) (fun h => ?_))
       | ((with_reducible refine is_awp ?_); refine awp_cond rfl (fun h => ?_) (fun h => ?_))
       | fail)
      exact ⟨m / 10, lastD m :: l, ⟨(.cons rfl rfl (.cons rfl rfl (.cons rfl rfl .nil))), rfl, rfl, rfl⟩, ⟨by omega, by rw [hst, hl]⟩, by omega⟩
end Go.Proofs.YtnacjdaoiepbhaaGreatDoor
end
