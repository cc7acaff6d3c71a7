/- A logic of trees over the model's steps, and the contracts of the functions that the laws reach: part 15 of 20. -/
import Derived.Test.YtigcjinpkngapaaGreatDoorC14
set_option linter.unusedVariables false
set_option linter.unusedSimpArgs false
set_option linter.unusedSectionVars false
section
namespace Go.Proofs.YtigcjinpkngapaaGreatDoor
open Go.RowKit Go.Shelf Go.Lib Go.Sort
set_option maxHeartbeats 1000000 in
theorem zOr3 (a b c : Int) (g : Nat) (w : World) (h0 : w.cell? ⟨g, 0, none⟩ = some (.int .i64 a)) (h1 : w.cell? ⟨g, 1, none⟩ = some (.int .i64 b)) (h2 : w.cell? ⟨g, 2, none⟩ = some (.int .i64 c)) :
    Calls Tryz.prog 112 #[.slice (some ⟨g, 0, none⟩) 3 3] w fun e w' => e = .returned (.int .i64 (if a ≠ 0 then a else if b ≠ 0 then b else c)) ∧ w' = w := by
  go_enter Tryz.func112, Tryz.ntmps112
  go_wp2
  go_loop [5, 8] (fun _ i => i = .int .i64 0 ∨ (i = .int .i64 1 ∧ a = 0) ∨ (i = .int .i64 2 ∧ a = 0 ∧ b = 0) ∨ (i = .int .i64 3 ∧ a = 0 ∧ b = 0 ∧ c = 0)) (fun _ i => 3 - (intOf i).toNat)
  case atStart => exact .inl rfl
  case round =>
    rcases hrel with rfl | ⟨rfl, ha⟩ | ⟨rfl, ha, hb⟩ | ⟨rfl, ha, hb, hc⟩
    · by_cases h : a = 0
      · go_wp2
        go_round
        case rel => exact .inr (.inl ⟨by go_num, h⟩)
        case measure => simp [intOf]
      · go_wp2
        go_ret
        exact ⟨by simp [h], rfl⟩
    · by_cases h : b = 0
      · go_wp2
        go_round
        case rel => exact .inr (.inr (.inl ⟨by go_num, ha, h⟩))
        case measure => simp [intOf]
      · go_wp2
        go_ret
        exact ⟨by simp [ha, h], rfl⟩
    · by_cases h : c = 0
      · go_wp2
        go_round
        case rel => exact .inr (.inr (.inr ⟨by go_num, ha, hb, h⟩))
        case measure => simp [intOf]
      · go_wp2
        go_ret
        exact ⟨by simp [ha, hb], rfl⟩
    · go_wp2
      go_ret
      exact ⟨by simp [ha, hb, hc], rfl⟩
def cmpNt (x y : Note) : Int := if zcmp x.parent y.parent ≠ 0 then zcmp x.parent y.parent else if zcmp x.span.fro y.span.fro ≠ 0 then zcmp x.span.fro y.span.fro else zcmp x.rank y.rank
set_option maxRecDepth 20000 in
set_option maxHeartbeats 4000000 in
theorem zOrder (a0 a1 a2 a3 a4 a5 : Int) (sa : ByteArray) (b0 b1 b2 b3 b4 b5 : Int) (sb : ByteArray) (W : World) :
    Calls Tryz.prog 81 #[.agg #[.int .i64 a0, .int .i64 a1, .int .i64 a2, .int .i64 a3, .int .i64 a4, .int .i64 a5, .string sa], .agg #[.int .i64 b0, .int .i64 b1, .int .i64 b2, .int .i64 b3, .int .i64 b4, .int .i64 b5, .string sb]] W
      fun e w' => e = .returned (.int .i64 (cmpNt ⟨a0, a1, a2, ⟨a3, a4⟩, a5, sa⟩ ⟨b0, b1, b2, ⟨b3, b4⟩, b5, sb⟩)) ∧ ∃ q os', w' = grow (W.drewN q) os' := by
  have e55 : ∀ args w, (callFunc 113 args).run Tryz.prog w = .ok (.enter 113 args) w := enters_of Tryz.func113 (by kernel_rfl) rfl
  have e54 : ∀ args w, (callFunc 112 args).run Tryz.prog w = .ok (.enter 112 args) w := enters_of Tryz.func112 (by kernel_rfl) rfl
  unfold cmpNt
  simp only
  go_enter Tryz.func81, Tryz.ntmps81
  go_wp2
  generalize hw : World.alloc (World.alloc W _) _ = w1
  have c2 : w1.drew.cell? ⟨W.heap.size, 2, none⟩ = some (.int .i64 a2) := by rw [← hw]; exact (cells2 W _ _ _ _).1
  have c3 : w1.drew.cell? ⟨W.heap.size, 3, none⟩ = some (.int .i64 a3) := by rw [← hw]; exact (cells2 W _ _ _ _).1
  have c5 : w1.drew.cell? ⟨W.heap.size, 5, none⟩ = some (.int .i64 a5) := by rw [← hw]; exact (cells2 W _ _ _ _).1
  have d2 : w1.drew.cell? ⟨W.heap.size + 1, 2, none⟩ = some (.int .i64 b2) := by rw [← hw]; exact (cells2 W _ _ _ _).2
  have d3 : w1.drew.cell? ⟨W.heap.size + 1, 3, none⟩ = some (.int .i64 b3) := by rw [← hw]; exact (cells2 W _ _ _ _).2
  have d5 : w1.drew.cell? ⟨W.heap.size + 1, 5, none⟩ = some (.int .i64 b5) := by rw [← hw]; exact (cells2 W _ _ _ _).2
  have hg : ∃ q os', w1.drew = grow (W.drewN q) os' := ⟨1, _, by rw [← hw, alloc_eq_grow, alloc_eq_grow, grow_grow]; rfl⟩
  clear hw
  refine wp_region_still_tail 17 (by kernel_rfl) (by kernel_rfl) ?_
  simp only [List.take_succ_cons, List.take_zero, List.drop_succ_cons, List.drop_zero]
  show wpStill Tryz.prog _ w1.drew (fun a' => wpList Tryz.prog _ _ _ a' w1.drew) _ _
  generalize w1.drew = w2 at *
  repeat (first | still_step | still_call (zCompare _ _ _))
  refine wpStill_nil ?_
  go_wp2_with (go_at_call 112; refine (zOr3 _ _ _ _ _ (cells1 _ _ _ _) (cells1 _ _ _ _) (cells1 _ _ _ _)).mono ?_; rintro e w' ⟨rfl, hw'⟩; rw [hw'])
  all_goals (obtain ⟨q, os', rfl⟩ := hg)
  all_goals go_ret
  all_goals exact ⟨rfl, q, _, grown1 _ _ _⟩
def sortNotes_ren : Go.Shelf.Ren := ⟨fun | 6 => 80 | 15 => 111 | 14 => 110 | 28 => 145 | 29 => 146 | 20 => 137 | 21 => 138 | 22 => 139 | 23 => 140 | 24 => 141 | 25 => 142 | 26 => 143 | 27 => 144 | 46 => 168 | 47 => 169 | 48 => 170 | 49 => 171 | 50 => 172 | 57 => 191 | n => n, fun | 22 => 26 | 24 => 55 | 25 => 115 | 3 => 3 | 39 => 118 | 0 => 0 | 53 => 182 | 55 => 153 | 4 => 4 | 46 => 176 | 45 => 175 | 50 => 124 | 5 => 5 | 9 => 9 | 66 => 200 | 70 => 204 | 76 => 220 | 77 => 210 | n => n, fun n => n⟩
theorem sortNotes : Go.Proofs.SlLaysF0.n6 Tryz.prog sortNotes_ren := {
  mixed := by kernel_rfl
  f6 := ⟨ "slices.SortFunc[[]langdoc/api.Note,langdoc/api.Note]", by kernel_rfl, Tryz.func80.trans (congrArg some (by kernel_rfl))⟩
  f14 := ⟨ "slices.pdqsortCmpFunc[langdoc/api.Note]", by kernel_rfl, Tryz.func110.trans (congrArg some (by kernel_rfl))⟩
  f15 := Tryz.func111.trans (congrArg some (by kernel_rfl))
  f20 := ⟨ "slices.insertionSortCmpFunc[langdoc/api.Note]", by kernel_rfl, Tryz.func137.trans (congrArg some (by kernel_rfl))⟩
  f21 := ⟨ "slices.heapSortCmpFunc[langdoc/api.Note]", by kernel_rfl, Tryz.func138.trans (congrArg some (by kernel_rfl))⟩
  f22 := ⟨ "slices.breakPatternsCmpFunc[langdoc/api.Note]", by kernel_rfl, Tryz.func139.trans (congrArg some (by kernel_rfl))⟩
  f23 := ⟨ "slices.choosePivotCmpFunc[langdoc/api.Note]", by kernel_rfl, Tryz.func140.trans (congrArg some (by kernel_rfl))⟩
  f24 := ⟨ "slices.reverseRangeCmpFunc[langdoc/api.Note]", by kernel_rfl, Tryz.func141.trans (congrArg some (by kernel_rfl))⟩
  f25 := ⟨ "slices.partialInsertionSortCmpFunc[langdoc/api.Note]", by kernel_rfl, Tryz.func142.trans (congrArg some (by kernel_rfl))⟩
  f26 := ⟨ "slices.partitionEqualCmpFunc[langdoc/api.Note]", by kernel_rfl, Tryz.func143.trans (congrArg some (by kernel_rfl))⟩
  f27 := ⟨ "slices.partitionCmpFunc[langdoc/api.Note]", by kernel_rfl, Tryz.func144.trans (congrArg some (by kernel_rfl))⟩
  f28 := Tryz.func145.trans (congrArg some (by kernel_rfl))
  f29 := Tryz.func146.trans (congrArg some (by kernel_rfl))
  f46 := ⟨ "slices.siftDownCmpFunc[langdoc/api.Note]", by kernel_rfl, Tryz.func168.trans (congrArg some (by kernel_rfl))⟩
  f47 := Tryz.func169.trans (congrArg some (by kernel_rfl))
  f48 := Tryz.func170.trans (congrArg some (by kernel_rfl))
  f49 := ⟨ "slices.medianAdjacentCmpFunc[langdoc/api.Note]", by kernel_rfl, Tryz.func171.trans (congrArg some (by kernel_rfl))⟩
  f50 := ⟨ "slices.medianCmpFunc[langdoc/api.Note]", by kernel_rfl, Tryz.func172.trans (congrArg some (by kernel_rfl))⟩
  f57 := ⟨ "slices.order2CmpFunc[langdoc/api.Note]", by kernel_rfl, Tryz.func191.trans (congrArg some (by kernel_rfl))⟩
  t0 := Tryz.underlying0
  a0 := Tryz.isAgg0
  z0 := Tryz.sizeOf0
  v0 := Tryz.zeroValue0
  t3 := Tryz.underlying3
  a3 := Tryz.isAgg3
  z3 := Tryz.sizeOf3
  v3 := Tryz.zeroValue3
  t4 := Tryz.underlying4
  a4 := Tryz.isAgg4
  z4 := Tryz.sizeOf4
  v4 := Tryz.zeroValue4
  t5 := Tryz.underlying5
  a5 := Tryz.isAgg5
  z5 := Tryz.sizeOf5
  v5 := Tryz.zeroValue5
  t9 := Tryz.underlying9
  a9 := Tryz.isAgg9
  z9 := Tryz.sizeOf9
  v9 := Tryz.zeroValue9
  t22 := Tryz.underlying26
  a22 := Tryz.isAgg26
  z22 := Tryz.sizeOf26
  v22 := Tryz.zeroValue26
  t25 := Tryz.underlying115
  a25 := Tryz.isAgg115
  z25 := Tryz.sizeOf115
  v25 := Tryz.zeroValue115
  t39 := Tryz.underlying118
  a39 := Tryz.isAgg118
  z39 := Tryz.sizeOf118
  v39 := Tryz.zeroValue118
  t45 := Tryz.underlying175
  a45 := Tryz.isAgg175
  z45 := Tryz.sizeOf175
  v45 := Tryz.zeroValue175
  t46 := Tryz.underlying176
  a46 := Tryz.isAgg176
  z46 := Tryz.sizeOf176
  v46 := Tryz.zeroValue176
  t50 := Tryz.underlying124
  a50 := Tryz.isAgg124
  z50 := Tryz.sizeOf124
  v50 := Tryz.zeroValue124
  t53 := Tryz.underlying182
  a53 := Tryz.isAgg182
  z53 := Tryz.sizeOf182
  v53 := Tryz.zeroValue182
  t55 := Tryz.underlying153
  a55 := Tryz.isAgg153
  z55 := Tryz.sizeOf153
  v55 := Tryz.zeroValue153
  t66 := Tryz.underlying200
  a66 := Tryz.isAgg200
  z66 := Tryz.sizeOf200
  v66 := Tryz.zeroValue200
  t70 := Tryz.underlying204
  a70 := Tryz.isAgg204
  z70 := Tryz.sizeOf204
  v70 := Tryz.zeroValue204
  t76 := Tryz.underlying220
  a76 := Tryz.isAgg220
  z76 := Tryz.sizeOf220
  v76 := Tryz.zeroValue220
  t77 := Tryz.underlying210
  a77 := Tryz.isAgg210
  z77 := Tryz.sizeOf210
  v77 := Tryz.zeroValue210 }
def encNt (n : Note) : List Value := [.int .i64 n.id, .int .i64 n.tier, .int .i64 n.parent, .int .i64 n.span.fro, .int .i64 n.span.til, .int .i64 n.rank, .string n.text]
theorem ltNt (a b : Note) : ltOf cmpNt a b = keyLt a b := by
  unfold ltOf cmpNt
  have h : ∀ x y : Int, zcmp x y = 0 ↔ x = y := fun x y => zcmp_zero
  have l : ∀ x y : Int, zcmp x y < 0 ↔ x < y := fun x y => by have := zcmp_lt x y; simpa using this
  rw [Bool.eq_iff_iff]
  simp only [keyLt, ne_eq, decide_eq_true_eq, Bool.or_eq_true, Bool.and_eq_true]
  by_cases e1 : a.parent = b.parent
  · rw [if_neg (fun q => q ((h _ _).2 e1))]
    by_cases e2 : a.span.fro = b.span.fro
    · rw [if_neg (fun q => q ((h _ _).2 e2)), l]; omega
    · rw [if_pos (fun q => e2 ((h _ _).1 q)), l]; omega
  · rw [if_pos (fun q => e1 ((h _ _).1 q)), l]; omega
theorem keyLt_iff {a b : Note} : keyLt a b = true ↔ a.parent < b.parent ∨ a.parent = b.parent ∧ (a.span.fro < b.span.fro ∨ a.span.fro = b.span.fro ∧ a.rank < b.rank) := by
  simp only [keyLt, Bool.or_eq_true, Bool.and_eq_true, decide_eq_true_eq]
theorem swoNt : SWO (ltOf cmpNt) where
  irrefl x := by rw [ltNt, key_iff]; omega
  trans x y z h1 h2 := by rw [ltNt, keyLt_iff] at *; omega
  ntrans x y z h1 h2 := by rw [ltNt, key_iff] at *; omega
theorem laysNt (blk off size : Nat) (w : World) : CmpLays Tryz.prog 81 #[] encNt 7 cmpNt blk off size w :=
  fun _ _ _ _ x y => zOrder x.id x.tier x.parent x.span.fro x.span.til x.rank x.text y.id y.tier y.parent y.span.fro y.span.til y.rank y.text _
theorem sortNotes_calls (d : List Note) (blk cap : Nat) (w : World) (hsz : d.length ≤ 1000000) (hH : HoldsK encNt 7 w blk 0 d.toArray) (hb : blk < w.heap.size) :
    Calls Tryz.prog 80 #[.slice (some ⟨blk, 0, none⟩) d.toArray.size cap, .func (.func 81) #[] #[]] w fun e w' => e = .returned (.tuple #[]) ∧ ∃ d' n os, PermIn 0 d.toArray.size d.toArray d' ∧ SortedIn (ltOf cmpNt) 0 d.toArray.size d' ∧ w' = sortWorldK encNt 7 w blk 0 n d' os :=
  AnyQ.slices_SortFunc sortNotes 7 Tryz.isAgg55 Tryz.sizeOf55 encNt (fun _ => rfl) (fun x v hv => by simp [encNt] at hv; rcases hv with rfl | rfl | rfl | rfl | rfl | rfl | rfl <;> rfl) cmpNt swoNt 81 #[] blk 0 cap d.toArray w
    (enters_of Tryz.func81 (by kernel_rfl) rfl) (laysNt blk 0 d.toArray.size w) hH hb (by simp; omega)
theorem sortNotes_none (w : World) : Calls Tryz.prog 80 #[.slice none 0 0, .func (.func 81) #[] #[]] w fun e w' => e = .returned (.tuple #[]) ∧ ∃ n os, w' = Go.Sort.grow (Go.Sort.ahead w n) os :=
  (AnyF.slices_SortFunc_none (P := Tryz.prog) (ρ := sortNotes_ren) sortNotes none 0 (.func (.func 81) #[] #[]) w).mono fun _ _ ⟨h1, h2⟩ => ⟨h1, 0, #[], by rw [h2]; simp [Go.Sort.grow]⟩
end Go.Proofs.YtigcjinpkngapaaGreatDoor
end
