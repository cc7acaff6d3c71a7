/- A logic of trees over the model's steps, and the contracts of the functions that the laws reach: part 9 of 20. -/
import Derived.Test.YtigcjinpkngapaaGreatDoorC8
import Derived.Shelf.Strings.Builder2
import Derived.Test.YtigcjinpkngapaaGreatDoorProg
import Derived.WalkKit
import Derived.StillTailTactics
import Derived.Deep.QuietTactic
import Derived.BigQuiet
import Derived.Lib.Small
import Derived.Lib.Walk
import Derived.Sort.Grow
import Derived.Shelf.Lays
import Derived.Shelf.SlSortCmp.WholeK
import Derived.Maps.RangeRun
import Derived.Shelf.SlSortCmp.NoneTotal
import Derived.Shelf.SlGeneric
set_option linter.unusedVariables false
set_option linter.unusedSimpArgs false
set_option linter.unusedSectionVars false
section
namespace Go.Proofs.YtigcjinpkngapaaGreatDoor
open Go.RowKit Go.Lib Go.Shelf
def laysGrw_ren : Go.Shelf.Ren := ⟨fun | 241 => 152 | 277 => 177 | n => n, fun | 70 => 81 | 3 => 3 | 0 => 0 | 72 => 83 | 37 => 75 | 5 => 5 | n => n, fun n => n⟩
theorem laysGrw : Go.Proofs.Lays.n241 Tryz.prog laysGrw_ren := {
  mixed := by kernel_rfl
  f241 := Tryz.func152.trans (congrArg some (by kernel_rfl))
  f277 := Tryz.func177.trans (congrArg some (by kernel_rfl))
  t0 := Tryz.underlying0
  a0 := Tryz.isAgg0
  z0 := Tryz.sizeOf0
  v0 := Tryz.zeroValue0
  t3 := Tryz.underlying3
  a3 := Tryz.isAgg3
  z3 := Tryz.sizeOf3
  v3 := Tryz.zeroValue3
  t37 := Tryz.underlying75
  a37 := Tryz.isAgg75
  z37 := Tryz.sizeOf75
  v37 := Tryz.zeroValue75
  t70 := Tryz.underlying81
  a70 := Tryz.isAgg81
  z70 := Tryz.sizeOf81
  v70 := Tryz.zeroValue81
  t72 := Tryz.underlying83
  a72 := Tryz.isAgg83
  z72 := Tryz.sizeOf83
  v72 := Tryz.zeroValue83 }
theorem extGrw : Builder.Extra Tryz.prog laysGrw_ren := { sizeBuilder := by kernel_rfl, liesBuilder := by kernel_rfl, t5 := Tryz.underlying5, a5 := Tryz.isAgg5, z5 := Tryz.sizeOf5, v5 := Tryz.zeroValue5, infoByte := by kernel_rfl, cellsByte := by kernel_rfl, sizeByte := by kernel_rfl, neB5 := by decide }
set_option maxHeartbeats 4000000 in
set_option maxRecDepth 100000 in
theorem zGrow (B b n : Nat) (w : World) (hB : B ≤ b) (hbk : w.heap[b]? = some (.cells #[.pointer none, .slice none 0 0] 83 (0, 0))) (hBw : B ≤ w.heap.size) (hn : n ≤ 281474976710656) :
    Calls Tryz.prog 115 #[.pointer (some ⟨b, 0, none⟩), .int .i64 n] w fun e w' => e = .returned (.tuple #[]) ∧ Bld B b [] w' ∧ Below B w w' := by
  generalize hw1 : w.setCell ⟨b, 0, none⟩ (.pointer (some ⟨b, 0, none⟩)) = w1
  have k1 : w1.heap[b]? = some (.cells #[.pointer (some ⟨b, 0, none⟩), .slice none 0 0] 83 (0, 0)) := by
    rw [← hw1]; simp [World.setCell, Array.getElem?_modify, hbk]
  have k2 : w1.cell? ⟨b, 1, none⟩ = some (.slice none 0 0) := by rw [Lib.cell_of_heap k1]; rfl
  have k3 : Below B w w1 := by rw [← hw1]; exact (Below.refl B w).setCell (p := ⟨b, 0, none⟩) hB _
  have k4 : w1.drew.cell? ⟨b, 1, none⟩ = some (.slice none 0 0) := k2
  have k5 : Bld B b [] w1.drew := Lib.IsBuilderF.of (.inr ⟨hB, .slice none 0 0, k1, World.ownsRow_nil _ _ _ _, by simp [Value.ownBlock]⟩)
  have hz := k3.size
  have e1 : ∀ args w, (callFunc 87 args).run Tryz.prog w = .ok (.enter 87 args) w := enters_of Tryz.func87 (by kernel_rfl) rfl
  have e2 : ∀ args w, (callFunc 152 args).run Tryz.prog w = .ok (.enter 152 args) w := enters_of Tryz.func152 (by kernel_rfl) rfl
  go_enter Tryz.func115, Tryz.ntmps115
  go_wp2_with (go_at_fn 87; refine (zFresh b w (by rw [Lib.cell_of_heap hbk]; rfl) (by simp [World.shape?, hbk]) (Lib.frozen_of_heap hbk 0)).mono ?_; rintro e w' ⟨rfl, rfl⟩; rw [hw1])
  go_region
  all_goals go_wp2_with (go_at_fn 152; refine (Any.Builder_grow_fresh laysGrw extGrw B b n w1.drew hB k1 (Nat.le_trans hBw hz) hn).mono ?_; rintro e w' ⟨rfl, h1, h2⟩)
  all_goals first
    | (go_end0; exact ⟨rfl, Lib.IsBuilderF.of (.inr h1), k3.drew.trans h2⟩)
    | (go_end0; exact ⟨rfl, k5, k3.drew⟩)
theorem glue_take {c : UInt8} {l : List ByteArray} {k : Nat} {x : ByteArray} (h : l[k]? = some x) (hk : 0 < k) : glue c ((l.take (k + 1)).map lst) = glue c ((l.take k).map lst) ++ c :: lst x := by
  have hlt := (List.getElem?_eq_some_iff.1 h).1
  rw [List.take_add_one, h, Option.toList_some, List.map_append, List.map_cons, List.map_nil]
  refine glue_snoc _ fun e => ?_
  rw [List.map_eq_nil_iff, List.take_eq_nil_iff] at e
  rcases e with e | e
  · omega
  · rw [e] at hlt; simp at hlt
theorem glue_len (c : UInt8) (n : Nat) : ∀ {l : List ByteArray}, (∀ s ∈ l, s.size ≤ n) → (glue c (l.map lst)).length ≤ (n + 1) * l.length
  | [], _ => by simp [glue]
  | [x], h => by
    have := h x (List.mem_singleton_self _)
    have h2 : (lst x).length = x.size := size_list x
    simp [glue]; omega
  | x :: y :: r, h => by
    have := h x (List.mem_cons_self ..)
    have h2 : (lst x).length = x.size := size_list x
    have ih := glue_len c n (l := y :: r) (fun s hs => h s (List.mem_cons_of_mem _ hs))
    rw [List.map_cons, List.map_cons, glue_cons _ (List.cons_ne_nil _ _), List.length_append, List.length_cons, ← List.map_cons]
    have : (n + 1) * (x :: y :: r).length = (n + 1) * (y :: r).length + (n + 1) := by rw [List.length_cons, Nat.mul_succ]
    omega
set_option maxHeartbeats 4000000 in
set_option maxRecDepth 100000 in
theorem zJoin (l : List ByteArray) (c : UInt8) (hl : 2 ≤ l.length ∧ l.length ≤ 100000) (hx : ∀ s ∈ l, s.size ≤ 1000) (b o cap : Nat) (w : World) (hcap : l.length ≤ cap) (hb : b < w.heap.size) (hm : ∀ (j : Nat) (x : ByteArray), l[j]? = some x → w.cell? ⟨b, o + j, none⟩ = some (.string x)) :
    Calls Tryz.prog 86 #[.slice (some ⟨b, o, none⟩) l.length cap, .string (oneB c)] w fun e w' => e = .returned (.string (toB (glue c (l.map lst)))) ∧ Below w.heap.size w w' := by
  obtain ⟨h2, h5⟩ := hl
  have hs1 : (oneB c).size = 1 := rfl
  have hq : 2 ≤ (9223372036854775807 : Int) / ((l.length : Int) - 1) := Int.le_ediv_of_mul_le (by omega) (by omega)
  have eW : ∀ args w, (callFunc 56 args).run Tryz.prog w = .ok (.enter 56 args) w := enters_of Tryz.func56 (by kernel_rfl) rfl
  have eG : ∀ args w, (callFunc 115 args).run Tryz.prog w = .ok (.enter 115 args) w := enters_of Tryz.func115 (by kernel_rfl) rfl
  have eT : ∀ args w, (callFunc 58 args).run Tryz.prog w = .ok (.enter 58 args) w := enters_of Tryz.func58 (by kernel_rfl) rfl
  go_enter Tryz.func86, Tryz.ntmps86
  go_wp2
  go_loopw [5, 41] (fun m i wr => ∃ k n : Nat, k ≤ l.length ∧ i = .int .i64 k ∧ m = .int .i64 n ∧ n ≤ 1000 * k + 100000 ∧ wr = w) (fun _ i _ => l.length - (RowKit.intOf i).toNat)
  case atStart => exact ⟨0, l.length - 1, by omega, rfl, by congr 1; omega, by omega, rfl⟩
  case round =>
    obtain ⟨k, n, hk, rfl, rfl, hn, hww⟩ := hrel
    obtain rfl : w = wr := hww.symm
    try clear hww
    by_cases hlt : k < l.length
    · have hn1 : decide ((k : Int) < l.length) = true := decide_eq_true (by omega)
      have ht : l[k]? = some (l[k]'hlt) := List.getElem?_eq_getElem hlt
      have hc := hm k _ ht
      have hxs := hx _ (List.mem_of_getElem? ht)
      have hov : ((l[k]'hlt).size : Int) ≤ 9223372036854775807 - (n : Int) := by omega
      go_wp2
      go_roundw
      case rel => exact ⟨k + 1, n + (l[k]'hlt).size, by omega, by go_num, by go_num, by omega, by first | rfl | trivial⟩
      case measure => simp [RowKit.intOf]; omega
    · have hge : l.length ≤ k := by omega
      have hn1 : decide ((k : Int) < l.length) = false := decide_eq_false (by omega)
      have hfr := heap_alloc_new w (.cells #[.pointer none, .slice none 0 0] 83)
      have hag : ∀ (W : World), Below w.heap.size w W → ∀ (j : Nat) (x : ByteArray), l[j]? = some x → W.cell? ⟨b, o + j, none⟩ = some (.string x) := by
        intro W hW j x hj
        have := hW.block b hb
        rw [← hm j x hj]
        simp only [World.cell?, this]
      go_wp2_with (go_at_fn 115; refine (zGrow w.heap.size w.heap.size n _ (Nat.le_refl _) hfr (by simp) (by omega)).mono ?_)
      rintro e w1 ⟨rfl, h1, b1⟩
      have b1 : Below w.heap.size w w1 := ((Below.refl _ w).alloc (Nat.le_refl _) _).trans b1
      have hz1 := b1.size
      have hl0 : 0 < l.length := by omega
      have ht0 : l[0]? = some (l[0]'hl0) := List.getElem?_eq_getElem hl0
      have hc0 : w1.cell? ⟨b, o, none⟩ = some (.string (l[0]'hl0)) := hag w1 b1 0 _ ht0
      have hx0 := hx _ (List.mem_of_getElem? ht0)
      go_wp2_with (go_at_fn 56; refine (zWriteString w.heap.size w.heap.size [] (l[0]'hl0) _ h1 (by simp; omega) (by omega)).mono ?_)
      rintro e w2 ⟨rfl, h2', b2⟩
      have b2 : Below w.heap.size w w2 := b1.trans b2
      have hz2 := b2.size
      have hg0 : glue c ((l.take (0 + 1)).map lst) = [] ++ lst (l[0]'hl0) := by
        rw [List.take_add_one, ht0]; simp [glue]
      rw [← hg0] at h2'
      go_wp2
      go_loopw [65] (fun i wq => ∃ k : Nat, k + 1 ≤ l.length ∧ i = .int .i64 k ∧ Bld w.heap.size w.heap.size (glue c ((l.take (k + 1)).map lst)) wq ∧ Below w.heap.size w wq) (fun i _ => l.length - (RowKit.intOf i).toNat)
      case atStart => exact ⟨0, by omega, rfl, h2', b2⟩
      case round =>
        obtain ⟨q, hq1, rfl, hI, hbq⟩ := hrel
        have hzq := hbq.size
        have hgl := glue_len c 1000 (l := l.take (q + 1)) (fun s hs => hx s (List.mem_of_mem_take hs))
        have hgt : (l.take (q + 1)).length ≤ 100000 := by rw [List.length_take]; omega
        by_cases hlq : q + 1 < l.length
        · have hn2 : decide ((q : Int) < (l.length : Int) - 1) = true := decide_eq_true (by omega)
          have htq : l[q + 1]? = some (l[q + 1]'hlq) := List.getElem?_eq_getElem hlq
          have hxq := hx _ (List.mem_of_getElem? htq)
          have hcq : ∀ W : World, Below w.heap.size w W → W.cell? ⟨b, o + 1 + q, none⟩ = some (.string (l[q + 1]'hlq)) := fun W hW => by
            have := hag W hW (q + 1) _ htq
            rwa [show o + (q + 1) = o + 1 + q by omega] at this
          have hcq0 := hcq _ hbq
          have hgk := glue_take (c := c) htq (by omega)
          generalize glue c ((l.take (q + 1)).map lst) = M at *
          generalize hM' : glue c ((l.take (q + 1 + 1)).map lst) = M' at *
          go_wp2_with (go_at_fn 56; refine (zWriteString w.heap.size w.heap.size M (oneB c) _ hI (by omega) (by omega)).mono ?_)
          rintro e w3 ⟨rfl, h3, b3⟩
          have hz3 := b3.size
          have hlo : (lst (oneB c)).length = 1 := rfl
          go_wp2_with (go_at_fn 56; refine (zWriteString w.heap.size w.heap.size (M ++ lst (oneB c)) (l[q + 1]'hlq) _ h3 (by rw [List.length_append]; omega) (by omega)).mono ?_)
          rintro e w4 ⟨rfl, h4, b4⟩
          go_wp2
          go_roundw
          case rel =>
            refine ⟨q + 1, by omega, by go_num, ?_, (hbq.trans b3).trans b4⟩
            rw [hM', hgk]
            have e5 : M ++ c :: lst (l[q + 1]'hlq) = M ++ lst (oneB c) ++ lst (l[q + 1]'hlq) := by
              rw [show lst (oneB c) = [c] from rfl]; simp
            rw [e5]
            exact h4
          case measure => simp [RowKit.intOf]; omega
        · have hn2 : decide ((q : Int) < (l.length : Int) - 1) = false := decide_eq_false (by omega)
          have hqe : l.take (q + 1) = l := List.take_of_length_le (by omega)
          rw [hqe] at hI
          go_wp2_with (go_at_fn 58; refine (zBStr w.heap.size w.heap.size _ _ hI (by omega)).mono ?_)
          rintro e w5 ⟨rfl, hb5⟩
          go_wp2
          go_ret
          exact ⟨rfl, hbq.trans hb5⟩
set_option maxHeartbeats 4000000 in
set_option maxRecDepth 100000 in
theorem zJoin0 (a : Option Addr) (cap : Nat) (s : ByteArray) (w : World) :
    Calls Tryz.prog 86 #[.slice a 0 cap, .string s] w fun e w' => e = .returned (.string (toB [])) ∧ Below w.heap.size w w' := by
  go_enter Tryz.func86, Tryz.ntmps86
  go_wp2
  go_ret
  exact ⟨rfl, Below.refl _ _⟩
set_option maxHeartbeats 4000000 in
set_option maxRecDepth 100000 in
theorem zJoin1 (x : ByteArray) (b o cap : Nat) (s : ByteArray) (w : World) (h : w.cell? ⟨b, o, none⟩ = some (.string x)) :
    Calls Tryz.prog 86 #[.slice (some ⟨b, o, none⟩) 1 cap, .string s] w fun e w' => e = .returned (.string x) ∧ Below w.heap.size w w' := by
  go_enter Tryz.func86, Tryz.ntmps86
  go_wp2
  go_ret
  exact ⟨rfl, Below.refl _ _⟩
theorem zTwoArgs {F : Nat → Prop} {w : World} {x y : Go.Ac.AV} {vs : Array Value} (h : Go.Ac.TF F w [x, y] vs.toList) : ∃ u v, vs = #[u, v] ∧ Go.Ac.RF F w x u ∧ Go.Ac.RF F w y v := Go.Ac.two_args h
theorem zJoinP {g : List (Nat × List Go.Ac.AV)} (l : List ByteArray) (c : UInt8) (hl : l.length ≤ 100000) (hx : ∀ s ∈ l, s.size ≤ 1000) : Go.Ac.PCalls Tryz.prog g 86 [encSs l, .v (.string (oneB c))] (.v (.string (toB (glue c (l.map lst))))) := by
  refine Go.Ac.PCalls.ofBelow (Go.Ac.callable Tryz.func86 rfl rfl) fun F w vs st ha => ?_
  obtain ⟨u, v, rfl, h1, h2⟩ := zTwoArgs ha
  simp only [Go.Ac.RF] at h1 h2
  subst h2
  obtain ⟨_, a, cap, rfl, hcap, hm⟩ := h1
  match l, hl, hx, hcap, hm with
  | [], _, _, _, _ => exact zJoin0 a cap (oneB c) w
  | [x], _, _, _, hm =>
    obtain ⟨b, o, rfl, hF, hE⟩ := hm (by simp)
    have h := zJoin1 x b o cap (oneB c) w (Go.Ac.strs_cells (xs := [x]) hE 0 x rfl)
    have e : toB (glue c ([x].map lst)) = x := toB_of x
    rw [e]
    exact h
  | x :: y :: r, hl, hx, hcap, hm =>
    obtain ⟨b, o, rfl, hF, hE⟩ := hm (by simp)
    exact zJoin (x :: y :: r) c ⟨by simp, hl⟩ hx b o cap w hcap (st.inF b hF) (fun j z hz => Go.Ac.strs_cells hE j z hz)
end Go.Proofs.YtigcjinpkngapaaGreatDoor
end
section
namespace Go.Proofs.YtigcjinpkngapaaGreatDoor
open Go.Ac
attribute [local irreducible] awp awpL Ev Ev2 EvS thenQ blockQ retQ PCalls OCalls
variable {g : List (Nat × List AV)}
theorem wline_spec (l : List ByteArray) (hl : l.length ≤ 100000) (hx : ∀ s ∈ l, s.size ≤ 1000) : PCalls Tryz.prog g 55 [encSs l] (.v (.string (toB (glue 32 (l.map lst))))) := by
  have h := zJoinP (g := g) l 32 hl hx
  refine pcalls' Tryz.func55 Tryz.ntmps55 rfl rfl rfl ?_
  repeat' (first
   | refine stn [] ?_
   | ((with_reducible refine is_gd ?_); refine awpL_split rfl rfl (fun h => ?_) (fun h => ?_))
   | ((with_reducible refine is_awp ?_); refine awp_cond rfl (fun h => ?_) (fun h => ?_))
   | fail)
  exact retP rfl rfl
set_option maxRecDepth 4000 in
set_option maxHeartbeats 2000000 in
theorem wJoin_spec (l : List ByteArray) (hl : Words l) : PCalls Tryz.prog g 31 [encSs l] (.v (.string (toB (joinW (l.map lst))))) := by
  obtain ⟨hl, hw⟩ := hl
  refine pcalls' Tryz.func31 Tryz.ntmps31 rfl rfl rfl ?_
  repeat' (first
   | refine stn [] ?_
   | ((with_reducible refine is_gd ?_); refine awpL_split rfl rfl (fun h => ?_) (fun h => ?_))
   | ((with_reducible refine is_awp ?_); refine awp_cond rfl (fun h => ?_) (fun h => ?_))
   | fail)
  refine awp_adopt (t := 3) (E := 9) (sz := 1) rfl rfl rfl ?_
  repeat' (first
   | refine stn [] ?_
   | ((with_reducible refine is_gd ?_); refine awpL_split rfl rfl (fun h => ?_) (fun h => ?_))
   | ((with_reducible refine is_awp ?_); refine awp_cond rfl (fun h => ?_) (fun h => ?_))
   | fail)
  refine awp_for (α := Nat) 1 (fun k => [(3, .os 0 0), (6, encSs l), (7, vi l.length), (8, vi k)]) (fun k => [.own 0 9 1 (((l.take k).map fun s => toB (quoteL (lst s))).map strC)]) (fun k => k ≤ l.length) (fun k => l.length - k) 0
    ⟨(.cons rfl rfl (.cons rfl rfl (.cons rfl rfl (.cons rfl rfl .nil)))), rfl, rfl, rfl⟩ (Nat.zero_le _) ?_
  intro k hk
  cases ht : l[k]? with
  | none =>
    have hge : l.length ≤ k := by simpa using ht
    have c1 : decide ((k : Int) < l.length) = false := decide_eq_false (by omega)
    rw [List.take_of_length_le hge]
    have hL := wline_spec (g := g) (l.map fun s => toB (quoteL (lst s))) (by rw [List.length_map]; exact hl) (fun s hs => by
      obtain ⟨x, hx, rfl⟩ := List.mem_map.1 hs
      have h1 := quoteL_len (lst x)
      have h2 : (lst x).length = x.size := size_list x
      have h3 := hw x hx
      rw [toB_size]; omega)
    have hE : glue 32 ((l.map fun s => toB (quoteL (lst s))).map lst) = joinW (l.map lst) := by
      unfold joinW
      rw [List.map_map, List.map_map]
      exact congrArg (glue 32) (List.map_congr_left fun s _ => toB_list _)
    rw [hE] at hL
    generalize joinW (l.map lst) = r at *
    repeat' (first
     | ((with_reducible refine is_un ?_); refine awpL_frz (x := .os 0 0) (x' := encSs (l.map fun s => toB (quoteL (lst s)))) 18 rfl (by simp [frzV, encSs]) rfl rfl ?_)
     | refine stn [] ?_
     | ((with_reducible refine is_gd ?_); refine awpL_split rfl rfl (fun h => ?_) (fun h => ?_))
     | ((with_reducible refine is_awp ?_); refine awp_cond rfl (fun h => ?_) (fun h => ?_))
     | fail)
    exact retP rfl rfl
  | some x =>
    have hlt : k < l.length := (List.getElem?_eq_some_iff.1 ht).1
    have c1 : decide ((k : Int) < l.length) = true := decide_eq_true (by omega)
    have ik := str_get ht
    have hx := hw x (List.mem_of_getElem? ht)
    have hQ := zQuoteP (g := g) x (by omega)
    have hj : ((l.take k).map fun s => toB (quoteL (lst s))).map strC ++ [strC (toB (quoteL (lst x)))] = ((l.take (k + 1)).map fun s => toB (quoteL (lst s))).map strC := by
      rw [List.take_add_one, ht]; simp
    have hmb : (((l.take k).map fun s => toB (quoteL (lst s))).map strC).length ≤ 100000 := by rw [List.length_map, List.length_map, List.length_take]; omega
    generalize ((l.take k).map fun s => toB (quoteL (lst s))).map strC = M at *
    generalize hM' : ((l.take (k + 1)).map fun s => toB (quoteL (lst s))).map strC = M' at *
    repeat' (first
     | ((with_reducible refine is_un ?_); refine awpL_ev2 (ev_appB (es' := M') rfl rfl rfl rfl rfl rfl rfl rfl rfl rfl rfl rfl rfl qe0 hj rfl) rfl ?_)
     | refine stn [] ?_
     | ((with_reducible refine is_gd ?_); refine awpL_split rfl rfl (fun h => ?_) (fun h => ?_))
     | ((with_reducible refine is_awp ?_); refine awp_cond rfl (fun h => ?_) (fun h => ?_))
     | fail)
    exact ⟨k + 1, by rw [hM']; exact ⟨(.cons rfl rfl (.cons rfl rfl (.cons rfl rfl (.cons rfl rfl .nil)))), rfl, rfl, rfl⟩, by omega, by omega⟩
end Go.Proofs.YtigcjinpkngapaaGreatDoor
end
section
namespace Go.Proofs.YtigcjinpkngapaaGreatDoor
open Go.Ac
attribute [local irreducible] awp awpL Ev Ev2 EvS thenQ blockQ retQ PCalls OCalls
variable {g : List (Nat × List AV)}
abbrev InI (n : Int) : Prop := -9223372036854775808 ≤ n ∧ n ≤ 9223372036854775807
set_option maxRecDepth 4000 in
set_option maxHeartbeats 2000000 in
theorem wnumbers_spec (hN : NumG g) (l : List Int) (hl : l.length ≤ 100000) (hx : ∀ n ∈ l, InI n) : PCalls Tryz.prog g 30 [encIs l] (encSs (l.map numT)) := by
  refine pcalls' Tryz.func30 Tryz.ntmps30 rfl rfl rfl ?_
  repeat' (first
   | refine stn [] ?_
   | ((with_reducible refine is_gd ?_); refine awpL_split rfl rfl (fun h => ?_) (fun h => ?_))
   | ((with_reducible refine is_awp ?_); refine awp_cond rfl (fun h => ?_) (fun h => ?_))
   | fail)
  refine awp_adopt (t := 3) (E := 9) (sz := 1) rfl rfl rfl ?_
  repeat' (first
   | refine stn [] ?_
   | ((with_reducible refine is_gd ?_); refine awpL_split rfl rfl (fun h => ?_) (fun h => ?_))
   | ((with_reducible refine is_awp ?_); refine awp_cond rfl (fun h => ?_) (fun h => ?_))
   | fail)
  refine awp_for (α := Nat) 1 (fun k => [(3, .os 0 0), (6, encIs l), (7, vi l.length), (8, vi k)]) (fun k => [.own 0 9 1 (((l.take k).map numT).map strC)]) (fun k => k ≤ l.length) (fun k => l.length - k) 0
    ⟨(.cons rfl rfl (.cons rfl rfl (.cons rfl rfl (.cons rfl rfl .nil)))), rfl, rfl, rfl⟩ (Nat.zero_le _) ?_
  intro k hk
  cases ht : l[k]? with
  | none =>
    have hge : l.length ≤ k := by simpa using ht
    have c1 : decide ((k : Int) < l.length) = false := decide_eq_false (by omega)
    rw [List.take_of_length_le hge]
    repeat' (first
     | refine stn [] ?_
     | ((with_reducible refine is_gd ?_); refine awpL_split rfl rfl (fun h => ?_) (fun h => ?_))
     | ((with_reducible refine is_awp ?_); refine awp_cond rfl (fun h => ?_) (fun h => ?_))
     | fail)
    refine retP rfl ?_
    simp [ex, exL]
  | some x =>
    have hlt : k < l.length := (List.getElem?_eq_some_iff.1 ht).1
    have c1 : decide ((k : Int) < l.length) = true := decide_eq_true (by omega)
    have ik : 0 ≤ (k : Int) ∧ (l.map intC)[(k : Int).toNat]? = some (intC x) := ⟨by omega, by simp [ht]⟩
    have hT := NText_spec hN x (hx x (List.mem_of_getElem? ht))
    have hj : ((l.take k).map numT).map strC ++ [strC (numT x)] = ((l.take (k + 1)).map numT).map strC := by
      rw [List.take_add_one, ht]; simp
    have hmb : (((l.take k).map numT).map strC).length ≤ 100000 := by rw [List.length_map, List.length_map, List.length_take]; omega
    generalize ((l.take k).map numT).map strC = M at *
    generalize hM' : ((l.take (k + 1)).map numT).map strC = M' at *
    repeat' (first
     | ((with_reducible refine is_un ?_); refine awpL_ev2 (ev_appB (es' := M') rfl rfl rfl rfl rfl rfl rfl rfl rfl rfl rfl rfl rfl qe0 hj rfl) rfl ?_)
     | refine stn [] ?_
     | ((with_reducible refine is_gd ?_); refine awpL_split rfl rfl (fun h => ?_) (fun h => ?_))
     | ((with_reducible refine is_awp ?_); refine awp_cond rfl (fun h => ?_) (fun h => ?_))
     | fail)
    exact ⟨k + 1, by rw [hM']; exact ⟨(.cons rfl rfl (.cons rfl rfl (.cons rfl rfl (.cons rfl rfl .nil)))), rfl, rfl, rfl⟩, by omega, by omega⟩
end Go.Proofs.YtigcjinpkngapaaGreatDoor
end
section
namespace Go.Proofs.YtigcjinpkngapaaGreatDoor
structure Tier where
  name : ByteArray
  kind : Int
  role : Int
  parent : Int
  deriving Inhabited, DecidableEq
structure Recording where
  id : Int
  name : ByteArray
  length : Int
  day : Int
  speakers : List Int
  deriving Inhabited, DecidableEq
structure Doc where
  rec_ : Recording
  tiers : List Tier
  notes : List Note
  deriving Inhabited, DecidableEq
def timed (k : Int) : Bool := decide (k = 0) || (decide (k = 1) || decide (k = 2))
def tierAt (l : List Tier) (i : Int) : Option Tier := if 0 ≤ i then l[i.toNat]? else none
def alignedT (l : List Tier) (i : Int) : Bool := match tierAt l i with
  | some t => timed t.kind
  | none => false
def getN (l : List Note) (id : Int) : Option Note := l.find? fun n => decide (n.id = id)
theorem getN_id {l : List Note} {id : Int} {n : Note} (h : getN l id = some n) : n.id = id ∧ n ∈ l := by
  unfold getN at h
  exact ⟨by simpa using List.find?_some h, List.mem_of_find?_eq_some h⟩
theorem find_dropN {α : Type} {l : List α} {f : α → Bool} {k : Nat} {x : α} (h : l[k]? = some x) : (l.drop k).find? f = if f x then some x else (l.drop (k + 1)).find? f := by
  obtain ⟨h1, h2⟩ := List.getElem?_eq_some_iff.1 h
  rw [List.drop_eq_getElem_cons h1, h2, List.find?_cons]
  cases f x <;> rfl
end Go.Proofs.YtigcjinpkngapaaGreatDoor
end
section
namespace Go.Proofs.YtigcjinpkngapaaGreatDoor
end Go.Proofs.YtigcjinpkngapaaGreatDoor
namespace Go.Proofs.YtigcjinpkngapaaGreatDoor
end Go.Proofs.YtigcjinpkngapaaGreatDoor
end
section
namespace Go.Proofs.YtigcjinpkngapaaGreatDoor
end Go.Proofs.YtigcjinpkngapaaGreatDoor
end
section
namespace Go.Proofs.YtigcjinpkngapaaGreatDoor
open Go.Ac
end Go.Proofs.YtigcjinpkngapaaGreatDoor
end
section
namespace Go.Proofs.YtigcjinpkngapaaGreatDoor
open Go.RowKit Go.Lib Go.Sort Go.Shelf
theorem zIsNaN (x : Int) (w : World) : Calls Tryz.prog 147 #[.int .i64 x] w fun e w' => e = .returned (.bool false) ∧ w' = w := by
  go_enter Tryz.func147, Tryz.ntmps147
  go_wp2
  go_ret
  exact ⟨by simp, rfl⟩
def zcmp (a b : Int) : Int := if a < b then -1 else if b < a then 1 else 0
set_option maxHeartbeats 1000000 in
theorem zCompare (x y : Int) (w : World) : Calls Tryz.prog 113 #[.int .i64 x, .int .i64 y] w fun e w' => e = .returned (.int .i64 (zcmp x y)) ∧ w' = w := by
  have e71 : ∀ args w, (callFunc 147 args).run Tryz.prog w = .ok (.enter 147 args) w := enters_of Tryz.func147 (by kernel_rfl) rfl
  go_enter Tryz.func113, Tryz.ntmps113
  go_wp2_with (go_at_call 147; refine (zIsNaN _ _).mono ?_; rintro e w' ⟨rfl, hw⟩; rw [hw])
  all_goals (go_ret; refine ⟨?_, rfl⟩; unfold zcmp; (repeat' split) <;> first | rfl | (exfalso; omega))
theorem zcmp_lt (a b : Int) : decide (zcmp a b < 0) = decide (a < b) := by
  unfold zcmp
  split
  · simp [*]
  · split <;> simp <;> omega
theorem zcmp_zero {a b : Int} : zcmp a b = 0 ↔ a = b := by
  unfold zcmp
  split
  · simp; omega
  · split
    · simp; omega
    · simp; omega
theorem grown1 (w : World) (os : Array Obj) (o : Obj) : (grow w os).alloc o = grow w (os ++ #[o]) := by rw [alloc_eq_grow, grow_grow]
theorem cells1 (W : World) (x : Array Value) (e : TypeId) (i : Nat) : (W.alloc (.cells x e)).cell? ⟨W.heap.size, i, none⟩ = x[i]? := by
  unfold World.cell?
  rw [heap_alloc_new]
  rfl
theorem cells2 (W : World) (x y : Array Value) (e : TypeId) (i : Nat) : ((W.alloc (.cells x e)).alloc (.cells y e)).drew.cell? ⟨W.heap.size, i, none⟩ = x[i]? ∧ ((W.alloc (.cells x e)).alloc (.cells y e)).drew.cell? ⟨W.heap.size + 1, i, none⟩ = y[i]? := by
  have e1 : ((W.alloc (.cells x e)).alloc (.cells y e)).drew.heap[W.heap.size]? = some (.cells x e) := by
    show ((W.alloc (.cells x e)).alloc (.cells y e)).heap[W.heap.size]? = _
    rw [heap_alloc_old _ _ (by show W.heap.size < (W.heap.push _).size; rw [Array.size_push]; omega), heap_alloc_new]
  have e2 : ((W.alloc (.cells x e)).alloc (.cells y e)).drew.heap[W.heap.size + 1]? = some (.cells y e) := by
    show ((W.alloc (.cells x e)).alloc (.cells y e)).heap[W.heap.size + 1]? = _
    rw [show W.heap.size + 1 = (W.alloc (.cells x e)).heap.size by show _ = (W.heap.push _).size; rw [Array.size_push], heap_alloc_new]
  unfold World.cell?
  rw [e1, e2]
  exact ⟨rfl, rfl⟩
end Go.Proofs.YtigcjinpkngapaaGreatDoor
end
section
namespace Go.Proofs.YtigcjinpkngapaaGreatDoor
open Go.Ac Go.MapKept
attribute [local irreducible] awp awpL Ev Ev2 EvS thenQ blockQ retQ PCalls OCalls YieldOk IterC ICalls
end Go.Proofs.YtigcjinpkngapaaGreatDoor
end
section
namespace Go.Proofs.YtigcjinpkngapaaGreatDoor
open Go.Ac Go.MapKept
attribute [local irreducible] awp awpL Ev Ev2 EvS thenQ blockQ retQ PCalls OCalls YieldOk IterC ICalls
end Go.Proofs.YtigcjinpkngapaaGreatDoor
end
section
namespace Go.Proofs.YtigcjinpkngapaaGreatDoor
open Go.Ac
attribute [local irreducible] awp awpL Ev Ev2 EvS thenQ blockQ retQ PCalls OCalls YieldOk IterC
variable {g : List (Nat × List AV)}
end Go.Proofs.YtigcjinpkngapaaGreatDoor
end
section
namespace Go.Ac
open Go.MapKept Go.ChangeMaps
section
variable {P : Program} {td : TDs} [T : TOK P td] {G : Glo} {N : Nat} {Q : AQ} {S : SL} {L : List LB} {ops : Array Oper} {rest : List Oper}
  {op : Op} {ty : TypeId} {pos : String} {af : Array Edge} {d : Nat} {x : AV}
end
end Go.Ac
namespace Go.Ac
open Go.MapKept Go.ChangeMaps
section
variable {P : Program} {td : TDs} [T : TOK P td] {G : Glo} {N : Nat} {Q : AQ} {S : SL} {L : List LB} {ty : TypeId}
end
end Go.Ac
namespace Go.Ac
section
variable {P : Program} {td : TDs} [T : TOK P td] {G : Glo} {N : Nat} {Q : AQ} {S : SL} {L L' : List LB} {ops : Array Oper} {rest : List Oper}
  {op : Op} {ty : TypeId} {pos : String} {af : Array Edge} {x : AV}
end
end Go.Ac
end
section
namespace Go.Ac
open Go.Sort (PermIn SortedIn HoldsK putRowK flatK putRowK_grow size_flatK get_flatK)
open Go.Proofs (sortWorldK)
theorem set_same {L : List LB} {k : Nat} {x : LB} (h : L[k]? = some x) : L.set k x = L := by
  apply List.ext_getElem?
  intro i
  rw [List.getElem?_set]
  by_cases e : k = i
  · subst e
    have := lt_of_get h
    rw [if_pos rfl, if_pos this, h]
  · rw [if_neg e]
section
variable {P : Program} {td : TDs} [T : TOK P td] {G : Glo} {N : Nat} {Q : AQ} {S : SL} {L : List LB} {ops : Array Oper} {rest : List Oper}
  {ty : TypeId} {pos : String} {af : Array Edge} {dd : Nat}
theorem ext_grow (F : Nat → Prop) (w : World) (hF : ∀ b, F b → b < w.heap.size) (n : Nat) (os : Array Obj) : Ext (Cx.bare F w) (Cx.bare F (Go.Sort.grow (Go.Sort.ahead w n) os)) := by
  have hk : ∀ b, b < w.heap.size → (Go.Sort.grow (Go.Sort.ahead w n) os).heap[b]? = w.heap[b]? := fun b hb => by simp [Go.Sort.grow, Go.Sort.ahead, Array.getElem?_append_left hb]
  refine ⟨rfl, rfl, rfl, by simp [Cx.bare, Go.Sort.grow, Go.Sort.ahead], fun b h => .inl h, fun b ⟨j, h⟩ => by simp [Cx.bare] at h, fun b h => h.elim, fun r h => by simp [Cx.bare] at h, fun b h1 _ _ => hk b h1, rfl, ?_⟩
  exact ⟨fun b h => h, fun b h => hk b (hF b h), fun k h => h.elim, fun k h => h.elim, fun k h => h.elim, fun k h => h.elim, fun k h => h.elim, fun k b arr T h => h.elim⟩
theorem flat_get {α : Type} [Inhabited α] {enc : α → List Value} {sz : Nat} (hlen : ∀ x, (enc x).length = sz) (d : Array α) {i c : Nat} {x : α} {y : Value} (hx : d.toList[i]? = some x) (hy : (enc x)[c]? = some y) : i * sz + c < d.size * sz ∧ (flatK enc sz d)[i * sz + c]! = y := by
  have hi : i < d.size := by have := (List.getElem?_eq_some_iff.1 hx).1; simpa using this
  have hc : c < sz := by have := (List.getElem?_eq_some_iff.1 hy).1; rwa [hlen] at this
  have hlt : i * sz + c < d.size * sz := by
    have := Nat.mul_le_mul_right sz (show i + 1 ≤ d.size from hi)
    rw [Nat.add_mul, Nat.one_mul] at this; omega
  refine ⟨hlt, ?_⟩
  have e1 : (i * sz + c) / sz = i := by rw [Nat.mul_comm, Nat.mul_add_div (by omega), Nat.div_eq_of_lt hc]; rfl
  have e2 : (i * sz + c) % sz = c := by rw [Nat.mul_comm, Nat.mul_add_mod, Nat.mod_eq_of_lt hc]
  rw [get_flatK _ _ _ _ hlt, e1, e2]
  have : d[i]! = x := by
    obtain ⟨h1, h2⟩ := List.getElem?_eq_some_iff.1 hx
    rw [getElem!_pos d i hi, ← h2]; simp
  rw [this]
  obtain ⟨h1, h2⟩ := List.getElem?_eq_some_iff.1 hy
  rw [getElem!_pos _ c h1, h2]
theorem awpL_sort {α : Type} [Inhabited α] {f g : FuncId} {us : Array Operand} {ats : Array TypeId} {enc : α → List Value} {sz E k v : Nat} {d : List α} {lt : α → α → Bool}
    (hargs : vals G S us.toList = some [.os k v, .fn g [] []]) (hk : L[k]? = some (.own v E sz (d.map fun x => (enc x).map .v))) (hlen : ∀ x, (enc x).length = sz) (h1 : ∀ x, ∀ y ∈ enc x, y.oneCell' = true) (hC : Callable P f)
    (hS : ∀ (blk cap : Nat) (w : World), HoldsK enc sz w blk 0 d.toArray → blk < w.heap.size → Calls P f #[.slice (some ⟨blk, 0, none⟩) d.toArray.size cap, .func (.func g) #[] #[]] w fun e w' => e = .returned (.tuple #[]) ∧ ∃ d' n os, PermIn 0 d.toArray.size d.toArray d' ∧ SortedIn lt 0 d.toArray.size d' ∧ w' = sortWorldK enc sz w blk 0 n d' os)
    (hN : d = [] → ∀ w, Calls P f #[.slice none 0 0, .func (.func g) #[] #[]] w fun e w' => e = .returned (.tuple #[]) ∧ ∃ n os, w' = Go.Sort.grow (Go.Sort.ahead w n) os)
    (hd : Nat.blt dd N = true)
    (kk : ∀ d' : List α, d'.Perm d → d'.Pairwise (fun a b => lt b a = false) → awpL P G N ops rest Q ((dd, .tup []) :: S) (L.set k (.own v E sz (d'.map fun x => (enc x).map .v)))) :
    awpL P G N ops (⟨some dd, .call { callee := .value (.func f), args := us, argTypes := ats }, ty, pos, af, none⟩ :: rest) Q S L := by
  intro cx a hc
  have hr := vals_R hc hargs
  have hb := hc.st.blk k _ hk
  simp only [BR, List.length_map] at hb
  obtain ⟨b0, b1, b2, hb⟩ := hb
  simp only [TR, R] at hr
  obtain ⟨y, s, hs, ⟨o1, o2, o3, o4⟩, y2, s2, rfl, ⟨c1, c2, rfl, t1, t2⟩, rfl⟩ := hr
  have o4 := o4 b0
  have hz1 : c1 = #[] := by have := t1; simpa using this
  have hz2 : c2 = #[] := by have := t2; simpa using this
  subst hz1 hz2
  have hvs : us.map a.eval = #[y, .func (.func g) #[] #[]] := by
    have : (us.map a.eval).toList = [y, .func (.func g) #[] #[]] := by simpa using hs
    rw [← Array.toArray_toList (xs := us.map a.eval), this]
  have htup : ∀ c : Cx, R c (.tup []) (.tuple #[]) := fun c => by simp only [R]; exact ⟨#[], rfl, by simp [TR]⟩
  refine wpListIn_plain rfl fun K hK => wpIn_of_run rfl ?_
  rw [run_call hC (o := ⟨some dd, .call { callee := .value (.func f), args := us, argTypes := ats }, ty, pos, af, none⟩) rfl a cx.w, Oper.uponIn_enter, hvs]
  rcases hb with ⟨e1, e2⟩ | ⟨b, arr, e1, e2, e3, e4⟩
  · have hd0 : d = [] := by simpa using e2
    have hy : y = .slice none 0 0 := by
      rcases o4 with ⟨_, h, _⟩ | ⟨b, _, _, _, h, _⟩
      · exact h
      · rw [e1] at h; cases h
    subst hy
    refine ⟨fun h => by simp at h, CallsIn.mono (callsIn_wide.2 (hN hd0 cx.w)) ?_⟩
    rintro e w' ⟨rfl, n, os, rfl⟩
    have hst := hc.st.afterS (F := cx.F) (F' := cx.F) (ext_grow cx.F cx.w hc.st.inF n os)
    have := kk [] (by rw [hd0]) List.Pairwise.nil
    subst hd0
    rw [set_same hk] at this
    exact hK _ _ (wpListIn_mono (fun e a w q => q.trans hst.ext) _ _ _ (this _ _ ((hst.cn hc).put hd (htup _))))
  · obtain ⟨cap, hy⟩ : ∃ cap, y = .slice (some ⟨b, 0, none⟩) d.length cap := by
      rcases o4 with ⟨_, _, h⟩ | ⟨b', cap, _, _, h, h2, _⟩
      · rw [e1] at h; cases h
      · rw [e1] at h; cases h
        exact ⟨cap, by rw [h2, b2]⟩
    subst hy
    have hblk : b < cx.w.heap.size := (hc.st.loc k b e1).2.2
    have hH : HoldsK enc sz cx.w b 0 d.toArray := by
      intro j hj
      rw [size_flatK] at hj
      have hszp : 0 < sz := by rcases Nat.eq_zero_or_pos sz with h | h; · subst h; simp at hj
                               · exact h
      have hjd : j / sz < d.length := by
        rw [Nat.div_lt_iff_lt_mul hszp]; simpa using hj
      obtain ⟨x, hx⟩ : ∃ x, d[j / sz]? = some x := ⟨_, List.getElem?_eq_getElem hjd⟩
      have hcm : j % sz < (enc x).length := by rw [hlen]; exact Nat.mod_lt _ hszp
      obtain ⟨z, hz⟩ : ∃ z, (enc x)[j % sz]? = some z := ⟨_, List.getElem?_eq_getElem hcm⟩
      have hfl := flat_get hlen d.toArray (i := j / sz) (c := j % sz) (by simpa using hx) hz
      rw [Nat.div_add_mod' j sz] at hfl
      obtain ⟨_, hm⟩ := e4.get (i := j / sz) (e := (enc x).map .v) (by rw [List.getElem?_map, hx]; rfl)
      obtain ⟨u, u1, u2, _⟩ := hm.get (i := j % sz) (x := .v z) (by rw [List.getElem?_map, hz]; rfl)
      simp only [RF] at u2
      subst u2
      refine ⟨?_, by simp [World.frozen?, e2]⟩
      rw [hfl.2, show (id u : Value) = u from rfl, ← u1, show 0 + j / sz * sz + j % sz = 0 + j by have := Nat.div_add_mod' j sz; omega]
    refine ⟨fun h => by simp at h, CallsIn.mono (callsIn_wide.2 (hS b cap cx.w hH hblk)) ?_⟩
    rintro e w' ⟨rfl, d', n, os, hp, hs', rfl⟩
    obtain ⟨p1, _, p3⟩ := hp
    have hsz' : d'.size = d.length := by simpa using p1
    have hperm : d'.toList.Perm d := by
      have h2 : d'.extract 0 d.toArray.size = d' := by rw [show d.toArray.size = d'.size by simp [hsz'], Array.extract_size]
      rw [h2, Array.extract_size] at p3
      simpa using p3
    have hsrt : d'.toList.Pairwise (fun a b => lt b a = false) := by
      rw [List.pairwise_iff_getElem]
      intro i j hi hj hij
      have := hs' i j (Nat.zero_le _) hij (by simp at hj ⊢; omega)
      rw [getElem!_pos d' j (by simpa using hj), getElem!_pos d' i (by simpa using hi)] at this
      simpa using this
    have hst1 := hc.st.afterS (F := cx.F) (F' := cx.F) (ext_grow cx.F cx.w hc.st.inF n os)
    have hw' : sortWorldK enc sz cx.w b 0 n d' os = putRowK enc sz (Go.Sort.grow (Go.Sort.ahead cx.w n) os) b 0 d' := by
      rw [putRowK_grow _ _ _ _ _ _ _ (by exact hblk)]; rfl
    rw [hw']
    generalize hw1 : Go.Sort.grow (Go.Sort.ahead cx.w n) os = w1 at *
    have hh1 : w1.heap[b]? = some (.cells arr E (0, 0)) := by rw [← hw1, ← e2]; simp [Go.Sort.grow, Go.Sort.ahead, Array.getElem?_append_left hblk]
    have hblk1 : b < w1.heap.size := (Array.getElem?_eq_some_iff.1 hh1).1
    have hheap : ∀ b', (putRowK enc sz w1 b 0 d').heap[b']? = if b = b' then some (.cells (Go.Sort.putCells id 0 (flatK enc sz d') arr) E (0, 0)) else w1.heap[b']? := by
      intro b'
      simp only [putRowK, Go.Sort.putRow, Go.Sort.mapBlock, Array.getElem?_modify]
      by_cases e : b = b'
      · subst e; simp [hh1, Go.Sort.onCells]
      · simp [e]
    have hst2 := hst1.st.wr (k := k) (b := b) (w' := putRowK enc sz w1 b 0 d') e1 rfl rfl rfl (by simp [putRowK, Go.Sort.putRow, Go.Sort.mapBlock]) (fun b' h => by rw [hheap, if_neg (Ne.symm h)])
      (fun arr' T' h => by
        have h : w1.heap[b]? = some (.cells arr' T' (0, 0)) := h
        rw [hh1] at h; cases h
        exact ⟨_, by rw [hheap, if_pos rfl], by simp [Go.Sort.putCells]⟩) (by rw [hk]; simp) (x := .own v E sz (d'.toList.map fun x => (enc x).map .v))
      (fun _ => by
        simp only [BR, List.length_map]
        refine ⟨b0, b1, by simp [b2, hsz'], .inr ⟨b, _, e1, by rw [hheap, if_pos rfl], by simp [Go.Sort.putCells, hsz']; simpa using e3, ?_⟩⟩
        refine EF.mk fun i e he => ?_
        rw [List.getElem?_map] at he
        cases hx : d'.toList[i]? with
        | none => rw [hx] at he; cases he
        | some x =>
          rw [hx] at he
          have he : (enc x).map .v = e := by simpa using he
          subst he
          refine ⟨by simp [hlen], MF.mk fun c y hy => ?_⟩
          rw [List.getElem?_map] at hy
          cases hz : (enc x)[c]? with
          | none => rw [hz] at hy; cases hy
          | some z =>
            rw [hz] at hy
            have hy : AV.v z = y := by simpa using hy
            subst hy
            obtain ⟨q1, q2⟩ := flat_get hlen d' hx hz
            refine ⟨z, ?_, by simp only [RF], h1 x z (List.mem_of_getElem? hz)⟩
            have hlt : i * sz + c < arr.size := by
              have : d'.size * sz ≤ arr.size := by rw [hsz']; simpa using e3
              omega
            simp only [World.cell?, hheap, if_pos, Option.isSome_none, Bool.false_eq_true, if_false]
            rw [show 0 + i * sz + c = i * sz + c by omega]
            simp only [Go.Sort.putCells, Array.getElem?_mapIdx, Array.getElem?_eq_getElem hlt, Option.map_some, Nat.zero_le, Nat.zero_add, size_flatK, true_and, if_pos q1, Nat.sub_zero, id, q2])
    exact hK _ _ (wpListIn_mono (fun e a w q => q.trans (hst1.ext.trans hst2.ext)) _ _ _ (kk d'.toList hperm hsrt _ _ ((hst2.cn (hst1.cn hc)).put hd (htup _))))
end
end Go.Ac
end
section
namespace Go.Proofs.YtigcjinpkngapaaGreatDoor
open Go.Shelf Go.Lib Go.Sort
end Go.Proofs.YtigcjinpkngapaaGreatDoor
end
section
namespace Go.Proofs.YtigcjinpkngapaaGreatDoor
open Go.Ac Go.MapKept
attribute [local irreducible] awp awpL Ev Ev2 EvS thenQ blockQ retQ PCalls OCalls YieldOk IterC
variable {g : List (Nat × List AV)}
end Go.Proofs.YtigcjinpkngapaaGreatDoor
end
section
namespace Go.Proofs.YtigcjinpkngapaaGreatDoor
open Go.Ac Go.MapKept
attribute [local irreducible] awp awpL Ev Ev2 EvS thenQ blockQ retQ PCalls OCalls YieldOk IterC
variable {g : List (Nat × List AV)}
end Go.Proofs.YtigcjinpkngapaaGreatDoor
end
section
namespace Go.Proofs.YtigcjinpkngapaaGreatDoor
open Go.Ac Go.MapKept
attribute [local irreducible] awp awpL Ev Ev2 EvS thenQ blockQ retQ PCalls OCalls YieldOk IterC
variable {g : List (Nat × List AV)}
end Go.Proofs.YtigcjinpkngapaaGreatDoor
end
section
namespace Go.Proofs.YtigcjinpkngapaaGreatDoor
open Go.Ac
attribute [local irreducible] awp awpL Ev Ev2 EvS thenQ blockQ retQ PCalls OCalls
variable {g : List (Nat × List AV)}
def tierC (t : Tier) : List AV := [.v (.string t.name), .v (.int .i64 t.kind), .v (.int .i64 t.role), .v (.int .i64 t.parent)]
abbrev encTiers (l : List Tier) : AV := .fs 4 l.length (l.map tierC)
abbrev encNotes (l : List Note) : AV := .fs 7 l.length (l.map noteC)
def docC (d : Doc) : List AV := [.v (.int .i64 d.rec_.id), .v (.string d.rec_.name), .v (.int .i64 d.rec_.length), .v (.int .i64 d.rec_.day), encIs d.rec_.speakers, encTiers d.tiers, encNotes d.notes]
theorem note_get {l : List Note} {k : Nat} {x : Note} (h : l[k]? = some x) : 0 ≤ (k : Int) ∧ (l.map noteC)[(k : Int).toNat]? = some (noteC x) := ⟨by omega, by simp [h]⟩
theorem tier_get {l : List Tier} {i : Int} {x : Tier} (h : tierAt l i = some x) : 0 ≤ i ∧ i < l.length ∧ (0 ≤ i ∧ (l.map tierC)[i.toNat]? = some (tierC x)) := by
  unfold tierAt at h
  split at h
  · rename_i h0
    have := (List.getElem?_eq_some_iff.1 h).1
    exact ⟨h0, by omega, h0, by rw [List.getElem?_map, h]; rfl⟩
  · cases h
theorem tier_none {l : List Tier} {i : Int} (h : tierAt l i = none) : i < 0 ∨ 0 ≤ i ∧ (l.length : Int) ≤ i := by
  unfold tierAt at h
  split at h
  · rename_i h0
    have := List.getElem?_eq_none_iff.1 h
    exact .inr ⟨h0, by omega⟩
  · exact .inl (by omega)
def zeroNote : Note := ⟨0, 0, 0, ⟨0, 0⟩, 0, .empty⟩
abbrev getV (o : Option Note) : AV := .tup [.agg (noteC (o.getD zeroNote)), vb o.isSome]
set_option maxHeartbeats 1000000 in
theorem rGet_spec (d : Doc) (n : Int) (hl : d.notes.length ≤ 1000000) : PCalls Tryz.prog g 123 [.agg (docC d), vi n] (getV (getN d.notes n)) := by
  refine pcalls' Tryz.func123 Tryz.ntmps123 rfl rfl rfl ?_
  repeat' (first
   | refine stn [4] ?_
   | ((with_reducible refine is_gd ?_); refine awpL_split rfl rfl (fun h => ?_) (fun h => ?_))
   | ((with_reducible refine is_awp ?_); refine awp_cond rfl (fun h => ?_) (fun h => ?_))
   | fail)
  refine awp_for (α := Nat) 1 (fun k => [(1, vi n), (2, .fp (docC d)), (4, .lp 0 0), (6, vi k)]) (fun k => [.box (noteC zeroNote)]) (fun k => k ≤ d.notes.length ∧ getN d.notes n = (d.notes.drop k).find? fun o => decide (o.id = n)) (fun k => d.notes.length - k) 0
    ⟨(.cons rfl rfl (.cons rfl rfl (.cons rfl rfl (.cons rfl rfl .nil)))), rfl, rfl, rfl⟩ ⟨Nat.zero_le _, rfl⟩ ?_
  rintro k ⟨hk, hf⟩
  cases ht : d.notes[k]? with
  | none =>
    have hge : d.notes.length ≤ k := by simpa using ht
    have c1 : decide ((k : Int) < d.notes.length) = false := decide_eq_false (by omega)
    rw [List.drop_of_length_le hge] at hf
    rw [hf]
    repeat' (first
     | refine stn [4] ?_
     | ((with_reducible refine is_gd ?_); refine awpL_split rfl rfl (fun h => ?_) (fun h => ?_))
     | ((with_reducible refine is_awp ?_); refine awp_cond rfl (fun h => ?_) (fun h => ?_))
     | fail)
    refine retP rfl ?_
    rfl
  | some x =>
    have hlt : k < d.notes.length := (List.getElem?_eq_some_iff.1 ht).1
    have c1 : decide ((k : Int) < d.notes.length) = true := decide_eq_true (by omega)
    have h1 := note_get ht
    rw [find_dropN ht] at hf
    by_cases hid : x.id = n
    · have d2 : decide (x.id = n) = true := decide_eq_true hid
      rw [d2] at hf
      rw [hf]
      repeat' (first
       | refine stn [4] ?_
       | ((with_reducible refine is_gd ?_); refine awpL_split rfl rfl (fun h => ?_) (fun h => ?_))
       | ((with_reducible refine is_awp ?_); refine awp_cond rfl (fun h => ?_) (fun h => ?_))
       | fail)
      refine retP rfl ?_
      rfl
    · have d2 : decide (x.id = n) = false := decide_eq_false hid
      rw [d2] at hf
      repeat' (first
       | refine stn [4] ?_
       | ((with_reducible refine is_gd ?_); refine awpL_split rfl rfl (fun h => ?_) (fun h => ?_))
       | ((with_reducible refine is_awp ?_); refine awp_cond rfl (fun h => ?_) (fun h => ?_))
       | fail)
      exact ⟨k + 1, ⟨(.cons rfl rfl (.cons rfl rfl (.cons rfl rfl (.cons rfl rfl .nil)))), rfl, rfl, rfl⟩, ⟨by omega, hf⟩, by omega⟩
set_option maxHeartbeats 1000000 in
theorem al_spec (k : Int) : PCalls Tryz.prog g 106 [vi k] (vb (timed k)) := by
  refine pcalls' Tryz.func106 Tryz.ntmps106 rfl rfl rfl ?_
  unfold timed
  by_cases h0 : k = 0
  · have d0 : decide (k = 0) = true := decide_eq_true h0
    rw [d0]
    repeat' (first
     | refine stn [] ?_
     | ((with_reducible refine is_gd ?_); refine awpL_split rfl rfl (fun h => ?_) (fun h => ?_))
     | ((with_reducible refine is_awp ?_); refine awp_cond rfl (fun h => ?_) (fun h => ?_))
     | fail)
    exact retP rfl rfl
  have d0 : decide (k = 0) = false := decide_eq_false h0
  by_cases h1 : k = 1
  · have d1 : decide (k = 1) = true := decide_eq_true h1
    rw [d0, d1]
    repeat' (first
     | refine stn [] ?_
     | ((with_reducible refine is_gd ?_); refine awpL_split rfl rfl (fun h => ?_) (fun h => ?_))
     | ((with_reducible refine is_awp ?_); refine awp_cond rfl (fun h => ?_) (fun h => ?_))
     | fail)
    exact retP rfl rfl
  have d1 : decide (k = 1) = false := decide_eq_false h1
  by_cases h2 : k = 2
  · have d2 : decide (k = 2) = true := decide_eq_true h2
    rw [d0, d1, d2]
    repeat' (first
     | refine stn [] ?_
     | ((with_reducible refine is_gd ?_); refine awpL_split rfl rfl (fun h => ?_) (fun h => ?_))
     | ((with_reducible refine is_awp ?_); refine awp_cond rfl (fun h => ?_) (fun h => ?_))
     | fail)
    refine retP rfl ?_
    simp [ex, d2]
  have d2 : decide (k = 2) = false := decide_eq_false h2
  rw [d0, d1, d2]
  repeat' (first
   | refine stn [] ?_
   | ((with_reducible refine is_gd ?_); refine awpL_split rfl rfl (fun h => ?_) (fun h => ?_))
   | ((with_reducible refine is_awp ?_); refine awp_cond rfl (fun h => ?_) (fun h => ?_))
   | fail)
  refine retP rfl ?_
  simp [ex, d2]
set_option maxHeartbeats 1000000 in
theorem rtimed_spec (k : Int) : PCalls Tryz.prog g 153 [vi k] (vb (timed k)) := by
  refine pcalls' Tryz.func153 Tryz.ntmps153 rfl rfl rfl ?_
  unfold timed
  by_cases h0 : k = 0
  · have d0 : decide (k = 0) = true := decide_eq_true h0
    rw [d0]
    repeat' (first
     | refine stn [] ?_
     | ((with_reducible refine is_gd ?_); refine awpL_split rfl rfl (fun h => ?_) (fun h => ?_))
     | ((with_reducible refine is_awp ?_); refine awp_cond rfl (fun h => ?_) (fun h => ?_))
     | fail)
    exact retP rfl rfl
  have d0 : decide (k = 0) = false := decide_eq_false h0
  by_cases h1 : k = 1
  · have d1 : decide (k = 1) = true := decide_eq_true h1
    rw [d0, d1]
    repeat' (first
     | refine stn [] ?_
     | ((with_reducible refine is_gd ?_); refine awpL_split rfl rfl (fun h => ?_) (fun h => ?_))
     | ((with_reducible refine is_awp ?_); refine awp_cond rfl (fun h => ?_) (fun h => ?_))
     | fail)
    exact retP rfl rfl
  have d1 : decide (k = 1) = false := decide_eq_false h1
  by_cases h2 : k = 2
  · have d2 : decide (k = 2) = true := decide_eq_true h2
    rw [d0, d1, d2]
    repeat' (first
     | refine stn [] ?_
     | ((with_reducible refine is_gd ?_); refine awpL_split rfl rfl (fun h => ?_) (fun h => ?_))
     | ((with_reducible refine is_awp ?_); refine awp_cond rfl (fun h => ?_) (fun h => ?_))
     | fail)
    refine retP rfl ?_
    simp [ex, d2]
  have d2 : decide (k = 2) = false := decide_eq_false h2
  rw [d0, d1, d2]
  repeat' (first
   | refine stn [] ?_
   | ((with_reducible refine is_gd ?_); refine awpL_split rfl rfl (fun h => ?_) (fun h => ?_))
   | ((with_reducible refine is_awp ?_); refine awp_cond rfl (fun h => ?_) (fun h => ?_))
   | fail)
  refine retP rfl ?_
  simp [ex, d2]
set_option maxHeartbeats 1000000 in
theorem Aligned_spec (l : List Tier) (i : Int) (hl : l.length ≤ 1000000) : PCalls Tryz.prog g 108 [encTiers l, vi i] (vb (alignedT l i)) := by
  refine pcalls' Tryz.func108 Tryz.ntmps108 rfl rfl rfl ?_
  unfold alignedT
  cases ht : tierAt l i with
  | some t =>
    obtain ⟨h0, h1, h2⟩ := tier_get ht
    have d0 : decide (0 ≤ i) = true := decide_eq_true h0
    have d1 : decide (i < l.length) = true := decide_eq_true h1
    have hT := al_spec (g := g) t.kind
    repeat' (first
     | refine stn [] ?_
     | ((with_reducible refine is_gd ?_); refine awpL_split rfl rfl (fun h => ?_) (fun h => ?_))
     | ((with_reducible refine is_awp ?_); refine awp_cond rfl (fun h => ?_) (fun h => ?_))
     | fail)
    exact retP rfl rfl
  | none =>
    rcases tier_none ht with h | ⟨h, h'⟩
    · have d0 : decide (0 ≤ i) = false := decide_eq_false (by omega)
      repeat' (first
       | refine stn [] ?_
       | ((with_reducible refine is_gd ?_); refine awpL_split rfl rfl (fun h => ?_) (fun h => ?_))
       | ((with_reducible refine is_awp ?_); refine awp_cond rfl (fun h => ?_) (fun h => ?_))
       | fail)
      exact retP rfl rfl
    · have d0 : decide (0 ≤ i) = true := decide_eq_true h
      have d1 : decide (i < l.length) = false := decide_eq_false (by omega)
      repeat' (first
       | refine stn [] ?_
       | ((with_reducible refine is_gd ?_); refine awpL_split rfl rfl (fun h => ?_) (fun h => ?_))
       | ((with_reducible refine is_awp ?_); refine awp_cond rfl (fun h => ?_) (fun h => ?_))
       | fail)
      exact retP rfl rfl
end Go.Proofs.YtigcjinpkngapaaGreatDoor
end
section
namespace Go.Proofs.YtigcjinpkngapaaGreatDoor
theorem right_iff {s : Span} : spanRight s = true ↔ 0 ≤ s.fro ∧ s.fro < s.til ∧ s.til ≤ 86400000 := by
  simp [spanRight, and_assoc]
abbrev inS (p : Int) (x : Span) : Prop := x.fro ≤ p ∧ p < x.til
def leftS (x b : Span) : Span := ⟨x.fro, min x.til b.fro⟩
def rightS (x b : Span) : Span := ⟨max x.fro b.til, x.til⟩
def cutS (b x : Span) : List Span := (if spanRight (leftS x b) then [leftS x b] else []) ++ (if spanRight (rightS x b) then [rightS x b] else [])
def withoutL (out : List Span) (b : Span) : List Span := out.flatMap (cutS b)
def minusStep (out : List Span) (b : Span) : List Span := if spanRight b then withoutL out b else out
def minusL (s : Span) (l : List Span) : List Span := l.foldl minusStep [s]
def covB (l : List Span) (s : Span) : Bool := spanRight s && (minusL s l).isEmpty
def AllR (l : List Span) : Prop := ∀ x ∈ l, spanRight x = true
theorem cutS_mem {b x : Span} (hb : spanRight b = true) (hx : spanRight x = true) (p : Int) : (∃ y ∈ cutS b x, inS p y) ↔ inS p x ∧ ¬ inS p b := by
  rw [right_iff] at hb hx
  unfold cutS
  constructor
  · rintro ⟨y, hy, hp⟩
    rcases List.mem_append.1 hy with h | h
    · split at h
      · simp only [List.mem_singleton] at h
        subst h
        unfold inS leftS at hp
        simp only at hp
        unfold inS
        omega
      · cases h
    · split at h
      · simp only [List.mem_singleton] at h
        subst h
        unfold inS rightS at hp
        simp only at hp
        unfold inS
        omega
      · cases h
  · rintro ⟨h1, h2⟩
    unfold inS at h1 h2
    by_cases hq : p < b.fro
    · have hr : spanRight (leftS x b) = true := by rw [right_iff]; unfold leftS; simp only; omega
      refine ⟨leftS x b, List.mem_append.2 (.inl (by rw [if_pos hr]; simp)), ?_⟩
      unfold inS leftS; simp only; omega
    · have hr : spanRight (rightS x b) = true := by rw [right_iff]; unfold rightS; simp only; omega
      refine ⟨rightS x b, List.mem_append.2 (.inr (by rw [if_pos hr]; simp)), ?_⟩
      unfold inS rightS; simp only; omega
theorem cutS_right {b x : Span} : AllR (cutS b x) := by
  intro y hy
  unfold cutS at hy
  rcases List.mem_append.1 hy with h | h
  · split at h
    · simp only [List.mem_singleton] at h; subst h; assumption
    · cases h
  · split at h
    · simp only [List.mem_singleton] at h; subst h; assumption
    · cases h
theorem minus_inv {s : Span} : ∀ {l out : List Span}, AllR out → AllR (l.foldl minusStep out) ∧ ∀ p, (∃ y ∈ l.foldl minusStep out, inS p y) ↔ (∃ y ∈ out, inS p y) ∧ ¬ ∃ t ∈ l, spanRight t = true ∧ inS p t
  | [], out, h => ⟨h, fun p => by simp⟩
  | b :: r, out, h => by
    have hst : AllR (minusStep out b) := by
      unfold minusStep
      split
      · intro y hy
        obtain ⟨x, hx, hy⟩ := List.mem_flatMap.1 hy
        exact cutS_right y hy
      · exact h
    obtain ⟨h1, h2⟩ := minus_inv (s := s) (l := r) hst
    refine ⟨h1, fun p => ?_⟩
    rw [List.foldl_cons, h2 p]
    have key : (∃ y ∈ minusStep out b, inS p y) ↔ (∃ y ∈ out, inS p y) ∧ ¬ (spanRight b = true ∧ inS p b) := by
      unfold minusStep
      by_cases hb : spanRight b = true
      · rw [if_pos hb]
        constructor
        · rintro ⟨y, hy, hp⟩
          obtain ⟨x, hx, hy⟩ := List.mem_flatMap.1 hy
          obtain ⟨q1, q2⟩ := (cutS_mem hb (h x hx) p).1 ⟨y, hy, hp⟩
          exact ⟨⟨x, hx, q1⟩, fun q => q2 q.2⟩
        · rintro ⟨⟨x, hx, hp⟩, hn⟩
          obtain ⟨y, hy, hp'⟩ := (cutS_mem hb (h x hx) p).2 ⟨hp, fun q => hn ⟨hb, q⟩⟩
          exact ⟨y, List.mem_flatMap.2 ⟨x, hx, hy⟩, hp'⟩
      · rw [if_neg hb]
        exact ⟨fun q => ⟨q, fun r => hb r.1⟩, fun q => q.1⟩
    rw [key]
    constructor
    · rintro ⟨⟨q1, q2⟩, q3⟩
      refine ⟨q1, ?_⟩
      rintro ⟨t, ht, ht'⟩
      rcases List.mem_cons.1 ht with rfl | ht
      · exact q2 ht'
      · exact q3 ⟨t, ht, ht'⟩
    · rintro ⟨q1, q2⟩
      exact ⟨⟨q1, fun q => q2 ⟨b, by simp, q⟩⟩, fun ⟨t, ht, ht'⟩ => q2 ⟨t, by simp [ht], ht'⟩⟩
theorem covB_iff {l : List Span} {s : Span} (hs : spanRight s = true) : covB l s = true ↔ ∀ p, inS p s → ∃ t ∈ l, spanRight t = true ∧ inS p t := by
  obtain ⟨h1, h2⟩ := minus_inv (s := s) (l := l) (out := [s]) (by intro x hx; simp at hx; subst hx; exact hs)
  have : covB l s = (minusL s l).isEmpty := by unfold covB; rw [hs]; rfl
  rw [this, List.isEmpty_iff]
  constructor
  · intro he p hp
    have := (h2 p).2
    rcases Classical.em (∃ t ∈ l, spanRight t = true ∧ inS p t) with g | g
    · exact g
    · obtain ⟨y, hy, _⟩ := this ⟨⟨s, by simp, hp⟩, g⟩
      unfold minusL at he
      rw [he] at hy
      cases hy
  · intro hc
    cases hm : minusL s l with
    | nil => rfl
    | cons y r =>
      exfalso
      have hy : y ∈ l.foldl minusStep [s] := by unfold minusL at hm; rw [hm]; simp
      have hr := right_iff.1 (h1 y hy)
      obtain ⟨⟨x, hx, hp⟩, hn⟩ := (h2 y.fro).1 ⟨y, hy, by unfold inS; omega⟩
      simp only [List.mem_singleton] at hx
      subst hx
      exact hn (hc _ hp)
end Go.Proofs.YtigcjinpkngapaaGreatDoor
end
section
namespace Go.Proofs.YtigcjinpkngapaaGreatDoor
def findTF (name : ByteArray) : Nat → List Tier → Int
  | _, [] => -1
  | i, t :: r => if t.name = name then i else findTF name (i + 1) r
def findT (l : List Tier) (name : ByteArray) : Int := findTF name 0 l
def roleTF (role : Int) : Nat → List Tier → Int
  | _, [] => -1
  | i, t :: r => if role ≠ 0 ∧ t.role = role then i else roleTF role (i + 1) r
def roleT (l : List Tier) (role : Int) : Int := roleTF role 0 l
theorem findTF_drop (name : ByteArray) (l : List Tier) (k : Nat) (t : Tier) (h : l[k]? = some t) : findTF name k (l.drop k) = if t.name = name then (k : Int) else findTF name (k + 1) (l.drop (k + 1)) := by
  obtain ⟨hlt, rfl⟩ := List.getElem?_eq_some_iff.1 h
  rw [List.drop_eq_getElem_cons hlt]; rfl
theorem roleTF_drop (role : Int) (l : List Tier) (k : Nat) (t : Tier) (h : l[k]? = some t) : roleTF role k (l.drop k) = if role ≠ 0 ∧ t.role = role then (k : Int) else roleTF role (k + 1) (l.drop (k + 1)) := by
  obtain ⟨hlt, rfl⟩ := List.getElem?_eq_some_iff.1 h
  rw [List.drop_eq_getElem_cons hlt]; rfl
def smallB (b : Nat) : Bool := decide (97 ≤ b) && decide (b ≤ 122)
def letterB (b : Nat) : Bool := smallB b || decide (48 ≤ b) && decide (b ≤ 57) || decide (b = 45) || decide (b = 95)
def nameOk (s : ByteArray) : Bool := decide (1 ≤ s.size) && decide (s.size ≤ 32) && (match s.data.toList with | [] => false | b :: _ => smallB b.toNat) && s.data.toList.all fun b => letterB b.toNat
def rolesE (above : Int) (t : Tier) : Int :=
  let kind := if t.role = 1 then 0 else if t.role = 3 then 3 else if t.role = 4 then 4 else if t.role = 5 then 4 else t.kind
  let need := if t.role = 2 then 1 else if t.role = 3 then 2 else if t.role = 4 then 3 else if t.role = 5 then 1 else above
  if t.kind ≠ kind then 14 else if above ≠ need then 13 else 0
def tierOne (before : List Tier) (t : Tier) : Int :=
  if nameOk t.name = false then 7
  else if 0 ≤ findT before t.name then 8
  else if t.kind < 0 ∨ 4 < t.kind then 14
  else if t.role < 0 ∨ 5 < t.role then 2
  else if 0 ≤ roleT before t.role then 8
  else if t.kind = 0 then (if t.parent ≠ -1 then 13 else rolesE (-1) t)
  else if t.parent < 0 ∨ before.length ≤ t.parent then 13
  else match before[t.parent.toNat]? with
    | none => 13
    | some p => if timed t.kind = true ∧ timed p.kind = false then 13 else rolesE p.role t
def tiersEF (l : List Tier) : Nat → Nat → Int
  | 0, _ => 0
  | n + 1, i => match l[i]? with
    | none => 0
    | some t => if tierOne (l.take i) t ≠ 0 then tierOne (l.take i) t else tiersEF l n (i + 1)
def tiersE (l : List Tier) : Int := if 12 < l.length then 11 else tiersEF l l.length 0
theorem tiersEF_step {l : List Tier} {n i : Nat} {t : Tier} (h : l[i]? = some t) : tiersEF l (n + 1) i = if tierOne (l.take i) t ≠ 0 then tierOne (l.take i) t else tiersEF l n (i + 1) := by
  simp only [tiersEF, h]
theorem tiersEF_all {l : List Tier} : ∀ (n i : Nat), tiersEF l n i = 0 → i + n = l.length → ∀ k, i ≤ k → ∀ t, l[k]? = some t → tierOne (l.take k) t = 0
  | 0, i, _, hn, k, hk, t, ht => by
    have := (List.getElem?_eq_some_iff.1 ht).1
    omega
  | n + 1, i, h, hn, k, hk, t, ht => by
    have hi : i < l.length := by omega
    have hti : l[i]? = some l[i] := by simp [hi]
    rw [tiersEF_step hti] at h
    split at h
    · rename_i h'; exact absurd h h'
    · rename_i h'
      simp only [ne_eq, Decidable.not_not] at h'
      rcases Nat.eq_or_lt_of_le hk with rfl | hlt
      · rw [hti] at ht; injection ht with ht; subst ht; exact h'
      · exact tiersEF_all n (i + 1) h (by omega) k hlt t ht
theorem tiersE_len {l : List Tier} (h : tiersE l = 0) : l.length ≤ 12 := by
  unfold tiersE at h
  split at h
  · cases h
  · omega
theorem tiersE_one {l : List Tier} (h : tiersE l = 0) {k : Nat} {t : Tier} (ht : l[k]? = some t) : tierOne (l.take k) t = 0 := by
  have hl := tiersE_len h
  have : tiersE l = tiersEF l l.length 0 := by simp [tiersE]; omega
  rw [this] at h
  exact tiersEF_all l.length 0 h (by omega) k (by omega) t ht
theorem tierOne_parent {b : List Tier} {t : Tier} (h : tierOne b t = 0) : 0 ≤ t.kind ∧ t.kind ≤ 4 ∧ (t.kind = 0 ∧ t.parent = -1 ∨ t.kind ≠ 0 ∧ 0 ≤ t.parent ∧ t.parent < b.length) := by
  unfold tierOne at h
  split at h
  · cases h
  split at h
  · cases h
  split at h
  · cases h
  rename_i hk
  refine ⟨by omega, by omega, ?_⟩
  split at h
  · cases h
  split at h
  · cases h
  split at h
  · rename_i h0
    split at h
    · cases h
    · rename_i h1; exact .inl ⟨h0, Decidable.of_not_not h1⟩
  · rename_i h0
    split at h
    · cases h
    · rename_i h1; exact .inr ⟨h0, by omega, by omega⟩
def noNote : Note := ⟨0, 0, 0, ⟨0, 0⟩, 0, .empty⟩
def placedE (d : Doc) (t : Tier) (n : Note) : Int :=
  if (t.kind = 0 ∧ n.parent ≠ 0) ∨ (t.kind ≠ 0 ∧ ((getN d.notes n.parent).isSome = false ∨ ((getN d.notes n.parent).getD noNote).tier ≠ t.parent)) then 13
  else if (timed t.kind = false ∧ n.span ≠ ⟨0, 0⟩) ∨ (timed t.kind = true ∧ spanRight n.span = false) then 12
  else if t.kind = 0 ∧ d.rec_.length < n.span.til then 12
  else if (timed t.kind = true ∧ t.kind ≠ 0) ∧ (n.span.fro < ((getN d.notes n.parent).getD noNote).span.fro ∨ ((getN d.notes n.parent).getD noNote).span.til < n.span.til) then 12
  else if n.rank < 0 ∨ (n.rank ≠ 0 ∧ t.kind ≠ 3) then 1
  else 0
def lateB (p : Option Note) (n : Note) : Bool := match p with | some q => decide (n.id ≤ q.id) | none => false
def noteE (d : Doc) (p : Option Note) (n : Note) : Int :=
  if n.id < 1 ∨ 1099511627776 < n.id then 2
  else if lateB p n = true then 10
  else match tierAt d.tiers n.tier with
    | none => 2
    | some t => if textE n.text ≠ 0 then textE n.text else placedE d t n
def sibs (d : Doc) (tier parent : Int) : List Note := d.notes.filter fun n => decide (n.tier = tier) && decide (n.parent = parent)
def meet (a b : Span) : Bool := decide (a.fro < b.til) && decide (b.fro < a.til)
def overlapL : List Span → Bool
  | l => (List.range l.length).any fun i => (List.range i).any fun k => meet (l.getD i ⟨0, 0⟩) (l.getD k ⟨0, 0⟩)
def rankedL (l : List Int) : Bool := (List.range l.length).all fun n => l.any fun r => decide (r = (n : Int))
def tierStep (d : Doc) (kind : Int) (out : Int) (n : Note) : Int :=
  let l := sibs d n.tier n.parent
  let a := if kind = 1 ∧ covB (l.map (·.span)) ((getN d.notes n.parent).getD noNote).span = false then 16 else out
  let b := if kind = 3 ∧ rankedL (l.map (·.rank)) = false then 10 else a
  if kind = 4 ∧ 1 < l.length then 8 else b
def tierE1 (d : Doc) (kind tier : Int) : Int → List Note → Int
  | out, [] => out
  | out, n :: r => if n.tier ≠ tier then tierE1 d kind tier out r
    else if timed kind = true ∧ overlapL ((sibs d n.tier n.parent).map (·.span)) = true then 15
    else tierE1 d kind tier (tierStep d kind out n) r
def tierE (d : Doc) (tier : Int) : Int := match tierAt d.tiers tier with
  | none => 0
  | some t => tierE1 d t.kind tier 0 d.notes
def notesE (d : Doc) : Option Note → List Note → Int
  | _, [] => 0
  | p, n :: r => if noteE d p n ≠ 0 then noteE d p n else notesE d (some n) r
def eachE (d : Doc) : Nat → Nat → Int
  | 0, _ => 0
  | m + 1, i => if tierE d (i : Int) ≠ 0 then tierE d (i : Int) else eachE d m (i + 1)
def docE (d : Doc) : Int :=
  if tiersE d.tiers ≠ 0 then tiersE d.tiers
  else if d.rec_.length < 0 ∨ 86400000 < d.rec_.length then 12
  else if 300 < d.notes.length then 11
  else if notesE d none d.notes ≠ 0 then notesE d none d.notes
  else eachE d d.tiers.length 0
theorem notesE_all {d : Doc} : ∀ (l : List Note) (p : Option Note), notesE d p l = 0 → ∀ n ∈ l, ∃ q, noteE d q n = 0
  | [], _, _, n, hn => by cases hn
  | x :: r, p, h, n, hn => by
    rw [notesE] at h
    split at h
    · rename_i h1; exact absurd h h1
    · rename_i h1
      rcases List.mem_cons.1 hn with rfl | hn
      · exact ⟨p, Decidable.of_not_not h1⟩
      · exact notesE_all r (some x) h n hn
theorem docE_zero {d : Doc} (h : docE d = 0) : tiersE d.tiers = 0 ∧ 0 ≤ d.rec_.length ∧ d.rec_.length ≤ 86400000 ∧ d.notes.length ≤ 300 ∧ notesE d none d.notes = 0 ∧ eachE d d.tiers.length 0 = 0 := by
  unfold docE at h
  split at h
  · rename_i h1; exact absurd h h1
  rename_i h1
  split at h
  · cases h
  split at h
  · cases h
  split at h
  · rename_i h4; exact absurd h h4
  · rename_i h4
    exact ⟨Decidable.of_not_not h1, by omega, by omega, by omega, Decidable.of_not_not h4, h⟩
theorem noteE_zero {d : Doc} {p : Option Note} {n : Note} (h : noteE d p n = 0) : 1 ≤ n.id ∧ n.id ≤ 1099511627776 ∧ textE n.text = 0 ∧ ∃ t, tierAt d.tiers n.tier = some t ∧ placedE d t n = 0 := by
  unfold noteE at h
  split at h
  · cases h
  split at h
  · cases h
  cases ht : tierAt d.tiers n.tier with
  | none => rw [ht] at h; cases h
  | some t =>
    rw [ht] at h
    simp only at h
    split at h
    · rename_i h1; exact absurd h h1
    · rename_i h1
      exact ⟨by omega, by omega, Decidable.of_not_not h1, t, rfl, h⟩
theorem tierAt_some {l : List Tier} {i : Int} {t : Tier} (h : tierAt l i = some t) : 0 ≤ i ∧ l[i.toNat]? = some t := by
  unfold tierAt at h
  split at h
  · rename_i h0; exact ⟨h0, h⟩
  · cases h
end Go.Proofs.YtigcjinpkngapaaGreatDoor
end
