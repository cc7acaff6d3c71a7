/- The statement TopOffline: whatever the input: true; the input reads as it did. -/
import Derived.Test.YtcfkokllinkigaaGreatDoorB29
import Derived.Test.YtcfkokllinkigaaGreatDoorTie
import Derived.Test.YtcfkokllinkigaaGreatDoorCards
import Derived.SevenTiedAt
import Derived.WalkKit
import Derived.ProofKit
import Derived.OpenShut
import Derived.ShutString
import Derived.ChangeOld
import Derived.ChangeSame
import Derived.ChangeVars
import Derived.JoinedOf
import Derived.RowKit
import Derived.LaidLaws
import Derived.Lay
import Derived.Below
import Derived.Stop.Joined
namespace Go.Proofs.YtcfkokllinkigaaGreatDoor.pTopOffline
open Go.ChangeShapes Go.WideShapes Go.ChangeAt Go.RowKit Go.Ac
open Go.ChangeMaps (open_string shut_string)
set_option linter.unusedVariables false

theorem own : ownKnob Tryz.prog.godebug = none := by kernel_rfl
theorem laidOut : laidOutB Tryz.prog = true := by kernel_rfl
theorem closed : closedT td [24, 22, 3, 9, 25, 71, 28, 26, 80, 77, 56, 54, 78, 30] = true := by kernel_rfl
theorem bytes : byteT td [24, 22, 3, 9, 25, 71, 28, 26, 80, 77, 56, 54, 78, 30] = true := by kernel_rfl
abbrev laidR : List (String × DataW Unit) := [("unicode/utf8.acceptRanges", Rows.laid_unicode_utf8_acceptRanges), ("langdoc/replica.fields", Rows.laid_langdoc_replica_fields), ("unicode/utf8.first", Rows.laid_unicode_utf8_first)]
theorem read_agg {H : Type} {enc : TypeId × Value → H} {P : Program} {W : World} {sp : Nat → Bool} {td : TDs} [TOK P td] {C : List Nat} (hC : closedT td C = true) {t : Nat} {cs : Array Value} {d : DataW H} {p : List MemPlace} (hB : byteT td C = true) {B : Nat} (ht : t ∈ C) (h : DataW.Trod enc P W 0 sp true t (.agg cs) d p) (hw : (d.weights P t).all (· ≤ B) = true) :
    ∃ f xs, ShpB td B f t xs ∧ RF (below W) W (.agg xs) (.agg cs) := by
  obtain ⟨f, hf⟩ := h
  obtain ⟨xs, h1, h2⟩ := trod_LFB hC hB f t _ _ ht hf hw
  exact ⟨f, xs, h1, by simp only [RF]; exact ⟨cs, rfl, h2⟩⟩

theorem okArr {P : Program} {w : World} {r : Reach} {base : Nat} {t : TypeId} {v : Value} {n : Nat} {e : TypeId} (ht : P.underlying t = some (.array n e)) (h : Value.okWide P w r base t v) : ∃ cs, v = .agg cs := by
  simp only [Value.okWide, ht] at h
  obtain ⟨cs, h1, h2, _⟩ := h
  exact ⟨cs, h1⟩
theorem met (os : Os) (args : Array Value) : laidMetH Tryz.prog laidR ((World.laidAll Tryz.prog os laidR).forCall (fun _ _ => 0) ⟨#[], args, []⟩).memory :=
  laidMet_laidAll args (by kernel_rfl) (by kernel_rfl)

set_option maxRecDepth 100000 in
theorem lifted (os : Os) (started : os.Started) (H : Type) (enc : TypeId × Value → H) :
    ReturnsInHanded {} Tryz.checked os 3 .any (fun w args => (Rows.topOfflineSpec.pre enc Tryz.prog Tryz.f3 [] false w args ∧ laidMetH Tryz.prog laidR w) ∧ sizedMet enc Tryz.prog Tryz.f3 (OpenSpec.ofChange Rows.topOfflineSpec) false w args)
      (Rows.topOfflineSpec.post enc Tryz.prog Tryz.f3 false true false false) := by
  refine returnsInHanded_of_change_and (C := Tryz.checked) (X := fun w _ => laidMetH Tryz.prog laidR w) (fun _ _ _ hh h => h.of_heap hh) own started (by kernel_rfl) Tryz.func3
    (ChangeSpec.witness_at (enc := enc) (C := Tryz.checked) (os := os) (X := fun w _ => laidMetH Tryz.prog laidR w) false (World.laidAll Tryz.prog os laidR) #[.agg #[.int .i64 0, .string .empty, .int .i64 0, .int .i64 0, .slice none 0 0], .slice none 0 0, .agg #[.int .i64 0, .slice none 0 0, .slice none 0 0, .int .i64 0, .slice none 0 0, .slice none 0 0, .int .i64 0, .slice none 0 0, .slice none 0 0], .agg #[.int .u16 0, .int .u16 0, .int .u16 0], .int .u8 0] 8 (World.laidAll_os _ _ _) (by kernel_rfl) (by kernel_rfl) (by kernel_rfl) (by kernel_rfl) (by kernel_rfl) (met os _)) ?_
  intro W base args ds gs before hval0 hW _ hwt hL _
  have hval : ∀ (j : Nat) t v, Tryz.f3.params[j]? = some t → args[j]? = some v → Value.okWide Tryz.prog W .any base t v := hval0
  have hW' := hW
  obtain ⟨p, q, hA0, hV, rfl, hfz, hnd⟩ := hW
  have hA : DataW.TrodAll enc Tryz.prog W 0 (fun _ => true) true Tryz.f3.params.toList args.toList ds p := hA0
  rw [Tryz.params3] at hA hval hwt
  obtain ⟨v0, vs0, d0, ds0, p0, q0, hargs, rfl, rfl, h0, r0⟩ := trodAll_cons hA
  obtain ⟨v1, vs1, d1, ds1, p1, q1, rfl, rfl, rfl, h1, r1⟩ := trodAll_cons r0
  obtain ⟨v2, vs2, d2, ds2, p2, q2, rfl, rfl, rfl, h2, r2⟩ := trodAll_cons r1
  obtain ⟨v3, vs3, d3, ds3, p3, q3, rfl, rfl, rfl, h3, r3⟩ := trodAll_cons r2
  obtain ⟨v4, vs4, d4, ds4, p4, q4, rfl, rfl, rfl, h4, r4⟩ := trodAll_cons r3
  obtain ⟨rfl, rfl, rfl⟩ := trodAll_nil r4
  obtain rfl : args = #[v0, v1, v2, v3, v4] := by cases args; simp_all
  obtain ⟨rfl, rfl⟩ := trodVars_none hV
  obtain ⟨cs0, rfl, z0⟩ := okWide_struct Tryz.underlying24 (hval 0 24 v0 rfl rfl)
  have lt0 : ∀ x ∈ p0, x.block < W.heap.size := by obtain ⟨m, hm⟩ := h0; exact DataW.trod_lt m _ _ _ hm
  obtain ⟨f0, as0, s0, g0⟩ := read_agg (P := Tryz.prog) (td := td) closed bytes (by decide) h0 (weightsEach_get hwt 0 _ _ rfl rfl)
  obtain ⟨rc, rfl, hsp⟩ := top_rec s0
  obtain ⟨a1, len1, cap1, rfl⟩ := okWide_slice Tryz.underlying25 (hval 1 25 v1 rfl rfl)
  have lt1 : ∀ x ∈ p1, x.block < W.heap.size := by obtain ⟨m, hm⟩ := h1; exact DataW.trod_lt m _ _ _ hm
  obtain ⟨f1, as1, s1, g1⟩ := read_one (P := Tryz.prog) (td := td) closed (by decide) h1 rfl
  obtain ⟨l, rfl, hnm⟩ := top_tiers s1
  obtain ⟨cs2, rfl⟩ := okArr Tryz.underlying29 (hval 2 29 v2 rfl rfl)
  have lt2 : ∀ x ∈ p2, x.block < W.heap.size := by obtain ⟨m, hm⟩ := h2; exact DataW.trod_lt m _ _ _ hm
  obtain ⟨f2, as2, s2, g2⟩ := read_arr (P := Tryz.prog) (td := td) (n := 3) (e := 28) closed bytes rfl rfl (by decide) (by kernel_rfl) h2 (weightsEach_get hwt 2 _ _ rfl rfl)
  obtain ⟨ra, rb, rd, rfl, i0, i1, i2⟩ := top_reps s2
  obtain ⟨cs3, rfl⟩ := okArr Tryz.underlying31 (hval 3 31 v3 rfl rfl)
  have lt3 : ∀ x ∈ p3, x.block < W.heap.size := by obtain ⟨m, hm⟩ := h3; exact DataW.trod_lt m _ _ _ hm
  obtain ⟨f3, as3, s3, g3⟩ := read_arr (P := Tryz.prog) (td := td) (n := 3) (e := 30) closed bytes rfl rfl (by decide) (by kernel_rfl) h3 (weightsEach_get hwt 3 _ _ rfl rfl)
  obtain ⟨ca, cb, cd, rfl, k0, k1, k2⟩ := top_cuts s3
  obtain ⟨n4, rfl, rfl, rfl, w4⟩ := open_int Tryz.underlying5 (hval 4 5 v4 rfl rfl) h4
  obtain ⟨sz, rfl, hsz⟩ := wf8 w4
  clear hA0 hval0
  refine (PCalls.run (laid_glob hL) (law_Offline rc l ra rb rd ca cb cd sz hnm hsp k0 k1 k2 hsz i0 i1 i2) (TF_cons g0 (TF_cons (RF_of_LF1 g1) (TF_cons g2 (TF_cons g3 (TF_cons (by simp only [RF]) TF_nil)))))).mono fun e W' ⟨he, bel⟩ => ?_
  subst he
  exact ⟨_, rfl, _, _, _, [], _, [], hW', trodAll_mk1 (shut_bool Tryz.underlying4 _), (trodAll_cons_mk (Below.trod laidOut (by kernel_rfl) (of_decide_eq_true (by kernel_rfl)) h0 bel lt0) (trodAll_cons_mk (Below.trod laidOut (by kernel_rfl) (of_decide_eq_true (by kernel_rfl)) h1 bel lt1) (trodAll_cons_mk (Below.trod laidOut (by kernel_rfl) (of_decide_eq_true (by kernel_rfl)) h2 bel lt2) (trodAll_cons_mk (Below.trod laidOut (by kernel_rfl) (of_decide_eq_true (by kernel_rfl)) h3 bel lt3) (trodAll_cons_mk (shut_int Tryz.underlying5 w4) trodAll_mk0))))), rfl, bel.frame _, fun h => by cases h⟩

theorem over : Rows.topOfflineRow.holds Tryz.pinned (OpenSpec.ofChange Rows.topOfflineSpec) :=
  OpenClaim.holds_of_wide 3 Tryz.f3 rfl rfl rfl rfl rfl rfl rfl ⟨rfl, rfl, rfl, rfl, rfl⟩ rfl rfl rfl rfl rfl (by kernel_rfl) Tryz.func3 (by kernel_rfl)
    (of_decide_eq_true (by kernel_rfl)) (by unfold Func.isWrapper; first | (rw [if_pos (by decide +kernel)]; kernel_rfl) | (rw [if_neg (by decide +kernel)]; exact ⟨rfl, rfl⟩))
    (fun os started H enc _ => lifted os started H enc)

theorem proved : Rows.TopOfflineCardSaid :=
  Claim7.holds_tied_plain_at .later [] [.data, .data, .pinned] true (true, "d2c985e156b79c51cc9d930ba71614f4f948df716fb1657345b4ed6efc59caf4") false
    over (fun _ h => by cases h) (by kernel_rfl) (fun _ h => by cases h) topOffline_row_tie rfl ⟨rfl, rfl⟩ (by kernel_rfl) rfl
    (fun f fn hf hfn => by
      obtain rfl : 3 = f := Option.some.inj ((show Tryz.prog.funcNamed "langdoc/langdoctop.TopOffline" = some 3 by kernel_rfl).symm.trans hf)
      obtain rfl : Tryz.f3 = fn := Option.some.inj (Tryz.func3.symm.trans hfn)
      refine ⟨by kernel_rfl, fun j t ht => ?_⟩
      rw [Tryz.params3] at ht
      rcases j with _ | _ | _ | _ | _ | j
      · obtain rfl : 24 = t := by simpa using ht
        kernel_rfl
      · obtain rfl : 25 = t := by simpa using ht
        kernel_rfl
      · obtain rfl : 29 = t := by simpa using ht
        kernel_rfl
      · obtain rfl : 31 = t := by simpa using ht
        kernel_rfl
      · obtain rfl : 5 = t := by simpa using ht
        kernel_rfl
      · simp at ht)
    (by kernel_rfl)
end Go.Proofs.YtcfkokllinkigaaGreatDoor.pTopOffline
