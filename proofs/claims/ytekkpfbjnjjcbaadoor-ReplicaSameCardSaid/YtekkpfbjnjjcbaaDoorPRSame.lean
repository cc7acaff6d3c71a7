/- The statement ReplicaSame: whatever the input: true; the input reads as it did. -/
import Derived.Test.YtekkpfbjnjjcbaaDoorB10
import Derived.Test.YtekkpfbjnjjcbaaDoorTie
import Derived.Test.YtekkpfbjnjjcbaaDoorCards
import Derived.SevenTiedAt
import Derived.WalkKit
import Derived.ProofKit
import Derived.OpenShut
import Derived.ShutString
import Derived.ChangeOld
import Derived.ChangeSame
import Derived.ChangeVars
import Derived.JoinedOf
import Derived.RowKit
import Derived.LaidLaws
import Derived.Lay
import Derived.Below
import Derived.Stop.Joined
namespace Go.Proofs.YtekkpfbjnjjcbaaDoor.pReplicaSame
open Go.ChangeShapes Go.WideShapes Go.ChangeAt Go.RowKit Go.Ac
open Go.ChangeMaps (open_string shut_string)
set_option linter.unusedVariables false

theorem own : ownKnob Tryd.prog.godebug = none := by kernel_rfl
theorem laidOut : laidOutB Tryd.prog = true := by kernel_rfl
theorem closed : closedT td [25, 22, 3, 23, 52, 49, 38, 36, 9, 50] = true := by kernel_rfl
theorem bytes : byteT td [25, 22, 3, 23, 52, 49, 38, 36, 9, 50] = true := by kernel_rfl
abbrev laidR : List (String × DataW Unit) := [("unicode/utf8.acceptRanges", Rows.laid_unicode_utf8_acceptRanges), ("langdoc/replica.fields", Rows.laid_langdoc_replica_fields), ("unicode/utf8.first", Rows.laid_unicode_utf8_first)]
theorem read_agg {H : Type} {enc : TypeId × Value → H} {P : Program} {W : World} {sp : Nat → Bool} {td : TDs} [TOK P td] {C : List Nat} (hC : closedT td C = true) {t : Nat} {cs : Array Value} {d : DataW H} {p : List MemPlace} (hB : byteT td C = true) {B : Nat} (ht : t ∈ C) (h : DataW.Trod enc P W 0 sp true t (.agg cs) d p) (hw : (d.weights P t).all (· ≤ B) = true) :
    ∃ f xs, ShpB td B f t xs ∧ RF (below W) W (.agg xs) (.agg cs) := by
  obtain ⟨f, hf⟩ := h
  obtain ⟨xs, h1, h2⟩ := trod_LFB hC hB f t _ _ ht hf hw
  exact ⟨f, xs, h1, by simp only [RF]; exact ⟨cs, rfl, h2⟩⟩

theorem met (os : Os) (args : Array Value) : laidMetH Tryd.prog laidR ((World.laidAll Tryd.prog os laidR).forCall (fun _ _ => 0) ⟨#[], args, []⟩).memory :=
  laidMet_laidAll args (by kernel_rfl) (by kernel_rfl)

set_option maxRecDepth 100000 in
theorem lifted (os : Os) (started : os.Started) (H : Type) (enc : TypeId × Value → H) :
    ReturnsInHanded {} Tryd.checked os 5 .any (fun w args => (Rows.replicaSameSpec.pre enc Tryd.prog Tryd.f5 [] false w args ∧ laidMetH Tryd.prog laidR w) ∧ sizedMet enc Tryd.prog Tryd.f5 (OpenSpec.ofChange Rows.replicaSameSpec) false w args)
      (Rows.replicaSameSpec.post enc Tryd.prog Tryd.f5 false true false false) := by
  refine returnsInHanded_of_change_and (C := Tryd.checked) (X := fun w _ => laidMetH Tryd.prog laidR w) (fun _ _ _ hh h => h.of_heap hh) own started (by kernel_rfl) Tryd.func5
    (ChangeSpec.witness_at (enc := enc) (C := Tryd.checked) (os := os) (X := fun w _ => laidMetH Tryd.prog laidR w) false (World.laidAll Tryd.prog os laidR) #[.agg #[.int .i64 0, .slice none 0 0, .slice none 0 0], .agg #[.int .i64 0, .slice none 0 0, .slice none 0 0]] 8 (World.laidAll_os _ _ _) (by kernel_rfl) (by kernel_rfl) (by kernel_rfl) (by kernel_rfl) (by kernel_rfl) (met os _)) ?_
  intro W base args ds gs before hval0 hW _ hwt hL _
  have hval : ∀ (j : Nat) t v, Tryd.f5.params[j]? = some t → args[j]? = some v → Value.okWide Tryd.prog W .any base t v := hval0
  have hW' := hW
  obtain ⟨p, q, hA0, hV, rfl, hfz, hnd⟩ := hW
  have hA : DataW.TrodAll enc Tryd.prog W 0 (fun _ => true) true Tryd.f5.params.toList args.toList ds p := hA0
  rw [Tryd.params5] at hA hval hwt
  obtain ⟨v0, vs0, d0, ds0, p0, q0, hargs, rfl, rfl, h0, r0⟩ := trodAll_cons hA
  obtain ⟨v1, vs1, d1, ds1, p1, q1, rfl, rfl, rfl, h1, r1⟩ := trodAll_cons r0
  obtain ⟨rfl, rfl, rfl⟩ := trodAll_nil r1
  obtain rfl : args = #[v0, v1] := by cases args; simp_all
  obtain ⟨rfl, rfl⟩ := trodVars_none hV
  obtain ⟨cs0, rfl, z0⟩ := okWide_struct Tryd.underlying25 (hval 0 25 v0 rfl rfl)
  have lt0 : ∀ x ∈ p0, x.block < W.heap.size := by obtain ⟨m, hm⟩ := h0; exact DataW.trod_lt m _ _ _ hm
  obtain ⟨f0, as0, s0, g0⟩ := read_agg (P := Tryd.prog) (td := td) closed bytes (by decide) h0 (weightsEach_get hwt 0 _ _ rfl rfl)
  obtain ⟨l0, rfl, hl0⟩ := shpB_replica s0
  obtain ⟨cs1, rfl, z1⟩ := okWide_struct Tryd.underlying25 (hval 1 25 v1 rfl rfl)
  have lt1 : ∀ x ∈ p1, x.block < W.heap.size := by obtain ⟨m, hm⟩ := h1; exact DataW.trod_lt m _ _ _ hm
  obtain ⟨f1, as1, s1, g1⟩ := read_agg (P := Tryd.prog) (td := td) closed bytes (by decide) h1 (weightsEach_get hwt 1 _ _ rfl rfl)
  obtain ⟨l1, rfl, hl1⟩ := shpB_replica s1
  clear hA0 hval0
  refine (PCalls.run (laid_glob hL) (law_RSame l0 l1 (ids_ofB hl0) (held_ofB hl0) (ids_ofB hl1) (held_ofB hl1)) (TF_cons g0 (TF_cons g1 TF_nil))).mono fun e W' ⟨he, bel⟩ => ?_
  subst he
  exact ⟨_, rfl, _, _, _, [], _, [], hW', trodAll_mk1 (shut_bool Tryd.underlying4 _), (trodAll_cons_mk (Below.trod laidOut (by kernel_rfl) (of_decide_eq_true (by kernel_rfl)) h0 bel lt0) (trodAll_cons_mk (Below.trod laidOut (by kernel_rfl) (of_decide_eq_true (by kernel_rfl)) h1 bel lt1) trodAll_mk0)), rfl, bel.frame _, fun h => by cases h⟩

theorem over : Rows.replicaSameRow.holds Tryd.pinned (OpenSpec.ofChange Rows.replicaSameSpec) :=
  OpenClaim.holds_of_wide 5 Tryd.f5 rfl rfl rfl rfl rfl rfl rfl ⟨rfl, rfl, rfl, rfl, rfl⟩ rfl rfl rfl rfl rfl (by kernel_rfl) Tryd.func5 (by kernel_rfl)
    (of_decide_eq_true (by kernel_rfl)) (by unfold Func.isWrapper; first | (rw [if_pos (by decide +kernel)]; kernel_rfl) | (rw [if_neg (by decide +kernel)]; exact ⟨rfl, rfl⟩))
    (fun os started H enc _ => lifted os started H enc)

theorem proved : Rows.ReplicaSameCardSaid :=
  Claim7.holds_tied_plain_at .later [] [.data, .data, .pinned] true (true, "37b40768cee84d98e0dc9a95995a77c8adf8a69406615a816f254bc1a5be47e3") false
    over (fun _ h => by cases h) (by kernel_rfl) (fun _ h => by cases h) replicaSame_row_tie rfl ⟨rfl, rfl⟩ (by kernel_rfl) rfl
    (fun f fn hf hfn => by
      obtain rfl : 5 = f := Option.some.inj ((show Tryd.prog.funcNamed "langdoc/langdoclaw50.ReplicaSame" = some 5 by kernel_rfl).symm.trans hf)
      obtain rfl : Tryd.f5 = fn := Option.some.inj (Tryd.func5.symm.trans hfn)
      refine ⟨by kernel_rfl, fun j t ht => ?_⟩
      rw [Tryd.params5] at ht
      rcases j with _ | _ | j
      · obtain rfl : 25 = t := by simpa using ht
        kernel_rfl
      · obtain rfl : 25 = t := by simpa using ht
        kernel_rfl
      · simp at ht)
    (by kernel_rfl)
end Go.Proofs.YtekkpfbjnjjcbaaDoor.pReplicaSame
