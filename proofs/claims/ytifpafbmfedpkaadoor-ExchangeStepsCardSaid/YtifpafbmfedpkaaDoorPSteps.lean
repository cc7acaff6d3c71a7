/- The statement ExchangeSteps: whatever the input: true; the input reads as it did. -/
import Derived.Test.YtifpafbmfedpkaaDoorX48
import Derived.Test.YtifpafbmfedpkaaDoorB10
import Derived.Test.YtifpafbmfedpkaaDoorTie
import Derived.Test.YtifpafbmfedpkaaDoorCards
import Derived.SevenTiedAt
import Derived.WalkKit
import Derived.ProofKit
import Derived.OpenShut
import Derived.ShutString
import Derived.ChangeOld
import Derived.ChangeSame
import Derived.ChangeVars
import Derived.JoinedOf
import Derived.RowKit
import Derived.LaidLaws
import Derived.Lay
import Derived.Below
import Derived.Stop.Joined
namespace Go.Proofs.YtifpafbmfedpkaaDoor.pExchangeSteps
open Go.ChangeShapes Go.WideShapes Go.ChangeAt Go.RowKit Go.Ac
open Go.ChangeMaps (open_string shut_string)
set_option linter.unusedVariables false

theorem own : ownKnob Tryd.prog.godebug = none := by kernel_rfl
theorem laidOut : laidOutB Tryd.prog = true := by kernel_rfl
theorem closed : closedT td [25, 22, 3, 23, 52, 45, 49, 47, 9, 50] = true := by kernel_rfl
abbrev laidR : List (String × DataW Unit) := [("unicode/utf8.acceptRanges", Rows.laid_unicode_utf8_acceptRanges), ("langdoc/replica.fields", Rows.laid_langdoc_replica_fields), ("unicode/utf8.first", Rows.laid_unicode_utf8_first)]
theorem read_agg {H : Type} {enc : TypeId × Value → H} {P : Program} {W : World} {sp : Nat → Bool} {td : TDs} [TOK P td] {C : List Nat} (hC : closedT td C = true) {t : Nat} {cs : Array Value} {d : DataW H} {p : List MemPlace} (ht : t ∈ C) (h : DataW.Trod enc P W 0 sp true t (.agg cs) d p) :
    ∃ f xs, Shp td f t xs ∧ RF (below W) W (.agg xs) (.agg cs) := by
  obtain ⟨f, hf⟩ := h
  obtain ⟨xs, h1, h2⟩ := trod_LF hC f t _ _ ht hf
  exact ⟨f, xs, h1, by simp only [RF]; exact ⟨cs, rfl, h2⟩⟩

theorem met (os : Os) (args : Array Value) : laidMetH Tryd.prog laidR ((World.laidAll Tryd.prog os laidR).forCall (fun _ _ => 0) ⟨#[], args, []⟩).memory :=
  laidMet_laidAll args (by kernel_rfl) (by kernel_rfl)

set_option maxRecDepth 100000 in
theorem lifted (os : Os) (started : os.Started) (H : Type) (enc : TypeId × Value → H) :
    ReturnsInHanded {} Tryd.checked os 9 .any (fun w args => (Rows.exchangeStepsSpec.pre enc Tryd.prog Tryd.f9 [] false w args ∧ laidMetH Tryd.prog laidR w) ∧ sizedMet enc Tryd.prog Tryd.f9 (OpenSpec.ofChange Rows.exchangeStepsSpec) false w args)
      (Rows.exchangeStepsSpec.post enc Tryd.prog Tryd.f9 false true false false) := by
  refine returnsInHanded_of_change_and (C := Tryd.checked) (X := fun w _ => laidMetH Tryd.prog laidR w) (fun _ _ _ hh h => h.of_heap hh) own started (by kernel_rfl) Tryd.func9
    (ChangeSpec.witness_at (enc := enc) (C := Tryd.checked) (os := os) (X := fun w _ => laidMetH Tryd.prog laidR w) false (World.laidAll Tryd.prog os laidR) #[.agg #[.int .i64 0, .slice none 0 0, .slice none 0 0], .slice none 0 0, .slice none 0 0] 8 (World.laidAll_os _ _ _) (by kernel_rfl) (by kernel_rfl) (by kernel_rfl) (by kernel_rfl) (by kernel_rfl) (met os _)) ?_
  intro W base args ds gs before hval0 hW _ _ hL _
  have hval : ∀ (j : Nat) t v, Tryd.f9.params[j]? = some t → args[j]? = some v → Value.okWide Tryd.prog W .any base t v := hval0
  have hW' := hW
  obtain ⟨p, q, hA0, hV, rfl, hfz, hnd⟩ := hW
  have hA : DataW.TrodAll enc Tryd.prog W 0 (fun _ => true) true Tryd.f9.params.toList args.toList ds p := hA0
  rw [Tryd.params9] at hA hval
  obtain ⟨v0, vs0, d0, ds0, p0, q0, hargs, rfl, rfl, h0, r0⟩ := trodAll_cons hA
  obtain ⟨v1, vs1, d1, ds1, p1, q1, rfl, rfl, rfl, h1, r1⟩ := trodAll_cons r0
  obtain ⟨v2, vs2, d2, ds2, p2, q2, rfl, rfl, rfl, h2, r2⟩ := trodAll_cons r1
  obtain ⟨rfl, rfl, rfl⟩ := trodAll_nil r2
  obtain rfl : args = #[v0, v1, v2] := by cases args; simp_all
  obtain ⟨rfl, rfl⟩ := trodVars_none hV
  obtain ⟨cs0, rfl, z0⟩ := okWide_struct Tryd.underlying25 (hval 0 25 v0 rfl rfl)
  have lt0 : ∀ x ∈ p0, x.block < W.heap.size := by obtain ⟨m, hm⟩ := h0; exact DataW.trod_lt m _ _ _ hm
  obtain ⟨f0, as0, s0, g0⟩ := read_agg (P := Tryd.prog) (td := td) closed (by decide) h0
  obtain ⟨l0, rfl, hl0⟩ := shp_replica s0
  obtain ⟨a1, len1, cap1, rfl⟩ := okWide_slice Tryd.underlying23 (hval 1 23 v1 rfl rfl)
  have lt1 : ∀ x ∈ p1, x.block < W.heap.size := by obtain ⟨m, hm⟩ := h1; exact DataW.trod_lt m _ _ _ hm
  obtain ⟨f1, as1, s1, g1⟩ := read_one (P := Tryd.prog) (td := td) closed (by decide) h1 rfl
  obtain ⟨l1, rfl, _, hl1⟩ := shp_ops s1
  obtain ⟨a2, len2, cap2, rfl⟩ := okWide_slice Tryd.underlying23 (hval 2 23 v2 rfl rfl)
  have lt2 : ∀ x ∈ p2, x.block < W.heap.size := by obtain ⟨m, hm⟩ := h2; exact DataW.trod_lt m _ _ _ hm
  obtain ⟨f2, as2, s2, g2⟩ := read_one (P := Tryd.prog) (td := td) closed (by decide) h2 rfl
  obtain ⟨l2, rfl, _, hl2⟩ := shp_ops s2
  clear hA0 hval0
  refine (PCalls.run (laid_glob hL) (law_Steps l0 l1 l2 hl0 hl1 hl2) (TF_cons g0 (TF_cons (RF_of_LF1 g1) (TF_cons (RF_of_LF1 g2) TF_nil)))).mono fun e W' ⟨he, bel⟩ => ?_
  subst he
  exact ⟨_, rfl, _, _, _, [], _, [], hW', trodAll_mk1 (shut_bool Tryd.underlying4 _), (trodAll_cons_mk (Below.trod laidOut (by kernel_rfl) (of_decide_eq_true (by kernel_rfl)) h0 bel lt0) (trodAll_cons_mk (Below.trod laidOut (by kernel_rfl) (of_decide_eq_true (by kernel_rfl)) h1 bel lt1) (trodAll_cons_mk (Below.trod laidOut (by kernel_rfl) (of_decide_eq_true (by kernel_rfl)) h2 bel lt2) trodAll_mk0))), rfl, bel.frame _, fun h => by cases h⟩

theorem over : Rows.exchangeStepsRow.holds Tryd.pinned (OpenSpec.ofChange Rows.exchangeStepsSpec) :=
  OpenClaim.holds_of_wide 9 Tryd.f9 rfl rfl rfl rfl rfl rfl rfl ⟨rfl, rfl, rfl, rfl, rfl⟩ rfl rfl rfl rfl rfl (by kernel_rfl) Tryd.func9 (by kernel_rfl)
    (of_decide_eq_true (by kernel_rfl)) (by unfold Func.isWrapper; first | (rw [if_pos (by decide +kernel)]; kernel_rfl) | (rw [if_neg (by decide +kernel)]; exact ⟨rfl, rfl⟩))
    (fun os started H enc _ => lifted os started H enc)

theorem proved : Rows.ExchangeStepsCardSaid :=
  Claim7.holds_tied_plain_at .later [] [.data, .data, .pinned] true (true, "b43bd53463e1a362fc09ce590121885564dbc27aeb92c555600c60fd63ee5e46") false
    over (fun _ h => by cases h) (by kernel_rfl) (fun _ h => by cases h) exchangeSteps_row_tie rfl ⟨rfl, rfl⟩ (by kernel_rfl) rfl
    (fun f fn hf hfn => by
      obtain rfl : 9 = f := Option.some.inj ((show Tryd.prog.funcNamed "langdoc/langdoclaw51.ExchangeSteps" = some 9 by kernel_rfl).symm.trans hf)
      obtain rfl : Tryd.f9 = fn := Option.some.inj (Tryd.func9.symm.trans hfn)
      refine ⟨by kernel_rfl, fun j t ht => ?_⟩
      rw [Tryd.params9] at ht
      rcases j with _ | _ | _ | j
      · obtain rfl : 25 = t := by simpa using ht
        kernel_rfl
      · obtain rfl : 23 = t := by simpa using ht
        kernel_rfl
      · obtain rfl : 23 = t := by simpa using ht
        kernel_rfl
      · simp at ht)
    (by kernel_rfl)
end Go.Proofs.YtifpafbmfedpkaaDoor.pExchangeSteps
