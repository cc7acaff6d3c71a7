/- The statement TiertextSums: whatever the input: true; the input reads as it did. -/
import Derived.Test.YtigcjinpkngapaaGreatDoorE18
import Derived.Test.YtigcjinpkngapaaGreatDoorTie
import Derived.Test.YtigcjinpkngapaaGreatDoorCards
import Derived.SevenTiedAt
import Derived.WalkKit
import Derived.ProofKit
import Derived.OpenShut
import Derived.ShutString
import Derived.ChangeOld
import Derived.ChangeSame
import Derived.ChangeVars
import Derived.JoinedOf
import Derived.RowKit
import Derived.LaidLaws
import Derived.Lay
import Derived.Below
import Derived.Stop.Joined
namespace Go.Proofs.YtigcjinpkngapaaGreatDoor.pTiertextSums
open Go.ChangeShapes Go.WideShapes Go.ChangeAt Go.RowKit Go.Ac
open Go.ChangeMaps (open_string shut_string)
set_option linter.unusedVariables false

theorem own : ownKnob Tryz.prog.godebug = none := by kernel_rfl
theorem laidOut : laidOutB Tryz.prog = true := by kernel_rfl
theorem closed : closedT td [28, 24, 51, 25, 55, 26, 53, 22, 3, 9] = true := by kernel_rfl
theorem bytes : byteT td [28, 24, 51, 25, 55, 26, 53, 22, 3, 9] = true := by kernel_rfl
abbrev laidR := laidT
theorem read_agg {H : Type} {enc : TypeId × Value → H} {P : Program} {W : World} {sp : Nat → Bool} {td : TDs} [TOK P td] {C : List Nat} (hC : closedT td C = true) {t : Nat} {cs : Array Value} {d : DataW H} {p : List MemPlace} (hB : byteT td C = true) {B : Nat} (ht : t ∈ C) (h : DataW.Trod enc P W 0 sp true t (.agg cs) d p) (hw : (d.weights P t).all (· ≤ B) = true) :
    ∃ f xs, ShpB td B f t xs ∧ RF (below W) W (.agg xs) (.agg cs) := by
  obtain ⟨f, hf⟩ := h
  obtain ⟨xs, h1, h2⟩ := trod_LFB hC hB f t _ _ ht hf hw
  exact ⟨f, xs, h1, by simp only [RF]; exact ⟨cs, rfl, h2⟩⟩


set_option maxRecDepth 100000 in
theorem lifted (os : Os) (started : os.Started) (H : Type) (enc : TypeId × Value → H) :
    ReturnsInHanded {} Tryz.checked os 9 .any (fun w args => (Rows.tiertextSumsSpec.pre enc Tryz.prog Tryz.f9 [] false w args ∧ laidMetH Tryz.prog laidR w) ∧ sizedMet enc Tryz.prog Tryz.f9 (OpenSpec.ofChange Rows.tiertextSumsSpec) false w args)
      (Rows.tiertextSumsSpec.post enc Tryz.prog Tryz.f9 false true false false) := by
  refine handed_shaped (C := Tryz.checked) (X := fun w _ => laidMetH Tryz.prog laidR w) (fun _ _ _ hh h => h.of_heap hh) own started (by kernel_rfl) Tryz.func9
    (ChangeSpec.witness_at (enc := enc) (C := Tryz.checked) (os := os) (X := fun w _ => laidMetH Tryz.prog laidR w) false (worldT os) #[.agg #[.int .i64 0, .string .empty, .int .i64 0, .int .i64 0, .slice none 0 0, .slice none 0 0, .slice none 0 0]] 8 (worldT_os _) (by kernel_rfl) (by kernel_rfl) (by kernel_rfl) (by kernel_rfl) (by kernel_rfl) (worldT_met os _)) ?_
  intro W base args ds gs before hval0 hW _ hwt hL hsh _
  have hval : ∀ (j : Nat) t v, Tryz.f9.params[j]? = some t → args[j]? = some v → Value.okWide Tryz.prog W .any base t v := hval0
  have hW' := hW
  obtain ⟨p, q, hA0, hV, rfl, hfz, hnd⟩ := hW
  have hA : DataW.TrodAll enc Tryz.prog W 0 (fun _ => true) true Tryz.f9.params.toList args.toList ds p := hA0
  rw [Tryz.params9] at hA hval hwt
  obtain ⟨v0, vs0, d0, ds0, p0, q0, hargs, rfl, rfl, h0, r0⟩ := trodAll_cons hA
  obtain ⟨rfl, rfl, rfl⟩ := trodAll_nil r0
  obtain rfl : args = #[v0] := by cases args; simp_all
  obtain ⟨rfl, rfl⟩ := trodVars_none hV
  obtain ⟨cs0, rfl, z0⟩ := okWide_struct Tryz.underlying28 (hval 0 28 v0 rfl rfl)
  have lt0 : ∀ x ∈ p0, x.block < W.heap.size := by obtain ⟨m, hm⟩ := h0; exact DataW.trod_lt m _ _ _ hm
  obtain ⟨f0, as0, s0, g0⟩ := read_agg (P := Tryz.prog) (td := td) closed bytes (by decide) h0 (weightsEach_get hwt 0 _ _ rfl rfl)
  obtain ⟨l0, rfl, hl0⟩ := fitB_doc (by decide) s0
  clear hA0 hval0
  obtain ⟨m, hG⟩ := laid_globT hL hsh
  refine (PCalls.run hG (lawSumsF (GT_tg m) l0 hl0) (TF_cons g0 TF_nil)).mono fun e W' ⟨he, bel⟩ => ?_
  subst he
  exact ⟨_, rfl, _, _, _, [], _, [], hW', trodAll_mk1 (shut_bool Tryz.underlying4 _), (trodAll_cons_mk (Below.trod laidOut (by kernel_rfl) (of_decide_eq_true (by kernel_rfl)) h0 bel lt0) trodAll_mk0), rfl, bel.frame _, fun h => by cases h⟩

theorem and_t {a b : Bool} (h : a = true) (k : b = true) : (a && b) = true := by rw [h, k]; rfl
set_option maxHeartbeats 8000000 in
theorem jf : joinedFacts Tryz.pinned.checked.prog 9 Tryz.f9 Rows.tiertextSumsSpec Rows.tiertextSumsRow = true := by
  unfold joinedFacts
  repeat' with_reducible apply and_t
  all_goals as_aux_lemma => kernel_rfl

theorem over : Rows.tiertextSumsRow.holds Tryz.pinned (OpenSpec.ofChange Rows.tiertextSumsSpec) :=
  OpenClaim.holds_of_wide 9 Tryz.f9 rfl rfl rfl rfl rfl rfl rfl ⟨rfl, rfl, rfl, rfl, rfl⟩ rfl rfl rfl rfl rfl (by kernel_rfl) Tryz.func9 jf
    (of_decide_eq_true (by kernel_rfl)) (by unfold Func.isWrapper; first | (rw [if_pos (by decide +kernel)]; kernel_rfl) | (rw [if_neg (by decide +kernel)]; exact ⟨rfl, rfl⟩))
    (fun os started H enc _ => lifted os started H enc)

theorem proved : Rows.TiertextSumsCardSaid :=
  Claim7.holds_tied_plain_at .later [] [.data, .data, .data, .data, .handle, .sentinel, .sentinel, .data, .pinned] true (true, "484cc27ac9eec95c2b133b1c6a7342c669613dd35e7326999aa5c4de24d98d49") true
    over (fun _ h => by cases h) (by kernel_rfl) (fun _ h => by cases h) tiertextSums_row_tie rfl ⟨rfl, rfl⟩ (by kernel_rfl) rfl
    (fun f fn hf hfn => by
      obtain rfl : 9 = f := Option.some.inj ((show Tryz.prog.funcNamed "langdoc/langdoclaw15.TiertextSums" = some 9 by kernel_rfl).symm.trans hf)
      obtain rfl : Tryz.f9 = fn := Option.some.inj (Tryz.func9.symm.trans hfn)
      refine ⟨by kernel_rfl, fun j t ht => ?_⟩
      rw [Tryz.params9] at ht
      rcases j with _ | j
      · obtain rfl : 28 = t := by simpa using ht
        kernel_rfl
      · simp at ht)
    (by kernel_rfl)
end Go.Proofs.YtigcjinpkngapaaGreatDoor.pTiertextSums
