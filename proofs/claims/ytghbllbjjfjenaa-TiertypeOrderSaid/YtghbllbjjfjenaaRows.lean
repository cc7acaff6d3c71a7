/-
  No cell of these rows narrows 'for every input' (looked for: loops, veiled, ifaces, maps, wideKeys, modest, calm, conditions, laid).
  DERIVED. THE GIVEN ROWS OF THIS SEAT. 8 by the template 'for every input the law returns true; each argument reads behind the call as it read before'; 0 by the template 'total and deterministic' (their statements: YtghbllbjjfjenaaTotals.lean).
  GIVEN WITH THE SEED: the statements are not yours to turn. If you find one false, say at which input.
  Laid BY PROGRAM, IN A SANDBOX (cutbox-rows.mjs): the forced cells as the released guide's own fill.sh prints them over the translation 630aa9dcd19521b0… (all of the seat's roots in one cut). By AI agents, Wed Nov 11 2026. No macro, syntax, notation, axiom, sorry.
-/
import Derived.Test.YtghbllbjjfjenaaChecked
import GoSem.Claim
import GoSem.ClaimJoined
import GoSem.ClaimMapViews
import Derived.JoinedTies
import Derived.KernelRfl
namespace Go.Proofs.Ytghbllbjjfjenaa
/- THE CELL 'sum', in the pinned program and in every row, IS THE sha256 OF THE DUMP (.gsa) THAT YtghbllbjjfjenaaProg.lean LOADS. Nothing in Lean hashes anything: it is a label: what it is worth is what the hold of that sum in a sandbox is worth. -/
noncomputable def Try.pinned : Pinned := { name := "ytghbllbjjfjenaa", sum := "630aa9dcd19521b083a6ebd762fa5ca26f9e1d17d28fc6cc05c9403417485d74", checked := Try.checked }
namespace Rows
def none {H : Type} : Left H := { results := [], args := [] }

/-- 'langdoclaw11.TiertypeCheck': WHATEVER THE INPUT: true; the input reads as it did. -/
def tiertypeCheckSpec : ChangeSpec := { name := "tiertypeCheck", fn := fun _ => fun
  | [d] => { results := [.lit (.bool true)], args := [d] }
  | _ => none }
def tiertypeCheckRow : OpenClaim := { program := "ytghbllbjjfjenaa", sum := "630aa9dcd19521b083a6ebd762fa5ca26f9e1d17d28fc6cc05c9403417485d74", func := "langdoc/langdoclaw11.TiertypeCheck", spec := "tiertypeCheck", apart := false }
def TiertypeCheckSaid : Prop := tiertypeCheckRow.holds Try.pinned (OpenSpec.ofChange tiertypeCheckSpec)

/-- ITS FALSE NEIGHBOUR: 'it returns false'. Refute it at one input. -/
def tiertypeCheckWrong : ChangeSpec := { name := "tiertypeCheck", fn := fun _ => fun
  | [d] => { results := [.lit (.bool false)], args := [d] }
  | _ => none }
def TiertypeCheckWrongFalsely : Prop := tiertypeCheckRow.holds Try.pinned (OpenSpec.ofChange tiertypeCheckWrong)

/-- 'langdoclaw11.TiertypeAsks': WHATEVER THE INPUT: true; the input reads as it did. -/
def tiertypeAsksSpec : ChangeSpec := { name := "tiertypeAsks", fn := fun _ => fun
  | [d1, d2] => { results := [.lit (.bool true)], args := [d1, d2] }
  | _ => none }
def tiertypeAsksRow : OpenClaim := { program := "ytghbllbjjfjenaa", sum := "630aa9dcd19521b083a6ebd762fa5ca26f9e1d17d28fc6cc05c9403417485d74", func := "langdoc/langdoclaw11.TiertypeAsks", spec := "tiertypeAsks", apart := false }
def TiertypeAsksSaid : Prop := tiertypeAsksRow.holds Try.pinned (OpenSpec.ofChange tiertypeAsksSpec)

/-- ITS FALSE NEIGHBOUR: 'it returns false'. Refute it at one input. -/
def tiertypeAsksWrong : ChangeSpec := { name := "tiertypeAsks", fn := fun _ => fun
  | [d1, d2] => { results := [.lit (.bool false)], args := [d1, d2] }
  | _ => none }
def TiertypeAsksWrongFalsely : Prop := tiertypeAsksRow.holds Try.pinned (OpenSpec.ofChange tiertypeAsksWrong)

/-- 'langdoclaw11.TiertypeAbove': WHATEVER THE INPUT: true; the input reads as it did. -/
def tiertypeAboveSpec : ChangeSpec := { name := "tiertypeAbove", fn := fun _ => fun
  | [d1, d2, d3] => { results := [.lit (.bool true)], args := [d1, d2, d3] }
  | _ => none }
def tiertypeAboveRow : OpenClaim := { program := "ytghbllbjjfjenaa", sum := "630aa9dcd19521b083a6ebd762fa5ca26f9e1d17d28fc6cc05c9403417485d74", func := "langdoc/langdoclaw11.TiertypeAbove", spec := "tiertypeAbove", apart := false }
def TiertypeAboveSaid : Prop := tiertypeAboveRow.holds Try.pinned (OpenSpec.ofChange tiertypeAboveSpec)

/-- ITS FALSE NEIGHBOUR: 'it returns false'. Refute it at one input. -/
def tiertypeAboveWrong : ChangeSpec := { name := "tiertypeAbove", fn := fun _ => fun
  | [d1, d2, d3] => { results := [.lit (.bool false)], args := [d1, d2, d3] }
  | _ => none }
def TiertypeAboveWrongFalsely : Prop := tiertypeAboveRow.holds Try.pinned (OpenSpec.ofChange tiertypeAboveWrong)

/-- 'langdoclaw11.TiertypeFinds': WHATEVER THE INPUT: true; the input reads as it did. -/
def tiertypeFindsSpec : ChangeSpec := { name := "tiertypeFinds", fn := fun _ => fun
  | [d1, d2, d3] => { results := [.lit (.bool true)], args := [d1, d2, d3] }
  | _ => none }
def tiertypeFindsRow : OpenClaim := { program := "ytghbllbjjfjenaa", sum := "630aa9dcd19521b083a6ebd762fa5ca26f9e1d17d28fc6cc05c9403417485d74", func := "langdoc/langdoclaw11.TiertypeFinds", spec := "tiertypeFinds", apart := false }
def TiertypeFindsSaid : Prop := tiertypeFindsRow.holds Try.pinned (OpenSpec.ofChange tiertypeFindsSpec)

/-- ITS FALSE NEIGHBOUR: 'it returns false'. Refute it at one input. -/
def tiertypeFindsWrong : ChangeSpec := { name := "tiertypeFinds", fn := fun _ => fun
  | [d1, d2, d3] => { results := [.lit (.bool false)], args := [d1, d2, d3] }
  | _ => none }
def TiertypeFindsWrongFalsely : Prop := tiertypeFindsRow.holds Try.pinned (OpenSpec.ofChange tiertypeFindsWrong)

/-- 'langdoclaw11.TiertypeStandard': WHATEVER THE INPUT: true; the input reads as it did. -/
def tiertypeStandardSpec : ChangeSpec := { name := "tiertypeStandard", fn := fun _ => fun
  | [] => { results := [.lit (.bool true)], args := [] }
  | _ => none }
def tiertypeStandardRow : OpenClaim := { program := "ytghbllbjjfjenaa", sum := "630aa9dcd19521b083a6ebd762fa5ca26f9e1d17d28fc6cc05c9403417485d74", func := "langdoc/langdoclaw11.TiertypeStandard", spec := "tiertypeStandard", apart := false }
def TiertypeStandardSaid : Prop := tiertypeStandardRow.holds Try.pinned (OpenSpec.ofChange tiertypeStandardSpec)

/-- ITS FALSE NEIGHBOUR: 'it returns false'. Refute it at one input. -/
def tiertypeStandardWrong : ChangeSpec := { name := "tiertypeStandard", fn := fun _ => fun
  | [] => { results := [.lit (.bool false)], args := [] }
  | _ => none }
def TiertypeStandardWrongFalsely : Prop := tiertypeStandardRow.holds Try.pinned (OpenSpec.ofChange tiertypeStandardWrong)

/-- 'langdoclaw11.TiertypeShort': WHATEVER THE INPUT: true; the input reads as it did. -/
def tiertypeShortSpec : ChangeSpec := { name := "tiertypeShort", fn := fun _ => fun
  | [d] => { results := [.lit (.bool true)], args := [d] }
  | _ => none }
def tiertypeShortRow : OpenClaim := { program := "ytghbllbjjfjenaa", sum := "630aa9dcd19521b083a6ebd762fa5ca26f9e1d17d28fc6cc05c9403417485d74", func := "langdoc/langdoclaw11.TiertypeShort", spec := "tiertypeShort", apart := false }
def TiertypeShortSaid : Prop := tiertypeShortRow.holds Try.pinned (OpenSpec.ofChange tiertypeShortSpec)

/-- ITS FALSE NEIGHBOUR: 'it returns false'. Refute it at one input. -/
def tiertypeShortWrong : ChangeSpec := { name := "tiertypeShort", fn := fun _ => fun
  | [d] => { results := [.lit (.bool false)], args := [d] }
  | _ => none }
def TiertypeShortWrongFalsely : Prop := tiertypeShortRow.holds Try.pinned (OpenSpec.ofChange tiertypeShortWrong)

/-- 'langdoclaw11.TiertypeOrder': WHATEVER THE INPUT: true; the input reads as it did. -/
def tiertypeOrderSpec : ChangeSpec := { name := "tiertypeOrder", fn := fun _ => fun
  | [d] => { results := [.lit (.bool true)], args := [d] }
  | _ => none }
def tiertypeOrderRow : OpenClaim := { program := "ytghbllbjjfjenaa", sum := "630aa9dcd19521b083a6ebd762fa5ca26f9e1d17d28fc6cc05c9403417485d74", func := "langdoc/langdoclaw11.TiertypeOrder", spec := "tiertypeOrder", apart := false }
def TiertypeOrderSaid : Prop := tiertypeOrderRow.holds Try.pinned (OpenSpec.ofChange tiertypeOrderSpec)

/-- ITS FALSE NEIGHBOUR: 'it returns false'. Refute it at one input. -/
def tiertypeOrderWrong : ChangeSpec := { name := "tiertypeOrder", fn := fun _ => fun
  | [d] => { results := [.lit (.bool false)], args := [d] }
  | _ => none }
def TiertypeOrderWrongFalsely : Prop := tiertypeOrderRow.holds Try.pinned (OpenSpec.ofChange tiertypeOrderWrong)

/-- 'langdoclaw11.TiertypeTree': WHATEVER THE INPUT: true; the input reads as it did. -/
def tiertypeTreeSpec : ChangeSpec := { name := "tiertypeTree", fn := fun _ => fun
  | [d] => { results := [.lit (.bool true)], args := [d] }
  | _ => none }
def tiertypeTreeRow : OpenClaim := { program := "ytghbllbjjfjenaa", sum := "630aa9dcd19521b083a6ebd762fa5ca26f9e1d17d28fc6cc05c9403417485d74", func := "langdoc/langdoclaw11.TiertypeTree", spec := "tiertypeTree", apart := false }
def TiertypeTreeSaid : Prop := tiertypeTreeRow.holds Try.pinned (OpenSpec.ofChange tiertypeTreeSpec)

/-- ITS FALSE NEIGHBOUR: 'it returns false'. Refute it at one input. -/
def tiertypeTreeWrong : ChangeSpec := { name := "tiertypeTree", fn := fun _ => fun
  | [d] => { results := [.lit (.bool false)], args := [d] }
  | _ => none }
def TiertypeTreeWrongFalsely : Prop := tiertypeTreeRow.holds Try.pinned (OpenSpec.ofChange tiertypeTreeWrong)

/- THE SECOND FORM. 'bulk': how many values and letters a reading holds, each counted each time it is reached (what is shared counts as often as it is met; a slice's spare places count too). A statement '..UptoSaid' is the law's where the arguments, and the package variables that the reading takes, are together of bulk at most 1048576: NARROWER than '..Said'. Prove '..Said' where nothing that the law and all that it calls make is longer than what came in: it says more and counts as full. Else prove '..UptoSaid'. A law counts once. -/
mutual
def uptoBulk {H : Type} : DataW H → Nat
  | .lit (.string bytes) => bytes.length + 1
  | .lit _ => 1
  | .nil => 1
  | .ptr d => uptoBulk d + 1
  | .slice elems spare => uptoBulkAll elems + uptoBulkAll spare + 1
  | .agg parts => uptoBulkAll parts + 1
  | .iface _ d => uptoBulk d + 1
  | .map entries => uptoBulkEntries entries + 1
  | .held _ => 1
def uptoBulkAll {H : Type} : List (DataW H) → Nat
  | [] => 0
  | d :: r => uptoBulk d + uptoBulkAll r
def uptoBulkEntries {H : Type} : List (Lit × DataW H) → Nat
  | [] => 0
  | x :: r => uptoBulkEntry x + uptoBulkEntries r
def uptoBulkEntry {H : Type} : Lit × DataW H → Nat
  | (.string bytes, d) => bytes.length + uptoBulk d + 1
  | (_, d) => uptoBulk d + 1
 end
def uptoSmall : (H : Type) → List (DataW H) → Bool := fun _ ds => decide (uptoBulkAll ds ≤ 1048576)
def OpenSpec.upto (s : _root_.Go.ChangeSpec) : _root_.Go.OpenSpec := { _root_.Go.OpenSpec.ofChange s with cond := some uptoSmall }

/-- 'langdoclaw11.TiertypeCheck', WHERE WHAT IT READS IS OF BULK AT MOST 1048576: true; the input reads as it did. -/
def tiertypeCheckUptoRow : OpenClaim := { program := "ytghbllbjjfjenaa", sum := "630aa9dcd19521b083a6ebd762fa5ca26f9e1d17d28fc6cc05c9403417485d74", func := "langdoc/langdoclaw11.TiertypeCheck", spec := "tiertypeCheck", apart := false, narrowed := true }
def TiertypeCheckUptoSaid : Prop := tiertypeCheckUptoRow.holds Try.pinned (OpenSpec.upto tiertypeCheckSpec)

/-- 'langdoclaw11.TiertypeAsks', WHERE WHAT IT READS IS OF BULK AT MOST 1048576: true; the input reads as it did. -/
def tiertypeAsksUptoRow : OpenClaim := { program := "ytghbllbjjfjenaa", sum := "630aa9dcd19521b083a6ebd762fa5ca26f9e1d17d28fc6cc05c9403417485d74", func := "langdoc/langdoclaw11.TiertypeAsks", spec := "tiertypeAsks", apart := false, narrowed := true }
def TiertypeAsksUptoSaid : Prop := tiertypeAsksUptoRow.holds Try.pinned (OpenSpec.upto tiertypeAsksSpec)

/-- 'langdoclaw11.TiertypeAbove', WHERE WHAT IT READS IS OF BULK AT MOST 1048576: true; the input reads as it did. -/
def tiertypeAboveUptoRow : OpenClaim := { program := "ytghbllbjjfjenaa", sum := "630aa9dcd19521b083a6ebd762fa5ca26f9e1d17d28fc6cc05c9403417485d74", func := "langdoc/langdoclaw11.TiertypeAbove", spec := "tiertypeAbove", apart := false, narrowed := true }
def TiertypeAboveUptoSaid : Prop := tiertypeAboveUptoRow.holds Try.pinned (OpenSpec.upto tiertypeAboveSpec)

/-- 'langdoclaw11.TiertypeFinds', WHERE WHAT IT READS IS OF BULK AT MOST 1048576: true; the input reads as it did. -/
def tiertypeFindsUptoRow : OpenClaim := { program := "ytghbllbjjfjenaa", sum := "630aa9dcd19521b083a6ebd762fa5ca26f9e1d17d28fc6cc05c9403417485d74", func := "langdoc/langdoclaw11.TiertypeFinds", spec := "tiertypeFinds", apart := false, narrowed := true }
def TiertypeFindsUptoSaid : Prop := tiertypeFindsUptoRow.holds Try.pinned (OpenSpec.upto tiertypeFindsSpec)

/-- 'langdoclaw11.TiertypeStandard', WHERE WHAT IT READS IS OF BULK AT MOST 1048576: true; the input reads as it did. -/
def tiertypeStandardUptoRow : OpenClaim := { program := "ytghbllbjjfjenaa", sum := "630aa9dcd19521b083a6ebd762fa5ca26f9e1d17d28fc6cc05c9403417485d74", func := "langdoc/langdoclaw11.TiertypeStandard", spec := "tiertypeStandard", apart := false, narrowed := true }
def TiertypeStandardUptoSaid : Prop := tiertypeStandardUptoRow.holds Try.pinned (OpenSpec.upto tiertypeStandardSpec)

/-- 'langdoclaw11.TiertypeShort', WHERE WHAT IT READS IS OF BULK AT MOST 1048576: true; the input reads as it did. -/
def tiertypeShortUptoRow : OpenClaim := { program := "ytghbllbjjfjenaa", sum := "630aa9dcd19521b083a6ebd762fa5ca26f9e1d17d28fc6cc05c9403417485d74", func := "langdoc/langdoclaw11.TiertypeShort", spec := "tiertypeShort", apart := false, narrowed := true }
def TiertypeShortUptoSaid : Prop := tiertypeShortUptoRow.holds Try.pinned (OpenSpec.upto tiertypeShortSpec)

/-- 'langdoclaw11.TiertypeOrder', WHERE WHAT IT READS IS OF BULK AT MOST 1048576: true; the input reads as it did. -/
def tiertypeOrderUptoRow : OpenClaim := { program := "ytghbllbjjfjenaa", sum := "630aa9dcd19521b083a6ebd762fa5ca26f9e1d17d28fc6cc05c9403417485d74", func := "langdoc/langdoclaw11.TiertypeOrder", spec := "tiertypeOrder", apart := false, narrowed := true }
def TiertypeOrderUptoSaid : Prop := tiertypeOrderUptoRow.holds Try.pinned (OpenSpec.upto tiertypeOrderSpec)

/-- 'langdoclaw11.TiertypeTree', WHERE WHAT IT READS IS OF BULK AT MOST 1048576: true; the input reads as it did. -/
def tiertypeTreeUptoRow : OpenClaim := { program := "ytghbllbjjfjenaa", sum := "630aa9dcd19521b083a6ebd762fa5ca26f9e1d17d28fc6cc05c9403417485d74", func := "langdoc/langdoclaw11.TiertypeTree", spec := "tiertypeTree", apart := false, narrowed := true }
def TiertypeTreeUptoSaid : Prop := tiertypeTreeUptoRow.holds Try.pinned (OpenSpec.upto tiertypeTreeSpec)

end Rows
end Go.Proofs.Ytghbllbjjfjenaa
