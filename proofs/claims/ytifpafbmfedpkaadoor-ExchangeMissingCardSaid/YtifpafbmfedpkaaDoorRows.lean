/-
  NARROWER THAN 'FOR EVERY INPUT', by the rows' own cells (each row's printed sentence says how): ExchangeMissing: laid · ExchangeMerges: laid · ExchangeSyncs: laid · ExchangeBehind: laid · ExchangeTwice: laid · ExchangeKeeps: laid · ExchangeSteps: laid · ExchangeParts: laid · ExchangeThree: laid.
  DERIVED. THE GIVEN ROWS OF THIS SEAT. 9 by the template 'for every input the law returns true; each argument reads behind the call as it read before'; 0 by the template 'total and deterministic' (their statements: YtifpafbmfedpkaaDoorTotals.lean).
  GIVEN WITH THE SEED: the statements are not yours to turn. If you find one false, say at which input.
  Laid BY PROGRAM, IN A SANDBOX (cutbox-rows.mjs): the forced cells as the released guide's own fill.sh prints them over the translation 2a828d85bdd6e16b… (all of the seat's roots in one cut). By AI agents, Wed Nov 11 2026. No macro, syntax, notation, axiom, sorry.
-/
import Derived.Test.YtifpafbmfedpkaaDoorChecked
import GoSem.PinnedTables
import GoSem.Claim
import GoSem.ClaimJoined
import GoSem.ClaimMapViews
import Derived.JoinedTies
import Derived.KernelRfl
namespace Go.Proofs.YtifpafbmfedpkaaDoor
/- THE CELL 'sum', in the pinned program and in every row, IS THE sha256 OF THE DUMP (.gsa) THAT YtifpafbmfedpkaaDoorProg.lean LOADS. Nothing in Lean hashes anything: it is a label: what it is worth is what the hold of that sum in a sandbox is worth. -/
noncomputable def Tryd.pinned : Pinned := { name := "ytifpafbmfedpkaadoor", sum := "2a828d85bdd6e16bc7aa28b85eba23c85b7987463801c7c806fe64d9acd374a2", checked := Tryd.checked }
namespace Rows
def none {H : Type} : Left H := { results := [], args := [] }

/- WHAT THE LISTED PACKAGE-LEVEL VARIABLES READ AS WHEN THE CALL BEGINS. Each datum BY PROGRAM (the guide's laid-datum.mjs) off the statement by which the dump's own 'gosem.cut.vars' lays the variable. In a bare row this is a premise. The card (YtifpafbmfedpkaaDoorCards.lean) ties it to the program's text. -/
def laid_unicode_utf8_acceptRanges {H : Type} : DataW H := .agg [.agg [.lit (.int .u8 128), .lit (.int .u8 191)], .agg [.lit (.int .u8 160), .lit (.int .u8 191)], .agg [.lit (.int .u8 128), .lit (.int .u8 159)], .agg [.lit (.int .u8 144), .lit (.int .u8 191)], .agg [.lit (.int .u8 128), .lit (.int .u8 143)], .agg [.lit (.int .u8 0), .lit (.int .u8 0)], .agg [.lit (.int .u8 0), .lit (.int .u8 0)], .agg [.lit (.int .u8 0), .lit (.int .u8 0)], .agg [.lit (.int .u8 0), .lit (.int .u8 0)], .agg [.lit (.int .u8 0), .lit (.int .u8 0)], .agg [.lit (.int .u8 0), .lit (.int .u8 0)], .agg [.lit (.int .u8 0), .lit (.int .u8 0)], .agg [.lit (.int .u8 0), .lit (.int .u8 0)], .agg [.lit (.int .u8 0), .lit (.int .u8 0)], .agg [.lit (.int .u8 0), .lit (.int .u8 0)], .agg [.lit (.int .u8 0), .lit (.int .u8 0)]]
def laid_langdoc_replica_fields {H : Type} : DataW H := .agg [.lit (.int .i64 0), .lit (.int .i64 1), .lit (.int .i64 2)]
/-- One of Go's own tables, pinned by name: the form's constant. -/
def laid_unicode_utf8_first : DataW Unit := Go.Pinned.utf8First

/-- 'langdoclaw51.ExchangeMissing': WHATEVER THE INPUT: true; the input reads as it did. -/
def exchangeMissingSpec : ChangeSpec := { name := "exchangeMissing", fn := fun _ => fun
  | [d1, d2, d3] => { results := [.lit (.bool true)], args := [d1, d2, d3] }
  | _ => none }
def exchangeMissingRow : OpenClaim := { program := "ytifpafbmfedpkaadoor", sum := "2a828d85bdd6e16bc7aa28b85eba23c85b7987463801c7c806fe64d9acd374a2", func := "langdoc/langdoclaw51.ExchangeMissing", spec := "exchangeMissing", unfollowed := true, recurses := true, named := ["langdoc/replica.fields", "unicode/utf8.first", "unicode/utf8.acceptRanges"], plainKeys := false, apart := false, laid := [("unicode/utf8.acceptRanges", laid_unicode_utf8_acceptRanges), ("langdoc/replica.fields", laid_langdoc_replica_fields), ("unicode/utf8.first", laid_unicode_utf8_first)] }
def ExchangeMissingSaid : Prop := exchangeMissingRow.holds Tryd.pinned (OpenSpec.ofChange exchangeMissingSpec)

/-- ITS FALSE NEIGHBOUR: 'it returns false'. Refute it at one input. -/
def exchangeMissingWrong : ChangeSpec := { name := "exchangeMissing", fn := fun _ => fun
  | [d1, d2, d3] => { results := [.lit (.bool false)], args := [d1, d2, d3] }
  | _ => none }
def ExchangeMissingWrongFalsely : Prop := exchangeMissingRow.holds Tryd.pinned (OpenSpec.ofChange exchangeMissingWrong)

/-- 'langdoclaw51.ExchangeMerges': WHATEVER THE INPUT: true; the input reads as it did. -/
def exchangeMergesSpec : ChangeSpec := { name := "exchangeMerges", fn := fun _ => fun
  | [d1, d2] => { results := [.lit (.bool true)], args := [d1, d2] }
  | _ => none }
def exchangeMergesRow : OpenClaim := { program := "ytifpafbmfedpkaadoor", sum := "2a828d85bdd6e16bc7aa28b85eba23c85b7987463801c7c806fe64d9acd374a2", func := "langdoc/langdoclaw51.ExchangeMerges", spec := "exchangeMerges", unfollowed := true, recurses := true, named := ["langdoc/replica.fields", "unicode/utf8.first", "unicode/utf8.acceptRanges"], plainKeys := false, apart := false, laid := [("unicode/utf8.acceptRanges", laid_unicode_utf8_acceptRanges), ("langdoc/replica.fields", laid_langdoc_replica_fields), ("unicode/utf8.first", laid_unicode_utf8_first)] }
def ExchangeMergesSaid : Prop := exchangeMergesRow.holds Tryd.pinned (OpenSpec.ofChange exchangeMergesSpec)

/-- ITS FALSE NEIGHBOUR: 'it returns false'. Refute it at one input. -/
def exchangeMergesWrong : ChangeSpec := { name := "exchangeMerges", fn := fun _ => fun
  | [d1, d2] => { results := [.lit (.bool false)], args := [d1, d2] }
  | _ => none }
def ExchangeMergesWrongFalsely : Prop := exchangeMergesRow.holds Tryd.pinned (OpenSpec.ofChange exchangeMergesWrong)

/-- 'langdoclaw51.ExchangeSyncs': WHATEVER THE INPUT: true; the input reads as it did. -/
def exchangeSyncsSpec : ChangeSpec := { name := "exchangeSyncs", fn := fun _ => fun
  | [d1, d2] => { results := [.lit (.bool true)], args := [d1, d2] }
  | _ => none }
def exchangeSyncsRow : OpenClaim := { program := "ytifpafbmfedpkaadoor", sum := "2a828d85bdd6e16bc7aa28b85eba23c85b7987463801c7c806fe64d9acd374a2", func := "langdoc/langdoclaw51.ExchangeSyncs", spec := "exchangeSyncs", unfollowed := true, recurses := true, named := ["langdoc/replica.fields", "unicode/utf8.first", "unicode/utf8.acceptRanges"], plainKeys := false, apart := false, laid := [("unicode/utf8.acceptRanges", laid_unicode_utf8_acceptRanges), ("langdoc/replica.fields", laid_langdoc_replica_fields), ("unicode/utf8.first", laid_unicode_utf8_first)] }
def ExchangeSyncsSaid : Prop := exchangeSyncsRow.holds Tryd.pinned (OpenSpec.ofChange exchangeSyncsSpec)

/-- ITS FALSE NEIGHBOUR: 'it returns false'. Refute it at one input. -/
def exchangeSyncsWrong : ChangeSpec := { name := "exchangeSyncs", fn := fun _ => fun
  | [d1, d2] => { results := [.lit (.bool false)], args := [d1, d2] }
  | _ => none }
def ExchangeSyncsWrongFalsely : Prop := exchangeSyncsRow.holds Tryd.pinned (OpenSpec.ofChange exchangeSyncsWrong)

/-- 'langdoclaw51.ExchangeBehind': WHATEVER THE INPUT: true; the input reads as it did. -/
def exchangeBehindSpec : ChangeSpec := { name := "exchangeBehind", fn := fun _ => fun
  | [d1, d2] => { results := [.lit (.bool true)], args := [d1, d2] }
  | _ => none }
def exchangeBehindRow : OpenClaim := { program := "ytifpafbmfedpkaadoor", sum := "2a828d85bdd6e16bc7aa28b85eba23c85b7987463801c7c806fe64d9acd374a2", func := "langdoc/langdoclaw51.ExchangeBehind", spec := "exchangeBehind", unfollowed := true, recurses := true, named := ["langdoc/replica.fields", "unicode/utf8.first", "unicode/utf8.acceptRanges"], plainKeys := false, apart := false, laid := [("unicode/utf8.acceptRanges", laid_unicode_utf8_acceptRanges), ("langdoc/replica.fields", laid_langdoc_replica_fields), ("unicode/utf8.first", laid_unicode_utf8_first)] }
def ExchangeBehindSaid : Prop := exchangeBehindRow.holds Tryd.pinned (OpenSpec.ofChange exchangeBehindSpec)

/-- ITS FALSE NEIGHBOUR: 'it returns false'. Refute it at one input. -/
def exchangeBehindWrong : ChangeSpec := { name := "exchangeBehind", fn := fun _ => fun
  | [d1, d2] => { results := [.lit (.bool false)], args := [d1, d2] }
  | _ => none }
def ExchangeBehindWrongFalsely : Prop := exchangeBehindRow.holds Tryd.pinned (OpenSpec.ofChange exchangeBehindWrong)

/-- 'langdoclaw51.ExchangeTwice': WHATEVER THE INPUT: true; the input reads as it did. -/
def exchangeTwiceSpec : ChangeSpec := { name := "exchangeTwice", fn := fun _ => fun
  | [d1, d2] => { results := [.lit (.bool true)], args := [d1, d2] }
  | _ => none }
def exchangeTwiceRow : OpenClaim := { program := "ytifpafbmfedpkaadoor", sum := "2a828d85bdd6e16bc7aa28b85eba23c85b7987463801c7c806fe64d9acd374a2", func := "langdoc/langdoclaw51.ExchangeTwice", spec := "exchangeTwice", unfollowed := true, recurses := true, named := ["langdoc/replica.fields", "unicode/utf8.first", "unicode/utf8.acceptRanges"], plainKeys := false, apart := false, laid := [("unicode/utf8.acceptRanges", laid_unicode_utf8_acceptRanges), ("langdoc/replica.fields", laid_langdoc_replica_fields), ("unicode/utf8.first", laid_unicode_utf8_first)] }
def ExchangeTwiceSaid : Prop := exchangeTwiceRow.holds Tryd.pinned (OpenSpec.ofChange exchangeTwiceSpec)

/-- ITS FALSE NEIGHBOUR: 'it returns false'. Refute it at one input. -/
def exchangeTwiceWrong : ChangeSpec := { name := "exchangeTwice", fn := fun _ => fun
  | [d1, d2] => { results := [.lit (.bool false)], args := [d1, d2] }
  | _ => none }
def ExchangeTwiceWrongFalsely : Prop := exchangeTwiceRow.holds Tryd.pinned (OpenSpec.ofChange exchangeTwiceWrong)

/-- 'langdoclaw51.ExchangeKeeps': WHATEVER THE INPUT: true; the input reads as it did. -/
def exchangeKeepsSpec : ChangeSpec := { name := "exchangeKeeps", fn := fun _ => fun
  | [d1, d2] => { results := [.lit (.bool true)], args := [d1, d2] }
  | _ => none }
def exchangeKeepsRow : OpenClaim := { program := "ytifpafbmfedpkaadoor", sum := "2a828d85bdd6e16bc7aa28b85eba23c85b7987463801c7c806fe64d9acd374a2", func := "langdoc/langdoclaw51.ExchangeKeeps", spec := "exchangeKeeps", unfollowed := true, recurses := true, named := ["langdoc/replica.fields", "unicode/utf8.first", "unicode/utf8.acceptRanges"], plainKeys := false, apart := false, laid := [("unicode/utf8.acceptRanges", laid_unicode_utf8_acceptRanges), ("langdoc/replica.fields", laid_langdoc_replica_fields), ("unicode/utf8.first", laid_unicode_utf8_first)] }
def ExchangeKeepsSaid : Prop := exchangeKeepsRow.holds Tryd.pinned (OpenSpec.ofChange exchangeKeepsSpec)

/-- ITS FALSE NEIGHBOUR: 'it returns false'. Refute it at one input. -/
def exchangeKeepsWrong : ChangeSpec := { name := "exchangeKeeps", fn := fun _ => fun
  | [d1, d2] => { results := [.lit (.bool false)], args := [d1, d2] }
  | _ => none }
def ExchangeKeepsWrongFalsely : Prop := exchangeKeepsRow.holds Tryd.pinned (OpenSpec.ofChange exchangeKeepsWrong)

/-- 'langdoclaw51.ExchangeSteps': WHATEVER THE INPUT: true; the input reads as it did. -/
def exchangeStepsSpec : ChangeSpec := { name := "exchangeSteps", fn := fun _ => fun
  | [d1, d2, d3] => { results := [.lit (.bool true)], args := [d1, d2, d3] }
  | _ => none }
def exchangeStepsRow : OpenClaim := { program := "ytifpafbmfedpkaadoor", sum := "2a828d85bdd6e16bc7aa28b85eba23c85b7987463801c7c806fe64d9acd374a2", func := "langdoc/langdoclaw51.ExchangeSteps", spec := "exchangeSteps", unfollowed := true, recurses := true, named := ["langdoc/replica.fields", "unicode/utf8.first", "unicode/utf8.acceptRanges"], plainKeys := false, apart := false, laid := [("unicode/utf8.acceptRanges", laid_unicode_utf8_acceptRanges), ("langdoc/replica.fields", laid_langdoc_replica_fields), ("unicode/utf8.first", laid_unicode_utf8_first)] }
def ExchangeStepsSaid : Prop := exchangeStepsRow.holds Tryd.pinned (OpenSpec.ofChange exchangeStepsSpec)

/-- ITS FALSE NEIGHBOUR: 'it returns false'. Refute it at one input. -/
def exchangeStepsWrong : ChangeSpec := { name := "exchangeSteps", fn := fun _ => fun
  | [d1, d2, d3] => { results := [.lit (.bool false)], args := [d1, d2, d3] }
  | _ => none }
def ExchangeStepsWrongFalsely : Prop := exchangeStepsRow.holds Tryd.pinned (OpenSpec.ofChange exchangeStepsWrong)

/-- 'langdoclaw51.ExchangeParts': WHATEVER THE INPUT: true; the input reads as it did. -/
def exchangePartsSpec : ChangeSpec := { name := "exchangeParts", fn := fun _ => fun
  | [d1, d2, d3] => { results := [.lit (.bool true)], args := [d1, d2, d3] }
  | _ => none }
def exchangePartsRow : OpenClaim := { program := "ytifpafbmfedpkaadoor", sum := "2a828d85bdd6e16bc7aa28b85eba23c85b7987463801c7c806fe64d9acd374a2", func := "langdoc/langdoclaw51.ExchangeParts", spec := "exchangeParts", unfollowed := true, recurses := true, named := ["langdoc/replica.fields", "unicode/utf8.first", "unicode/utf8.acceptRanges"], plainKeys := false, apart := false, laid := [("unicode/utf8.acceptRanges", laid_unicode_utf8_acceptRanges), ("langdoc/replica.fields", laid_langdoc_replica_fields), ("unicode/utf8.first", laid_unicode_utf8_first)] }
def ExchangePartsSaid : Prop := exchangePartsRow.holds Tryd.pinned (OpenSpec.ofChange exchangePartsSpec)

/-- ITS FALSE NEIGHBOUR: 'it returns false'. Refute it at one input. -/
def exchangePartsWrong : ChangeSpec := { name := "exchangeParts", fn := fun _ => fun
  | [d1, d2, d3] => { results := [.lit (.bool false)], args := [d1, d2, d3] }
  | _ => none }
def ExchangePartsWrongFalsely : Prop := exchangePartsRow.holds Tryd.pinned (OpenSpec.ofChange exchangePartsWrong)

/-- 'langdoclaw51.ExchangeThree': WHATEVER THE INPUT: true; the input reads as it did. -/
def exchangeThreeSpec : ChangeSpec := { name := "exchangeThree", fn := fun _ => fun
  | [d1, d2, d3] => { results := [.lit (.bool true)], args := [d1, d2, d3] }
  | _ => none }
def exchangeThreeRow : OpenClaim := { program := "ytifpafbmfedpkaadoor", sum := "2a828d85bdd6e16bc7aa28b85eba23c85b7987463801c7c806fe64d9acd374a2", func := "langdoc/langdoclaw51.ExchangeThree", spec := "exchangeThree", unfollowed := true, recurses := true, named := ["langdoc/replica.fields", "unicode/utf8.first", "unicode/utf8.acceptRanges"], plainKeys := false, apart := false, laid := [("unicode/utf8.acceptRanges", laid_unicode_utf8_acceptRanges), ("langdoc/replica.fields", laid_langdoc_replica_fields), ("unicode/utf8.first", laid_unicode_utf8_first)] }
def ExchangeThreeSaid : Prop := exchangeThreeRow.holds Tryd.pinned (OpenSpec.ofChange exchangeThreeSpec)

/-- ITS FALSE NEIGHBOUR: 'it returns false'. Refute it at one input. -/
def exchangeThreeWrong : ChangeSpec := { name := "exchangeThree", fn := fun _ => fun
  | [d1, d2, d3] => { results := [.lit (.bool false)], args := [d1, d2, d3] }
  | _ => none }
def ExchangeThreeWrongFalsely : Prop := exchangeThreeRow.holds Tryd.pinned (OpenSpec.ofChange exchangeThreeWrong)

/- THE SECOND FORM. 'bulk': how many values and letters a reading holds, each counted each time it is reached (what is shared counts as often as it is met; a slice's spare places count too). A statement '..UptoSaid' is the law's where the arguments, and the package variables that the reading takes, are together of bulk at most 1048576: NARROWER than '..Said'. Prove '..Said' where nothing that the law and all that it calls make is longer than what came in: it says more and counts as full. Else prove '..UptoSaid'. A law counts once. -/
mutual
def uptoBulk {H : Type} : DataW H → Nat
  | .lit (.string bytes) => bytes.length + 1
  | .lit _ => 1
  | .nil => 1
  | .ptr d => uptoBulk d + 1
  | .slice elems spare => uptoBulkAll elems + uptoBulkAll spare + 1
  | .agg parts => uptoBulkAll parts + 1
  | .iface _ d => uptoBulk d + 1
  | .map entries => uptoBulkEntries entries + 1
  | .held _ => 1
def uptoBulkAll {H : Type} : List (DataW H) → Nat
  | [] => 0
  | d :: r => uptoBulk d + uptoBulkAll r
def uptoBulkEntries {H : Type} : List (Lit × DataW H) → Nat
  | [] => 0
  | x :: r => uptoBulkEntry x + uptoBulkEntries r
def uptoBulkEntry {H : Type} : Lit × DataW H → Nat
  | (.string bytes, d) => bytes.length + uptoBulk d + 1
  | (_, d) => uptoBulk d + 1
 end
def uptoSmall : (H : Type) → List (DataW H) → Bool := fun _ ds => decide (uptoBulkAll ds ≤ 1048576)
def OpenSpec.upto (s : _root_.Go.ChangeSpec) : _root_.Go.OpenSpec := { _root_.Go.OpenSpec.ofChange s with cond := some uptoSmall }

/-- 'langdoclaw51.ExchangeMissing', WHERE WHAT IT READS IS OF BULK AT MOST 1048576: true; the input reads as it did. -/
def exchangeMissingUptoRow : OpenClaim := { program := "ytifpafbmfedpkaadoor", sum := "2a828d85bdd6e16bc7aa28b85eba23c85b7987463801c7c806fe64d9acd374a2", func := "langdoc/langdoclaw51.ExchangeMissing", spec := "exchangeMissing", unfollowed := true, recurses := true, named := ["langdoc/replica.fields", "unicode/utf8.first", "unicode/utf8.acceptRanges"], plainKeys := false, apart := false, laid := [("unicode/utf8.acceptRanges", laid_unicode_utf8_acceptRanges), ("langdoc/replica.fields", laid_langdoc_replica_fields), ("unicode/utf8.first", laid_unicode_utf8_first)], narrowed := true }
def ExchangeMissingUptoSaid : Prop := exchangeMissingUptoRow.holds Tryd.pinned (OpenSpec.upto exchangeMissingSpec)

/-- 'langdoclaw51.ExchangeMerges', WHERE WHAT IT READS IS OF BULK AT MOST 1048576: true; the input reads as it did. -/
def exchangeMergesUptoRow : OpenClaim := { program := "ytifpafbmfedpkaadoor", sum := "2a828d85bdd6e16bc7aa28b85eba23c85b7987463801c7c806fe64d9acd374a2", func := "langdoc/langdoclaw51.ExchangeMerges", spec := "exchangeMerges", unfollowed := true, recurses := true, named := ["langdoc/replica.fields", "unicode/utf8.first", "unicode/utf8.acceptRanges"], plainKeys := false, apart := false, laid := [("unicode/utf8.acceptRanges", laid_unicode_utf8_acceptRanges), ("langdoc/replica.fields", laid_langdoc_replica_fields), ("unicode/utf8.first", laid_unicode_utf8_first)], narrowed := true }
def ExchangeMergesUptoSaid : Prop := exchangeMergesUptoRow.holds Tryd.pinned (OpenSpec.upto exchangeMergesSpec)

/-- 'langdoclaw51.ExchangeSyncs', WHERE WHAT IT READS IS OF BULK AT MOST 1048576: true; the input reads as it did. -/
def exchangeSyncsUptoRow : OpenClaim := { program := "ytifpafbmfedpkaadoor", sum := "2a828d85bdd6e16bc7aa28b85eba23c85b7987463801c7c806fe64d9acd374a2", func := "langdoc/langdoclaw51.ExchangeSyncs", spec := "exchangeSyncs", unfollowed := true, recurses := true, named := ["langdoc/replica.fields", "unicode/utf8.first", "unicode/utf8.acceptRanges"], plainKeys := false, apart := false, laid := [("unicode/utf8.acceptRanges", laid_unicode_utf8_acceptRanges), ("langdoc/replica.fields", laid_langdoc_replica_fields), ("unicode/utf8.first", laid_unicode_utf8_first)], narrowed := true }
def ExchangeSyncsUptoSaid : Prop := exchangeSyncsUptoRow.holds Tryd.pinned (OpenSpec.upto exchangeSyncsSpec)

/-- 'langdoclaw51.ExchangeBehind', WHERE WHAT IT READS IS OF BULK AT MOST 1048576: true; the input reads as it did. -/
def exchangeBehindUptoRow : OpenClaim := { program := "ytifpafbmfedpkaadoor", sum := "2a828d85bdd6e16bc7aa28b85eba23c85b7987463801c7c806fe64d9acd374a2", func := "langdoc/langdoclaw51.ExchangeBehind", spec := "exchangeBehind", unfollowed := true, recurses := true, named := ["langdoc/replica.fields", "unicode/utf8.first", "unicode/utf8.acceptRanges"], plainKeys := false, apart := false, laid := [("unicode/utf8.acceptRanges", laid_unicode_utf8_acceptRanges), ("langdoc/replica.fields", laid_langdoc_replica_fields), ("unicode/utf8.first", laid_unicode_utf8_first)], narrowed := true }
def ExchangeBehindUptoSaid : Prop := exchangeBehindUptoRow.holds Tryd.pinned (OpenSpec.upto exchangeBehindSpec)

/-- 'langdoclaw51.ExchangeTwice', WHERE WHAT IT READS IS OF BULK AT MOST 1048576: true; the input reads as it did. -/
def exchangeTwiceUptoRow : OpenClaim := { program := "ytifpafbmfedpkaadoor", sum := "2a828d85bdd6e16bc7aa28b85eba23c85b7987463801c7c806fe64d9acd374a2", func := "langdoc/langdoclaw51.ExchangeTwice", spec := "exchangeTwice", unfollowed := true, recurses := true, named := ["langdoc/replica.fields", "unicode/utf8.first", "unicode/utf8.acceptRanges"], plainKeys := false, apart := false, laid := [("unicode/utf8.acceptRanges", laid_unicode_utf8_acceptRanges), ("langdoc/replica.fields", laid_langdoc_replica_fields), ("unicode/utf8.first", laid_unicode_utf8_first)], narrowed := true }
def ExchangeTwiceUptoSaid : Prop := exchangeTwiceUptoRow.holds Tryd.pinned (OpenSpec.upto exchangeTwiceSpec)

/-- 'langdoclaw51.ExchangeKeeps', WHERE WHAT IT READS IS OF BULK AT MOST 1048576: true; the input reads as it did. -/
def exchangeKeepsUptoRow : OpenClaim := { program := "ytifpafbmfedpkaadoor", sum := "2a828d85bdd6e16bc7aa28b85eba23c85b7987463801c7c806fe64d9acd374a2", func := "langdoc/langdoclaw51.ExchangeKeeps", spec := "exchangeKeeps", unfollowed := true, recurses := true, named := ["langdoc/replica.fields", "unicode/utf8.first", "unicode/utf8.acceptRanges"], plainKeys := false, apart := false, laid := [("unicode/utf8.acceptRanges", laid_unicode_utf8_acceptRanges), ("langdoc/replica.fields", laid_langdoc_replica_fields), ("unicode/utf8.first", laid_unicode_utf8_first)], narrowed := true }
def ExchangeKeepsUptoSaid : Prop := exchangeKeepsUptoRow.holds Tryd.pinned (OpenSpec.upto exchangeKeepsSpec)

/-- 'langdoclaw51.ExchangeSteps', WHERE WHAT IT READS IS OF BULK AT MOST 1048576: true; the input reads as it did. -/
def exchangeStepsUptoRow : OpenClaim := { program := "ytifpafbmfedpkaadoor", sum := "2a828d85bdd6e16bc7aa28b85eba23c85b7987463801c7c806fe64d9acd374a2", func := "langdoc/langdoclaw51.ExchangeSteps", spec := "exchangeSteps", unfollowed := true, recurses := true, named := ["langdoc/replica.fields", "unicode/utf8.first", "unicode/utf8.acceptRanges"], plainKeys := false, apart := false, laid := [("unicode/utf8.acceptRanges", laid_unicode_utf8_acceptRanges), ("langdoc/replica.fields", laid_langdoc_replica_fields), ("unicode/utf8.first", laid_unicode_utf8_first)], narrowed := true }
def ExchangeStepsUptoSaid : Prop := exchangeStepsUptoRow.holds Tryd.pinned (OpenSpec.upto exchangeStepsSpec)

/-- 'langdoclaw51.ExchangeParts', WHERE WHAT IT READS IS OF BULK AT MOST 1048576: true; the input reads as it did. -/
def exchangePartsUptoRow : OpenClaim := { program := "ytifpafbmfedpkaadoor", sum := "2a828d85bdd6e16bc7aa28b85eba23c85b7987463801c7c806fe64d9acd374a2", func := "langdoc/langdoclaw51.ExchangeParts", spec := "exchangeParts", unfollowed := true, recurses := true, named := ["langdoc/replica.fields", "unicode/utf8.first", "unicode/utf8.acceptRanges"], plainKeys := false, apart := false, laid := [("unicode/utf8.acceptRanges", laid_unicode_utf8_acceptRanges), ("langdoc/replica.fields", laid_langdoc_replica_fields), ("unicode/utf8.first", laid_unicode_utf8_first)], narrowed := true }
def ExchangePartsUptoSaid : Prop := exchangePartsUptoRow.holds Tryd.pinned (OpenSpec.upto exchangePartsSpec)

/-- 'langdoclaw51.ExchangeThree', WHERE WHAT IT READS IS OF BULK AT MOST 1048576: true; the input reads as it did. -/
def exchangeThreeUptoRow : OpenClaim := { program := "ytifpafbmfedpkaadoor", sum := "2a828d85bdd6e16bc7aa28b85eba23c85b7987463801c7c806fe64d9acd374a2", func := "langdoc/langdoclaw51.ExchangeThree", spec := "exchangeThree", unfollowed := true, recurses := true, named := ["langdoc/replica.fields", "unicode/utf8.first", "unicode/utf8.acceptRanges"], plainKeys := false, apart := false, laid := [("unicode/utf8.acceptRanges", laid_unicode_utf8_acceptRanges), ("langdoc/replica.fields", laid_langdoc_replica_fields), ("unicode/utf8.first", laid_unicode_utf8_first)], narrowed := true }
def ExchangeThreeUptoSaid : Prop := exchangeThreeUptoRow.holds Tryd.pinned (OpenSpec.upto exchangeThreeSpec)

end Rows
end Go.Proofs.YtifpafbmfedpkaaDoor
