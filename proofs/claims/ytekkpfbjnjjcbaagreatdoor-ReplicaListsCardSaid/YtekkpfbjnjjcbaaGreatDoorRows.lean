/-
  NARROWER THAN 'FOR EVERY INPUT', by the rows' own cells (each row's printed sentence says how): ReplicaCheck: laid · ReplicaCells: laid · ReplicaAdds: laid · ReplicaSets: laid · ReplicaKeeps: laid · ReplicaValues: laid · ReplicaSaves: laid · ReplicaLists: laid.
  DERIVED. THE GIVEN ROWS OF THIS SEAT. 8 by the template 'for every input the law returns true; each argument reads behind the call as it read before'; 0 by the template 'total and deterministic' (their statements: YtekkpfbjnjjcbaaGreatDoorTotals.lean).
  GIVEN WITH THE SEED: the statements are not yours to turn. If you find one false, say at which input.
  Laid BY PROGRAM, IN A SANDBOX (cutbox-rows.mjs): the forced cells as the released guide's own fill.sh prints them over the translation 16fc851fd8d9a2b4… (all of the seat's roots in one cut). By AI agents, Wed Nov 11 2026. No macro, syntax, notation, axiom, sorry.
-/
import Derived.Test.YtekkpfbjnjjcbaaGreatDoorChecked
import GoSem.PinnedTables
import GoSem.Claim
import GoSem.ClaimJoined
import GoSem.ClaimMapViews
import Derived.JoinedTies
import Derived.KernelRfl
namespace Go.Proofs.YtekkpfbjnjjcbaaGreatDoor
/- THE CELL 'sum', in the pinned program and in every row, IS THE sha256 OF THE DUMP (.gsa) THAT YtekkpfbjnjjcbaaGreatDoorProg.lean LOADS. Nothing in Lean hashes anything: it is a label: what it is worth is what the hold of that sum in a sandbox is worth. -/
noncomputable def Tryz.pinned : Pinned := { name := "ytekkpfbjnjjcbaagreatdoor", sum := "16fc851fd8d9a2b4bfeff49ce702fe551867403b9dff032a9f54317c8ebd3514", checked := Tryz.checked }
namespace Rows
def none {H : Type} : Left H := { results := [], args := [] }

/- WHAT THE LISTED PACKAGE-LEVEL VARIABLES READ AS WHEN THE CALL BEGINS. Each datum BY PROGRAM (the guide's laid-datum.mjs) off the statement by which the dump's own 'gosem.cut.vars' lays the variable. In a bare row this is a premise. The card (YtekkpfbjnjjcbaaGreatDoorCards.lean) ties it to the program's text. -/
def laid_unicode_utf8_acceptRanges {H : Type} : DataW H := .agg [.agg [.lit (.int .u8 128), .lit (.int .u8 191)], .agg [.lit (.int .u8 160), .lit (.int .u8 191)], .agg [.lit (.int .u8 128), .lit (.int .u8 159)], .agg [.lit (.int .u8 144), .lit (.int .u8 191)], .agg [.lit (.int .u8 128), .lit (.int .u8 143)], .agg [.lit (.int .u8 0), .lit (.int .u8 0)], .agg [.lit (.int .u8 0), .lit (.int .u8 0)], .agg [.lit (.int .u8 0), .lit (.int .u8 0)], .agg [.lit (.int .u8 0), .lit (.int .u8 0)], .agg [.lit (.int .u8 0), .lit (.int .u8 0)], .agg [.lit (.int .u8 0), .lit (.int .u8 0)], .agg [.lit (.int .u8 0), .lit (.int .u8 0)], .agg [.lit (.int .u8 0), .lit (.int .u8 0)], .agg [.lit (.int .u8 0), .lit (.int .u8 0)], .agg [.lit (.int .u8 0), .lit (.int .u8 0)], .agg [.lit (.int .u8 0), .lit (.int .u8 0)]]
def laid_langdoc_replica_fields {H : Type} : DataW H := .agg [.lit (.int .i64 0), .lit (.int .i64 1), .lit (.int .i64 2)]
/-- One of Go's own tables, pinned by name: the form's constant. -/
def laid_unicode_utf8_first : DataW Unit := Go.Pinned.utf8First

/-- 'langdoclaw50.ReplicaCheck': WHATEVER THE INPUT: true; the input reads as it did. -/
def replicaCheckSpec : ChangeSpec := { name := "replicaCheck", fn := fun _ => fun
  | [d] => { results := [.lit (.bool true)], args := [d] }
  | _ => none }
def replicaCheckRow : OpenClaim := { program := "ytekkpfbjnjjcbaagreatdoor", sum := "16fc851fd8d9a2b4bfeff49ce702fe551867403b9dff032a9f54317c8ebd3514", func := "langdoc/langdoclaw50.ReplicaCheck", spec := "replicaCheck", unfollowed := true, recurses := true, named := ["langdoc/replica.fields", "unicode/utf8.first", "unicode/utf8.acceptRanges"], plainKeys := false, apart := false, laid := [("unicode/utf8.acceptRanges", laid_unicode_utf8_acceptRanges), ("langdoc/replica.fields", laid_langdoc_replica_fields), ("unicode/utf8.first", laid_unicode_utf8_first)] }
def ReplicaCheckSaid : Prop := replicaCheckRow.holds Tryz.pinned (OpenSpec.ofChange replicaCheckSpec)

/-- ITS FALSE NEIGHBOUR: 'it returns false'. Refute it at one input. -/
def replicaCheckWrong : ChangeSpec := { name := "replicaCheck", fn := fun _ => fun
  | [d] => { results := [.lit (.bool false)], args := [d] }
  | _ => none }
def ReplicaCheckWrongFalsely : Prop := replicaCheckRow.holds Tryz.pinned (OpenSpec.ofChange replicaCheckWrong)

/-- 'langdoclaw50.ReplicaCells': WHATEVER THE INPUT: true; the input reads as it did. -/
def replicaCellsSpec : ChangeSpec := { name := "replicaCells", fn := fun _ => fun
  | [d1, d2, d3] => { results := [.lit (.bool true)], args := [d1, d2, d3] }
  | _ => none }
def replicaCellsRow : OpenClaim := { program := "ytekkpfbjnjjcbaagreatdoor", sum := "16fc851fd8d9a2b4bfeff49ce702fe551867403b9dff032a9f54317c8ebd3514", func := "langdoc/langdoclaw50.ReplicaCells", spec := "replicaCells", unfollowed := true, recurses := true, named := ["langdoc/replica.fields", "unicode/utf8.first", "unicode/utf8.acceptRanges"], plainKeys := false, apart := false, laid := [("unicode/utf8.acceptRanges", laid_unicode_utf8_acceptRanges), ("langdoc/replica.fields", laid_langdoc_replica_fields), ("unicode/utf8.first", laid_unicode_utf8_first)] }
def ReplicaCellsSaid : Prop := replicaCellsRow.holds Tryz.pinned (OpenSpec.ofChange replicaCellsSpec)

/-- ITS FALSE NEIGHBOUR: 'it returns false'. Refute it at one input. -/
def replicaCellsWrong : ChangeSpec := { name := "replicaCells", fn := fun _ => fun
  | [d1, d2, d3] => { results := [.lit (.bool false)], args := [d1, d2, d3] }
  | _ => none }
def ReplicaCellsWrongFalsely : Prop := replicaCellsRow.holds Tryz.pinned (OpenSpec.ofChange replicaCellsWrong)

/-- 'langdoclaw50.ReplicaAdds': WHATEVER THE INPUT: true; the input reads as it did. -/
def replicaAddsSpec : ChangeSpec := { name := "replicaAdds", fn := fun _ => fun
  | [d1, d2, d3] => { results := [.lit (.bool true)], args := [d1, d2, d3] }
  | _ => none }
def replicaAddsRow : OpenClaim := { program := "ytekkpfbjnjjcbaagreatdoor", sum := "16fc851fd8d9a2b4bfeff49ce702fe551867403b9dff032a9f54317c8ebd3514", func := "langdoc/langdoclaw50.ReplicaAdds", spec := "replicaAdds", unfollowed := true, recurses := true, named := ["langdoc/replica.fields", "unicode/utf8.first", "unicode/utf8.acceptRanges"], plainKeys := false, apart := false, laid := [("unicode/utf8.acceptRanges", laid_unicode_utf8_acceptRanges), ("langdoc/replica.fields", laid_langdoc_replica_fields), ("unicode/utf8.first", laid_unicode_utf8_first)] }
def ReplicaAddsSaid : Prop := replicaAddsRow.holds Tryz.pinned (OpenSpec.ofChange replicaAddsSpec)

/-- ITS FALSE NEIGHBOUR: 'it returns false'. Refute it at one input. -/
def replicaAddsWrong : ChangeSpec := { name := "replicaAdds", fn := fun _ => fun
  | [d1, d2, d3] => { results := [.lit (.bool false)], args := [d1, d2, d3] }
  | _ => none }
def ReplicaAddsWrongFalsely : Prop := replicaAddsRow.holds Tryz.pinned (OpenSpec.ofChange replicaAddsWrong)

/-- 'langdoclaw50.ReplicaSets': WHATEVER THE INPUT: true; the input reads as it did. -/
def replicaSetsSpec : ChangeSpec := { name := "replicaSets", fn := fun _ => fun
  | [d] => { results := [.lit (.bool true)], args := [d] }
  | _ => none }
def replicaSetsRow : OpenClaim := { program := "ytekkpfbjnjjcbaagreatdoor", sum := "16fc851fd8d9a2b4bfeff49ce702fe551867403b9dff032a9f54317c8ebd3514", func := "langdoc/langdoclaw50.ReplicaSets", spec := "replicaSets", unfollowed := true, recurses := true, named := ["langdoc/replica.fields", "unicode/utf8.first", "unicode/utf8.acceptRanges"], plainKeys := false, apart := false, laid := [("unicode/utf8.acceptRanges", laid_unicode_utf8_acceptRanges), ("langdoc/replica.fields", laid_langdoc_replica_fields), ("unicode/utf8.first", laid_unicode_utf8_first)] }
def ReplicaSetsSaid : Prop := replicaSetsRow.holds Tryz.pinned (OpenSpec.ofChange replicaSetsSpec)

/-- ITS FALSE NEIGHBOUR: 'it returns false'. Refute it at one input. -/
def replicaSetsWrong : ChangeSpec := { name := "replicaSets", fn := fun _ => fun
  | [d] => { results := [.lit (.bool false)], args := [d] }
  | _ => none }
def ReplicaSetsWrongFalsely : Prop := replicaSetsRow.holds Tryz.pinned (OpenSpec.ofChange replicaSetsWrong)

/-- 'langdoclaw50.ReplicaKeeps': WHATEVER THE INPUT: true; the input reads as it did. -/
def replicaKeepsSpec : ChangeSpec := { name := "replicaKeeps", fn := fun _ => fun
  | [d1, d2, d3] => { results := [.lit (.bool true)], args := [d1, d2, d3] }
  | _ => none }
def replicaKeepsRow : OpenClaim := { program := "ytekkpfbjnjjcbaagreatdoor", sum := "16fc851fd8d9a2b4bfeff49ce702fe551867403b9dff032a9f54317c8ebd3514", func := "langdoc/langdoclaw50.ReplicaKeeps", spec := "replicaKeeps", unfollowed := true, recurses := true, named := ["langdoc/replica.fields", "unicode/utf8.first", "unicode/utf8.acceptRanges"], plainKeys := false, apart := false, laid := [("unicode/utf8.acceptRanges", laid_unicode_utf8_acceptRanges), ("langdoc/replica.fields", laid_langdoc_replica_fields), ("unicode/utf8.first", laid_unicode_utf8_first)] }
def ReplicaKeepsSaid : Prop := replicaKeepsRow.holds Tryz.pinned (OpenSpec.ofChange replicaKeepsSpec)

/-- ITS FALSE NEIGHBOUR: 'it returns false'. Refute it at one input. -/
def replicaKeepsWrong : ChangeSpec := { name := "replicaKeeps", fn := fun _ => fun
  | [d1, d2, d3] => { results := [.lit (.bool false)], args := [d1, d2, d3] }
  | _ => none }
def ReplicaKeepsWrongFalsely : Prop := replicaKeepsRow.holds Tryz.pinned (OpenSpec.ofChange replicaKeepsWrong)

/-- 'langdoclaw50.ReplicaValues': WHATEVER THE INPUT: true; the input reads as it did. -/
def replicaValuesSpec : ChangeSpec := { name := "replicaValues", fn := fun _ => fun
  | [d] => { results := [.lit (.bool true)], args := [d] }
  | _ => none }
def replicaValuesRow : OpenClaim := { program := "ytekkpfbjnjjcbaagreatdoor", sum := "16fc851fd8d9a2b4bfeff49ce702fe551867403b9dff032a9f54317c8ebd3514", func := "langdoc/langdoclaw50.ReplicaValues", spec := "replicaValues", unfollowed := true, recurses := true, named := ["langdoc/replica.fields", "unicode/utf8.first", "unicode/utf8.acceptRanges"], plainKeys := false, apart := false, laid := [("unicode/utf8.acceptRanges", laid_unicode_utf8_acceptRanges), ("langdoc/replica.fields", laid_langdoc_replica_fields), ("unicode/utf8.first", laid_unicode_utf8_first)] }
def ReplicaValuesSaid : Prop := replicaValuesRow.holds Tryz.pinned (OpenSpec.ofChange replicaValuesSpec)

/-- ITS FALSE NEIGHBOUR: 'it returns false'. Refute it at one input. -/
def replicaValuesWrong : ChangeSpec := { name := "replicaValues", fn := fun _ => fun
  | [d] => { results := [.lit (.bool false)], args := [d] }
  | _ => none }
def ReplicaValuesWrongFalsely : Prop := replicaValuesRow.holds Tryz.pinned (OpenSpec.ofChange replicaValuesWrong)

/-- 'langdoclaw50.ReplicaSaves': WHATEVER THE INPUT: true; the input reads as it did. -/
def replicaSavesSpec : ChangeSpec := { name := "replicaSaves", fn := fun _ => fun
  | [d1, d2] => { results := [.lit (.bool true)], args := [d1, d2] }
  | _ => none }
def replicaSavesRow : OpenClaim := { program := "ytekkpfbjnjjcbaagreatdoor", sum := "16fc851fd8d9a2b4bfeff49ce702fe551867403b9dff032a9f54317c8ebd3514", func := "langdoc/langdoclaw50.ReplicaSaves", spec := "replicaSaves", unfollowed := true, recurses := true, named := ["langdoc/replica.fields", "unicode/utf8.first", "unicode/utf8.acceptRanges"], plainKeys := false, apart := false, laid := [("unicode/utf8.acceptRanges", laid_unicode_utf8_acceptRanges), ("langdoc/replica.fields", laid_langdoc_replica_fields), ("unicode/utf8.first", laid_unicode_utf8_first)] }
def ReplicaSavesSaid : Prop := replicaSavesRow.holds Tryz.pinned (OpenSpec.ofChange replicaSavesSpec)

/-- ITS FALSE NEIGHBOUR: 'it returns false'. Refute it at one input. -/
def replicaSavesWrong : ChangeSpec := { name := "replicaSaves", fn := fun _ => fun
  | [d1, d2] => { results := [.lit (.bool false)], args := [d1, d2] }
  | _ => none }
def ReplicaSavesWrongFalsely : Prop := replicaSavesRow.holds Tryz.pinned (OpenSpec.ofChange replicaSavesWrong)

/-- 'langdoclaw50.ReplicaLists': WHATEVER THE INPUT: true; the input reads as it did. -/
def replicaListsSpec : ChangeSpec := { name := "replicaLists", fn := fun _ => fun
  | [d1, d2, d3] => { results := [.lit (.bool true)], args := [d1, d2, d3] }
  | _ => none }
def replicaListsRow : OpenClaim := { program := "ytekkpfbjnjjcbaagreatdoor", sum := "16fc851fd8d9a2b4bfeff49ce702fe551867403b9dff032a9f54317c8ebd3514", func := "langdoc/langdoclaw50.ReplicaLists", spec := "replicaLists", unfollowed := true, recurses := true, named := ["langdoc/replica.fields", "unicode/utf8.first", "unicode/utf8.acceptRanges"], plainKeys := false, apart := false, laid := [("unicode/utf8.acceptRanges", laid_unicode_utf8_acceptRanges), ("langdoc/replica.fields", laid_langdoc_replica_fields), ("unicode/utf8.first", laid_unicode_utf8_first)] }
def ReplicaListsSaid : Prop := replicaListsRow.holds Tryz.pinned (OpenSpec.ofChange replicaListsSpec)

/-- ITS FALSE NEIGHBOUR: 'it returns false'. Refute it at one input. -/
def replicaListsWrong : ChangeSpec := { name := "replicaLists", fn := fun _ => fun
  | [d1, d2, d3] => { results := [.lit (.bool false)], args := [d1, d2, d3] }
  | _ => none }
def ReplicaListsWrongFalsely : Prop := replicaListsRow.holds Tryz.pinned (OpenSpec.ofChange replicaListsWrong)

/- THE SECOND FORM. 'bulk': how many values and letters a reading holds, each counted each time it is reached (what is shared counts as often as it is met; a slice's spare places count too). A statement '..UptoSaid' is the law's where the arguments, and the package variables that the reading takes, are together of bulk at most 1048576: NARROWER than '..Said'. Prove '..Said' where nothing that the law and all that it calls make is longer than what came in: it says more and counts as full. Else prove '..UptoSaid'. A law counts once. -/
mutual
def uptoBulk {H : Type} : DataW H → Nat
  | .lit (.string bytes) => bytes.length + 1
  | .lit _ => 1
  | .nil => 1
  | .ptr d => uptoBulk d + 1
  | .slice elems spare => uptoBulkAll elems + uptoBulkAll spare + 1
  | .agg parts => uptoBulkAll parts + 1
  | .iface _ d => uptoBulk d + 1
  | .map entries => uptoBulkEntries entries + 1
  | .held _ => 1
def uptoBulkAll {H : Type} : List (DataW H) → Nat
  | [] => 0
  | d :: r => uptoBulk d + uptoBulkAll r
def uptoBulkEntries {H : Type} : List (Lit × DataW H) → Nat
  | [] => 0
  | x :: r => uptoBulkEntry x + uptoBulkEntries r
def uptoBulkEntry {H : Type} : Lit × DataW H → Nat
  | (.string bytes, d) => bytes.length + uptoBulk d + 1
  | (_, d) => uptoBulk d + 1
 end
def uptoSmall : (H : Type) → List (DataW H) → Bool := fun _ ds => decide (uptoBulkAll ds ≤ 1048576)
def OpenSpec.upto (s : _root_.Go.ChangeSpec) : _root_.Go.OpenSpec := { _root_.Go.OpenSpec.ofChange s with cond := some uptoSmall }

/-- 'langdoclaw50.ReplicaCheck', WHERE WHAT IT READS IS OF BULK AT MOST 1048576: true; the input reads as it did. -/
def replicaCheckUptoRow : OpenClaim := { program := "ytekkpfbjnjjcbaagreatdoor", sum := "16fc851fd8d9a2b4bfeff49ce702fe551867403b9dff032a9f54317c8ebd3514", func := "langdoc/langdoclaw50.ReplicaCheck", spec := "replicaCheck", unfollowed := true, recurses := true, named := ["langdoc/replica.fields", "unicode/utf8.first", "unicode/utf8.acceptRanges"], plainKeys := false, apart := false, laid := [("unicode/utf8.acceptRanges", laid_unicode_utf8_acceptRanges), ("langdoc/replica.fields", laid_langdoc_replica_fields), ("unicode/utf8.first", laid_unicode_utf8_first)], narrowed := true }
def ReplicaCheckUptoSaid : Prop := replicaCheckUptoRow.holds Tryz.pinned (OpenSpec.upto replicaCheckSpec)

/-- 'langdoclaw50.ReplicaCells', WHERE WHAT IT READS IS OF BULK AT MOST 1048576: true; the input reads as it did. -/
def replicaCellsUptoRow : OpenClaim := { program := "ytekkpfbjnjjcbaagreatdoor", sum := "16fc851fd8d9a2b4bfeff49ce702fe551867403b9dff032a9f54317c8ebd3514", func := "langdoc/langdoclaw50.ReplicaCells", spec := "replicaCells", unfollowed := true, recurses := true, named := ["langdoc/replica.fields", "unicode/utf8.first", "unicode/utf8.acceptRanges"], plainKeys := false, apart := false, laid := [("unicode/utf8.acceptRanges", laid_unicode_utf8_acceptRanges), ("langdoc/replica.fields", laid_langdoc_replica_fields), ("unicode/utf8.first", laid_unicode_utf8_first)], narrowed := true }
def ReplicaCellsUptoSaid : Prop := replicaCellsUptoRow.holds Tryz.pinned (OpenSpec.upto replicaCellsSpec)

/-- 'langdoclaw50.ReplicaAdds', WHERE WHAT IT READS IS OF BULK AT MOST 1048576: true; the input reads as it did. -/
def replicaAddsUptoRow : OpenClaim := { program := "ytekkpfbjnjjcbaagreatdoor", sum := "16fc851fd8d9a2b4bfeff49ce702fe551867403b9dff032a9f54317c8ebd3514", func := "langdoc/langdoclaw50.ReplicaAdds", spec := "replicaAdds", unfollowed := true, recurses := true, named := ["langdoc/replica.fields", "unicode/utf8.first", "unicode/utf8.acceptRanges"], plainKeys := false, apart := false, laid := [("unicode/utf8.acceptRanges", laid_unicode_utf8_acceptRanges), ("langdoc/replica.fields", laid_langdoc_replica_fields), ("unicode/utf8.first", laid_unicode_utf8_first)], narrowed := true }
def ReplicaAddsUptoSaid : Prop := replicaAddsUptoRow.holds Tryz.pinned (OpenSpec.upto replicaAddsSpec)

/-- 'langdoclaw50.ReplicaSets', WHERE WHAT IT READS IS OF BULK AT MOST 1048576: true; the input reads as it did. -/
def replicaSetsUptoRow : OpenClaim := { program := "ytekkpfbjnjjcbaagreatdoor", sum := "16fc851fd8d9a2b4bfeff49ce702fe551867403b9dff032a9f54317c8ebd3514", func := "langdoc/langdoclaw50.ReplicaSets", spec := "replicaSets", unfollowed := true, recurses := true, named := ["langdoc/replica.fields", "unicode/utf8.first", "unicode/utf8.acceptRanges"], plainKeys := false, apart := false, laid := [("unicode/utf8.acceptRanges", laid_unicode_utf8_acceptRanges), ("langdoc/replica.fields", laid_langdoc_replica_fields), ("unicode/utf8.first", laid_unicode_utf8_first)], narrowed := true }
def ReplicaSetsUptoSaid : Prop := replicaSetsUptoRow.holds Tryz.pinned (OpenSpec.upto replicaSetsSpec)

/-- 'langdoclaw50.ReplicaKeeps', WHERE WHAT IT READS IS OF BULK AT MOST 1048576: true; the input reads as it did. -/
def replicaKeepsUptoRow : OpenClaim := { program := "ytekkpfbjnjjcbaagreatdoor", sum := "16fc851fd8d9a2b4bfeff49ce702fe551867403b9dff032a9f54317c8ebd3514", func := "langdoc/langdoclaw50.ReplicaKeeps", spec := "replicaKeeps", unfollowed := true, recurses := true, named := ["langdoc/replica.fields", "unicode/utf8.first", "unicode/utf8.acceptRanges"], plainKeys := false, apart := false, laid := [("unicode/utf8.acceptRanges", laid_unicode_utf8_acceptRanges), ("langdoc/replica.fields", laid_langdoc_replica_fields), ("unicode/utf8.first", laid_unicode_utf8_first)], narrowed := true }
def ReplicaKeepsUptoSaid : Prop := replicaKeepsUptoRow.holds Tryz.pinned (OpenSpec.upto replicaKeepsSpec)

/-- 'langdoclaw50.ReplicaValues', WHERE WHAT IT READS IS OF BULK AT MOST 1048576: true; the input reads as it did. -/
def replicaValuesUptoRow : OpenClaim := { program := "ytekkpfbjnjjcbaagreatdoor", sum := "16fc851fd8d9a2b4bfeff49ce702fe551867403b9dff032a9f54317c8ebd3514", func := "langdoc/langdoclaw50.ReplicaValues", spec := "replicaValues", unfollowed := true, recurses := true, named := ["langdoc/replica.fields", "unicode/utf8.first", "unicode/utf8.acceptRanges"], plainKeys := false, apart := false, laid := [("unicode/utf8.acceptRanges", laid_unicode_utf8_acceptRanges), ("langdoc/replica.fields", laid_langdoc_replica_fields), ("unicode/utf8.first", laid_unicode_utf8_first)], narrowed := true }
def ReplicaValuesUptoSaid : Prop := replicaValuesUptoRow.holds Tryz.pinned (OpenSpec.upto replicaValuesSpec)

/-- 'langdoclaw50.ReplicaSaves', WHERE WHAT IT READS IS OF BULK AT MOST 1048576: true; the input reads as it did. -/
def replicaSavesUptoRow : OpenClaim := { program := "ytekkpfbjnjjcbaagreatdoor", sum := "16fc851fd8d9a2b4bfeff49ce702fe551867403b9dff032a9f54317c8ebd3514", func := "langdoc/langdoclaw50.ReplicaSaves", spec := "replicaSaves", unfollowed := true, recurses := true, named := ["langdoc/replica.fields", "unicode/utf8.first", "unicode/utf8.acceptRanges"], plainKeys := false, apart := false, laid := [("unicode/utf8.acceptRanges", laid_unicode_utf8_acceptRanges), ("langdoc/replica.fields", laid_langdoc_replica_fields), ("unicode/utf8.first", laid_unicode_utf8_first)], narrowed := true }
def ReplicaSavesUptoSaid : Prop := replicaSavesUptoRow.holds Tryz.pinned (OpenSpec.upto replicaSavesSpec)

/-- 'langdoclaw50.ReplicaLists', WHERE WHAT IT READS IS OF BULK AT MOST 1048576: true; the input reads as it did. -/
def replicaListsUptoRow : OpenClaim := { program := "ytekkpfbjnjjcbaagreatdoor", sum := "16fc851fd8d9a2b4bfeff49ce702fe551867403b9dff032a9f54317c8ebd3514", func := "langdoc/langdoclaw50.ReplicaLists", spec := "replicaLists", unfollowed := true, recurses := true, named := ["langdoc/replica.fields", "unicode/utf8.first", "unicode/utf8.acceptRanges"], plainKeys := false, apart := false, laid := [("unicode/utf8.acceptRanges", laid_unicode_utf8_acceptRanges), ("langdoc/replica.fields", laid_langdoc_replica_fields), ("unicode/utf8.first", laid_unicode_utf8_first)], narrowed := true }
def ReplicaListsUptoSaid : Prop := replicaListsUptoRow.holds Tryz.pinned (OpenSpec.upto replicaListsSpec)

end Rows
end Go.Proofs.YtekkpfbjnjjcbaaGreatDoor
