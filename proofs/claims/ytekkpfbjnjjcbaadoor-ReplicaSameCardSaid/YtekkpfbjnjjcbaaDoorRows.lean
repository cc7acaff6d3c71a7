/-
  NARROWER THAN 'FOR EVERY INPUT', by the rows' own cells (each row's printed sentence says how): ReplicaNew: laid · ReplicaCurrent: laid · ReplicaSame: laid.
  DERIVED. THE GIVEN ROWS OF THIS SEAT. 3 by the template 'for every input the law returns true; each argument reads behind the call as it read before'; 0 by the template 'total and deterministic' (their statements: YtekkpfbjnjjcbaaDoorTotals.lean).
  GIVEN WITH THE SEED: the statements are not yours to turn. If you find one false, say at which input.
  Laid BY PROGRAM, IN A SANDBOX (cutbox-rows.mjs): the forced cells as the released guide's own fill.sh prints them over the translation b14d5e553d346fb7… (all of the seat's roots in one cut). By AI agents, Wed Nov 11 2026. No macro, syntax, notation, axiom, sorry.
-/
import Derived.Test.YtekkpfbjnjjcbaaDoorChecked
import GoSem.PinnedTables
import GoSem.Claim
import GoSem.ClaimJoined
import GoSem.ClaimMapViews
import Derived.JoinedTies
import Derived.KernelRfl
namespace Go.Proofs.YtekkpfbjnjjcbaaDoor
/- THE CELL 'sum', in the pinned program and in every row, IS THE sha256 OF THE DUMP (.gsa) THAT YtekkpfbjnjjcbaaDoorProg.lean LOADS. Nothing in Lean hashes anything: it is a label: what it is worth is what the hold of that sum in a sandbox is worth. -/
noncomputable def Tryd.pinned : Pinned := { name := "ytekkpfbjnjjcbaadoor", sum := "b14d5e553d346fb78d9414f1fc4913811e9453d7bbd8e707f105e88e9c4f9078", checked := Tryd.checked }
namespace Rows
def none {H : Type} : Left H := { results := [], args := [] }

/- WHAT THE LISTED PACKAGE-LEVEL VARIABLES READ AS WHEN THE CALL BEGINS. Each datum BY PROGRAM (the guide's laid-datum.mjs) off the statement by which the dump's own 'gosem.cut.vars' lays the variable. In a bare row this is a premise. The card (YtekkpfbjnjjcbaaDoorCards.lean) ties it to the program's text. -/
def laid_unicode_utf8_acceptRanges {H : Type} : DataW H := .agg [.agg [.lit (.int .u8 128), .lit (.int .u8 191)], .agg [.lit (.int .u8 160), .lit (.int .u8 191)], .agg [.lit (.int .u8 128), .lit (.int .u8 159)], .agg [.lit (.int .u8 144), .lit (.int .u8 191)], .agg [.lit (.int .u8 128), .lit (.int .u8 143)], .agg [.lit (.int .u8 0), .lit (.int .u8 0)], .agg [.lit (.int .u8 0), .lit (.int .u8 0)], .agg [.lit (.int .u8 0), .lit (.int .u8 0)], .agg [.lit (.int .u8 0), .lit (.int .u8 0)], .agg [.lit (.int .u8 0), .lit (.int .u8 0)], .agg [.lit (.int .u8 0), .lit (.int .u8 0)], .agg [.lit (.int .u8 0), .lit (.int .u8 0)], .agg [.lit (.int .u8 0), .lit (.int .u8 0)], .agg [.lit (.int .u8 0), .lit (.int .u8 0)], .agg [.lit (.int .u8 0), .lit (.int .u8 0)], .agg [.lit (.int .u8 0), .lit (.int .u8 0)]]
def laid_langdoc_replica_fields {H : Type} : DataW H := .agg [.lit (.int .i64 0), .lit (.int .i64 1), .lit (.int .i64 2)]
/-- One of Go's own tables, pinned by name: the form's constant. -/
def laid_unicode_utf8_first : DataW Unit := Go.Pinned.utf8First

/-- 'langdoclaw50.ReplicaNew': WHATEVER THE INPUT: true; the input reads as it did. -/
def replicaNewSpec : ChangeSpec := { name := "replicaNew", fn := fun _ => fun
  | [d] => { results := [.lit (.bool true)], args := [d] }
  | _ => none }
def replicaNewRow : OpenClaim := { program := "ytekkpfbjnjjcbaadoor", sum := "b14d5e553d346fb78d9414f1fc4913811e9453d7bbd8e707f105e88e9c4f9078", func := "langdoc/langdoclaw50.ReplicaNew", spec := "replicaNew", unfollowed := true, recurses := true, named := ["langdoc/replica.fields", "unicode/utf8.first", "unicode/utf8.acceptRanges"], plainKeys := false, apart := false, laid := [("unicode/utf8.acceptRanges", laid_unicode_utf8_acceptRanges), ("langdoc/replica.fields", laid_langdoc_replica_fields), ("unicode/utf8.first", laid_unicode_utf8_first)] }
def ReplicaNewSaid : Prop := replicaNewRow.holds Tryd.pinned (OpenSpec.ofChange replicaNewSpec)

/-- ITS FALSE NEIGHBOUR: 'it returns false'. Refute it at one input. -/
def replicaNewWrong : ChangeSpec := { name := "replicaNew", fn := fun _ => fun
  | [d] => { results := [.lit (.bool false)], args := [d] }
  | _ => none }
def ReplicaNewWrongFalsely : Prop := replicaNewRow.holds Tryd.pinned (OpenSpec.ofChange replicaNewWrong)

/-- 'langdoclaw50.ReplicaCurrent': WHATEVER THE INPUT: true; the input reads as it did. -/
def replicaCurrentSpec : ChangeSpec := { name := "replicaCurrent", fn := fun _ => fun
  | [d] => { results := [.lit (.bool true)], args := [d] }
  | _ => none }
def replicaCurrentRow : OpenClaim := { program := "ytekkpfbjnjjcbaadoor", sum := "b14d5e553d346fb78d9414f1fc4913811e9453d7bbd8e707f105e88e9c4f9078", func := "langdoc/langdoclaw50.ReplicaCurrent", spec := "replicaCurrent", unfollowed := true, recurses := true, named := ["langdoc/replica.fields", "unicode/utf8.first", "unicode/utf8.acceptRanges"], plainKeys := false, apart := false, laid := [("unicode/utf8.acceptRanges", laid_unicode_utf8_acceptRanges), ("langdoc/replica.fields", laid_langdoc_replica_fields), ("unicode/utf8.first", laid_unicode_utf8_first)] }
def ReplicaCurrentSaid : Prop := replicaCurrentRow.holds Tryd.pinned (OpenSpec.ofChange replicaCurrentSpec)

/-- ITS FALSE NEIGHBOUR: 'it returns false'. Refute it at one input. -/
def replicaCurrentWrong : ChangeSpec := { name := "replicaCurrent", fn := fun _ => fun
  | [d] => { results := [.lit (.bool false)], args := [d] }
  | _ => none }
def ReplicaCurrentWrongFalsely : Prop := replicaCurrentRow.holds Tryd.pinned (OpenSpec.ofChange replicaCurrentWrong)

/-- 'langdoclaw50.ReplicaSame': WHATEVER THE INPUT: true; the input reads as it did. -/
def replicaSameSpec : ChangeSpec := { name := "replicaSame", fn := fun _ => fun
  | [d1, d2] => { results := [.lit (.bool true)], args := [d1, d2] }
  | _ => none }
def replicaSameRow : OpenClaim := { program := "ytekkpfbjnjjcbaadoor", sum := "b14d5e553d346fb78d9414f1fc4913811e9453d7bbd8e707f105e88e9c4f9078", func := "langdoc/langdoclaw50.ReplicaSame", spec := "replicaSame", unfollowed := true, recurses := true, named := ["langdoc/replica.fields", "unicode/utf8.first", "unicode/utf8.acceptRanges"], plainKeys := false, apart := false, laid := [("unicode/utf8.acceptRanges", laid_unicode_utf8_acceptRanges), ("langdoc/replica.fields", laid_langdoc_replica_fields), ("unicode/utf8.first", laid_unicode_utf8_first)] }
def ReplicaSameSaid : Prop := replicaSameRow.holds Tryd.pinned (OpenSpec.ofChange replicaSameSpec)

/-- ITS FALSE NEIGHBOUR: 'it returns false'. Refute it at one input. -/
def replicaSameWrong : ChangeSpec := { name := "replicaSame", fn := fun _ => fun
  | [d1, d2] => { results := [.lit (.bool false)], args := [d1, d2] }
  | _ => none }
def ReplicaSameWrongFalsely : Prop := replicaSameRow.holds Tryd.pinned (OpenSpec.ofChange replicaSameWrong)

/- THE SECOND FORM. 'bulk': how many values and letters a reading holds, each counted each time it is reached (what is shared counts as often as it is met; a slice's spare places count too). A statement '..UptoSaid' is the law's where the arguments, and the package variables that the reading takes, are together of bulk at most 1048576: NARROWER than '..Said'. Prove '..Said' where nothing that the law and all that it calls make is longer than what came in: it says more and counts as full. Else prove '..UptoSaid'. A law counts once. -/
mutual
def uptoBulk {H : Type} : DataW H → Nat
  | .lit (.string bytes) => bytes.length + 1
  | .lit _ => 1
  | .nil => 1
  | .ptr d => uptoBulk d + 1
  | .slice elems spare => uptoBulkAll elems + uptoBulkAll spare + 1
  | .agg parts => uptoBulkAll parts + 1
  | .iface _ d => uptoBulk d + 1
  | .map entries => uptoBulkEntries entries + 1
  | .held _ => 1
def uptoBulkAll {H : Type} : List (DataW H) → Nat
  | [] => 0
  | d :: r => uptoBulk d + uptoBulkAll r
def uptoBulkEntries {H : Type} : List (Lit × DataW H) → Nat
  | [] => 0
  | x :: r => uptoBulkEntry x + uptoBulkEntries r
def uptoBulkEntry {H : Type} : Lit × DataW H → Nat
  | (.string bytes, d) => bytes.length + uptoBulk d + 1
  | (_, d) => uptoBulk d + 1
 end
def uptoSmall : (H : Type) → List (DataW H) → Bool := fun _ ds => decide (uptoBulkAll ds ≤ 1048576)
def OpenSpec.upto (s : _root_.Go.ChangeSpec) : _root_.Go.OpenSpec := { _root_.Go.OpenSpec.ofChange s with cond := some uptoSmall }

/-- 'langdoclaw50.ReplicaNew', WHERE WHAT IT READS IS OF BULK AT MOST 1048576: true; the input reads as it did. -/
def replicaNewUptoRow : OpenClaim := { program := "ytekkpfbjnjjcbaadoor", sum := "b14d5e553d346fb78d9414f1fc4913811e9453d7bbd8e707f105e88e9c4f9078", func := "langdoc/langdoclaw50.ReplicaNew", spec := "replicaNew", unfollowed := true, recurses := true, named := ["langdoc/replica.fields", "unicode/utf8.first", "unicode/utf8.acceptRanges"], plainKeys := false, apart := false, laid := [("unicode/utf8.acceptRanges", laid_unicode_utf8_acceptRanges), ("langdoc/replica.fields", laid_langdoc_replica_fields), ("unicode/utf8.first", laid_unicode_utf8_first)], narrowed := true }
def ReplicaNewUptoSaid : Prop := replicaNewUptoRow.holds Tryd.pinned (OpenSpec.upto replicaNewSpec)

/-- 'langdoclaw50.ReplicaCurrent', WHERE WHAT IT READS IS OF BULK AT MOST 1048576: true; the input reads as it did. -/
def replicaCurrentUptoRow : OpenClaim := { program := "ytekkpfbjnjjcbaadoor", sum := "b14d5e553d346fb78d9414f1fc4913811e9453d7bbd8e707f105e88e9c4f9078", func := "langdoc/langdoclaw50.ReplicaCurrent", spec := "replicaCurrent", unfollowed := true, recurses := true, named := ["langdoc/replica.fields", "unicode/utf8.first", "unicode/utf8.acceptRanges"], plainKeys := false, apart := false, laid := [("unicode/utf8.acceptRanges", laid_unicode_utf8_acceptRanges), ("langdoc/replica.fields", laid_langdoc_replica_fields), ("unicode/utf8.first", laid_unicode_utf8_first)], narrowed := true }
def ReplicaCurrentUptoSaid : Prop := replicaCurrentUptoRow.holds Tryd.pinned (OpenSpec.upto replicaCurrentSpec)

/-- 'langdoclaw50.ReplicaSame', WHERE WHAT IT READS IS OF BULK AT MOST 1048576: true; the input reads as it did. -/
def replicaSameUptoRow : OpenClaim := { program := "ytekkpfbjnjjcbaadoor", sum := "b14d5e553d346fb78d9414f1fc4913811e9453d7bbd8e707f105e88e9c4f9078", func := "langdoc/langdoclaw50.ReplicaSame", spec := "replicaSame", unfollowed := true, recurses := true, named := ["langdoc/replica.fields", "unicode/utf8.first", "unicode/utf8.acceptRanges"], plainKeys := false, apart := false, laid := [("unicode/utf8.acceptRanges", laid_unicode_utf8_acceptRanges), ("langdoc/replica.fields", laid_langdoc_replica_fields), ("unicode/utf8.first", laid_unicode_utf8_first)], narrowed := true }
def ReplicaSameUptoSaid : Prop := replicaSameUptoRow.holds Tryd.pinned (OpenSpec.upto replicaSameSpec)

end Rows
end Go.Proofs.YtekkpfbjnjjcbaaDoor
