/-
  DERIVED. GIVEN WITH THE SEED: THE CARDS: each row of YtekkpfbjnjjcbaaDoorRows.lean that lists a variable, with what it lists TIED to the program's text (the seventh form; the later family's looks); each row that meets fmt, with fmt's text TOLD by the authors' own Lean function (tested against real Go, not proved from fmt's source: count such statements apart). THE CARD IS WHAT COUNTS. Prove the row's statement (the work); the ties are given (YtekkpfbjnjjcbaaDoorTie.lean); close each card by the builder's one call (the guide's Derived/Test/ToyasCard.lean, 'card_holds'). Laid BY PROGRAM, IN A SANDBOX (cutbox-door.mjs). By AI agents, Wed Nov 11 2026. No macro, syntax, notation, axiom, sorry.
-/
import Derived.Test.YtekkpfbjnjjcbaaDoorRows
import GoSem.ClaimSeven
namespace Go.Proofs.YtekkpfbjnjjcbaaDoor
namespace Rows

/-- THE TIED CARD OF 'langdoclaw50.ReplicaNew'. -/
def replicaNewCard : Claim7 := { stood := { row := replicaNewRow, standIns := [], harness := (true, "37b40768cee84d98e0dc9a95995a77c8adf8a69406615a816f254bc1a5be47e3"), looks := false }, kinds := [], alts := [], laidByText := true, laidKinds := [.data, .data, .pinned], laidTests := true, laidLooks := .later }
def ReplicaNewCardSaid : Prop := Claim7.holds Tryd.pinned (.plain (OpenSpec.ofChange replicaNewSpec)) replicaNewCard

/-- THE TIED CARD OF 'langdoclaw50.ReplicaCurrent'. -/
def replicaCurrentCard : Claim7 := { stood := { row := replicaCurrentRow, standIns := [], harness := (true, "37b40768cee84d98e0dc9a95995a77c8adf8a69406615a816f254bc1a5be47e3"), looks := false }, kinds := [], alts := [], laidByText := true, laidKinds := [.data, .data, .pinned], laidTests := true, laidLooks := .later }
def ReplicaCurrentCardSaid : Prop := Claim7.holds Tryd.pinned (.plain (OpenSpec.ofChange replicaCurrentSpec)) replicaCurrentCard

/-- THE TIED CARD OF 'langdoclaw50.ReplicaSame'. -/
def replicaSameCard : Claim7 := { stood := { row := replicaSameRow, standIns := [], harness := (true, "37b40768cee84d98e0dc9a95995a77c8adf8a69406615a816f254bc1a5be47e3"), looks := false }, kinds := [], alts := [], laidByText := true, laidKinds := [.data, .data, .pinned], laidTests := true, laidLooks := .later }
def ReplicaSameCardSaid : Prop := Claim7.holds Tryd.pinned (.plain (OpenSpec.ofChange replicaSameSpec)) replicaSameCard

/-- THE SECOND FORM's CARD OF 'langdoclaw50.ReplicaNew'. -/
def replicaNewUptoCard : Claim7 := { stood := { row := replicaNewUptoRow, standIns := [], harness := (true, "37b40768cee84d98e0dc9a95995a77c8adf8a69406615a816f254bc1a5be47e3"), looks := false }, kinds := [], alts := [], laidByText := true, laidKinds := [.data, .data, .pinned], laidTests := true, laidLooks := .later }
def ReplicaNewUptoCardSaid : Prop := Claim7.holds Tryd.pinned (.plain (OpenSpec.upto replicaNewSpec)) replicaNewUptoCard

/-- THE SECOND FORM's CARD OF 'langdoclaw50.ReplicaCurrent'. -/
def replicaCurrentUptoCard : Claim7 := { stood := { row := replicaCurrentUptoRow, standIns := [], harness := (true, "37b40768cee84d98e0dc9a95995a77c8adf8a69406615a816f254bc1a5be47e3"), looks := false }, kinds := [], alts := [], laidByText := true, laidKinds := [.data, .data, .pinned], laidTests := true, laidLooks := .later }
def ReplicaCurrentUptoCardSaid : Prop := Claim7.holds Tryd.pinned (.plain (OpenSpec.upto replicaCurrentSpec)) replicaCurrentUptoCard

/-- THE SECOND FORM's CARD OF 'langdoclaw50.ReplicaSame'. -/
def replicaSameUptoCard : Claim7 := { stood := { row := replicaSameUptoRow, standIns := [], harness := (true, "37b40768cee84d98e0dc9a95995a77c8adf8a69406615a816f254bc1a5be47e3"), looks := false }, kinds := [], alts := [], laidByText := true, laidKinds := [.data, .data, .pinned], laidTests := true, laidLooks := .later }
def ReplicaSameUptoCardSaid : Prop := Claim7.holds Tryd.pinned (.plain (OpenSpec.upto replicaSameSpec)) replicaSameUptoCard
end Rows
end Go.Proofs.YtekkpfbjnjjcbaaDoor
