/-
  DERIVED. GIVEN WITH THE SEED: THE CARDS: each row of YtcfkokllinkigaaGreatDoorRows.lean that lists a variable, with what it lists TIED to the program's text (the seventh form; the later family's looks); each row that meets fmt, with fmt's text TOLD by the authors' own Lean function (tested against real Go, not proved from fmt's source: count such statements apart). THE CARD IS WHAT COUNTS. Prove the row's statement (the work); the ties are given (YtcfkokllinkigaaGreatDoorTie.lean); close each card by the builder's one call (the guide's Derived/Test/ToyasCard.lean, 'card_holds'). Laid BY PROGRAM, IN A SANDBOX (cutbox-door.mjs). By AI agents, Wed Nov 11 2026. No macro, syntax, notation, axiom, sorry.
-/
import Derived.Test.YtcfkokllinkigaaGreatDoorRows
import GoSem.ClaimSeven
namespace Go.Proofs.YtcfkokllinkigaaGreatDoor
namespace Rows

/-- THE TIED CARD OF 'langdoctop.TopOffline'. -/
def topOfflineCard : Claim7 := { stood := { row := topOfflineRow, standIns := [], harness := (true, "d2c985e156b79c51cc9d930ba71614f4f948df716fb1657345b4ed6efc59caf4"), looks := false }, kinds := [], alts := [], laidByText := true, laidKinds := [.data, .data, .pinned], laidTests := true, laidLooks := .later }
def TopOfflineCardSaid : Prop := Claim7.holds Tryz.pinned (.plain (OpenSpec.ofChange topOfflineSpec)) topOfflineCard

/-- THE SECOND FORM's CARD OF 'langdoctop.TopOffline'. -/
def topOfflineUptoCard : Claim7 := { stood := { row := topOfflineUptoRow, standIns := [], harness := (true, "d2c985e156b79c51cc9d930ba71614f4f948df716fb1657345b4ed6efc59caf4"), looks := false }, kinds := [], alts := [], laidByText := true, laidKinds := [.data, .data, .pinned], laidTests := true, laidLooks := .later }
def TopOfflineUptoCardSaid : Prop := Claim7.holds Tryz.pinned (.plain (OpenSpec.upto topOfflineSpec)) topOfflineUptoCard
end Rows
end Go.Proofs.YtcfkokllinkigaaGreatDoor
