/-
  DERIVED. GIVEN WITH THE SEED: THE CARDS: each row of YtifpafbmfedpkaaGreatDoorRows.lean that lists a variable, with what it lists TIED to the program's text (the seventh form; the later family's looks); each row that meets fmt, with fmt's text TOLD by the authors' own Lean function (tested against real Go, not proved from fmt's source: count such statements apart). THE CARD IS WHAT COUNTS. Prove the row's statement (the work); the ties are given (YtifpafbmfedpkaaGreatDoorTie.lean); close each card by the builder's one call (the guide's Derived/Test/ToyasCard.lean, 'card_holds'). Laid BY PROGRAM, IN A SANDBOX (cutbox-door.mjs). By AI agents, Wed Nov 11 2026. No macro, syntax, notation, axiom, sorry.
-/
import Derived.Test.YtifpafbmfedpkaaGreatDoorRows
import GoSem.ClaimSeven
namespace Go.Proofs.YtifpafbmfedpkaaGreatDoor
namespace Rows

/-- THE TIED CARD OF 'langdoclaw51.ExchangeMet'. -/
def exchangeMetCard : Claim7 := { stood := { row := exchangeMetRow, standIns := [], harness := (true, "addc0951c4fb0b0e3ae2bed598df6f350ab755c5ad9515c3b5d6a392f2a95658"), looks := false }, kinds := [], alts := [], laidByText := true, laidKinds := [.data, .data, .pinned], laidTests := true, laidLooks := .later }
def ExchangeMetCardSaid : Prop := Claim7.holds Tryz.pinned (.plain (OpenSpec.ofChange exchangeMetSpec)) exchangeMetCard

/-- THE SECOND FORM's CARD OF 'langdoclaw51.ExchangeMet'. -/
def exchangeMetUptoCard : Claim7 := { stood := { row := exchangeMetUptoRow, standIns := [], harness := (true, "addc0951c4fb0b0e3ae2bed598df6f350ab755c5ad9515c3b5d6a392f2a95658"), looks := false }, kinds := [], alts := [], laidByText := true, laidKinds := [.data, .data, .pinned], laidTests := true, laidLooks := .later }
def ExchangeMetUptoCardSaid : Prop := Claim7.holds Tryz.pinned (.plain (OpenSpec.upto exchangeMetSpec)) exchangeMetUptoCard
end Rows
end Go.Proofs.YtifpafbmfedpkaaGreatDoor
