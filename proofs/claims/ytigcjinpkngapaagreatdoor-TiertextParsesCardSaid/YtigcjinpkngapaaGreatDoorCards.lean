/-
  DERIVED. GIVEN WITH THE SEED: THE CARDS: each row of YtigcjinpkngapaaGreatDoorRows.lean that lists a variable, with what it lists TIED to the program's text (the seventh form; the later family's looks); each row that meets fmt, with fmt's text TOLD by the authors' own Lean function (tested against real Go, not proved from fmt's source: count such statements apart). THE CARD IS WHAT COUNTS. Prove the row's statement (the work); the ties are given (YtigcjinpkngapaaGreatDoorTie.lean); close each card by the builder's one call (the guide's Derived/Test/ToyasCard.lean, 'card_holds'). Laid BY PROGRAM, IN A SANDBOX (cutbox-door.mjs). By AI agents, Wed Nov 11 2026. No macro, syntax, notation, axiom, sorry.
-/
import Derived.Test.YtigcjinpkngapaaGreatDoorRows
import GoSem.ClaimSeven
namespace Go.Proofs.YtigcjinpkngapaaGreatDoor
namespace Rows

/-- THE TIED CARD OF 'langdoclaw15.TiertextPrints'. -/
def tiertextPrintsCard : Claim7 := { stood := { row := tiertextPrintsRow, standIns := [], harness := (true, "484cc27ac9eec95c2b133b1c6a7342c669613dd35e7326999aa5c4de24d98d49"), looks := true }, kinds := [], alts := [], laidByText := true, laidKinds := [.data, .data, .data, .data, .handle, .sentinel, .sentinel, .data, .pinned], laidTests := true, laidLooks := .later }
def TiertextPrintsCardSaid : Prop := Claim7.holds Tryz.pinned (.plain (OpenSpec.ofChange tiertextPrintsSpec)) tiertextPrintsCard

/-- THE TIED CARD OF 'langdoclaw15.TiertextParses'. -/
def tiertextParsesCard : Claim7 := { stood := { row := tiertextParsesRow, standIns := [], harness := (true, "484cc27ac9eec95c2b133b1c6a7342c669613dd35e7326999aa5c4de24d98d49"), looks := true }, kinds := [], alts := [], laidByText := true, laidKinds := [.data, .data, .data, .data, .handle, .sentinel, .sentinel, .data, .pinned], laidTests := true, laidLooks := .later }
def TiertextParsesCardSaid : Prop := Claim7.holds Tryz.pinned (.plain (OpenSpec.ofChange tiertextParsesSpec)) tiertextParsesCard

/-- THE TIED CARD OF 'langdoclaw15.TiertextUnique'. -/
def tiertextUniqueCard : Claim7 := { stood := { row := tiertextUniqueRow, standIns := [], harness := (true, "484cc27ac9eec95c2b133b1c6a7342c669613dd35e7326999aa5c4de24d98d49"), looks := true }, kinds := [], alts := [], laidByText := true, laidKinds := [.data, .data, .data, .data, .handle, .sentinel, .sentinel, .data, .pinned], laidTests := true, laidLooks := .later }
def TiertextUniqueCardSaid : Prop := Claim7.holds Tryz.pinned (.plain (OpenSpec.ofChange tiertextUniqueSpec)) tiertextUniqueCard

/-- THE TIED CARD OF 'langdoclaw15.TiertextAllows'. -/
def tiertextAllowsCard : Claim7 := { stood := { row := tiertextAllowsRow, standIns := [], harness := (true, "484cc27ac9eec95c2b133b1c6a7342c669613dd35e7326999aa5c4de24d98d49"), looks := true }, kinds := [], alts := [], laidByText := true, laidKinds := [.data, .data, .data, .data, .handle, .sentinel, .sentinel, .data, .pinned], laidTests := true, laidLooks := .later }
def TiertextAllowsCardSaid : Prop := Claim7.holds Tryz.pinned (.plain (OpenSpec.ofChange tiertextAllowsSpec)) tiertextAllowsCard

/-- THE TIED CARD OF 'langdoclaw15.TiertextCuts'. -/
def tiertextCutsCard : Claim7 := { stood := { row := tiertextCutsRow, standIns := [], harness := (true, "484cc27ac9eec95c2b133b1c6a7342c669613dd35e7326999aa5c4de24d98d49"), looks := true }, kinds := [], alts := [], laidByText := true, laidKinds := [.data, .data, .data, .data, .handle, .sentinel, .sentinel, .data, .pinned], laidTests := true, laidLooks := .later }
def TiertextCutsCardSaid : Prop := Claim7.holds Tryz.pinned (.plain (OpenSpec.ofChange tiertextCutsSpec)) tiertextCutsCard

/-- THE TIED CARD OF 'langdoclaw15.TiertextFirst'. -/
def tiertextFirstCard : Claim7 := { stood := { row := tiertextFirstRow, standIns := [], harness := (true, "484cc27ac9eec95c2b133b1c6a7342c669613dd35e7326999aa5c4de24d98d49"), looks := true }, kinds := [], alts := [], laidByText := true, laidKinds := [.data, .data, .data, .data, .handle, .sentinel, .sentinel, .data, .pinned], laidTests := true, laidLooks := .later }
def TiertextFirstCardSaid : Prop := Claim7.holds Tryz.pinned (.plain (OpenSpec.ofChange tiertextFirstSpec)) tiertextFirstCard

/-- THE TIED CARD OF 'langdoclaw15.TiertextSums'. -/
def tiertextSumsCard : Claim7 := { stood := { row := tiertextSumsRow, standIns := [], harness := (true, "484cc27ac9eec95c2b133b1c6a7342c669613dd35e7326999aa5c4de24d98d49"), looks := true }, kinds := [], alts := [], laidByText := true, laidKinds := [.data, .data, .data, .data, .handle, .sentinel, .sentinel, .data, .pinned], laidTests := true, laidLooks := .later }
def TiertextSumsCardSaid : Prop := Claim7.holds Tryz.pinned (.plain (OpenSpec.ofChange tiertextSumsSpec)) tiertextSumsCard

/-- THE TIED CARD OF 'langdoclaw15.TiertextApart'. -/
def tiertextApartCard : Claim7 := { stood := { row := tiertextApartRow, standIns := [], harness := (true, "484cc27ac9eec95c2b133b1c6a7342c669613dd35e7326999aa5c4de24d98d49"), looks := true }, kinds := [], alts := [], laidByText := true, laidKinds := [.data, .data, .data, .data, .handle, .sentinel, .sentinel, .data, .pinned], laidTests := true, laidLooks := .later }
def TiertextApartCardSaid : Prop := Claim7.holds Tryz.pinned (.plain (OpenSpec.ofChange tiertextApartSpec)) tiertextApartCard

/-- THE TIED CARD OF 'langdoclaw15.TiertextBack'. -/
def tiertextBackCard : Claim7 := { stood := { row := tiertextBackRow, standIns := [], harness := (true, "484cc27ac9eec95c2b133b1c6a7342c669613dd35e7326999aa5c4de24d98d49"), looks := true }, kinds := [], alts := [], laidByText := true, laidKinds := [.data, .data, .data, .data, .handle, .sentinel, .sentinel, .data, .pinned], laidTests := true, laidLooks := .later }
def TiertextBackCardSaid : Prop := Claim7.holds Tryz.pinned (.plain (OpenSpec.ofChange tiertextBackSpec)) tiertextBackCard

/-- THE SECOND FORM's CARD OF 'langdoclaw15.TiertextPrints'. -/
def tiertextPrintsUptoCard : Claim7 := { stood := { row := tiertextPrintsUptoRow, standIns := [], harness := (true, "484cc27ac9eec95c2b133b1c6a7342c669613dd35e7326999aa5c4de24d98d49"), looks := true }, kinds := [], alts := [], laidByText := true, laidKinds := [.data, .data, .data, .data, .handle, .sentinel, .sentinel, .data, .pinned], laidTests := true, laidLooks := .later }
def TiertextPrintsUptoCardSaid : Prop := Claim7.holds Tryz.pinned (.plain (OpenSpec.upto tiertextPrintsSpec)) tiertextPrintsUptoCard

/-- THE SECOND FORM's CARD OF 'langdoclaw15.TiertextParses'. -/
def tiertextParsesUptoCard : Claim7 := { stood := { row := tiertextParsesUptoRow, standIns := [], harness := (true, "484cc27ac9eec95c2b133b1c6a7342c669613dd35e7326999aa5c4de24d98d49"), looks := true }, kinds := [], alts := [], laidByText := true, laidKinds := [.data, .data, .data, .data, .handle, .sentinel, .sentinel, .data, .pinned], laidTests := true, laidLooks := .later }
def TiertextParsesUptoCardSaid : Prop := Claim7.holds Tryz.pinned (.plain (OpenSpec.upto tiertextParsesSpec)) tiertextParsesUptoCard

/-- THE SECOND FORM's CARD OF 'langdoclaw15.TiertextUnique'. -/
def tiertextUniqueUptoCard : Claim7 := { stood := { row := tiertextUniqueUptoRow, standIns := [], harness := (true, "484cc27ac9eec95c2b133b1c6a7342c669613dd35e7326999aa5c4de24d98d49"), looks := true }, kinds := [], alts := [], laidByText := true, laidKinds := [.data, .data, .data, .data, .handle, .sentinel, .sentinel, .data, .pinned], laidTests := true, laidLooks := .later }
def TiertextUniqueUptoCardSaid : Prop := Claim7.holds Tryz.pinned (.plain (OpenSpec.upto tiertextUniqueSpec)) tiertextUniqueUptoCard

/-- THE SECOND FORM's CARD OF 'langdoclaw15.TiertextAllows'. -/
def tiertextAllowsUptoCard : Claim7 := { stood := { row := tiertextAllowsUptoRow, standIns := [], harness := (true, "484cc27ac9eec95c2b133b1c6a7342c669613dd35e7326999aa5c4de24d98d49"), looks := true }, kinds := [], alts := [], laidByText := true, laidKinds := [.data, .data, .data, .data, .handle, .sentinel, .sentinel, .data, .pinned], laidTests := true, laidLooks := .later }
def TiertextAllowsUptoCardSaid : Prop := Claim7.holds Tryz.pinned (.plain (OpenSpec.upto tiertextAllowsSpec)) tiertextAllowsUptoCard

/-- THE SECOND FORM's CARD OF 'langdoclaw15.TiertextCuts'. -/
def tiertextCutsUptoCard : Claim7 := { stood := { row := tiertextCutsUptoRow, standIns := [], harness := (true, "484cc27ac9eec95c2b133b1c6a7342c669613dd35e7326999aa5c4de24d98d49"), looks := true }, kinds := [], alts := [], laidByText := true, laidKinds := [.data, .data, .data, .data, .handle, .sentinel, .sentinel, .data, .pinned], laidTests := true, laidLooks := .later }
def TiertextCutsUptoCardSaid : Prop := Claim7.holds Tryz.pinned (.plain (OpenSpec.upto tiertextCutsSpec)) tiertextCutsUptoCard

/-- THE SECOND FORM's CARD OF 'langdoclaw15.TiertextFirst'. -/
def tiertextFirstUptoCard : Claim7 := { stood := { row := tiertextFirstUptoRow, standIns := [], harness := (true, "484cc27ac9eec95c2b133b1c6a7342c669613dd35e7326999aa5c4de24d98d49"), looks := true }, kinds := [], alts := [], laidByText := true, laidKinds := [.data, .data, .data, .data, .handle, .sentinel, .sentinel, .data, .pinned], laidTests := true, laidLooks := .later }
def TiertextFirstUptoCardSaid : Prop := Claim7.holds Tryz.pinned (.plain (OpenSpec.upto tiertextFirstSpec)) tiertextFirstUptoCard

/-- THE SECOND FORM's CARD OF 'langdoclaw15.TiertextSums'. -/
def tiertextSumsUptoCard : Claim7 := { stood := { row := tiertextSumsUptoRow, standIns := [], harness := (true, "484cc27ac9eec95c2b133b1c6a7342c669613dd35e7326999aa5c4de24d98d49"), looks := true }, kinds := [], alts := [], laidByText := true, laidKinds := [.data, .data, .data, .data, .handle, .sentinel, .sentinel, .data, .pinned], laidTests := true, laidLooks := .later }
def TiertextSumsUptoCardSaid : Prop := Claim7.holds Tryz.pinned (.plain (OpenSpec.upto tiertextSumsSpec)) tiertextSumsUptoCard

/-- THE SECOND FORM's CARD OF 'langdoclaw15.TiertextApart'. -/
def tiertextApartUptoCard : Claim7 := { stood := { row := tiertextApartUptoRow, standIns := [], harness := (true, "484cc27ac9eec95c2b133b1c6a7342c669613dd35e7326999aa5c4de24d98d49"), looks := true }, kinds := [], alts := [], laidByText := true, laidKinds := [.data, .data, .data, .data, .handle, .sentinel, .sentinel, .data, .pinned], laidTests := true, laidLooks := .later }
def TiertextApartUptoCardSaid : Prop := Claim7.holds Tryz.pinned (.plain (OpenSpec.upto tiertextApartSpec)) tiertextApartUptoCard

/-- THE SECOND FORM's CARD OF 'langdoclaw15.TiertextBack'. -/
def tiertextBackUptoCard : Claim7 := { stood := { row := tiertextBackUptoRow, standIns := [], harness := (true, "484cc27ac9eec95c2b133b1c6a7342c669613dd35e7326999aa5c4de24d98d49"), looks := true }, kinds := [], alts := [], laidByText := true, laidKinds := [.data, .data, .data, .data, .handle, .sentinel, .sentinel, .data, .pinned], laidTests := true, laidLooks := .later }
def TiertextBackUptoCardSaid : Prop := Claim7.holds Tryz.pinned (.plain (OpenSpec.upto tiertextBackSpec)) tiertextBackUptoCard
end Rows
end Go.Proofs.YtigcjinpkngapaaGreatDoor
