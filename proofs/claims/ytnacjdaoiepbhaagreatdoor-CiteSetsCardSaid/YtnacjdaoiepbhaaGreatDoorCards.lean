/-
  DERIVED. GIVEN WITH THE SEED: THE CARDS: each row of YtnacjdaoiepbhaaGreatDoorRows.lean that lists a variable, with what it lists TIED to the program's text (the seventh form; the later family's looks); each row that meets fmt, with fmt's text TOLD by the authors' own Lean function (tested against real Go, not proved from fmt's source: count such statements apart). THE CARD IS WHAT COUNTS. Prove the row's statement (the work); the ties are given (YtnacjdaoiepbhaaGreatDoorTie.lean); close each card by the builder's one call (the guide's Derived/Test/ToyasCard.lean, 'card_holds'). Laid BY PROGRAM, IN A SANDBOX (cutbox-door.mjs). By AI agents, Wed Nov 11 2026. No macro, syntax, notation, axiom, sorry.
-/
import Derived.Test.YtnacjdaoiepbhaaGreatDoorRows
import GoSem.ClaimSeven
namespace Go.Proofs.YtnacjdaoiepbhaaGreatDoor
namespace Rows

/-- THE TIED CARD OF 'langdoclaw54.CitePrints'. -/
def citePrintsCard : Claim7 := { stood := { row := citePrintsRow, standIns := [], harness := (true, "7241ac80169d747d471b2f247dde0b16771395071e9f1a51f2c20cc14dc9eba2"), looks := true }, kinds := [], alts := [], laidByText := true, laidKinds := [.data, .data, .data, .sentinel, .sentinel, .data], laidTests := true, laidLooks := .later }
def CitePrintsCardSaid : Prop := Claim7.holds Tryz.pinned (.plain (OpenSpec.ofChange citePrintsSpec)) citePrintsCard

/-- THE TIED CARD OF 'langdoclaw54.CiteParses'. -/
def citeParsesCard : Claim7 := { stood := { row := citeParsesRow, standIns := [], harness := (true, "7241ac80169d747d471b2f247dde0b16771395071e9f1a51f2c20cc14dc9eba2"), looks := true }, kinds := [], alts := [], laidByText := true, laidKinds := [.data, .data, .data, .sentinel, .sentinel, .data], laidTests := true, laidLooks := .later }
def CiteParsesCardSaid : Prop := Claim7.holds Tryz.pinned (.plain (OpenSpec.ofChange citeParsesSpec)) citeParsesCard

/-- THE TIED CARD OF 'langdoclaw54.CiteApart'. -/
def citeApartCard : Claim7 := { stood := { row := citeApartRow, standIns := [], harness := (true, "7241ac80169d747d471b2f247dde0b16771395071e9f1a51f2c20cc14dc9eba2"), looks := true }, kinds := [], alts := [], laidByText := true, laidKinds := [.data, .data, .data, .sentinel, .sentinel, .data], laidTests := true, laidLooks := .later }
def CiteApartCardSaid : Prop := Claim7.holds Tryz.pinned (.plain (OpenSpec.ofChange citeApartSpec)) citeApartCard

/-- THE TIED CARD OF 'langdoclaw54.CiteMakes'. -/
def citeMakesCard : Claim7 := { stood := { row := citeMakesRow, standIns := [], harness := (true, "7241ac80169d747d471b2f247dde0b16771395071e9f1a51f2c20cc14dc9eba2"), looks := true }, kinds := [], alts := [], laidByText := true, laidKinds := [.data, .data, .data, .sentinel, .sentinel, .data], laidTests := true, laidLooks := .later }
def CiteMakesCardSaid : Prop := Claim7.holds Tryz.pinned (.plain (OpenSpec.ofChange citeMakesSpec)) citeMakesCard

/-- THE TIED CARD OF 'langdoclaw54.CiteResolves'. -/
def citeResolvesCard : Claim7 := { stood := { row := citeResolvesRow, standIns := [], harness := (true, "7241ac80169d747d471b2f247dde0b16771395071e9f1a51f2c20cc14dc9eba2"), looks := true }, kinds := [], alts := [], laidByText := true, laidKinds := [.data, .data, .data, .sentinel, .sentinel, .data], laidTests := true, laidLooks := .later }
def CiteResolvesCardSaid : Prop := Claim7.holds Tryz.pinned (.plain (OpenSpec.ofChange citeResolvesSpec)) citeResolvesCard

/-- THE TIED CARD OF 'langdoclaw54.CiteOpens'. -/
def citeOpensCard : Claim7 := { stood := { row := citeOpensRow, standIns := [], harness := (true, "7241ac80169d747d471b2f247dde0b16771395071e9f1a51f2c20cc14dc9eba2"), looks := true }, kinds := [], alts := [], laidByText := true, laidKinds := [.data, .data, .data, .sentinel, .sentinel, .data], laidTests := true, laidLooks := .later }
def CiteOpensCardSaid : Prop := Claim7.holds Tryz.pinned (.plain (OpenSpec.ofChange citeOpensSpec)) citeOpensCard

/-- THE TIED CARD OF 'langdoclaw54.CiteSeen'. -/
def citeSeenCard : Claim7 := { stood := { row := citeSeenRow, standIns := [], harness := (true, "7241ac80169d747d471b2f247dde0b16771395071e9f1a51f2c20cc14dc9eba2"), looks := true }, kinds := [], alts := [], laidByText := true, laidKinds := [.data, .data, .data, .sentinel, .sentinel, .data], laidTests := true, laidLooks := .later }
def CiteSeenCardSaid : Prop := Claim7.holds Tryz.pinned (.plain (OpenSpec.ofChange citeSeenSpec)) citeSeenCard

/-- THE TIED CARD OF 'langdoclaw54.CiteOwn'. -/
def citeOwnCard : Claim7 := { stood := { row := citeOwnRow, standIns := [], harness := (true, "7241ac80169d747d471b2f247dde0b16771395071e9f1a51f2c20cc14dc9eba2"), looks := true }, kinds := [], alts := [], laidByText := true, laidKinds := [.data, .data, .data, .sentinel, .sentinel, .data], laidTests := true, laidLooks := .later }
def CiteOwnCardSaid : Prop := Claim7.holds Tryz.pinned (.plain (OpenSpec.ofChange citeOwnSpec)) citeOwnCard

/-- THE TIED CARD OF 'langdoclaw54.CiteStays'. -/
def citeStaysCard : Claim7 := { stood := { row := citeStaysRow, standIns := [], harness := (true, "7241ac80169d747d471b2f247dde0b16771395071e9f1a51f2c20cc14dc9eba2"), looks := true }, kinds := [], alts := [], laidByText := true, laidKinds := [.data, .data, .data, .data, .sentinel, .sentinel, .data, .data, .pinned], laidTests := true, laidLooks := .later }
def CiteStaysCardSaid : Prop := Claim7.holds Tryz.pinned (.plain (OpenSpec.ofChange citeStaysSpec)) citeStaysCard

/-- THE TIED CARD OF 'langdoclaw54.CiteSets'. -/
def citeSetsCard : Claim7 := { stood := { row := citeSetsRow, standIns := [], harness := (true, "7241ac80169d747d471b2f247dde0b16771395071e9f1a51f2c20cc14dc9eba2"), looks := true }, kinds := [], alts := [], laidByText := true, laidKinds := [.data, .data, .data, .data, .sentinel, .sentinel, .data, .data, .pinned], laidTests := true, laidLooks := .later }
def CiteSetsCardSaid : Prop := Claim7.holds Tryz.pinned (.plain (OpenSpec.ofChange citeSetsSpec)) citeSetsCard

/-- THE SECOND FORM's CARD OF 'langdoclaw54.CitePrints'. -/
def citePrintsUptoCard : Claim7 := { stood := { row := citePrintsUptoRow, standIns := [], harness := (true, "7241ac80169d747d471b2f247dde0b16771395071e9f1a51f2c20cc14dc9eba2"), looks := true }, kinds := [], alts := [], laidByText := true, laidKinds := [.data, .data, .data, .sentinel, .sentinel, .data], laidTests := true, laidLooks := .later }
def CitePrintsUptoCardSaid : Prop := Claim7.holds Tryz.pinned (.plain (OpenSpec.upto citePrintsSpec)) citePrintsUptoCard

/-- THE SECOND FORM's CARD OF 'langdoclaw54.CiteParses'. -/
def citeParsesUptoCard : Claim7 := { stood := { row := citeParsesUptoRow, standIns := [], harness := (true, "7241ac80169d747d471b2f247dde0b16771395071e9f1a51f2c20cc14dc9eba2"), looks := true }, kinds := [], alts := [], laidByText := true, laidKinds := [.data, .data, .data, .sentinel, .sentinel, .data], laidTests := true, laidLooks := .later }
def CiteParsesUptoCardSaid : Prop := Claim7.holds Tryz.pinned (.plain (OpenSpec.upto citeParsesSpec)) citeParsesUptoCard

/-- THE SECOND FORM's CARD OF 'langdoclaw54.CiteApart'. -/
def citeApartUptoCard : Claim7 := { stood := { row := citeApartUptoRow, standIns := [], harness := (true, "7241ac80169d747d471b2f247dde0b16771395071e9f1a51f2c20cc14dc9eba2"), looks := true }, kinds := [], alts := [], laidByText := true, laidKinds := [.data, .data, .data, .sentinel, .sentinel, .data], laidTests := true, laidLooks := .later }
def CiteApartUptoCardSaid : Prop := Claim7.holds Tryz.pinned (.plain (OpenSpec.upto citeApartSpec)) citeApartUptoCard

/-- THE SECOND FORM's CARD OF 'langdoclaw54.CiteMakes'. -/
def citeMakesUptoCard : Claim7 := { stood := { row := citeMakesUptoRow, standIns := [], harness := (true, "7241ac80169d747d471b2f247dde0b16771395071e9f1a51f2c20cc14dc9eba2"), looks := true }, kinds := [], alts := [], laidByText := true, laidKinds := [.data, .data, .data, .sentinel, .sentinel, .data], laidTests := true, laidLooks := .later }
def CiteMakesUptoCardSaid : Prop := Claim7.holds Tryz.pinned (.plain (OpenSpec.upto citeMakesSpec)) citeMakesUptoCard

/-- THE SECOND FORM's CARD OF 'langdoclaw54.CiteResolves'. -/
def citeResolvesUptoCard : Claim7 := { stood := { row := citeResolvesUptoRow, standIns := [], harness := (true, "7241ac80169d747d471b2f247dde0b16771395071e9f1a51f2c20cc14dc9eba2"), looks := true }, kinds := [], alts := [], laidByText := true, laidKinds := [.data, .data, .data, .sentinel, .sentinel, .data], laidTests := true, laidLooks := .later }
def CiteResolvesUptoCardSaid : Prop := Claim7.holds Tryz.pinned (.plain (OpenSpec.upto citeResolvesSpec)) citeResolvesUptoCard

/-- THE SECOND FORM's CARD OF 'langdoclaw54.CiteOpens'. -/
def citeOpensUptoCard : Claim7 := { stood := { row := citeOpensUptoRow, standIns := [], harness := (true, "7241ac80169d747d471b2f247dde0b16771395071e9f1a51f2c20cc14dc9eba2"), looks := true }, kinds := [], alts := [], laidByText := true, laidKinds := [.data, .data, .data, .sentinel, .sentinel, .data], laidTests := true, laidLooks := .later }
def CiteOpensUptoCardSaid : Prop := Claim7.holds Tryz.pinned (.plain (OpenSpec.upto citeOpensSpec)) citeOpensUptoCard

/-- THE SECOND FORM's CARD OF 'langdoclaw54.CiteSeen'. -/
def citeSeenUptoCard : Claim7 := { stood := { row := citeSeenUptoRow, standIns := [], harness := (true, "7241ac80169d747d471b2f247dde0b16771395071e9f1a51f2c20cc14dc9eba2"), looks := true }, kinds := [], alts := [], laidByText := true, laidKinds := [.data, .data, .data, .sentinel, .sentinel, .data], laidTests := true, laidLooks := .later }
def CiteSeenUptoCardSaid : Prop := Claim7.holds Tryz.pinned (.plain (OpenSpec.upto citeSeenSpec)) citeSeenUptoCard

/-- THE SECOND FORM's CARD OF 'langdoclaw54.CiteOwn'. -/
def citeOwnUptoCard : Claim7 := { stood := { row := citeOwnUptoRow, standIns := [], harness := (true, "7241ac80169d747d471b2f247dde0b16771395071e9f1a51f2c20cc14dc9eba2"), looks := true }, kinds := [], alts := [], laidByText := true, laidKinds := [.data, .data, .data, .sentinel, .sentinel, .data], laidTests := true, laidLooks := .later }
def CiteOwnUptoCardSaid : Prop := Claim7.holds Tryz.pinned (.plain (OpenSpec.upto citeOwnSpec)) citeOwnUptoCard

/-- THE SECOND FORM's CARD OF 'langdoclaw54.CiteStays'. -/
def citeStaysUptoCard : Claim7 := { stood := { row := citeStaysUptoRow, standIns := [], harness := (true, "7241ac80169d747d471b2f247dde0b16771395071e9f1a51f2c20cc14dc9eba2"), looks := true }, kinds := [], alts := [], laidByText := true, laidKinds := [.data, .data, .data, .data, .sentinel, .sentinel, .data, .data, .pinned], laidTests := true, laidLooks := .later }
def CiteStaysUptoCardSaid : Prop := Claim7.holds Tryz.pinned (.plain (OpenSpec.upto citeStaysSpec)) citeStaysUptoCard

/-- THE SECOND FORM's CARD OF 'langdoclaw54.CiteSets'. -/
def citeSetsUptoCard : Claim7 := { stood := { row := citeSetsUptoRow, standIns := [], harness := (true, "7241ac80169d747d471b2f247dde0b16771395071e9f1a51f2c20cc14dc9eba2"), looks := true }, kinds := [], alts := [], laidByText := true, laidKinds := [.data, .data, .data, .data, .sentinel, .sentinel, .data, .data, .pinned], laidTests := true, laidLooks := .later }
def CiteSetsUptoCardSaid : Prop := Claim7.holds Tryz.pinned (.plain (OpenSpec.upto citeSetsSpec)) citeSetsUptoCard
end Rows
end Go.Proofs.YtnacjdaoiepbhaaGreatDoor
