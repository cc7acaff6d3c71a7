/-
  DERIVED. GIVEN WITH THE SEED: THE CARDS: each row of YtifpafbmfedpkaaDoorRows.lean that lists a variable, with what it lists TIED to the program's text (the seventh form; the later family's looks); each row that meets fmt, with fmt's text TOLD by the authors' own Lean function (tested against real Go, not proved from fmt's source: count such statements apart). THE CARD IS WHAT COUNTS. Prove the row's statement (the work); the ties are given (YtifpafbmfedpkaaDoorTie.lean); close each card by the builder's one call (the guide's Derived/Test/ToyasCard.lean, 'card_holds'). Laid BY PROGRAM, IN A SANDBOX (cutbox-door.mjs). By AI agents, Wed Nov 11 2026. No macro, syntax, notation, axiom, sorry.
-/
import Derived.Test.YtifpafbmfedpkaaDoorRows
import GoSem.ClaimSeven
namespace Go.Proofs.YtifpafbmfedpkaaDoor
namespace Rows

/-- THE TIED CARD OF 'langdoclaw51.ExchangeMissing'. -/
def exchangeMissingCard : Claim7 := { stood := { row := exchangeMissingRow, standIns := [], harness := (true, "b43bd53463e1a362fc09ce590121885564dbc27aeb92c555600c60fd63ee5e46"), looks := false }, kinds := [], alts := [], laidByText := true, laidKinds := [.data, .data, .pinned], laidTests := true, laidLooks := .later }
def ExchangeMissingCardSaid : Prop := Claim7.holds Tryd.pinned (.plain (OpenSpec.ofChange exchangeMissingSpec)) exchangeMissingCard

/-- THE TIED CARD OF 'langdoclaw51.ExchangeMerges'. -/
def exchangeMergesCard : Claim7 := { stood := { row := exchangeMergesRow, standIns := [], harness := (true, "b43bd53463e1a362fc09ce590121885564dbc27aeb92c555600c60fd63ee5e46"), looks := false }, kinds := [], alts := [], laidByText := true, laidKinds := [.data, .data, .pinned], laidTests := true, laidLooks := .later }
def ExchangeMergesCardSaid : Prop := Claim7.holds Tryd.pinned (.plain (OpenSpec.ofChange exchangeMergesSpec)) exchangeMergesCard

/-- THE TIED CARD OF 'langdoclaw51.ExchangeSyncs'. -/
def exchangeSyncsCard : Claim7 := { stood := { row := exchangeSyncsRow, standIns := [], harness := (true, "b43bd53463e1a362fc09ce590121885564dbc27aeb92c555600c60fd63ee5e46"), looks := false }, kinds := [], alts := [], laidByText := true, laidKinds := [.data, .data, .pinned], laidTests := true, laidLooks := .later }
def ExchangeSyncsCardSaid : Prop := Claim7.holds Tryd.pinned (.plain (OpenSpec.ofChange exchangeSyncsSpec)) exchangeSyncsCard

/-- THE TIED CARD OF 'langdoclaw51.ExchangeBehind'. -/
def exchangeBehindCard : Claim7 := { stood := { row := exchangeBehindRow, standIns := [], harness := (true, "b43bd53463e1a362fc09ce590121885564dbc27aeb92c555600c60fd63ee5e46"), looks := false }, kinds := [], alts := [], laidByText := true, laidKinds := [.data, .data, .pinned], laidTests := true, laidLooks := .later }
def ExchangeBehindCardSaid : Prop := Claim7.holds Tryd.pinned (.plain (OpenSpec.ofChange exchangeBehindSpec)) exchangeBehindCard

/-- THE TIED CARD OF 'langdoclaw51.ExchangeTwice'. -/
def exchangeTwiceCard : Claim7 := { stood := { row := exchangeTwiceRow, standIns := [], harness := (true, "b43bd53463e1a362fc09ce590121885564dbc27aeb92c555600c60fd63ee5e46"), looks := false }, kinds := [], alts := [], laidByText := true, laidKinds := [.data, .data, .pinned], laidTests := true, laidLooks := .later }
def ExchangeTwiceCardSaid : Prop := Claim7.holds Tryd.pinned (.plain (OpenSpec.ofChange exchangeTwiceSpec)) exchangeTwiceCard

/-- THE TIED CARD OF 'langdoclaw51.ExchangeKeeps'. -/
def exchangeKeepsCard : Claim7 := { stood := { row := exchangeKeepsRow, standIns := [], harness := (true, "b43bd53463e1a362fc09ce590121885564dbc27aeb92c555600c60fd63ee5e46"), looks := false }, kinds := [], alts := [], laidByText := true, laidKinds := [.data, .data, .pinned], laidTests := true, laidLooks := .later }
def ExchangeKeepsCardSaid : Prop := Claim7.holds Tryd.pinned (.plain (OpenSpec.ofChange exchangeKeepsSpec)) exchangeKeepsCard

/-- THE TIED CARD OF 'langdoclaw51.ExchangeSteps'. -/
def exchangeStepsCard : Claim7 := { stood := { row := exchangeStepsRow, standIns := [], harness := (true, "b43bd53463e1a362fc09ce590121885564dbc27aeb92c555600c60fd63ee5e46"), looks := false }, kinds := [], alts := [], laidByText := true, laidKinds := [.data, .data, .pinned], laidTests := true, laidLooks := .later }
def ExchangeStepsCardSaid : Prop := Claim7.holds Tryd.pinned (.plain (OpenSpec.ofChange exchangeStepsSpec)) exchangeStepsCard

/-- THE TIED CARD OF 'langdoclaw51.ExchangeParts'. -/
def exchangePartsCard : Claim7 := { stood := { row := exchangePartsRow, standIns := [], harness := (true, "b43bd53463e1a362fc09ce590121885564dbc27aeb92c555600c60fd63ee5e46"), looks := false }, kinds := [], alts := [], laidByText := true, laidKinds := [.data, .data, .pinned], laidTests := true, laidLooks := .later }
def ExchangePartsCardSaid : Prop := Claim7.holds Tryd.pinned (.plain (OpenSpec.ofChange exchangePartsSpec)) exchangePartsCard

/-- THE TIED CARD OF 'langdoclaw51.ExchangeThree'. -/
def exchangeThreeCard : Claim7 := { stood := { row := exchangeThreeRow, standIns := [], harness := (true, "b43bd53463e1a362fc09ce590121885564dbc27aeb92c555600c60fd63ee5e46"), looks := false }, kinds := [], alts := [], laidByText := true, laidKinds := [.data, .data, .pinned], laidTests := true, laidLooks := .later }
def ExchangeThreeCardSaid : Prop := Claim7.holds Tryd.pinned (.plain (OpenSpec.ofChange exchangeThreeSpec)) exchangeThreeCard

/-- THE SECOND FORM's CARD OF 'langdoclaw51.ExchangeMissing'. -/
def exchangeMissingUptoCard : Claim7 := { stood := { row := exchangeMissingUptoRow, standIns := [], harness := (true, "b43bd53463e1a362fc09ce590121885564dbc27aeb92c555600c60fd63ee5e46"), looks := false }, kinds := [], alts := [], laidByText := true, laidKinds := [.data, .data, .pinned], laidTests := true, laidLooks := .later }
def ExchangeMissingUptoCardSaid : Prop := Claim7.holds Tryd.pinned (.plain (OpenSpec.upto exchangeMissingSpec)) exchangeMissingUptoCard

/-- THE SECOND FORM's CARD OF 'langdoclaw51.ExchangeMerges'. -/
def exchangeMergesUptoCard : Claim7 := { stood := { row := exchangeMergesUptoRow, standIns := [], harness := (true, "b43bd53463e1a362fc09ce590121885564dbc27aeb92c555600c60fd63ee5e46"), looks := false }, kinds := [], alts := [], laidByText := true, laidKinds := [.data, .data, .pinned], laidTests := true, laidLooks := .later }
def ExchangeMergesUptoCardSaid : Prop := Claim7.holds Tryd.pinned (.plain (OpenSpec.upto exchangeMergesSpec)) exchangeMergesUptoCard

/-- THE SECOND FORM's CARD OF 'langdoclaw51.ExchangeSyncs'. -/
def exchangeSyncsUptoCard : Claim7 := { stood := { row := exchangeSyncsUptoRow, standIns := [], harness := (true, "b43bd53463e1a362fc09ce590121885564dbc27aeb92c555600c60fd63ee5e46"), looks := false }, kinds := [], alts := [], laidByText := true, laidKinds := [.data, .data, .pinned], laidTests := true, laidLooks := .later }
def ExchangeSyncsUptoCardSaid : Prop := Claim7.holds Tryd.pinned (.plain (OpenSpec.upto exchangeSyncsSpec)) exchangeSyncsUptoCard

/-- THE SECOND FORM's CARD OF 'langdoclaw51.ExchangeBehind'. -/
def exchangeBehindUptoCard : Claim7 := { stood := { row := exchangeBehindUptoRow, standIns := [], harness := (true, "b43bd53463e1a362fc09ce590121885564dbc27aeb92c555600c60fd63ee5e46"), looks := false }, kinds := [], alts := [], laidByText := true, laidKinds := [.data, .data, .pinned], laidTests := true, laidLooks := .later }
def ExchangeBehindUptoCardSaid : Prop := Claim7.holds Tryd.pinned (.plain (OpenSpec.upto exchangeBehindSpec)) exchangeBehindUptoCard

/-- THE SECOND FORM's CARD OF 'langdoclaw51.ExchangeTwice'. -/
def exchangeTwiceUptoCard : Claim7 := { stood := { row := exchangeTwiceUptoRow, standIns := [], harness := (true, "b43bd53463e1a362fc09ce590121885564dbc27aeb92c555600c60fd63ee5e46"), looks := false }, kinds := [], alts := [], laidByText := true, laidKinds := [.data, .data, .pinned], laidTests := true, laidLooks := .later }
def ExchangeTwiceUptoCardSaid : Prop := Claim7.holds Tryd.pinned (.plain (OpenSpec.upto exchangeTwiceSpec)) exchangeTwiceUptoCard

/-- THE SECOND FORM's CARD OF 'langdoclaw51.ExchangeKeeps'. -/
def exchangeKeepsUptoCard : Claim7 := { stood := { row := exchangeKeepsUptoRow, standIns := [], harness := (true, "b43bd53463e1a362fc09ce590121885564dbc27aeb92c555600c60fd63ee5e46"), looks := false }, kinds := [], alts := [], laidByText := true, laidKinds := [.data, .data, .pinned], laidTests := true, laidLooks := .later }
def ExchangeKeepsUptoCardSaid : Prop := Claim7.holds Tryd.pinned (.plain (OpenSpec.upto exchangeKeepsSpec)) exchangeKeepsUptoCard

/-- THE SECOND FORM's CARD OF 'langdoclaw51.ExchangeSteps'. -/
def exchangeStepsUptoCard : Claim7 := { stood := { row := exchangeStepsUptoRow, standIns := [], harness := (true, "b43bd53463e1a362fc09ce590121885564dbc27aeb92c555600c60fd63ee5e46"), looks := false }, kinds := [], alts := [], laidByText := true, laidKinds := [.data, .data, .pinned], laidTests := true, laidLooks := .later }
def ExchangeStepsUptoCardSaid : Prop := Claim7.holds Tryd.pinned (.plain (OpenSpec.upto exchangeStepsSpec)) exchangeStepsUptoCard

/-- THE SECOND FORM's CARD OF 'langdoclaw51.ExchangeParts'. -/
def exchangePartsUptoCard : Claim7 := { stood := { row := exchangePartsUptoRow, standIns := [], harness := (true, "b43bd53463e1a362fc09ce590121885564dbc27aeb92c555600c60fd63ee5e46"), looks := false }, kinds := [], alts := [], laidByText := true, laidKinds := [.data, .data, .pinned], laidTests := true, laidLooks := .later }
def ExchangePartsUptoCardSaid : Prop := Claim7.holds Tryd.pinned (.plain (OpenSpec.upto exchangePartsSpec)) exchangePartsUptoCard

/-- THE SECOND FORM's CARD OF 'langdoclaw51.ExchangeThree'. -/
def exchangeThreeUptoCard : Claim7 := { stood := { row := exchangeThreeUptoRow, standIns := [], harness := (true, "b43bd53463e1a362fc09ce590121885564dbc27aeb92c555600c60fd63ee5e46"), looks := false }, kinds := [], alts := [], laidByText := true, laidKinds := [.data, .data, .pinned], laidTests := true, laidLooks := .later }
def ExchangeThreeUptoCardSaid : Prop := Claim7.holds Tryd.pinned (.plain (OpenSpec.upto exchangeThreeSpec)) exchangeThreeUptoCard
end Rows
end Go.Proofs.YtifpafbmfedpkaaDoor
