/-
  DERIVED. GIVEN WITH THE SEED: THE CARDS: each row of YtekkpfbjnjjcbaaGreatDoorRows.lean that lists a variable, with what it lists TIED to the program's text (the seventh form; the later family's looks); each row that meets fmt, with fmt's text TOLD by the authors' own Lean function (tested against real Go, not proved from fmt's source: count such statements apart). THE CARD IS WHAT COUNTS. Prove the row's statement (the work); the ties are given (YtekkpfbjnjjcbaaGreatDoorTie.lean); close each card by the builder's one call (the guide's Derived/Test/ToyasCard.lean, 'card_holds'). Laid BY PROGRAM, IN A SANDBOX (cutbox-door.mjs). By AI agents, Wed Nov 11 2026. No macro, syntax, notation, axiom, sorry.
-/
import Derived.Test.YtekkpfbjnjjcbaaGreatDoorRows
import GoSem.ClaimSeven
namespace Go.Proofs.YtekkpfbjnjjcbaaGreatDoor
namespace Rows

/-- THE TIED CARD OF 'langdoclaw50.ReplicaCheck'. -/
def replicaCheckCard : Claim7 := { stood := { row := replicaCheckRow, standIns := [], harness := (true, "8e5510f005bc24954d1baba8988cac3f4161f5a1099b0a7567504c42804020e9"), looks := false }, kinds := [], alts := [], laidByText := true, laidKinds := [.data, .data, .pinned], laidTests := true, laidLooks := .later }
def ReplicaCheckCardSaid : Prop := Claim7.holds Tryz.pinned (.plain (OpenSpec.ofChange replicaCheckSpec)) replicaCheckCard

/-- THE TIED CARD OF 'langdoclaw50.ReplicaCells'. -/
def replicaCellsCard : Claim7 := { stood := { row := replicaCellsRow, standIns := [], harness := (true, "8e5510f005bc24954d1baba8988cac3f4161f5a1099b0a7567504c42804020e9"), looks := false }, kinds := [], alts := [], laidByText := true, laidKinds := [.data, .data, .pinned], laidTests := true, laidLooks := .later }
def ReplicaCellsCardSaid : Prop := Claim7.holds Tryz.pinned (.plain (OpenSpec.ofChange replicaCellsSpec)) replicaCellsCard

/-- THE TIED CARD OF 'langdoclaw50.ReplicaAdds'. -/
def replicaAddsCard : Claim7 := { stood := { row := replicaAddsRow, standIns := [], harness := (true, "8e5510f005bc24954d1baba8988cac3f4161f5a1099b0a7567504c42804020e9"), looks := false }, kinds := [], alts := [], laidByText := true, laidKinds := [.data, .data, .pinned], laidTests := true, laidLooks := .later }
def ReplicaAddsCardSaid : Prop := Claim7.holds Tryz.pinned (.plain (OpenSpec.ofChange replicaAddsSpec)) replicaAddsCard

/-- THE TIED CARD OF 'langdoclaw50.ReplicaSets'. -/
def replicaSetsCard : Claim7 := { stood := { row := replicaSetsRow, standIns := [], harness := (true, "8e5510f005bc24954d1baba8988cac3f4161f5a1099b0a7567504c42804020e9"), looks := false }, kinds := [], alts := [], laidByText := true, laidKinds := [.data, .data, .pinned], laidTests := true, laidLooks := .later }
def ReplicaSetsCardSaid : Prop := Claim7.holds Tryz.pinned (.plain (OpenSpec.ofChange replicaSetsSpec)) replicaSetsCard

/-- THE TIED CARD OF 'langdoclaw50.ReplicaKeeps'. -/
def replicaKeepsCard : Claim7 := { stood := { row := replicaKeepsRow, standIns := [], harness := (true, "8e5510f005bc24954d1baba8988cac3f4161f5a1099b0a7567504c42804020e9"), looks := false }, kinds := [], alts := [], laidByText := true, laidKinds := [.data, .data, .pinned], laidTests := true, laidLooks := .later }
def ReplicaKeepsCardSaid : Prop := Claim7.holds Tryz.pinned (.plain (OpenSpec.ofChange replicaKeepsSpec)) replicaKeepsCard

/-- THE TIED CARD OF 'langdoclaw50.ReplicaValues'. -/
def replicaValuesCard : Claim7 := { stood := { row := replicaValuesRow, standIns := [], harness := (true, "8e5510f005bc24954d1baba8988cac3f4161f5a1099b0a7567504c42804020e9"), looks := false }, kinds := [], alts := [], laidByText := true, laidKinds := [.data, .data, .pinned], laidTests := true, laidLooks := .later }
def ReplicaValuesCardSaid : Prop := Claim7.holds Tryz.pinned (.plain (OpenSpec.ofChange replicaValuesSpec)) replicaValuesCard

/-- THE TIED CARD OF 'langdoclaw50.ReplicaSaves'. -/
def replicaSavesCard : Claim7 := { stood := { row := replicaSavesRow, standIns := [], harness := (true, "8e5510f005bc24954d1baba8988cac3f4161f5a1099b0a7567504c42804020e9"), looks := false }, kinds := [], alts := [], laidByText := true, laidKinds := [.data, .data, .pinned], laidTests := true, laidLooks := .later }
def ReplicaSavesCardSaid : Prop := Claim7.holds Tryz.pinned (.plain (OpenSpec.ofChange replicaSavesSpec)) replicaSavesCard

/-- THE TIED CARD OF 'langdoclaw50.ReplicaLists'. -/
def replicaListsCard : Claim7 := { stood := { row := replicaListsRow, standIns := [], harness := (true, "8e5510f005bc24954d1baba8988cac3f4161f5a1099b0a7567504c42804020e9"), looks := false }, kinds := [], alts := [], laidByText := true, laidKinds := [.data, .data, .pinned], laidTests := true, laidLooks := .later }
def ReplicaListsCardSaid : Prop := Claim7.holds Tryz.pinned (.plain (OpenSpec.ofChange replicaListsSpec)) replicaListsCard

/-- THE SECOND FORM's CARD OF 'langdoclaw50.ReplicaCheck'. -/
def replicaCheckUptoCard : Claim7 := { stood := { row := replicaCheckUptoRow, standIns := [], harness := (true, "8e5510f005bc24954d1baba8988cac3f4161f5a1099b0a7567504c42804020e9"), looks := false }, kinds := [], alts := [], laidByText := true, laidKinds := [.data, .data, .pinned], laidTests := true, laidLooks := .later }
def ReplicaCheckUptoCardSaid : Prop := Claim7.holds Tryz.pinned (.plain (OpenSpec.upto replicaCheckSpec)) replicaCheckUptoCard

/-- THE SECOND FORM's CARD OF 'langdoclaw50.ReplicaCells'. -/
def replicaCellsUptoCard : Claim7 := { stood := { row := replicaCellsUptoRow, standIns := [], harness := (true, "8e5510f005bc24954d1baba8988cac3f4161f5a1099b0a7567504c42804020e9"), looks := false }, kinds := [], alts := [], laidByText := true, laidKinds := [.data, .data, .pinned], laidTests := true, laidLooks := .later }
def ReplicaCellsUptoCardSaid : Prop := Claim7.holds Tryz.pinned (.plain (OpenSpec.upto replicaCellsSpec)) replicaCellsUptoCard

/-- THE SECOND FORM's CARD OF 'langdoclaw50.ReplicaAdds'. -/
def replicaAddsUptoCard : Claim7 := { stood := { row := replicaAddsUptoRow, standIns := [], harness := (true, "8e5510f005bc24954d1baba8988cac3f4161f5a1099b0a7567504c42804020e9"), looks := false }, kinds := [], alts := [], laidByText := true, laidKinds := [.data, .data, .pinned], laidTests := true, laidLooks := .later }
def ReplicaAddsUptoCardSaid : Prop := Claim7.holds Tryz.pinned (.plain (OpenSpec.upto replicaAddsSpec)) replicaAddsUptoCard

/-- THE SECOND FORM's CARD OF 'langdoclaw50.ReplicaSets'. -/
def replicaSetsUptoCard : Claim7 := { stood := { row := replicaSetsUptoRow, standIns := [], harness := (true, "8e5510f005bc24954d1baba8988cac3f4161f5a1099b0a7567504c42804020e9"), looks := false }, kinds := [], alts := [], laidByText := true, laidKinds := [.data, .data, .pinned], laidTests := true, laidLooks := .later }
def ReplicaSetsUptoCardSaid : Prop := Claim7.holds Tryz.pinned (.plain (OpenSpec.upto replicaSetsSpec)) replicaSetsUptoCard

/-- THE SECOND FORM's CARD OF 'langdoclaw50.ReplicaKeeps'. -/
def replicaKeepsUptoCard : Claim7 := { stood := { row := replicaKeepsUptoRow, standIns := [], harness := (true, "8e5510f005bc24954d1baba8988cac3f4161f5a1099b0a7567504c42804020e9"), looks := false }, kinds := [], alts := [], laidByText := true, laidKinds := [.data, .data, .pinned], laidTests := true, laidLooks := .later }
def ReplicaKeepsUptoCardSaid : Prop := Claim7.holds Tryz.pinned (.plain (OpenSpec.upto replicaKeepsSpec)) replicaKeepsUptoCard

/-- THE SECOND FORM's CARD OF 'langdoclaw50.ReplicaValues'. -/
def replicaValuesUptoCard : Claim7 := { stood := { row := replicaValuesUptoRow, standIns := [], harness := (true, "8e5510f005bc24954d1baba8988cac3f4161f5a1099b0a7567504c42804020e9"), looks := false }, kinds := [], alts := [], laidByText := true, laidKinds := [.data, .data, .pinned], laidTests := true, laidLooks := .later }
def ReplicaValuesUptoCardSaid : Prop := Claim7.holds Tryz.pinned (.plain (OpenSpec.upto replicaValuesSpec)) replicaValuesUptoCard

/-- THE SECOND FORM's CARD OF 'langdoclaw50.ReplicaSaves'. -/
def replicaSavesUptoCard : Claim7 := { stood := { row := replicaSavesUptoRow, standIns := [], harness := (true, "8e5510f005bc24954d1baba8988cac3f4161f5a1099b0a7567504c42804020e9"), looks := false }, kinds := [], alts := [], laidByText := true, laidKinds := [.data, .data, .pinned], laidTests := true, laidLooks := .later }
def ReplicaSavesUptoCardSaid : Prop := Claim7.holds Tryz.pinned (.plain (OpenSpec.upto replicaSavesSpec)) replicaSavesUptoCard

/-- THE SECOND FORM's CARD OF 'langdoclaw50.ReplicaLists'. -/
def replicaListsUptoCard : Claim7 := { stood := { row := replicaListsUptoRow, standIns := [], harness := (true, "8e5510f005bc24954d1baba8988cac3f4161f5a1099b0a7567504c42804020e9"), looks := false }, kinds := [], alts := [], laidByText := true, laidKinds := [.data, .data, .pinned], laidTests := true, laidLooks := .later }
def ReplicaListsUptoCardSaid : Prop := Claim7.holds Tryz.pinned (.plain (OpenSpec.upto replicaListsSpec)) replicaListsUptoCard
end Rows
end Go.Proofs.YtekkpfbjnjjcbaaGreatDoor
