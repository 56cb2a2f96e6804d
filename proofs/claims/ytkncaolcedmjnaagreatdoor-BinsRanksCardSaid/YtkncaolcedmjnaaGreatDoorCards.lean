/-
  DERIVED. GIVEN WITH THE SEED: THE CARDS: each row of YtkncaolcedmjnaaGreatDoorRows.lean that lists a variable, with what it lists TIED to the program's text (the seventh form; the later family's looks); each row that meets fmt, with fmt's text TOLD by the authors' own Lean function (tested against real Go, not proved from fmt's source: count such statements apart). THE CARD IS WHAT COUNTS. Prove the row's statement (the work); the ties are given (YtkncaolcedmjnaaGreatDoorTie.lean); close each card by the builder's one call (the guide's Derived/Test/ToyasCard.lean, 'card_holds'). Laid BY PROGRAM, IN A SANDBOX (cutbox-door.mjs). By AI agents, Wed Nov 11 2026. No macro, syntax, notation, axiom, sorry.
-/
import Derived.Test.YtkncaolcedmjnaaGreatDoorRows
import GoSem.ClaimSeven
namespace Go.Proofs.YtkncaolcedmjnaaGreatDoor
namespace Rows

/-- THE TIED CARD OF 'thicketlaw28.PatchOwn'. -/
def patchOwnCard : Claim7 := { stood := { row := patchOwnRow, standIns := [], harness := (true, "439ef2379e991a4d4960b462bcea0e62e3df6ed3487d9436990d96f0701b074a"), looks := false }, kinds := [], alts := [], laidByText := true, laidKinds := [.data, .data, .data, .data], laidTests := true, laidLooks := .later }
def PatchOwnCardSaid : Prop := Claim7.holds Tryz.pinned (.plain (OpenSpec.ofChange patchOwnSpec)) patchOwnCard

/-- THE TIED CARD OF 'thicketlaw22.SlimOwn'. -/
def slimOwnCard : Claim7 := { stood := { row := slimOwnRow, standIns := [], harness := (true, "439ef2379e991a4d4960b462bcea0e62e3df6ed3487d9436990d96f0701b074a"), looks := false }, kinds := [], alts := [], laidByText := true, laidKinds := [.data], laidTests := true, laidLooks := .later }
def SlimOwnCardSaid : Prop := Claim7.holds Tryz.pinned (.plain (OpenSpec.ofChange slimOwnSpec)) slimOwnCard

/-- THE TIED CARD OF 'thicketlaw22.SlimModels'. -/
def slimModelsCard : Claim7 := { stood := { row := slimModelsRow, standIns := [], harness := (true, "439ef2379e991a4d4960b462bcea0e62e3df6ed3487d9436990d96f0701b074a"), looks := false }, kinds := [], alts := [], laidByText := true, laidKinds := [.data], laidTests := true, laidLooks := .later }
def SlimModelsCardSaid : Prop := Claim7.holds Tryz.pinned (.plain (OpenSpec.ofChange slimModelsSpec)) slimModelsCard

/-- THE TIED CARD OF 'thicketlaw22.SlimTwice'. -/
def slimTwiceCard : Claim7 := { stood := { row := slimTwiceRow, standIns := [], harness := (true, "439ef2379e991a4d4960b462bcea0e62e3df6ed3487d9436990d96f0701b074a"), looks := false }, kinds := [], alts := [], laidByText := true, laidKinds := [.data], laidTests := true, laidLooks := .later }
def SlimTwiceCardSaid : Prop := Claim7.holds Tryz.pinned (.plain (OpenSpec.ofChange slimTwiceSpec)) slimTwiceCard

/-- THE TIED CARD OF 'thicketlaw22.SlimScores'. -/
def slimScoresCard : Claim7 := { stood := { row := slimScoresRow, standIns := [], harness := (true, "439ef2379e991a4d4960b462bcea0e62e3df6ed3487d9436990d96f0701b074a"), looks := false }, kinds := [], alts := [], laidByText := true, laidKinds := [.data], laidTests := true, laidLooks := .later }
def SlimScoresCardSaid : Prop := Claim7.holds Tryz.pinned (.plain (OpenSpec.ofChange slimScoresSpec)) slimScoresCard

/-- THE TIED CARD OF 'thicketlaw20.BinsRanks'. -/
def binsRanksCard : Claim7 := { stood := { row := binsRanksRow, standIns := [], harness := (true, "439ef2379e991a4d4960b462bcea0e62e3df6ed3487d9436990d96f0701b074a"), looks := false }, kinds := [], alts := [], laidByText := true, laidKinds := [.data, .data, .data, .data], laidTests := true, laidLooks := .later }
def BinsRanksCardSaid : Prop := Claim7.holds Tryz.pinned (.plain (OpenSpec.ofChange binsRanksSpec)) binsRanksCard

/-- THE TIED CARD OF 'thicketlaw23.CellsEnough'. -/
def cellsEnoughCard : Claim7 := { stood := { row := cellsEnoughRow, standIns := [], harness := (true, "439ef2379e991a4d4960b462bcea0e62e3df6ed3487d9436990d96f0701b074a"), looks := false }, kinds := [], alts := [], laidByText := true, laidKinds := [.data], laidTests := true, laidLooks := .later }
def CellsEnoughCardSaid : Prop := Claim7.holds Tryz.pinned (.plain (OpenSpec.ofChange cellsEnoughSpec)) cellsEnoughCard

/-- THE TIED CARD OF 'thicketlaw23.CellsNested'. -/
def cellsNestedCard : Claim7 := { stood := { row := cellsNestedRow, standIns := [], harness := (true, "439ef2379e991a4d4960b462bcea0e62e3df6ed3487d9436990d96f0701b074a"), looks := false }, kinds := [], alts := [], laidByText := true, laidKinds := [.data], laidTests := true, laidLooks := .later }
def CellsNestedCardSaid : Prop := Claim7.holds Tryz.pinned (.plain (OpenSpec.ofChange cellsNestedSpec)) cellsNestedCard

/-- THE SECOND FORM's CARD OF 'thicketlaw28.PatchOwn'. -/
def patchOwnUptoCard : Claim7 := { stood := { row := patchOwnUptoRow, standIns := [], harness := (true, "439ef2379e991a4d4960b462bcea0e62e3df6ed3487d9436990d96f0701b074a"), looks := false }, kinds := [], alts := [], laidByText := true, laidKinds := [.data, .data, .data, .data], laidTests := true, laidLooks := .later }
def PatchOwnUptoCardSaid : Prop := Claim7.holds Tryz.pinned (.plain (OpenSpec.upto patchOwnSpec)) patchOwnUptoCard

/-- THE SECOND FORM's CARD OF 'thicketlaw22.SlimOwn'. -/
def slimOwnUptoCard : Claim7 := { stood := { row := slimOwnUptoRow, standIns := [], harness := (true, "439ef2379e991a4d4960b462bcea0e62e3df6ed3487d9436990d96f0701b074a"), looks := false }, kinds := [], alts := [], laidByText := true, laidKinds := [.data], laidTests := true, laidLooks := .later }
def SlimOwnUptoCardSaid : Prop := Claim7.holds Tryz.pinned (.plain (OpenSpec.upto slimOwnSpec)) slimOwnUptoCard

/-- THE SECOND FORM's CARD OF 'thicketlaw22.SlimModels'. -/
def slimModelsUptoCard : Claim7 := { stood := { row := slimModelsUptoRow, standIns := [], harness := (true, "439ef2379e991a4d4960b462bcea0e62e3df6ed3487d9436990d96f0701b074a"), looks := false }, kinds := [], alts := [], laidByText := true, laidKinds := [.data], laidTests := true, laidLooks := .later }
def SlimModelsUptoCardSaid : Prop := Claim7.holds Tryz.pinned (.plain (OpenSpec.upto slimModelsSpec)) slimModelsUptoCard

/-- THE SECOND FORM's CARD OF 'thicketlaw22.SlimTwice'. -/
def slimTwiceUptoCard : Claim7 := { stood := { row := slimTwiceUptoRow, standIns := [], harness := (true, "439ef2379e991a4d4960b462bcea0e62e3df6ed3487d9436990d96f0701b074a"), looks := false }, kinds := [], alts := [], laidByText := true, laidKinds := [.data], laidTests := true, laidLooks := .later }
def SlimTwiceUptoCardSaid : Prop := Claim7.holds Tryz.pinned (.plain (OpenSpec.upto slimTwiceSpec)) slimTwiceUptoCard

/-- THE SECOND FORM's CARD OF 'thicketlaw22.SlimScores'. -/
def slimScoresUptoCard : Claim7 := { stood := { row := slimScoresUptoRow, standIns := [], harness := (true, "439ef2379e991a4d4960b462bcea0e62e3df6ed3487d9436990d96f0701b074a"), looks := false }, kinds := [], alts := [], laidByText := true, laidKinds := [.data], laidTests := true, laidLooks := .later }
def SlimScoresUptoCardSaid : Prop := Claim7.holds Tryz.pinned (.plain (OpenSpec.upto slimScoresSpec)) slimScoresUptoCard

/-- THE SECOND FORM's CARD OF 'thicketlaw20.BinsRanks'. -/
def binsRanksUptoCard : Claim7 := { stood := { row := binsRanksUptoRow, standIns := [], harness := (true, "439ef2379e991a4d4960b462bcea0e62e3df6ed3487d9436990d96f0701b074a"), looks := false }, kinds := [], alts := [], laidByText := true, laidKinds := [.data, .data, .data, .data], laidTests := true, laidLooks := .later }
def BinsRanksUptoCardSaid : Prop := Claim7.holds Tryz.pinned (.plain (OpenSpec.upto binsRanksSpec)) binsRanksUptoCard

/-- THE SECOND FORM's CARD OF 'thicketlaw23.CellsEnough'. -/
def cellsEnoughUptoCard : Claim7 := { stood := { row := cellsEnoughUptoRow, standIns := [], harness := (true, "439ef2379e991a4d4960b462bcea0e62e3df6ed3487d9436990d96f0701b074a"), looks := false }, kinds := [], alts := [], laidByText := true, laidKinds := [.data], laidTests := true, laidLooks := .later }
def CellsEnoughUptoCardSaid : Prop := Claim7.holds Tryz.pinned (.plain (OpenSpec.upto cellsEnoughSpec)) cellsEnoughUptoCard

/-- THE SECOND FORM's CARD OF 'thicketlaw23.CellsNested'. -/
def cellsNestedUptoCard : Claim7 := { stood := { row := cellsNestedUptoRow, standIns := [], harness := (true, "439ef2379e991a4d4960b462bcea0e62e3df6ed3487d9436990d96f0701b074a"), looks := false }, kinds := [], alts := [], laidByText := true, laidKinds := [.data], laidTests := true, laidLooks := .later }
def CellsNestedUptoCardSaid : Prop := Claim7.holds Tryz.pinned (.plain (OpenSpec.upto cellsNestedSpec)) cellsNestedUptoCard
end Rows
end Go.Proofs.YtkncaolcedmjnaaGreatDoor
