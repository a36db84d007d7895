/-
  DERIVED. GIVEN WITH THE SEED: THE CARDS: each row of YtlmenhjlgmejkaaGreatDoorRows.lean that lists a variable, with what it lists TIED to the program's text (the seventh form; the later family's looks); each row that meets fmt, with fmt's text TOLD by the authors' own Lean function (tested against real Go, not proved from fmt's source: count such statements apart). THE CARD IS WHAT COUNTS. Prove the row's statement (the work); the ties are given (YtlmenhjlgmejkaaGreatDoorTie.lean); close each card by the builder's one call (the guide's Derived/Test/ToyasCard.lean, 'card_holds'). Laid BY PROGRAM, IN A SANDBOX (cutbox-door.mjs). By AI agents, Wed Nov 11 2026. No macro, syntax, notation, axiom, sorry.
-/
import Derived.Test.YtlmenhjlgmejkaaGreatDoorRows
import GoSem.ClaimSeven
namespace Go.Proofs.YtlmenhjlgmejkaaGreatDoor
namespace Rows

/-- THE TIED CARD OF 'casebooklaw30.DataRuns'. -/
def dataRunsCard : Claim7 := { stood := { row := dataRunsRow, standIns := [], harness := (true, "7da35a5b66337e9fd91d600d09da184b0253285a5cca41205b9a0d760713dffb"), looks := false }, kinds := [], alts := [], laidByText := true, laidKinds := [.data, .data, .data], laidTests := true, laidLooks := .later }
def DataRunsCardSaid : Prop := Claim7.holds Tryz.pinned (.plain (OpenSpec.ofChange dataRunsSpec)) dataRunsCard

/-- THE TIED CARD OF 'casebooklaw30.DataExplores'. -/
def dataExploresCard : Claim7 := { stood := { row := dataExploresRow, standIns := [], harness := (true, "7da35a5b66337e9fd91d600d09da184b0253285a5cca41205b9a0d760713dffb"), looks := false }, kinds := [], alts := [], laidByText := true, laidKinds := [.data, .data, .data], laidTests := true, laidLooks := .later }
def DataExploresCardSaid : Prop := Claim7.holds Tryz.pinned (.plain (OpenSpec.ofChange dataExploresSpec)) dataExploresCard

/-- THE TIED CARD OF 'casebooklaw30.DataWitness'. -/
def dataWitnessCard : Claim7 := { stood := { row := dataWitnessRow, standIns := [], harness := (true, "7da35a5b66337e9fd91d600d09da184b0253285a5cca41205b9a0d760713dffb"), looks := false }, kinds := [], alts := [], laidByText := true, laidKinds := [.data, .data, .data], laidTests := true, laidLooks := .later }
def DataWitnessCardSaid : Prop := Claim7.holds Tryz.pinned (.plain (OpenSpec.ofChange dataWitnessSpec)) dataWitnessCard

/-- THE TIED CARD OF 'casebooklaw30.DataGuards'. -/
def dataGuardsCard : Claim7 := { stood := { row := dataGuardsRow, standIns := [], harness := (true, "7da35a5b66337e9fd91d600d09da184b0253285a5cca41205b9a0d760713dffb"), looks := false }, kinds := [], alts := [], laidByText := true, laidKinds := [.data, .data, .data], laidTests := true, laidLooks := .later }
def DataGuardsCardSaid : Prop := Claim7.holds Tryz.pinned (.plain (OpenSpec.ofChange dataGuardsSpec)) dataGuardsCard

/-- THE TIED CARD OF 'casebooklaw30.DataSound'. -/
def dataSoundCard : Claim7 := { stood := { row := dataSoundRow, standIns := [], harness := (true, "7da35a5b66337e9fd91d600d09da184b0253285a5cca41205b9a0d760713dffb"), looks := false }, kinds := [], alts := [], laidByText := true, laidKinds := [.data, .data, .data], laidTests := true, laidLooks := .later }
def DataSoundCardSaid : Prop := Claim7.holds Tryz.pinned (.plain (OpenSpec.ofChange dataSoundSpec)) dataSoundCard

/-- THE TIED CARD OF 'casebooklaw30.DataFires'. -/
def dataFiresCard : Claim7 := { stood := { row := dataFiresRow, standIns := [], harness := (true, "7da35a5b66337e9fd91d600d09da184b0253285a5cca41205b9a0d760713dffb"), looks := false }, kinds := [], alts := [], laidByText := true, laidKinds := [.data, .data, .data], laidTests := true, laidLooks := .later }
def DataFiresCardSaid : Prop := Claim7.holds Tryz.pinned (.plain (OpenSpec.ofChange dataFiresSpec)) dataFiresCard

/-- THE TIED CARD OF 'casebooklaw30.DataInside'. -/
def dataInsideCard : Claim7 := { stood := { row := dataInsideRow, standIns := [], harness := (true, "7da35a5b66337e9fd91d600d09da184b0253285a5cca41205b9a0d760713dffb"), looks := false }, kinds := [], alts := [], laidByText := true, laidKinds := [.data, .data, .data], laidTests := true, laidLooks := .later }
def DataInsideCardSaid : Prop := Claim7.holds Tryz.pinned (.plain (OpenSpec.ofChange dataInsideSpec)) dataInsideCard

/-- THE TIED CARD OF 'casebooklaw30.DataPlain'. -/
def dataPlainCard : Claim7 := { stood := { row := dataPlainRow, standIns := [], harness := (true, "7da35a5b66337e9fd91d600d09da184b0253285a5cca41205b9a0d760713dffb"), looks := false }, kinds := [], alts := [], laidByText := true, laidKinds := [.data, .data, .data], laidTests := true, laidLooks := .later }
def DataPlainCardSaid : Prop := Claim7.holds Tryz.pinned (.plain (OpenSpec.ofChange dataPlainSpec)) dataPlainCard

/-- THE SECOND FORM's CARD OF 'casebooklaw30.DataRuns'. -/
def dataRunsUptoCard : Claim7 := { stood := { row := dataRunsUptoRow, standIns := [], harness := (true, "7da35a5b66337e9fd91d600d09da184b0253285a5cca41205b9a0d760713dffb"), looks := false }, kinds := [], alts := [], laidByText := true, laidKinds := [.data, .data, .data], laidTests := true, laidLooks := .later }
def DataRunsUptoCardSaid : Prop := Claim7.holds Tryz.pinned (.plain (OpenSpec.upto dataRunsSpec)) dataRunsUptoCard

/-- THE SECOND FORM's CARD OF 'casebooklaw30.DataExplores'. -/
def dataExploresUptoCard : Claim7 := { stood := { row := dataExploresUptoRow, standIns := [], harness := (true, "7da35a5b66337e9fd91d600d09da184b0253285a5cca41205b9a0d760713dffb"), looks := false }, kinds := [], alts := [], laidByText := true, laidKinds := [.data, .data, .data], laidTests := true, laidLooks := .later }
def DataExploresUptoCardSaid : Prop := Claim7.holds Tryz.pinned (.plain (OpenSpec.upto dataExploresSpec)) dataExploresUptoCard

/-- THE SECOND FORM's CARD OF 'casebooklaw30.DataWitness'. -/
def dataWitnessUptoCard : Claim7 := { stood := { row := dataWitnessUptoRow, standIns := [], harness := (true, "7da35a5b66337e9fd91d600d09da184b0253285a5cca41205b9a0d760713dffb"), looks := false }, kinds := [], alts := [], laidByText := true, laidKinds := [.data, .data, .data], laidTests := true, laidLooks := .later }
def DataWitnessUptoCardSaid : Prop := Claim7.holds Tryz.pinned (.plain (OpenSpec.upto dataWitnessSpec)) dataWitnessUptoCard

/-- THE SECOND FORM's CARD OF 'casebooklaw30.DataGuards'. -/
def dataGuardsUptoCard : Claim7 := { stood := { row := dataGuardsUptoRow, standIns := [], harness := (true, "7da35a5b66337e9fd91d600d09da184b0253285a5cca41205b9a0d760713dffb"), looks := false }, kinds := [], alts := [], laidByText := true, laidKinds := [.data, .data, .data], laidTests := true, laidLooks := .later }
def DataGuardsUptoCardSaid : Prop := Claim7.holds Tryz.pinned (.plain (OpenSpec.upto dataGuardsSpec)) dataGuardsUptoCard

/-- THE SECOND FORM's CARD OF 'casebooklaw30.DataSound'. -/
def dataSoundUptoCard : Claim7 := { stood := { row := dataSoundUptoRow, standIns := [], harness := (true, "7da35a5b66337e9fd91d600d09da184b0253285a5cca41205b9a0d760713dffb"), looks := false }, kinds := [], alts := [], laidByText := true, laidKinds := [.data, .data, .data], laidTests := true, laidLooks := .later }
def DataSoundUptoCardSaid : Prop := Claim7.holds Tryz.pinned (.plain (OpenSpec.upto dataSoundSpec)) dataSoundUptoCard

/-- THE SECOND FORM's CARD OF 'casebooklaw30.DataFires'. -/
def dataFiresUptoCard : Claim7 := { stood := { row := dataFiresUptoRow, standIns := [], harness := (true, "7da35a5b66337e9fd91d600d09da184b0253285a5cca41205b9a0d760713dffb"), looks := false }, kinds := [], alts := [], laidByText := true, laidKinds := [.data, .data, .data], laidTests := true, laidLooks := .later }
def DataFiresUptoCardSaid : Prop := Claim7.holds Tryz.pinned (.plain (OpenSpec.upto dataFiresSpec)) dataFiresUptoCard

/-- THE SECOND FORM's CARD OF 'casebooklaw30.DataInside'. -/
def dataInsideUptoCard : Claim7 := { stood := { row := dataInsideUptoRow, standIns := [], harness := (true, "7da35a5b66337e9fd91d600d09da184b0253285a5cca41205b9a0d760713dffb"), looks := false }, kinds := [], alts := [], laidByText := true, laidKinds := [.data, .data, .data], laidTests := true, laidLooks := .later }
def DataInsideUptoCardSaid : Prop := Claim7.holds Tryz.pinned (.plain (OpenSpec.upto dataInsideSpec)) dataInsideUptoCard

/-- THE SECOND FORM's CARD OF 'casebooklaw30.DataPlain'. -/
def dataPlainUptoCard : Claim7 := { stood := { row := dataPlainUptoRow, standIns := [], harness := (true, "7da35a5b66337e9fd91d600d09da184b0253285a5cca41205b9a0d760713dffb"), looks := false }, kinds := [], alts := [], laidByText := true, laidKinds := [.data, .data, .data], laidTests := true, laidLooks := .later }
def DataPlainUptoCardSaid : Prop := Claim7.holds Tryz.pinned (.plain (OpenSpec.upto dataPlainSpec)) dataPlainUptoCard
end Rows
end Go.Proofs.YtlmenhjlgmejkaaGreatDoor
