/-
  DERIVED. GIVEN WITH THE SEED: THE CARDS: each row of YtijmnenojbfdnaaGreatDoorRows.lean that lists a variable, with what it lists TIED to the program's text (the seventh form; the later family's looks); each row that meets fmt, with fmt's text TOLD by the authors' own Lean function (tested against real Go, not proved from fmt's source: count such statements apart). THE CARD IS WHAT COUNTS. Prove the row's statement (the work); the ties are given (YtijmnenojbfdnaaGreatDoorTie.lean); close each card by the builder's one call (the guide's Derived/Test/ToyasCard.lean, 'card_holds'). Laid BY PROGRAM, IN A SANDBOX (cutbox-door.mjs). By AI agents, Wed Nov 11 2026. No macro, syntax, notation, axiom, sorry.
-/
import Derived.Test.YtijmnenojbfdnaaGreatDoorRows
import GoSem.ClaimSeven
namespace Go.Proofs.YtijmnenojbfdnaaGreatDoor
namespace Rows

/-- THE TIED CARD OF 'casebooklaw10.ExprValues'. -/
def exprValuesCard : Claim7 := { stood := { row := exprValuesRow, standIns := [], harness := (true, "07873af376192fb4eb76cdc4bbc74083d6908d2beaf88ed596309c53daaa7240"), looks := true }, kinds := [], alts := [], laidByText := true, laidKinds := [.data, .data, .data, .sentinel, .sentinel], laidTests := true, laidLooks := .later }
def ExprValuesCardSaid : Prop := Claim7.holds Tryz.pinned (.plain (OpenSpec.ofChange exprValuesSpec)) exprValuesCard

/-- THE TIED CARD OF 'casebooklaw10.ExprTexts'. -/
def exprTextsCard : Claim7 := { stood := { row := exprTextsRow, standIns := [], harness := (true, "07873af376192fb4eb76cdc4bbc74083d6908d2beaf88ed596309c53daaa7240"), looks := true }, kinds := [], alts := [], laidByText := true, laidKinds := [.data, .data, .data, .sentinel, .sentinel], laidTests := true, laidLooks := .later }
def ExprTextsCardSaid : Prop := Claim7.holds Tryz.pinned (.plain (OpenSpec.ofChange exprTextsSpec)) exprTextsCard

/-- THE TIED CARD OF 'casebooklaw10.ExprModels'. -/
def exprModelsCard : Claim7 := { stood := { row := exprModelsRow, standIns := [], harness := (true, "07873af376192fb4eb76cdc4bbc74083d6908d2beaf88ed596309c53daaa7240"), looks := true }, kinds := [], alts := [], laidByText := true, laidKinds := [.data, .data, .data, .sentinel, .sentinel], laidTests := true, laidLooks := .later }
def ExprModelsCardSaid : Prop := Claim7.holds Tryz.pinned (.plain (OpenSpec.ofChange exprModelsSpec)) exprModelsCard

/-- THE TIED CARD OF 'casebooklaw10.ExprMatters'. -/
def exprMattersCard : Claim7 := { stood := { row := exprMattersRow, standIns := [], harness := (true, "07873af376192fb4eb76cdc4bbc74083d6908d2beaf88ed596309c53daaa7240"), looks := true }, kinds := [], alts := [], laidByText := true, laidKinds := [.data, .data, .data, .sentinel, .sentinel], laidTests := true, laidLooks := .later }
def ExprMattersCardSaid : Prop := Claim7.holds Tryz.pinned (.plain (OpenSpec.ofChange exprMattersSpec)) exprMattersCard

/-- THE TIED CARD OF 'casebooklaw10.ExprReplaces'. -/
def exprReplacesCard : Claim7 := { stood := { row := exprReplacesRow, standIns := [], harness := (true, "07873af376192fb4eb76cdc4bbc74083d6908d2beaf88ed596309c53daaa7240"), looks := true }, kinds := [], alts := [], laidByText := true, laidKinds := [.data, .data, .data, .sentinel, .sentinel], laidTests := true, laidLooks := .later }
def ExprReplacesCardSaid : Prop := Claim7.holds Tryz.pinned (.plain (OpenSpec.ofChange exprReplacesSpec)) exprReplacesCard

/-- THE SECOND FORM's CARD OF 'casebooklaw10.ExprValues'. -/
def exprValuesUptoCard : Claim7 := { stood := { row := exprValuesUptoRow, standIns := [], harness := (true, "07873af376192fb4eb76cdc4bbc74083d6908d2beaf88ed596309c53daaa7240"), looks := true }, kinds := [], alts := [], laidByText := true, laidKinds := [.data, .data, .data, .sentinel, .sentinel], laidTests := true, laidLooks := .later }
def ExprValuesUptoCardSaid : Prop := Claim7.holds Tryz.pinned (.plain (OpenSpec.upto exprValuesSpec)) exprValuesUptoCard

/-- THE SECOND FORM's CARD OF 'casebooklaw10.ExprTexts'. -/
def exprTextsUptoCard : Claim7 := { stood := { row := exprTextsUptoRow, standIns := [], harness := (true, "07873af376192fb4eb76cdc4bbc74083d6908d2beaf88ed596309c53daaa7240"), looks := true }, kinds := [], alts := [], laidByText := true, laidKinds := [.data, .data, .data, .sentinel, .sentinel], laidTests := true, laidLooks := .later }
def ExprTextsUptoCardSaid : Prop := Claim7.holds Tryz.pinned (.plain (OpenSpec.upto exprTextsSpec)) exprTextsUptoCard

/-- THE SECOND FORM's CARD OF 'casebooklaw10.ExprModels'. -/
def exprModelsUptoCard : Claim7 := { stood := { row := exprModelsUptoRow, standIns := [], harness := (true, "07873af376192fb4eb76cdc4bbc74083d6908d2beaf88ed596309c53daaa7240"), looks := true }, kinds := [], alts := [], laidByText := true, laidKinds := [.data, .data, .data, .sentinel, .sentinel], laidTests := true, laidLooks := .later }
def ExprModelsUptoCardSaid : Prop := Claim7.holds Tryz.pinned (.plain (OpenSpec.upto exprModelsSpec)) exprModelsUptoCard

/-- THE SECOND FORM's CARD OF 'casebooklaw10.ExprMatters'. -/
def exprMattersUptoCard : Claim7 := { stood := { row := exprMattersUptoRow, standIns := [], harness := (true, "07873af376192fb4eb76cdc4bbc74083d6908d2beaf88ed596309c53daaa7240"), looks := true }, kinds := [], alts := [], laidByText := true, laidKinds := [.data, .data, .data, .sentinel, .sentinel], laidTests := true, laidLooks := .later }
def ExprMattersUptoCardSaid : Prop := Claim7.holds Tryz.pinned (.plain (OpenSpec.upto exprMattersSpec)) exprMattersUptoCard

/-- THE SECOND FORM's CARD OF 'casebooklaw10.ExprReplaces'. -/
def exprReplacesUptoCard : Claim7 := { stood := { row := exprReplacesUptoRow, standIns := [], harness := (true, "07873af376192fb4eb76cdc4bbc74083d6908d2beaf88ed596309c53daaa7240"), looks := true }, kinds := [], alts := [], laidByText := true, laidKinds := [.data, .data, .data, .sentinel, .sentinel], laidTests := true, laidLooks := .later }
def ExprReplacesUptoCardSaid : Prop := Claim7.holds Tryz.pinned (.plain (OpenSpec.upto exprReplacesSpec)) exprReplacesUptoCard
end Rows
end Go.Proofs.YtijmnenojbfdnaaGreatDoor
