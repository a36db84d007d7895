/-
  DERIVED. GIVEN WITH THE SEED: THE CARDS: each row of YtchfmjociflgfaaGreatDoorRows.lean that lists a variable, with what it lists TIED to the program's text (the seventh form; the later family's looks); each row that meets fmt, with fmt's text TOLD by the authors' own Lean function (tested against real Go, not proved from fmt's source: count such statements apart). THE CARD IS WHAT COUNTS. Prove the row's statement (the work); the ties are given (YtchfmjociflgfaaGreatDoorTie.lean); close each card by the builder's one call (the guide's Derived/Test/ToyasCard.lean, 'card_holds'). Laid BY PROGRAM, IN A SANDBOX (cutbox-door.mjs). By AI agents, Wed Nov 11 2026. No macro, syntax, notation, axiom, sorry.
-/
import Derived.Test.YtchfmjociflgfaaGreatDoorRows
import GoSem.ClaimSeven
namespace Go.Proofs.YtchfmjociflgfaaGreatDoor
namespace Rows

/-- THE TIED CARD OF 'casebooklaw09.ValueForms'. -/
def valueFormsCard : Claim7 := { stood := { row := valueFormsRow, standIns := [], harness := (true, "1c182dab5151805d0616a213331fdf180f8f8ab9c91e068391191b87251ffa21"), looks := true }, kinds := [], alts := [], laidByText := true, laidKinds := [.data, .data, .data, .sentinel, .sentinel], laidTests := true, laidLooks := .later }
def ValueFormsCardSaid : Prop := Claim7.holds Tryz.pinned (.plain (OpenSpec.ofChange valueFormsSpec)) valueFormsCard

/-- THE TIED CARD OF 'casebooklaw09.ValueTexts'. -/
def valueTextsCard : Claim7 := { stood := { row := valueTextsRow, standIns := [], harness := (true, "1c182dab5151805d0616a213331fdf180f8f8ab9c91e068391191b87251ffa21"), looks := true }, kinds := [], alts := [], laidByText := true, laidKinds := [.data, .data, .data, .sentinel, .sentinel], laidTests := true, laidLooks := .later }
def ValueTextsCardSaid : Prop := Claim7.holds Tryz.pinned (.plain (OpenSpec.ofChange valueTextsSpec)) valueTextsCard

/-- THE TIED CARD OF 'casebooklaw09.ValueSteps'. -/
def valueStepsCard : Claim7 := { stood := { row := valueStepsRow, standIns := [], harness := (true, "1c182dab5151805d0616a213331fdf180f8f8ab9c91e068391191b87251ffa21"), looks := true }, kinds := [], alts := [], laidByText := true, laidKinds := [.data, .data, .data, .sentinel, .sentinel], laidTests := true, laidLooks := .later }
def ValueStepsCardSaid : Prop := Claim7.holds Tryz.pinned (.plain (OpenSpec.ofChange valueStepsSpec)) valueStepsCard

/-- THE TIED CARD OF 'casebooklaw09.ValueDomains'. -/
def valueDomainsCard : Claim7 := { stood := { row := valueDomainsRow, standIns := [], harness := (true, "1c182dab5151805d0616a213331fdf180f8f8ab9c91e068391191b87251ffa21"), looks := true }, kinds := [], alts := [], laidByText := true, laidKinds := [.data, .data, .data, .sentinel, .sentinel], laidTests := true, laidLooks := .later }
def ValueDomainsCardSaid : Prop := Claim7.holds Tryz.pinned (.plain (OpenSpec.ofChange valueDomainsSpec)) valueDomainsCard

/-- THE TIED CARD OF 'casebooklaw09.ValuePlaces'. -/
def valuePlacesCard : Claim7 := { stood := { row := valuePlacesRow, standIns := [], harness := (true, "1c182dab5151805d0616a213331fdf180f8f8ab9c91e068391191b87251ffa21"), looks := true }, kinds := [], alts := [], laidByText := true, laidKinds := [.data, .data, .data, .sentinel, .sentinel], laidTests := true, laidLooks := .later }
def ValuePlacesCardSaid : Prop := Claim7.holds Tryz.pinned (.plain (OpenSpec.ofChange valuePlacesSpec)) valuePlacesCard

/-- THE TIED CARD OF 'casebooklaw09.ValueOrder'. -/
def valueOrderCard : Claim7 := { stood := { row := valueOrderRow, standIns := [], harness := (true, "1c182dab5151805d0616a213331fdf180f8f8ab9c91e068391191b87251ffa21"), looks := true }, kinds := [], alts := [], laidByText := true, laidKinds := [.data, .data, .data, .sentinel, .sentinel], laidTests := true, laidLooks := .later }
def ValueOrderCardSaid : Prop := Claim7.holds Tryz.pinned (.plain (OpenSpec.ofChange valueOrderSpec)) valueOrderCard

/-- THE SECOND FORM's CARD OF 'casebooklaw09.ValueForms'. -/
def valueFormsUptoCard : Claim7 := { stood := { row := valueFormsUptoRow, standIns := [], harness := (true, "1c182dab5151805d0616a213331fdf180f8f8ab9c91e068391191b87251ffa21"), looks := true }, kinds := [], alts := [], laidByText := true, laidKinds := [.data, .data, .data, .sentinel, .sentinel], laidTests := true, laidLooks := .later }
def ValueFormsUptoCardSaid : Prop := Claim7.holds Tryz.pinned (.plain (OpenSpec.upto valueFormsSpec)) valueFormsUptoCard

/-- THE SECOND FORM's CARD OF 'casebooklaw09.ValueTexts'. -/
def valueTextsUptoCard : Claim7 := { stood := { row := valueTextsUptoRow, standIns := [], harness := (true, "1c182dab5151805d0616a213331fdf180f8f8ab9c91e068391191b87251ffa21"), looks := true }, kinds := [], alts := [], laidByText := true, laidKinds := [.data, .data, .data, .sentinel, .sentinel], laidTests := true, laidLooks := .later }
def ValueTextsUptoCardSaid : Prop := Claim7.holds Tryz.pinned (.plain (OpenSpec.upto valueTextsSpec)) valueTextsUptoCard

/-- THE SECOND FORM's CARD OF 'casebooklaw09.ValueSteps'. -/
def valueStepsUptoCard : Claim7 := { stood := { row := valueStepsUptoRow, standIns := [], harness := (true, "1c182dab5151805d0616a213331fdf180f8f8ab9c91e068391191b87251ffa21"), looks := true }, kinds := [], alts := [], laidByText := true, laidKinds := [.data, .data, .data, .sentinel, .sentinel], laidTests := true, laidLooks := .later }
def ValueStepsUptoCardSaid : Prop := Claim7.holds Tryz.pinned (.plain (OpenSpec.upto valueStepsSpec)) valueStepsUptoCard

/-- THE SECOND FORM's CARD OF 'casebooklaw09.ValueDomains'. -/
def valueDomainsUptoCard : Claim7 := { stood := { row := valueDomainsUptoRow, standIns := [], harness := (true, "1c182dab5151805d0616a213331fdf180f8f8ab9c91e068391191b87251ffa21"), looks := true }, kinds := [], alts := [], laidByText := true, laidKinds := [.data, .data, .data, .sentinel, .sentinel], laidTests := true, laidLooks := .later }
def ValueDomainsUptoCardSaid : Prop := Claim7.holds Tryz.pinned (.plain (OpenSpec.upto valueDomainsSpec)) valueDomainsUptoCard

/-- THE SECOND FORM's CARD OF 'casebooklaw09.ValuePlaces'. -/
def valuePlacesUptoCard : Claim7 := { stood := { row := valuePlacesUptoRow, standIns := [], harness := (true, "1c182dab5151805d0616a213331fdf180f8f8ab9c91e068391191b87251ffa21"), looks := true }, kinds := [], alts := [], laidByText := true, laidKinds := [.data, .data, .data, .sentinel, .sentinel], laidTests := true, laidLooks := .later }
def ValuePlacesUptoCardSaid : Prop := Claim7.holds Tryz.pinned (.plain (OpenSpec.upto valuePlacesSpec)) valuePlacesUptoCard

/-- THE SECOND FORM's CARD OF 'casebooklaw09.ValueOrder'. -/
def valueOrderUptoCard : Claim7 := { stood := { row := valueOrderUptoRow, standIns := [], harness := (true, "1c182dab5151805d0616a213331fdf180f8f8ab9c91e068391191b87251ffa21"), looks := true }, kinds := [], alts := [], laidByText := true, laidKinds := [.data, .data, .data, .sentinel, .sentinel], laidTests := true, laidLooks := .later }
def ValueOrderUptoCardSaid : Prop := Claim7.holds Tryz.pinned (.plain (OpenSpec.upto valueOrderSpec)) valueOrderUptoCard
end Rows
end Go.Proofs.YtchfmjociflgfaaGreatDoor
