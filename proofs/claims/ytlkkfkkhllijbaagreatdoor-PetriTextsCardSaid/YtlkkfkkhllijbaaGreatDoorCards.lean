/-
  DERIVED. GIVEN WITH THE SEED: THE CARDS: each row of YtlkkfkkhllijbaaGreatDoorRows.lean that lists a variable, with what it lists TIED to the program's text (the seventh form; the later family's looks); each row that meets fmt, with fmt's text TOLD by the authors' own Lean function (tested against real Go, not proved from fmt's source: count such statements apart). THE CARD IS WHAT COUNTS. Prove the row's statement (the work); the ties are given (YtlkkfkkhllijbaaGreatDoorTie.lean); close each card by the builder's one call (the guide's Derived/Test/ToyasCard.lean, 'card_holds'). Laid BY PROGRAM, IN A SANDBOX (cutbox-door.mjs). By AI agents, Wed Nov 11 2026. No macro, syntax, notation, axiom, sorry.
-/
import Derived.Test.YtlkkfkkhllijbaaGreatDoorRows
import GoSem.ClaimSeven
namespace Go.Proofs.YtlkkfkkhllijbaaGreatDoor
namespace Rows

/-- THE TIED CARD OF 'casebooklaw21.PetriTexts'. -/
def petriTextsCard : Claim7 := { stood := { row := petriTextsRow, standIns := [], harness := (true, "6827c35ee8681237a7d14944309eab5f2802cb24eaa3d32d090ec8d04ed96b38"), looks := true }, kinds := [], alts := [], laidByText := true, laidKinds := [.data, .data, .data, .data, .sentinel, .sentinel, .pinned], laidTests := true, laidLooks := .later }
def PetriTextsCardSaid : Prop := Claim7.holds Tryz.pinned (.plain (OpenSpec.ofChange petriTextsSpec)) petriTextsCard

/-- THE SECOND FORM's CARD OF 'casebooklaw21.PetriTexts'. -/
def petriTextsUptoCard : Claim7 := { stood := { row := petriTextsUptoRow, standIns := [], harness := (true, "6827c35ee8681237a7d14944309eab5f2802cb24eaa3d32d090ec8d04ed96b38"), looks := true }, kinds := [], alts := [], laidByText := true, laidKinds := [.data, .data, .data, .data, .sentinel, .sentinel, .pinned], laidTests := true, laidLooks := .later }
def PetriTextsUptoCardSaid : Prop := Claim7.holds Tryz.pinned (.plain (OpenSpec.upto petriTextsSpec)) petriTextsUptoCard
end Rows
end Go.Proofs.YtlkkfkkhllijbaaGreatDoor
