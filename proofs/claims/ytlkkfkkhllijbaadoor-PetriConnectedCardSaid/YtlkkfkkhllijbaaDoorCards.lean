/-
  DERIVED. GIVEN WITH THE SEED: THE CARDS: each row of YtlkkfkkhllijbaaDoorRows.lean that lists a variable, with what it lists TIED to the program's text (the seventh form; the later family's looks); each row that meets fmt, with fmt's text TOLD by the authors' own Lean function (tested against real Go, not proved from fmt's source: count such statements apart). THE CARD IS WHAT COUNTS. Prove the row's statement (the work); the ties are given (YtlkkfkkhllijbaaDoorTie.lean); close each card by the builder's one call (the guide's Derived/Test/ToyasCard.lean, 'card_holds'). Laid BY PROGRAM, IN A SANDBOX (cutbox-door.mjs). By AI agents, Wed Nov 11 2026. No macro, syntax, notation, axiom, sorry.
-/
import Derived.Test.YtlkkfkkhllijbaaDoorRows
import GoSem.ClaimSeven
namespace Go.Proofs.YtlkkfkkhllijbaaDoor
namespace Rows

/-- THE TIED CARD OF 'casebooklaw21.PetriConnected'. -/
def petriConnectedCard : Claim7 := { stood := { row := petriConnectedRow, standIns := [], harness := (true, "6bb9eed7719b5e136bd4f482fc80cdbe28e23462db813ee54a5b0739eaad5b5f"), looks := false }, kinds := [], alts := [], laidByText := true, laidKinds := [.data, .data, .data], laidTests := true, laidLooks := .later }
def PetriConnectedCardSaid : Prop := Claim7.holds Tryd.pinned (.plain (OpenSpec.ofChange petriConnectedSpec)) petriConnectedCard

/-- THE SECOND FORM's CARD OF 'casebooklaw21.PetriConnected'. -/
def petriConnectedUptoCard : Claim7 := { stood := { row := petriConnectedUptoRow, standIns := [], harness := (true, "6bb9eed7719b5e136bd4f482fc80cdbe28e23462db813ee54a5b0739eaad5b5f"), looks := false }, kinds := [], alts := [], laidByText := true, laidKinds := [.data, .data, .data], laidTests := true, laidLooks := .later }
def PetriConnectedUptoCardSaid : Prop := Claim7.holds Tryd.pinned (.plain (OpenSpec.upto petriConnectedSpec)) petriConnectedUptoCard
end Rows
end Go.Proofs.YtlkkfkkhllijbaaDoor
