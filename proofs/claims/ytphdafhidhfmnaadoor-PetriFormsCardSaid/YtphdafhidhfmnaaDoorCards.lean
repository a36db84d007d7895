/-
  DERIVED. GIVEN WITH THE SEED: THE CARDS: each row of YtphdafhidhfmnaaDoorRows.lean that lists a variable, with what it lists TIED to the program's text (the seventh form; the later family's looks); each row that meets fmt, with fmt's text TOLD by the authors' own Lean function (tested against real Go, not proved from fmt's source: count such statements apart). THE CARD IS WHAT COUNTS. Prove the row's statement (the work); the ties are given (YtphdafhidhfmnaaDoorTie.lean); close each card by the builder's one call (the guide's Derived/Test/ToyasCard.lean, 'card_holds'). Laid BY PROGRAM, IN A SANDBOX (cutbox-door.mjs). By AI agents, Wed Nov 11 2026. No macro, syntax, notation, axiom, sorry.
-/
import Derived.Test.YtphdafhidhfmnaaDoorRows
import GoSem.ClaimSeven
namespace Go.Proofs.YtphdafhidhfmnaaDoor
namespace Rows

/-- THE TIED CARD OF 'casebooklaw21.PetriRuns'. -/
def petriRunsCard : Claim7 := { stood := { row := petriRunsRow, standIns := [], harness := (true, "b4846db1e60d4976a41dcf80aca7b6d0ef1c26bccb5a1ce462e0463ee36cee20"), looks := false }, kinds := [], alts := [], laidByText := true, laidKinds := [.data, .data, .data], laidTests := true, laidLooks := .later }
def PetriRunsCardSaid : Prop := Claim7.holds Tryd.pinned (.plain (OpenSpec.ofChange petriRunsSpec)) petriRunsCard

/-- THE TIED CARD OF 'casebooklaw21.PetriMore'. -/
def petriMoreCard : Claim7 := { stood := { row := petriMoreRow, standIns := [], harness := (true, "b4846db1e60d4976a41dcf80aca7b6d0ef1c26bccb5a1ce462e0463ee36cee20"), looks := false }, kinds := [], alts := [], laidByText := true, laidKinds := [.data, .data, .data], laidTests := true, laidLooks := .later }
def PetriMoreCardSaid : Prop := Claim7.holds Tryd.pinned (.plain (OpenSpec.ofChange petriMoreSpec)) petriMoreCard

/-- THE TIED CARD OF 'casebooklaw21.PetriBack'. -/
def petriBackCard : Claim7 := { stood := { row := petriBackRow, standIns := [], harness := (true, "b4846db1e60d4976a41dcf80aca7b6d0ef1c26bccb5a1ce462e0463ee36cee20"), looks := false }, kinds := [], alts := [], laidByText := true, laidKinds := [.data, .data, .data], laidTests := true, laidLooks := .later }
def PetriBackCardSaid : Prop := Claim7.holds Tryd.pinned (.plain (OpenSpec.ofChange petriBackSpec)) petriBackCard

/-- THE TIED CARD OF 'casebooklaw21.PetriFires'. -/
def petriFiresCard : Claim7 := { stood := { row := petriFiresRow, standIns := [], harness := (true, "b4846db1e60d4976a41dcf80aca7b6d0ef1c26bccb5a1ce462e0463ee36cee20"), looks := false }, kinds := [], alts := [], laidByText := true, laidKinds := [.data, .data, .data], laidTests := true, laidLooks := .later }
def PetriFiresCardSaid : Prop := Claim7.holds Tryd.pinned (.plain (OpenSpec.ofChange petriFiresSpec)) petriFiresCard

/-- THE TIED CARD OF 'casebooklaw21.PetriMatrices'. -/
def petriMatricesCard : Claim7 := { stood := { row := petriMatricesRow, standIns := [], harness := (true, "b4846db1e60d4976a41dcf80aca7b6d0ef1c26bccb5a1ce462e0463ee36cee20"), looks := false }, kinds := [], alts := [], laidByText := true, laidKinds := [.data, .data, .data], laidTests := true, laidLooks := .later }
def PetriMatricesCardSaid : Prop := Claim7.holds Tryd.pinned (.plain (OpenSpec.ofChange petriMatricesSpec)) petriMatricesCard

/-- THE TIED CARD OF 'casebooklaw21.PetriEquation'. -/
def petriEquationCard : Claim7 := { stood := { row := petriEquationRow, standIns := [], harness := (true, "b4846db1e60d4976a41dcf80aca7b6d0ef1c26bccb5a1ce462e0463ee36cee20"), looks := false }, kinds := [], alts := [], laidByText := true, laidKinds := [.data, .data, .data], laidTests := true, laidLooks := .later }
def PetriEquationCardSaid : Prop := Claim7.holds Tryd.pinned (.plain (OpenSpec.ofChange petriEquationSpec)) petriEquationCard

/-- THE TIED CARD OF 'casebooklaw21.PetriConnected'. -/
def petriConnectedCard : Claim7 := { stood := { row := petriConnectedRow, standIns := [], harness := (true, "b4846db1e60d4976a41dcf80aca7b6d0ef1c26bccb5a1ce462e0463ee36cee20"), looks := false }, kinds := [], alts := [], laidByText := true, laidKinds := [.data, .data, .data], laidTests := true, laidLooks := .later }
def PetriConnectedCardSaid : Prop := Claim7.holds Tryd.pinned (.plain (OpenSpec.ofChange petriConnectedSpec)) petriConnectedCard

/-- THE TIED CARD OF 'casebooklaw21.PetriForms'. -/
def petriFormsCard : Claim7 := { stood := { row := petriFormsRow, standIns := [], harness := (true, "b4846db1e60d4976a41dcf80aca7b6d0ef1c26bccb5a1ce462e0463ee36cee20"), looks := false }, kinds := [], alts := [], laidByText := true, laidKinds := [.data, .data, .data], laidTests := true, laidLooks := .later }
def PetriFormsCardSaid : Prop := Claim7.holds Tryd.pinned (.plain (OpenSpec.ofChange petriFormsSpec)) petriFormsCard

/-- THE SECOND FORM's CARD OF 'casebooklaw21.PetriRuns'. -/
def petriRunsUptoCard : Claim7 := { stood := { row := petriRunsUptoRow, standIns := [], harness := (true, "b4846db1e60d4976a41dcf80aca7b6d0ef1c26bccb5a1ce462e0463ee36cee20"), looks := false }, kinds := [], alts := [], laidByText := true, laidKinds := [.data, .data, .data], laidTests := true, laidLooks := .later }
def PetriRunsUptoCardSaid : Prop := Claim7.holds Tryd.pinned (.plain (OpenSpec.upto petriRunsSpec)) petriRunsUptoCard

/-- THE SECOND FORM's CARD OF 'casebooklaw21.PetriMore'. -/
def petriMoreUptoCard : Claim7 := { stood := { row := petriMoreUptoRow, standIns := [], harness := (true, "b4846db1e60d4976a41dcf80aca7b6d0ef1c26bccb5a1ce462e0463ee36cee20"), looks := false }, kinds := [], alts := [], laidByText := true, laidKinds := [.data, .data, .data], laidTests := true, laidLooks := .later }
def PetriMoreUptoCardSaid : Prop := Claim7.holds Tryd.pinned (.plain (OpenSpec.upto petriMoreSpec)) petriMoreUptoCard

/-- THE SECOND FORM's CARD OF 'casebooklaw21.PetriBack'. -/
def petriBackUptoCard : Claim7 := { stood := { row := petriBackUptoRow, standIns := [], harness := (true, "b4846db1e60d4976a41dcf80aca7b6d0ef1c26bccb5a1ce462e0463ee36cee20"), looks := false }, kinds := [], alts := [], laidByText := true, laidKinds := [.data, .data, .data], laidTests := true, laidLooks := .later }
def PetriBackUptoCardSaid : Prop := Claim7.holds Tryd.pinned (.plain (OpenSpec.upto petriBackSpec)) petriBackUptoCard

/-- THE SECOND FORM's CARD OF 'casebooklaw21.PetriFires'. -/
def petriFiresUptoCard : Claim7 := { stood := { row := petriFiresUptoRow, standIns := [], harness := (true, "b4846db1e60d4976a41dcf80aca7b6d0ef1c26bccb5a1ce462e0463ee36cee20"), looks := false }, kinds := [], alts := [], laidByText := true, laidKinds := [.data, .data, .data], laidTests := true, laidLooks := .later }
def PetriFiresUptoCardSaid : Prop := Claim7.holds Tryd.pinned (.plain (OpenSpec.upto petriFiresSpec)) petriFiresUptoCard

/-- THE SECOND FORM's CARD OF 'casebooklaw21.PetriMatrices'. -/
def petriMatricesUptoCard : Claim7 := { stood := { row := petriMatricesUptoRow, standIns := [], harness := (true, "b4846db1e60d4976a41dcf80aca7b6d0ef1c26bccb5a1ce462e0463ee36cee20"), looks := false }, kinds := [], alts := [], laidByText := true, laidKinds := [.data, .data, .data], laidTests := true, laidLooks := .later }
def PetriMatricesUptoCardSaid : Prop := Claim7.holds Tryd.pinned (.plain (OpenSpec.upto petriMatricesSpec)) petriMatricesUptoCard

/-- THE SECOND FORM's CARD OF 'casebooklaw21.PetriEquation'. -/
def petriEquationUptoCard : Claim7 := { stood := { row := petriEquationUptoRow, standIns := [], harness := (true, "b4846db1e60d4976a41dcf80aca7b6d0ef1c26bccb5a1ce462e0463ee36cee20"), looks := false }, kinds := [], alts := [], laidByText := true, laidKinds := [.data, .data, .data], laidTests := true, laidLooks := .later }
def PetriEquationUptoCardSaid : Prop := Claim7.holds Tryd.pinned (.plain (OpenSpec.upto petriEquationSpec)) petriEquationUptoCard

/-- THE SECOND FORM's CARD OF 'casebooklaw21.PetriConnected'. -/
def petriConnectedUptoCard : Claim7 := { stood := { row := petriConnectedUptoRow, standIns := [], harness := (true, "b4846db1e60d4976a41dcf80aca7b6d0ef1c26bccb5a1ce462e0463ee36cee20"), looks := false }, kinds := [], alts := [], laidByText := true, laidKinds := [.data, .data, .data], laidTests := true, laidLooks := .later }
def PetriConnectedUptoCardSaid : Prop := Claim7.holds Tryd.pinned (.plain (OpenSpec.upto petriConnectedSpec)) petriConnectedUptoCard

/-- THE SECOND FORM's CARD OF 'casebooklaw21.PetriForms'. -/
def petriFormsUptoCard : Claim7 := { stood := { row := petriFormsUptoRow, standIns := [], harness := (true, "b4846db1e60d4976a41dcf80aca7b6d0ef1c26bccb5a1ce462e0463ee36cee20"), looks := false }, kinds := [], alts := [], laidByText := true, laidKinds := [.data, .data, .data], laidTests := true, laidLooks := .later }
def PetriFormsUptoCardSaid : Prop := Claim7.holds Tryd.pinned (.plain (OpenSpec.upto petriFormsSpec)) petriFormsUptoCard
end Rows
end Go.Proofs.YtphdafhidhfmnaaDoor
