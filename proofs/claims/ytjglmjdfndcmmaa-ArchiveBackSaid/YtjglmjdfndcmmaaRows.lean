/-
  No cell of these rows narrows 'for every input' (looked for: loops, veiled, ifaces, maps, wideKeys, modest, calm, conditions, laid).
  DERIVED. THE GIVEN ROWS OF THIS SEAT. 4 by the template 'for every input the law returns true; each argument reads behind the call as it read before'; 0 by the template 'total and deterministic' (their statements: YtjglmjdfndcmmaaTotals.lean).
  GIVEN WITH THE SEED: the statements are not yours to turn. If you find one false, say at which input.
  Laid BY PROGRAM, IN A SANDBOX (cutbox-rows.mjs): the forced cells as the released guide's own fill.sh prints them over the translation ac3ae0b7c2b6620e… (all of the seat's roots in one cut). By AI agents, Wed Nov 11 2026. No macro, syntax, notation, axiom, sorry.
-/
import Derived.Test.YtjglmjdfndcmmaaChecked
import GoSem.Claim
import GoSem.ClaimJoined
import GoSem.ClaimMapViews
import Derived.JoinedTies
import Derived.KernelRfl
namespace Go.Proofs.Ytjglmjdfndcmmaa
/- THE CELL 'sum', in the pinned program and in every row, IS THE sha256 OF THE DUMP (.gsa) THAT YtjglmjdfndcmmaaProg.lean LOADS. Nothing in Lean hashes anything: it is a label: what it is worth is what the hold of that sum in a sandbox is worth. -/
noncomputable def Try.pinned : Pinned := { name := "ytjglmjdfndcmmaa", sum := "ac3ae0b7c2b6620e56687b9add224e00a12bcbe03c5cfcf43e31f4d474e09bf2", checked := Try.checked }
namespace Rows
def none {H : Type} : Left H := { results := [], args := [] }

/-- 'casebooklaw16.ArchivePacks': WHATEVER THE INPUT: true; the input reads as it did. -/
def archivePacksSpec : ChangeSpec := { name := "archivePacks", fn := fun _ => fun
  | [d1, d2] => { results := [.lit (.bool true)], args := [d1, d2] }
  | _ => none }
def archivePacksRow : OpenClaim := { program := "ytjglmjdfndcmmaa", sum := "ac3ae0b7c2b6620e56687b9add224e00a12bcbe03c5cfcf43e31f4d474e09bf2", func := "casebook/casebooklaw16.ArchivePacks", spec := "archivePacks", unfollowed := true, recurses := true, apart := false }
def ArchivePacksSaid : Prop := archivePacksRow.holds Try.pinned (OpenSpec.ofChange archivePacksSpec)

/-- ITS FALSE NEIGHBOUR: 'it returns false'. Refute it at one input. -/
def archivePacksWrong : ChangeSpec := { name := "archivePacks", fn := fun _ => fun
  | [d1, d2] => { results := [.lit (.bool false)], args := [d1, d2] }
  | _ => none }
def ArchivePacksWrongFalsely : Prop := archivePacksRow.holds Try.pinned (OpenSpec.ofChange archivePacksWrong)

/-- 'casebooklaw16.ArchiveDamage': WHATEVER THE INPUT: true; the input reads as it did. -/
def archiveDamageSpec : ChangeSpec := { name := "archiveDamage", fn := fun _ => fun
  | [d1, d2, d3] => { results := [.lit (.bool true)], args := [d1, d2, d3] }
  | _ => none }
def archiveDamageRow : OpenClaim := { program := "ytjglmjdfndcmmaa", sum := "ac3ae0b7c2b6620e56687b9add224e00a12bcbe03c5cfcf43e31f4d474e09bf2", func := "casebook/casebooklaw16.ArchiveDamage", spec := "archiveDamage", unfollowed := true, recurses := true, apart := false }
def ArchiveDamageSaid : Prop := archiveDamageRow.holds Try.pinned (OpenSpec.ofChange archiveDamageSpec)

/-- ITS FALSE NEIGHBOUR: 'it returns false'. Refute it at one input. -/
def archiveDamageWrong : ChangeSpec := { name := "archiveDamage", fn := fun _ => fun
  | [d1, d2, d3] => { results := [.lit (.bool false)], args := [d1, d2, d3] }
  | _ => none }
def ArchiveDamageWrongFalsely : Prop := archiveDamageRow.holds Try.pinned (OpenSpec.ofChange archiveDamageWrong)

/-- 'casebooklaw16.ArchiveOpens': WHATEVER THE INPUT: true; the input reads as it did. -/
def archiveOpensSpec : ChangeSpec := { name := "archiveOpens", fn := fun _ => fun
  | [d1, d2] => { results := [.lit (.bool true)], args := [d1, d2] }
  | _ => none }
def archiveOpensRow : OpenClaim := { program := "ytjglmjdfndcmmaa", sum := "ac3ae0b7c2b6620e56687b9add224e00a12bcbe03c5cfcf43e31f4d474e09bf2", func := "casebook/casebooklaw16.ArchiveOpens", spec := "archiveOpens", unfollowed := true, recurses := true, apart := false }
def ArchiveOpensSaid : Prop := archiveOpensRow.holds Try.pinned (OpenSpec.ofChange archiveOpensSpec)

/-- ITS FALSE NEIGHBOUR: 'it returns false'. Refute it at one input. -/
def archiveOpensWrong : ChangeSpec := { name := "archiveOpens", fn := fun _ => fun
  | [d1, d2] => { results := [.lit (.bool false)], args := [d1, d2] }
  | _ => none }
def ArchiveOpensWrongFalsely : Prop := archiveOpensRow.holds Try.pinned (OpenSpec.ofChange archiveOpensWrong)

/-- 'casebooklaw16.ArchiveBack': WHATEVER THE INPUT: true; the input reads as it did. -/
def archiveBackSpec : ChangeSpec := { name := "archiveBack", fn := fun _ => fun
  | [d] => { results := [.lit (.bool true)], args := [d] }
  | _ => none }
def archiveBackRow : OpenClaim := { program := "ytjglmjdfndcmmaa", sum := "ac3ae0b7c2b6620e56687b9add224e00a12bcbe03c5cfcf43e31f4d474e09bf2", func := "casebook/casebooklaw16.ArchiveBack", spec := "archiveBack", unfollowed := true, recurses := true, apart := false }
def ArchiveBackSaid : Prop := archiveBackRow.holds Try.pinned (OpenSpec.ofChange archiveBackSpec)

/-- ITS FALSE NEIGHBOUR: 'it returns false'. Refute it at one input. -/
def archiveBackWrong : ChangeSpec := { name := "archiveBack", fn := fun _ => fun
  | [d] => { results := [.lit (.bool false)], args := [d] }
  | _ => none }
def ArchiveBackWrongFalsely : Prop := archiveBackRow.holds Try.pinned (OpenSpec.ofChange archiveBackWrong)

/- THE SECOND FORM. 'bulk': how many values and letters a reading holds, each counted each time it is reached (what is shared counts as often as it is met; a slice's spare places count too). A statement '..UptoSaid' is the law's where the arguments, and the package variables that the reading takes, are together of bulk at most 1048576: NARROWER than '..Said'. Prove '..Said' where nothing that the law and all that it calls make is longer than what came in: it says more and counts as full. Else prove '..UptoSaid'. A law counts once. -/
mutual
def uptoBulk {H : Type} : DataW H → Nat
  | .lit (.string bytes) => bytes.length + 1
  | .lit _ => 1
  | .nil => 1
  | .ptr d => uptoBulk d + 1
  | .slice elems spare => uptoBulkAll elems + uptoBulkAll spare + 1
  | .agg parts => uptoBulkAll parts + 1
  | .iface _ d => uptoBulk d + 1
  | .map entries => uptoBulkEntries entries + 1
  | .held _ => 1
def uptoBulkAll {H : Type} : List (DataW H) → Nat
  | [] => 0
  | d :: r => uptoBulk d + uptoBulkAll r
def uptoBulkEntries {H : Type} : List (Lit × DataW H) → Nat
  | [] => 0
  | x :: r => uptoBulkEntry x + uptoBulkEntries r
def uptoBulkEntry {H : Type} : Lit × DataW H → Nat
  | (.string bytes, d) => bytes.length + uptoBulk d + 1
  | (_, d) => uptoBulk d + 1
 end
def uptoSmall : (H : Type) → List (DataW H) → Bool := fun _ ds => decide (uptoBulkAll ds ≤ 1048576)
def OpenSpec.upto (s : _root_.Go.ChangeSpec) : _root_.Go.OpenSpec := { _root_.Go.OpenSpec.ofChange s with cond := some uptoSmall }

/-- 'casebooklaw16.ArchivePacks', WHERE WHAT IT READS IS OF BULK AT MOST 1048576: true; the input reads as it did. -/
def archivePacksUptoRow : OpenClaim := { program := "ytjglmjdfndcmmaa", sum := "ac3ae0b7c2b6620e56687b9add224e00a12bcbe03c5cfcf43e31f4d474e09bf2", func := "casebook/casebooklaw16.ArchivePacks", spec := "archivePacks", unfollowed := true, recurses := true, apart := false, narrowed := true }
def ArchivePacksUptoSaid : Prop := archivePacksUptoRow.holds Try.pinned (OpenSpec.upto archivePacksSpec)

/-- 'casebooklaw16.ArchiveDamage', WHERE WHAT IT READS IS OF BULK AT MOST 1048576: true; the input reads as it did. -/
def archiveDamageUptoRow : OpenClaim := { program := "ytjglmjdfndcmmaa", sum := "ac3ae0b7c2b6620e56687b9add224e00a12bcbe03c5cfcf43e31f4d474e09bf2", func := "casebook/casebooklaw16.ArchiveDamage", spec := "archiveDamage", unfollowed := true, recurses := true, apart := false, narrowed := true }
def ArchiveDamageUptoSaid : Prop := archiveDamageUptoRow.holds Try.pinned (OpenSpec.upto archiveDamageSpec)

/-- 'casebooklaw16.ArchiveOpens', WHERE WHAT IT READS IS OF BULK AT MOST 1048576: true; the input reads as it did. -/
def archiveOpensUptoRow : OpenClaim := { program := "ytjglmjdfndcmmaa", sum := "ac3ae0b7c2b6620e56687b9add224e00a12bcbe03c5cfcf43e31f4d474e09bf2", func := "casebook/casebooklaw16.ArchiveOpens", spec := "archiveOpens", unfollowed := true, recurses := true, apart := false, narrowed := true }
def ArchiveOpensUptoSaid : Prop := archiveOpensUptoRow.holds Try.pinned (OpenSpec.upto archiveOpensSpec)

/-- 'casebooklaw16.ArchiveBack', WHERE WHAT IT READS IS OF BULK AT MOST 1048576: true; the input reads as it did. -/
def archiveBackUptoRow : OpenClaim := { program := "ytjglmjdfndcmmaa", sum := "ac3ae0b7c2b6620e56687b9add224e00a12bcbe03c5cfcf43e31f4d474e09bf2", func := "casebook/casebooklaw16.ArchiveBack", spec := "archiveBack", unfollowed := true, recurses := true, apart := false, narrowed := true }
def ArchiveBackUptoSaid : Prop := archiveBackUptoRow.holds Try.pinned (OpenSpec.upto archiveBackSpec)

end Rows
end Go.Proofs.Ytjglmjdfndcmmaa
