/- Texts of this seat, merged. -/
import Derived.Test.YtoalecalahkblaaGreatDoorIl01
import Derived.Test.YtoalecalahkblaaGreatDoorIl02
import Derived.Test.YtoalecalahkblaaGreatDoorIl03
import Derived.Test.YtoalecalahkblaaGreatDoorIl04
import Derived.Test.YtoalecalahkblaaGreatDoorIl06
import Derived.Test.YtoalecalahkblaaGreatDoorIl07
import Derived.Test.YtoalecalahkblaaGreatDoorIl08
import Derived.Test.YtoalecalahkblaaGreatDoorIl09
import Derived.Test.YtoalecalahkblaaGreatDoorIl11
set_option linter.all false
set_option linter.all false
namespace Go.Proofs.YtoalecalahkblaaGreatDoor
open Go.RowKit
theorem words_any (w : World) : Calls Tryz.prog 98 #[] w fun e w' => ∃ v, e = .returned v ∧ SlP (Lt w'.heap.size) w' v lifeW ∧ Below w.heap.size w w' := by
  have h := slP_lit w 9 lifeW (by decide) (by decide)
  have hb := bone w (.cells (lifeW.map fun l => Value.string (bsOf l)).toArray 9)
  go_enter Tryz.func98, Tryz.ntmps98
  go_wp2_with fail
  go_ret
  exact ⟨_, rfl, h, hb⟩
def OwnCells (w : World) (base g cap : Nat) (r : List Bt) : Prop := OwnF (fun l : Bt => Value.string (bsOf l)) w base 9 g cap r
theorem OwnCells.setZ {w : World} {base g cap : Nat} {r : List Bt} (h : OwnCells w base g cap r) {k : Int} {n : Nat} (hk : k = (n : Int)) (s : Bt) : OwnCells (w.setCell ⟨g, n, none⟩ (.string (bsOf s))) base g cap (setZ r k s) := by
  subst hk
  exact OwnF.set_ h n s
end Go.Proofs.YtoalecalahkblaaGreatDoor

set_option linter.all false
namespace Go.Proofs.YtoalecalahkblaaGreatDoor
open Go.RowKit
def Btw (a b : Nat) : Nat → Prop := fun g => a ≤ g ∧ g < b
def RetRow (p : List Bt × Int) (w : World) (e : Ending) (w' : World) : Prop := ∃ v, e = .returned (.tuple #[v, .int .i64 p.2]) ∧ SlP (Btw w.heap.size w'.heap.size) w' v p.1 ∧ Below w.heap.size w w'
end Go.Proofs.YtoalecalahkblaaGreatDoor
