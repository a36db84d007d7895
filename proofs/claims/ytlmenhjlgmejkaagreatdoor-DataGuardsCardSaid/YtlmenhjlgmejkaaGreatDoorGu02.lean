/- Texts of this seat, merged. -/
import Derived.Outline
import Derived.Shelf.Abstract
import Derived.Laws.IdiomStrings
import Derived.Test.YtlmenhjlgmejkaaGreatDoorIn02
import Derived.WalkKit
import Derived.WalkSpells
import Derived.WalkLawsBesides
import Derived.Lib.Hide
import Derived.Deep.Draws
import Derived.Deep.OwnRows
import Derived.Test.YtlmenhjlgmejkaaGreatDoorIn01
import Derived.Test.YtlmenhjlgmejkaaGreatDoorProg
import Derived.Deep.Light
import Derived.Lib.SlicesCompact
import Derived.Maps.AppendAt
import Derived.Deep.AppendLies
import Derived.RegionTactic
import Derived.OwnWalk
import Derived.Test.YtlmenhjlgmejkaaGreatDoorGu01
set_option linter.unusedSimpArgs false
set_option linter.unusedVariables false
namespace Go.Proofs.YtlmenhjlgmejkaaGreatDoor
open Go.RowKit
section
variable {D D' : Nat → Prop} {w w' : World} {u : Value}
end
set_option maxHeartbeats 400000 in
theorem number_ref (n : Int) (w : World) : Calls Tryz.prog 156 #[.int .i64 n] w fun e w' => e = .returned (.bool (numB n)) ∧ w = w' := by
  by_cases h1 : -4503599627370496 ≤ n <;> by_cases h2 : n ≤ 4503599627370496
  all_goals
    go_enter Tryz.func156, Tryz.ntmps156
    go_wp2
    go_ret
    exact ⟨ret_bool (by first | exact (numB_yes h1 h2).symm | exact (numB_no (fun h => by omega)).symm), rfl⟩
end Go.Proofs.YtlmenhjlgmejkaaGreatDoor
