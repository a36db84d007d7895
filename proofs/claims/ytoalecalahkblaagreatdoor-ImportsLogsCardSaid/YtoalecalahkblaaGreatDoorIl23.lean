/- Texts of this seat, merged. -/
import Derived.Lib.Strings
import Derived.Test.YtoalecalahkblaaGreatDoorIl01
import Derived.Test.YtoalecalahkblaaGreatDoorIl02
set_option linter.all false
set_option linter.all false
namespace Go.Proofs.YtoalecalahkblaaGreatDoor
open Go.RowKit
structure EvOk (e : Ev) : Prop where
  cas : isNameB e.cas = true
  act : isNameB e.act = true
  res : noS e.res = true ∨ isNameB e.res = true
  life : 1 ≤ e.life ∧ e.life ≤ 6
  time : 0 ≤ e.time ∧ e.time ≤ 1099511627776
  len : e.data.length ≤ 8
  flds : fldsB e.data = true
end Go.Proofs.YtoalecalahkblaaGreatDoor
