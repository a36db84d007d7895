/- Texts of this seat, merged. -/
import Derived.Test.YtijmnenojbfdnaaGreatDoorEa01
import Derived.Test.YtijmnenojbfdnaaGreatDoorEa02
import Derived.Test.YtijmnenojbfdnaaGreatDoorEa03
import Derived.Test.YtijmnenojbfdnaaGreatDoorEa04
import Derived.Test.YtijmnenojbfdnaaGreatDoorEa05
import Derived.Test.YtijmnenojbfdnaaGreatDoorEa06
import Derived.Test.YtijmnenojbfdnaaGreatDoorEa07
import Derived.Test.YtijmnenojbfdnaaGreatDoorEa08
import Derived.Test.YtijmnenojbfdnaaGreatDoorEa09
import Derived.Test.YtijmnenojbfdnaaGreatDoorEa10
import Derived.Test.YtijmnenojbfdnaaGreatDoorEa11
import Derived.Test.YtijmnenojbfdnaaGreatDoorEa20
import Derived.Test.YtijmnenojbfdnaaGreatDoorEa21
import Derived.Test.YtijmnenojbfdnaaGreatDoorEa22
set_option linter.unusedSimpArgs false
set_option linter.unusedVariables false
namespace Go.Proofs.YtijmnenojbfdnaaGreatDoor
open Go.RowKit
def LikeTo (ks : List Int) (z0 : Int) (t : Bool) (k : Nat) : Prop := ∀ j z, j < k → ks[j]? = some z → z = z0 ∧ (t = true → z = 1)
end Go.Proofs.YtijmnenojbfdnaaGreatDoor
