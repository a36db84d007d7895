/- Texts of this seat, merged. -/
import Derived.Test.YtijmnenojbfdnaaGreatDoorEt01
import Derived.Test.YtijmnenojbfdnaaGreatDoorEt02
import Derived.Test.YtijmnenojbfdnaaGreatDoorEt03
import Derived.Test.YtijmnenojbfdnaaGreatDoorEt04
import Derived.Test.YtijmnenojbfdnaaGreatDoorEt05
import Derived.Test.YtijmnenojbfdnaaGreatDoorEt06
import Derived.Test.YtijmnenojbfdnaaGreatDoorEt07
import Derived.Test.YtijmnenojbfdnaaGreatDoorEt08
import Derived.Test.YtijmnenojbfdnaaGreatDoorEt09
import Derived.Test.YtijmnenojbfdnaaGreatDoorEt10
import Derived.Test.YtijmnenojbfdnaaGreatDoorEt11
import Derived.Test.YtijmnenojbfdnaaGreatDoorEt12
import Derived.Test.YtijmnenojbfdnaaGreatDoorEt20
import Derived.Test.YtijmnenojbfdnaaGreatDoorEt21
import Derived.Test.YtijmnenojbfdnaaGreatDoorEt22
set_option linter.unusedSimpArgs false
set_option linter.unusedVariables false
namespace Go.Proofs.YtijmnenojbfdnaaGreatDoor
open Go.RowKit
def LikeTo (ks : List Int) (z0 : Int) (t : Bool) (k : Nat) : Prop := ∀ j z, j < k → ks[j]? = some z → z = z0 ∧ (t = true → z = 1)
end Go.Proofs.YtijmnenojbfdnaaGreatDoor
