/- Texts of this seat, merged. -/
import Derived.StillTailTactics
import Derived.Deep.RegionHeld3
import Derived.Deep.CutRange
import Derived.Test.YtjglmjdfndcmmaaZb01
import Derived.Test.YtjglmjdfndcmmaaZb02
import Derived.Test.YtjglmjdfndcmmaaZb03
import Derived.Test.YtjglmjdfndcmmaaZb04
import Derived.Test.YtjglmjdfndcmmaaZb14
import Derived.Test.YtjglmjdfndcmmaaZb15
import Derived.Test.YtjglmjdfndcmmaaZb16
set_option linter.all false
set_option linter.all false
namespace Go.Proofs.Ytjglmjdfndcmmaa
open Go.RowKit
def atC (ws : List Bs) (k : Nat) (es : List Ev) : List Nat := (col k es).map ws.idxOf
def runsTo (ws : List Bs) (es : List Ev) (k : Nat) : List UInt8 := (List.range k).flatMap fun j => arRuns (atC ws j es)
theorem OwnN.now {w w' : World} {base : Nat} {v : Value} {l : List Nat} (h : OwnN w base v l) (hb : Below w.heap.size w w') : OwnN w' base v l := OwnW.now h hb
-- WALK
end Go.Proofs.Ytjglmjdfndcmmaa
