/- Texts of this seat, merged. -/
import Derived.Test.YtoalecalahkblaaGreatDoorIl01
import Derived.Test.YtoalecalahkblaaGreatDoorIl02
import Derived.Test.YtoalecalahkblaaGreatDoorIl03
import Derived.Test.YtoalecalahkblaaGreatDoorIl04
import Derived.Test.YtoalecalahkblaaGreatDoorIl06
import Derived.Test.YtoalecalahkblaaGreatDoorIl07
import Derived.Test.YtoalecalahkblaaGreatDoorIl08
import Derived.Test.YtoalecalahkblaaGreatDoorIl09
import Derived.Test.YtoalecalahkblaaGreatDoorIl10
import Derived.Test.YtoalecalahkblaaGreatDoorIl11
import Derived.Test.YtoalecalahkblaaGreatDoorIl12
import Derived.Test.YtoalecalahkblaaGreatDoorIl13
import Derived.Test.YtoalecalahkblaaGreatDoorIl20
import Derived.Test.YtoalecalahkblaaGreatDoorIl21
import Derived.Test.YtoalecalahkblaaGreatDoorIl23
import Derived.Test.YtoalecalahkblaaGreatDoorIl24
import Derived.Test.YtoalecalahkblaaGreatDoorIl25
set_option linter.all false
set_option linter.all false
namespace Go.Proofs.YtoalecalahkblaaGreatDoor
open Go.RowKit
def expF6 (U DV : Value) (B P wd : Nat) (mx : Int) (m : Mp) : Nat → Value → World → Prop
  | 0, u, _ => u = U
  | 1, u, W => OwnZ W B u (fieldsB m)
  | 2, u, _ => u = .pointer (some ⟨P, 5, none⟩)
  | 3, u, _ => u = DV
  | 4, u, W => OwnZ W B u (colsX m)
  | 5, u, _ => u = .int .i64 mx
  | 6, u, _ => u = .int .i64 (wd : Int)
  | 7, u, _ => u = .int .i64 (wd : Int)
  | _, _, _ => True
def expD6 (j k : Nat) : Bool := j == 1 && k == 4
def expF8 (w : World) (g c a t wd : Nat) : Nat → Value → World → Prop
  | 0, u, _ => u = .slice (some ⟨g, 0, none⟩) wd wd
  | 1, u, _ => u = .pointer (some ⟨w.heap.size + 1, 0, none⟩)
  | 2, u, _ => u = .int .i64 (c : Int)
  | 3, u, _ => u = .slice (some ⟨g, 0, none⟩) wd wd
  | 4, u, _ => u = .pointer (some ⟨w.heap.size + 1, 1, none⟩)
  | 5, u, _ => u = .int .i64 (a : Int)
  | 6, u, _ => u = .slice (some ⟨g, 0, none⟩) wd wd
  | 7, u, _ => u = .pointer (some ⟨w.heap.size + 1, 4, none⟩)
  | 8, u, _ => u = .int .i64 (t : Int)
  | 9, u, _ => u = .pointer (some ⟨g, c, none⟩)
  | 10, _, W => W.cell? ⟨g, c, none⟩ = some (.string (bsOf xwCase))
  | 11, u, _ => u = .pointer (some ⟨g, a, none⟩)
  | 12, _, W => W.cell? ⟨g, a, none⟩ = some (.string (bsOf xwAct))
  | 13, u, _ => u = .pointer (some ⟨g, t, none⟩)
  | 14, _, W => W.cell? ⟨g, t, none⟩ = some (.string (bsOf xwTime))
  | _, _, _ => True
end Go.Proofs.YtoalecalahkblaaGreatDoor
