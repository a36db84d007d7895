/- Texts of this seat, merged. -/
import Derived.Test.YtoalecalahkblaaGreatDoorIl01
import Derived.Test.YtoalecalahkblaaGreatDoorIl02
import Derived.Test.YtoalecalahkblaaGreatDoorIl03
import Derived.Test.YtoalecalahkblaaGreatDoorIl04
import Derived.Test.YtoalecalahkblaaGreatDoorIl05
import Derived.Test.YtoalecalahkblaaGreatDoorIl06
import Derived.Test.YtoalecalahkblaaGreatDoorIl07
import Derived.Test.YtoalecalahkblaaGreatDoorIl08
import Derived.Test.YtoalecalahkblaaGreatDoorIl09
import Derived.Test.YtoalecalahkblaaGreatDoorIl11
import Derived.Test.YtoalecalahkblaaGreatDoorIl12
import Derived.Test.YtoalecalahkblaaGreatDoorIl13
import Derived.Test.YtoalecalahkblaaGreatDoorIl18
import Derived.Test.YtoalecalahkblaaGreatDoorIl20
import Derived.Test.YtoalecalahkblaaGreatDoorIl21
set_option linter.all false
set_option linter.all false
namespace Go.Proofs.YtoalecalahkblaaGreatDoor
open Go.RowKit
def RwC (w8 : World) (g wd : Nat) (r0 : List Bt) (I : Nat → Prop) (W : World) : Prop := Chg (One g) w8 W ∧ RelR (fun l : Bt => Value.string (bsOf l)) w8 0 9 g wd r0 I W
theorem RwC.start {w8 : World} {g wd base : Nat} {r0 : List Bt} {I : Nat → Prop} (h : OwnCells w8 base g wd r0) : RwC w8 g wd r0 I w8.drew :=
  ⟨Chg.refl.drew, ⟨⟨rfl, rfl, rfl, Nat.le_refl _, fun j hj => absurd hj (Nat.not_lt_zero _)⟩, r0, (OwnF.mono h (Nat.zero_le _)).drew, rfl, fun _ _ => rfl⟩⟩
def wriF4 (w : World) (g t wd : Nat) (e : Ev) : Nat → Value → World → Prop
  | 0, u, _ => u = .slice (some ⟨g, 0, none⟩) wd wd
  | 1, u, _ => u = .pointer (some ⟨w.heap.size + 1, 4, none⟩)
  | 2, u, _ => u = .int .i64 (t : Int)
  | 3, u, _ => u = .pointer (some ⟨w.heap.size, 4, none⟩)
  | 4, u, _ => u = .int .i64 e.time
  | 5, u, _ => u = .string (bsOf (Lib.itoa e.time))
  | 6, u, _ => u = .pointer (some ⟨g, t, none⟩)
  | 7, _, W => W.cell? ⟨g, t, none⟩ = some (.string (bsOf (Lib.itoa e.time)))
  | _, _, _ => True
def wriF10 (w : World) (g l q wd : Nat) : Nat → Value → World → Prop
  | 0, u, _ => u = .slice (some ⟨g, 0, none⟩) wd wd
  | 1, u, _ => u = .pointer (some ⟨w.heap.size + 1, 3, none⟩)
  | 2, u, _ => u = .int .i64 (l : Int)
  | 3, u, _ => u = .pointer (some ⟨w.heap.size, 3, none⟩)
  | 4, u, _ => u = .int .i64 ((q : Int) + 1)
  | 5, u, _ => u = .string (bsOf (lifeW.getD q []))
  | 6, u, _ => u = .pointer (some ⟨g, l, none⟩)
  | 7, _, W => W.cell? ⟨g, l, none⟩ = some (.string (bsOf (lifeW.getD q [])))
  | _, _, _ => True
def wriF20 (w : World) (g k d wd bd od cm gf : Nat) (m : Mp) (f : Fld) (xs0 xs : Bt) : Nat → Value → World → Prop
  | 0, u, _ => u = .slice (some ⟨g, 0, none⟩) wd wd
  | 1, u, _ => u = .pointer (some ⟨w.heap.size + 1, 5, none⟩)
  | 2, u, _ => u = .slice (some ⟨bd, od, none⟩) m.data.length cm
  | 3, u, _ => u = .int .i64 (k : Int)
  | 4, u, _ => u = .pointer (some ⟨bd, od + k, none⟩)
  | 5, u, _ => u = .int .i64 (d : Int)
  | 6, u, _ => u = .pointer (some ⟨gf, 2, none⟩)
  | 7, u, _ => u = .string (bsOf xs0)
  | 8, u, _ => u = .pointer (some ⟨g, d, none⟩)
  | 9, _, W => W.cell? ⟨g, d, none⟩ = some (.string (bsOf xs0))
  | _, _, _ => True
def wriF22 (w : World) (g k d wd bd od cm gf : Nat) (m : Mp) (f : Fld) (xs0 xs : Bt) : Nat → Value → World → Prop
  | 0, u, _ => u = .slice (some ⟨g, 0, none⟩) wd wd
  | 1, u, _ => u = .pointer (some ⟨w.heap.size + 1, 5, none⟩)
  | 2, u, _ => u = .slice (some ⟨bd, od, none⟩) m.data.length cm
  | 3, u, _ => u = .int .i64 (k : Int)
  | 4, u, _ => u = .pointer (some ⟨bd, od + k, none⟩)
  | 5, u, _ => u = .int .i64 (d : Int)
  | 6, u, _ => u = .agg #[.int .i64 f.v.kind, .int .i64 f.v.n, .string (bsOf xs0)]
  | 7, u, _ => u = .string (bsOf xs)
  | 8, u, _ => u = .pointer (some ⟨g, d, none⟩)
  | 9, _, W => W.cell? ⟨g, d, none⟩ = some (.string (bsOf xs))
  | _, _, _ => True
end Go.Proofs.YtoalecalahkblaaGreatDoor
