/- Texts of this seat, merged. -/
import Derived.Test.YtoalecalahkblaaGreatDoorIl01
import Derived.Test.YtoalecalahkblaaGreatDoorIl02
import Derived.Test.YtoalecalahkblaaGreatDoorIl03
import Derived.Test.YtoalecalahkblaaGreatDoorIl04
import Derived.Test.YtoalecalahkblaaGreatDoorIl05
import Derived.Test.YtoalecalahkblaaGreatDoorIl06
import Derived.Test.YtoalecalahkblaaGreatDoorIl07
import Derived.Test.YtoalecalahkblaaGreatDoorIl08
import Derived.Test.YtoalecalahkblaaGreatDoorIl09
import Derived.Test.YtoalecalahkblaaGreatDoorIl10
import Derived.Test.YtoalecalahkblaaGreatDoorIl11
import Derived.Test.YtoalecalahkblaaGreatDoorIl12
import Derived.Test.YtoalecalahkblaaGreatDoorIl13
import Derived.Test.YtoalecalahkblaaGreatDoorIl18
import Derived.Test.YtoalecalahkblaaGreatDoorIl20
import Derived.Test.YtoalecalahkblaaGreatDoorIl21
import Derived.Test.YtoalecalahkblaaGreatDoorIl23
import Derived.Test.YtoalecalahkblaaGreatDoorIl24
import Derived.Test.YtoalecalahkblaaGreatDoorIl25
import Derived.Test.YtoalecalahkblaaGreatDoorIl26
import Derived.Test.YtoalecalahkblaaGreatDoorIl27
import Derived.Test.YtoalecalahkblaaGreatDoorIl28
import Derived.Test.YtoalecalahkblaaGreatDoorIl29
import Derived.Test.YtoalecalahkblaaGreatDoorIl30
import Derived.Test.YtoalecalahkblaaGreatDoorIl31
import Derived.Test.YtoalecalahkblaaGreatDoorIl32
set_option linter.all false
set_option linter.all false
namespace Go.Proofs.YtoalecalahkblaaGreatDoor
open Go.RowKit
theorem colsR_eq {m : Mp} (h : MpOk m) : colsR m = colsX m := by
  have h1 := h.cas.1
  have h2 := h.act.1
  have h3 := h.time.1
  unfold colsR col2 col1 colsX fieldsB
  congr 1
  simp only [List.filter_cons, List.filter_nil, decide_eq_true h1, decide_eq_true h2, decide_eq_true h3, if_true]
  by_cases hr : 0 ≤ m.res <;> by_cases hl : 0 ≤ m.life <;> simp [hr, hl]
def foldI (zs : List Int) (i : Nat) : Int := (zs.take i).foldl (fun a k => max a (k + 1)) 0
def refF29 (B1 be oe i wd s0 : Nat) (LV EV MV NV : Value) (row : List Bt) (k : Int) : Nat → Value → World → Prop
  | 0, u, _ => u = .pointer (some ⟨B1, 0, none⟩)
  | 1, u, _ => u = LV
  | 2, u, _ => u = .int .i64 (i : Int)
  | 3, u, _ => u = .pointer (some ⟨be, oe + i * 6, none⟩)
  | 4, u, _ => u = EV
  | 5, u, _ => u = MV
  | 6, u, _ => u = NV
  | 7, u, _ => u = .int .i64 (wd : Int)
  | 8, u, W => ∃ rv, u = .tuple #[rv, .int .i64 k] ∧ SlP (Btw s0 W.heap.size) W rv row
  | 9, u, W => ∃ rv, u = .tuple #[rv, .int .i64 k] ∧ SlP (Btw s0 W.heap.size) W rv row
  | 10, u, W => SlP (Btw s0 W.heap.size) W u row
  | 11, u, _ => u = .int .i64 k
  | 12, u, W => SlP (Btw s0 W.heap.size) W u row
  | 13, u, _ => u = .int .i64 k
  | _, _, _ => True
def refF24 (w : World) (g d wd bd od cm bn on_ cn j : Nat) (m : Mp) (names : List Bs) (s : Bs) : Nat → Value → World → Prop
  | 0, u, _ => u = .slice (some ⟨g, 0, none⟩) wd wd
  | 1, u, _ => u = .pointer (some ⟨w.heap.size + 1, 5, none⟩)
  | 2, u, _ => u = .slice (some ⟨bd, od, none⟩) m.data.length cm
  | 3, u, _ => u = .int .i64 (j : Int)
  | 4, u, _ => u = .pointer (some ⟨bd, od + j, none⟩)
  | 5, u, _ => u = .int .i64 (d : Int)
  | 6, u, _ => u = .slice (some ⟨bn, on_, none⟩) names.length cn
  | 7, u, _ => u = .int .i64 (j : Int)
  | 8, u, _ => u = .pointer (some ⟨bn, on_ + j, none⟩)
  | 9, u, _ => u = .string (bsOf s)
  | 10, u, _ => u = .pointer (some ⟨g, d, none⟩)
  | 11, _, W => W.cell? ⟨g, d, none⟩ = some (.string (bsOf s))
  | _, _, _ => True
end Go.Proofs.YtoalecalahkblaaGreatDoor
