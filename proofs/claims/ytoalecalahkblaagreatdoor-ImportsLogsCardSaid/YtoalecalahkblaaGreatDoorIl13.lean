/- Texts of this seat, merged. -/
import Derived.BigQuiet
import Derived.Test.YtoalecalahkblaaGreatDoorIl01
import Derived.Test.YtoalecalahkblaaGreatDoorIl02
import Derived.Test.YtoalecalahkblaaGreatDoorIl03
import Derived.Test.YtoalecalahkblaaGreatDoorIl04
import Derived.Test.YtoalecalahkblaaGreatDoorIl06
import Derived.Test.YtoalecalahkblaaGreatDoorIl07
import Derived.Test.YtoalecalahkblaaGreatDoorIl08
import Derived.Test.YtoalecalahkblaaGreatDoorIl09
import Derived.Test.YtoalecalahkblaaGreatDoorIl11
import Derived.Test.YtoalecalahkblaaGreatDoorIl12
set_option linter.all false
set_option linter.all false
namespace Go.Proofs.YtoalecalahkblaaGreatDoor
open Go.RowKit
theorem enters_words : ∀ args w, (callFunc 98 args).run Tryz.prog w = .ok (.enter 98 args) w := enters_of Tryz.func98 (by kernel_rfl) rfl
def rowF6 (w : World) (g c a t wd : Nat) (xc xa : Bt) (e : Ev) : Nat → Value → World → Prop
  | 0, u, _ => u = .slice (some ⟨g, 0, none⟩) wd wd
  | 1, u, _ => u = .pointer (some ⟨w.heap.size + 1, 0, none⟩)
  | 2, u, _ => u = .int .i64 (c : Int)
  | 3, u, _ => u = .slice (some ⟨g, 0, none⟩) wd wd
  | 4, u, _ => u = .pointer (some ⟨w.heap.size + 1, 1, none⟩)
  | 5, u, _ => u = .int .i64 (a : Int)
  | 6, u, _ => u = .slice (some ⟨g, 0, none⟩) wd wd
  | 7, u, _ => u = .pointer (some ⟨w.heap.size + 1, 4, none⟩)
  | 8, u, _ => u = .int .i64 (t : Int)
  | 9, u, _ => u = .pointer (some ⟨w.heap.size, 0, none⟩)
  | 10, u, _ => u = .string (bsOf xc)
  | 11, u, _ => u = .pointer (some ⟨w.heap.size, 1, none⟩)
  | 12, u, _ => u = .string (bsOf xa)
  | 13, u, _ => u = .pointer (some ⟨w.heap.size, 4, none⟩)
  | 14, u, _ => u = .int .i64 e.time
  | 15, u, _ => u = .string (bsOf (Lib.itoa e.time))
  | 16, u, _ => u = .pointer (some ⟨g, c, none⟩)
  | 17, _, W => W.cell? ⟨g, c, none⟩ = some (.string (bsOf xc))
  | 18, u, _ => u = .pointer (some ⟨g, a, none⟩)
  | 19, _, W => W.cell? ⟨g, a, none⟩ = some (.string (bsOf xa))
  | 20, u, _ => u = .pointer (some ⟨g, t, none⟩)
  | 21, _, W => W.cell? ⟨g, t, none⟩ = some (.string (bsOf (Lib.itoa e.time)))
  | _, _, _ => True
def rowF10 (w : World) (g l q wd : Nat) : Nat → Value → World → Prop
  | 0, u, _ => u = .slice (some ⟨g, 0, none⟩) wd wd
  | 1, u, _ => u = .pointer (some ⟨w.heap.size + 1, 3, none⟩)
  | 2, u, _ => u = .int .i64 (l : Int)
  | 3, u, W => ∃ p : Nat, u = .slice (some ⟨p, 0, none⟩) 6 6 ∧ p ≠ g ∧ Blk W p 9 #[.string ⟨#[115, 99, 104, 101, 100, 117, 108, 101]⟩, .string ⟨#[115, 116, 97, 114, 116]⟩, .string ⟨#[115, 117, 115, 112, 101, 110, 100]⟩, .string ⟨#[114, 101, 115, 117, 109, 101]⟩, .string ⟨#[99, 111, 109, 112, 108, 101, 116, 101]⟩, .string ⟨#[97, 98, 111, 114, 116]⟩]
  | 4, u, _ => u = .pointer (some ⟨w.heap.size, 3, none⟩)
  | 5, u, _ => u = .int .i64 ((q : Int) + 1)
  | 6, u, _ => u = .int .i64 (q : Int)
  | 7, u, W => ∃ p : Nat, u = .pointer (some ⟨p, q, none⟩) ∧ p ≠ g ∧ Blk W p 9 #[.string ⟨#[115, 99, 104, 101, 100, 117, 108, 101]⟩, .string ⟨#[115, 116, 97, 114, 116]⟩, .string ⟨#[115, 117, 115, 112, 101, 110, 100]⟩, .string ⟨#[114, 101, 115, 117, 109, 101]⟩, .string ⟨#[99, 111, 109, 112, 108, 101, 116, 101]⟩, .string ⟨#[97, 98, 111, 114, 116]⟩]
  | 8, u, _ => u = .string (bsOf (lifeW.getD q []))
  | 9, u, _ => u = .pointer (some ⟨g, l, none⟩)
  | 10, _, W => W.cell? ⟨g, l, none⟩ = some (.string (bsOf (lifeW.getD q [])))
  | _, _, _ => True
end Go.Proofs.YtoalecalahkblaaGreatDoor
