/- What every row of this seat needs: the program's own facts, and a start that meets the listed variables. -/
import Derived.Test.YtlkkfkkhllijbaaDoorNetOpen
import Derived.Test.YtlkkfkkhllijbaaDoorRows
import Derived.Test.YtlkkfkkhllijbaaDoorTie
import Derived.Test.YtlkkfkkhllijbaaDoorCards
import Derived.SevenTiedAt
namespace Go.Proofs.YtlkkfkkhllijbaaDoor
open Go.ChangeShapes Go.WideShapes Go.ChangeAt Go.RowKit

theorem own : ownKnob Tryd.prog.godebug = none := by kernel_rfl
theorem laidOut : laidOutB Tryd.prog = true := by kernel_rfl
theorem door_met (os : Os) (args : Array Value) : laidMetH Tryd.prog Rows.petriConnectedRow.laid ((World.doorLaid Tryd.prog 400 os).forCall (fun _ _ => 0) ⟨#[], args, []⟩).memory :=
  laidMetH_of_parts3 (fuel := 80) (laidMet_of_run' 80 (by kernel_rfl) (by kernel_rfl)) (by kernel_rfl) (by kernel_rfl)

theorem stays {H : Type} {enc : TypeId × Value → H} {t : TypeId} (hr : Tryd.prog.readableRec t = true) (hrow : t < Tryd.prog.types.size) {W W' : World} {v : Value} {d : DataW H} {ps : List MemPlace} {sp : Nat → Bool}
    (h : DataW.Trod enc Tryd.prog W 0 (fun _ => true) true t v d ps) (hb : Below W.heap.size W W') (hlt : ∀ x ∈ ps, x.block < W.heap.size) (hsp : ∀ x ∈ ps, sp x.block = true) : DataW.Trod enc Tryd.prog W' 0 sp true t v d ps :=
  WideElems.Trod_stays laidOut hr hrow h (fun x hx => hb.same (hlt x hx)) hsp
theorem readNet : Tryd.prog.readableRec 24 = true := by kernel_rfl
theorem readInts : Tryd.prog.readableRec 28 = true := by kernel_rfl
theorem rowNet : 24 < Tryd.prog.types.size := of_decide_eq_true (by kernel_rfl)
theorem rowInts : 28 < Tryd.prog.types.size := of_decide_eq_true (by kernel_rfl)
end Go.Proofs.YtlkkfkkhllijbaaDoor
