/- Texts of this seat, merged. -/
import Derived.Test.YtlmenhjlgmejkaaGreatDoorIn01
import Derived.Test.YtlmenhjlgmejkaaGreatDoorIn02
import Derived.Test.YtlmenhjlgmejkaaGreatDoorIn03
import Derived.Test.YtlmenhjlgmejkaaGreatDoorIn04
import Derived.Test.YtlmenhjlgmejkaaGreatDoorIn05
import Derived.Test.YtlmenhjlgmejkaaGreatDoorIn06
import Derived.Test.YtlmenhjlgmejkaaGreatDoorIn07
import Derived.Test.YtlmenhjlgmejkaaGreatDoorIn08
import Derived.Test.YtlmenhjlgmejkaaGreatDoorIn09
import Derived.Test.YtlmenhjlgmejkaaGreatDoorIn10
import Derived.Test.YtlmenhjlgmejkaaGreatDoorIn11
import Derived.Test.YtlmenhjlgmejkaaGreatDoorIn12
import Derived.Test.YtlmenhjlgmejkaaGreatDoorIn13
import Derived.Test.YtlmenhjlgmejkaaGreatDoorIn14
import Derived.Test.YtlmenhjlgmejkaaGreatDoorIn15
import Derived.Test.YtlmenhjlgmejkaaGreatDoorIn16
import Derived.Test.YtlmenhjlgmejkaaGreatDoorIn17
import Derived.Test.YtlmenhjlgmejkaaGreatDoorIn18
import Derived.Test.YtlmenhjlgmejkaaGreatDoorIn19
import Derived.Test.YtlmenhjlgmejkaaGreatDoorIn20
import Derived.Test.YtlmenhjlgmejkaaGreatDoorIn21
import Derived.Test.YtlmenhjlgmejkaaGreatDoorIn22
import Derived.Test.YtlmenhjlgmejkaaGreatDoorIn23
import Derived.Test.YtlmenhjlgmejkaaGreatDoorIn24
import Derived.Test.YtlmenhjlgmejkaaGreatDoorIn25
import Derived.Test.YtlmenhjlgmejkaaGreatDoorIn26
import Derived.Test.YtlmenhjlgmejkaaGreatDoorIn27
import Derived.Test.YtlmenhjlgmejkaaGreatDoorIn28
import Derived.Test.YtlmenhjlgmejkaaGreatDoorIn29
import Derived.Test.YtlmenhjlgmejkaaGreatDoorIn30
import Derived.Test.YtlmenhjlgmejkaaGreatDoorIn31
set_option linter.unusedSimpArgs false
set_option linter.unusedVariables false
namespace Go.Proofs.YtlmenhjlgmejkaaGreatDoor
open Go.ChangeShapes Go.WideShapes Go.RowKit Go.Deep
theorem byte_of_wf {n : Int} (h : (Lit.int .u8 n).wf = true) : 0 ≤ n ∧ n ≤ 255 := by
  have h' : decide ((0 : Int) ≤ n) = true ∧ decide (n ≤ (255 : Int)) = true := by
    rw [← Bool.and_eq_true]; exact h
  simpa using h'
theorem cellsU8 : Tryz.prog.cellsOf 5 = 1 := by kernel_rfl
theorem readU8s : Tryz.prog.readableRec 91 = true := by kernel_rfl
theorem rowU8s : 91 < Tryz.prog.types.size := of_decide_eq_true (by kernel_rfl)
section
variable {H : Type} {enc : TypeId × Value → H} {w : World} {base : Nat} {spare : Nat → Bool} {held : Bool}
theorem u8s_of {fuel : Nat} {v : Value} {x : DataW H × List MemPlace} (h : DataW.trod enc Tryz.prog w base spare held fuel 91 [v] = some x) : ∃ zs, Sl8 (Lt w.heap.size) w v zs :=
  Sl.of_trod (R := R8) (size := 1) Tryz.underlying91 cellsU8 (by omega) (fun fuel cs y hh => by
    obtain ⟨a, e0, _, w0⟩ := DataW.trod_int Tryz.underlying5 hh
    exact ⟨a, e0, byte_of_wf w0⟩) h
end
end Go.Proofs.YtlmenhjlgmejkaaGreatDoor
