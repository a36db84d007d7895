/- Texts of this seat, merged. -/
import Derived.Test.YtjglmjdfndcmmaaGreatZa01
import Derived.Test.YtjglmjdfndcmmaaGreatZa02
import Derived.Test.YtjglmjdfndcmmaaGreatZa14
set_option linter.all false
set_option linter.all false
namespace Go.Proofs.YtjglmjdfndcmmaaGreat
open Go.ChangeShapes Go.WideShapes Go.ChangeAt Go.RowKit Go.Deep
theorem readBytes : Tryz.prog.readableRec 22 = true := by kernel_rfl
theorem rowBytes : 22 < Tryz.prog.types.size := of_decide_eq_true (by kernel_rfl)
theorem cellsByte : Tryz.prog.cellsOf 5 = 1 := by kernel_rfl
section
variable {H : Type} {enc : TypeId × Value → H} {w : World} {base : Nat} {spare : Nat → Bool} {held : Bool}
theorem byte_of_wf {n : Int} (h : (Lit.int .u8 n).wf = true) : ∃ c : UInt8, n = (c.toNat : Int) := by
  have h' : decide ((0 : Int) ≤ n) = true ∧ decide (n ≤ (255 : Int)) = true := by
    rw [← Bool.and_eq_true]; exact h
  obtain ⟨h1, h2⟩ := h'
  have h1 := of_decide_eq_true h1
  have h2 := of_decide_eq_true h2
  exact ⟨UInt8.ofNat n.toNat, by rw [UInt8.toNat_ofNat']; omega⟩
set_option maxRecDepth 100000 in
theorem slice_of {r : Go.Reach} {b0 : Nat} {v : Value} {d : DataW H} {p : List MemPlace} {t e : TypeId} (hs : Tryz.prog.underlying t = some (.slice e)) (hv : Value.okWide Tryz.prog w r b0 t v) (h : DataW.Trod enc Tryz.prog w base spare held t v d p) : ∃ fuel x, DataW.trod enc Tryz.prog w base spare held fuel t [v] = some x := by
  obtain ⟨a, len, cap, rfl⟩ := okWide_slice hs hv
  obtain ⟨fuel, hf⟩ := h
  exact ⟨fuel, (d, p), hf⟩
theorem bytes_of {fuel : Nat} {v : Value} {x : DataW H × List MemPlace} (h : DataW.trod enc Tryz.prog w base spare held fuel 22 [v] = some x) : ∃ zs : List UInt8, SlC (Lt w.heap.size) w v zs :=
  Sl.of_trod (R := RByte) (size := 1) Tryz.underlying22 cellsByte (by omega) (fun fuel cs y hh => by
    obtain ⟨a, e0, _, w0⟩ := DataW.trod_int Tryz.underlying5 hh
    obtain ⟨c, rfl⟩ := byte_of_wf w0
    exact ⟨c, e0⟩) h
end
end Go.Proofs.YtjglmjdfndcmmaaGreat
