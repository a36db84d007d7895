/- How an api.Net that came in reads. -/
import Derived.Test.YtlkkfkkhllijbaaDoorOpen
import Derived.Test.YtlkkfkkhllijbaaDoorNet
import Derived.Test.YtlkkfkkhllijbaaDoorProg
namespace Go.Proofs.YtlkkfkkhllijbaaDoor
open Go.ChangeShapes Go.WideShapes Go.RowKit Go.Deep

theorem cellsInt : Tryd.prog.cellsOf 3 = 1 := by kernel_rfl
theorem cellsStr : Tryd.prog.cellsOf 9 = 1 := by kernel_rfl
theorem cellsTrans : Tryd.prog.cellsOf 30 = 3 := by kernel_rfl
theorem cellsInts : Tryd.prog.cellsOf 28 = 1 := by kernel_rfl
theorem cellsNet : Tryd.prog.cellsOf 24 = 4 := by kernel_rfl
instance : Inhabited Tr := ⟨⟨ByteArray.empty, [], []⟩⟩
section
variable {H : Type} {enc : TypeId × Value → H} {w : World} {base : Nat} {spare : Nat → Bool} {held : Bool}
theorem ints_of {fuel : Nat} {v : Value} {x : DataW H × List MemPlace} (h : DataW.trod enc Tryd.prog w base spare held fuel 28 [v] = some x) : ∃ zs, SlI (Lt w.heap.size) w v zs :=
  SlI.of_trod Tryd.underlying28 Tryd.underlying3 cellsInt h
set_option maxRecDepth 100000 in
theorem tr_of (fuel : Nat) (cs : List Value) (y : DataW H × List MemPlace) (h : DataW.trod enc Tryd.prog w base spare held fuel 30 cs = some y) : ∃ t, RTr (Lt w.heap.size) w t cs := by
  obtain ⟨y0, y1, y2, n, _, hl, h0, h1, h2⟩ := trod_struct3 Tryd.underlying30 h
  rw [cellsTrans] at hl
  match cs, hl with
  | [c0, c1, c2], _ =>
    simp only [cellsStr, cellsInts, List.drop_zero, List.take_succ_cons, List.take_zero, List.drop_succ_cons] at h0 h1 h2
    obtain ⟨s, e0, _, hs⟩ := DataW.trod_string Tryd.underlying9 h0
    injection e0 with e0
    subst e0
    obtain ⟨is, hi⟩ := ints_of h1
    obtain ⟨os, ho⟩ := ints_of h2
    exact ⟨⟨s, is, os⟩, c1, c2, rfl, hs, hi, ho⟩
set_option maxRecDepth 100000 in
theorem net_of {r : Reach} {b0 : Nat} {v : Value} {d : DataW H} {p : List MemPlace} (hv : Value.okWide Tryd.prog w r b0 24 v) (h : DataW.Trod enc Tryd.prog w base spare held 24 v d p) : ∃ n, IsNet (Lt w.heap.size) w v n := by
  obtain ⟨v0, v1, v2, v3, y0, y1, y2, y3, n, rfl, _, _, h0, h1, h2, h3⟩ := Go.Joins.open_agg4 Tryd.underlying24 (by kernel_rfl) cellsNet hv h
  obtain ⟨a, e0, _, w0⟩ := DataW.trod_int Tryd.underlying3 h0
  obtain ⟨ts, ht⟩ := Sl.of_trod (R := RTr) (size := 3) Tryd.underlying22 cellsTrans (by omega) tr_of h1
  obtain ⟨b, e2, _, w2⟩ := DataW.trod_int Tryd.underlying3 h2
  obtain ⟨c, e3, _, w3⟩ := DataW.trod_int Tryd.underlying3 h3
  injection e0 with e0
  injection e2 with e2
  injection e3 with e3
  subst e0 e2 e3
  exact ⟨⟨a, ts, b, c⟩, v1, rfl, fit_of_wf w0, fit_of_wf w2, fit_of_wf w3, ht⟩
set_option maxRecDepth 100000 in
theorem slice_of {r : Reach} {b0 : Nat} {v : Value} {d : DataW H} {p : List MemPlace} {t e : TypeId} (hs : Tryd.prog.underlying t = some (.slice e)) (hv : Value.okWide Tryd.prog w r b0 t v) (h : DataW.Trod enc Tryd.prog w base spare held t v d p) : ∃ fuel x, DataW.trod enc Tryd.prog w base spare held fuel t [v] = some x := by
  obtain ⟨a, len, cap, rfl⟩ := okWide_slice hs hv
  obtain ⟨fuel, hf⟩ := h
  exact ⟨fuel, (d, p), hf⟩
end
end Go.Proofs.YtlkkfkkhllijbaaDoor
