/- casebookref21.Has and Incidence. -/
import Derived.Test.YtlkkfkkhllijbaaGreatDoorInc
import Derived.Test.YtlkkfkkhllijbaaGreatDoorOwnR
namespace Go.Proofs.YtlkkfkkhllijbaaGreatDoor
open Go.RowKit


theorem OwnR.xs {α : Type} {size : Nat} {R : ElemR α} {X X' : Nat → Prop} {w : World} {base t : Nat} {v : Value} {xs : List α} (h : OwnR size R X w base t v xs) (hR : ElemR.Kept R) (hx : ∀ b, b < w.heap.size → X' b → X b) : OwnR size R X' w base t v xs := by
  obtain ⟨cs, h1, h2⟩ := h
  refine ⟨cs, h1, fun i x hi => ?_⟩
  obtain ⟨es, a, b, c⟩ := h2 i x hi
  exact ⟨es, a, b, hR _ _ _ _ _ _ (fun b hb => ⟨hb.1, hb.2.1, fun hX => hb.2.2 (hx b hb.1 hX)⟩) (Same.refl _ _) c⟩

structure JSt (w0 wr : World) (B0 B bx gr : Nat) (v : Value) (m : List (List Int)) (nv : Array Value) (row : List Int) : Prop where
  rows : OwnR 1 RRow (fun b => b = gr) wr B 40 v m
  row : OwnF (Value.int .i64) wr gr 3 gr row.length row
  net : Blk wr bx 24 nv
  below : Below B0 w0 wr
theorem JSt.set_ {w0 wr : World} {B0 B bx gr : Nat} {v : Value} {m : List (List Int)} {nv : Array Value} {row : List Int} (h : JSt w0 wr B0 B bx gr v m nv row) (j : Nat) (z : Int) (h1 : bx < gr) (h2 : v.ownBlock ≠ some gr) (hB : B0 ≤ gr) : JSt w0 (wr.setCell ⟨gr, j, none⟩ (.int .i64 z)) B0 B bx gr v m nv (row.set j z) :=
  ⟨h.rows.far RRow.kept (p := ⟨gr, j, none⟩) rfl h2 _, by rw [List.length_set]; exact h.row.set_ j z, h.net.far (by show bx ≠ gr; omega) _, h.below.setCell hB _⟩

end Go.Proofs.YtlkkfkkhllijbaaGreatDoor
