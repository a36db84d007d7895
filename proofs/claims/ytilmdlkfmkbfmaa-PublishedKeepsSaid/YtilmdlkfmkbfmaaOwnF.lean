/- Rows of the call's own of whatever plain elements; make. No program in sight. -/
import Derived.Test.YtilmdlkfmkbfmaaOwn
import Derived.Laws.MakeOwn
import Derived.Laws.Entries
namespace Go.Proofs.Ytilmdlkfmkbfmaa
open Go.RowKit

def OwnF {α : Type} (f : α → Value) (w : World) (base t g cap : Nat) (xs : List α) : Prop :=
  w.ownsRow base t 1 (.slice (some ⟨g, 0, none⟩) xs.length cap) xs.length (xs.map f) ∧ g < w.heap.size ∧ base ≤ g
section
variable {α : Type} {f : α → Value} {w w' : World} {base t g cap : Nat} {xs : List α}
theorem OwnF.cell (h : OwnF f w base t g cap xs) {k : Nat} {x : α} (hx : xs[k]? = some x) : w.cell? ⟨g, k, none⟩ = some (f x) := by
  have hk : k < xs.length := by
    rcases Nat.lt_or_ge k xs.length with h | h
    · exact h
    · rw [List.getElem?_eq_none h] at hx; cases hx
  rw [h.1.cellAt k (by omega)]; simp [hx]
theorem OwnF.frozen (h : OwnF f w base t g cap xs) (k : Nat) : w.frozen? ⟨g, k, none⟩ = false := h.1.frozenAt k
theorem OwnF.set_ (h : OwnF f w base t g cap xs) (k : Nat) (x : α) : OwnF f (w.setCell ⟨g, k, none⟩ (f x)) base t g cap (xs.set k x) := by
  refine ⟨?_, by simpa using h.2.1, h.2.2⟩
  have := (h.1.stored k (f x)).1
  rw [List.length_set, List.map_set]
  exact this
theorem OwnF.now (h : OwnF f w base t g cap xs) (hb : Below w.heap.size w w') : OwnF f w' base t g cap xs := ⟨own_now h.1 hb, Nat.lt_of_lt_of_le h.2.1 hb.size, h.2.2⟩
theorem OwnF.drew (h : OwnF f w base t g cap xs) : OwnF f w.drew base t g cap xs := h
theorem OwnF.drewN (h : OwnF f w base t g cap xs) (n : Nat) : OwnF f (w.drewN n) base t g cap xs := h
theorem OwnF.far (h : OwnF f w base t g cap xs) {p : Addr} (hp : p.block ≠ g) (u : Value) : OwnF f (w.setCell p u) base t g cap xs :=
  ⟨ownsRow_setCell_other h.1 (fun e => by injection e with e; exact hp e.symm) u, by simpa using h.2.1, h.2.2⟩
theorem OwnF.lt (h : OwnF f w base t g cap xs) : g < w.heap.size := h.2.1
theorem OwnF.from_ (h : OwnF f w base t g cap xs) : base ≤ g := h.2.2
theorem OwnF.mono {base' : Nat} (h : OwnF f w base t g cap xs) (hb : base' ≤ base) : OwnF f w base' t g cap xs := by
  refine ⟨⟨h.1.1, ?_⟩, h.2.1, Nat.le_trans hb h.2.2⟩
  rcases h.1.2 with h' | ⟨g', c', cur, e, h1, h2⟩
  · exact .inl h'
  · exact .inr ⟨g', c', cur, e, Nat.le_trans hb h1, h2⟩
theorem OwnF.made (w : World) (t n : Nat) (z : α) (hn : n ≤ maxLen) : OwnF f (w.alloc (.cells (madeCells #[f z] n) t)) w.heap.size t w.heap.size n (List.replicate n z) := by
  have hs : (madeCells #[f z] n).size = n * 1 := by simp [madeCells]
  have := World.ownsRow_lit (base := w.heap.size) (e := t) (size := 1) w (madeCells #[f z] n) n (Nat.le_refl _) hn hs
  refine ⟨?_, by simp, Nat.le_refl _⟩
  rw [List.length_replicate, List.map_replicate]
  rw [toList_madeCells_one] at this
  exact this
end
theorem OwnF.slB {w : World} {base t g cap : Nat} {xs : List Bool} (h : OwnF Value.bool w base t g cap xs) : SlB (Lt w.heap.size) w (.slice (some ⟨g, 0, none⟩) xs.length cap) xs := SlB.of_own h.1
theorem OwnF.slI {w : World} {base t g cap : Nat} {xs : List Int} (h : OwnF (Value.int .i64) w base t g cap xs) (hf : ∀ z ∈ xs, Fit z) : SlI (Lt w.heap.size) w (.slice (some ⟨g, 0, none⟩) xs.length cap) xs := SlI.of_own h.1 hf

theorem setCell_new (w : World) (cs : Array Value) (t k : Nat) (u : Value) : (w.alloc (.cells cs t)).setCell ⟨w.heap.size, k, none⟩ u = w.alloc (.cells (cs.setIfInBounds k u) t) :=
  World.setCell_alloc_at (w := w) cs t w.heap.size k u rfl
theorem run_make_n {P : Program} (t e : TypeId) (z : Value) (bytes : Nat) (ht : P.underlying t = some (.slice e)) (hi : (P.info? e).map (fun i => (i.zero, i.size, i.bytes)) = some (some z, 1, bytes)) (n : Nat) (hn : n ≤ 10000000) (hb : bytes ≤ 4096) (hzc : z.cells = #[z]) (w : World) :
    (Instr.makeSlice t (.int .i64 (n : Int)) (.int .i64 (n : Int))).run P w = .ok (.slice (some ⟨w.heap.size, 0, none⟩) n n) (w.alloc (.cells (madeCells #[z] n) e)) := by
  obtain ⟨i, hi, hz, hs, hby⟩ := info_parts hi
  have hb' : (i.bytes : Int) * (n : Int) ≤ 281474976710656 := by
    have h1 : i.bytes * n ≤ 4096 * 10000000 := Nat.mul_le_mul (by omega) hn
    have h : ((i.bytes * n : Nat) : Int) ≤ 281474976710656 := by omega
    rwa [Int.natCast_mul] at h
  have hr := run_make (P := P) w t e i z ht hi hz .i64 .i64 n n (by omega) (by omega) hb' (by omega)
  simp only [Int.toNat_natCast] at hr
  rw [hs, hzc, Nat.mul_one] at hr
  exact hr
end Go.Proofs.Ytilmdlkfmkbfmaa
