/- petri.Incidence. -/
import Derived.Test.YtlkkfkkhllijbaaGreatDoorInitial
import Derived.Test.YtlkkfkkhllijbaaGreatDoorMat
namespace Go.Proofs.YtlkkfkkhllijbaaGreatDoor
open Go.RowKit

def RetIIE (m : List (List Int)) (c : Int) (w : World) (e : Ending) (w' : World) : Prop := ∃ v, e = .returned (.tuple #[v, .int .i64 c]) ∧ SlII (Lt w'.heap.size) w' v m ∧ Below w.heap.size w w'

/-- A row of the incidence matrix after j transitions. -/
def partRow (n : Net) (p j : Nat) : List Int := (n.trans.take j).map (incAt p) ++ List.replicate (n.trans.length - j) 0
theorem part_zero (n : Net) (p : Nat) : partRow n p 0 = List.replicate n.trans.length 0 := by unfold partRow; simp
theorem part_full (n : Net) (p : Nat) : partRow n p n.trans.length = incRow n p := by unfold partRow incRow; simp
theorem part_len (n : Net) (p j : Nat) (hj : j ≤ n.trans.length) : (partRow n p j).length = n.trans.length := by unfold partRow; simp; omega
theorem take_map_len (n : Net) (p j : Nat) (hj : j ≤ n.trans.length) : ((n.trans.take j).map (incAt p)).length = j := by simp; omega
theorem part_get (n : Net) (p j : Nat) (hj : j < n.trans.length) : (partRow n p j)[j]? = some 0 := by
  unfold partRow
  have hl := take_map_len n p j (by omega)
  rw [List.getElem?_append_right (by omega), hl, Nat.sub_self]
  obtain ⟨r, hr⟩ : ∃ r, n.trans.length - j = r + 1 := ⟨n.trans.length - j - 1, by omega⟩
  rw [hr]; rfl
theorem part_step (n : Net) (p j : Nat) {t : Tr} (ht : n.trans[j]? = some t) : (partRow n p j).set j (incAt p t) = partRow n p (j + 1) := by
  have hj : j < n.trans.length := by
    rcases Nat.lt_or_ge j n.trans.length with h | h
    · exact h
    · rw [List.getElem?_eq_none h] at ht; cases ht
  unfold partRow
  have hl := take_map_len n p j (by omega)
  obtain ⟨r, hr⟩ : ∃ r, n.trans.length - j = r + 1 := ⟨n.trans.length - j - 1, by omega⟩
  have e2 : n.trans.length - (j + 1) = r := by omega
  rw [hr, e2, List.replicate_succ, List.set_append, hl, if_neg (by omega), Nat.sub_self]
  rw [List.getElem?_eq_getElem hj] at ht
  injection ht with ht
  rw [List.take_succ_eq_append_getElem hj, List.map_append, List.append_assoc, ht]; rfl
theorem set_same {l : List Int} {j : Nat} {z : Int} (h : l[j]? = some z) : l.set j z = l := by
  have hj : j < l.length := by
    rcases Nat.lt_or_ge j l.length with h' | h'
    · exact h'
    · rw [List.getElem?_eq_none h'] at h; cases h
  rw [List.getElem?_eq_getElem hj] at h
  injection h with h
  rw [← h]; exact List.set_getElem_self hj
theorem part_mem (n : Net) (p j : Nat) : ∀ z ∈ partRow n p j, -1 ≤ z ∧ z ≤ 1 := by
  intro z hz
  unfold partRow at hz
  rcases List.mem_append.1 hz with h | h
  · obtain ⟨t, _, rfl⟩ := List.mem_map.1 h
    exact incAt_b p t
  · rw [List.mem_replicate] at h; rw [h.2]; omega

/-- The rows that are done. -/
def RowsDone (n : Net) (w : World) (lo hi : Nat) (vs : List Value) (k : Nat) : Prop := ∀ i, i < k → ∃ v, vs[i]? = some v ∧ SlI (fun b => lo < b ∧ b < hi) w v (incRow n i)
theorem RowsDone.keep {n : Net} {w w' : World} {lo hi hi' k : Nat} {vs : List Value} (h : RowsDone n w lo hi vs k) (hh : hi ≤ hi') (hs : Same (fun b => lo < b ∧ b < hi) w w') : RowsDone n w' lo hi' vs k := fun i hi => by
  obtain ⟨v, h1, h2⟩ := h i hi
  exact ⟨v, h1, Sl.keep h2 RInt.kept (fun b hb => ⟨hb.1, by omega⟩) hs⟩

structure ISt (n : Net) (w0 wr : World) (B0 bx g gr P k : Nat) (vs : List Value) (nv : Array Value) (row : List Int) : Prop where
  rows : OwnF id wr g 40 g P vs
  row : OwnF (Value.int .i64) wr gr 3 gr row.length row
  done : RowsDone n wr g gr vs k
  net : Blk wr bx 24 nv
  below : Below B0 w0 wr
section
variable {n : Net} {w0 wr wr' : World} {B0 bx g gr P k : Nat} {vs : List Value} {nv : Array Value} {row : List Int}
theorem ISt.now (h : ISt n w0 wr B0 bx g gr P k vs nv row) (hb : Below wr.heap.size wr wr') (hB : B0 ≤ wr.heap.size) : ISt n w0 wr' B0 bx g gr P k vs nv row :=
  ⟨h.rows.now hb, h.row.now hb, h.done.keep (Nat.le_refl _) (fun b hb' => hb.block b (Nat.lt_trans hb'.2 h.row.lt)), h.net.now hb, below_step h.below hb hB⟩
theorem ISt.set_ (h : ISt n w0 wr B0 bx g gr P k vs nv row) (j : Nat) (z : Int) (h1 : bx < g) (h2 : g < gr) (hB : B0 ≤ gr) : ISt n w0 (wr.setCell ⟨gr, j, none⟩ (.int .i64 z)) B0 bx g gr P k vs nv (row.set j z) :=
  ⟨h.rows.far (by show gr ≠ g; omega) _, by rw [List.length_set]; exact h.row.set_ j z, h.done.keep (Nat.le_refl _) (fun b hb' => Below.heap_setCell _ _ _ b (by show b ≠ gr; omega)), h.net.far (by show bx ≠ gr; omega) _, h.below.setCell hB _⟩
end
theorem rowInfo : (Tryz.prog.info? 40).map (fun i => (i.zero, i.size, i.bytes)) = some (some (.slice none 0 0), 1, 24) := by kernel_rfl

end Go.Proofs.YtlkkfkkhllijbaaGreatDoor
