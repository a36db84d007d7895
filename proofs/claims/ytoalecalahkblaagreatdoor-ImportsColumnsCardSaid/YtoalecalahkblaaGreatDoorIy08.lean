/- Texts of this seat, merged. -/
import Derived.Deep.CutRange
import Derived.Deep.CutBlock
import Derived.Laws.MakeOwn
import Derived.Laws.Entries
import Derived.Test.YtoalecalahkblaaGreatDoorIy01
import Derived.Test.YtoalecalahkblaaGreatDoorIy02
import Derived.Test.YtoalecalahkblaaGreatDoorIy03
import Derived.Test.YtoalecalahkblaaGreatDoorIy04
import Derived.Test.YtoalecalahkblaaGreatDoorIy05
import Derived.Test.YtoalecalahkblaaGreatDoorIy06
import Derived.Test.YtoalecalahkblaaGreatDoorIy07
set_option linter.all false
set_option linter.all false
namespace Go.Proofs.YtoalecalahkblaaGreatDoor
open Go.RowKit
def wCas : List Bt := [[99, 97, 115, 101], [99, 97, 115, 101, 95, 105, 100], [99, 97, 115, 101, 105, 100]]
def wAct : List Bt := [[97, 99, 116, 105, 118, 105, 116, 121], [97, 99, 116], [101, 118, 101, 110, 116]]
def wRes : List Bt := [[114, 101, 115, 111, 117, 114, 99, 101], [114, 101, 115], [117, 115, 101, 114]]
def wLife : List Bt := [[108, 105, 102, 101], [108, 105, 102, 101, 99, 121, 99, 108, 101]]
def wTime : List Bt := [[116, 105, 109, 101], [116, 105, 109, 101, 115, 116, 97, 109, 112], [109, 105, 110, 117, 116, 101]]
def wds0 : Wds := ⟨wCas, wAct, wRes, wLife, wTime⟩
def RetMp (p : Mp × Int) (w : World) (e : Ending) (w' : World) : Prop := ∃ u, e = .returned (.tuple #[u, .int .i64 p.2]) ∧ IsMp (Lt w'.heap.size) w' u p.1 ∧ Below w.heap.size w w'
theorem slP_lit (w : World) (t : TypeId) (ws : List Bt) (hm : ws.length ≤ 1000) (hl : ∀ l ∈ ws, l.length ≤ 1000) :
    SlP (Lt (w.alloc (.cells (ws.map fun l => Value.string (bsOf l)).toArray t)).heap.size) (w.alloc (.cells (ws.map fun l => Value.string (bsOf l)).toArray t)) (.slice (some ⟨w.heap.size, 0, none⟩) ws.length ws.length) ws := by
  have e : (ws.map fun l => Value.string (bsOf l)) = (ws.map bsOf).map Value.string := by rw [List.map_map]; rfl
  rw [e]
  have h := SlS.ofBlk (zs := ws.map bsOf) (Blk.new w t ((ws.map bsOf).map Value.string).toArray) (by rw [List.length_map]; unfold maxLen; omega) (by
    intro z hz
    obtain ⟨l, hl', rfl⟩ := List.mem_map.1 hz
    have := hl l hl'
    rw [bs_size]; unfold maxLen; omega)
  rw [List.length_map] at h
  exact h
theorem OwnZ.open_ {base : Nat} {w : World} {v : Value} {l : List Int} (h : OwnZ w base v l) : ∃ A c, v = .slice A l.length c := by
  rcases h.2 with ⟨rfl, h0⟩ | ⟨g, cap, cur, rfl, _⟩
  · rw [h0]; exact ⟨none, 0, rfl⟩
  · exact ⟨_, _, rfl⟩
end Go.Proofs.YtoalecalahkblaaGreatDoor

namespace Go.Proofs.YtoalecalahkblaaGreatDoor
open Go.RowKit
def OwnF {α : Type} (f : α → Value) (w : World) (base t g cap : Nat) (xs : List α) : Prop :=
  w.ownsRow base t 1 (.slice (some ⟨g, 0, none⟩) xs.length cap) xs.length (xs.map f) ∧ g < w.heap.size ∧ base ≤ g
section
variable {α : Type} {f : α → Value} {w w' : World} {base t g cap : Nat} {xs : List α}
theorem OwnF.cell (h : OwnF f w base t g cap xs) {k : Nat} {x : α} (hx : xs[k]? = some x) : w.cell? ⟨g, k, none⟩ = some (f x) := by
  have hk : k < xs.length := by
    rcases Nat.lt_or_ge k xs.length with h | h
    · exact h
    · rw [List.getElem?_eq_none h] at hx; cases hx
  rw [h.1.cellAt k (by omega)]; simp [hx]
theorem OwnF.frozen (h : OwnF f w base t g cap xs) (k : Nat) : w.frozen? ⟨g, k, none⟩ = false := h.1.frozenAt k
theorem OwnF.set_ (h : OwnF f w base t g cap xs) (k : Nat) (x : α) : OwnF f (w.setCell ⟨g, k, none⟩ (f x)) base t g cap (xs.set k x) := by
  refine ⟨?_, by simpa using h.2.1, h.2.2⟩
  have := (h.1.stored k (f x)).1
  rw [List.length_set, List.map_set]
  exact this
theorem OwnF.now (h : OwnF f w base t g cap xs) (hb : Below w.heap.size w w') : OwnF f w' base t g cap xs := ⟨own_now h.1 hb, Nat.lt_of_lt_of_le h.2.1 hb.size, h.2.2⟩
theorem OwnF.drew (h : OwnF f w base t g cap xs) : OwnF f w.drew base t g cap xs := h
theorem OwnF.drewN (h : OwnF f w base t g cap xs) (n : Nat) : OwnF f (w.drewN n) base t g cap xs := h
theorem OwnF.far (h : OwnF f w base t g cap xs) {p : Addr} (hp : p.block ≠ g) (u : Value) : OwnF f (w.setCell p u) base t g cap xs :=
  ⟨ownsRow_setCell_other h.1 (fun e => by injection e with e; exact hp e.symm) u, by simpa using h.2.1, h.2.2⟩
theorem OwnF.lt (h : OwnF f w base t g cap xs) : g < w.heap.size := h.2.1
theorem OwnF.from_ (h : OwnF f w base t g cap xs) : base ≤ g := h.2.2
theorem OwnF.mono {base' : Nat} (h : OwnF f w base t g cap xs) (hb : base' ≤ base) : OwnF f w base' t g cap xs := by
  refine ⟨⟨h.1.1, ?_⟩, h.2.1, Nat.le_trans hb h.2.2⟩
  rcases h.1.2 with h' | ⟨g', c', cur, e, h1, h2⟩
  · exact .inl h'
  · exact .inr ⟨g', c', cur, e, Nat.le_trans hb h1, h2⟩
theorem OwnF.made (w : World) (t n : Nat) (z : α) (hn : n ≤ maxLen) : OwnF f (w.alloc (.cells (madeCells #[f z] n) t)) w.heap.size t w.heap.size n (List.replicate n z) := by
  have hs : (madeCells #[f z] n).size = n * 1 := by simp [madeCells]
  have := World.ownsRow_lit (base := w.heap.size) (e := t) (size := 1) w (madeCells #[f z] n) n (Nat.le_refl _) hn hs
  refine ⟨?_, by simp, Nat.le_refl _⟩
  rw [List.length_replicate, List.map_replicate]
  rw [toList_madeCells_one] at this
  exact this
end
theorem run_make_n {P : Program} (t e : TypeId) (z : Value) (bytes : Nat) (ht : P.underlying t = some (.slice e)) (hi : (P.info? e).map (fun i => (i.zero, i.size, i.bytes)) = some (some z, 1, bytes)) (n : Nat) (hn : n ≤ 10000000) (hb : bytes ≤ 4096) (hzc : z.cells = #[z]) (w : World) :
    (Instr.makeSlice t (.int .i64 (n : Int)) (.int .i64 (n : Int))).run P w = .ok (.slice (some ⟨w.heap.size, 0, none⟩) n n) (w.alloc (.cells (madeCells #[z] n) e)) := by
  obtain ⟨i, hi, hz, hs, hby⟩ := info_parts hi
  have hb' : (i.bytes : Int) * (n : Int) ≤ 281474976710656 := by
    have h1 : i.bytes * n ≤ 4096 * 10000000 := Nat.mul_le_mul (by omega) hn
    have h : ((i.bytes * n : Nat) : Int) ≤ 281474976710656 := by omega
    rwa [Int.natCast_mul] at h
  have hr := run_make (P := P) w t e i z ht hi hz .i64 .i64 n n (by omega) (by omega) hb' (by omega)
  simp only [Int.toNat_natCast] at hr
  rw [hs, hzc, Nat.mul_one] at hr
  exact hr
end Go.Proofs.YtoalecalahkblaaGreatDoor

set_option linter.all false
namespace Go.Proofs.YtoalecalahkblaaGreatDoor
open Go.RowKit
theorem words_any (w : World) : Calls Tryz.prog 98 #[] w fun e w' => ∃ v, e = .returned v ∧ SlP (Lt w'.heap.size) w' v lifeW ∧ Below w.heap.size w w' := by
  have h := slP_lit w 9 lifeW (by decide) (by decide)
  have hb := bone w (.cells (lifeW.map fun l => Value.string (bsOf l)).toArray 9)
  go_enter Tryz.func98, Tryz.ntmps98
  go_wp2_with fail
  go_ret
  exact ⟨_, rfl, h, hb⟩
def OwnCells (w : World) (base g cap : Nat) (r : List Bt) : Prop := OwnF (fun l : Bt => Value.string (bsOf l)) w base 9 g cap r
theorem OwnCells.setZ {w : World} {base g cap : Nat} {r : List Bt} (h : OwnCells w base g cap r) {k : Int} {n : Nat} (hk : k = (n : Int)) (s : Bt) : OwnCells (w.setCell ⟨g, n, none⟩ (.string (bsOf s))) base g cap (setZ r k s) := by
  subst hk
  exact OwnF.set_ h n s
end Go.Proofs.YtoalecalahkblaaGreatDoor
