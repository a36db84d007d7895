/- Texts of this seat, merged. -/
import Derived.Deep.CutRange
import Derived.Deep.CutBlock
import Derived.Laws.MakeOwn
import Derived.Laws.Entries
import Derived.Test.YtoalecalahkblaaGreatDoorIx01
import Derived.Test.YtoalecalahkblaaGreatDoorIx02
import Derived.Test.YtoalecalahkblaaGreatDoorIx03
import Derived.Test.YtoalecalahkblaaGreatDoorIx04
set_option linter.all false
set_option linter.all false
namespace Go.Proofs.YtoalecalahkblaaGreatDoor
open Go.RowKit
def wCas : List Bt := [[99, 97, 115, 101], [99, 97, 115, 101, 95, 105, 100], [99, 97, 115, 101, 105, 100]]
def wAct : List Bt := [[97, 99, 116, 105, 118, 105, 116, 121], [97, 99, 116], [101, 118, 101, 110, 116]]
def wRes : List Bt := [[114, 101, 115, 111, 117, 114, 99, 101], [114, 101, 115], [117, 115, 101, 114]]
def wLife : List Bt := [[108, 105, 102, 101], [108, 105, 102, 101, 99, 121, 99, 108, 101]]
def wTime : List Bt := [[116, 105, 109, 101], [116, 105, 109, 101, 115, 116, 97, 109, 112], [109, 105, 110, 117, 116, 101]]
def wds0 : Wds := ⟨wCas, wAct, wRes, wLife, wTime⟩
def RetMp (p : Mp × Int) (w : World) (e : Ending) (w' : World) : Prop := ∃ u, e = .returned (.tuple #[u, .int .i64 p.2]) ∧ IsMp (Lt w'.heap.size) w' u p.1 ∧ Below w.heap.size w w'
theorem OwnZ.open_ {base : Nat} {w : World} {v : Value} {l : List Int} (h : OwnZ w base v l) : ∃ A c, v = .slice A l.length c := by
  rcases h.2 with ⟨rfl, h0⟩ | ⟨g, cap, cur, rfl, _⟩
  · rw [h0]; exact ⟨none, 0, rfl⟩
  · exact ⟨_, _, rfl⟩
end Go.Proofs.YtoalecalahkblaaGreatDoor

namespace Go.Proofs.YtoalecalahkblaaGreatDoor
open Go.RowKit
def OwnF {α : Type} (f : α → Value) (w : World) (base t g cap : Nat) (xs : List α) : Prop :=
  w.ownsRow base t 1 (.slice (some ⟨g, 0, none⟩) xs.length cap) xs.length (xs.map f) ∧ g < w.heap.size ∧ base ≤ g
section
variable {α : Type} {f : α → Value} {w w' : World} {base t g cap : Nat} {xs : List α}
theorem OwnF.cell (h : OwnF f w base t g cap xs) {k : Nat} {x : α} (hx : xs[k]? = some x) : w.cell? ⟨g, k, none⟩ = some (f x) := by
  have hk : k < xs.length := by
    rcases Nat.lt_or_ge k xs.length with h | h
    · exact h
    · rw [List.getElem?_eq_none h] at hx; cases hx
  rw [h.1.cellAt k (by omega)]; simp [hx]
theorem OwnF.frozen (h : OwnF f w base t g cap xs) (k : Nat) : w.frozen? ⟨g, k, none⟩ = false := h.1.frozenAt k
theorem OwnF.set_ (h : OwnF f w base t g cap xs) (k : Nat) (x : α) : OwnF f (w.setCell ⟨g, k, none⟩ (f x)) base t g cap (xs.set k x) := by
  refine ⟨?_, by simpa using h.2.1, h.2.2⟩
  have := (h.1.stored k (f x)).1
  rw [List.length_set, List.map_set]
  exact this
theorem OwnF.now (h : OwnF f w base t g cap xs) (hb : Below w.heap.size w w') : OwnF f w' base t g cap xs := ⟨own_now h.1 hb, Nat.lt_of_lt_of_le h.2.1 hb.size, h.2.2⟩
theorem OwnF.drew (h : OwnF f w base t g cap xs) : OwnF f w.drew base t g cap xs := h
theorem OwnF.drewN (h : OwnF f w base t g cap xs) (n : Nat) : OwnF f (w.drewN n) base t g cap xs := h
theorem OwnF.far (h : OwnF f w base t g cap xs) {p : Addr} (hp : p.block ≠ g) (u : Value) : OwnF f (w.setCell p u) base t g cap xs :=
  ⟨ownsRow_setCell_other h.1 (fun e => by injection e with e; exact hp e.symm) u, by simpa using h.2.1, h.2.2⟩
theorem OwnF.lt (h : OwnF f w base t g cap xs) : g < w.heap.size := h.2.1
theorem OwnF.from_ (h : OwnF f w base t g cap xs) : base ≤ g := h.2.2
theorem OwnF.mono {base' : Nat} (h : OwnF f w base t g cap xs) (hb : base' ≤ base) : OwnF f w base' t g cap xs := by
  refine ⟨⟨h.1.1, ?_⟩, h.2.1, Nat.le_trans hb h.2.2⟩
  rcases h.1.2 with h' | ⟨g', c', cur, e, h1, h2⟩
  · exact .inl h'
  · exact .inr ⟨g', c', cur, e, Nat.le_trans hb h1, h2⟩
theorem OwnF.made (w : World) (t n : Nat) (z : α) (hn : n ≤ maxLen) : OwnF f (w.alloc (.cells (madeCells #[f z] n) t)) w.heap.size t w.heap.size n (List.replicate n z) := by
  have hs : (madeCells #[f z] n).size = n * 1 := by simp [madeCells]
  have := World.ownsRow_lit (base := w.heap.size) (e := t) (size := 1) w (madeCells #[f z] n) n (Nat.le_refl _) hn hs
  refine ⟨?_, by simp, Nat.le_refl _⟩
  rw [List.length_replicate, List.map_replicate]
  rw [toList_madeCells_one] at this
  exact this
end
theorem run_make_n {P : Program} (t e : TypeId) (z : Value) (bytes : Nat) (ht : P.underlying t = some (.slice e)) (hi : (P.info? e).map (fun i => (i.zero, i.size, i.bytes)) = some (some z, 1, bytes)) (n : Nat) (hn : n ≤ 10000000) (hb : bytes ≤ 4096) (hzc : z.cells = #[z]) (w : World) :
    (Instr.makeSlice t (.int .i64 (n : Int)) (.int .i64 (n : Int))).run P w = .ok (.slice (some ⟨w.heap.size, 0, none⟩) n n) (w.alloc (.cells (madeCells #[z] n) e)) := by
  obtain ⟨i, hi, hz, hs, hby⟩ := info_parts hi
  have hb' : (i.bytes : Int) * (n : Int) ≤ 281474976710656 := by
    have h1 : i.bytes * n ≤ 4096 * 10000000 := Nat.mul_le_mul (by omega) hn
    have h : ((i.bytes * n : Nat) : Int) ≤ 281474976710656 := by omega
    rwa [Int.natCast_mul] at h
  have hr := run_make (P := P) w t e i z ht hi hz .i64 .i64 n n (by omega) (by omega) hb' (by omega)
  simp only [Int.toNat_natCast] at hr
  rw [hs, hzc, Nat.mul_one] at hr
  exact hr
end Go.Proofs.YtoalecalahkblaaGreatDoor

set_option linter.all false
namespace Go.Proofs.YtoalecalahkblaaGreatDoor
open Go.RowKit
def OwnCells (w : World) (base g cap : Nat) (r : List Bt) : Prop := OwnF (fun l : Bt => Value.string (bsOf l)) w base 9 g cap r
theorem OwnCells.setZ {w : World} {base g cap : Nat} {r : List Bt} (h : OwnCells w base g cap r) {k : Int} {n : Nat} (hk : k = (n : Int)) (s : Bt) : OwnCells (w.setCell ⟨g, n, none⟩ (.string (bsOf s))) base g cap (setZ r k s) := by
  subst hk
  exact OwnF.set_ h n s
end Go.Proofs.YtoalecalahkblaaGreatDoor

set_option linter.all false
namespace Go.Proofs.YtoalecalahkblaaGreatDoor
open Go.RowKit
def Btw (a b : Nat) : Nat → Prop := fun g => a ≤ g ∧ g < b
def RetRow (p : List Bt × Int) (w : World) (e : Ending) (w' : World) : Prop := ∃ v, e = .returned (.tuple #[v, .int .i64 p.2]) ∧ SlP (Btw w.heap.size w'.heap.size) w' v p.1 ∧ Below w.heap.size w w'
set_option maxHeartbeats 2000000 in
set_option maxRecDepth 100000 in
theorem row_err (vt : Val → Bt) (names : List Bs) (m : Mp) (width : Nat) (e : Ev) (ue un um : Value) (w : World) (he : IsEv (Lt w.heap.size) w ue e) (hm : IsMp (Lt w.heap.size) w um m)
    (hbad : (m.res < 0 ∧ e.res.data.toList ≠ []) ∨ (m.life < 0 ∧ e.life ≠ 5)) :
    Calls Tryz.prog 88 #[ue, un, um, .int .i64 (width : Int)] w (RetRow (rowX vt names m width e) w) := by
  obtain ⟨dv, rfl, hfe, hd⟩ := he
  obtain ⟨mv, kv, rfl, _, hmd, hmk⟩ := hm
  obtain ⟨Ad, cd, rfl, _, _, _⟩ := hd.open_
  obtain ⟨Am, cm, rfl, _, _, _⟩ := hmd.open_
  obtain ⟨Ak, ck, rfl, _, _, _⟩ := hmk.open_
  unfold evV mpV
  obtain ⟨z, hz⟩ : ∃ z, (m.sep.toNat : Int) = z := ⟨_, rfl⟩
  rw [hz]
  have hb1 := bone w (.cells #[.string e.cas, .string e.act, .string e.res, .int .i64 e.life, .int .i64 e.time, .slice Ad e.data.length cd] 69)
  have k1 := Blk.new w 69 #[.string e.cas, .string e.act, .string e.res, .int .i64 e.life, .int .i64 e.time, .slice Ad e.data.length cd]
  clear hd hmd hmk hz hfe
  go_enter Tryz.func88, Tryz.ntmps88
  go_upto_region 1 with fail
  obtain ⟨w1, hw1⟩ : ∃ w1, w.alloc (.cells #[.string e.cas, .string e.act, .string e.res, .int .i64 e.life, .int .i64 e.time, .slice Ad e.data.length cd] 69) = w1 := ⟨_, rfl⟩
  have z1 : w1.heap.size = w.heap.size + 1 := by rw [← hw1]; simp
  rw [hw1] at hb1 k1 ⊢
  clear hw1
  have hb2 := bone w1 (.cells #[.int .i64 m.cas, .int .i64 m.act, .int .i64 m.res, .int .i64 m.life, .int .i64 m.time, .slice Am m.data.length cm, .slice Ak m.kinds.length ck, .int .u8 z] 33)
  have k2 := Blk.new w1 33 #[.int .i64 m.cas, .int .i64 m.act, .int .i64 m.res, .int .i64 m.life, .int .i64 m.time, .slice Am m.data.length cm, .slice Ak m.kinds.length ck, .int .u8 z]
  have k1 := k1.now hb2
  have hB := Lib.hid (bthen hb1 hb2)
  obtain ⟨w2, hw2⟩ : ∃ w2, w1.alloc (.cells #[.int .i64 m.cas, .int .i64 m.act, .int .i64 m.res, .int .i64 m.life, .int .i64 m.time, .slice Am m.data.length cm, .slice Ak m.kinds.length ck, .int .u8 z] 33) = w2 := ⟨_, rfl⟩
  rw [hw2] at hB k1 k2 ⊢
  rw [z1] at k2
  clear hw2 z1 hb1 hb2
  obtain ⟨a0, a1, a2, a3, a4, a5⟩ := k1.c6
  obtain ⟨c0, c1, c2, c3, c4, c5, c6, c7⟩ := k2.c8m
  clear k1 k2
  by_cases h1 : m.res < 0 ∧ e.res.data.toList ≠ []
  · have HE : Hid (rowX vt names m width e = ([], 12)) := by show _ = _; unfold rowX; rw [if_pos h1]
    obtain ⟨h1, h2⟩ := h1
    have x1 : (!e.res.toList.isEmpty) = true := by
      rw [Lib.toList_data]
      cases hq : e.res.data.toList with
      | nil => exact absurd hq h2
      | cons a l => rfl
    have x2 : e.res.toList ≠ [] := by rw [Lib.toList_data]; exact h2
    clear h2 hbad
    go_wp2_with fail
    go_ret2
    show RetRow _ _ _ _
    rw [HE.out]
    exact ⟨_, rfl, Sl.none_, hB.out⟩
  · have h2 := hbad.resolve_left h1
    have HE : Hid (rowX vt names m width e = ([], 20)) := by show _ = _; unfold rowX; rw [if_neg h1, if_pos h2]
    obtain ⟨h3, h4⟩ := h2
    have x4 : (e.life != 5) = true := by simpa using h4
    by_cases h5 : m.res < 0
    · have h6 : e.res.data.toList = [] := by
        rcases Classical.em (e.res.data.toList = []) with h | h
        · exact h
        · exact absurd ⟨h5, h⟩ h1
      have x1 : e.res.toList = [] := by rw [Lib.toList_data]; exact h6
      have x2 : (!e.res.toList.isEmpty) = false := by rw [x1]; rfl
      clear h1 h4 h6 hbad
      go_wp2_with fail
      go_ret2
      show RetRow _ _ _ _
      rw [HE.out]
      exact ⟨_, rfl, Sl.none_, hB.out⟩
    · clear h1 h4 hbad
      go_wp2_with fail
      go_ret2
      show RetRow _ _ _ _
      rw [HE.out]
      exact ⟨_, rfl, Sl.none_, hB.out⟩
end Go.Proofs.YtoalecalahkblaaGreatDoor
