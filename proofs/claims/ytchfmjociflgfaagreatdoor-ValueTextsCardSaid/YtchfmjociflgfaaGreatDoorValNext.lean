/- value.assigned, value.InAll, value.Next and the reference's. -/
import Derived.Test.YtchfmjociflgfaaGreatDoorValFirst
import Derived.Deep.RegionWith
namespace Go.Proofs.YtchfmjociflgfaaGreatDoor
open Go.RowKit

/-! ### the plain side -/
def assignedB (l : List Var) (vs : List Val) : Bool := decide (vs.length = l.length) && (l.zip vs).all fun p => decide (0 ≤ placeV p.1 p.2)
def PlacedTo (l : List Var) (vs : List Val) (k : Nat) : Prop := ∀ (j : Nat) x v, j < k → l[j]? = some x → vs[j]? = some v → 0 ≤ placeV x v
theorem assigned_len {l : List Var} {vs : List Val} (h : vs.length ≠ l.length) : assignedB l vs = false := by
  unfold assignedB
  rw [decide_eq_false h]; rfl
theorem assigned_yes {l : List Var} {vs : List Val} (h : vs.length = l.length) (hp : PlacedTo l vs l.length) : assignedB l vs = true := by
  unfold assignedB
  rw [decide_eq_true h, Bool.true_and, List.all_eq_true]
  rintro ⟨x, v⟩ hm
  obtain ⟨j, hj, e⟩ := List.mem_iff_getElem.1 hm
  rw [List.getElem_zip] at e
  injection e with e1 e2
  rw [List.length_zip] at hj
  exact decide_eq_true (hp j x v (by omega) (by rw [← e1]; exact List.getElem?_eq_getElem (by omega)) (by rw [← e2]; exact List.getElem?_eq_getElem (by omega)))
theorem assigned_no {l : List Var} {vs : List Val} {j : Nat} {x : Var} {v : Val} (hx : l[j]? = some x) (hv : vs[j]? = some v) (h : placeV x v < 0) : assignedB l vs = false := by
  unfold assignedB
  rw [Bool.and_eq_false_iff]
  right
  rw [List.all_eq_false]
  refine ⟨(x, v), List.mem_of_getElem? (i := j) ?_, by simp; omega⟩
  rw [List.getElem?_zip_eq_some]
  exact ⟨hx, hv⟩
theorem assigned_at {l : List Var} {vs : List Val} (h : assignedB l vs = true) : vs.length = l.length ∧ PlacedTo l vs l.length := by
  unfold assignedB at h
  simp only [Bool.and_eq_true, decide_eq_true_eq] at h
  refine ⟨h.1, fun j x v _ hx hv => ?_⟩
  have := List.all_eq_true.1 h.2 (x, v) (List.mem_of_getElem? (i := j) (by rw [List.getElem?_zip_eq_some]; exact ⟨hx, hv⟩))
  simpa using this
theorem atS_le (l : List ByteArray) (s : ByteArray) : -1 ≤ atS l s ∧ atS l s < l.length := by
  unfold atS
  cases h : l.findIdx? (fun y => y.toList == s.toList) with
  | none => simp; omega
  | some i =>
    rw [List.findIdx?_eq_some_iff_getElem] at h
    obtain ⟨h1, _⟩ := h
    simp; omega
/-- The place of a valid value lies in the domain. -/
theorem place_lt {x : Var} {v : Val} (ht : Tame x) (hv : validV v = true) : -1 ≤ placeV x v ∧ placeV x v < sizeV x := by
  obtain ⟨nm, k, lo, hi, its⟩ := x
  obtain ⟨vk, vn, vs⟩ := v
  obtain ⟨_, _, ld, lk, li⟩ := ht
  dsimp only at ld lk li
  unfold placeV sizeV
  dsimp only
  by_cases e : vk = k
  · subst e
    rw [if_neg (by simp)]
    rcases lk with rfl | rfl | rfl
    · have := (valid1 hv rfl).1
      dsimp only at this
      simp; omega
    · simp
      have := ld rfl
      split <;> omega
    · simp
      exact atS_le its vs
  · rw [if_pos e]
    have : 0 < (if k = 1 then 2 else if k = 2 then hi - lo + 1 else (its.length : Int)) := by
      rcases lk with rfl | rfl | rfl
      · simp
      · have := ld rfl; simp; omega
      · have := li rfl; simp; omega
    omega
theorem sizeV_le {x : Var} (h : Tame x) : sizeV x ≤ 1000 := by
  obtain ⟨nm, k, lo, hi, its⟩ := x
  obtain ⟨_, _, ld, lk, li⟩ := h
  dsimp only at ld lk li
  rcases lk with rfl | rfl | rfl
  · show (2 : Int) ≤ 1000; omega
  · show hi - lo + 1 ≤ 1000; have := ld rfl; omega
  · show (its.length : Int) ≤ 1000; have := li rfl; omega

def nextFrom (l : List Var) (vs : List Val) : Nat → List Val → List Val × Bool
  | 0, _ => ([], false)
  | i + 1, out => match l[i]?, vs[i]? with
    | some x, some v => if placeV x v + 1 < sizeV x then (out.set i (nthV x (placeV x v + 1)), true) else nextFrom l vs i (out.set i (nthV x 0))
    | _, _ => ([], false)
def nextV (l : List Var) (vs : List Val) : List Val × Bool := nextFrom l vs l.length vs
theorem nextFrom_yes {l : List Var} {vs out : List Val} {i : Nat} {x : Var} {v : Val} (hx : l[i]? = some x) (hv : vs[i]? = some v) (h : placeV x v + 1 < sizeV x) : nextFrom l vs (i + 1) out = (out.set i (nthV x (placeV x v + 1)), true) := by
  unfold nextFrom; rw [hx, hv]; simp [h]
theorem nextFrom_no {l : List Var} {vs out : List Val} {i : Nat} {x : Var} {v : Val} (hx : l[i]? = some x) (hv : vs[i]? = some v) (h : ¬ placeV x v + 1 < sizeV x) : nextFrom l vs (i + 1) out = nextFrom l vs i (out.set i (nthV x 0)) := by
  rw [nextFrom, hx, hv]; simp [h]
def nextE (l : List Var) (vs : List Val) : List Val × Bool × Int :=
  if okB l vs then (if vs.length ≠ l.length then ([], false, 29) else if assignedB l vs then ((nextV l vs).1, (nextV l vs).2, 0) else ([], false, 11)) else ([], false, 1)
def inAllE (l : List Var) (vs : List Val) : Bool × Int := if okB l vs then (assignedB l vs, 0) else (false, 1)
theorem ok_vars {l : List Var} {vs : List Val} (h : okB l vs = true) : varsB l = true ∧ ∀ v ∈ vs, validV v = true := by
  unfold okB at h
  simp only [Bool.and_eq_true] at h
  exact ⟨h.1, List.all_eq_true.1 h.2⟩

/-! ### words for memory -/
theorem carry5 {w W : World} (hb : Below w.heap.size w W) {b o : Nat} {u0 u1 u2 u3 u4 : Value} (hD : b < w.heap.size) (c0 : w.cell? ⟨b, o, none⟩ = some u0) (c1 : w.cell? ⟨b, o + 1, none⟩ = some u1) (c2 : w.cell? ⟨b, o + 2, none⟩ = some u2) (c3 : w.cell? ⟨b, o + 3, none⟩ = some u3) (c4 : w.cell? ⟨b, o + 4, none⟩ = some u4) :
    W.cell? ⟨b, o, none⟩ = some u0 ∧ W.cell? ⟨b, o + 1, none⟩ = some u1 ∧ W.cell? ⟨b, o + 2, none⟩ = some u2 ∧ W.cell? ⟨b, o + 3, none⟩ = some u3 ∧ W.cell? ⟨b, o + 4, none⟩ = some u4 :=
  ⟨(hb.cell (p := ⟨b, o, none⟩) hD).trans c0, (hb.cell (p := ⟨b, o + 1, none⟩) hD).trans c1, (hb.cell (p := ⟨b, o + 2, none⟩) hD).trans c2, (hb.cell (p := ⟨b, o + 3, none⟩) hD).trans c3, (hb.cell (p := ⟨b, o + 4, none⟩) hD).trans c4⟩
theorem flat3_set (xs : List Val) : ∀ (k : Nat) (y : Val), k < xs.length → flat cellsV (xs.set k y) = (((flat cellsV xs).set (k * 3) (.int .i64 y.kind)).set (k * 3 + 1) (.int .i64 y.n)).set (k * 3 + 2) (.string y.s) := by
  induction xs with
  | nil => intro k y h; simp at h
  | cons x xs ih =>
    intro k y h
    cases k with
    | zero => rfl
    | succ k =>
      have e : flat cellsV (x :: xs) = .int .i64 x.kind :: .int .i64 x.n :: .string x.s :: flat cellsV xs := rfl
      have e2 : flat cellsV ((x :: xs).set (k + 1) y) = .int .i64 x.kind :: .int .i64 x.n :: .string x.s :: flat cellsV (xs.set k y) := rfl
      rw [e, e2, ih k y (by simpa using h)]
      have a0 : (k + 1) * 3 = k * 3 + 1 + 1 + 1 := by omega
      have a1 : (k + 1) * 3 + 1 = k * 3 + 1 + 1 + 1 + 1 := by omega
      have a2 : (k + 1) * 3 + 2 = k * 3 + 2 + 1 + 1 + 1 := by omega
      rw [a1, a2, a0]
      simp only [List.set_cons_succ]
theorem OwnV.set_ {w : World} {base g cap : Nat} {vs : List Val} (h : OwnV w base (.slice (some ⟨g, 0, none⟩) vs.length cap) vs) {k : Nat} (hk : k < vs.length) (y : Val) :
    OwnV (((w.setCell ⟨g, k * 3, none⟩ (.int .i64 y.kind)).setCell ⟨g, k * 3 + 1, none⟩ (.int .i64 y.n)).setCell ⟨g, k * 3 + 2, none⟩ (.string y.s)) base (.slice (some ⟨g, 0, none⟩) vs.length cap) (vs.set k y) := by
  have := (((World.ownsRow.stored h (k * 3) (.int .i64 y.kind)).1.stored (k * 3 + 1) (.int .i64 y.n)).1.stored (k * 3 + 2) (.string y.s)).1
  unfold OwnV OwnW
  rw [List.length_set, flat3_set vs k y hk]
  exact this
theorem OwnV.cells {w : World} {base g cap : Nat} {vs : List Val} (h : OwnV w base (.slice (some ⟨g, 0, none⟩) vs.length cap) vs) {k : Nat} (hk : k < vs.length) :
    ∃ x : Val, w.cell? ⟨g, k * 3, none⟩ = some (.int .i64 x.kind) ∧ w.cell? ⟨g, k * 3 + 1, none⟩ = some (.int .i64 x.n) ∧ w.cell? ⟨g, k * 3 + 2, none⟩ = some (.string x.s) ∧ w.frozen? ⟨g, k * 3, none⟩ = false ∧ w.frozen? ⟨g, k * 3 + 1, none⟩ = false ∧ w.frozen? ⟨g, k * 3 + 2, none⟩ = false := by
  have hx := List.getElem?_eq_getElem hk
  refine ⟨vs[k], ?_, ?_, ?_, World.ownsRow.frozenAt h _, World.ownsRow.frozenAt h _, World.ownsRow.frozenAt h _⟩
  · rw [World.ownsRow.cellAt h (k * 3) (by omega)]; exact flat_get cellsV_len vs k 0 _ hx (by omega)
  · rw [World.ownsRow.cellAt h (k * 3 + 1) (by omega)]; exact flat_get cellsV_len vs k 1 _ hx (by omega)
  · rw [World.ownsRow.cellAt h (k * 3 + 2) (by omega)]; exact flat_get cellsV_len vs k 2 _ hx (by omega)
theorem bput3 {B : Nat} {w w1 : World} {g : Nat} (h : Below B w w1) (hg : B ≤ g) (i j k : Nat) (x y z : Value) :
    Below B w (((w1.setCell ⟨g, i, none⟩ x).setCell ⟨g, j, none⟩ y).setCell ⟨g, k, none⟩ z) :=
  ((h.setCell (p := ⟨g, i, none⟩) hg x).setCell (p := ⟨g, j, none⟩) hg y).setCell (p := ⟨g, k, none⟩) hg z

/-! ### assigned -/
set_option maxHeartbeats 1000000 in
theorem assigned_any (l : List Var) (vs : List Val) (u v : Value) (w : World) (h : SlX (Lt w.heap.size) w u l) (hv : SlV (Lt w.heap.size) w v vs) (hl : varsB l = true) :
    Calls Tryz.prog 64 #[u, v] w fun e w' => e = .returned (.bool (assignedB l vs)) ∧ Below w.heap.size w w' := by
  obtain ⟨A, c, rfl, h1, h2, ht⟩ := h.open_
  obtain ⟨Av, cv, rfl, h1v, h2v, htv⟩ := hv.open_
  clear h hv
  have HQ := Lib.hid hl
  have h8 := vars_len hl
  clear hl
  go_enter Tryz.func64, Tryz.ntmps64
  by_cases hlen : vs.length = l.length
  rotate_left
  · have HE := Lib.hid (assigned_len hlen)
    have h3 : ((vs.length : Int) != (l.length : Int)) = true := by simp; omega
    clear hlen
    go_wp2_with fail
    go_ret
    exact ⟨ret_bool HE.out.symm, Below.refl _ _⟩
  have h3 : ((vs.length : Int) != (l.length : Int)) = false := by simp; omega
  go_wp2_with fail
  go_loopw [14] (fun i wr => ∃ j : Nat, j ≤ l.length ∧ i = .int .i64 j ∧ PlacedTo l vs j ∧ Below w.heap.size w wr) (fun i _ => l.length - (intOf i).toNat)
  case atStart => exact ⟨0, Nat.zero_le _, rfl, fun j _ _ h => absurd h (by omega), Below.refl _ _⟩
  case round =>
    obtain ⟨j, hj, rfl, hp, hb⟩ := hrel
    have HP := Lib.hid hp
    clear hp
    by_cases hlt : j < l.length
    · obtain ⟨b, o, x, iv, rfl, hD, hx, hvar, hiv, c0, c1, c2, c3, c4⟩ := (ht.now hb).at_ hlt
      obtain ⟨A2, k2, rfl, g1, g2, hiv⟩ := hiv.open_
      have hb1 := bone wr (.cells #[.string x.name, .int .i64 x.kind, .int .i64 x.low, .int .i64 x.high, .slice A2 x.items.length k2] 29)
      have hB1 := Blk.new wr 29 #[.string x.name, .int .i64 x.kind, .int .i64 x.low, .int .i64 x.high, .slice A2 x.items.length k2]
      have hvar1 := hvar.now hb1
      have hbw1 := bthen hb hb1
      obtain ⟨bv, ov, y, rfl, hDv, hy, hfy, d0, d1, d2⟩ := (htv.now hbw1).at_ (k := j) (by omega)
      have HX := Lib.hid hx
      have HY := Lib.hid hy
      have htm := tame_of (vars_each HQ.out hx)
      clear hx hy
      have HC := Lib.hid (place_any x y _ (wr.alloc (.cells #[.string x.name, .int .i64 x.kind, .int .i64 x.low, .int .i64 x.high, .slice A2 x.items.length k2] 29)).drew (hvar1.now (Below.refl _ _).drew) htm hfy)
      unfold valV at HC
      have i1 : (0 : Int) ≤ j := by omega
      have i2 : (j : Int) < (vs.length : Int) := by omega
      generalize hz : placeV x y = z at *
      have HZ := Lib.hid hz
      clear hz
      go_wp2_with fail
      go_region_with (go_at_call 67; refine HC.out.mono ?_; rintro e w3 ⟨rfl, hb3⟩)
      all_goals
        have hbw3 := bthen hbw1.drew hb3
        by_cases hz : z < 0
        · have HE := Lib.hid (assigned_no HX.out HY.out (by rw [HZ.out]; exact hz))
          go_wp2_with fail
          go_ret
          exact ⟨ret_bool HE.out.symm, hbw3⟩
        · go_wp2_with fail
          refine ⟨⟨_, _, _, _, ⟨j + 1, by omega, by simp, fun q a b hq ha hb' => ?_⟩, rfl, rfl, rfl, rfl⟩, by simp [intOf]; omega⟩
          by_cases e : q = j
          · subst e
            rw [HX.out] at ha; rw [HY.out] at hb'
            injection ha with ha; injection hb' with hb'
            subst ha hb'
            rw [HZ.out]; omega
          · exact HP.out q a b (by omega) ha hb'
    · obtain rfl : j = l.length := by omega
      have HE := Lib.hid (assigned_yes hlen HP.out)
      go_wp2_with fail
      go_ret
      exact ⟨ret_bool HE.out.symm, hb⟩
end Go.Proofs.YtchfmjociflgfaaGreatDoor
