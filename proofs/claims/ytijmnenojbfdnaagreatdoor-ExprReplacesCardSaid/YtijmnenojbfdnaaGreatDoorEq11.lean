/- Texts of this seat, merged. -/
import Derived.Deep.RegionWith
import Derived.Lib.ItoaLen
import Derived.Test.YtijmnenojbfdnaaGreatDoorEq01
import Derived.Test.YtijmnenojbfdnaaGreatDoorEq02
import Derived.Test.YtijmnenojbfdnaaGreatDoorEq03
import Derived.Test.YtijmnenojbfdnaaGreatDoorEq04
import Derived.Test.YtijmnenojbfdnaaGreatDoorEq05
import Derived.Test.YtijmnenojbfdnaaGreatDoorEq06
import Derived.Test.YtijmnenojbfdnaaGreatDoorEq07
import Derived.Test.YtijmnenojbfdnaaGreatDoorEq08
import Derived.Test.YtijmnenojbfdnaaGreatDoorEq09
import Derived.Test.YtijmnenojbfdnaaGreatDoorEq10
set_option linter.unusedSimpArgs false
set_option linter.unusedVariables false
namespace Go.Proofs.YtijmnenojbfdnaaGreatDoor
open Go.RowKit
def assignedB (l : List Var) (vs : List Val) : Bool := decide (vs.length = l.length) && (l.zip vs).all fun p => decide (0 ≤ placeV p.1 p.2)
def PlacedTo (l : List Var) (vs : List Val) (k : Nat) : Prop := ∀ (j : Nat) x v, j < k → l[j]? = some x → vs[j]? = some v → 0 ≤ placeV x v
theorem assigned_len {l : List Var} {vs : List Val} (h : vs.length ≠ l.length) : assignedB l vs = false := by
  unfold assignedB
  rw [decide_eq_false h]; rfl
theorem assigned_yes {l : List Var} {vs : List Val} (h : vs.length = l.length) (hp : PlacedTo l vs l.length) : assignedB l vs = true := by
  unfold assignedB
  rw [decide_eq_true h, Bool.true_and, List.all_eq_true]
  rintro ⟨x, v⟩ hm
  obtain ⟨j, hj, e⟩ := List.mem_iff_getElem.1 hm
  rw [List.getElem_zip] at e
  injection e with e1 e2
  rw [List.length_zip] at hj
  exact decide_eq_true (hp j x v (by omega) (by rw [← e1]; exact List.getElem?_eq_getElem (by omega)) (by rw [← e2]; exact List.getElem?_eq_getElem (by omega)))
theorem assigned_no {l : List Var} {vs : List Val} {j : Nat} {x : Var} {v : Val} (hx : l[j]? = some x) (hv : vs[j]? = some v) (h : placeV x v < 0) : assignedB l vs = false := by
  unfold assignedB
  rw [Bool.and_eq_false_iff]
  right
  rw [List.all_eq_false]
  refine ⟨(x, v), List.mem_of_getElem? (i := j) ?_, by simp; omega⟩
  rw [List.getElem?_zip_eq_some]
  exact ⟨hx, hv⟩
theorem assigned_at {l : List Var} {vs : List Val} (h : assignedB l vs = true) : vs.length = l.length ∧ PlacedTo l vs l.length := by
  unfold assignedB at h
  simp only [Bool.and_eq_true, decide_eq_true_eq] at h
  refine ⟨h.1, fun j x v _ hx hv => ?_⟩
  have := List.all_eq_true.1 h.2 (x, v) (List.mem_of_getElem? (i := j) (by rw [List.getElem?_zip_eq_some]; exact ⟨hx, hv⟩))
  simpa using this
theorem atS_le (l : List ByteArray) (s : ByteArray) : -1 ≤ atS l s ∧ atS l s < l.length := by
  unfold atS
  cases h : l.findIdx? (fun y => y.toList == s.toList) with
  | none => simp; omega
  | some i =>
    rw [List.findIdx?_eq_some_iff_getElem] at h
    obtain ⟨h1, _⟩ := h
    simp; omega
theorem place_lt {x : Var} {v : Val} (ht : Tame x) (hv : validV v = true) : -1 ≤ placeV x v ∧ placeV x v < sizeV x := by
  obtain ⟨nm, k, lo, hi, its⟩ := x
  obtain ⟨vk, vn, vs⟩ := v
  obtain ⟨_, _, ld, lk, li⟩ := ht
  dsimp only at ld lk li
  unfold placeV sizeV
  dsimp only
  by_cases e : vk = k
  · subst e
    rw [if_neg (by simp)]
    rcases lk with rfl | rfl | rfl
    · have := (valid1 hv rfl).1
      dsimp only at this
      simp; omega
    · simp
      have := ld rfl
      split <;> omega
    · simp
      exact atS_le its vs
  · rw [if_pos e]
    have : 0 < (if k = 1 then 2 else if k = 2 then hi - lo + 1 else (its.length : Int)) := by
      rcases lk with rfl | rfl | rfl
      · simp
      · have := ld rfl; simp; omega
      · have := li rfl; simp; omega
    omega
theorem sizeV_le {x : Var} (h : Tame x) : sizeV x ≤ 1000 := by
  obtain ⟨nm, k, lo, hi, its⟩ := x
  obtain ⟨_, _, ld, lk, li⟩ := h
  dsimp only at ld lk li
  rcases lk with rfl | rfl | rfl
  · show (2 : Int) ≤ 1000; omega
  · show hi - lo + 1 ≤ 1000; have := ld rfl; omega
  · show (its.length : Int) ≤ 1000; have := li rfl; omega
def nextFrom (l : List Var) (vs : List Val) : Nat → List Val → List Val × Bool
  | 0, _ => ([], false)
  | i + 1, out => match l[i]?, vs[i]? with
    | some x, some v => if placeV x v + 1 < sizeV x then (out.set i (nthV x (placeV x v + 1)), true) else nextFrom l vs i (out.set i (nthV x 0))
    | _, _ => ([], false)
def nextV (l : List Var) (vs : List Val) : List Val × Bool := nextFrom l vs l.length vs
theorem nextFrom_yes {l : List Var} {vs out : List Val} {i : Nat} {x : Var} {v : Val} (hx : l[i]? = some x) (hv : vs[i]? = some v) (h : placeV x v + 1 < sizeV x) : nextFrom l vs (i + 1) out = (out.set i (nthV x (placeV x v + 1)), true) := by
  unfold nextFrom; rw [hx, hv]; simp [h]
theorem nextFrom_no {l : List Var} {vs out : List Val} {i : Nat} {x : Var} {v : Val} (hx : l[i]? = some x) (hv : vs[i]? = some v) (h : ¬ placeV x v + 1 < sizeV x) : nextFrom l vs (i + 1) out = nextFrom l vs i (out.set i (nthV x 0)) := by
  rw [nextFrom, hx, hv]; simp [h]
def nextE (l : List Var) (vs : List Val) : List Val × Bool × Int :=
  if okB l vs then (if vs.length ≠ l.length then ([], false, 29) else if assignedB l vs then ((nextV l vs).1, (nextV l vs).2, 0) else ([], false, 11)) else ([], false, 1)
def inAllE (l : List Var) (vs : List Val) : Bool × Int := if okB l vs then (assignedB l vs, 0) else (false, 1)
theorem ok_vars {l : List Var} {vs : List Val} (h : okB l vs = true) : varsB l = true ∧ ∀ v ∈ vs, validV v = true := by
  unfold okB at h
  simp only [Bool.and_eq_true] at h
  exact ⟨h.1, List.all_eq_true.1 h.2⟩
theorem carry5 {w W : World} (hb : Below w.heap.size w W) {b o : Nat} {u0 u1 u2 u3 u4 : Value} (hD : b < w.heap.size) (c0 : w.cell? ⟨b, o, none⟩ = some u0) (c1 : w.cell? ⟨b, o + 1, none⟩ = some u1) (c2 : w.cell? ⟨b, o + 2, none⟩ = some u2) (c3 : w.cell? ⟨b, o + 3, none⟩ = some u3) (c4 : w.cell? ⟨b, o + 4, none⟩ = some u4) :
    W.cell? ⟨b, o, none⟩ = some u0 ∧ W.cell? ⟨b, o + 1, none⟩ = some u1 ∧ W.cell? ⟨b, o + 2, none⟩ = some u2 ∧ W.cell? ⟨b, o + 3, none⟩ = some u3 ∧ W.cell? ⟨b, o + 4, none⟩ = some u4 :=
  ⟨(hb.cell (p := ⟨b, o, none⟩) hD).trans c0, (hb.cell (p := ⟨b, o + 1, none⟩) hD).trans c1, (hb.cell (p := ⟨b, o + 2, none⟩) hD).trans c2, (hb.cell (p := ⟨b, o + 3, none⟩) hD).trans c3, (hb.cell (p := ⟨b, o + 4, none⟩) hD).trans c4⟩
theorem flat3_set (xs : List Val) : ∀ (k : Nat) (y : Val), k < xs.length → flat cellsV (xs.set k y) = (((flat cellsV xs).set (k * 3) (.int .i64 y.kind)).set (k * 3 + 1) (.int .i64 y.n)).set (k * 3 + 2) (.string y.s) := by
  induction xs with
  | nil => intro k y h; simp at h
  | cons x xs ih =>
    intro k y h
    cases k with
    | zero => rfl
    | succ k =>
      have e : flat cellsV (x :: xs) = .int .i64 x.kind :: .int .i64 x.n :: .string x.s :: flat cellsV xs := rfl
      have e2 : flat cellsV ((x :: xs).set (k + 1) y) = .int .i64 x.kind :: .int .i64 x.n :: .string x.s :: flat cellsV (xs.set k y) := rfl
      rw [e, e2, ih k y (by simpa using h)]
      have a0 : (k + 1) * 3 = k * 3 + 1 + 1 + 1 := by omega
      have a1 : (k + 1) * 3 + 1 = k * 3 + 1 + 1 + 1 + 1 := by omega
      have a2 : (k + 1) * 3 + 2 = k * 3 + 2 + 1 + 1 + 1 := by omega
      rw [a1, a2, a0]
      simp only [List.set_cons_succ]
theorem OwnV.set_ {w : World} {base g cap : Nat} {vs : List Val} (h : OwnV w base (.slice (some ⟨g, 0, none⟩) vs.length cap) vs) {k : Nat} (hk : k < vs.length) (y : Val) :
    OwnV (((w.setCell ⟨g, k * 3, none⟩ (.int .i64 y.kind)).setCell ⟨g, k * 3 + 1, none⟩ (.int .i64 y.n)).setCell ⟨g, k * 3 + 2, none⟩ (.string y.s)) base (.slice (some ⟨g, 0, none⟩) vs.length cap) (vs.set k y) := by
  have := (((World.ownsRow.stored h (k * 3) (.int .i64 y.kind)).1.stored (k * 3 + 1) (.int .i64 y.n)).1.stored (k * 3 + 2) (.string y.s)).1
  unfold OwnV OwnW
  rw [List.length_set, flat3_set vs k y hk]
  exact this
theorem OwnV.cells {w : World} {base g cap : Nat} {vs : List Val} (h : OwnV w base (.slice (some ⟨g, 0, none⟩) vs.length cap) vs) {k : Nat} (hk : k < vs.length) :
    ∃ x : Val, w.cell? ⟨g, k * 3, none⟩ = some (.int .i64 x.kind) ∧ w.cell? ⟨g, k * 3 + 1, none⟩ = some (.int .i64 x.n) ∧ w.cell? ⟨g, k * 3 + 2, none⟩ = some (.string x.s) ∧ w.frozen? ⟨g, k * 3, none⟩ = false ∧ w.frozen? ⟨g, k * 3 + 1, none⟩ = false ∧ w.frozen? ⟨g, k * 3 + 2, none⟩ = false := by
  have hx := List.getElem?_eq_getElem hk
  refine ⟨vs[k], ?_, ?_, ?_, World.ownsRow.frozenAt h _, World.ownsRow.frozenAt h _, World.ownsRow.frozenAt h _⟩
  · rw [World.ownsRow.cellAt h (k * 3) (by omega)]; exact flat_get cellsV_len vs k 0 _ hx (by omega)
  · rw [World.ownsRow.cellAt h (k * 3 + 1) (by omega)]; exact flat_get cellsV_len vs k 1 _ hx (by omega)
  · rw [World.ownsRow.cellAt h (k * 3 + 2) (by omega)]; exact flat_get cellsV_len vs k 2 _ hx (by omega)
theorem bput3 {B : Nat} {w w1 : World} {g : Nat} (h : Below B w w1) (hg : B ≤ g) (i j k : Nat) (x y z : Value) :
    Below B w (((w1.setCell ⟨g, i, none⟩ x).setCell ⟨g, j, none⟩ y).setCell ⟨g, k, none⟩ z) :=
  ((h.setCell (p := ⟨g, i, none⟩) hg x).setCell (p := ⟨g, j, none⟩) hg y).setCell (p := ⟨g, k, none⟩) hg z
set_option maxHeartbeats 1000000 in
theorem assigned_any (l : List Var) (vs : List Val) (u v : Value) (w : World) (h : SlX (Lt w.heap.size) w u l) (hv : SlV (Lt w.heap.size) w v vs) (hl : varsB l = true) :
    Calls Tryz.prog 70 #[u, v] w fun e w' => e = .returned (.bool (assignedB l vs)) ∧ Below w.heap.size w w' := by
  obtain ⟨A, c, rfl, h1, h2, ht⟩ := h.open_
  obtain ⟨Av, cv, rfl, h1v, h2v, htv⟩ := hv.open_
  clear h hv
  have HQ := Lib.hid hl
  have h8 := vars_len hl
  clear hl
  go_enter Tryz.func70, Tryz.ntmps70
  by_cases hlen : vs.length = l.length
  rotate_left
  · have HE := Lib.hid (assigned_len hlen)
    have h3 : ((vs.length : Int) != (l.length : Int)) = true := by simp; omega
    clear hlen
    go_wp2_with fail
    go_ret
    exact ⟨ret_bool HE.out.symm, Below.refl _ _⟩
  have h3 : ((vs.length : Int) != (l.length : Int)) = false := by simp; omega
  go_wp2_with fail
  go_loopw [14] (fun i wr => ∃ j : Nat, j ≤ l.length ∧ i = .int .i64 j ∧ PlacedTo l vs j ∧ Below w.heap.size w wr) (fun i _ => l.length - (intOf i).toNat)
  case atStart => exact ⟨0, Nat.zero_le _, rfl, fun j _ _ h => absurd h (by omega), Below.refl _ _⟩
  case round =>
    obtain ⟨j, hj, rfl, hp, hb⟩ := hrel
    have HP := Lib.hid hp
    clear hp
    by_cases hlt : j < l.length
    · obtain ⟨b, o, x, iv, rfl, hD, hx, hvar, hiv, c0, c1, c2, c3, c4⟩ := (ht.now hb).at_ hlt
      obtain ⟨A2, k2, rfl, g1, g2, hiv⟩ := hiv.open_
      have hb1 := bone wr (.cells #[.string x.name, .int .i64 x.kind, .int .i64 x.low, .int .i64 x.high, .slice A2 x.items.length k2] 68)
      have hB1 := Blk.new wr 68 #[.string x.name, .int .i64 x.kind, .int .i64 x.low, .int .i64 x.high, .slice A2 x.items.length k2]
      have hvar1 := hvar.now hb1
      have hbw1 := bthen hb hb1
      obtain ⟨bv, ov, y, rfl, hDv, hy, hfy, d0, d1, d2⟩ := (htv.now hbw1).at_ (k := j) (by omega)
      have HX := Lib.hid hx
      have HY := Lib.hid hy
      have htm := tame_of (vars_each HQ.out hx)
      clear hx hy
      have HC := Lib.hid (place_any x y _ (wr.alloc (.cells #[.string x.name, .int .i64 x.kind, .int .i64 x.low, .int .i64 x.high, .slice A2 x.items.length k2] 68)).drew (hvar1.now (Below.refl _ _).drew) htm hfy)
      unfold valV at HC
      have i1 : (0 : Int) ≤ j := by omega
      have i2 : (j : Int) < (vs.length : Int) := by omega
      generalize hz : placeV x y = z at *
      have HZ := Lib.hid hz
      clear hz
      go_wp2_with fail
      go_region_with (go_at_call 111; refine HC.out.mono ?_; rintro e w3 ⟨rfl, hb3⟩)
      all_goals
        have hbw3 := bthen hbw1.drew hb3
        by_cases hz : z < 0
        · have HE := Lib.hid (assigned_no HX.out HY.out (by rw [HZ.out]; exact hz))
          go_wp2_with fail
          go_ret
          exact ⟨ret_bool HE.out.symm, hbw3⟩
        · go_wp2_with fail
          refine ⟨⟨_, _, _, _, ⟨j + 1, by omega, by simp, fun q a b hq ha hb' => ?_⟩, rfl, rfl, rfl, rfl⟩, by simp [intOf]; omega⟩
          by_cases e : q = j
          · subst e
            rw [HX.out] at ha; rw [HY.out] at hb'
            injection ha with ha; injection hb' with hb'
            subst ha hb'
            rw [HZ.out]; omega
          · exact HP.out q a b (by omega) ha hb'
    · obtain rfl : j = l.length := by omega
      have HE := Lib.hid (assigned_yes hlen HP.out)
      go_wp2_with fail
      go_ret
      exact ⟨ret_bool HE.out.symm, hb⟩
end Go.Proofs.YtijmnenojbfdnaaGreatDoor

namespace Go.Proofs.YtijmnenojbfdnaaGreatDoor
open Go.RowKit
inductive Ex where
  | mk (op : Int) (v : Val) (s : ByteArray) (l : List Ex) : Ex
def Ex.op : Ex → Int | .mk o _ _ _ => o
def Ex.v : Ex → Val | .mk _ v _ _ => v
def Ex.s : Ex → ByteArray | .mk _ _ s _ => s
def Ex.l : Ex → List Ex | .mk _ _ _ l => l
def keyWords : List (List UInt8) := [[97, 110, 100], [101, 108, 115, 101], [102, 97, 108, 115, 101], [105, 102], [105, 110], [110, 111, 116], [111, 114], [116, 104, 101, 110], [116, 114, 117, 101]]
def keyB (s : ByteArray) : Bool := keyWords.any fun w => s.toList == w
def zeroV (v : Val) : Bool := decide (v = noV)
def shapeX (x : Ex) : Bool :=
  if x.op = 1 then decide (x.l.length = 0) && noS x.s && validV x.v
  else if x.op = 2 then decide (x.l.length = 0) && zeroV x.v && isNameB x.s && !keyB x.s
  else zeroV x.v && noS x.s &&
    (if x.op = 3 then decide (x.l.length = 1)
     else if 4 ≤ x.op ∧ x.op ≤ 11 then decide (x.l.length = 2)
     else if x.op = 12 then decide (x.l.length = 3)
     else if x.op = 13 then decide (2 ≤ x.l.length) && (x.l.drop 1).all fun y => decide (y.op = 1)
     else false)
mutual
/-- How many nodes are left after those of an expression; -1: it is not well-formed. -/
def cntX : Ex → Int → Int → Int
  | .mk o v s l, a, d => if a ≤ 0 ∨ d ≤ 0 ∨ shapeX (.mk o v s l) = false then -1 else cntL l (a - 1) (d - 1)
def cntL : List Ex → Int → Int → Int
  | [], a, _ => a
  | x :: l, a, d => if cntX x a d < 0 then -1 else cntL l (cntX x a d) d
end
theorem cntX_eq (x : Ex) (a d : Int) : cntX x a d = if a ≤ 0 ∨ d ≤ 0 ∨ shapeX x = false then -1 else cntL x.l (a - 1) (d - 1) := by
  cases x; rw [cntX]; rfl
def validX (x : Ex) : Bool := decide (0 ≤ cntX x 400 60)
mutual
/-- Well-formed in all its parts. -/
def okX : Ex → Bool
  | .mk o v s l => shapeX (.mk o v s l) && decide (l.length ≤ 400) && okL l
def okL : List Ex → Bool
  | [] => true
  | x :: l => okX x && okL l
end
theorem okX_eq (x : Ex) : okX x = (shapeX x && decide (x.l.length ≤ 400) && okL x.l) := by cases x; rw [okX]; rfl
theorem okL_mem {l : List Ex} (h : okL l = true) : ∀ x ∈ l, okX x = true := by
  induction l with
  | nil => intro x hx; simp at hx
  | cons a l ih =>
    rw [okL, Bool.and_eq_true] at h
    intro x hx
    rcases List.mem_cons.1 hx with rfl | hx
    · exact h.1
    · exact ih h.2 x hx
mutual
theorem cntX_ok : ∀ (x : Ex) (a d : Int), a ≤ 400 → 0 ≤ cntX x a d → okX x = true ∧ cntX x a d < a
  | .mk o v s l, a, d, ha, h => by
    rw [cntX] at h ⊢
    split at h
    · omega
    · rename_i hc
      rw [if_neg hc]
      have hc1 : ¬ a ≤ 0 := fun e => hc (.inl e)
      have hc3 : shapeX (.mk o v s l) = true := by
        cases e : shapeX (.mk o v s l)
        · exact absurd (.inr (.inr e)) hc
        · rfl
      obtain ⟨h1, h2, h3⟩ := cntL_ok l (a - 1) (d - 1) (by omega) h
      refine ⟨?_, by omega⟩
      rw [okX, hc3, h1, decide_eq_true (by omega)]; rfl
theorem cntL_ok : ∀ (l : List Ex) (a d : Int), a ≤ 400 → 0 ≤ cntL l a d → okL l = true ∧ cntL l a d ≤ a ∧ l.length ≤ a - cntL l a d
  | [], a, d, ha, h => by rw [cntL] at h ⊢; exact ⟨rfl, by omega, by simp⟩
  | x :: l, a, d, ha, h => by
    rw [cntL] at h ⊢
    split at h
    · omega
    · rename_i hc
      rw [if_neg hc]
      obtain ⟨h1, h2⟩ := cntX_ok x a d ha (by omega)
      obtain ⟨h3, h4, h5⟩ := cntL_ok l (cntX x a d) d (by omega) h
      refine ⟨by rw [okL, h1, h3]; rfl, by omega, ?_⟩
      rw [List.length_cons]; omega
end
theorem valid_ok {x : Ex} (h : validX x = true) : okX x = true := (cntX_ok x 400 60 (by omega) (by unfold validX at h; simpa using h)).1
def findV (vs : List Var) (s : ByteArray) : Int := match vs.findIdx? (fun x => x.name.toList == s.toList) with | some i => (i : Int) | none => -1
def kindAt (vs : List Var) (i : Int) : Int := (vs[i.toNat]?.map Var.kind).getD 0
def typO (vs : List Var) (x : Ex) (ks : List Int) : Int × Int :=
  if x.op = 1 then (x.v.kind, 0)
  else if x.op = 2 then (if findV vs x.s < 0 then (0, 8) else (kindAt vs (findV vs x.s), 0))
  else if x.op = 9 ∨ x.op = 10 ∨ x.op = 11 then (if ks.all (· == 2) then (2, 0) else (0, 11))
  else if x.op = 7 ∨ x.op = 8 then (if ks.all (· == 2) then (1, 0) else (0, 11))
  else if x.op = 3 ∨ x.op = 4 ∨ x.op = 5 then (if ks.all (· == 1) then (1, 0) else (0, 11))
  else if x.op = 12 then (if ks.getD 0 0 = 1 ∧ ks.getD 1 0 = ks.getD 2 0 then (ks.getD 1 0, 0) else (0, 11))
  else (if ks.all (· == ks.getD 0 0) then (1, 0) else (0, 11))
mutual
def typX (vs : List Var) : Ex → Int × Int
  | .mk o v s l => if (typL vs l).2 ≠ 0 then (0, (typL vs l).2) else typO vs (.mk o v s l) (typL vs l).1
def typL (vs : List Var) : List Ex → List Int × Int
  | [] => ([], 0)
  | x :: l => if (typX vs x).2 ≠ 0 then ([], (typX vs x).2) else if (typL vs l).2 ≠ 0 then ([], (typL vs l).2) else ((typX vs x).1 :: (typL vs l).1, 0)
end
theorem typX_eq (vs : List Var) (x : Ex) : typX vs x = if (typL vs x.l).2 ≠ 0 then (0, (typL vs x.l).2) else typO vs x (typL vs x.l).1 := by cases x; rw [typX]; rfl
theorem typL_nil (vs : List Var) : typL vs [] = ([], 0) := by rw [typL]
theorem typL_cons (vs : List Var) (x : Ex) (l : List Ex) : typL vs (x :: l) = if (typX vs x).2 ≠ 0 then ([], (typX vs x).2) else if (typL vs l).2 ≠ 0 then ([], (typL vs l).2) else ((typX vs x).1 :: (typL vs l).1, 0) := by rw [typL]
theorem typL_ok {vs : List Var} {l : List Ex} (h : (typL vs l).2 = 0) : (typL vs l).1 = l.map (fun x => (typX vs x).1) ∧ ∀ x ∈ l, (typX vs x).2 = 0 := by
  induction l with
  | nil => rw [typL_nil]; exact ⟨rfl, fun x hx => by simp at hx⟩
  | cons x l ih =>
    rw [typL_cons] at h ⊢
    by_cases h1 : (typX vs x).2 ≠ 0
    · rw [if_pos h1] at h; exact absurd h h1
    · rw [if_neg h1] at h ⊢
      by_cases h2 : (typL vs l).2 ≠ 0
      · rw [if_pos h2] at h; exact absurd h h2
      · rw [if_neg h2] at h ⊢
        obtain ⟨i1, i2⟩ := ih (by simpa using h2)
        refine ⟨by rw [i1]; rfl, fun y hy => ?_⟩
        rcases List.mem_cons.1 hy with rfl | hy
        · simpa using h1
        · exact i2 y hy
def givenE (vs : List Var) (x : Ex) : Int × Int := if validX x && varsB vs then typX vs x else (0, 1)
def truthV (b : Bool) : Val := ⟨1, if b then 1 else 0, emptyS⟩
def numV (n : Int) : Option Val := if numB n then some ⟨2, n, emptyS⟩ else none
def varV (vs : List Var) (vals : List Val) (s : ByteArray) : Val := vals.getD (findV vs s).toNat noV
def evO (vs : List Var) (vals : List Val) (x : Ex) (es : List (Option Val)) : Option Val :=
  if x.op = 1 then some x.v
  else if x.op = 2 then some (varV vs vals x.s)
  else match es.getD 0 none with
  | none => none
  | some a =>
    if x.op = 3 then some (truthV (decide (a.n = 0)))
    else if x.op = 4 then (if a.n = 1 then es.getD 1 none else some a)
    else if x.op = 5 then (if a.n = 1 then some a else es.getD 1 none)
    else if x.op = 12 then (if a.n = 1 then es.getD 1 none else es.getD 2 none)
    else if x.op = 13 then some (truthV ((x.l.drop 1).any fun y => decide (y.v = a)))
    else match es.getD 1 none with
    | none => none
    | some b =>
      if x.op = 6 then some (truthV (decide (a = b)))
      else if x.op = 7 then some (truthV (decide (a.n < b.n)))
      else if x.op = 8 then some (truthV (decide (a.n ≤ b.n)))
      else if x.op = 9 then numV (a.n + b.n)
      else if x.op = 10 then numV (a.n - b.n)
      else numV (a.n * b.n)
mutual
def evX (vs : List Var) (vals : List Val) : Ex → Option Val
  | .mk o v s l => evO vs vals (.mk o v s l) (evL vs vals l)
def evL (vs : List Var) (vals : List Val) : List Ex → List (Option Val)
  | [] => []
  | x :: l => evX vs vals x :: evL vs vals l
end
theorem evX_eq (vs : List Var) (vals : List Val) (x : Ex) : evX vs vals x = evO vs vals x (evL vs vals x.l) := by cases x; rw [evX]; rfl
theorem evL_eq (vs : List Var) (vals : List Val) (l : List Ex) : evL vs vals l = l.map (evX vs vals) := by
  induction l with
  | nil => rw [evL]; rfl
  | cons x l ih => rw [evL, ih]; rfl
def evalE (vs : List Var) (vals : List Val) (x : Ex) : Val × Int :=
  if (givenE vs x).2 ≠ 0 then (noV, (givenE vs x).2)
  else if (inAllE vs vals).2 = 0 ∧ (inAllE vs vals).1 = true then (match evX vs vals x with | some a => (a, 0) | none => (noV, 6))
  else (noV, 11)
theorem shape_len {x : Ex} (h : shapeX x = true) : (x.op = 1 → x.l.length = 0) ∧ (x.op = 2 → x.l.length = 0) ∧ (x.op = 3 → x.l.length = 1) ∧ (4 ≤ x.op ∧ x.op ≤ 11 → x.l.length = 2) ∧ (x.op = 12 → x.l.length = 3) ∧ (x.op = 13 → 2 ≤ x.l.length) ∧ 1 ≤ x.op ∧ x.op ≤ 13 := by
  unfold shapeX at h
  split at h
  · rename_i h1
    simp only [Bool.and_eq_true, decide_eq_true_eq] at h
    exact ⟨fun _ => h.1.1, fun _ => by omega, fun _ => by omega, fun _ => by omega, fun _ => by omega, fun _ => by omega, by omega, by omega⟩
  split at h
  · rename_i h1
    simp only [Bool.and_eq_true, decide_eq_true_eq] at h
    exact ⟨fun _ => by omega, fun _ => h.1.1.1, fun _ => by omega, fun _ => by omega, fun _ => by omega, fun _ => by omega, by omega, by omega⟩
  rw [Bool.and_eq_true] at h
  have h := h.2
  split at h
  · rw [decide_eq_true_eq] at h
    exact ⟨fun _ => by omega, fun _ => by omega, fun _ => h, fun _ => by omega, fun _ => by omega, fun _ => by omega, by omega, by omega⟩
  split at h
  · rw [decide_eq_true_eq] at h
    exact ⟨fun _ => by omega, fun _ => by omega, fun _ => by omega, fun _ => h, fun _ => by omega, fun _ => by omega, by omega, by omega⟩
  split at h
  · rw [decide_eq_true_eq] at h
    exact ⟨fun _ => by omega, fun _ => by omega, fun _ => by omega, fun _ => by omega, fun _ => h, fun _ => by omega, by omega, by omega⟩
  split at h
  · rw [Bool.and_eq_true, decide_eq_true_eq] at h
    exact ⟨fun _ => by omega, fun _ => by omega, fun _ => by omega, fun _ => by omega, fun _ => by omega, fun _ => h.1, by omega, by omega⟩
  · cases h
theorem truth_valid (b : Bool) : validV (truthV b) = true := by cases b <;> decide +kernel
theorem numV_some {n : Int} {a : Val} (h : numV n = some a) : a = ⟨2, n, emptyS⟩ ∧ numB n = true := by
  unfold numV at h
  split at h
  · rename_i h1; injection h with h; exact ⟨h.symm, h1⟩
  · cases h
theorem num_valid {n : Int} (h : numB n = true) : validV ⟨2, n, emptyS⟩ = true := by
  show (numB n && noS emptyS) = true
  rw [h, show noS emptyS = true by decide +kernel]; rfl
end Go.Proofs.YtijmnenojbfdnaaGreatDoor

namespace Go.Proofs.YtijmnenojbfdnaaGreatDoor
open Go.RowKit
def isB (L : List Tok) (i : Nat) (s : ByteArray) : Bool := match L[i]? with
  | some t => decide (t.text = s) && (decide (t.kind = 4) || decide (t.kind = 1))
  | none => false
def kTrue : ByteArray := ⟨#[116, 114, 117, 101]⟩
def kFalse : ByteArray := ⟨#[102, 97, 108, 115, 101]⟩
def kMinus : ByteArray := ⟨#[45]⟩
def kIf : ByteArray := ⟨#[105, 102]⟩
def kNot : ByteArray := ⟨#[110, 111, 116]⟩
def kIn : ByteArray := ⟨#[105, 110]⟩
def kOpen : ByteArray := ⟨#[40]⟩
def kShut : ByteArray := ⟨#[41]⟩
def kLeft : ByteArray := ⟨#[123]⟩
def kRight : ByteArray := ⟨#[125]⟩
def kComma : ByteArray := ⟨#[44]⟩
def conB (L : List Tok) (i : Nat) : Option (Option (Ex × Nat)) := match L[i]? with
  | none => none
  | some t =>
    if t.kind = 2 then some (some (.mk 1 ⟨2, t.n, ⟨#[]⟩⟩ ⟨#[]⟩ [], i + 1))
    else if t.kind = 3 then none
    else if isB L i kTrue || isB L i kFalse || isB L i kMinus then none
    else some none
def pSetB (L : List Tok) : Nat → Nat → List Ex → Option (List Ex × Nat)
  | 0, _, _ => none
  | f + 1, i, acc => match conB L i with
    | some (some (c, i')) => if isB L i' kComma then pSetB L f (i' + 1) (acc ++ [c]) else if isB L i' kRight then some (acc ++ [c], i' + 1) else none
    | _ => none
def signL : List ByteArray := [⟨#[97, 110, 100]⟩, ⟨#[111, 114]⟩, ⟨#[61]⟩, ⟨#[60]⟩, ⟨#[60, 61]⟩, ⟨#[43]⟩, ⟨#[45]⟩, ⟨#[42]⟩]
def opB (L : List Tok) (i : Nat) : Nat := if isB L i kIn then 13 else match signL.findIdx? (isB L i) with
  | some k => k + 4
  | none => 0
def levB (op : Nat) : Nat := if op = 12 then 1 else if op = 5 then 2 else if op = 4 then 3 else if op = 3 then 4 else if op = 6 ∨ op = 7 ∨ op = 8 ∨ op = 13 then 5 else if op = 9 ∨ op = 10 then 6 else if op = 11 then 7 else 8
def askB (op : Nat) : Nat := if levB op = 5 then 6 else levB op
def nodeB (op : Nat) (l : List Ex) : Ex := .mk op ⟨0, 0, ⟨#[]⟩⟩ ⟨#[]⟩ l
mutual
def exB (L : List Tok) : Nat → Nat → Nat → Option (Ex × Nat)
  | 0, _, _ => none
  | f + 1, i, least =>
    if least ≤ 1 ∧ isB L i kIf = true then none
    else if least ≤ 4 ∧ isB L i kNot = true then
      match exB L f (i + 1) 4 with
      | some (x, i') => loopB L f i' least (nodeB 3 [x]) 4
      | none => none
    else match atB L f i with
      | some (x, i') => loopB L f i' least x 8
      | none => none
def loopB (L : List Tok) : Nat → Nat → Nat → Ex → Nat → Option (Ex × Nat)
  | 0, _, _, _, _ => none
  | f + 1, i, least, x, top =>
    if opB L i = 0 ∨ levB (opB L i) < least ∨ top < askB (opB L i) then some (x, i)
    else if opB L i = 13 then
      (if isB L (i + 1) kLeft then match pSetB L f (i + 2) [x] with
        | some (l, i') => loopB L f i' least (nodeB 13 l) (levB 13)
        | none => none
      else none)
    else match exB L f (i + 1) (levB (opB L i) + 1) with
      | some (y, i') => loopB L f i' least (nodeB (opB L i) [x, y]) (levB (opB L i))
      | none => none
def atB (L : List Tok) : Nat → Nat → Option (Ex × Nat)
  | 0, _ => none
  | f + 1, i => match conB L i with
    | none => none
    | some (some r) => some r
    | some none => match L[i]? with
      | none => none
      | some t =>
        if t.kind = 1 ∧ keyB t.text = false then some (.mk 2 ⟨0, 0, ⟨#[]⟩⟩ t.text [], i + 1)
        else if isB L i kOpen then match exB L f (i + 1) 1 with
          | some (x, i') => if isB L i' kShut then some (x, i' + 1) else none
          | none => none
        else none
end
def varN : Ex := .mk 2 ⟨0, 0, ⟨#[]⟩⟩ ⟨#[110]⟩ []
def num (z : Int) : Ex := .mk 1 ⟨2, z, ⟨#[]⟩⟩ ⟨#[]⟩ []
def exA : Ex := nodeB 3 [nodeB 6 [nodeB 9 [varN, num 1], num 3]]
def exC : Ex := nodeB 4 [nodeB 8 [nodeB 11 [varN, varN], num 4], nodeB 3 [nodeB 13 [varN, num 1]]]
theorem pars1 : exB toks1 20 0 1 = some (exA, 6) := by kernel_rfl
theorem pars2 : exB toks2 20 0 1 = some (exC, 14) := by kernel_rfl
end Go.Proofs.YtijmnenojbfdnaaGreatDoor

namespace Go.Proofs.YtijmnenojbfdnaaGreatDoor
open Go.RowKit
def kAt (l : List Ex) (i : Nat) : Ex := l.getD i (.mk 0 ⟨0, 0, ⟨#[]⟩⟩ ⟨#[]⟩ [])
def signOf (op : Int) : List UInt8 := (signL.getD (op.toNat - 4) ⟨#[]⟩).data.toList
def joinB (sep : List UInt8) : List (List UInt8) → List UInt8
  | [] => []
  | [a] => a
  | a :: l => a ++ sep ++ joinB sep l
def txB : Nat → Ex → Nat → List UInt8
  | 0, _, _ => []
  | f + 1, x, asks =>
    let own := levB x.op.toNat
    let body := if x.op = 1 then (textE x.v).1.data.toList
      else if x.op = 2 then x.s.data.toList
      else if x.op = 3 then [110, 111, 116, 32] ++ txB f (kAt x.l 0) 4
      else if x.op = 12 then [105, 102, 32] ++ txB f (kAt x.l 0) 1 ++ [32, 116, 104, 101, 110, 32] ++ txB f (kAt x.l 1) 1 ++ [32, 101, 108, 115, 101, 32] ++ txB f (kAt x.l 2) 1
      else if x.op = 13 then txB f (kAt x.l 0) 6 ++ [32, 105, 110, 32, 123] ++ joinB [44, 32] ((x.l.drop 1).map fun y => txB f y 0) ++ [125]
      else txB f (kAt x.l 0) (if own = 5 then 6 else own) ++ [32] ++ signOf x.op ++ [32] ++ txB f (kAt x.l 1) (own + 1)
    if own < asks then [40] ++ body ++ [41] else body
theorem tx1 : txB 10 exA 0 = ex1.data.toList := by kernel_rfl
end Go.Proofs.YtijmnenojbfdnaaGreatDoor

namespace Go.Proofs.YtijmnenojbfdnaaGreatDoor
open Go.RowKit
mutual
/-- The number of nodes. -/
def nodX : Ex → Nat
  | .mk _ _ _ l => 1 + nodL l
def nodL : List Ex → Nat
  | [] => 0
  | x :: l => nodX x + nodL l
end
theorem nodX_eq (x : Ex) : nodX x = 1 + nodL x.l := by cases x; rw [nodX]; rfl
theorem nodX_pos (x : Ex) : 1 ≤ nodX x := by rw [nodX_eq]; omega
theorem nodL_nil : nodL [] = 0 := by rw [nodL]
theorem nodL_cons (x : Ex) (l : List Ex) : nodL (x :: l) = nodX x + nodL l := by rw [nodL]
mutual
theorem cntX_nod : ∀ (x : Ex) (a d : Int), 0 ≤ cntX x a d → (nodX x : Int) = a - cntX x a d
  | .mk o v s l, a, d, h => by
    rw [cntX] at h ⊢
    split at h
    · omega
    · rename_i hc
      rw [if_neg hc]
      have := cntL_nod l (a - 1) (d - 1) h
      rw [nodX]
      push_cast
      omega
theorem cntL_nod : ∀ (l : List Ex) (a d : Int), 0 ≤ cntL l a d → (nodL l : Int) = a - cntL l a d
  | [], a, d, h => by rw [cntL, nodL]; omega
  | x :: l, a, d, h => by
    rw [cntL] at h ⊢
    split at h
    · omega
    · rename_i hc
      rw [if_neg hc]
      have h1 := cntX_nod x a d (by omega)
      have h2 := cntL_nod l (cntX x a d) d h
      rw [nodL]
      push_cast
      omega
end
theorem valid_nod {x : Ex} (h : validX x = true) : nodX x ≤ 400 := by
  have h0 : 0 ≤ cntX x 400 60 := by unfold validX at h; simpa using h
  have := cntX_nod x 400 60 h0
  omega
theorem textE_len {v : Val} : (textE v).1.data.toList.length ≤ 500 := by
  unfold textE
  split
  · rename_i h
    show (textV v).data.toList.length ≤ 500
    unfold textV
    split
    · split <;> decide
    · rename_i h1
      split
      · rename_i h2
        unfold validV at h
        rw [if_neg h1, if_pos h2, Bool.and_eq_true] at h
        have hn := h.1
        unfold numB at hn
        rw [decide_eq_true_eq] at hn
        have := Lib.itoa_length_le v.n (by omega) (by omega)
        show (Lib.itoa v.n).length ≤ 500
        omega
      · rename_i h2
        obtain ⟨_, _, h3⟩ := valid3 h h1 h2
        unfold textB at h3
        rw [Bool.and_eq_true, decide_eq_true_eq] at h3
        have := escB_len v.s.data.toList
        have hs : v.s.data.toList.length = v.s.size := Array.length_toList
        show (quoteL v.s.data.toList).length ≤ 500
        unfold quoteL
        rw [List.length_cons, List.length_append]
        show _ + 1 + 1 ≤ 500
        omega
  · exact Nat.zero_le _
theorem kAt_one {l : List Ex} (h : l.length = 1) : nodL l = nodX (kAt l 0) := by
  match l, h with
  | [a], _ => rw [nodL_cons, nodL_nil]; rfl
theorem kAt_two {l : List Ex} (h : l.length = 2) : nodL l = nodX (kAt l 0) + nodX (kAt l 1) := by
  match l, h with
  | [a, b], _ => rw [nodL_cons, nodL_cons, nodL_nil]; rfl
theorem kAt_three {l : List Ex} (h : l.length = 3) : nodL l = nodX (kAt l 0) + nodX (kAt l 1) + nodX (kAt l 2) := by
  match l, h with
  | [a, b, c], _ => rw [nodL_cons, nodL_cons, nodL_cons, nodL_nil]; show _ = nodX a + nodX b + nodX c; omega
theorem kAt_mem {l : List Ex} {k : Nat} (h : k < l.length) : kAt l k ∈ l := by
  unfold kAt
  rw [List.getD_eq_getElem?_getD, List.getElem?_eq_getElem h]
  exact List.getElem_mem h
theorem joinB_len (sep : List UInt8) : ∀ l : List (List UInt8), (joinB sep l).length ≤ (l.map fun a => a.length + sep.length).foldr (· + ·) 0
  | [] => by simp [joinB]
  | [a] => by simp [joinB]
  | a :: b :: l => by
    have := joinB_len sep (b :: l)
    show (a ++ sep ++ joinB sep (b :: l)).length ≤ _
    rw [List.length_append, List.length_append]
    simp only [List.map_cons, List.foldr_cons] at this ⊢
    omega
theorem sum_le {f : Ex → Nat} : ∀ {l : List Ex}, (∀ x ∈ l, f x + 2 ≤ 1000 * nodX x) → (l.map fun x => f x + 2).foldr (· + ·) 0 ≤ 1000 * nodL l
  | [], _ => by simp
  | x :: l, h => by
    have h1 := h x (by simp)
    have h2 := sum_le (l := l) (fun y hy => h y (by simp [hy]))
    rw [nodL_cons]
    simp only [List.map_cons, List.foldr_cons]
    omega
theorem nodL_drop {l : List Ex} (h : 1 ≤ l.length) : nodL l = nodX (kAt l 0) + nodL (l.drop 1) := by
  match l, h with
  | a :: l, _ => rw [nodL_cons]; rfl
theorem txB_len : ∀ (f : Nat) (x : Ex) (asks : Nat), okX x = true → (txB f x asks).length + 100 ≤ 1000 * nodX x
  | 0, x, asks, _ => by have := nodX_pos x; show 0 + 100 ≤ _; omega
  | f + 1, x, asks, hok => by
    have hn := nodX_eq x
    have hok0 := hok
    rw [okX_eq, Bool.and_eq_true, Bool.and_eq_true] at hok
    obtain ⟨⟨hs, _⟩, hl⟩ := hok
    have hk : ∀ k asks, k < x.l.length → (txB f (kAt x.l k) asks).length + 100 ≤ 1000 * nodX (kAt x.l k) := fun k a h => txB_len f _ a (okL_mem hl _ (kAt_mem h))
    obtain ⟨s1, s2, s3, s4, s5, s6, s7, s8⟩ := shape_len hs
    have key : ∀ body : List UInt8, body.length + 102 ≤ 1000 * nodX x → (if levB x.op.toNat < asks then [40] ++ body ++ [41] else body).length + 100 ≤ 1000 * nodX x := by
      intro body hb
      split
      · rw [List.length_append, List.length_append]; show 1 + _ + 1 + 100 ≤ _; omega
      · omega
    unfold txB
    dsimp only
    apply key
    split
    · have := @textE_len x.v; omega
    split
    · rename_i _ h2
      unfold shapeX at hs
      rw [if_neg (by omega), if_pos h2] at hs
      simp only [Bool.and_eq_true] at hs
      have hnm := hs.1.2
      unfold isNameB at hnm
      simp only [Bool.and_eq_true, decide_eq_true_eq] at hnm
      have : x.s.data.toList.length = x.s.size := Array.length_toList
      omega
    split
    · rename_i _ _ h3
      have e := s3 h3
      have := hk 0 4 (by omega)
      have := kAt_one e
      rw [List.length_append]; show 4 + _ + 102 ≤ _; omega
    split
    · rename_i h12
      have e := s5 h12
      have a0 := hk 0 1 (by omega)
      have a1 := hk 1 1 (by omega)
      have a2 := hk 2 1 (by omega)
      have := kAt_three e
      simp only [List.length_append, List.length_cons, List.length_nil]
      omega
    split
    · rename_i h13
      have e := s6 h13
      have a0 := hk 0 6 (by omega)
      have hd := nodL_drop (show 1 ≤ x.l.length by omega)
      have hj := joinB_len [44, 32] ((x.l.drop 1).map fun y => txB f y 0)
      rw [List.map_map] at hj
      have hsum := sum_le (f := fun y => (txB f y 0).length) (l := x.l.drop 1) (fun y hy => by
        have := txB_len f y 0 (okL_mem hl _ (List.mem_of_mem_drop hy)); omega)
      have hj2 : (joinB [44, 32] ((x.l.drop 1).map fun y => txB f y 0)).length ≤ 1000 * nodL (x.l.drop 1) := Nat.le_trans hj hsum
      simp only [List.length_append, List.length_cons, List.length_nil]
      omega
    · rename_i n1 n2 n3 n12 n13
      have e := s4 (by omega)
      have a0 := hk 0 (if levB x.op.toNat = 5 then 6 else levB x.op.toNat) (by omega)
      have a1 := hk 1 (levB x.op.toNat + 1) (by omega)
      have := kAt_two e
      have hsg : (signOf x.op).length ≤ 10 := by
        unfold signOf signL
        obtain ⟨k, hk'⟩ : ∃ k, x.op.toNat - 4 = k := ⟨_, rfl⟩
        rw [hk']
        match k with
        | 0 | 1 | 2 | 3 | 4 | 5 | 6 | 7 => decide
        | k + 8 => simp
      simp only [List.length_append, List.length_cons, List.length_nil]
      omega
theorem valid_txB {x : Ex} (h : validX x = true) (f asks : Nat) : (txB f x asks).length ≤ 400000 := by
  have := txB_len f x asks (valid_ok h)
  have := valid_nod h
  omega
end Go.Proofs.YtijmnenojbfdnaaGreatDoor
