/- Texts of this seat, merged. -/
import Derived.Test.YtijmnenojbfdnaaGreatDoorEq01
import Derived.Test.YtijmnenojbfdnaaGreatDoorEq02
import Derived.Test.YtijmnenojbfdnaaGreatDoorEq03
import Derived.Test.YtijmnenojbfdnaaGreatDoorEq04
import Derived.Test.YtijmnenojbfdnaaGreatDoorEq05
import Derived.Test.YtijmnenojbfdnaaGreatDoorEq06
import Derived.Test.YtijmnenojbfdnaaGreatDoorEq07
set_option linter.unusedSimpArgs false
set_option linter.unusedVariables false
namespace Go.Proofs.YtijmnenojbfdnaaGreatDoor
open Go.RowKit
structure Tame (x : Var) : Prop where
  lo : -4503599627370496 ≤ x.low ∧ x.low ≤ 4503599627370496
  hi : -4503599627370496 ≤ x.high ∧ x.high ≤ 4503599627370496
  dom : x.kind = 2 → x.low ≤ x.high ∧ x.high - x.low < 1000
  kind : x.kind = 1 ∨ x.kind = 2 ∨ x.kind = 3
  items : x.kind = 3 → 1 ≤ x.items.length ∧ x.items.length ≤ 1000
theorem tame_of {x : Var} (h : varB x = true) : Tame x := by
  have hf : formB x = true := by unfold varB at h; simp only [Bool.and_eq_true] at h; exact h.2
  obtain ⟨nm, k, lo, hi, its⟩ := x
  by_cases k1 : k = 1
  · subst k1
    rw [form1] at hf
    simp only [decide_eq_true_eq] at hf
    obtain ⟨rfl, rfl, _⟩ := hf
    exact ⟨by simp, by simp, by simp, by simp, by simp⟩
  by_cases k2 : k = 2
  · subst k2
    rw [form2] at hf
    simp only [Bool.and_eq_true, decide_eq_true_eq] at hf
    exact ⟨num_bounds hf.1.1, num_bounds hf.1.2, fun _ => ⟨hf.2.1, hf.2.2.1⟩, by simp, by simp⟩
  by_cases k3 : k = 3
  · subst k3
    rw [form3] at hf
    simp only [Bool.and_eq_true, decide_eq_true_eq] at hf
    obtain ⟨rfl, rfl, h1, h2⟩ := hf.1.1
    exact ⟨by simp, by simp, by simp, by simp, fun _ => ⟨h1, h2⟩⟩
  · rw [form0 k1 k2 k3] at hf; cases hf
set_option maxHeartbeats 1000000 in
theorem size_any (x : Var) (u : Value) (w : World) (h : IsVar (Lt w.heap.size) w u x) (ht : Tame x) :
    Calls Tryz.prog 151 #[u] w fun e w' => e = .returned (.int .i64 (sizeV x)) ∧ Below w.heap.size w w' := by
  obtain ⟨nm, k, lo, hi, its⟩ := x
  obtain ⟨⟨l1, l2⟩, ⟨l3, l4⟩, ld, lk, li⟩ := ht
  obtain ⟨iv, rfl, hnm, f1, f2, f3, hit⟩ := h
  dsimp only at hnm f1 f2 f3 hit l1 l2 l3 l4 ld lk li ⊢
  obtain ⟨A, c, rfl, i1, i2, hit⟩ := hit.open_
  have hb := bone w (.cells #[.string nm, .int .i64 k, .int .i64 lo, .int .i64 hi, .slice A its.length c] 68)
  by_cases k1 : k = 1
  · subst k1
    go_enter Tryz.func151, Tryz.ntmps151
    go_wp2_with fail
    go_ret
    exact ⟨rfl, hb⟩
  by_cases k2 : k = 2
  · subst k2
    go_enter Tryz.func151, Tryz.ntmps151
    go_wp2_with fail
    go_ret
    exact ⟨rfl, hb⟩
  · have HE : Hid (sizeV ⟨nm, k, lo, hi, its⟩ = its.length) := by show sizeV _ = _; unfold sizeV; simp [k1, k2]
    have k1' : (k == 1) = false := by simpa using k1
    have k2' : (k == 2) = false := by simpa using k2
    clear k1 k2 ld lk li
    go_enter Tryz.func151, Tryz.ntmps151
    go_wp2_with fail
    go_ret
    exact ⟨ret_int HE.out.symm, hb⟩
set_option maxHeartbeats 1000000 in
theorem size_ref (x : Var) (u : Value) (w : World) (h : IsVar (Lt w.heap.size) w u x) (ht : Tame x) :
    Calls Tryz.prog 104 #[u] w fun e w' => e = .returned (.int .i64 (sizeV x)) ∧ Below w.heap.size w w' := by
  obtain ⟨nm, k, lo, hi, its⟩ := x
  obtain ⟨⟨l1, l2⟩, ⟨l3, l4⟩, ld, lk, li⟩ := ht
  obtain ⟨iv, rfl, hnm, f1, f2, f3, hit⟩ := h
  dsimp only at hnm f1 f2 f3 hit l1 l2 l3 l4 ld lk li ⊢
  obtain ⟨A, c, rfl, i1, i2, hit⟩ := hit.open_
  have hb := bone w (.cells #[.string nm, .int .i64 k, .int .i64 lo, .int .i64 hi, .slice A its.length c] 68)
  by_cases k1 : k = 1
  · subst k1
    go_enter Tryz.func104, Tryz.ntmps104
    go_wp2_with fail
    go_ret
    exact ⟨rfl, hb⟩
  by_cases k2 : k = 2
  · subst k2
    go_enter Tryz.func104, Tryz.ntmps104
    go_wp2_with fail
    go_ret
    exact ⟨rfl, hb⟩
  · have HE : Hid (sizeV ⟨nm, k, lo, hi, its⟩ = its.length) := by show sizeV _ = _; unfold sizeV; simp [k1, k2]
    have k1' : (k == 1) = false := by simpa using k1
    have k2' : (k == 2) = false := by simpa using k2
    clear k1 k2 ld lk li
    go_enter Tryz.func104, Tryz.ntmps104
    go_wp2_with fail
    go_ret
    exact ⟨ret_int HE.out.symm, hb⟩
theorem idxFrom_eq (x : ByteArray) : ∀ (zs : List ByteArray) (i : Nat), Lib.idxFromS zs x i = match zs.findIdx? (fun y => y.toList == x.toList) with | some k => ((i + k : Nat) : Int) | none => -1 := by
  intro zs
  induction zs with
  | nil => intro i; rfl
  | cons z zs ih =>
    intro i
    unfold Lib.idxFromS
    by_cases h : z = x
    · subst h
      have h1 : (z.toList == z.toList) = true := by simp
      rw [List.findIdx?_cons, h1, if_pos rfl, if_pos rfl]
      simp
    · have h2 : (z.toList == x.toList) = false := by
        rw [beq_eq_false_iff_ne]
        intro e
        rw [Lib.toList_data, Lib.toList_data] at e
        apply h
        cases z; cases x
        congr 1
        exact Array.toList_inj.1 e
      rw [if_neg h, ih (i + 1), List.findIdx?_cons, h2]
      cases zs.findIdx? (fun y => y.toList == x.toList) with
      | none => rfl
      | some k =>
        show ((i + 1 + k : Nat) : Int) = ((i + (k + 1) : Nat) : Int)
        congr 1
        omega
theorem idxOf_eq (zs : List ByteArray) (x : ByteArray) : Lib.idxOfS zs x = atS zs x := by
  unfold Lib.idxOfS atS
  rw [idxFrom_eq]
  cases zs.findIdx? (fun y => y.toList == x.toList) with
  | none => rfl
  | some k => simp
theorem indexS_any (v : Value) (xs : List ByteArray) (x : ByteArray) (w : World) (hu : SlS (Lt w.heap.size) w v xs) :
    Calls Tryz.prog 71 #[v, .string x] w fun e w' => e = .returned (.int .i64 (atS xs x)) ∧ w = w' := by
  obtain ⟨A, c, rfl, h1, h2, hu⟩ := hu.open_
  by_cases hn : 0 < xs.length
  · obtain ⟨b, o, rfl, hD, _, hc⟩ := hu.cells hn
    refine (Tryz.slices_Index_string b o xs.length c xs x w (Nat.le_refl _) (by omega) hc).mono ?_
    rintro e w' ⟨rfl, hq⟩
    rw [List.take_of_length_le (Nat.le_refl _), idxOf_eq]
    exact ⟨rfl, hq.symm⟩
  · have : xs = [] := List.eq_nil_of_length_eq_zero (by omega)
    subst this
    refine (Tryz.slices_Index_string_empty A c x w).mono ?_
    rintro e w' ⟨rfl, hq⟩
    rw [idxOf_eq]
    exact ⟨rfl, hq.symm⟩
set_option maxHeartbeats 2000000 in
theorem place_any (x : Var) (v : Val) (u : Value) (w : World) (h : IsVar (Lt w.heap.size) w u x) (ht : Tame x) (hv : FitV v) :
    Calls Tryz.prog 111 #[u, valV v] w fun e w' => e = .returned (.int .i64 (placeV x v)) ∧ Below w.heap.size w w' := by
  obtain ⟨nm, k, lo, hi, its⟩ := x
  obtain ⟨vk, vn, vs⟩ := v
  obtain ⟨⟨l1, l2⟩, ⟨l3, l4⟩, ld, lk, li⟩ := ht
  obtain ⟨iv, rfl, hnm, f1, f2, f3, hit⟩ := h
  obtain ⟨g1, g2, g3⟩ := hv
  unfold Fit at f1 f2 f3 g1 g2
  unfold valV
  dsimp only at hnm f1 f2 f3 hit l1 l2 l3 l4 ld lk li g1 g2 g3 ⊢
  obtain ⟨A, c, rfl, i1, i2, hit⟩ := hit.open_
  have hb := bbox (bone w (.cells #[.string nm, .int .i64 k, .int .i64 lo, .int .i64 hi, .slice A its.length c] 68)) (.cells #[.int .i64 vk, .int .i64 vn, .string vs] 25)
  have hit2 := hit.now hb
  have HP : Hid (placeV ⟨nm, k, lo, hi, its⟩ ⟨vk, vn, vs⟩ = if vk ≠ k then -1 else if k = 1 then vn else if k = 3 then atS its vs else if vn < lo ∨ hi < vn then -1 else vn - lo) := rfl
  go_enter Tryz.func111, Tryz.ntmps111
  by_cases a1 : vk = k
  rotate_left
  · have a1' : (vk != k) = true := by simpa using a1
    have HE := Lib.hid (HP.out.trans (if_pos a1))
    clear a1
    go_wp2_with fail
    go_ret
    exact ⟨ret_int HE.out.symm, hb⟩
  subst a1
  have a1' : (vk != vk) = false := by simp
  have HE := Lib.hid (HP.out.trans (if_neg (fun h => h rfl)))
  rcases lk with rfl | rfl | rfl
  · go_wp2_with fail
    go_ret
    exact ⟨ret_int HE.out.symm, hb⟩
  · by_cases b1 : vn < lo
    · have HE2 := Lib.hid (HE.out.trans (show _ = (-1 : Int) by simp [b1]))
      go_wp2_with fail
      go_ret
      exact ⟨ret_int HE2.out.symm, hb⟩
    by_cases b2 : hi < vn
    · have HE2 := Lib.hid (HE.out.trans (show _ = (-1 : Int) by simp [b2]))
      go_wp2_with fail
      go_ret
      exact ⟨ret_int HE2.out.symm, hb⟩
    have HE2 := Lib.hid (HE.out.trans (show _ = vn - lo by simp [b1, b2]))
    go_wp2_with fail
    go_ret
    exact ⟨ret_int HE2.out.symm, hb⟩
  · go_wp2_with fail
    refine (indexS_any _ its vs _ hit2).mono ?_
    rintro e w' ⟨rfl, rfl⟩
    go_wp2_with fail
    go_ret
    exact ⟨ret_int HE.out.symm, hb⟩
end Go.Proofs.YtijmnenojbfdnaaGreatDoor
