/- The order of values; value.Compare and the reference's. -/
import Derived.Test.YtchfmjociflgfaaGreatDoorValAwake2
import Derived.Deep.RegionHeld3
namespace Go.Proofs.YtchfmjociflgfaaGreatDoor
open Go.RowKit

def cmpS (a b : ByteArray) : Int := if Op.bytesLess a.toList b.toList then -1 else if a.toList == b.toList then 0 else 1
def orI (x y z : Int) : Int := if x ≠ 0 then x else if y ≠ 0 then y else z
def cmpV (a b : Val) : Int := orI (Lib.compareInt a.kind b.kind) (Lib.compareInt a.n b.n) (cmpS a.s b.s)
theorem bytes_inj {a b : ByteArray} (h : a.toList = b.toList) : a = b := by
  rw [Lib.toList_data, Lib.toList_data] at h
  cases a; cases b
  congr 1
  exact Array.toList_inj.1 h
theorem cmpS_cases (a b : ByteArray) : (cmpS a b = -1 ∧ a.toList < b.toList) ∨ (cmpS a b = 0 ∧ a.toList = b.toList) ∨ (cmpS a b = 1 ∧ b.toList < a.toList) := by
  unfold cmpS
  rw [less_eq]
  by_cases h1 : a.toList < b.toList
  · left; simp [h1]
  · by_cases h2 : a.toList = b.toList
    · right; left; simp [h2, List.lt_irrefl]
    · right; right
      refine ⟨by simp [h1, h2], bs_total h1 h2⟩
theorem cmpS_neg (a b : ByteArray) : cmpS a b = - cmpS b a := by
  rcases cmpS_cases a b with ⟨h1, h2⟩ | ⟨h1, h2⟩ | ⟨h1, h2⟩ <;> rcases cmpS_cases b a with ⟨k1, k2⟩ | ⟨k1, k2⟩ | ⟨k1, k2⟩ <;> rw [h1, k1] <;> first | rfl | skip
  · exact absurd (List.lt_trans h2 k2) (List.lt_irrefl _)
  · rw [k2] at h2; exact absurd h2 (List.lt_irrefl _)
  · rw [h2] at k2; exact absurd k2 (List.lt_irrefl _)
  · rw [h2] at k2; exact absurd k2 (List.lt_irrefl _)
  · rw [k2] at h2; exact absurd h2 (List.lt_irrefl _)
  · exact absurd (List.lt_trans h2 k2) (List.lt_irrefl _)
theorem cmpS_zero (a b : ByteArray) : cmpS a b = 0 ↔ a = b := by
  constructor
  · intro h
    rcases cmpS_cases a b with ⟨h1, h2⟩ | ⟨h1, h2⟩ | ⟨h1, h2⟩
    · omega
    · exact bytes_inj h2
    · omega
  · rintro rfl
    rcases cmpS_cases a a with ⟨h1, h2⟩ | ⟨h1, h2⟩ | ⟨h1, h2⟩
    · exact absurd h2 (List.lt_irrefl _)
    · exact h1
    · exact absurd h2 (List.lt_irrefl _)
theorem cmpS_trans (a b c : ByteArray) (h1 : ¬ cmpS a b = 1) (h2 : ¬ cmpS b c = 1) : cmpS a c = -1 ∨ (cmpS a c = 0 ∧ cmpS a b = 0 ∧ cmpS b c = 0) := by
  rcases cmpS_cases a b with ⟨k1, k2⟩ | ⟨k1, k2⟩ | ⟨k1, k2⟩
  · rcases cmpS_cases b c with ⟨m1, m2⟩ | ⟨m1, m2⟩ | ⟨m1, m2⟩
    · left
      have := List.lt_trans k2 m2
      rcases cmpS_cases a c with ⟨n1, n2⟩ | ⟨n1, n2⟩ | ⟨n1, n2⟩
      · exact n1
      · rw [n2] at this; exact absurd this (List.lt_irrefl _)
      · exact absurd (List.lt_trans this n2) (List.lt_irrefl _)
    · have := bytes_inj m2
      subst this
      exact Or.inl k1
    · exact absurd m1 h2
  · have := bytes_inj k2
    subst this
    rcases cmpS_cases a c with ⟨n1, n2⟩ | ⟨n1, n2⟩ | ⟨n1, n2⟩
    · exact Or.inl n1
    · exact Or.inr ⟨n1, k1, n1⟩
    · exact absurd n1 h2
  · exact absurd k1 h1
theorem cmpI_cases (x y : Int) : (Lib.compareInt x y = -1 ∧ x < y) ∨ (Lib.compareInt x y = 0 ∧ x = y) ∨ (Lib.compareInt x y = 1 ∧ y < x) := by
  unfold Lib.compareInt
  split
  · left; exact ⟨rfl, by assumption⟩
  · split
    · right; right; exact ⟨rfl, by omega⟩
    · right; left; exact ⟨rfl, by omega⟩
theorem cmpV_cases (a b : Val) : (cmpV a b = -1 ∧ (a.kind < b.kind ∨ a.kind = b.kind ∧ (a.n < b.n ∨ a.n = b.n ∧ cmpS a.s b.s = -1))) ∨ (cmpV a b = 0 ∧ a.kind = b.kind ∧ a.n = b.n ∧ cmpS a.s b.s = 0) ∨ (cmpV a b = 1 ∧ (b.kind < a.kind ∨ a.kind = b.kind ∧ (b.n < a.n ∨ a.n = b.n ∧ cmpS a.s b.s = 1))) := by
  have hs : cmpS a.s b.s = -1 ∨ cmpS a.s b.s = 0 ∨ cmpS a.s b.s = 1 := by
    rcases cmpS_cases a.s b.s with h | h | h
    · exact Or.inl h.1
    · exact Or.inr (Or.inl h.1)
    · exact Or.inr (Or.inr h.1)
  unfold cmpV orI
  rcases cmpI_cases a.kind b.kind with ⟨h1, h2⟩ | ⟨h1, h2⟩ | ⟨h1, h2⟩ <;> rcases cmpI_cases a.n b.n with ⟨k1, k2⟩ | ⟨k1, k2⟩ | ⟨k1, k2⟩ <;> rw [h1, k1] <;> simp <;> omega
theorem cmpV_neg (a b : Val) : cmpV a b = - cmpV b a := by
  have h1 := cmpV_cases a b
  have h2 := cmpV_cases b a
  have h3 := cmpS_neg a.s b.s
  omega
theorem cmpV_zero (a b : Val) : cmpV a b = 0 ↔ a = b := by
  constructor
  · intro h
    have h1 := cmpV_cases a b
    have h2 : a.kind = b.kind ∧ a.n = b.n ∧ cmpS a.s b.s = 0 := by omega
    obtain ⟨k, n, s⟩ := a
    obtain ⟨k', n', s'⟩ := b
    obtain ⟨e1, e2, e3⟩ := h2
    dsimp only at e1 e2 e3
    rw [e1, e2, (cmpS_zero s s').1 e3]
  · rintro rfl
    have h1 := cmpV_cases a a
    have h2 := (cmpS_zero a.s a.s).2 rfl
    omega
theorem cmpV_trans (a b c : Val) : cmpV a b > 0 ∨ cmpV b c > 0 ∨ cmpV a c < 0 ∨ (cmpV a c = 0 ∧ cmpV a b = 0 ∧ cmpV b c = 0) := by
  have h1 := cmpV_cases a b
  have h2 := cmpV_cases b c
  have h3 := cmpV_cases a c
  have h4 := cmpS_trans a.s b.s c.s
  omega
def cmpE (a b : Val) : Int × Int := if validV a && validV b then (cmpV a b, 0) else (0, 1)

/-! ### the library's -/
set_option maxHeartbeats 400000 in
theorem isNaN_string (a : ByteArray) (w : World) : Calls Tryz.prog 96 #[.string a] w fun e w' => e = .returned (.bool false) ∧ w = w' := by
  have h : (!(a.toList == a.toList)) = false := by simp
  go_enter Tryz.func96, Tryz.ntmps96
  go_wp2_with fail
  go_ret
  exact ⟨by simp, rfl⟩
set_option maxHeartbeats 400000 in
theorem compare_string (a b : ByteArray) (w : World) : Calls Tryz.prog 71 #[.string a, .string b] w fun e w' => e = .returned (.int .i64 (cmpS a b)) ∧ w = w' := by
  have HE : Hid (cmpS a b = if Op.bytesLess a.toList b.toList then -1 else if a.toList == b.toList then 0 else 1) := rfl
  have HN := Lib.hid isNaN_string
  go_enter Tryz.func71, Tryz.ntmps71
  cases h1 : Op.bytesLess a.toList b.toList with
  | true =>
    rw [h1] at HE
    go_wp2_with (go_at_call 96; refine (HN.out _ _).mono ?_; rintro e w' ⟨rfl, rfl⟩)
    go_ret
    exact ⟨ret_int HE.out.symm, rfl⟩
  | false =>
    rw [h1] at HE
    cases h2 : (a.toList == b.toList) with
    | true =>
      rw [h2] at HE
      go_wp2_with (go_at_call 96; refine (HN.out _ _).mono ?_; rintro e w' ⟨rfl, rfl⟩)
      go_ret
      exact ⟨ret_int HE.out.symm, rfl⟩
    | false =>
      rw [h2] at HE
      go_wp2_with (go_at_call 96; refine (HN.out _ _).mono ?_; rintro e w' ⟨rfl, rfl⟩)
      go_ret
      exact ⟨ret_int HE.out.symm, rfl⟩
set_option maxHeartbeats 1000000 in
theorem or_any (x y z : Int) (g : Nat) (w : World) (h : Blk w g 3 #[.int .i64 x, .int .i64 y, .int .i64 z]) :
    Calls Tryz.prog 69 #[.slice (some ⟨g, 0, none⟩) 3 3] w fun e w' => e = .returned (.int .i64 (orI x y z)) ∧ w = w' := by
  obtain ⟨c0, c1, c2⟩ := h.c3
  have HE : Hid (orI x y z = if x ≠ 0 then x else if y ≠ 0 then y else z) := rfl
  go_enter Tryz.func69, Tryz.ntmps69
  go_wp2_with fail
  go_loop [8] (fun i => ∃ k : Nat, k ≤ 3 ∧ i = .int .i64 k ∧ (0 < k → x = 0) ∧ (1 < k → y = 0) ∧ (2 < k → z = 0)) (fun i => 3 - (intOf i).toNat)
  case atStart => exact ⟨0, by omega, rfl, by omega, by omega, by omega⟩
  case round =>
    obtain ⟨k, hk, rfl, p1, p2, p3⟩ := hrel
    have HP := Lib.hid (And.intro p1 (And.intro p2 p3))
    clear p1 p2 p3
    rcases (show k = 0 ∨ k = 1 ∨ k = 2 ∨ k = 3 by omega) with rfl | rfl | rfl | rfl
    · by_cases hx : x = 0
      · subst hx
        go_wp2_with fail
        go_round
        case rel => exact ⟨1, by omega, rfl, fun _ => trivial, fun h => absurd h (by omega), fun h => absurd h (by omega)⟩
        case measure => simp [intOf]
      · have hx' : (x != 0) = true := by simpa using hx
        have HR : Hid (orI x y z = x) := HE.out.trans (if_pos hx)
        clear hx
        go_wp2_with fail
        go_ret
        exact ⟨ret_int HR.out.symm, rfl⟩
    · obtain rfl : x = 0 := HP.out.1 (by omega)
      have HE2 : Hid (orI 0 y z = if y ≠ 0 then y else z) := HE.out.trans (if_neg (by simp))
      clear HE
      by_cases hy : y = 0
      · subst hy
        go_wp2_with fail
        go_round
        case rel => exact ⟨2, by omega, rfl, fun _ => trivial, fun _ => trivial, fun h => absurd h (by omega)⟩
        case measure => simp [intOf]
      · have hx' : (y != 0) = true := by simpa using hy
        have HR : Hid (orI 0 y z = y) := HE2.out.trans (if_pos hy)
        clear hy
        go_wp2_with fail
        go_ret
        exact ⟨ret_int HR.out.symm, rfl⟩
    · obtain rfl : x = 0 := HP.out.1 (by omega)
      obtain rfl : y = 0 := HP.out.2.1 (by omega)
      have HE2 : Hid (orI 0 0 z = z) := (HE.out.trans (if_neg (by simp))).trans (if_neg (by simp))
      clear HE
      by_cases hz : z = 0
      · subst hz
        go_wp2_with fail
        go_round
        case rel => exact ⟨3, by omega, rfl, fun _ => trivial, fun _ => trivial, fun _ => trivial⟩
        case measure => simp [intOf]
      · have hx' : (z != 0) = true := by simpa using hz
        clear hz
        go_wp2_with fail
        go_ret
        exact ⟨ret_int HE2.out.symm, rfl⟩
    · have hx : x = 0 := HP.out.1 (by omega)
      have hy : y = 0 := HP.out.2.1 (by omega)
      have hz : z = 0 := HP.out.2.2 (by omega)
      have HE2 : Hid (orI x y z = 0) := by
        show _ = _
        rw [HE.out, hx, hy, hz]; rfl
      clear HE hx hy hz
      go_wp2_with fail
      go_ret
      exact ⟨ret_int HE2.out.symm, rfl⟩
end Go.Proofs.YtchfmjociflgfaaGreatDoor
