/- The key of a word. -/
import Derived.Test.YtilmdlkfmkbfmaaPvVar
import Derived.Lib.Join
set_option linter.all false
namespace Go.Proofs.Ytilmdlkfmkbfmaa
open Go.RowKit

def keyB (u : Wd) : List UInt8 := Lib.join (u.map (·.data.toList)) [32]
def keyS (u : Wd) : ByteArray := ⟨(keyB u).toArray⟩
theorem keyS_toList (u : Wd) : (keyS u).data.toList = keyB u := rfl
theorem ba_size (s : ByteArray) : s.size = s.data.toList.length := Array.length_toList.symm
theorem name_no32 {s : ByteArray} (h : isNameB s = true) : (32 : UInt8) ∉ s.data.toList ∧ s.data.toList ≠ [] ∧ s.size ≤ 40 := by
  unfold isNameB at h
  simp only [Bool.and_eq_true, decide_eq_true_eq, List.all_eq_true] at h
  obtain ⟨⟨⟨h1, h2⟩, h3⟩, h4⟩ := h
  have hs : s.size = s.data.toList.length := ba_size _
  refine ⟨fun hm => ?_, fun e => ?_, h2⟩
  · obtain ⟨i, hi, e⟩ := List.mem_iff_getElem.1 hm
    have h5 := h4 i (List.mem_range.2 (by rw [hs]; exact hi))
    have hb : byteAt s i = 32 := by unfold byteAt; rw [List.getElem?_eq_getElem hi, e]; rfl
    rw [hb] at h5
    revert h5; decide
  · rw [hs, e] at h1; simp at h1
/-- Words of names are told apart by their keys. -/
theorem app32 {a b c d : List UInt8} (ha : (32 : UInt8) ∉ a) (hb : (32 : UInt8) ∉ b) (h : a ++ 32 :: c = b ++ 32 :: d) : a = b ∧ c = d := by
  induction a generalizing b with
  | nil =>
    cases b with
    | nil => injection h with _ h; exact ⟨rfl, h⟩
    | cons y b => injection h with h _; exact absurd (by rw [← h]; exact List.mem_cons_self) hb
  | cons x a ih =>
    cases b with
    | nil => injection h with h _; exact absurd (by rw [h]; exact List.mem_cons_self) ha
    | cons y b =>
      injection h with h1 h2
      obtain ⟨e1, e2⟩ := ih (fun hm => ha (List.mem_cons_of_mem _ hm)) (fun hm => hb (List.mem_cons_of_mem _ hm)) h2
      exact ⟨by rw [h1, e1], e2⟩
theorem ba_ext {x y : ByteArray} (h : x.data.toList = y.data.toList) : x = y := by
  cases x; cases y; congr 1; exact Array.toList_inj.1 h
theorem keyB_nil : keyB [] = [] := rfl
theorem keyB_one (x : ByteArray) : keyB [x] = x.data.toList := Lib.join_one _ _
theorem keyB_cons (x y : ByteArray) (r : Wd) : keyB (x :: y :: r) = x.data.toList ++ 32 :: keyB (y :: r) := by
  simp [keyB, Lib.join, List.intercalate, List.intersperse]
theorem keyB_inj : ∀ (u v : Wd), Names u → Names v → keyB u = keyB v → u = v
  | [], [], _, _, _ => rfl
  | [], [y], _, hv, h => absurd (show y.data.toList = [] from (keyB_one y).symm.trans h.symm) (name_no32 (hv y (by simp))).2.1
  | [], y :: z :: r, _, hv, h => by rw [keyB_cons] at h; exact absurd (congrArg List.length h) (by simp [keyB_nil])
  | [x], [], hu, _, h => absurd (show x.data.toList = [] from (keyB_one x).symm.trans h) (name_no32 (hu x (by simp))).2.1
  | x :: z :: r, [], hu, _, h => by rw [keyB_cons] at h; exact absurd (congrArg List.length h) (by simp [keyB_nil])
  | [x], [y], _, _, h => by rw [keyB_one, keyB_one] at h; rw [ba_ext h]
  | [x], y :: z :: r, hu, _, h => by
    rw [keyB_cons, keyB_one] at h
    exact absurd (by rw [h]; simp) (name_no32 (hu x (by simp))).1
  | x :: z :: r, [y], _, hv, h => by
    rw [keyB_cons, keyB_one] at h
    exact absurd (by rw [← h]; simp) (name_no32 (hv y (by simp))).1
  | x :: z :: r, y :: z' :: r', hu, hv, h => by
    rw [keyB_cons, keyB_cons] at h
    obtain ⟨h1, h2⟩ := app32 (name_no32 (hu x (by simp))).1 (name_no32 (hv y (by simp))).1 h
    rw [ba_ext h1, keyB_inj (z :: r) (z' :: r') (fun a ha => hu a (List.mem_cons_of_mem _ ha)) (fun a ha => hv a (List.mem_cons_of_mem _ ha)) h2]
theorem keyB_len : ∀ u : Wd, Names u → (keyB u).length ≤ 41 * u.length
  | [], _ => by simp [keyB_nil]
  | [x], h => by
    have h1 := (name_no32 (h x (by simp))).2.2
    rw [keyB_one]
    have hs : x.size = x.data.toList.length := ba_size _
    rw [← hs]; simp; omega
  | x :: y :: r, h => by
    have h1 := (name_no32 (h x (by simp))).2.2
    have hs : x.size = x.data.toList.length := ba_size _
    have ih := keyB_len (y :: r) (fun a ha => h a (List.mem_cons_of_mem _ ha))
    rw [keyB_cons, List.length_append, List.length_cons, ← hs]
    simp only [List.length_cons] at ih ⊢
    omega
theorem keyS_size (u : Wd) (h : Names u) (hl : u.length ≤ 1000) : (keyS u).size ≤ maxLen := by
  have h1 := keyB_len u h
  have h2 : (keyS u).size = (keyB u).length := by rw [← keyS_toList]; exact ba_size _
  unfold maxLen
  omega
set_option maxHeartbeats 400000 in
theorem key_any (v : Value) (u : Wd) (w : World) (hv : SlS (Lt w.heap.size) w v u) (hn : Names u) (hl : u.length ≤ 1000) :
    Calls Try.prog 26 #[v] w fun e w' => e = .returned (.string (keyS u)) ∧ Below w.heap.size w w' := by
  have hk := keyB_len u hn
  have HJ : Hid (Calls Try.prog 42 #[v, .string ⟨#[32]⟩] w fun e w' => e = .returned (.string (keyS u)) ∧ Below w.heap.size w w') := by
    obtain ⟨A, c, rfl, h1, h2, hs⟩ := hv.open_
    rcases Nat.eq_zero_or_pos u.length with h0 | h0
    · obtain rfl : u = [] := List.eq_nil_of_length_eq_zero h0
      exact Lib.hid ((Try.strings_Join_none A c ⟨#[32]⟩ w).mono fun e w' ⟨he, hw⟩ => ⟨he, by rw [hw]; exact Below.refl _ _⟩)
    · obtain ⟨b, o, rfl, hD, _, hc⟩ := hs.cells h0
      refine Lib.hid ((Try.strings_Join b o c u ⟨#[32]⟩ w (fun j x hx => ?_) hD (by omega) h1 (Nat.le_trans (show _ ≤ _ from hk) (by omega))).mono fun e w' ⟨he, hw⟩ => ⟨he, hw⟩)
      have h3 := hc j (List.getElem?_eq_some_iff.1 hx).1
      rw [List.getD_eq_getElem?_getD, hx] at h3
      exact h3
  obtain ⟨A, c, rfl, _, _, _⟩ := hv.open_
  clear hv hk
  go_enter Try.func26, Try.ntmps26
  go_wp2_with fail
  (with_reducible refine HJ.out.mono ?_)
  rintro e w' ⟨rfl, hb⟩
  go_wp2_with fail
  go_ret
  exact ⟨rfl, hb⟩
end Go.Proofs.Ytilmdlkfmkbfmaa
