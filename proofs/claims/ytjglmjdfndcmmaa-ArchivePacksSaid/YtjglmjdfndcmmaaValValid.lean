/- value.text, value.Valid and the reference's Printable, text, Valid. -/
import Derived.Test.YtjglmjdfndcmmaaValBase
set_option linter.all false
namespace Go.Proofs.Ytjglmjdfndcmmaa
open Go.RowKit

def plainS (s : ByteArray) : Bool := s.data.toList.all plainC
theorem any_not_allC (l : List UInt8) : (l.any fun x => !plainC x) = !l.all plainC := by
  induction l with
  | nil => rfl
  | cons a m ih => simp [List.any_cons, List.all_cons, ih]
theorem textB_long {s : ByteArray} (h : 200 < s.size) : textB s = false := by
  unfold textB
  have h' : ¬ s.size ≤ 200 := by omega
  simp [h']
theorem textB_short {s : ByteArray} (h : s.size ≤ 200) : textB s = plainS s := by unfold textB plainS; simp [h]

theorem rowB_new (w : World) (s : ByteArray) (cap t : Nat) (fr : Nat × Nat) : RowB (w.alloc (.cells (bytesRow s cap) t fr)).drew w.heap.size s.data.toList := by
  intro k c hk
  rw [Array.getElem?_toList] at hk
  have hkl : k < s.data.size := by
    rcases Nat.lt_or_ge k s.data.size with h | h
    · exact h
    · rw [Array.getElem?_eq_none h] at hk; cases hk
  have h1 : (w.alloc (.cells (bytesRow s cap) t fr)).drew.heap[w.heap.size]? = some (.cells (bytesRow s cap) t fr) := by
    show (w.heap.push _)[w.heap.size]? = _
    simp
  simp only [World.cell?, h1]
  simp only [Option.isSome_none, Bool.false_eq_true, if_false]
  unfold bytesRow
  rw [Array.getElem?_append_left (by simpa using hkl), Array.getElem?_map, hk]
  rfl

set_option maxHeartbeats 400000 in
theorem text_any (s : ByteArray) (w : World) (hs : s.size ≤ maxLen) : Calls Try.prog 95 #[.string s] w fun e w' => e = .returned (.bool (textB s)) ∧ Below w.heap.size w w' := by
  unfold maxLen at hs
  by_cases h1 : 200 < s.size
  · have HE := Lib.hid (textB_long h1)
    go_enter Try.func95, Try.ntmps95
    go_wp2
    go_ret
    exact ⟨ret_bool HE.out.symm, Below.refl _ _⟩
  · have h2 : s.size ≤ 200 := by omega
    have HE : Hid (textB s = !(s.data.toList.any fun x => !plainC x)) := by show textB s = _; rw [textB_short h2, any_not_allC]; unfold plainS; simp
    have hconv := fun w => run_bytes_of_string (P := Try.prog) w 9 25 5 s Try.underlying9 Try.underlying25 Try.underlying5
    go_enter Try.func95, Try.ntmps95
    go_wp2_with fail
    refine (containsTextB w.heap.size _ s.data.toList _ (by rw [Array.length_toList]; show s.size ≤ _; omega) (rowB_new w s _ _ _)).mono ?_
    rintro e w1 ⟨rfl, rfl⟩
    generalize (s.data.toList.any fun x => !plainC x) = q at *
    go_wp2_with fail
    go_ret
    exact ⟨ret_bool HE.out.symm, (bone w _).drew⟩

/-! ### the reference's -/
theorem byte_plain {s : ByteArray} {k : Nat} (h : k < s.size) : plainC (s.data.toList[k]'(by simpa using h)) = true ↔ 32 ≤ (s[k].toNat : Int) ∧ (s[k].toNat : Int) ≤ 126 := plainC_iff _
theorem all_plain {s : ByteArray} (h : ∀ j (hj : j < s.size), plainC (s.data.toList[j]'(by simpa using hj)) = true) : plainS s = true := by
  unfold plainS
  rw [List.all_eq_true]
  intro c hc
  obtain ⟨j, hj, rfl⟩ := List.mem_iff_getElem.1 hc
  exact h j (by simpa using hj)
theorem not_plain {s : ByteArray} {j : Nat} (hj : j < s.size) (h : ¬ plainC (s.data.toList[j]'(by simpa using hj)) = true) : plainS s = false := by
  unfold plainS
  rw [Bool.eq_false_iff]
  intro h'
  exact h (List.all_eq_true.1 h' _ (List.getElem_mem _))

set_option maxHeartbeats 400000 in
theorem printable_ref (s : ByteArray) (w : World) (hs : s.size ≤ maxLen) : Calls Try.prog 116 #[.string s] w fun e w' => e = .returned (.bool (plainS s)) ∧ w = w' := by
  unfold maxLen at hs
  go_enter Try.func116, Try.ntmps116
  go_wp2_with fail
  go_loop [3] (fun i => ∃ k : Nat, k ≤ s.size ∧ i = .int .i64 k ∧ ∀ j (hj : j < s.size), j < k → plainC (s.data.toList[j]'(by simpa using hj)) = true) (fun i => s.size - (intOf i).toNat)
  case atStart => exact ⟨0, Nat.zero_le _, rfl, fun j _ hj => absurd hj (by omega)⟩
  case round =>
    obtain ⟨k, hk, rfl, hp⟩ := hrel
    have HP := Lib.hid hp
    clear hp
    by_cases hlt : k < s.size
    · have HY := Lib.hid (byte_plain hlt)
      by_cases h1 : (s[k].toNat : Int) < 32
      · have HE := Lib.hid (not_plain hlt (fun h => by have := HY.out.1 h; omega))
        go_wp2_with fail
        go_ret
        exact ⟨ret_bool HE.out.symm, rfl⟩
      by_cases h2 : 126 < (s[k].toNat : Int)
      · have HE := Lib.hid (not_plain hlt (fun h => by have := HY.out.1 h; omega))
        go_wp2_with fail
        go_ret
        exact ⟨ret_bool HE.out.symm, rfl⟩
      have HQ := Lib.hid (HY.out.2 ⟨by omega, by omega⟩)
      go_wp2_with fail
      go_round
      case rel => exact ⟨k + 1, by omega, by go_num, fun j hj hjk => by
        by_cases e : j = k
        · subst e; exact HQ.out
        · exact HP.out j hj (by omega)⟩
      case measure => simp [intOf]; omega
    · have HE := Lib.hid (all_plain (s := s) (fun j hj => HP.out j hj (by omega)))
      go_wp2_with fail
      go_ret
      exact ⟨ret_bool HE.out.symm, rfl⟩

set_option maxHeartbeats 400000 in
theorem text_ref (s : ByteArray) (w : World) (hs : s.size ≤ maxLen) : Calls Try.prog 103 #[.string s] w fun e w' => e = .returned (.bool (textB s)) ∧ w = w' := by
  have HC := Lib.hid (fun w => printable_ref s w hs)
  unfold maxLen at hs
  by_cases h1 : 200 < s.size
  · have HE := Lib.hid (textB_long h1)
    go_enter Try.func103, Try.ntmps103
    go_wp2
    go_ret
    exact ⟨ret_bool HE.out.symm, rfl⟩
  · have h2 : s.size ≤ 200 := by omega
    have HE := Lib.hid (textB_short h2)
    generalize plainS s = q at *
    go_enter Try.func103, Try.ntmps103
    go_wp2_with (go_at_call 116; refine (HC.out _).mono ?_; rintro e w' ⟨rfl, rfl⟩)
    go_ret
    exact ⟨ret_bool HE.out.symm, rfl⟩

/-! ### Valid -/
set_option maxHeartbeats 1000000 in
theorem validV_any (v : Val) (w : World) (h : FitV v) : Calls Try.prog 74 #[valV v] w fun e w' => e = .returned (.bool (validV v)) ∧ Below w.heap.size w w' := by
  obtain ⟨k, n, s⟩ := v
  obtain ⟨h1, h2, h3⟩ := h
  have HT := Lib.hid (fun w => text_any s w h3)
  have HN := Lib.hid (fun w => number_any n w)
  unfold validV valV noS
  dsimp only at h1 h2 h3 ⊢
  clear h1 h2 h3
  have hb := bone w (.cells #[.int .i64 k, .int .i64 n, .string s] 62)
  by_cases k1 : k = 1
  · subst k1
    by_cases hS : s.toList = []
    · have hS2 : s.toList.isEmpty = true := by simpa using hS
      by_cases n0 : n = 0
      · subst n0
        go_enter Try.func74, Try.ntmps74
        go_wp2_with fail
        go_ret
        exact ⟨ret_bool (by first | (simp; done) | simp [hS]), hb⟩
      · by_cases n1 : n = 1
        · subst n1
          go_enter Try.func74, Try.ntmps74
          go_wp2_with fail
          go_ret
          exact ⟨ret_bool (by first | (simp; done) | simp [hS]), hb⟩
        · go_enter Try.func74, Try.ntmps74
          go_wp2_with fail
          go_ret
          exact ⟨ret_bool (by first | (simp; done) | simp [n0, n1]), hb⟩
    · have hS2 : s.toList.isEmpty = false := by simpa using hS
      by_cases n0 : n = 0
      · subst n0
        go_enter Try.func74, Try.ntmps74
        go_wp2_with fail
        go_ret
        exact ⟨ret_bool (by first | (simp; done) | simp [hS]), hb⟩
      · by_cases n1 : n = 1
        · subst n1
          go_enter Try.func74, Try.ntmps74
          go_wp2_with fail
          go_ret
          exact ⟨ret_bool (by first | (simp; done) | simp [hS]), hb⟩
        · go_enter Try.func74, Try.ntmps74
          go_wp2_with fail
          go_ret
          exact ⟨ret_bool (by first | (simp; done) | simp [n0, n1]), hb⟩
  by_cases k2 : k = 2
  · subst k2
    generalize numB n = q at *
    by_cases hS : s.toList = []
    · have hS2 : s.toList.isEmpty = true := by simpa using hS
      cases q
      all_goals
        go_enter Try.func74, Try.ntmps74
        go_wp2_with (go_at_call 94; refine (HN.out _).mono ?_; rintro e w' ⟨rfl, rfl⟩)
        go_ret
        exact ⟨ret_bool (by first | (simp; done) | simp [hS]), hb⟩
    · have hS2 : s.toList.isEmpty = false := by simpa using hS
      cases q
      all_goals
        go_enter Try.func74, Try.ntmps74
        go_wp2_with (go_at_call 94; refine (HN.out _).mono ?_; rintro e w' ⟨rfl, rfl⟩)
        go_ret
        exact ⟨ret_bool (by first | (simp; done) | simp [hS]), hb⟩
  by_cases k3 : k = 3
  · subst k3
    by_cases n0 : n = 0
    · subst n0
      generalize textB s = q at *
      go_enter Try.func74, Try.ntmps74
      go_wp2_with (go_at_call 95; refine (HT.out _).mono ?_; rintro e w' ⟨rfl, hb1⟩)
      go_ret
      exact ⟨ret_bool (by simp), bthen hb hb1⟩
    · go_enter Try.func74, Try.ntmps74
      go_wp2_with fail
      go_ret
      exact ⟨ret_bool (by first | (simp; done) | simp [n0]), hb⟩
  · go_enter Try.func74, Try.ntmps74
    go_wp2_with fail
    go_ret
    exact ⟨ret_bool (by first | (simp; done) | simp [k1, k2, k3]), hb⟩
set_option maxHeartbeats 1000000 in
theorem validV_ref (v : Val) (w : World) (h : FitV v) : Calls Try.prog 90 #[valV v] w fun e w' => e = .returned (.bool (validV v)) ∧ Below w.heap.size w w' := by
  obtain ⟨k, n, s⟩ := v
  obtain ⟨h1, h2, h3⟩ := h
  have HT := Lib.hid (fun w => text_ref s w h3)
  have HN := Lib.hid (fun w => number_ref n w)
  unfold validV valV noS
  dsimp only at h1 h2 h3 ⊢
  clear h1 h2 h3
  have hb := bone w (.cells #[.int .i64 k, .int .i64 n, .string s] 62)
  by_cases k1 : k = 1
  · subst k1
    by_cases hS : s.toList = []
    · have hS2 : s.toList.isEmpty = true := by simpa using hS
      by_cases n0 : n = 0
      · subst n0
        go_enter Try.func90, Try.ntmps90
        go_wp2_with fail
        go_ret
        exact ⟨ret_bool (by first | (simp; done) | simp [hS]), hb⟩
      · by_cases n1 : n = 1
        · subst n1
          go_enter Try.func90, Try.ntmps90
          go_wp2_with fail
          go_ret
          exact ⟨ret_bool (by first | (simp; done) | simp [hS]), hb⟩
        · go_enter Try.func90, Try.ntmps90
          go_wp2_with fail
          go_ret
          exact ⟨ret_bool (by first | (simp; done) | simp [n0, n1]), hb⟩
    · have hS2 : s.toList.isEmpty = false := by simpa using hS
      by_cases n0 : n = 0
      · subst n0
        go_enter Try.func90, Try.ntmps90
        go_wp2_with fail
        go_ret
        exact ⟨ret_bool (by first | (simp; done) | simp [hS]), hb⟩
      · by_cases n1 : n = 1
        · subst n1
          go_enter Try.func90, Try.ntmps90
          go_wp2_with fail
          go_ret
          exact ⟨ret_bool (by first | (simp; done) | simp [hS]), hb⟩
        · go_enter Try.func90, Try.ntmps90
          go_wp2_with fail
          go_ret
          exact ⟨ret_bool (by first | (simp; done) | simp [n0, n1]), hb⟩
  by_cases k2 : k = 2
  · subst k2
    generalize numB n = q at *
    by_cases hS : s.toList = []
    · have hS2 : s.toList.isEmpty = true := by simpa using hS
      cases q
      all_goals
        go_enter Try.func90, Try.ntmps90
        go_wp2_with (go_at_call 102; refine (HN.out _).mono ?_; rintro e w' ⟨rfl, rfl⟩)
        go_ret
        exact ⟨ret_bool (by first | (simp; done) | simp [hS]), hb⟩
    · have hS2 : s.toList.isEmpty = false := by simpa using hS
      cases q
      all_goals
        go_enter Try.func90, Try.ntmps90
        go_wp2_with (go_at_call 102; refine (HN.out _).mono ?_; rintro e w' ⟨rfl, rfl⟩)
        go_ret
        exact ⟨ret_bool (by first | (simp; done) | simp [hS]), hb⟩
  by_cases k3 : k = 3
  · subst k3
    by_cases n0 : n = 0
    · subst n0
      generalize textB s = q at *
      go_enter Try.func90, Try.ntmps90
      go_wp2_with (go_at_call 103; refine (HT.out _).mono ?_; rintro e w' ⟨rfl, rfl⟩)
      go_ret
      exact ⟨ret_bool (by simp), hb⟩
    · go_enter Try.func90, Try.ntmps90
      go_wp2_with fail
      go_ret
      exact ⟨ret_bool (by first | (simp; done) | simp [n0]), hb⟩
  · go_enter Try.func90, Try.ntmps90
    go_wp2_with fail
    go_ret
    exact ⟨ret_bool (by first | (simp; done) | simp [k1, k2, k3]), hb⟩
end Go.Proofs.Ytjglmjdfndcmmaa
