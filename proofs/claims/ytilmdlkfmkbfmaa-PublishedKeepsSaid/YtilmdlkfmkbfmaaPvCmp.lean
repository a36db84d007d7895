/- Words compared: slices.Compare, name.Compare; the key of a word; searches by closures. -/
import Derived.Test.YtilmdlkfmkbfmaaPvRd
import Derived.Test.YtilmdlkfmkbfmaaStrLess
import Derived.Test.YtilmdlkfmkbfmaaShelf
import Derived.Laws.IdiomStrings
import Derived.BigQuiet
import Derived.Deep.QuietTactic
set_option linter.all false
namespace Go.Proofs.Ytilmdlkfmkbfmaa
open Go.RowKit

def cmpS (x y : ByteArray) : Int := if x.data.toList < y.data.toList then -1 else if y.data.toList < x.data.toList then 1 else 0
def cmpW : Wd → Wd → Int
  | [], [] => 0
  | [], _ :: _ => -1
  | _ :: _, [] => 1
  | x :: a, y :: b => if cmpS x y ≠ 0 then cmpS x y else cmpW a b
theorem isNaN_str (x : ByteArray) (w : World) : Calls Try.prog 72 #[.string x] w fun e w' => e = .returned (.bool false) ∧ w' = w := by
  go_enter Try.func72, Try.ntmps72
  go_wp2_with fail
  go_ret
  exact ⟨by simp, rfl⟩
theorem bytesLess_iff (x y : ByteArray) : Op.bytesLess x.toList y.toList = decide (x.data.toList < y.data.toList) := by
  exact less_at x y
theorem compare_str (x y : ByteArray) (w : World) : Calls Try.prog 59 #[.string x, .string y] w fun e w' => e = .returned (.int .i64 (cmpS x y)) ∧ w' = w := by
  have HX := Lib.hid (isNaN_str x)
  have HY := Lib.hid (isNaN_str y)
  have HC : Hid (cmpS x y = if x.data.toList < y.data.toList then -1 else if y.data.toList < x.data.toList then 1 else 0) := Lib.hid rfl
  have h1 := bytesLess_iff x y
  have h2 := bytesLess_iff y x
  by_cases hl : x.data.toList < y.data.toList
  · rw [decide_eq_true hl] at h1
    have HE : Hid (cmpS x y = -1) := Lib.hid (by rw [HC.out, if_pos hl])
    clear hl h2
    go_enter Try.func59, Try.ntmps59
    go_wp2_with (first | (go_at_call 72; (with_reducible first | refine (HX.out _).mono ?_ | refine (HY.out _).mono ?_); rintro e w' ⟨rfl, rfl⟩))
    go_ret
    exact ⟨by rw [HE.out]; rfl, rfl⟩
  · rw [decide_eq_false hl] at h1
    by_cases hg : y.data.toList < x.data.toList
    · rw [decide_eq_true hg] at h2
      have HE : Hid (cmpS x y = 1) := Lib.hid (by rw [HC.out, if_neg hl, if_pos hg])
      have hne : (x.toList == y.toList) = false := by
        rw [Lib.toList_data, Lib.toList_data, beq_eq_false_iff_ne]
        intro e; rw [e] at hg; exact List.lt_irrefl _ hg
      clear hl hg
      go_enter Try.func59, Try.ntmps59
      go_wp2_with (first | (go_at_call 72; (with_reducible first | refine (HX.out _).mono ?_ | refine (HY.out _).mono ?_); rintro e w' ⟨rfl, rfl⟩))
      go_ret
      exact ⟨by rw [HE.out]; rfl, rfl⟩
    · rw [decide_eq_false hg] at h2
      have HE : Hid (cmpS x y = 0) := Lib.hid (by rw [HC.out, if_neg hl, if_neg hg])
      have hne : (x.toList == y.toList) = true := by
        rw [Lib.toList_data, Lib.toList_data, beq_iff_eq]
        exact List.le_antisymm (List.not_lt.1 hg) (List.not_lt.1 hl)
      clear hl hg
      go_enter Try.func59, Try.ntmps59
      go_wp2_with (first | (go_at_call 72; (with_reducible first | refine (HX.out _).mono ?_ | refine (HY.out _).mono ?_); rintro e w' ⟨rfl, rfl⟩))
      go_ret
      exact ⟨by rw [HE.out]; rfl, rfl⟩
theorem cmpW_hit : ∀ (a b : Wd) (k : Nat) (x y : ByteArray), a[k]? = some x → b[k]? = some y → (∀ (j : Nat) x y, j < k → a[j]? = some x → b[j]? = some y → cmpS x y = 0) → cmpS x y ≠ 0 → cmpW a b = cmpS x y
  | [], _, k, x, y, h, _, _, _ => by simp at h
  | _ :: _, [], k, x, y, _, h, _, _ => by simp at h
  | p :: a, q :: b, 0, x, y, h1, h2, _, hn => by
    injection h1 with h1; injection h2 with h2
    subst h1 h2
    show (if cmpS p q ≠ 0 then cmpS p q else cmpW a b) = _
    rw [if_pos hn]
  | p :: a, q :: b, k + 1, x, y, h1, h2, hz, hn => by
    have h0 := hz 0 p q (by omega) rfl rfl
    show (if cmpS p q ≠ 0 then cmpS p q else cmpW a b) = _
    rw [if_neg (by simp [h0])]
    exact cmpW_hit a b k x y h1 h2 (fun j x y hj h3 h4 => hz (j + 1) x y (by omega) h3 h4) hn
theorem cmpW_miss : ∀ (a b : Wd), (∀ (j : Nat) x y, a[j]? = some x → b[j]? = some y → cmpS x y = 0) → cmpW a b = if b.length < a.length then 1 else if a.length < b.length then -1 else 0
  | [], [], _ => rfl
  | [], y :: b, _ => by
    rw [if_neg (by simp), if_pos (by simp)]; rfl
  | x :: a, [], _ => by
    rw [if_pos (by simp)]; rfl
  | x :: a, y :: b, hz => by
    have h0 := hz 0 x y rfl rfl
    show (if cmpS x y ≠ 0 then cmpS x y else cmpW a b) = _
    rw [if_neg (by simp [h0]), cmpW_miss a b (fun j x y h3 h4 => hz (j + 1) x y h3 h4)]
    simp
set_option maxHeartbeats 1000000 in
theorem compareW_any (u v : Value) (a b : Wd) (w : World) (hu : SlS (Lt w.heap.size) w u a) (hv : SlS (Lt w.heap.size) w v b) :
    Calls Try.prog 53 #[u, v] w fun e w' => e = .returned (.int .i64 (cmpW a b)) ∧ w' = w := by
  obtain ⟨A, c, rfl, h1, h2, hu⟩ := hu.open_
  obtain ⟨B, d, rfl, g1, g2, hv⟩ := hv.open_
  have HC := Lib.hid (fun x y => compare_str x y w)
  go_enter Try.func53, Try.ntmps53
  go_wp2_with fail
  go_loopw [11] (fun iv wr => ∃ k : Nat, iv = .int .i64 (k : Int) ∧ k ≤ a.length ∧ k ≤ b.length ∧ Hid (∀ (j : Nat) x y, j < k → a[j]? = some x → b[j]? = some y → cmpS x y = 0) ∧ wr = w) (fun iv _ => a.length - (intOf iv).toNat)
  case atStart => exact ⟨0, rfl, Nat.zero_le _, Nat.zero_le _, Lib.hid (fun j x y h => absurd h (by omega)), rfl⟩
  case round =>
    obtain ⟨k, rfl, hk, hkb, HZ, hwr⟩ := hrel
    subst hwr
    by_cases hlt : k < a.length
    · obtain ⟨b1, o1, x, rfl, hD1, hx, hxs, hc1⟩ := hu.at_ hlt
      by_cases hlb : k < b.length
      · obtain ⟨b2, o2, y, rfl, hD2, hy, hys, hc2⟩ := hv.at_ hlb
        have HXY := Lib.hid (And.intro hx hy)
        have z1 : ¬ (b.length : Int) ≤ (k : Int) := by omega
        have z0 : (0 : Int) ≤ (k : Int) := by omega
        have hcc := HC.out x y
        obtain ⟨z, hz⟩ : ∃ z, cmpS x y = z := ⟨_, rfl⟩
        have HZZ := Lib.hid hz
        rw [hz] at hcc
        have HCC := Lib.hid hcc
        clear hx hy hz hcc
        by_cases h0 : z = 0
        · subst h0
          go_wp2_with fail
          (with_reducible refine HCC.out.mono ?_)
          rintro e w' ⟨rfl, rfl⟩
          go_wp2_with fail
          go_roundw
          case rel =>
            refine ⟨k + 1, by go_num, by omega, by omega, Lib.hid (fun j p q hj hp hq => ?_), by first | rfl | trivial⟩
            by_cases e : j = k
            · subst e
              rw [HXY.out.1] at hp; rw [HXY.out.2] at hq
              injection hp with hp; injection hq with hq
              subst hp hq
              exact HZZ.out
            · exact HZ.out j p q (by omega) hp hq
          case measure => simp [intOf]; omega
        · have z2 : (z != 0) = true := by simp [h0]
          have HE : Hid (cmpW a b = z) := Lib.hid (by rw [cmpW_hit a b k x y HXY.out.1 HXY.out.2 HZ.out (by rw [HZZ.out]; exact h0), HZZ.out])
          clear h0
          go_wp2_with fail
          (with_reducible refine HCC.out.mono ?_)
          rintro e w' ⟨rfl, rfl⟩
          go_wp2_with fail
          go_ret
          exact ⟨by rw [HE.out]; rfl, rfl⟩
      · obtain rfl : k = b.length := by omega
        have z1 : (b.length : Int) ≤ (b.length : Int) := by omega
        have HE : Hid (cmpW a b = 1) := Lib.hid (by
          rw [cmpW_miss a b (fun j p q hp hq => HZ.out j p q (List.getElem?_eq_some_iff.1 hq).1 hp hq), if_pos hlt])
        go_wp2_with fail
        go_ret
        exact ⟨by rw [HE.out]; rfl, rfl⟩
    · obtain rfl : k = a.length := by omega
      have z0 : ¬ (a.length : Int) < (a.length : Int) := by omega
      have HE : Hid (cmpW a b = if a.length < b.length then -1 else 0) := Lib.hid (by
          rw [cmpW_miss a b (fun j p q hp hq => HZ.out j p q (List.getElem?_eq_some_iff.1 hp).1 hp hq), if_neg (by omega)])
      by_cases hlb : a.length < b.length
      · rw [if_pos hlb] at HE
        have z1 : (a.length : Int) < (b.length : Int) := by omega
        go_wp2_with fail
        go_ret
        exact ⟨by rw [HE.out]; rfl, rfl⟩
      · rw [if_neg hlb] at HE
        have z1 : ¬ (a.length : Int) < (b.length : Int) := by omega
        go_wp2_with fail
        go_ret
        exact ⟨by rw [HE.out]; rfl, rfl⟩
theorem nameCompare_any (u v : Value) (a b : Wd) (w : World) (hu : SlS (Lt w.heap.size) w u a) (hv : SlS (Lt w.heap.size) w v b) :
    Calls Try.prog 41 #[u, v] w fun e w' => e = .returned (.int .i64 (cmpW a b)) ∧ w' = w := by
  have HC := Lib.hid (compareW_any u v a b w hu hv)
  obtain ⟨A, c, rfl, _, _, _⟩ := hu.open_
  obtain ⟨B, d, rfl, _, _, _⟩ := hv.open_
  clear hu hv
  go_enter Try.func41, Try.ntmps41
  go_wp2_with fail
  (with_reducible refine HC.out.mono ?_)
  rintro e w' ⟨rfl, rfl⟩
  go_wp2_with fail
  go_ret
  exact ⟨rfl, rfl⟩
end Go.Proofs.Ytilmdlkfmkbfmaa
