/- Texts of this seat, merged. -/
import Derived.Deep.QuietTactic
import Derived.BigQuiet
import Derived.Test.YtijmnenojbfdnaaGreatDoorEm01
import Derived.Test.YtijmnenojbfdnaaGreatDoorEm02
import Derived.Test.YtijmnenojbfdnaaGreatDoorEm03
set_option linter.unusedSimpArgs false
set_option linter.unusedVariables false
namespace Go.Proofs.YtijmnenojbfdnaaGreatDoor
open Go.RowKit
def sameS (s : ByteArray) (y : ByteArray) : Bool := y.toList == s.toList
theorem atS_hit (l : List ByteArray) (s : ByteArray) (j : Nat) (y : ByteArray) (hy : l[j]? = some y) (h : sameS s y = true) (hn : ∀ q z, q < j → l[q]? = some z → sameS s z = false) : atS l s = j := by
  have hj : j < l.length := by
    rcases Nat.lt_or_ge j l.length with h | h
    · exact h
    · rw [List.getElem?_eq_none h] at hy; cases hy
  have : l.findIdx? (fun y => y.toList == s.toList) = some j := by
    rw [List.findIdx?_eq_some_iff_getElem]
    refine ⟨hj, ?_, fun q hq => ?_⟩
    · rw [List.getElem?_eq_getElem hj] at hy; injection hy with hy; rw [hy]; exact h
    · have := hn q _ hq (List.getElem?_eq_getElem (by omega)); simpa [sameS] using this
  unfold atS; rw [this]
theorem atS_miss (l : List ByteArray) (s : ByteArray) (hn : ∀ q z, q < l.length → l[q]? = some z → sameS s z = false) : atS l s = -1 := by
  have : l.findIdx? (fun y => y.toList == s.toList) = none := by
    rw [List.findIdx?_eq_none_iff]
    intro x hx
    obtain ⟨q, hq, rfl⟩ := List.mem_iff_getElem.1 hx
    exact hn q _ hq (List.getElem?_eq_getElem hq)
  unfold atS; rw [this]
theorem atS_any (l : List ByteArray) (s : ByteArray) : decide (0 ≤ atS l s) = l.any (sameS s) := by
  unfold atS
  cases h : l.findIdx? (fun y => y.toList == s.toList) with
  | none =>
    rw [List.findIdx?_eq_none_iff] at h
    rw [Bool.eq_iff_iff]
    simp
    exact fun x hx => by have := h x hx; simpa [sameS] using this
  | some i =>
    rw [List.findIdx?_eq_some_iff_getElem] at h
    obtain ⟨h1, h2, _⟩ := h
    rw [Bool.eq_iff_iff]
    simp
    exact ⟨_, List.getElem_mem h1, h2⟩
set_option maxHeartbeats 400000 in
theorem index_ref (v : Value) (l : List ByteArray) (s : ByteArray) (w : World) (hv : SlS (Lt w.heap.size) w v l) :
    Calls Tryz.prog 115 #[v, .string s] w fun e w' => e = .returned (.int .i64 (atS l s)) ∧ w = w' := by
  obtain ⟨A, c, rfl, h1, h2, hv⟩ := hv.open_
  go_enter Tryz.func115, Tryz.ntmps115
  go_wp2_with fail
  go_loop [5] (fun i => ∃ k : Nat, k ≤ l.length ∧ i = .int .i64 k ∧ ∀ j y, j < k → l[j]? = some y → sameS s y = false) (fun i => l.length - (intOf i).toNat)
  case atStart => exact ⟨0, Nat.zero_le _, rfl, fun j _ h => absurd h (by omega)⟩
  case round =>
    obtain ⟨k, hk, rfl, hp⟩ := hrel
    have HP := Lib.hid hp
    clear hp
    by_cases hlt : k < l.length
    · obtain ⟨b, o, y, rfl, hD, hx, hf, hcell⟩ := hv.at_ hlt
      have HX := Lib.hid hx
      clear hx
      cases hq : (y.toList == s.toList) with
      | true =>
        have HE := Lib.hid (atS_hit l s k y HX.out hq HP.out)
        go_wp2_with fail
        go_ret
        exact ⟨ret_int HE.out.symm, rfl⟩
      | false =>
        have HQ : Hid (sameS s y = false) := hq
        go_wp2_with fail
        go_round
        case rel => exact ⟨k + 1, by omega, by go_num, fun j z hj hz => by
          by_cases e : j = k
          · subst e; rw [HX.out] at hz; injection hz with hz; rw [← hz]; exact HQ.out
          · exact HP.out j z (by omega) hz⟩
        case measure => simp [intOf]; omega
    · have HE := Lib.hid (atS_miss l s (fun q z hq hz => HP.out q z (by omega) hz))
      go_wp2_with fail
      go_ret
      exact ⟨ret_int HE.out.symm, rfl⟩
def FineTo (its : List ByteArray) (k : Nat) : Prop := ∀ (j : Nat) s, j < k → its[j]? = some s → textB s = true ∧ (its.take j).any (sameS s) = false
theorem sameS_iff (s y : ByteArray) : sameS s y = true ↔ y.data.toList = s.data.toList := by
  unfold sameS
  rw [Lib.toList_data, Lib.toList_data]
  simp
theorem fine_all {its : List ByteArray} (h : FineTo its its.length) : (its.all textB && onceB (bytesOf its)) = true := by
  rw [Bool.and_eq_true]
  constructor
  · rw [List.all_eq_true]
    intro s hs
    obtain ⟨j, hj, rfl⟩ := List.mem_iff_getElem.1 hs
    exact (h j _ hj (List.getElem?_eq_getElem hj)).1
  · unfold onceB
    rw [decide_eq_true_eq]
    unfold List.Nodup
    rw [List.pairwise_iff_getElem]
    intro i j hi hj hij e
    have hj' : j < its.length := by simpa [bytesOf] using hj
    have h2 := (h j _ hj' (List.getElem?_eq_getElem hj')).2
    rw [List.any_eq_false] at h2
    refine h2 its[i] ?_ ?_
    · rw [List.mem_take_iff_getElem]
      exact ⟨i, by omega, rfl⟩
    · rw [sameS_iff]
      simpa [bytesOf] using e
theorem fine_text {its : List ByteArray} {j : Nat} {s : ByteArray} (hs : its[j]? = some s) (h : textB s = false) : (its.all textB && onceB (bytesOf its)) = false := by
  rw [Bool.and_eq_false_iff]
  left
  rw [Bool.eq_false_iff]
  intro h'
  rw [List.all_eq_true.1 h' s (List.mem_of_getElem? hs)] at h
  cases h
theorem fine_twice {its : List ByteArray} {j : Nat} {s : ByteArray} (hs : its[j]? = some s) (h : (its.take j).any (sameS s) = true) : (its.all textB && onceB (bytesOf its)) = false := by
  rw [Bool.and_eq_false_iff]
  right
  unfold onceB
  rw [decide_eq_false_iff_not]
  intro hn
  obtain ⟨y, hy, hsy⟩ := List.any_eq_true.1 h
  rw [List.mem_take_iff_getElem] at hy
  obtain ⟨i, hi, rfl⟩ := hy
  rw [sameS_iff] at hsy
  have hj : j < its.length := by
    rcases Nat.lt_or_ge j its.length with h | h
    · exact h
    · rw [List.getElem?_eq_none h] at hs; cases hs
  rw [List.getElem?_eq_getElem hj] at hs
  injection hs with hs
  unfold List.Nodup at hn
  rw [List.pairwise_iff_getElem] at hn
  refine hn i j (by simp [bytesOf]; omega) (by simpa [bytesOf] using hj) (by omega) ?_
  simp only [bytesOf, List.getElem_map]
  rw [hs, hsy]
end Go.Proofs.YtijmnenojbfdnaaGreatDoor
