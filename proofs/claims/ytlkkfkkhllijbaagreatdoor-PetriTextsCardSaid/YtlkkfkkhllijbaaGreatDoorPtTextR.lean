/- The text of a net in the reference. -/
import Derived.Test.YtlkkfkkhllijbaaGreatDoorPtNumR
namespace Go.Proofs.YtlkkfkkhllijbaaGreatDoor
open Go.RowKit

theorem app_bytes' (a b : List UInt8) : (⟨a.toArray⟩ : ByteArray) ++ ⟨b.toArray⟩ = ⟨(a ++ b).toArray⟩ := app_bytes a b
theorem nums_snoc' {zs : List Int} {k : Nat} {z : Int} (h : zs[k]? = some z) (h0 : 0 ≤ z) : (⟨(numsB (zs.take k)).toArray⟩ : ByteArray) ++ ⟨#[32]⟩ ++ decS z = ⟨(numsB (zs.take (k + 1))).toArray⟩ := by
  rw [nums_snoc zs k z h, numB_itoa h0]
  unfold decS
  show (⟨(numsB (zs.take k)).toArray⟩ : ByteArray) ++ ⟨[32].toArray⟩ ++ ⟨(Lib.itoa z).toArray⟩ = _
  rw [app_bytes, app_bytes, List.append_assoc]; rfl
theorem nums_size {zs : List Int} (h : ∀ z ∈ zs, 0 ≤ z ∧ z ≤ 9223372036854775807) : (numsB zs).length ≤ 21 * zs.length := by
  induction zs with
  | nil => simp [numsB]
  | cons z zs ih =>
    have h1 := ih (fun y hy => h y (by simp [hy]))
    have h2 : (numB z).length ≤ 20 := by
      have hz := h z (by simp)
      have := dec_size (n := z) (by unfold Fit; omega)
      rw [numB_itoa hz.1]
      unfold decS at this
      rw [size_mk] at this
      exact this
    simp only [numsB, List.flatMap_cons, List.length_append, List.length_cons] at *
    omega
set_option maxHeartbeats 1000000 in
theorem numbers_ref (lv : Value) (zs : List Int) (w : World) (hl : SlI (Lt w.heap.size) w lv zs) (hz : ∀ z ∈ zs, 0 ≤ z ∧ z ≤ 9223372036854775807) (hn : zs.length ≤ 1000000) :
    Calls Tryz.prog 34 #[lv] w fun e w' => e = .returned (.string ⟨(numsB zs).toArray⟩) ∧ w = w' := by
  have HZ := Lib.hid hz
  have HS : Hid (∀ k z, zs[k]? = some z → (⟨(numsB (zs.take k)).toArray⟩ : ByteArray) ++ ⟨#[32]⟩ ++ decS z = ⟨(numsB (zs.take (k + 1))).toArray⟩) := fun k z h => nums_snoc' h (hz z (List.mem_of_getElem? h)).1
  have HL : Hid (∀ k, (⟨(numsB (zs.take k)).toArray⟩ : ByteArray).size ≤ 21 * k) := fun k => by
    rw [size_mk]
    have := nums_size (zs := zs.take k) (fun z h => hz z (List.mem_of_mem_take h))
    rw [List.length_take] at this
    omega
  clear hz
  obtain ⟨A, c, rfl, h1, h2, hl⟩ := hl.open_
  go_enter Tryz.func34, Tryz.ntmps34
  go_wp2_with fail
  go_loopw [3, 4] (fun sv iv wr => ∃ k : Nat, k ≤ zs.length ∧ iv = .int .i64 k ∧ sv = .string ⟨(numsB (zs.take k)).toArray⟩ ∧ w = wr) (fun _ iv _ => zs.length - (intOf iv).toNat)
  case atStart => exact ⟨0, Nat.zero_le _, rfl, rfl, rfl⟩
  case round =>
    obtain ⟨k, hk, rfl, rfl, rfl⟩ := hrel
    by_cases hlt : k < zs.length
    · obtain ⟨b, o, z, rfl, hD, hx, hf, c0⟩ := hl.at_ hlt
      have HX := Lib.hid (HS.out k z hx)
      have hsz := HL.out k
      have hdz := dec_size hf
      have hs32 : ((⟨(numsB (zs.take k)).toArray⟩ : ByteArray) ++ ⟨#[32]⟩).size = (⟨(numsB (zs.take k)).toArray⟩ : ByteArray).size + 1 := by rw [ByteArray.size_append]; rfl
      have HD := Lib.hid (decimal_any z w hf)
      have a3 : (0 : Int) ≤ (k : Int) := by omega
      have a4 : (k : Int) < (zs.length : Int) := by omega
      clear hx hf
      generalize hS : (⟨(numsB (zs.take k)).toArray⟩ : ByteArray) = S at *
      generalize hT : decS z = T at *
      clear hS
      go_wp2_with fail
      refine HD.out.mono ?_
      rintro e w2 ⟨rfl, rfl⟩
      go_wp2_with fail
      go_roundw
      case rel => exact ⟨k + 1, by omega, by go_num, by rw [← HX.out], trivial⟩
      case measure => simp [intOf]; omega
    · obtain rfl : k = zs.length := by omega
      go_wp2_with fail
      rw [List.take_of_length_le (Nat.le_refl _)]
      go_ret
      exact ⟨rfl, rfl⟩
end Go.Proofs.YtlkkfkkhllijbaaGreatDoor
