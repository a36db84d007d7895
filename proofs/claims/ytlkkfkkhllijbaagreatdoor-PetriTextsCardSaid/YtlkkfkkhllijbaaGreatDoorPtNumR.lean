/- Numbers and fields of a net's text in the reference. -/
import Derived.Test.YtlkkfkkhllijbaaGreatDoorPtNum
import Derived.Test.YtlkkfkkhllijbaaGreatDoorOwnF
import Derived.Deep.CutRange
import Derived.Deep.CutBlock
namespace Go.Proofs.YtlkkfkkhllijbaaGreatDoor
open Go.RowKit

theorem size_list (s : ByteArray) : s.data.toList.length = s.size := by rw [Array.length_toList]; rfl
theorem at_list {s : ByteArray} {k : Nat} (h : k < s.size) : s.data.toList[k]? = some s[k] := by
  rw [List.getElem?_eq_getElem (by rw [size_list]; exact h)]
  rfl
theorem head_list {s : ByteArray} (h : 0 < s.size) : s.data.toList.head? = some s[0] := by
  rw [List.head?_eq_getElem?]; exact at_list h
theorem byte_eq {a b : UInt8} : ((a.toNat : Int) == (b.toNat : Int)) = decide (a = b) := by
  rw [Bool.eq_iff_iff, beq_iff_eq, decide_eq_true_eq]
  constructor
  · intro h; exact UInt8.toNat_inj.1 (by omega)
  · rintro rfl; rfl
theorem dig_of {c : UInt8} (h : 48 ≤ c.toNat ∧ c.toNat ≤ 57) : Lib.digitVal c = some (c.toNat - 48) := if_pos h
theorem dig_no {c : UInt8} (h : ¬ (48 ≤ c.toNat ∧ c.toNat ≤ 57)) : Lib.digitVal c = none := if_neg h
theorem num9_stop {s : ByteArray} {k : Nat} (hk : k < s.size) (h : ¬ (48 ≤ s[k].toNat ∧ s[k].toNat ≤ 57)) : num9 s.data.toList = none :=
  num9_bad (List.mem_of_getElem? (at_list hk)) (dig_no h)
theorem dec_next {s : ByteArray} {k n : Nat} (hk : k < s.size) (hd : 48 ≤ s[k].toNat ∧ s[k].toNat ≤ 57) (hn : Lib.decFrom 0 (s.data.toList.take k) = some n) : Lib.decFrom 0 (s.data.toList.take (k + 1)) = some (n * 10 + (s[k].toNat - 48)) :=
  Lib.decFrom_take _ _ _ _ _ _ hn (at_list hk) (dig_of hd)
theorem pow10_le {k : Nat} (h : k ≤ 9) : 10 ^ k ≤ 1000000000 := Nat.pow_le_pow_right (n := 10) (by omega) h
def NumRPost (s : ByteArray) (w : World) (e : Ending) (w' : World) : Prop :=
  ∃ (z : Int) (ok : Bool), e = .returned (.tuple #[.int .i64 z, .bool ok]) ∧ num9 s.data.toList = (if ok then some z else none) ∧ Fit z ∧ w = w'

set_option maxHeartbeats 1000000 in
theorem ptNum_ref (s : ByteArray) (w : World) (hs : s.size ≤ 1000000) : Calls Tryz.prog 49 #[.string s] w (NumRPost s w) := by
  have HB := Lib.hid (fun (k : Nat) (hk : k < s.size) (h : ¬ (48 ≤ s[k].toNat ∧ s[k].toNat ≤ 57)) => num9_stop hk h)
  have HD := Lib.hid (fun (k n : Nat) (hk : k < s.size) (hd : 48 ≤ s[k].toNat ∧ s[k].toNat ≤ 57) (hn : Lib.decFrom 0 (s.data.toList.take k) = some n) => dec_next hk hd hn)
  go_enter Tryz.func49, Tryz.ntmps49
  by_cases h1 : s.size < 1
  · have HN : Hid (num9 s.data.toList = none) := by
      show num9 _ = none
      have e0 : s.data.toList = [] := List.eq_nil_of_length_eq_zero (by rw [size_list]; omega)
      rw [e0]; exact num9_nil
    have h1' : (s.size : Int) < 1 := by omega
    go_wp2_with fail
    go_ret2
    exact ⟨0, false, rfl, HN.out, by unfold Fit; omega, rfl⟩
  by_cases h9 : 9 < s.size
  · have HN : Hid (num9 s.data.toList = none) := num9_long (by rw [size_list]; exact h9)
    have h9' : (9 : Int) < (s.size : Int) := by omega
    go_wp2_with fail
    go_ret2
    exact ⟨0, false, rfl, HN.out, by unfold Fit; omega, rfl⟩
  have h2 : 0 < s.size := by omega
  have h2' : (0 : Int) < (s.size : Int) := by omega
  by_cases hz : 1 < s.size ∧ s[0] = 48
  · have HN : Hid (num9 s.data.toList = none) := num9_zero (by rw [size_list]; exact hz.1) (by rw [head_list h2, hz.2])
    have z1 : (1 : Int) < (s.size : Int) := by omega
    have z2 : ((s[0].toNat : Int) == 48) = true := by rw [hz.2]; rfl
    clear hz
    go_wp2_with fail
    go_ret2
    exact ⟨0, false, rfl, HN.out, by unfold Fit; omega, rfl⟩
  have HE : Hid (∀ u, Lib.decFrom 0 s.data.toList = some u → num9 s.data.toList = some (u : Int)) := fun u hu =>
    num9_ref (by rw [size_list]; omega) (by rw [size_list]; omega) (fun h1 h0 => hz ⟨by rw [size_list] at h1; exact h1, by rw [head_list h2] at h0; injection h0⟩) hu
  have HT : Hid (s.data.toList.take s.size = s.data.toList) := List.take_of_length_le (by rw [size_list]; exact Nat.le_refl _)
  go_upto_region 1 with fail
  go_cut [23] from 6 to 23 (fun b wc => b = .bool false ∧ w = wc)
  case first =>
    by_cases hs1 : 1 < s.size
    · have z1 : (1 : Int) < (s.size : Int) := by omega
      have z2 : ((s[0].toNat : Int) == 48) = false := by
        have := byte_eq (a := s[0]) (b := 48)
        rw [show ((48 : UInt8).toNat : Int) = 48 by rfl] at this
        rw [this, decide_eq_false_iff_not]
        exact fun e => hz ⟨hs1, e⟩
      clear hz
      go_wp2_with fail
      go_meet
      exact ⟨by congr 1; simp; omega, rfl⟩
    · have z1 : (s.size : Int) ≤ 1 := by omega
      clear hz
      go_wp2_with fail
      go_meet
      exact ⟨by congr 1; simp; omega, rfl⟩
  case rest =>
    obtain ⟨rfl, rfl⟩ := hcut
    clear hz
    go_wp2_with fail
    go_loopw [4, 5] (fun nv kv wr => ∃ k n : Nat, k ≤ s.size ∧ kv = .int .i64 k ∧ nv = .int .i64 n ∧ Lib.decFrom 0 (s.data.toList.take k) = some n ∧ n < 10 ^ k ∧ w = wr) (fun _ kv _ => s.size - (intOf kv).toNat)
    case atStart => exact ⟨0, 0, Nat.zero_le _, rfl, rfl, rfl, by decide, rfl⟩
    case round =>
      obtain ⟨k, n, hk, rfl, rfl, hdec, hlt10, rfl⟩ := hrel
      have HX := Lib.hid (And.intro hdec hlt10)
      have hn9 := Nat.lt_of_lt_of_le hlt10 (pow10_le (show k ≤ 9 by omega))
      clear hdec hlt10
      by_cases hlt : k < s.size
      · have i1 : (0 : Int) ≤ (k : Int) := by omega
        have i2 : (k : Int) < (s.size : Int) := by omega
        by_cases d1 : (s[k].toNat : Int) < 48
        · have HBk := Lib.hid (HB.out k hlt (by omega))
          go_wp2_with fail
          go_ret2
          exact ⟨0, false, rfl, HBk.out, by unfold Fit; omega, rfl⟩
        by_cases d2 : 57 < (s[k].toNat : Int)
        · have HBk := Lib.hid (HB.out k hlt (by omega))
          go_wp2_with fail
          go_ret2
          exact ⟨0, false, rfl, HBk.out, by unfold Fit; omega, rfl⟩
        have hk8 : k ≤ 8 := by omega
        have HDk := Lib.hid (HD.out k n hlt (by omega) HX.out.1)
        have hc : (s[k].toNat : Int) ≤ 57 := by omega
        have hc' : (48 : Int) ≤ (s[k].toNat : Int) := by omega
        have HC : Hid (((s[k].toNat - 48 : Nat) : Int) = (s[k].toNat : Int) - 48) := by show _ = _; omega
        have HCL : Hid (s[k].toNat - 48 ≤ 9) := by show _ ≤ _; omega
        have w2 : IntKind.u8.wrap ((s[k].toNat : Int) - 48) = (s[k].toNat : Int) - 48 := IntWalk.u8_in _ (by omega)
        have w3 : IntKind.i64.wrap (10 * (n : Int)) = 10 * (n : Int) := IntWalk.i64_in _ (by omega)
        have w4 : IntKind.i64.wrap (10 * (n : Int) + ((s[k].toNat : Int) - 48)) = 10 * (n : Int) + ((s[k].toNat : Int) - 48) := IntWalk.i64_in _ (by omega)
        go_wp2_with fail
        go_roundw
        case rel =>
          refine ⟨k + 1, n * 10 + (s[k].toNat - 48), by omega, by go_num, ?_, HDk.out, ?_, trivial⟩
          · congr 1
            have := HC.out
            rw [Int.natCast_add, this]
            omega
          · have := HX.out.2
            rw [Nat.pow_succ]
            have := HCL.out
            omega
        case measure => simp [intOf]; omega
      · obtain rfl : k = s.size := by omega
        have hdec := HX.out.1
        rw [HT.out] at hdec
        have HN := Lib.hid (HE.out n hdec)
        clear hdec
        go_wp2_with fail
        go_ret2
        exact ⟨n, true, rfl, HN.out, by unfold Fit; omega, rfl⟩
end Go.Proofs.YtlkkfkkhllijbaaGreatDoor
