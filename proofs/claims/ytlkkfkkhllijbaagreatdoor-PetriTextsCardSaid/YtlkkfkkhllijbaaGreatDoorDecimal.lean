/- The reference's Decimal. -/
import Derived.Test.YtlkkfkkhllijbaaGreatDoorNumText
import Derived.Test.YtlkkfkkhllijbaaGreatDoorWords
import Derived.Test.YtlkkfkkhllijbaaGreatDoorProg
import Derived.Laws.Runes
import Derived.Laws.Concat
namespace Go.Proofs.YtlkkfkkhllijbaaGreatDoor
open Go.RowKit

theorem encode_digit {d : Nat} (h : d < 128) : Utf8.encode (d : Int) = ⟨#[UInt8.ofNat d]⟩ := by
  have hv : Utf8.valid (d : Int) = true := by
    unfold Utf8.valid
    simp; omega
  unfold Utf8.encode
  simp only [hv, if_true]
  rw [if_pos (by omega)]
  simp
def decS (n : Int) : ByteArray := ⟨(Lib.itoa n).toArray⟩
theorem dec_small {n : Int} (h1 : 0 ≤ n) (h2 : n ≤ 9) : Utf8.encode (48 + n) = decS n := by
  obtain ⟨u, rfl⟩ := Int.eq_ofNat_of_zero_le h1
  have := encode_digit (d := 48 + u) (by omega)
  rw [show (48 : Int) + (u : Int) = ((48 + u : Nat) : Int) by omega, this]
  unfold decS
  rw [Lib.itoa_nonneg, Lib.decDigits_one (by omega)]
theorem dec_smallneg {n : Int} (h1 : n < 0) (h2 : -9 ≤ n) : (⟨#[45]⟩ : ByteArray) ++ Utf8.encode (48 - n) = decS n := by
  obtain ⟨u, rfl⟩ : ∃ u : Nat, n = -(u : Int) := ⟨n.natAbs, by omega⟩
  have := encode_digit (d := 48 + u) (by omega)
  rw [show (48 : Int) - -(u : Int) = ((48 + u : Nat) : Int) by omega, this]
  unfold decS
  rw [Lib.itoa_neg u (by omega), Lib.decDigits_one (by omega)]
  rfl
theorem dec_step (u : Nat) (h : ¬ u < 10) : Lib.decDigits u = Lib.decDigits (u / 10) ++ [UInt8.ofNat (48 + u % 10)] := by rw [Lib.decDigits, dif_neg h]
theorem app_bytes (a b : List UInt8) : (⟨a.toArray⟩ : ByteArray) ++ ⟨b.toArray⟩ = ⟨(a ++ b).toArray⟩ := by
  have : ((⟨a.toArray⟩ : ByteArray) ++ ⟨b.toArray⟩).data = (a ++ b).toArray := by
    rw [ByteArray.data_append]; simp
  cases h : (⟨a.toArray⟩ : ByteArray) ++ ⟨b.toArray⟩
  rw [h] at this
  simp only at this
  rw [this]
theorem dec_big {n : Int} (h : 9 < n) : decS (Int.tdiv n 10) ++ Utf8.encode (48 + Int.tmod n 10) = decS n := by
  obtain ⟨u, rfl⟩ := Int.eq_ofNat_of_zero_le (show 0 ≤ n by omega)
  have e1 : Int.tdiv (u : Int) 10 = ((u / 10 : Nat) : Int) := by rw [Int.tdiv_eq_ediv_of_nonneg (by omega)]; omega
  have e2 : (48 : Int) + Int.tmod (u : Int) 10 = ((48 + u % 10 : Nat) : Int) := by rw [Int.tmod_eq_emod_of_nonneg (by omega)]; omega
  rw [e1, e2, encode_digit (by omega)]
  unfold decS
  rw [Lib.itoa_nonneg, Lib.itoa_nonneg, dec_step u (by omega)]
  exact app_bytes _ [_]
theorem dec_bigneg {n : Int} (h : n < -9) : decS (Int.tdiv n 10) ++ Utf8.encode (48 - Int.tmod n 10) = decS n := by
  obtain ⟨u, rfl⟩ : ∃ u : Nat, n = -(u : Int) := ⟨n.natAbs, by omega⟩
  have e1 : Int.tdiv (-(u : Int)) 10 = -((u / 10 : Nat) : Int) := by rw [Int.neg_tdiv, Int.tdiv_eq_ediv_of_nonneg (by omega)]; omega
  have e2 : (48 : Int) - Int.tmod (-(u : Int)) 10 = ((48 + u % 10 : Nat) : Int) := by rw [Int.neg_tmod, Int.tmod_eq_emod_of_nonneg (by omega)]; omega
  rw [e1, e2, encode_digit (by omega)]
  unfold decS
  rw [Lib.itoa_neg _ (by omega), Lib.itoa_neg u (by omega), dec_step u (by omega)]
  exact app_bytes (45 :: _) [_]

theorem ret_str {a b : ByteArray} (h : a = b) : Ending.returned (.string a) = .returned (.string b) := by rw [h]
theorem dec_size {n : Int} (h : Fit n) : (decS n).size ≤ 20 := by
  unfold Fit at h
  unfold decS ByteArray.size
  simp only [List.size_toArray]
  rcases Int.lt_or_le n 0 with h0 | h0
  · obtain ⟨u, rfl⟩ : ∃ u : Nat, n = -(u : Int) := ⟨n.natAbs, by omega⟩
    rw [Lib.itoa_neg u (by omega), List.length_cons, Lib.decDigits_length]
    have := nDigits_le (u := u) (k := 19) (by omega) (by omega)
    omega
  · obtain ⟨u, rfl⟩ := Int.eq_ofNat_of_zero_le h0
    rw [Lib.itoa_nonneg, Lib.decDigits_length]
    have := nDigits_le (u := u) (k := 19) (by omega) (by omega)
    omega
theorem enc_size {d : Int} (h0 : 0 ≤ d) (h : d < 128) : (Utf8.encode d).size = 1 := by
  obtain ⟨u, rfl⟩ := Int.eq_ofNat_of_zero_le h0
  rw [encode_digit (by omega)]; rfl

set_option maxHeartbeats 1000000 in
theorem decimal_at : ∀ (k : Nat) (n : Int) (w : World), n.natAbs ≤ k → Fit n → Calls Tryz.prog 53 #[.int .i64 n] w fun e w' => e = .returned (.string (decS n)) ∧ w = w' := by
  intro k
  induction k using Nat.strongRecOn with
  | _ k ih =>
    intro n w hk hf
    unfold Fit at hf
    obtain ⟨f1, f2⟩ := hf
    by_cases h0 : n < 0
    · by_cases h9 : n < -9
      · have hq : Int.tdiv n 10 = -((n.natAbs / 10 : Nat) : Int) := by
          rw [show n = -((n.natAbs : Nat) : Int) by omega, Int.neg_tdiv, Int.tdiv_eq_ediv_of_nonneg (by omega)]; omega
        have hr : Int.tmod n 10 = -((n.natAbs % 10 : Nat) : Int) := by
          rw [show n = -((n.natAbs : Nat) : Int) by omega, Int.neg_tmod, Int.tmod_eq_emod_of_nonneg (by omega)]; omega
        have HC := Lib.hid (fun W => ih (Int.tdiv n 10).natAbs (by rw [hq]; omega) (Int.tdiv n 10) W (Nat.le_refl _) (by rw [hq]; unfold Fit; omega))
        have HE := Lib.hid (dec_bigneg h9)
        have z1 := dec_size (n := Int.tdiv n 10) (by rw [hq]; unfold Fit; omega)
        have z2 := enc_size (d := 48 - Int.tmod n 10) (by rw [hr]; omega) (by rw [hr]; omega)
        have r1 : -9 ≤ Int.tmod n 10 := by rw [hr]; omega
        have r2 : Int.tmod n 10 ≤ 0 := by rw [hr]; omega
        have q1 : -922337203685477580 ≤ Int.tdiv n 10 := by rw [hq]; omega
        have q2 : Int.tdiv n 10 ≤ 0 := by rw [hq]; omega
        have w1 : IntKind.i64.wrap (Int.tdiv n 10) = Int.tdiv n 10 := IntWalk.i64_in _ (by omega)
        have w2 : IntKind.i64.wrap (Int.tmod n 10) = Int.tmod n 10 := IntWalk.i64_in _ (by omega)
        have w3 : IntKind.i64.wrap (48 - Int.tmod n 10) = 48 - Int.tmod n 10 := IntWalk.i64_in _ (by omega)
        clear ih hk hq hr
        go_enter Tryz.func53, Tryz.ntmps53
        go_wp2_with fail
        refine (HC.out _).mono ?_
        rintro e w' ⟨rfl, rfl⟩
        go_wp2_with fail
        go_ret
        exact ⟨ret_str HE.out, rfl⟩
      · have HE := Lib.hid (dec_smallneg h0 (by omega))
        have z1 : (⟨#[45]⟩ : ByteArray).size = 1 := rfl
        have z2 := enc_size (d := 48 - n) (by omega) (by omega)
        clear ih hk
        go_enter Tryz.func53, Tryz.ntmps53
        go_wp2_with fail
        go_ret
        exact ⟨ret_str HE.out, rfl⟩
    · by_cases h9 : 9 < n
      · have hq : Int.tdiv n 10 = ((n.natAbs / 10 : Nat) : Int) := by
          rw [Int.tdiv_eq_ediv_of_nonneg (by omega)]; omega
        have hr : Int.tmod n 10 = ((n.natAbs % 10 : Nat) : Int) := by
          rw [Int.tmod_eq_emod_of_nonneg (by omega)]; omega
        have HC := Lib.hid (fun W => ih (Int.tdiv n 10).natAbs (by rw [hq]; omega) (Int.tdiv n 10) W (Nat.le_refl _) (by rw [hq]; unfold Fit; omega))
        have em : Int.tmod n 10 = n % 10 := Int.tmod_eq_emod_of_nonneg (by omega)
        have HE0 := dec_big h9
        rw [em] at HE0 hr
        have HE := Lib.hid HE0
        have z1 := dec_size (n := Int.tdiv n 10) (by rw [hq]; unfold Fit; omega)
        have z2 := enc_size (d := 48 + n % 10) (by rw [hr]; omega) (by rw [hr]; omega)
        have r1 : 0 ≤ n % 10 := by rw [hr]; omega
        have r2 : n % 10 ≤ 9 := by rw [hr]; omega
        have q1 : 0 ≤ Int.tdiv n 10 := by rw [hq]; omega
        have q2 : Int.tdiv n 10 ≤ 922337203685477580 := by rw [hq]; omega
        have w1 : IntKind.i64.wrap (Int.tdiv n 10) = Int.tdiv n 10 := IntWalk.i64_in _ (by omega)
        have w2 : IntKind.i64.wrap (n % 10) = n % 10 := IntWalk.i64_in _ (by omega)
        have w3 : IntKind.i64.wrap (48 + n % 10) = 48 + n % 10 := IntWalk.i64_in _ (by omega)
        clear ih hk hq hr em HE0
        go_enter Tryz.func53, Tryz.ntmps53
        go_wp2_with fail
        refine (HC.out _).mono ?_
        rintro e w' ⟨rfl, rfl⟩
        go_wp2_with fail
        go_ret
        exact ⟨ret_str HE.out, rfl⟩
      · have HE := Lib.hid (dec_small (n := n) (by omega) (by omega))
        clear ih hk
        go_enter Tryz.func53, Tryz.ntmps53
        go_wp2_with fail
        go_ret
        exact ⟨ret_str HE.out, rfl⟩
theorem decimal_any (n : Int) (w : World) (hf : Fit n) : Calls Tryz.prog 53 #[.int .i64 n] w fun e w' => e = .returned (.string (decS n)) ∧ w = w' := decimal_at _ n w (Nat.le_refl _) hf
end Go.Proofs.YtlkkfkkhllijbaaGreatDoor
