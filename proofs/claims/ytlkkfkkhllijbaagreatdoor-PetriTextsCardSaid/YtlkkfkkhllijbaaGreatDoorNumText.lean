/- Numerals: a number is read from its numeral. No program in sight. -/
import Derived.Lib.ItoaNum
import Derived.Lib.ItoaMem
import Derived.Lib.AtoiTie
namespace Go.Proofs.YtlkkfkkhllijbaaGreatDoor
open Go.Lib

theorem digitVal_of {d : Nat} (h : d < 10) : digitVal (UInt8.ofNat (48 + d)) = some d := by
  unfold digitVal
  have e : (UInt8.ofNat (48 + d)).toNat = 48 + d := by
    rw [UInt8.toNat_ofNat']
    exact Nat.mod_eq_of_lt (by omega)
  rw [e, if_pos (by omega)]
  congr 1
  omega
theorem decFrom_append (l m : List UInt8) : ∀ acc, decFrom acc (l ++ m) = (decFrom acc l).bind fun n => decFrom n m := by
  induction l with
  | nil => intro acc; rfl
  | cons b r ih =>
    intro acc
    rw [List.cons_append]
    cases h : digitVal b with
    | none => simp [decFrom, h]
    | some d =>
      have e1 : decFrom acc (b :: (r ++ m)) = decFrom (acc * 10 + d) (r ++ m) := by simp only [decFrom, h]
      have e2 : decFrom acc (b :: r) = decFrom (acc * 10 + d) r := by simp only [decFrom, h]
      rw [e1, e2]
      exact ih _
theorem decFrom_digits (u : Nat) : decFrom 0 (decDigits u) = some u := by
  induction u using Nat.strongRecOn with
  | _ u ih =>
    rw [decDigits]
    by_cases h : u < 10
    · rw [dif_pos h]
      unfold decFrom
      rw [digitVal_of h]
      simp [decFrom]
    · rw [dif_neg h, decFrom_append, ih (u / 10) (by omega)]
      show decFrom (u / 10) [UInt8.ofNat (48 + u % 10)] = some u
      unfold decFrom
      rw [digitVal_of (by omega)]
      show some (u / 10 * 10 + u % 10) = some u
      congr 1
      omega
theorem decDigits_ne (u : Nat) : decDigits u ≠ [] := by
  intro h
  have := decDigits_length u
  rw [h] at this
  have := nDigits_pos u
  simp at *
  omega
theorem decNat_digits (u : Nat) : decNat (decDigits u) = some u := by
  unfold decNat
  have : (decDigits u).isEmpty = false := by
    cases h : decDigits u with
    | nil => exact absurd h (decDigits_ne u)
    | cons a l => rfl
  rw [this]
  exact decFrom_digits u
theorem decDigits_digit (u : Nat) : ∀ b ∈ decDigits u, 48 ≤ b.toNat ∧ b.toNat ≤ 57 := by
  intro b hb
  have h := decFrom_digits u
  have key : ∀ (l : List UInt8) (acc n : Nat), decFrom acc l = some n → ∀ b ∈ l, 48 ≤ b.toNat ∧ b.toNat ≤ 57 := by
    intro l
    induction l with
    | nil => intro acc n _ b hb; simp at hb
    | cons c r ih =>
      intro acc n h b hb
      unfold decFrom at h
      cases hd : digitVal c with
      | none => rw [hd] at h; cases h
      | some d =>
        rw [hd] at h
        rcases List.mem_cons.1 hb with rfl | hb
        · unfold digitVal at hd
          split at hd
          · assumption
          · cases hd
        · exact ih _ _ h b hb
  exact key _ _ _ h b hb
theorem decDigits_head (u : Nat) : ∃ c r, decDigits u = c :: r ∧ 48 ≤ c.toNat ∧ c.toNat ≤ 57 := by
  cases h : decDigits u with
  | nil => exact absurd h (decDigits_ne u)
  | cons c r => exact ⟨c, r, rfl, decDigits_digit u c (by rw [h]; simp)⟩
theorem atoi_digits (u : Nat) : atoi (decDigits u) = some (u : Int) := by
  obtain ⟨c, r, h, h1, h2⟩ := decDigits_head u
  have hd := decNat_digits u
  rw [h] at hd ⊢
  unfold atoi
  have e1 : (c == 45) = false := by rw [beq_eq_false_iff_ne]; rintro rfl; simp at h1
  have e2 : (c == 43) = false := by rw [beq_eq_false_iff_ne]; rintro rfl; simp at h1
  show (if (c == 45) = true then _ else if (c == 43) = true then _ else Option.map _ (decNat (c :: r))) = _
  rw [e1, e2, hd]
  rfl
/-- Reading a number's numeral gives the number. -/
theorem atoi_itoa (n : Int) : atoi (itoa n) = some n := by
  rcases Int.lt_or_le n 0 with h | h
  · obtain ⟨u, rfl⟩ : ∃ u : Nat, n = -(u : Int) := ⟨n.natAbs, by omega⟩
    rw [itoa_neg u (by omega)]
    unfold atoi
    have e1 : ((45 : UInt8) == 45) = true := rfl
    show (if ((45 : UInt8) == 45) = true then Option.map _ (decNat (Lib.decDigits u)) else _) = _
    rw [e1, if_pos rfl, decNat_digits]
    rfl
  · obtain ⟨u, rfl⟩ := Int.eq_ofNat_of_zero_le h
    rw [itoa_nonneg]
    exact atoi_digits u
theorem itoa_inj {a b : Int} (h : itoa a = itoa b) : a = b := by
  have h1 := atoi_itoa a
  rw [h, atoi_itoa b] at h1
  injection h1 with h1
  exact h1.symm
theorem nDigits_le {u k : Nat} (hk : 1 ≤ k) (h : u < 10 ^ k) : nDigits u ≤ k := by
  rcases Nat.lt_or_ge k (nDigits u) with h1 | h1
  · exfalso
    have key : ∀ v, 2 ≤ nDigits v → 10 ^ (nDigits v - 1) ≤ v := by
      intro v
      induction v using Nat.strongRecOn with
      | _ v ih =>
        intro h2
        by_cases h10 : v < 10
        · rw [nDigits_small h10] at h2; omega
        · rw [nDigits_big h10]
          by_cases h3 : v / 10 < 10
          · rw [nDigits_small h3]; simp; omega
          · have := ih (v / 10) (by omega) (by rw [nDigits_big h3]; have := nDigits_pos (v / 10 / 10); omega)
            have e : nDigits (v / 10) + 1 - 1 = (nDigits (v / 10) - 1) + 1 := by have := nDigits_pos (v / 10); omega
            rw [e, Nat.pow_succ]
            omega
    have h2 := key u (by omega)
    have h3 : 10 ^ k ≤ 10 ^ (nDigits u - 1) := Nat.pow_le_pow_right (by omega) (by omega)
    omega
  · exact h1
theorem itoa_length {n : Int} (h1 : -1000000000000000000 < n) (h2 : n < 1000000000000000000) : (itoa n).length ≤ 19 := by
  rcases Int.lt_or_le n 0 with h | h
  · obtain ⟨u, rfl⟩ : ∃ u : Nat, n = -(u : Int) := ⟨n.natAbs, by omega⟩
    rw [itoa_neg u (by omega), List.length_cons, decDigits_length]
    have := nDigits_le (u := u) (k := 18) (by omega) (by omega)
    omega
  · obtain ⟨u, rfl⟩ := Int.eq_ofNat_of_zero_le h
    rw [itoa_nonneg, decDigits_length]
    have := nDigits_le (u := u) (k := 18) (by omega) (by omega)
    omega
/-- A number of at most 18 signs is read by Atoi. -/
theorem atoiAll_itoa {n : Int} (h1 : -100000000000000000 < n) (h2 : n < 100000000000000000) : atoiAll (itoa n) = .ok n := by
  have hl : (itoa n).length ≤ 18 := by
    rcases Int.lt_or_le n 0 with h | h
    · obtain ⟨u, rfl⟩ : ∃ u : Nat, n = -(u : Int) := ⟨n.natAbs, by omega⟩
      rw [itoa_neg u (by omega), List.length_cons, decDigits_length]
      have := nDigits_le (u := u) (k := 17) (by omega) (by omega)
      omega
    · obtain ⟨u, rfl⟩ := Int.eq_ofNat_of_zero_le h
      rw [itoa_nonneg, decDigits_length]
      have := nDigits_le (u := u) (k := 17) (by omega) (by omega)
      omega
  rw [atoiAll_short _ hl, atoi_itoa]
  rfl
end Go.Proofs.YtlkkfkkhllijbaaGreatDoor
