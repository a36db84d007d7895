/- Texts of this seat, merged. -/
import Derived.Deep.QuietTactic
import Derived.BigQuiet
import Derived.Deep.Light
import Derived.Test.YtlmenhjlgmejkaaGreatDoorIn07
import Derived.Test.YtlmenhjlgmejkaaGreatDoorIn06
import Derived.WalkKit
import Derived.WalkSpells
import Derived.WalkLawsBesides
import Derived.Lib.Hide
import Derived.Deep.Draws
import Derived.Deep.OwnRows
import Derived.Test.YtlmenhjlgmejkaaGreatDoorIn01
import Derived.Test.YtlmenhjlgmejkaaGreatDoorGu01
set_option linter.unusedSimpArgs false
set_option linter.unusedVariables false
namespace Go.Proofs.YtlmenhjlgmejkaaGreatDoor
open Go.RowKit
set_option maxHeartbeats 1000000 in
theorem places_ref (P : Int) (l : Value) (zs : List Int) (w : World) (hl : SlI (Lt w.heap.size) w l zs) :
    Calls Tryz.prog 121 #[.int .i64 P, l] w fun e w' => e = .returned (.bool (placesB P zs)) ∧ Below w.heap.size w w' := by
  obtain ⟨A, c, rfl, hc, hm, hl⟩ := hl.open_
  go_enter Tryz.func121, Tryz.ntmps121
  go_wp2_with fail
  go_loopw [5] (fun i wr => ∃ k : Nat, k ≤ zs.length ∧ i = .int .i64 k ∧ (∀ j, j < k → placeAt P zs j = true) ∧ Below w.heap.size w wr) (fun i _ => zs.length - (intOf i).toNat)
  case atStart => exact ⟨0, Nat.zero_le _, rfl, fun j h => absurd h (by omega), Below.refl _ _⟩
  case round =>
    obtain ⟨k, hk, rfl, hp, hb⟩ := hrel
    have HP := Lib.hid hp
    clear hp
    have hl' := hl.below hb (Nat.le_refl _)
    by_cases hlt : k < zs.length
    · obtain ⟨b, o, x, rfl, hD, hx, hf, hcell⟩ := hl'.at_ hlt
      have i1 : (0 : Int) ≤ k := by omega
      have i2 : (k : Int) < (zs.length : Int) := by omega
      by_cases hk0 : 0 < k
      · obtain ⟨b', o', y, hA, _, hy, _, hcell'⟩ := hl'.at_ (k := k - 1) (by omega)
        injection hA with hA; injection hA with e1 e2 _; subst e1 e2
        have HQ := Lib.hid (placeAt_pos (P := P) hx hy hk0)
        clear hx hy hD
        have w1 : IntKind.i64.wrap ((k : Int) - 1) = (k : Int) - 1 := IntWalk.i64_in _ (by omega)
        have w2 : (0 : Int) ≤ (k : Int) - 1 := by omega
        have w3 : ((k : Int) - 1).toNat = k - 1 := by omega
        have w4 : (1 : Int) ≤ k := by omega
        have w5 : (k : Int) - 1 < zs.length := by omega
        by_cases h1 : 0 ≤ x ∧ x < P ∧ y < x
        · obtain ⟨h1, h2, h3⟩ := h1
          go_wp2
          go_quiet (fail)
          clear w1 w2 w3 w4 w5
          go_wp2
          go_roundw
          case rel => exact ⟨k + 1, by omega, by go_num, fun j hj => by
            by_cases e : j = k
            · subst e; rw [HQ.out]; simp [h1, h2, h3]
            · exact HP.out j (by omega), below_drewN hb _⟩
          case measure => simp [intOf]; omega
        · have HE : Hid (placesB P zs = false) := places_bad hlt (by rw [HQ.out]; simpa using h1)
          have h1' : ¬ (0 ≤ x ∧ x < P ∧ y < x) := h1
          clear h1
          rcases Int.lt_or_le x 0 with h2 | h2
          · have b1 : decide (x < 0) = true := by simpa using h2
            clear h1'
            go_wp2
            go_quiet (fail)
            clear w1 w2 w3 w4 w5
            go_wp2
            go_ret
            exact ⟨ret_bool HE.out.symm, below_drewN hb _⟩
          · rcases Int.lt_or_le x P with h3 | h3
            · have h4 : x ≤ y := by omega
              have b1 : decide (x < 0) = false := by simpa using h2
              have b2 : decide (P ≤ x) = false := by simpa using h3
              have b3 : decide (x ≤ y) = true := by simpa using h4
              clear h1'
              go_wp2
              go_quiet (fail)
              clear w1 w2 w3 w4 w5
              go_wp2
              go_ret
              exact ⟨ret_bool HE.out.symm, below_drewN hb _⟩
            · have b1 : decide (x < 0) = false := by simpa using h2
              have b2 : decide (P ≤ x) = true := by simpa using h3
              clear h1'
              go_wp2
              go_quiet (fail)
              clear w1 w2 w3 w4 w5
              go_wp2
              go_ret
              exact ⟨ret_bool HE.out.symm, below_drewN hb _⟩
      · obtain rfl : k = 0 := by omega
        have HQ : Hid (placeAt P zs 0 = decide (0 ≤ x ∧ x < P)) := placeAt_zero (P := P) hx
        rw [Nat.add_zero] at hcell
        clear hx hD hk0 i1
        simp only [Int.natCast_zero] at i2 ⊢
        by_cases h1 : 0 ≤ x ∧ x < P
        · obtain ⟨h1, h2⟩ := h1
          have b1 : decide (x < 0) = false := by simpa using h1
          have b2 : decide (P ≤ x) = false := by simpa using h2
          go_wp2
          go_quiet (fail)
          go_wp2
          go_roundw
          case rel => exact ⟨0 + 1, by omega, by go_num, fun j hj => by
            rw [show j = 0 from by omega, HQ.out]; simp [h1, h2], below_drewN hb _⟩
          case measure => simp [intOf]; omega
        · have HE : Hid (placesB P zs = false) := places_bad hlt (by rw [HQ.out]; simpa using h1)
          have h1' : ¬ (0 ≤ x ∧ x < P) := h1
          clear h1
          rcases Int.lt_or_le x 0 with h2 | h2
          · have b1 : decide (x < 0) = true := by simpa using h2
            clear h1'
            go_wp2
            go_quiet (fail)
            go_wp2
            go_ret
            exact ⟨ret_bool HE.out.symm, below_drewN hb _⟩
          · have h3 : P ≤ x := by omega
            have b1 : decide (x < 0) = false := by simpa using h2
            have b2 : decide (P ≤ x) = true := by simpa using h3
            clear h1'
            go_wp2
            go_quiet (fail)
            go_wp2
            go_ret
            exact ⟨ret_bool HE.out.symm, below_drewN hb _⟩
    · go_wp2
      go_ret
      exact ⟨ret_bool (places_ok (fun j hj => HP.out j (by omega))).symm, hb⟩
end Go.Proofs.YtlmenhjlgmejkaaGreatDoor
