/- Sets of places; valid nets. -/
import Derived.Test.YtlkkfkkhllijbaaDoorNames
import Derived.Test.YtlkkfkkhllijbaaDoorNet
import Derived.Deep.QuietTactic
import Derived.BigQuiet
import Derived.Deep.Light
namespace Go.Proofs.YtlkkfkkhllijbaaDoor
open Go.RowKit

def placeAt (P : Int) (zs : List Int) (i : Nat) : Bool :=
  decide (0 ≤ zs.getD i 0) && decide (zs.getD i 0 < P) && (decide (i = 0) || decide (zs.getD (i-1) 0 < zs.getD i 0))
def placesB (P : Int) (zs : List Int) : Bool := (List.range zs.length).all (placeAt P zs)

theorem getD_of {zs : List Int} {k : Nat} {z : Int} (h : zs[k]? = some z) : zs.getD k 0 = z := by rw [List.getD_eq_getElem?_getD, h]; rfl
theorem places_bad {P : Int} {zs : List Int} {k : Nat} (hk : k < zs.length) (h : placeAt P zs k = false) : placesB P zs = false := by
  unfold placesB; rw [List.all_eq_false]; exact ⟨k, List.mem_range.2 hk, by simp [h]⟩
theorem places_ok {P : Int} {zs : List Int} (h : ∀ j, j < zs.length → placeAt P zs j = true) : placesB P zs = true := by
  unfold placesB; rw [List.all_eq_true]; exact fun j hj => h j (List.mem_range.1 hj)
theorem placeAt_pos {P : Int} {zs : List Int} {k : Nat} {x y : Int} (hx : zs[k]? = some x) (hy : zs[k-1]? = some y) (hk : 0 < k) :
    placeAt P zs k = decide (0 ≤ x ∧ x < P ∧ y < x) := by
  unfold placeAt; rw [getD_of hx, getD_of hy, Bool.eq_iff_iff]; simp; omega
theorem placeAt_zero {P : Int} {zs : List Int} {x : Int} (hx : zs[0]? = some x) : placeAt P zs 0 = decide (0 ≤ x ∧ x < P) := by
  unfold placeAt; rw [getD_of hx, Bool.eq_iff_iff]; simp

set_option maxHeartbeats 400000 in
theorem places_any (P s t : Int) (tv l : Value) (zs : List Int) (w : World) (hl : SlI (Lt w.heap.size) w l zs) :
    Calls Tryd.prog 40 #[.agg #[.int .i64 P, tv, .int .i64 s, .int .i64 t], l] w fun e w' => e = .returned (.bool (placesB P zs)) ∧ Below w.heap.size w w' := by
  obtain ⟨A, c, rfl, hc, hm, hl⟩ := hl.open_
  go_enter Tryd.func40, Tryd.ntmps40
  go_wp2_with fail
  have HB : Hid (Below w.heap.size w (w.alloc (Obj.cells #[Value.int IntKind.i64 P, tv, Value.int IntKind.i64 s, Value.int IntKind.i64 t] 24))) := (Below.refl _ _).alloc (Nat.le_refl _) _
  have hl' := hl.below HB.out (Nat.le_refl _)
  go_loop [9] (fun i => ∃ k : Nat, k ≤ zs.length ∧ i = .int .i64 k ∧ ∀ j, j < k → placeAt P zs j = true) (fun i => zs.length - (intOf i).toNat)
  case atStart => exact ⟨0, Nat.zero_le _, rfl, fun j h => absurd h (by omega)⟩
  case round =>
    obtain ⟨k, hk, rfl, hp⟩ := hrel
    have HP := Lib.hid hp
    clear hp
    by_cases hlt : k < zs.length
    · obtain ⟨b, o, x, rfl, hD, hx, hf, hcell⟩ := hl'.at_ hlt
      by_cases hk0 : 0 < k
      · obtain ⟨b', o', y, hA, _, hy, _, hcell'⟩ := hl'.at_ (k := k - 1) (by omega)
        injection hA with hA; injection hA with e1 e2 _; subst e1 e2
        have HQ := Lib.hid (placeAt_pos (P := P) hx hy hk0)
        have e3 : (k : Int) - 1 = ((k - 1 : Nat) : Int) := by omega
        clear hx hy hD
        have hcell2 : World.cell? (w.alloc (Obj.cells #[Value.int IntKind.i64 P, tv, Value.int IntKind.i64 s, Value.int IntKind.i64 t] 24)) { block := b, off := o + (k - 1) } = some (Value.int IntKind.i64 y) := hcell'
        clear hcell'
        by_cases h1 : 0 ≤ x ∧ x < P ∧ y < x
        · obtain ⟨h1, h2, h3⟩ := h1
          clear e3
          go_wp2
          go_round
          case rel => exact ⟨k + 1, by omega, by go_num, fun j hj => by
            by_cases e : j = k
            · subst e; rw [HQ.out]; simp [h1, h2, h3]
            · exact HP.out j (by omega)⟩
          case measure => simp [intOf]; omega
        · have HE : Hid (placesB P zs = false) := places_bad hlt (by rw [HQ.out]; simpa using h1)
          have h1' : ¬ (0 ≤ x ∧ x < P ∧ y < x) := h1
          clear h1 e3
          by_cases h2 : 0 ≤ x <;> by_cases h3 : x < P <;> by_cases h4 : y < x
          all_goals first
            | (exfalso; exact h1' ⟨h2, h3, h4⟩)
            | (clear h1'
               go_wp2
               go_ret
               exact ⟨ret_bool HE.out.symm, HB.out⟩)
      · have HQ : Hid (placeAt P zs k = decide (0 ≤ x ∧ x < P)) := by
          obtain rfl : k = 0 := by omega
          exact placeAt_zero (P := P) hx
        clear hx hD
        by_cases h1 : 0 ≤ x ∧ x < P
        · obtain ⟨h1, h2⟩ := h1
          go_wp2
          go_round
          case rel => exact ⟨k + 1, by omega, by go_num, fun j hj => by
            rw [show j = k from by omega, HQ.out]; simp [h1, h2]⟩
          case measure => simp [intOf]; omega
        · have HE : Hid (placesB P zs = false) := places_bad hlt (by rw [HQ.out]; simpa using h1)
          have h1' : ¬ (0 ≤ x ∧ x < P) := h1
          clear h1
          by_cases h2 : 0 ≤ x <;> by_cases h3 : x < P
          all_goals first
            | (exfalso; exact h1' ⟨h2, h3⟩)
            | (clear h1'
               go_wp2
               go_ret
               exact ⟨ret_bool HE.out.symm, HB.out⟩)
    · go_wp2
      go_ret
      exact ⟨ret_bool (places_ok (fun j hj => HP.out j (by omega))).symm, HB.out⟩

set_option maxHeartbeats 1000000 in
theorem places_ref (P : Int) (l : Value) (zs : List Int) (w : World) (hl : SlI (Lt w.heap.size) w l zs) :
    Calls Tryd.prog 21 #[.int .i64 P, l] w fun e w' => e = .returned (.bool (placesB P zs)) ∧ Below w.heap.size w w' := by
  obtain ⟨A, c, rfl, hc, hm, hl⟩ := hl.open_
  go_enter Tryd.func21, Tryd.ntmps21
  go_wp2_with fail
  go_loopw [5] (fun i wr => ∃ k : Nat, k ≤ zs.length ∧ i = .int .i64 k ∧ (∀ j, j < k → placeAt P zs j = true) ∧ Below w.heap.size w wr) (fun i _ => zs.length - (intOf i).toNat)
  case atStart => exact ⟨0, Nat.zero_le _, rfl, fun j h => absurd h (by omega), Below.refl _ _⟩
  case round =>
    obtain ⟨k, hk, rfl, hp, hb⟩ := hrel
    have HP := Lib.hid hp
    clear hp
    have hl' := hl.below hb (Nat.le_refl _)
    by_cases hlt : k < zs.length
    · obtain ⟨b, o, x, rfl, hD, hx, hf, hcell⟩ := hl'.at_ hlt
      have i1 : (0 : Int) ≤ k := by omega
      have i2 : (k : Int) < (zs.length : Int) := by omega
      by_cases hk0 : 0 < k
      · obtain ⟨b', o', y, hA, _, hy, _, hcell'⟩ := hl'.at_ (k := k - 1) (by omega)
        injection hA with hA; injection hA with e1 e2 _; subst e1 e2
        have HQ := Lib.hid (placeAt_pos (P := P) hx hy hk0)
        clear hx hy hD
        have w1 : IntKind.i64.wrap ((k : Int) - 1) = (k : Int) - 1 := IntWalk.i64_in _ (by omega)
        have w2 : (0 : Int) ≤ (k : Int) - 1 := by omega
        have w3 : ((k : Int) - 1).toNat = k - 1 := by omega
        have w4 : (1 : Int) ≤ k := by omega
        have w5 : (k : Int) - 1 < zs.length := by omega
        by_cases h1 : 0 ≤ x ∧ x < P ∧ y < x
        · obtain ⟨h1, h2, h3⟩ := h1
          go_wp2
          go_quiet (fail)
          clear w1 w2 w3 w4 w5
          go_wp2
          go_roundw
          case rel => exact ⟨k + 1, by omega, by go_num, fun j hj => by
            by_cases e : j = k
            · subst e; rw [HQ.out]; simp [h1, h2, h3]
            · exact HP.out j (by omega), below_drewN hb _⟩
          case measure => simp [intOf]; omega
        · have HE : Hid (placesB P zs = false) := places_bad hlt (by rw [HQ.out]; simpa using h1)
          have h1' : ¬ (0 ≤ x ∧ x < P ∧ y < x) := h1
          clear h1
          rcases Int.lt_or_le x 0 with h2 | h2
          · have b1 : decide (x < 0) = true := by simpa using h2
            clear h1'
            go_wp2
            go_quiet (fail)
            clear w1 w2 w3 w4 w5
            go_wp2
            go_ret
            exact ⟨ret_bool HE.out.symm, below_drewN hb _⟩
          · rcases Int.lt_or_le x P with h3 | h3
            · have h4 : x ≤ y := by omega
              have b1 : decide (x < 0) = false := by simpa using h2
              have b2 : decide (P ≤ x) = false := by simpa using h3
              have b3 : decide (x ≤ y) = true := by simpa using h4
              clear h1'
              go_wp2
              go_quiet (fail)
              clear w1 w2 w3 w4 w5
              go_wp2
              go_ret
              exact ⟨ret_bool HE.out.symm, below_drewN hb _⟩
            · have b1 : decide (x < 0) = false := by simpa using h2
              have b2 : decide (P ≤ x) = true := by simpa using h3
              clear h1'
              go_wp2
              go_quiet (fail)
              clear w1 w2 w3 w4 w5
              go_wp2
              go_ret
              exact ⟨ret_bool HE.out.symm, below_drewN hb _⟩
      · obtain rfl : k = 0 := by omega
        have HQ : Hid (placeAt P zs 0 = decide (0 ≤ x ∧ x < P)) := placeAt_zero (P := P) hx
        rw [Nat.add_zero] at hcell
        clear hx hD hk0 i1
        simp only [Int.natCast_zero] at i2 ⊢
        by_cases h1 : 0 ≤ x ∧ x < P
        · obtain ⟨h1, h2⟩ := h1
          have b1 : decide (x < 0) = false := by simpa using h1
          have b2 : decide (P ≤ x) = false := by simpa using h2
          go_wp2
          go_quiet (fail)
          go_wp2
          go_roundw
          case rel => exact ⟨0 + 1, by omega, by go_num, fun j hj => by
            rw [show j = 0 from by omega, HQ.out]; simp [h1, h2], below_drewN hb _⟩
          case measure => simp [intOf]; omega
        · have HE : Hid (placesB P zs = false) := places_bad hlt (by rw [HQ.out]; simpa using h1)
          have h1' : ¬ (0 ≤ x ∧ x < P) := h1
          clear h1
          rcases Int.lt_or_le x 0 with h2 | h2
          · have b1 : decide (x < 0) = true := by simpa using h2
            clear h1'
            go_wp2
            go_quiet (fail)
            go_wp2
            go_ret
            exact ⟨ret_bool HE.out.symm, below_drewN hb _⟩
          · have h3 : P ≤ x := by omega
            have b1 : decide (x < 0) = false := by simpa using h2
            have b2 : decide (P ≤ x) = true := by simpa using h3
            clear h1'
            go_wp2
            go_quiet (fail)
            go_wp2
            go_ret
            exact ⟨ret_bool HE.out.symm, below_drewN hb _⟩
    · go_wp2
      go_ret
      exact ⟨ret_bool (places_ok (fun j hj => HP.out j (by omega))).symm, hb⟩
end Go.Proofs.YtlkkfkkhllijbaaDoor
