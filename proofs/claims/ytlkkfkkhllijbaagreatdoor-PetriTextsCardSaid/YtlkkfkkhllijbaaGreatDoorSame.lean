/- Rows and matrices of numbers compared: casebookref05.SameRow and Same. -/
import Derived.Test.YtlkkfkkhllijbaaGreatDoorProg
import Derived.Test.YtlkkfkkhllijbaaGreatDoorWords
import Derived.Outline
import Derived.IntWalk
import Derived.Deep.QuietTactic
import Derived.BigQuiet
namespace Go.Proofs.YtlkkfkkhllijbaaGreatDoor
open Go.RowKit

theorem drewN_add' (w : World) (a b : Nat) : (w.drewN a).drewN b = w.drewN (a + b) := by simp [World.drewN, Nat.add_assoc]
theorem eq_of_gets {α : Type} {xs ys : List α} (hl : xs.length = ys.length) (h : ∀ j, j < xs.length → xs[j]? = ys[j]?) : xs = ys := by
  apply List.ext_getElem? 
  intro j
  rcases Nat.lt_or_ge j xs.length with hj | hj
  · exact h j hj
  · rw [List.getElem?_eq_none hj, List.getElem?_eq_none (by omega)]

set_option maxHeartbeats 1000000 in
theorem sameRow_any (u v : Value) (xs ys : List Int) (w : World) (hu : SlI (Lt w.heap.size) w u xs) (hv : SlI (Lt w.heap.size) w v ys) :
    Calls Tryz.prog 27 #[u, v] w fun e w' => e = .returned (.bool (xs == ys)) ∧ ∃ q, w' = w.drewN q := by
  obtain ⟨A, c, rfl, h1, h2, hu⟩ := hu.open_
  obtain ⟨A', c', rfl, h1', h2', hv⟩ := hv.open_
  by_cases hl : xs.length = ys.length
  · have hl' : ((xs.length : Int) != (ys.length : Int)) = false := by simp [hl]
    have HL := Lib.hid hl
    have hle1 : xs.length ≤ ys.length := by omega
    clear hl
    go_enter Tryz.func27, Tryz.ntmps27
    go_wp2_with fail
    go_loopw [5] (fun i wr => ∃ k q : Nat, k ≤ xs.length ∧ i = .int .i64 k ∧ (∀ j, j < k → xs[j]? = ys[j]?) ∧ wr = w.drewN q) (fun i _ => xs.length - (intOf i).toNat)
    case atStart => exact ⟨0, 0, Nat.zero_le _, rfl, fun j h => absurd h (by omega), rfl⟩
    case round =>
      obtain ⟨k, q, hk, rfl, hp, rfl⟩ := hrel
      have HP := Lib.hid hp
      clear hp
      have hu' : SlI (Lt (w.drewN q).heap.size) (w.drewN q) (.slice A xs.length c) xs := hu
      have hv' : SlI (Lt (w.drewN q).heap.size) (w.drewN q) (.slice A' ys.length c') ys := hv
      by_cases hlt : k < xs.length
      · obtain ⟨b, o, x, rfl, hD, hx, hf, hcell⟩ := hu'.at_ hlt
        obtain ⟨b', o', y, rfl, hD', hy, hf', hcell'⟩ := hv'.at_ (k := k) (by omega)
        have i1 : (0 : Int) ≤ k := by omega
        have i2 : (k : Int) < (xs.length : Int) := by omega
        have i3 : (k : Int) < (ys.length : Int) := by omega
        have HX := Lib.hid hx
        have HY := Lib.hid hy
        generalize hwd : w.drewN q = wd at *
        have HW := Lib.hid hwd
        clear hwd hu' hv' hx hy hD hD'
        by_cases hxy : x = y
        · have t1 : (x != y) = false := by simpa using hxy
          have HXY := Lib.hid hxy
          clear hxy
          go_wp2
          go_quiet (fail)
          go_wp2
          go_roundw
          case rel => exact ⟨k + 1, _, by omega, by go_num, fun j hj => by
            by_cases e : j = k
            · subst e; rw [HX.out, HY.out, HXY.out]
            · exact HP.out j (by omega), by rw [← HW.out]; exact drewN_add' _ _ _⟩
          case measure => simp [intOf]; omega
        · have t1 : (x != y) = true := by simpa using hxy
          have HE : Hid ((xs == ys) = false) := by
            show (xs == ys) = false
            rw [beq_eq_false_iff_ne]
            intro e
            have hX := HX.out
            rw [e, HY.out] at hX
            injection hX with hX
            exact hxy hX.symm
          clear hxy
          go_wp2
          go_quiet (fail)
          go_wp2
          go_ret
          exact ⟨ret_bool HE.out.symm, _, by rw [← HW.out]; exact drewN_add' _ _ _⟩
      · have HE : Hid ((xs == ys) = true) := by
          show (xs == ys) = true
          rw [beq_iff_eq]
          exact eq_of_gets HL.out (fun j hj => HP.out j (by omega))
        go_wp2
        go_ret
        exact ⟨ret_bool HE.out.symm, q, rfl⟩
  · have hl' : ((xs.length : Int) != (ys.length : Int)) = true := by simp; omega
    have HE : Hid ((xs == ys) = false) := by
      show (xs == ys) = false
      rw [beq_eq_false_iff_ne]
      exact fun e => hl (by rw [e])
    clear hl
    go_enter Tryz.func27, Tryz.ntmps27
    go_wp2_with fail
    go_ret
    exact ⟨ret_bool HE.out.symm, 0, rfl⟩

end Go.Proofs.YtlkkfkkhllijbaaGreatDoor
