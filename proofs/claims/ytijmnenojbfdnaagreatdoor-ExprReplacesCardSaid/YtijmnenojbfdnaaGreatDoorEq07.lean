/- Texts of this seat, merged. -/
import Derived.Test.YtijmnenojbfdnaaGreatDoorEq01
import Derived.Test.YtijmnenojbfdnaaGreatDoorEq02
import Derived.Test.YtijmnenojbfdnaaGreatDoorEq03
import Derived.Test.YtijmnenojbfdnaaGreatDoorEq04
import Derived.Test.YtijmnenojbfdnaaGreatDoorEq05
import Derived.Test.YtijmnenojbfdnaaGreatDoorEq06
set_option linter.unusedSimpArgs false
set_option linter.unusedVariables false
namespace Go.Proofs.YtijmnenojbfdnaaGreatDoor
open Go.RowKit
set_option maxHeartbeats 2000000 in
set_option maxRecDepth 100000 in
theorem validVar_ref (x : Var) (u : Value) (w : World) (h : IsVar (Lt w.heap.size) w u x) :
    Calls Tryz.prog 72 #[u] w fun e w' => e = .returned (.bool (varB x)) ∧ Below w.heap.size w w' := by
  obtain ⟨nm, k, lo, hi, its⟩ := x
  obtain ⟨iv, rfl, hnm, f1, f2, f3, hit⟩ := h
  dsimp only at hnm f1 f2 f3 hit ⊢
  obtain ⟨A, c, rfl, i1, i2, hit⟩ := hit.open_
  have hb := bone w (.cells #[.string nm, .int .i64 k, .int .i64 lo, .int .i64 hi, .slice A its.length c] 68)
  have hB := Blk.new w 68 #[.string nm, .int .i64 k, .int .i64 lo, .int .i64 hi, .slice A its.length c]
  have hit1 := hit.now hb
  go_enter Tryz.func72, Tryz.ntmps72
  go_upto_region 1 with fail
  generalize hw1 : w.alloc (.cells #[.string nm, .int .i64 k, .int .i64 lo, .int .i64 hi, .slice A its.length c] 68) = w1 at *
  clear hw1
  obtain ⟨q0, q1, q2, q3, q4⟩ := hB.c5
  have hlt := hB.lt
  go_wp2_with fail
  refine (isName_ref nm _ hnm).mono ?_
  rintro e w' ⟨rfl, rfl⟩
  generalize hq : isNameB nm = q
  have HQ := Lib.hid hq
  clear hq
  cases q
  · have HE : Hid (varB ⟨nm, k, lo, hi, its⟩ = false) := varB_no HQ.out
    go_wp2_with fail
    go_ret
    exact ⟨ret_bool HE.out.symm, hb⟩
  have HV : Hid (varB ⟨nm, k, lo, hi, its⟩ = formB ⟨nm, k, lo, hi, its⟩) := varB_yes HQ.out
  by_cases k2 : k = 2
  · subst k2
    have HE : Hid (varB ⟨nm, 2, lo, hi, its⟩ = (numB lo && numB hi && decide (lo ≤ hi ∧ hi - lo < 1000 ∧ its.length = 0))) := HV.out.trans form2
    go_upto_region 4 with fail
    cases hn1 : numB lo with
    | false =>
      have HN1 : Hid (∀ w, Calls Tryz.prog 113 #[.int .i64 lo] w fun e w' => e = .returned (.bool false) ∧ w = w') := fun w => by rw [← hn1]; exact number_ref lo w
      rw [hn1] at HE
      clear hn1
      go_wp2_with (go_at_call 113; refine (HN1.out _).mono ?_; rintro e w' ⟨rfl, rfl⟩)
      go_ret
      exact ⟨ret_bool (by rw [HE.out]; rfl), hb⟩
    | true =>
      have HN1 : Hid (∀ w, Calls Tryz.prog 113 #[.int .i64 lo] w fun e w' => e = .returned (.bool true) ∧ w = w') := fun w => by rw [← hn1]; exact number_ref lo w
      obtain ⟨b1, b2⟩ := num_bounds hn1
      rw [hn1] at HE
      clear hn1
      cases hn2 : numB hi with
      | false =>
        have HN2 : Hid (∀ w, Calls Tryz.prog 113 #[.int .i64 hi] w fun e w' => e = .returned (.bool false) ∧ w = w') := fun w => by rw [← hn2]; exact number_ref hi w
        rw [hn2] at HE
        clear hn2
        go_wp2_with (first | (go_at_call 113; (with_reducible refine (HN1.out _).mono ?_); rintro e w' ⟨rfl, rfl⟩) | (go_at_call 113; (with_reducible refine (HN2.out _).mono ?_); rintro e w' ⟨rfl, rfl⟩))
        go_ret
        exact ⟨ret_bool (by rw [HE.out]; rfl), hb⟩
      | true =>
        have HN2 : Hid (∀ w, Calls Tryz.prog 113 #[.int .i64 hi] w fun e w' => e = .returned (.bool true) ∧ w = w') := fun w => by rw [← hn2]; exact number_ref hi w
        obtain ⟨b3, b4⟩ := num_bounds hn2
        rw [hn2] at HE
        clear hn2
        by_cases a1 : lo ≤ hi
        · by_cases a2 : hi - lo < 1000
          · by_cases a3 : its.length = 0
            · rw [a3] at q4 HE
              go_wp2_with (first | (go_at_call 113; (with_reducible refine (HN1.out _).mono ?_); rintro e w' ⟨rfl, rfl⟩) | (go_at_call 113; (with_reducible refine (HN2.out _).mono ?_); rintro e w' ⟨rfl, rfl⟩))
              go_ret
              exact ⟨ret_bool (by rw [HE.out]; simp [a1, a2]), hb⟩
            · have a3' : ((its.length : Int) == 0) = false := by rw [beq_eq_false_iff_ne]; omega
              go_wp2_with (first | (go_at_call 113; (with_reducible refine (HN1.out _).mono ?_); rintro e w' ⟨rfl, rfl⟩) | (go_at_call 113; (with_reducible refine (HN2.out _).mono ?_); rintro e w' ⟨rfl, rfl⟩))
              go_ret
              exact ⟨ret_bool (by rw [HE.out]; simp [a3]), hb⟩
          · go_wp2_with (first | (go_at_call 113; (with_reducible refine (HN1.out _).mono ?_); rintro e w' ⟨rfl, rfl⟩) | (go_at_call 113; (with_reducible refine (HN2.out _).mono ?_); rintro e w' ⟨rfl, rfl⟩))
            go_ret
            exact ⟨ret_bool (by rw [HE.out, show decide (lo ≤ hi ∧ hi - lo < 1000 ∧ its.length = 0) = false from decide_eq_false (fun h => by omega)]; rfl), hb⟩
        · go_wp2_with (first | (go_at_call 113; (with_reducible refine (HN1.out _).mono ?_); rintro e w' ⟨rfl, rfl⟩) | (go_at_call 113; (with_reducible refine (HN2.out _).mono ?_); rintro e w' ⟨rfl, rfl⟩))
          go_ret
          exact ⟨ret_bool (by rw [HE.out, show decide (lo ≤ hi ∧ hi - lo < 1000 ∧ its.length = 0) = false from decide_eq_false (fun h => by omega)]; rfl), hb⟩
  have k2' : (k == 2) = false := by simpa using k2
  by_cases a1 : lo = 0 ∧ hi = 0
  rotate_left
  · have HE : Hid (varB ⟨nm, k, lo, hi, its⟩ = false) := by
      show varB _ = false
      rw [HV.out]
      by_cases k1 : k = 1
      · rw [k1, form1]; exact decide_eq_false (fun h => a1 ⟨h.1, h.2.1⟩)
      by_cases k3 : k = 3
      · rw [k3, form3, show decide (lo = 0 ∧ hi = 0 ∧ 1 ≤ its.length ∧ its.length ≤ 1000) = false from decide_eq_false (fun h => a1 ⟨h.1, h.2.1⟩)]; rfl
      exact form0 k1 k2 k3
    by_cases a2 : lo = 0
    · have a3 : (hi != 0) = true := by simp; exact fun h => a1 ⟨a2, h⟩
      subst a2
      clear a1 k2
      go_wp2_with fail
      go_ret
      exact ⟨ret_bool HE.out.symm, hb⟩
    · have a3 : (lo != 0) = true := by simpa using a2
      clear a1 k2
      go_wp2_with fail
      go_ret
      exact ⟨ret_bool HE.out.symm, hb⟩
  obtain ⟨rfl, rfl⟩ := a1
  by_cases k1 : k = 1
  · subst k1
    have HE : Hid (varB ⟨nm, 1, 0, 0, its⟩ = decide ((0 : Int) = 0 ∧ (0 : Int) = 0 ∧ its.length = 0)) := HV.out.trans form1
    by_cases a3 : its.length = 0
    · rw [a3] at q4 HE
      go_wp2_with fail
      go_ret
      exact ⟨ret_bool (by rw [HE.out]; simp), hb⟩
    · have a3' : ((its.length : Int) == 0) = false := by rw [beq_eq_false_iff_ne]; omega
      go_wp2_with fail
      go_ret
      exact ⟨ret_bool (by rw [HE.out]; simp [a3]), hb⟩
  have k1' : (k == 1) = false := by simpa using k1
  by_cases k3 : k = 3
  rotate_left
  · have k3' : (k != 3) = true := by simpa using k3
    have HE : Hid (varB ⟨nm, k, 0, 0, its⟩ = false) := HV.out.trans (form0 k1 k2 k3)
    clear k1 k2 k3
    go_wp2_with fail
    go_ret
    exact ⟨ret_bool HE.out.symm, hb⟩
  subst k3
  have HE : Hid (varB ⟨nm, 3, 0, 0, its⟩ = (decide ((0 : Int) = 0 ∧ (0 : Int) = 0 ∧ 1 ≤ its.length ∧ its.length ≤ 1000) && its.all textB && onceB (bytesOf its))) := HV.out.trans form3
  clear k1 k2 k1' k2'
  by_cases a3 : its.length < 1
  · have HE2 : Hid (varB ⟨nm, 3, 0, 0, its⟩ = false) := by
      show varB _ = false
      rw [HE.out, show decide ((0 : Int) = 0 ∧ (0 : Int) = 0 ∧ 1 ≤ its.length ∧ its.length ≤ 1000) = false from decide_eq_false (fun h => by omega)]; rfl
    go_wp2_with fail
    go_ret
    exact ⟨ret_bool HE2.out.symm, hb⟩
  by_cases a4 : 1000 < its.length
  · have HE2 : Hid (varB ⟨nm, 3, 0, 0, its⟩ = false) := by
      show varB _ = false
      rw [HE.out, show decide ((0 : Int) = 0 ∧ (0 : Int) = 0 ∧ 1 ≤ its.length ∧ its.length ≤ 1000) = false from decide_eq_false (fun h => by omega)]; rfl
    go_wp2_with fail
    go_ret
    exact ⟨ret_bool HE2.out.symm, hb⟩
  have HE2 : Hid (varB ⟨nm, 3, 0, 0, its⟩ = (its.all textB && onceB (bytesOf its))) := by
    show varB _ = _
    rw [HE.out, show decide ((0 : Int) = 0 ∧ (0 : Int) = 0 ∧ 1 ≤ its.length ∧ its.length ≤ 1000) = true from decide_eq_true (by omega)]; rfl
  clear HE HV
  go_wp2_with fail
  clear q0 q1 q2 q3 q4
  go_loopw [3] (fun i wr => ∃ (j : Nat), j ≤ its.length ∧ i = .int .i64 j ∧ Below w1.heap.size w1 wr ∧ FineTo its j) (fun i _ => its.length - (intOf i).toNat)
  case atStart => exact ⟨0, Nat.zero_le _, rfl, Below.refl _ _, fun j _ hj => absurd hj (by omega)⟩
  case round =>
    obtain ⟨j, hj, rfl, hbr, hfine⟩ := hrel
    have HF := Lib.hid hfine
    clear hfine
    have hB1 := hB.now hbr
    have hbw := bthen hb hbr
    obtain ⟨q0, q1, q2, q3, q4⟩ := hB1.c5
    by_cases hjl : j < its.length
    · have hitm := hit1.now hbr
      obtain ⟨b, o, s, rfl, hD, hx, hf, hcell⟩ := hitm.at_ hjl
      have HX := Lib.hid hx
      clear hx
      have htk := Sl.take_ (k := j) hitm (by omega)
      have j1 : (0 : Int) ≤ j := by omega
      have j2 : (j : Int) < (its.length : Int) := by omega
      have j3 : (j : Int) ≤ (c : Int) := by omega
      have j4 : j ≤ c := by omega
      cases hts : textB s with
      | false =>
        have HT : Hid (∀ q : Nat, Calls Tryz.prog 114 #[.string s] (wr.drewN q) fun e w' => e = .returned (.bool false) ∧ ∃ q', w' = (wr.drewN q).drewN q') :=
          fun q => (text_ref s (wr.drewN q) hf).mono fun e w' ⟨he, hw⟩ => ⟨by rw [he, hts], 0, hw.symm⟩
        have HR := Lib.hid (fine_text HX.out hts)
        clear hts
        go_wp2
        go_quiet ((go_at_call 114; (with_reducible exact Calls.quiet_of (HT.out _))))
        go_wp2
        go_ret
        exact ⟨ret_bool (by rw [HE2.out, HR.out]), bdrawn hbw _⟩
      | true =>
        have HT : Hid (∀ q : Nat, Calls Tryz.prog 114 #[.string s] (wr.drewN q) fun e w' => e = .returned (.bool true) ∧ ∃ q', w' = (wr.drewN q).drewN q') :=
          fun q => (text_ref s (wr.drewN q) hf).mono fun e w' ⟨he, hw⟩ => ⟨by rw [he, hts], 0, hw.symm⟩
        have HTX := Lib.hid hts
        clear hts
        have HI : Hid (∀ q : Nat, Calls Tryz.prog 115 #[.slice (some ⟨b, o, none⟩) j c, .string s] (wr.drewN q) fun e w' => e = .returned (.int .i64 (atS (its.take j) s)) ∧ ∃ q', w' = (wr.drewN q).drewN q') :=
          fun q => (index_ref _ (its.take j) s (wr.drewN q) htk).mono fun e w' ⟨he, hw⟩ => ⟨he, 0, hw.symm⟩
        have HA := Lib.hid (atS_any (its.take j) s)
        generalize atS (its.take j) s = z at *
        cases hts : (its.take j).any (sameS s) with
        | true =>
          have hd : decide (0 ≤ z) = true := by rw [HA.out, hts]
          have hd' : 0 ≤ z := by simpa using hd
          have HR := Lib.hid (fine_twice HX.out hts)
          clear hts
          go_wp2
          go_quiet ((first | (go_at_call 114; (with_reducible exact Calls.quiet_of (HT.out _))) | (go_at_call 115; (with_reducible exact Calls.quiet_of (HI.out _)))))
          go_wp2
          go_ret
          exact ⟨ret_bool (by rw [HE2.out, HR.out]), bdrawn hbw _⟩
        | false =>
          have hd : decide (0 ≤ z) = false := by rw [HA.out, hts]
          have hd' : ¬ 0 ≤ z := by simpa using hd
          have HTS := Lib.hid hts
          clear hts
          go_wp2
          go_quiet ((first | (go_at_call 114; (with_reducible exact Calls.quiet_of (HT.out _))) | (go_at_call 115; (with_reducible exact Calls.quiet_of (HI.out _)))))
          go_wp2
          go_roundw
          case rel =>
            refine ⟨j + 1, by omega, by go_num, below_drewN hbr _, fun i s' hi hs' => ?_⟩
            by_cases e : i = j
            · subst e; rw [HX.out] at hs'; injection hs' with hs'; subst hs'; exact ⟨HTX.out, HTS.out⟩
            · exact HF.out i s' (by omega) hs'
          case measure => simp [intOf]; omega
    · obtain rfl : j = its.length := by omega
      have HR := Lib.hid (fine_all HF.out)
      go_wp2_with fail
      go_ret
      exact ⟨ret_bool (by rw [HE2.out, HR.out]), hbw⟩
end Go.Proofs.YtijmnenojbfdnaaGreatDoor
