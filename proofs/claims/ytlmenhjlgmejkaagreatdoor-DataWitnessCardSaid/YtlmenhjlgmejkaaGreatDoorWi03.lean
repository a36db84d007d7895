/- Texts of this seat, merged. -/
import Derived.Test.YtlmenhjlgmejkaaGreatDoorIn04
import Derived.Deep.QuietTactic
import Derived.BigQuiet
import Derived.Deep.RegionHeld3
import Derived.Test.YtlmenhjlgmejkaaGreatDoorIn03
import Derived.Outline
import Derived.Shelf.Abstract
import Derived.Laws.IdiomStrings
import Derived.Test.YtlmenhjlgmejkaaGreatDoorIn02
import Derived.WalkKit
import Derived.WalkSpells
import Derived.WalkLawsBesides
import Derived.Lib.Hide
import Derived.Deep.Draws
import Derived.Deep.OwnRows
import Derived.Test.YtlmenhjlgmejkaaGreatDoorIn01
import Derived.Test.YtlmenhjlgmejkaaGreatDoorProg
import Derived.Deep.Light
import Derived.Lib.SlicesCompact
import Derived.Maps.AppendAt
import Derived.Deep.AppendLies
import Derived.RegionTactic
import Derived.OwnWalk
import Derived.Sort.OwnSorted
import Derived.Lib.Bytes
import Derived.Shelf.Strings.Builder1
import Derived.Shelf.Small.Bits
import Derived.Shelf.Small.Wraps
import Derived.Shelf.Strings.BuilderF
import Derived.Shelf.Strings.BuilderK
import Derived.Shelf.Strconv.Itoa0
import Derived.Shelf.Strconv.Itoa1
import Derived.Shelf.LaysM
import Derived.Shelf.Strconv.Itoa2
import Derived.Shelf.Strconv.Itoa3
import Derived.Shelf.Sort.Plain
import Derived.Shelf.Strings.BuilderCap
import Derived.Shelf.Slices.Turned
import Derived.Shelf.Slices.Reverse
import Derived.Shelf.Slices.Equal
import Derived.Ground.Names2Prog
import Derived.Shelf.Slices.Clone
import Derived.Shelf.Slices.CompactS
import Derived.Shelf.Slices.Cells
import Derived.Shelf.Slices.In.SortNone
import Derived.Shelf.Slices.Empties2
import Derived.Maps.OwnOps
import Derived.Maps.OwnSet
import Derived.Maps.Views
import Derived.StringKeys
import Derived.Test.YtlmenhjlgmejkaaGreatDoorWi01
import Derived.Test.YtlmenhjlgmejkaaGreatDoorWi02
set_option linter.unusedSimpArgs false
set_option linter.unusedVariables false
namespace Go.Proofs.YtlmenhjlgmejkaaGreatDoor
open Go.RowKit
set_option maxHeartbeats 2000000 in
set_option maxRecDepth 100000 in
theorem validVar_ref (x : Var) (u : Value) (w : World) (h : IsVar (Lt w.heap.size) w u x) :
    Calls Tryz.prog 122 #[u] w fun e w' => e = .returned (.bool (varB x)) ∧ Below w.heap.size w w' := by
  obtain ⟨nm, k, lo, hi, its⟩ := x
  obtain ⟨iv, rfl, hnm, f1, f2, f3, hit⟩ := h
  dsimp only at hnm f1 f2 f3 hit ⊢
  obtain ⟨A, c, rfl, i1, i2, hit⟩ := hit.open_
  have hb := bone w (.cells #[.string nm, .int .i64 k, .int .i64 lo, .int .i64 hi, .slice A its.length c] 117)
  have hB := Blk.new w 117 #[.string nm, .int .i64 k, .int .i64 lo, .int .i64 hi, .slice A its.length c]
  have hit1 := hit.now hb
  go_enter Tryz.func122, Tryz.ntmps122
  go_upto_region 1 with fail
  generalize hw1 : w.alloc (.cells #[.string nm, .int .i64 k, .int .i64 lo, .int .i64 hi, .slice A its.length c] 117) = w1 at *
  clear hw1
  obtain ⟨q0, q1, q2, q3, q4⟩ := hB.c5
  have hlt := hB.lt
  go_wp2_with fail
  refine (isName_ref nm _ hnm).mono ?_
  rintro e w' ⟨rfl, rfl⟩
  generalize hq : isNameB nm = q
  have HQ := Lib.hid hq
  clear hq
  cases q
  · have HE : Hid (varB ⟨nm, k, lo, hi, its⟩ = false) := varB_no HQ.out
    go_wp2_with fail
    go_ret
    exact ⟨ret_bool HE.out.symm, hb⟩
  have HV : Hid (varB ⟨nm, k, lo, hi, its⟩ = formB ⟨nm, k, lo, hi, its⟩) := varB_yes HQ.out
  by_cases k2 : k = 2
  · subst k2
    have HE : Hid (varB ⟨nm, 2, lo, hi, its⟩ = (numB lo && numB hi && decide (lo ≤ hi ∧ hi - lo < 1000 ∧ its.length = 0))) := HV.out.trans form2
    go_upto_region 4 with fail
    cases hn1 : numB lo with
    | false =>
      have HN1 : Hid (∀ w, Calls Tryz.prog 156 #[.int .i64 lo] w fun e w' => e = .returned (.bool false) ∧ w = w') := fun w => by rw [← hn1]; exact number_ref lo w
      rw [hn1] at HE
      clear hn1
      go_wp2_with (go_at_call 156; refine (HN1.out _).mono ?_; rintro e w' ⟨rfl, rfl⟩)
      go_ret
      exact ⟨ret_bool (by rw [HE.out]; rfl), hb⟩
    | true =>
      have HN1 : Hid (∀ w, Calls Tryz.prog 156 #[.int .i64 lo] w fun e w' => e = .returned (.bool true) ∧ w = w') := fun w => by rw [← hn1]; exact number_ref lo w
      obtain ⟨b1, b2⟩ := num_bounds hn1
      rw [hn1] at HE
      clear hn1
      cases hn2 : numB hi with
      | false =>
        have HN2 : Hid (∀ w, Calls Tryz.prog 156 #[.int .i64 hi] w fun e w' => e = .returned (.bool false) ∧ w = w') := fun w => by rw [← hn2]; exact number_ref hi w
        rw [hn2] at HE
        clear hn2
        go_wp2_with (first | (go_at_call 156; (with_reducible refine (HN1.out _).mono ?_); rintro e w' ⟨rfl, rfl⟩) | (go_at_call 156; (with_reducible refine (HN2.out _).mono ?_); rintro e w' ⟨rfl, rfl⟩))
        go_ret
        exact ⟨ret_bool (by rw [HE.out]; rfl), hb⟩
      | true =>
        have HN2 : Hid (∀ w, Calls Tryz.prog 156 #[.int .i64 hi] w fun e w' => e = .returned (.bool true) ∧ w = w') := fun w => by rw [← hn2]; exact number_ref hi w
        obtain ⟨b3, b4⟩ := num_bounds hn2
        rw [hn2] at HE
        clear hn2
        by_cases a1 : lo ≤ hi
        · by_cases a2 : hi - lo < 1000
          · by_cases a3 : its.length = 0
            · rw [a3] at q4 HE
              go_wp2_with (first | (go_at_call 156; (with_reducible refine (HN1.out _).mono ?_); rintro e w' ⟨rfl, rfl⟩) | (go_at_call 156; (with_reducible refine (HN2.out _).mono ?_); rintro e w' ⟨rfl, rfl⟩))
              go_ret
              exact ⟨ret_bool (by rw [HE.out]; simp [a1, a2]), hb⟩
            · have a3' : ((its.length : Int) == 0) = false := by rw [beq_eq_false_iff_ne]; omega
              go_wp2_with (first | (go_at_call 156; (with_reducible refine (HN1.out _).mono ?_); rintro e w' ⟨rfl, rfl⟩) | (go_at_call 156; (with_reducible refine (HN2.out _).mono ?_); rintro e w' ⟨rfl, rfl⟩))
              go_ret
              exact ⟨ret_bool (by rw [HE.out]; simp [a3]), hb⟩
          · go_wp2_with (first | (go_at_call 156; (with_reducible refine (HN1.out _).mono ?_); rintro e w' ⟨rfl, rfl⟩) | (go_at_call 156; (with_reducible refine (HN2.out _).mono ?_); rintro e w' ⟨rfl, rfl⟩))
            go_ret
            exact ⟨ret_bool (by rw [HE.out, show decide (lo ≤ hi ∧ hi - lo < 1000 ∧ its.length = 0) = false from decide_eq_false (fun h => by omega)]; rfl), hb⟩
        · go_wp2_with (first | (go_at_call 156; (with_reducible refine (HN1.out _).mono ?_); rintro e w' ⟨rfl, rfl⟩) | (go_at_call 156; (with_reducible refine (HN2.out _).mono ?_); rintro e w' ⟨rfl, rfl⟩))
          go_ret
          exact ⟨ret_bool (by rw [HE.out, show decide (lo ≤ hi ∧ hi - lo < 1000 ∧ its.length = 0) = false from decide_eq_false (fun h => by omega)]; rfl), hb⟩
  have k2' : (k == 2) = false := by simpa using k2
  by_cases a1 : lo = 0 ∧ hi = 0
  rotate_left
  · have HE : Hid (varB ⟨nm, k, lo, hi, its⟩ = false) := by
      show varB _ = false
      rw [HV.out]
      by_cases k1 : k = 1
      · rw [k1, form1]; exact decide_eq_false (fun h => a1 ⟨h.1, h.2.1⟩)
      by_cases k3 : k = 3
      · rw [k3, form3, show decide (lo = 0 ∧ hi = 0 ∧ 1 ≤ its.length ∧ its.length ≤ 1000) = false from decide_eq_false (fun h => a1 ⟨h.1, h.2.1⟩)]; rfl
      exact form0 k1 k2 k3
    by_cases a2 : lo = 0
    · have a3 : (hi != 0) = true := by simp; exact fun h => a1 ⟨a2, h⟩
      subst a2
      clear a1 k2
      go_wp2_with fail
      go_ret
      exact ⟨ret_bool HE.out.symm, hb⟩
    · have a3 : (lo != 0) = true := by simpa using a2
      clear a1 k2
      go_wp2_with fail
      go_ret
      exact ⟨ret_bool HE.out.symm, hb⟩
  obtain ⟨rfl, rfl⟩ := a1
  by_cases k1 : k = 1
  · subst k1
    have HE : Hid (varB ⟨nm, 1, 0, 0, its⟩ = decide ((0 : Int) = 0 ∧ (0 : Int) = 0 ∧ its.length = 0)) := HV.out.trans form1
    by_cases a3 : its.length = 0
    · rw [a3] at q4 HE
      go_wp2_with fail
      go_ret
      exact ⟨ret_bool (by rw [HE.out]; simp), hb⟩
    · have a3' : ((its.length : Int) == 0) = false := by rw [beq_eq_false_iff_ne]; omega
      go_wp2_with fail
      go_ret
      exact ⟨ret_bool (by rw [HE.out]; simp [a3]), hb⟩
  have k1' : (k == 1) = false := by simpa using k1
  by_cases k3 : k = 3
  rotate_left
  · have k3' : (k != 3) = true := by simpa using k3
    have HE : Hid (varB ⟨nm, k, 0, 0, its⟩ = false) := HV.out.trans (form0 k1 k2 k3)
    clear k1 k2 k3
    go_wp2_with fail
    go_ret
    exact ⟨ret_bool HE.out.symm, hb⟩
  subst k3
  have HE : Hid (varB ⟨nm, 3, 0, 0, its⟩ = (decide ((0 : Int) = 0 ∧ (0 : Int) = 0 ∧ 1 ≤ its.length ∧ its.length ≤ 1000) && its.all textB && onceB (bytesOf its))) := HV.out.trans form3
  clear k1 k2 k1' k2'
  by_cases a3 : its.length < 1
  · have HE2 : Hid (varB ⟨nm, 3, 0, 0, its⟩ = false) := by
      show varB _ = false
      rw [HE.out, show decide ((0 : Int) = 0 ∧ (0 : Int) = 0 ∧ 1 ≤ its.length ∧ its.length ≤ 1000) = false from decide_eq_false (fun h => by omega)]; rfl
    go_wp2_with fail
    go_ret
    exact ⟨ret_bool HE2.out.symm, hb⟩
  by_cases a4 : 1000 < its.length
  · have HE2 : Hid (varB ⟨nm, 3, 0, 0, its⟩ = false) := by
      show varB _ = false
      rw [HE.out, show decide ((0 : Int) = 0 ∧ (0 : Int) = 0 ∧ 1 ≤ its.length ∧ its.length ≤ 1000) = false from decide_eq_false (fun h => by omega)]; rfl
    go_wp2_with fail
    go_ret
    exact ⟨ret_bool HE2.out.symm, hb⟩
  have HE2 : Hid (varB ⟨nm, 3, 0, 0, its⟩ = (its.all textB && onceB (bytesOf its))) := by
    show varB _ = _
    rw [HE.out, show decide ((0 : Int) = 0 ∧ (0 : Int) = 0 ∧ 1 ≤ its.length ∧ its.length ≤ 1000) = true from decide_eq_true (by omega)]; rfl
  clear HE HV
  go_wp2_with fail
  clear q0 q1 q2 q3 q4
  go_loopw [3] (fun i wr => ∃ (j : Nat), j ≤ its.length ∧ i = .int .i64 j ∧ Below w1.heap.size w1 wr ∧ FineTo its j) (fun i _ => its.length - (intOf i).toNat)
  case atStart => exact ⟨0, Nat.zero_le _, rfl, Below.refl _ _, fun j _ hj => absurd hj (by omega)⟩
  case round =>
    obtain ⟨j, hj, rfl, hbr, hfine⟩ := hrel
    have HF := Lib.hid hfine
    clear hfine
    have hB1 := hB.now hbr
    have hbw := bthen hb hbr
    obtain ⟨q0, q1, q2, q3, q4⟩ := hB1.c5
    by_cases hjl : j < its.length
    · have hitm := hit1.now hbr
      obtain ⟨b, o, s, rfl, hD, hx, hf, hcell⟩ := hitm.at_ hjl
      have HX := Lib.hid hx
      clear hx
      have htk := Sl.take_ (k := j) hitm (by omega)
      have j1 : (0 : Int) ≤ j := by omega
      have j2 : (j : Int) < (its.length : Int) := by omega
      have j3 : (j : Int) ≤ (c : Int) := by omega
      have j4 : j ≤ c := by omega
      cases hts : textB s with
      | false =>
        have HT : Hid (∀ q : Nat, Calls Tryz.prog 157 #[.string s] (wr.drewN q) fun e w' => e = .returned (.bool false) ∧ ∃ q', w' = (wr.drewN q).drewN q') :=
          fun q => (text_ref s (wr.drewN q) hf).mono fun e w' ⟨he, hw⟩ => ⟨by rw [he, hts], 0, hw.symm⟩
        have HR := Lib.hid (fine_text HX.out hts)
        clear hts
        go_wp2
        go_quiet ((go_at_call 157; (with_reducible exact Calls.quiet_of (HT.out _))))
        go_wp2
        go_ret
        exact ⟨ret_bool (by rw [HE2.out, HR.out]), bdrawn hbw _⟩
      | true =>
        have HT : Hid (∀ q : Nat, Calls Tryz.prog 157 #[.string s] (wr.drewN q) fun e w' => e = .returned (.bool true) ∧ ∃ q', w' = (wr.drewN q).drewN q') :=
          fun q => (text_ref s (wr.drewN q) hf).mono fun e w' ⟨he, hw⟩ => ⟨by rw [he, hts], 0, hw.symm⟩
        have HTX := Lib.hid hts
        clear hts
        have HI : Hid (∀ q : Nat, Calls Tryz.prog 150 #[.slice (some ⟨b, o, none⟩) j c, .string s] (wr.drewN q) fun e w' => e = .returned (.int .i64 (atS (its.take j) s)) ∧ ∃ q', w' = (wr.drewN q).drewN q') :=
          fun q => (index_ref _ (its.take j) s (wr.drewN q) htk).mono fun e w' ⟨he, hw⟩ => ⟨he, 0, hw.symm⟩
        have HA := Lib.hid (atS_any (its.take j) s)
        generalize atS (its.take j) s = z at *
        cases hts : (its.take j).any (sameS s) with
        | true =>
          have hd : decide (0 ≤ z) = true := by rw [HA.out, hts]
          have hd' : 0 ≤ z := by simpa using hd
          have HR := Lib.hid (fine_twice HX.out hts)
          clear hts
          go_wp2
          go_quiet ((first | (go_at_call 157; (with_reducible exact Calls.quiet_of (HT.out _))) | (go_at_call 150; (with_reducible exact Calls.quiet_of (HI.out _)))))
          go_wp2
          go_ret
          exact ⟨ret_bool (by rw [HE2.out, HR.out]), bdrawn hbw _⟩
        | false =>
          have hd : decide (0 ≤ z) = false := by rw [HA.out, hts]
          have hd' : ¬ 0 ≤ z := by simpa using hd
          have HTS := Lib.hid hts
          clear hts
          go_wp2
          go_quiet ((first | (go_at_call 157; (with_reducible exact Calls.quiet_of (HT.out _))) | (go_at_call 150; (with_reducible exact Calls.quiet_of (HI.out _)))))
          go_wp2
          go_roundw
          case rel =>
            refine ⟨j + 1, by omega, by go_num, below_drewN hbr _, fun i s' hi hs' => ?_⟩
            by_cases e : i = j
            · subst e; rw [HX.out] at hs'; injection hs' with hs'; subst hs'; exact ⟨HTX.out, HTS.out⟩
            · exact HF.out i s' (by omega) hs'
          case measure => simp [intOf]; omega
    · obtain rfl : j = its.length := by omega
      have HR := Lib.hid (fine_all HF.out)
      go_wp2_with fail
      go_ret
      exact ⟨ret_bool (by rw [HE2.out, HR.out]), hbw⟩
end Go.Proofs.YtlmenhjlgmejkaaGreatDoor

namespace Go.Proofs.YtlmenhjlgmejkaaGreatDoor
open Go.RowKit
set_option maxHeartbeats 2000000 in
theorem rank_ref (x : Var) (v : Val) (u : Value) (w : World) (h : IsVar (Lt w.heap.size) w u x) (ht : Tame x) (hv : FitV v) :
    Calls Tryz.prog 111 #[u, valV v] w fun e w' => e = .returned (.int .i64 (placeV x v)) ∧ Below w.heap.size w w' := by
  obtain ⟨nm, k, lo, hi, its⟩ := x
  obtain ⟨vk, vn, vs⟩ := v
  obtain ⟨⟨l1, l2⟩, ⟨l3, l4⟩, ld, lk, li⟩ := ht
  obtain ⟨iv, rfl, hnm, f1, f2, f3, hit⟩ := h
  obtain ⟨g1, g2, g3⟩ := hv
  unfold Fit at f1 f2 f3 g1 g2
  unfold valV
  dsimp only at hnm f1 f2 f3 hit l1 l2 l3 l4 ld lk li g1 g2 g3 ⊢
  obtain ⟨A, c, rfl, i1, i2, hit⟩ := hit.open_
  have hb := bbox (bone w (.cells #[.string nm, .int .i64 k, .int .i64 lo, .int .i64 hi, .slice A its.length c] 117)) (.cells #[.int .i64 vk, .int .i64 vn, .string vs] 63)
  have hit2 := hit.now hb
  have HP : Hid (placeV ⟨nm, k, lo, hi, its⟩ ⟨vk, vn, vs⟩ = if vk ≠ k then -1 else if k = 1 then vn else if k = 3 then atS its vs else if vn < lo ∨ hi < vn then -1 else vn - lo) := rfl
  go_enter Tryz.func111, Tryz.ntmps111
  by_cases a1 : vk = k
  rotate_left
  · have a1' : (vk != k) = true := by simpa using a1
    have HE := Lib.hid (HP.out.trans (if_pos a1))
    clear a1
    go_wp2_with fail
    go_ret
    exact ⟨ret_int HE.out.symm, hb⟩
  subst a1
  have a1' : (vk != vk) = false := by simp
  have HE := Lib.hid (HP.out.trans (if_neg (fun h => h rfl)))
  rcases lk with rfl | rfl | rfl
  · go_wp2_with fail
    go_ret
    exact ⟨ret_int HE.out.symm, hb⟩
  · by_cases b1 : vn < lo
    · have HE2 := Lib.hid (HE.out.trans (show _ = (-1 : Int) by simp [b1]))
      go_wp2_with fail
      go_ret
      exact ⟨ret_int HE2.out.symm, hb⟩
    by_cases b2 : hi < vn
    · have HE2 := Lib.hid (HE.out.trans (show _ = (-1 : Int) by simp [b2]))
      go_wp2_with fail
      go_ret
      exact ⟨ret_int HE2.out.symm, hb⟩
    have HE2 := Lib.hid (HE.out.trans (show _ = vn - lo by simp [b1, b2]))
    go_wp2_with fail
    go_ret
    exact ⟨ret_int HE2.out.symm, hb⟩
  · go_wp2_with fail
    refine (index_ref _ its vs _ hit2).mono ?_
    rintro e w' ⟨rfl, rfl⟩
    go_wp2_with fail
    go_ret
    exact ⟨ret_int HE.out.symm, hb⟩
end Go.Proofs.YtlmenhjlgmejkaaGreatDoor

namespace Go.Proofs.YtlmenhjlgmejkaaGreatDoor
open Go.RowKit
theorem varsB_long {l : List Var} (h : 8 < l.length) : varsB l = false := by
  unfold varsB
  have : decide (l.length ≤ 8) = false := decide_eq_false (by omega)
  rw [this]; rfl
set_option maxHeartbeats 2000000 in
theorem validVars_ref (l : List Var) (u : Value) (w : World) (h : SlX (Lt w.heap.size) w u l) :
    Calls Tryz.prog 75 #[u] w fun e w' => e = .returned (.bool (varsB l)) ∧ Below w.heap.size w w' := by
  obtain ⟨A, c, rfl, h1, h2, ht⟩ := h.open_
  clear h
  go_enter Tryz.func75, Tryz.ntmps75
  by_cases h8 : 8 < l.length
  · have HE := Lib.hid (varsB_long h8)
    go_wp2_with fail
    go_ret
    exact ⟨ret_bool HE.out.symm, Below.refl _ _⟩
  go_wp2_with fail
  go_loopw [3] (fun i wr => ∃ j : Nat, j ≤ l.length ∧ i = .int .i64 j ∧ Below w.heap.size w wr ∧ VarsTo l j) (fun i _ => l.length - (intOf i).toNat)
  case atStart => exact ⟨0, Nat.zero_le _, rfl, Below.refl _ _, VarsTo.zero l⟩
  case round =>
    obtain ⟨j, hj, rfl, hb, hto⟩ := hrel
    have HTO := Lib.hid hto
    clear hto
    by_cases hlt : j < l.length
    · obtain ⟨b, o, x, iv, rfl, hD, hx, hvar, hiv, c0, c1, c2, c3, c4⟩ := (ht.now hb).at_ hlt
      have HX := Lib.hid hx
      clear hx
      go_wp2_with fail
      refine (validVar_ref x _ _ hvar).mono ?_
      rintro e w2 ⟨rfl, hb2⟩
      have hbw2 : Below w.heap.size w w2 := bthen hb hb2
      clear hvar hiv c0 c1 c2 c3 c4
      generalize hq : varB x = q
      have HQ := Lib.hid hq
      clear hq
      cases q
      · have HE := Lib.hid (varsB_bad HX.out HQ.out)
        go_wp2_with fail
        go_ret
        exact ⟨ret_bool HE.out.symm, hbw2⟩
      · go_wp2_with fail
        go_loopw [4] (fun i wx => ∃ k : Nat, k ≤ j ∧ i = .int .i64 k ∧ Below w.heap.size w wx ∧ ∀ q y, q < k → l[q]? = some y → y.name.data.toList ≠ x.name.data.toList) (fun i _ => j - (intOf i).toNat)
        case atStart => exact ⟨0, Nat.zero_le _, rfl, hbw2, fun q _ h => absurd h (by omega)⟩
        case round =>
          obtain ⟨k, hk, rfl, hbx, hp⟩ := hrel
          have HP := Lib.hid hp
          clear hp
          by_cases hkl : k < j
          · obtain ⟨b', o', x', iv', eA, hD', hx', hvar', hiv', c0', c1', c2', c3', c4'⟩ := (ht.now hbx).at_ (k := j) hlt
            obtain ⟨b2, o2, y, iy, eA2, hD2, hy, hvary, hivy, d0, d1, d2, d3, d4⟩ := (ht.now hbx).at_ (k := k) (by omega)
            injection eA with eA; injection eA with e1 e2; subst e1 e2
            injection eA2 with eA2; injection eA2 with e3 e4; subst e3 e4
            obtain rfl : x' = x := by have := HX.out; rw [hx'] at this; injection this
            have HY := Lib.hid hy
            clear hx' hy hvar' hiv' c1' c2' c3' c4' hvary hivy d1 d2 d3 d4
            have i1 : (0 : Int) ≤ k := by omega
            have i2 : (k : Int) < (l.length : Int) := by omega
            have i3 : (0 : Int) ≤ j := by omega
            have i4 : (j : Int) < (l.length : Int) := by omega
            cases hq : (y.name.toList == x'.name.toList) with
            | true =>
              have HE : Hid (varsB l = false) := by
                refine varsB_twice HX.out ?_
                have e : y.name.data.toList = x'.name.data.toList := by
                  have := eq_of_beq hq
                  rwa [Lib.toList_data, Lib.toList_data] at this
                rw [← e, namesOf_take, List.mem_take_iff_getElem]
                have hy := namesOf_get HY.out
                obtain ⟨hk', hy⟩ := List.getElem?_eq_some_iff.1 hy
                exact ⟨k, by omega, hy⟩
              go_wp2
              go_quiet (fail)
              go_wp2
              go_ret
              exact ⟨ret_bool HE.out.symm, bdrawn hbx _⟩
            | false =>
              have HN : Hid (y.name.data.toList ≠ x'.name.data.toList) := by
                show _ ≠ _
                rw [← Lib.toList_data, ← Lib.toList_data]
                exact ne_of_beq_false hq
              go_wp2
              go_quiet (fail)
              go_wp2
              go_roundw
              case rel =>
                refine ⟨k + 1, by omega, by go_num, bdrawn hbx _, fun q z hq hz => ?_⟩
                by_cases e : q = k
                · subst e; rw [HY.out] at hz; injection hz with hz; subst hz; exact HN.out
                · exact HP.out q z (by omega) hz
              case measure => simp [intOf]; omega
          · obtain rfl : k = j := by omega
            go_wp2_with fail
            go_roundw
            case rel =>
              refine ⟨k + 1, by omega, by go_num, hbx, HTO.out.next HX.out HQ.out (fun hm => ?_)⟩
              rw [namesOf_take, List.mem_take_iff_getElem] at hm
              obtain ⟨q, hq, e⟩ := hm
              have hq1 : q < l.length := by omega
              refine HP.out q l[q] (by omega) (List.getElem?_eq_getElem hq1) ?_
              rw [← e]
              unfold namesOf bytesOf
              simp
            case measure => simp [intOf]; omega
    · obtain rfl : j = l.length := by omega
      have HE := Lib.hid (varsB_all HTO.out)
      go_wp2_with fail
      go_ret
      exact ⟨ret_bool (by rw [HE.out]; simp; omega), hb⟩
end Go.Proofs.YtlmenhjlgmejkaaGreatDoor
