/- Merged texts. -/
import Derived.Maps.OwnOps
import Derived.Maps.OwnSet
import Derived.Maps.Views
import Derived.StringKeys
import Derived.Test.YtlmenhjlgmejkaaGreatDoorSn02
set_option linter.all false
namespace Go.Proofs.YtlmenhjlgmejkaaGreatDoor
open Go.RowKit
def sameS (s : ByteArray) (y : ByteArray) : Bool := y.toList == s.toList
theorem atS_hit (l : List ByteArray) (s : ByteArray) (j : Nat) (y : ByteArray) (hy : l[j]? = some y) (h : sameS s y = true) (hn : ∀ q z, q < j → l[q]? = some z → sameS s z = false) : atS l s = j := by
 have hj : j < l.length := by
  rcases Nat.lt_or_ge j l.length with h | h
  ·exact h
  ·rw [List.getElem?_eq_none h] at hy; cases hy
 have : l.findIdx? (fun y => y.toList == s.toList) = some j := by
  rw [List.findIdx?_eq_some_iff_getElem]
  refine ⟨hj, ?_, fun q hq => ?_⟩
  ·rw [List.getElem?_eq_getElem hj] at hy; injection hy with hy; rw [hy]; exact h
  ·have := hn q _ hq (List.getElem?_eq_getElem (by omega)); simpa [sameS] using this
 unfold atS; rw [this]
theorem atS_miss (l : List ByteArray) (s : ByteArray) (hn : ∀ q z, q < l.length → l[q]? = some z → sameS s z = false) : atS l s = -1 := by
 have : l.findIdx? (fun y => y.toList == s.toList) = none := by
  rw [List.findIdx?_eq_none_iff]
  intro x hx
  obtain ⟨q, hq, rfl⟩ := List.mem_iff_getElem.1 hx
  exact hn q _ hq (List.getElem?_eq_getElem hq)
 unfold atS; rw [this]
theorem atS_any (l : List ByteArray) (s : ByteArray) : decide (0 ≤ atS l s) = l.any (sameS s) := by
 unfold atS
 cases h : l.findIdx? (fun y => y.toList == s.toList) with
 | none =>
  rw [List.findIdx?_eq_none_iff] at h
  rw [Bool.eq_iff_iff]
  simp
  exact fun x hx => by have := h x hx; simpa [sameS] using this
 | some i =>
  rw [List.findIdx?_eq_some_iff_getElem] at h
  obtain ⟨h1, h2, _⟩ := h
  rw [Bool.eq_iff_iff]
  simp
  exact ⟨_, List.getElem_mem h1, h2⟩
set_option maxHeartbeats 400000 in
theorem index_ref (v : Value) (l : List ByteArray) (s : ByteArray) (w : World) (hv : SlS (Lt w.heap.size) w v l) :
  Calls Tryz.prog 150 #[v, .string s] w fun e w' => e = .returned (.int .i64 (atS l s)) ∧ w = w' := by
 obtain ⟨A, c, rfl, h1, h2, hv⟩ := hv.open_
 go_enter Tryz.func150, Tryz.ntmps150
 go_wp2_with fail
 go_loop [5] (fun i => ∃ k : Nat, k ≤ l.length ∧ i = .int .i64 k ∧ ∀ j y, j < k → l[j]? = some y → sameS s y = false) (fun i => l.length - (intOf i).toNat)
 case atStart => exact ⟨0, Nat.zero_le _, rfl, fun j _ h => absurd h (by omega)⟩
 case round =>
  obtain ⟨k, hk, rfl, hp⟩ := hrel
  have HP := Lib.hid hp
  clear hp
  by_cases hlt : k < l.length
  ·obtain ⟨b, o, y, rfl, hD, hx, hf, hcell⟩ := hv.at_ hlt
   have HX := Lib.hid hx
   clear hx
   cases hq : (y.toList == s.toList) with
   | true =>
    have HE := Lib.hid (atS_hit l s k y HX.out hq HP.out)
    go_wp2_with fail
    go_ret
    exact ⟨ret_int HE.out.symm, rfl⟩
   | false =>
    have HQ : Hid (sameS s y = false) := hq
    go_wp2_with fail
    go_round
    case rel => exact ⟨k + 1, by omega, by go_num, fun j z hj hz => by
     by_cases e : j = k
     ·subst e; rw [HX.out] at hz; injection hz with hz; rw [← hz]; exact HQ.out
     ·exact HP.out j z (by omega) hz⟩
    case measure => simp [intOf]; omega
  ·have HE := Lib.hid (atS_miss l s (fun q z hq hz => HP.out q z (by omega) hz))
   go_wp2_with fail
   go_ret
   exact ⟨ret_int HE.out.symm, rfl⟩
def FineTo (its : List ByteArray) (k : Nat) : Prop := ∀ (j : Nat) s, j < k → its[j]? = some s → textB s = true ∧ (its.take j).any (sameS s) = false
theorem sameS_iff (s y : ByteArray) : sameS s y = true ↔ y.data.toList = s.data.toList := by
 unfold sameS
 rw [Lib.toList_data, Lib.toList_data]
 simp
theorem fine_all {its : List ByteArray} (h : FineTo its its.length) : (its.all textB && onceB (bytesOf its)) = true := by
 rw [Bool.and_eq_true]
 constructor
 ·rw [List.all_eq_true]
  intro s hs
  obtain ⟨j, hj, rfl⟩ := List.mem_iff_getElem.1 hs
  exact (h j _ hj (List.getElem?_eq_getElem hj)).1
 ·unfold onceB
  rw [decide_eq_true_eq]
  unfold List.Nodup
  rw [List.pairwise_iff_getElem]
  intro i j hi hj hij e
  have hj' : j < its.length := by simpa [bytesOf] using hj
  have h2 := (h j _ hj' (List.getElem?_eq_getElem hj')).2
  rw [List.any_eq_false] at h2
  refine h2 its[i] ?_ ?_
  ·rw [List.mem_take_iff_getElem]
   exact ⟨i, by omega, rfl⟩
  ·rw [sameS_iff]
   simpa [bytesOf] using e
theorem fine_text {its : List ByteArray} {j : Nat} {s : ByteArray} (hs : its[j]? = some s) (h : textB s = false) : (its.all textB && onceB (bytesOf its)) = false := by
 rw [Bool.and_eq_false_iff]
 left
 rw [Bool.eq_false_iff]
 intro h'
 rw [List.all_eq_true.1 h' s (List.mem_of_getElem? hs)] at h
 cases h
theorem fine_twice {its : List ByteArray} {j : Nat} {s : ByteArray} (hs : its[j]? = some s) (h : (its.take j).any (sameS s) = true) : (its.all textB && onceB (bytesOf its)) = false := by
 rw [Bool.and_eq_false_iff]
 right
 unfold onceB
 rw [decide_eq_false_iff_not]
 intro hn
 obtain ⟨y, hy, hsy⟩ := List.any_eq_true.1 h
 rw [List.mem_take_iff_getElem] at hy
 obtain ⟨i, hi, rfl⟩ := hy
 rw [sameS_iff] at hsy
 have hj : j < its.length := by
  rcases Nat.lt_or_ge j its.length with h | h
  ·exact h
  ·rw [List.getElem?_eq_none h] at hs; cases hs
 rw [List.getElem?_eq_getElem hj] at hs
 injection hs with hs
 unfold List.Nodup at hn
 rw [List.pairwise_iff_getElem] at hn
 refine hn i j (by simp [bytesOf]; omega) (by simpa [bytesOf] using hj) (by omega) ?_
 simp only [bytesOf, List.getElem_map]
 rw [hs, hsy]
set_option maxHeartbeats 2000000 in
set_option maxRecDepth 100000 in
theorem validVar_ref (x : Var) (u : Value) (w : World) (h : IsVar (Lt w.heap.size) w u x) :
  Calls Tryz.prog 122 #[u] w fun e w' => e = .returned (.bool (varB x)) ∧ Below w.heap.size w w' := by
 obtain ⟨nm, k, lo, hi, its⟩ := x
 obtain ⟨iv, rfl, hnm, f1, f2, f3, hit⟩ := h
 dsimp only at hnm f1 f2 f3 hit ⊢
 obtain ⟨A, c, rfl, i1, i2, hit⟩ := hit.open_
 have hb := bone w (.cells #[.string nm, .int .i64 k, .int .i64 lo, .int .i64 hi, .slice A its.length c] 117)
 have hB := Blk.new w 117 #[.string nm, .int .i64 k, .int .i64 lo, .int .i64 hi, .slice A its.length c]
 have hit1 := hit.now hb
 go_enter Tryz.func122, Tryz.ntmps122
 go_upto_region 1 with fail
 generalize hw1 : w.alloc (.cells #[.string nm, .int .i64 k, .int .i64 lo, .int .i64 hi, .slice A its.length c] 117) = w1 at *
 clear hw1
 obtain ⟨q0, q1, q2, q3, q4⟩ := hB.c5
 have hlt := hB.lt
 go_wp2_with fail
 refine (isName_ref nm _ hnm).mono ?_
 rintro e w' ⟨rfl, rfl⟩
 generalize hq : isNameB nm = q
 have HQ := Lib.hid hq
 clear hq
 cases q
 ·have HE : Hid (varB ⟨nm, k, lo, hi, its⟩ = false) := varB_no HQ.out
  go_wp2_with fail
  go_ret
  exact ⟨ret_bool HE.out.symm, hb⟩
 have HV : Hid (varB ⟨nm, k, lo, hi, its⟩ = formB ⟨nm, k, lo, hi, its⟩) := varB_yes HQ.out
 by_cases k2 : k = 2
 ·subst k2
  have HE : Hid (varB ⟨nm, 2, lo, hi, its⟩ = (numB lo && numB hi && decide (lo ≤ hi ∧ hi - lo < 1000 ∧ its.length = 0))) := HV.out.trans form2
  go_upto_region 4 with fail
  cases hn1 : numB lo with
  | false =>
   have HN1 : Hid (∀ w, Calls Tryz.prog 156 #[.int .i64 lo] w fun e w' => e = .returned (.bool false) ∧ w = w') := fun w => by rw [← hn1]; exact number_ref lo w
   rw [hn1] at HE
   clear hn1
   go_wp2_with (go_at_call 156; refine (HN1.out _).mono ?_; rintro e w' ⟨rfl, rfl⟩)
   go_ret
   exact ⟨ret_bool (by rw [HE.out]; rfl), hb⟩
  | true =>
   have HN1 : Hid (∀ w, Calls Tryz.prog 156 #[.int .i64 lo] w fun e w' => e = .returned (.bool true) ∧ w = w') := fun w => by rw [← hn1]; exact number_ref lo w
   obtain ⟨b1, b2⟩ := num_bounds hn1
   rw [hn1] at HE
   clear hn1
   cases hn2 : numB hi with
   | false =>
    have HN2 : Hid (∀ w, Calls Tryz.prog 156 #[.int .i64 hi] w fun e w' => e = .returned (.bool false) ∧ w = w') := fun w => by rw [← hn2]; exact number_ref hi w
    rw [hn2] at HE
    clear hn2
    go_wp2_with (first | (go_at_call 156; (with_reducible refine (HN1.out _).mono ?_); rintro e w' ⟨rfl, rfl⟩) | (go_at_call 156; (with_reducible refine (HN2.out _).mono ?_); rintro e w' ⟨rfl, rfl⟩))
    go_ret
    exact ⟨ret_bool (by rw [HE.out]; rfl), hb⟩
   | true =>
    have HN2 : Hid (∀ w, Calls Tryz.prog 156 #[.int .i64 hi] w fun e w' => e = .returned (.bool true) ∧ w = w') := fun w => by rw [← hn2]; exact number_ref hi w
    obtain ⟨b3, b4⟩ := num_bounds hn2
    rw [hn2] at HE
    clear hn2
    by_cases a1 : lo ≤ hi
    ·by_cases a2 : hi - lo < 1000
     ·by_cases a3 : its.length = 0
      ·rw [a3] at q4 HE
       go_wp2_with (first | (go_at_call 156; (with_reducible refine (HN1.out _).mono ?_); rintro e w' ⟨rfl, rfl⟩) | (go_at_call 156; (with_reducible refine (HN2.out _).mono ?_); rintro e w' ⟨rfl, rfl⟩))
       go_ret
       exact ⟨ret_bool (by rw [HE.out]; simp [a1, a2]), hb⟩
      ·have a3' : ((its.length : Int) == 0) = false := by rw [beq_eq_false_iff_ne]; omega
       go_wp2_with (first | (go_at_call 156; (with_reducible refine (HN1.out _).mono ?_); rintro e w' ⟨rfl, rfl⟩) | (go_at_call 156; (with_reducible refine (HN2.out _).mono ?_); rintro e w' ⟨rfl, rfl⟩))
       go_ret
       exact ⟨ret_bool (by rw [HE.out]; simp [a3]), hb⟩
     ·go_wp2_with (first | (go_at_call 156; (with_reducible refine (HN1.out _).mono ?_); rintro e w' ⟨rfl, rfl⟩) | (go_at_call 156; (with_reducible refine (HN2.out _).mono ?_); rintro e w' ⟨rfl, rfl⟩))
      go_ret
      exact ⟨ret_bool (by rw [HE.out, show decide (lo ≤ hi ∧ hi - lo < 1000 ∧ its.length = 0) = false from decide_eq_false (fun h => by omega)]; rfl), hb⟩
    ·go_wp2_with (first | (go_at_call 156; (with_reducible refine (HN1.out _).mono ?_); rintro e w' ⟨rfl, rfl⟩) | (go_at_call 156; (with_reducible refine (HN2.out _).mono ?_); rintro e w' ⟨rfl, rfl⟩))
     go_ret
     exact ⟨ret_bool (by rw [HE.out, show decide (lo ≤ hi ∧ hi - lo < 1000 ∧ its.length = 0) = false from decide_eq_false (fun h => by omega)]; rfl), hb⟩
 have k2' : (k == 2) = false := by simpa using k2
 by_cases a1 : lo = 0 ∧ hi = 0
 rotate_left
 ·have HE : Hid (varB ⟨nm, k, lo, hi, its⟩ = false) := by
   show varB _ = false
   rw [HV.out]
   by_cases k1 : k = 1
   ·rw [k1, form1]; exact decide_eq_false (fun h => a1 ⟨h.1, h.2.1⟩)
   by_cases k3 : k = 3
   ·rw [k3, form3, show decide (lo = 0 ∧ hi = 0 ∧ 1 ≤ its.length ∧ its.length ≤ 1000) = false from decide_eq_false (fun h => a1 ⟨h.1, h.2.1⟩)]; rfl
   exact form0 k1 k2 k3
  by_cases a2 : lo = 0
  ·have a3 : (hi != 0) = true := by simp; exact fun h => a1 ⟨a2, h⟩
   subst a2
   clear a1 k2
   go_wp2_with fail
   go_ret
   exact ⟨ret_bool HE.out.symm, hb⟩
  ·have a3 : (lo != 0) = true := by simpa using a2
   clear a1 k2
   go_wp2_with fail
   go_ret
   exact ⟨ret_bool HE.out.symm, hb⟩
 obtain ⟨rfl, rfl⟩ := a1
 by_cases k1 : k = 1
 ·subst k1
  have HE : Hid (varB ⟨nm, 1, 0, 0, its⟩ = decide ((0 : Int) = 0 ∧ (0 : Int) = 0 ∧ its.length = 0)) := HV.out.trans form1
  by_cases a3 : its.length = 0
  ·rw [a3] at q4 HE
   go_wp2_with fail
   go_ret
   exact ⟨ret_bool (by rw [HE.out]; simp), hb⟩
  ·have a3' : ((its.length : Int) == 0) = false := by rw [beq_eq_false_iff_ne]; omega
   go_wp2_with fail
   go_ret
   exact ⟨ret_bool (by rw [HE.out]; simp [a3]), hb⟩
 have k1' : (k == 1) = false := by simpa using k1
 by_cases k3 : k = 3
 rotate_left
 ·have k3' : (k != 3) = true := by simpa using k3
  have HE : Hid (varB ⟨nm, k, 0, 0, its⟩ = false) := HV.out.trans (form0 k1 k2 k3)
  clear k1 k2 k3
  go_wp2_with fail
  go_ret
  exact ⟨ret_bool HE.out.symm, hb⟩
 subst k3
 have HE : Hid (varB ⟨nm, 3, 0, 0, its⟩ = (decide ((0 : Int) = 0 ∧ (0 : Int) = 0 ∧ 1 ≤ its.length ∧ its.length ≤ 1000) && its.all textB && onceB (bytesOf its))) := HV.out.trans form3
 clear k1 k2 k1' k2'
 by_cases a3 : its.length < 1
 ·have HE2 : Hid (varB ⟨nm, 3, 0, 0, its⟩ = false) := by
   show varB _ = false
   rw [HE.out, show decide ((0 : Int) = 0 ∧ (0 : Int) = 0 ∧ 1 ≤ its.length ∧ its.length ≤ 1000) = false from decide_eq_false (fun h => by omega)]; rfl
  go_wp2_with fail
  go_ret
  exact ⟨ret_bool HE2.out.symm, hb⟩
 by_cases a4 : 1000 < its.length
 ·have HE2 : Hid (varB ⟨nm, 3, 0, 0, its⟩ = false) := by
   show varB _ = false
   rw [HE.out, show decide ((0 : Int) = 0 ∧ (0 : Int) = 0 ∧ 1 ≤ its.length ∧ its.length ≤ 1000) = false from decide_eq_false (fun h => by omega)]; rfl
  go_wp2_with fail
  go_ret
  exact ⟨ret_bool HE2.out.symm, hb⟩
 have HE2 : Hid (varB ⟨nm, 3, 0, 0, its⟩ = (its.all textB && onceB (bytesOf its))) := by
  show varB _ = _
  rw [HE.out, show decide ((0 : Int) = 0 ∧ (0 : Int) = 0 ∧ 1 ≤ its.length ∧ its.length ≤ 1000) = true from decide_eq_true (by omega)]; rfl
 clear HE HV
 go_wp2_with fail
 clear q0 q1 q2 q3 q4
 go_loopw [3] (fun i wr => ∃ (j : Nat), j ≤ its.length ∧ i = .int .i64 j ∧ Below w1.heap.size w1 wr ∧ FineTo its j) (fun i _ => its.length - (intOf i).toNat)
 case atStart => exact ⟨0, Nat.zero_le _, rfl, Below.refl _ _, fun j _ hj => absurd hj (by omega)⟩
 case round =>
  obtain ⟨j, hj, rfl, hbr, hfine⟩ := hrel
  have HF := Lib.hid hfine
  clear hfine
  have hB1 := hB.now hbr
  have hbw := bthen hb hbr
  obtain ⟨q0, q1, q2, q3, q4⟩ := hB1.c5
  by_cases hjl : j < its.length
  ·have hitm := hit1.now hbr
   obtain ⟨b, o, s, rfl, hD, hx, hf, hcell⟩ := hitm.at_ hjl
   have HX := Lib.hid hx
   clear hx
   have htk := Sl.take_ (k := j) hitm (by omega)
   have j1 : (0 : Int) ≤ j := by omega
   have j2 : (j : Int) < (its.length : Int) := by omega
   have j3 : (j : Int) ≤ (c : Int) := by omega
   have j4 : j ≤ c := by omega
   cases hts : textB s with
   | false =>
    have HT : Hid (∀ q : Nat, Calls Tryz.prog 157 #[.string s] (wr.drewN q) fun e w' => e = .returned (.bool false) ∧ ∃ q', w' = (wr.drewN q).drewN q') :=
     fun q => (text_ref s (wr.drewN q) hf).mono fun e w' ⟨he, hw⟩ => ⟨by rw [he, hts], 0, hw.symm⟩
    have HR := Lib.hid (fine_text HX.out hts)
    clear hts
    go_wp2
    go_quiet ((go_at_call 157; (with_reducible exact Calls.quiet_of (HT.out _))))
    go_wp2
    go_ret
    exact ⟨ret_bool (by rw [HE2.out, HR.out]), bdrawn hbw _⟩
   | true =>
    have HT : Hid (∀ q : Nat, Calls Tryz.prog 157 #[.string s] (wr.drewN q) fun e w' => e = .returned (.bool true) ∧ ∃ q', w' = (wr.drewN q).drewN q') :=
     fun q => (text_ref s (wr.drewN q) hf).mono fun e w' ⟨he, hw⟩ => ⟨by rw [he, hts], 0, hw.symm⟩
    have HTX := Lib.hid hts
    clear hts
    have HI : Hid (∀ q : Nat, Calls Tryz.prog 150 #[.slice (some ⟨b, o, none⟩) j c, .string s] (wr.drewN q) fun e w' => e = .returned (.int .i64 (atS (its.take j) s)) ∧ ∃ q', w' = (wr.drewN q).drewN q') :=
     fun q => (index_ref _ (its.take j) s (wr.drewN q) htk).mono fun e w' ⟨he, hw⟩ => ⟨he, 0, hw.symm⟩
    have HA := Lib.hid (atS_any (its.take j) s)
    generalize atS (its.take j) s = z at *
    cases hts : (its.take j).any (sameS s) with
    | true =>
     have hd : decide (0 ≤ z) = true := by rw [HA.out, hts]
     have hd' : 0 ≤ z := by simpa using hd
     have HR := Lib.hid (fine_twice HX.out hts)
     clear hts
     go_wp2
     go_quiet ((first | (go_at_call 157; (with_reducible exact Calls.quiet_of (HT.out _))) | (go_at_call 150; (with_reducible exact Calls.quiet_of (HI.out _)))))
     go_wp2
     go_ret
     exact ⟨ret_bool (by rw [HE2.out, HR.out]), bdrawn hbw _⟩
    | false =>
     have hd : decide (0 ≤ z) = false := by rw [HA.out, hts]
     have hd' : ¬ 0 ≤ z := by simpa using hd
     have HTS := Lib.hid hts
     clear hts
     go_wp2
     go_quiet ((first | (go_at_call 157; (with_reducible exact Calls.quiet_of (HT.out _))) | (go_at_call 150; (with_reducible exact Calls.quiet_of (HI.out _)))))
     go_wp2
     go_roundw
     case rel =>
      refine ⟨j + 1, by omega, by go_num, below_drewN hbr _, fun i s' hi hs' => ?_⟩
      by_cases e : i = j
      ·subst e; rw [HX.out] at hs'; injection hs' with hs'; subst hs'; exact ⟨HTX.out, HTS.out⟩
      ·exact HF.out i s' (by omega) hs'
     case measure => simp [intOf]; omega
  ·obtain rfl : j = its.length := by omega
   have HR := Lib.hid (fine_all HF.out)
   go_wp2_with fail
   go_ret
   exact ⟨ret_bool (by rw [HE2.out, HR.out]), hbw⟩
structure Tame (x : Var) : Prop where
 lo : -4503599627370496 ≤ x.low ∧ x.low ≤ 4503599627370496
 hi : -4503599627370496 ≤ x.high ∧ x.high ≤ 4503599627370496
 dom : x.kind = 2 → x.low ≤ x.high ∧ x.high - x.low < 1000
 kind : x.kind = 1 ∨ x.kind = 2 ∨ x.kind = 3
 items : x.kind = 3 → 1 ≤ x.items.length ∧ x.items.length ≤ 1000
theorem tame_of {x : Var} (h : varB x = true) : Tame x := by
 have hf : formB x = true := by unfold varB at h; simp only [Bool.and_eq_true] at h; exact h.2
 obtain ⟨nm, k, lo, hi, its⟩ := x
 by_cases k1 : k = 1
 ·subst k1
  rw [form1] at hf
  simp only [decide_eq_true_eq] at hf
  obtain ⟨rfl, rfl, _⟩ := hf
  exact ⟨by simp, by simp, by simp, by simp, by simp⟩
 by_cases k2 : k = 2
 ·subst k2
  rw [form2] at hf
  simp only [Bool.and_eq_true, decide_eq_true_eq] at hf
  exact ⟨num_bounds hf.1.1, num_bounds hf.1.2, fun _ => ⟨hf.2.1, hf.2.2.1⟩, by simp, by simp⟩
 by_cases k3 : k = 3
 ·subst k3
  rw [form3] at hf
  simp only [Bool.and_eq_true, decide_eq_true_eq] at hf
  obtain ⟨rfl, rfl, h1, h2⟩ := hf.1.1
  exact ⟨by simp, by simp, by simp, by simp, fun _ => ⟨h1, h2⟩⟩
 ·rw [form0 k1 k2 k3] at hf; cases hf
set_option maxHeartbeats 2000000 in
theorem rank_ref (x : Var) (v : Val) (u : Value) (w : World) (h : IsVar (Lt w.heap.size) w u x) (ht : Tame x) (hv : FitV v) :
  Calls Tryz.prog 111 #[u, valV v] w fun e w' => e = .returned (.int .i64 (placeV x v)) ∧ Below w.heap.size w w' := by
 obtain ⟨nm, k, lo, hi, its⟩ := x
 obtain ⟨vk, vn, vs⟩ := v
 obtain ⟨⟨l1, l2⟩, ⟨l3, l4⟩, ld, lk, li⟩ := ht
 obtain ⟨iv, rfl, hnm, f1, f2, f3, hit⟩ := h
 obtain ⟨g1, g2, g3⟩ := hv
 unfold Fit at f1 f2 f3 g1 g2
 unfold valV
 dsimp only at hnm f1 f2 f3 hit l1 l2 l3 l4 ld lk li g1 g2 g3 ⊢
 obtain ⟨A, c, rfl, i1, i2, hit⟩ := hit.open_
 have hb := bbox (bone w (.cells #[.string nm, .int .i64 k, .int .i64 lo, .int .i64 hi, .slice A its.length c] 117)) (.cells #[.int .i64 vk, .int .i64 vn, .string vs] 63)
 have hit2 := hit.now hb
 have HP : Hid (placeV ⟨nm, k, lo, hi, its⟩ ⟨vk, vn, vs⟩ = if vk ≠ k then -1 else if k = 1 then vn else if k = 3 then atS its vs else if vn < lo ∨ hi < vn then -1 else vn - lo) := rfl
 go_enter Tryz.func111, Tryz.ntmps111
 by_cases a1 : vk = k
 rotate_left
 ·have a1' : (vk != k) = true := by simpa using a1
  have HE := Lib.hid (HP.out.trans (if_pos a1))
  clear a1
  go_wp2_with fail
  go_ret
  exact ⟨ret_int HE.out.symm, hb⟩
 subst a1
 have a1' : (vk != vk) = false := by simp
 have HE := Lib.hid (HP.out.trans (if_neg (fun h => h rfl)))
 rcases lk with rfl | rfl | rfl
 ·go_wp2_with fail
  go_ret
  exact ⟨ret_int HE.out.symm, hb⟩
 ·by_cases b1 : vn < lo
  ·have HE2 := Lib.hid (HE.out.trans (show _ = (-1 : Int) by simp [b1]))
   go_wp2_with fail
   go_ret
   exact ⟨ret_int HE2.out.symm, hb⟩
  by_cases b2 : hi < vn
  ·have HE2 := Lib.hid (HE.out.trans (show _ = (-1 : Int) by simp [b2]))
   go_wp2_with fail
   go_ret
   exact ⟨ret_int HE2.out.symm, hb⟩
  have HE2 := Lib.hid (HE.out.trans (show _ = vn - lo by simp [b1, b2]))
  go_wp2_with fail
  go_ret
  exact ⟨ret_int HE2.out.symm, hb⟩
 ·go_wp2_with fail
  refine (index_ref _ its vs _ hit2).mono ?_
  rintro e w' ⟨rfl, rfl⟩
  go_wp2_with fail
  go_ret
  exact ⟨ret_int HE.out.symm, hb⟩
theorem idxFrom_eq (x : ByteArray) : ∀ (zs : List ByteArray) (i : Nat), Lib.idxFromS zs x i = match zs.findIdx? (fun y => y.toList == x.toList) with | some k => ((i + k : Nat) : Int) | none => -1 := by
 intro zs
 induction zs with
 | nil => intro i; rfl
 | cons z zs ih =>
  intro i
  unfold Lib.idxFromS
  by_cases h : z = x
  ·subst h
   have h1 : (z.toList == z.toList) = true := by simp
   rw [List.findIdx?_cons, h1, if_pos rfl, if_pos rfl]
   simp
  ·have h2 : (z.toList == x.toList) = false := by
    rw [beq_eq_false_iff_ne]
    intro e
    rw [Lib.toList_data, Lib.toList_data] at e
    apply h
    cases z; cases x
    congr 1
    exact Array.toList_inj.1 e
   rw [if_neg h, ih (i + 1), List.findIdx?_cons, h2]
   cases zs.findIdx? (fun y => y.toList == x.toList) with
   | none => rfl
   | some k =>
    show ((i + 1 + k : Nat) : Int) = ((i + (k + 1) : Nat) : Int)
    congr 1
    omega
theorem idxOf_eq (zs : List ByteArray) (x : ByteArray) : Lib.idxOfS zs x = atS zs x := by
 unfold Lib.idxOfS atS
 rw [idxFrom_eq]
 cases zs.findIdx? (fun y => y.toList == x.toList) with
 | none => rfl
 | some k => simp
theorem indexS_any (v : Value) (xs : List ByteArray) (x : ByteArray) (w : World) (hu : SlS (Lt w.heap.size) w v xs) :
  Calls Tryz.prog 163 #[v, .string x] w fun e w' => e = .returned (.int .i64 (atS xs x)) ∧ w = w' := by
 obtain ⟨A, c, rfl, h1, h2, hu⟩ := hu.open_
 by_cases hn : 0 < xs.length
 ·obtain ⟨b, o, rfl, hD, _, hc⟩ := hu.cells hn
  refine (Tryz.slices_Index_string b o xs.length c xs x w (Nat.le_refl _) (by omega) hc).mono ?_
  rintro e w' ⟨rfl, hq⟩
  rw [List.take_of_length_le (Nat.le_refl _), idxOf_eq]
  exact ⟨rfl, hq.symm⟩
 ·have : xs = [] := List.eq_nil_of_length_eq_zero (by omega)
  subst this
  refine (Tryz.slices_Index_string_empty A c x w).mono ?_
  rintro e w' ⟨rfl, hq⟩
  rw [idxOf_eq]
  exact ⟨rfl, hq.symm⟩
set_option maxHeartbeats 2000000 in
theorem place_any (x : Var) (v : Val) (u : Value) (w : World) (h : IsVar (Lt w.heap.size) w u x) (ht : Tame x) (hv : FitV v) :
  Calls Tryz.prog 137 #[u, valV v] w fun e w' => e = .returned (.int .i64 (placeV x v)) ∧ Below w.heap.size w w' := by
 obtain ⟨nm, k, lo, hi, its⟩ := x
 obtain ⟨vk, vn, vs⟩ := v
 obtain ⟨⟨l1, l2⟩, ⟨l3, l4⟩, ld, lk, li⟩ := ht
 obtain ⟨iv, rfl, hnm, f1, f2, f3, hit⟩ := h
 obtain ⟨g1, g2, g3⟩ := hv
 unfold Fit at f1 f2 f3 g1 g2
 unfold valV
 dsimp only at hnm f1 f2 f3 hit l1 l2 l3 l4 ld lk li g1 g2 g3 ⊢
 obtain ⟨A, c, rfl, i1, i2, hit⟩ := hit.open_
 have hb := bbox (bone w (.cells #[.string nm, .int .i64 k, .int .i64 lo, .int .i64 hi, .slice A its.length c] 117)) (.cells #[.int .i64 vk, .int .i64 vn, .string vs] 63)
 have hit2 := hit.now hb
 have HP : Hid (placeV ⟨nm, k, lo, hi, its⟩ ⟨vk, vn, vs⟩ = if vk ≠ k then -1 else if k = 1 then vn else if k = 3 then atS its vs else if vn < lo ∨ hi < vn then -1 else vn - lo) := rfl
 go_enter Tryz.func137, Tryz.ntmps137
 by_cases a1 : vk = k
 rotate_left
 ·have a1' : (vk != k) = true := by simpa using a1
  have HE := Lib.hid (HP.out.trans (if_pos a1))
  clear a1
  go_wp2_with fail
  go_ret
  exact ⟨ret_int HE.out.symm, hb⟩
 subst a1
 have a1' : (vk != vk) = false := by simp
 have HE := Lib.hid (HP.out.trans (if_neg (fun h => h rfl)))
 rcases lk with rfl | rfl | rfl
 ·go_wp2_with fail
  go_ret
  exact ⟨ret_int HE.out.symm, hb⟩
 ·by_cases b1 : vn < lo
  ·have HE2 := Lib.hid (HE.out.trans (show _ = (-1 : Int) by simp [b1]))
   go_wp2_with fail
   go_ret
   exact ⟨ret_int HE2.out.symm, hb⟩
  by_cases b2 : hi < vn
  ·have HE2 := Lib.hid (HE.out.trans (show _ = (-1 : Int) by simp [b2]))
   go_wp2_with fail
   go_ret
   exact ⟨ret_int HE2.out.symm, hb⟩
  have HE2 := Lib.hid (HE.out.trans (show _ = vn - lo by simp [b1, b2]))
  go_wp2_with fail
  go_ret
  exact ⟨ret_int HE2.out.symm, hb⟩
 ·go_wp2_with fail
  refine (indexS_any _ its vs _ hit2).mono ?_
  rintro e w' ⟨rfl, rfl⟩
  go_wp2_with fail
  go_ret
  exact ⟨ret_int HE.out.symm, hb⟩
end Go.Proofs.YtlmenhjlgmejkaaGreatDoor
namespace Go.Proofs.YtlmenhjlgmejkaaGreatDoor
open Go.RowKit Go.Maps Go.WideMaps
section
variable {P : Program} {t k e : TypeId}
theorem plainElem_bool_inv (he : P.underlying e = some .bool) {v : Value} {z : DataW Unit × List MemPlace} (h : plainElem P e v = some z) : ∃ a, v = .bool a ∧ z = (.lit (.bool a), []) := by
 unfold plainElem at h
 rw [he] at h
 cases v <;> simp at h
 subst h
 exact ⟨_, rfl, rfl⟩
def SetP (P : Program) (k e : TypeId) (w : World) (b n : Nat) (l : List (List UInt8)) : Prop :=
 ∃ D : DataW Unit, w.ownsMap P k (plainElem P e) b n D ∧ IsMap D ∧ ∀ s : List UInt8, D.atKey (.string s) (.lit (.bool false)) = .lit (.bool (decide (s ∈ l)))
theorem SetP.made (w : World) : SetP P k e (w.alloc (.map #[] 0)) w.heap.size 0 [] :=
 ⟨.map [], World.ownsMap_made w _ _ _, isMap_empty, fun s => by rw [show decide (s ∈ ([] : List (List UInt8))) = false by simp]; rfl⟩
theorem SetP.now {w w' : World} {b n : Nat} {l : List (List UInt8)} (h : SetP P k e w b n l) (hb : Below w.heap.size w w') : SetP P k e w' b n l := by
 obtain ⟨D, h1, h2, h3⟩ := h
 exact ⟨D, h1.kept (grown_of_below hb none) (by simp), h2, h3⟩
theorem SetP.lt {w : World} {b n : Nat} {l : List (List UInt8)} (h : SetP P k e w b n l) : b < w.heap.size := by
 obtain ⟨D, h1, h2, h3⟩ := h
 exact h1.lt
theorem SetP.look {w : World} {b n : Nat} {l : List (List UInt8)} (h : SetP P k e w b n l) (ht : P.underlying t = some (.map k e)) (hk : P.underlying k = some .string) (he : P.underlying e = some .bool) (hz : (zeroValue e).run P w = .ok (.bool false) w) {s : ByteArray} (hs : s.size ≤ maxLen) :
  (Instr.lookup t (.map (some b)) (.string s) false).run P w = .ok (.bool (decide (s.data.toList ∈ l))) w := by
 obtain ⟨D, h1, h2, h3⟩ := h
 obtain ⟨v, ps, hrun, hv⟩ := h1.lookup (string_keyed hk) ht hz (plainElem_bool he false) (keyOf_string_mk hk hs)
 obtain ⟨c, rfl, hc⟩ := plainElem_bool_inv he hv
 rw [h3] at hc
 simp only [Prod.mk.injEq, DataW.lit.injEq, Lit.bool.injEq] at hc
 rw [hc.1]
 exact hrun
theorem SetP.put {w : World} {b n : Nat} {l : List (List UInt8)} (h : SetP P k e w b n l) (ht : P.underlying t = some (.map k e)) (hk : P.underlying k = some .string) (he : P.underlying e = some .bool) {s : ByteArray} (hs : s.size ≤ maxLen) (hn : n < maxLen) :
  ∃ w', (Instr.mapUpdate t (.map (some b)) (.string s) (.bool true)).run P w = .ok () w' ∧ SetP P k e w' b (n + 1) (l ++ [s.data.toList]) ∧ w.grownBy w' (some b) := by
 obtain ⟨D, h1, h2, h3⟩ := h
 obtain ⟨w', r0, r1, r2⟩ := h1.update (string_keyed hk) ht hn (keyOf_string_mk hk hs) (plainElem_bool he true)
 refine ⟨w', r0, ⟨_, r1, h2.put _ _, fun t => ?_⟩, r2⟩
 by_cases e : t = s.data.toList
 ·subst e
  rw [atKey_put_same h2 (by simp [WideAt.IsKeyLit])]
  simp
 ·rw [atKey_put_other (by simpa using e), h3]
  simp [e]
end
def SetS := SetP Tryz.prog 9 4
theorem SetS.made (w : World) : SetS (w.alloc (.map #[] 0)) w.heap.size 0 [] := SetP.made w
theorem SetS.now {w w' : World} {b n : Nat} {l : List (List UInt8)} (h : SetS w b n l) (hb : Below w.heap.size w w') : SetS w' b n l := SetP.now h hb
theorem SetS.lt {w : World} {b n : Nat} {l : List (List UInt8)} (h : SetS w b n l) : b < w.heap.size := SetP.lt h
theorem SetS.look {w : World} {b n : Nat} {l : List (List UInt8)} (h : SetS w b n l) {s : ByteArray} (hs : s.size ≤ maxLen) :
  (Instr.lookup 201 (.map (some b)) (.string s) false).run Tryz.prog w = .ok (.bool (decide (s.data.toList ∈ l))) w :=
 SetP.look h Tryz.underlying201 Tryz.underlying9 Tryz.underlying4 (by kernel_rfl) hs
theorem SetS.store {w : World} {ops : Array Oper} {rest : List Oper} {o : Oper} {a : Act} {Q : Exit → Act → World → Prop} {b n : Nat} {l : List (List UInt8)} {s : ByteArray}
  (h : SetS w b n l) (hs : s.size ≤ maxLen) (hn : n < maxLen) (hg : o.guard = none) (m x v : Operand) (hop : o.op = Op.mapUpdate 201 m x v)
  (hm : a.eval m = .map (some b)) (hx : a.eval x = .string s) (hv : a.eval v = .bool true)
  (hK : ∀ w', SetS w' b (n + 1) (l ++ [s.data.toList]) → w.grownBy w' (some b) → wpList Tryz.prog ops Q rest (a.put o.dst undef) w') :
  wpList Tryz.prog ops Q (o :: rest) a w := by
 refine wpList_plain hg fun K' hK' => ?_
 obtain ⟨w', hrun, r1, r2⟩ := SetP.put h Tryz.underlying201 Tryz.underlying9 Tryz.underlying4 hs hn
 unfold Oper.wp
 simp [execOp, hop, hm, hx, hv, hrun, Result.andThen]
 exact hK' _ _ (hK w' r1 r2)
end Go.Proofs.YtlmenhjlgmejkaaGreatDoor
namespace Go.Proofs.YtlmenhjlgmejkaaGreatDoor
open Go.RowKit
section
variable {α : Type} {fc : α → List Value} {size : Nat}
def flat (fc : α → List Value) (xs : List α) : List Value := xs.flatMap fc
theorem flat_len (hfc : ∀ x, (fc x).length = size) (xs : List α) : (flat fc xs).length = xs.length * size := by
 induction xs with
 | nil => simp [flat]
 | cons x xs ih =>
  have : flat fc (x :: xs) = fc x ++ flat fc xs := rfl
  rw [this, List.length_append, hfc, ih, List.length_cons, Nat.succ_mul]; omega
theorem flat_get (hfc : ∀ x, (fc x).length = size) (xs : List α) : ∀ (i j : Nat) (x : α), xs[i]? = some x → j < size → (flat fc xs)[i * size + j]? = (fc x)[j]? := by
 induction xs with
 | nil => intro i j x hx; simp at hx
 | cons y xs ih =>
  intro i j x hx hj
  have e : flat fc (y :: xs) = fc y ++ flat fc xs := rfl
  rw [e]
  cases i with
  | zero =>
   injection hx with hx; subst hx
   rw [Nat.zero_mul, Nat.zero_add, List.getElem?_append_left (by rw [hfc]; exact hj)]
  | succ i =>
   rw [List.getElem?_append_right (by rw [hfc, Nat.succ_mul]; omega), hfc]
   have : (i + 1) * size + j - size = i * size + j := by rw [Nat.succ_mul]; omega
   rw [this]
   exact ih i j x (by simpa using hx) hj
theorem flat_at (hfc : ∀ x, (fc x).length = size) (hs : 0 < size) (xs : List α) {j : Nat} {u : Value} (h : (flat fc xs)[j]? = some u) : ∃ i r x, j = i * size + r ∧ r < size ∧ xs[i]? = some x ∧ (fc x)[r]? = some u := by
 have hj : j < xs.length * size := by
  rw [← flat_len hfc]
  rcases Nat.lt_or_ge j (flat fc xs).length with h' | h'
  ·exact h'
  ·rw [List.getElem?_eq_none h'] at h; cases h
 have hi : j / size < xs.length := Nat.div_lt_of_lt_mul (by rw [Nat.mul_comm]; exact hj)
 have hr : j % size < size := Nat.mod_lt _ hs
 have e : j = j / size * size + j % size := by rw [Nat.mul_comm]; exact (Nat.div_add_mod j size).symm
 refine ⟨j / size, j % size, xs[j / size], e, hr, List.getElem?_eq_getElem hi, ?_⟩
 rw [← flat_get hfc xs (j / size) (j % size) _ (List.getElem?_eq_getElem hi) hr, ← e]
 exact h
theorem flat_append (xs ys : List α) : flat fc (xs ++ ys) = flat fc xs ++ flat fc ys := by simp [flat]
def OwnW (size : Nat) (fc : α → List Value) (w : World) (base t : Nat) (v : Value) (xs : List α) : Prop := w.ownsRow base t size v xs.length (flat fc xs)
variable {R : ElemR α} {w w' : World} {base t : Nat} {v : Value} {xs : List α}
theorem OwnW.nil : OwnW size fc w base t (.slice none 0 0) ([] : List α) := World.ownsRow_nil _ _ _ _
theorem OwnW.now (h : OwnW size fc w base t v xs) (hb : Below w.heap.size w w') : OwnW size fc w' base t v xs := own_now h hb
theorem OwnW.sl (h : OwnW size fc w base t v xs) (hfc : ∀ x, (fc x).length = size) (hR : ∀ D w x, x ∈ xs → R D w x (fc x)) : Sl size R (Lt w.heap.size) w v xs :=
 Sl.of_own h rfl (own_lt h) fun i x hx => ⟨fc x, hfc x, fun j u hu => by
  have hj : j < size := by
   rw [← hfc x]
   rcases Nat.lt_or_ge j (fc x).length with h' | h'
   ·exact h'
   ·rw [List.getElem?_eq_none h'] at hu; cases hu
  rw [flat_get hfc xs i j x hx hj]; exact hu, hR _ _ x (List.mem_of_getElem? hx)⟩
theorem OwnW.form (h : OwnW size fc w base t v xs) (hn : 0 < xs.length) : ∃ g cap, v = .slice (some ⟨g, 0, none⟩) xs.length cap ∧ xs.length ≤ cap ∧ base ≤ g ∧ g < w.heap.size := by
 have hl := World.ownsRow.lt h
 rcases h.2 with ⟨_, h0⟩ | ⟨g, cap, cur, rfl, hb, hg, hc, hm, hs, htake⟩
 ·omega
 ·exact ⟨g, cap, rfl, hc, hb, (hl g rfl).2⟩
theorem wp_appendAllW {P : Program} {e : Nat} {D : Nat → Prop} {o : Oper} {a : Act} {K : Act → World → Prop} {Q : Exit → Act → World → Prop} (hI : AppInfo P t e size) (s x : Operand)
  (ho : o.op = .call { callee := .builtin .append, args := #[s, x], argTypes := #[t, t] }) (w : World) (hfc : ∀ x, (fc x).length = size) (xs : List α)
  (v : Value) (hs : a.eval s = v) (hown : OwnW size fc w base e v xs) (u : Value) (ys : List α) (hx : a.eval x = u) (hu : Sl size R D w u ys) (hf : ∀ y c, R D w y c → c = fc y) (h1 : ∀ y, ∀ u ∈ fc y, u.oneCell' = true) (hn : xs.length + ys.length < 10000000) (hbase : base ≤ w.heap.size)
  (h : ∀ v' w', OwnW size fc w' base e v' (xs ++ ys) → w.grownBy w' v.ownBlock → (v'.ownBlock = v.ownBlock ∨ v'.ownBlock = some w.heap.size) → K (a.put o.dst v') w') : o.wp P a w K Q := by
 obtain ⟨i, z, ht, hi, hz, hsz, hby, hzs, hp⟩ := hI
 obtain ⟨A, c, rfl, hc1, hc2, hu⟩ := hu.open_
 unfold OwnW at hown
 have key : ∃ v' w', (Builtin.append_ #[t, t] o.type #[v, .slice A ys.length c]).run P w = .ok v' w' ∧ OwnW size fc w' base e v' (xs ++ ys) ∧ w.grownBy w' v.ownBlock ∧ (v'.ownBlock = v.ownBlock ∨ v'.ownBlock = some w.heap.size) := by
  unfold OwnW
  rw [flat_append, List.length_append]
  rcases Nat.eq_zero_or_pos ys.length with h0 | h0
  ·have : ys = [] := List.eq_nil_of_length_eq_zero h0
   subst this
   rcases A with _ | ad
   ·refine ⟨v, w, ?_, by simpa [flat] using hown, World.grownBy.refl w _, .inl rfl⟩
    rcases hown.2 with ⟨rfl, h0⟩ | ⟨g, cap, cur, rfl, _, _, hnc, _⟩
    ·simp [Builtin.append_, run_underlying ht, sizeOf, typeInfo, hi, Builtin.lenOf, Builtin.firstCells]
    ·simp [Builtin.append_, run_underlying ht, sizeOf, typeInfo, hi, Builtin.lenOf, Builtin.firstCells, hnc, storeCells]
   ·obtain ⟨v', w', hrun, h2, h3, _, h5⟩ := run_append_own_at (P := P) w base t o.type e i z size i.bytes ht hi hz hsz rfl hzs hp v _ _ hown ad 0 c [] (by simp) (fun j u hj => by simp at hj) (by simp) (by unfold maxLen; simp at hn; omega) (by
     have : (xs.length + 0) * i.bytes ≤ 10000000 * 4096 := Nat.mul_le_mul (by simp at hn; omega) hby
     omega) hbase
    exact ⟨v', w', hrun, h2, h3, h5⟩
  ·obtain ⟨_, _, _, h3⟩ := hu
   have hrow : ∃ b off, A = some ⟨b, off, none⟩ ∧ ∀ j u, (flat fc ys)[j]? = some u → w.cell? ⟨b, off + j, none⟩ = some u := by
    obtain ⟨A', c', hv, _, _, h3⟩ := (show Sl size R D w (.slice A ys.length c) ys from ‹_›)
    injection hv with hA _ _
    subst hA
    obtain ⟨b, off, _, hA, _⟩ := h3 0 ys[0] (List.getElem?_eq_getElem h0)
    refine ⟨b, off, hA, fun j u hj => ?_⟩
    obtain ⟨i, r, y, rfl, hr, hy, hfu⟩ := flat_at hfc (by omega) ys hj
    obtain ⟨b', off', cs, hA', _, _, hR, hcell⟩ := h3 i y hy
    rw [hA] at hA'
    injection hA' with hA'
    injection hA' with e1 e2 _
    subst e1 e2
    rw [hf y cs hR] at hcell
    have := hcell r u hfu
    rwa [Nat.add_assoc] at this
   obtain ⟨b, off, rfl, hc⟩ := hrow
   obtain ⟨v', w', hrun, h2, h3, _, h5⟩ := run_append_own_at (P := P) w base t o.type e i z size i.bytes ht hi hz hsz rfl hzs hp v _ _ hown ⟨b, off, none⟩ ys.length c (flat fc ys) (flat_len hfc ys) (fun j u hj => by
     have : ((⟨b, off, none⟩ : Addr).add j) = ⟨b, off + j, none⟩ := by unfold Addr.add; by_cases hj : j = 0 <;> simp [hj]
     rw [this]; exact hc j u hj) (by intro u hu; obtain ⟨y, _, hy⟩ := List.mem_flatMap.1 hu; exact h1 y u hy) (by unfold maxLen; omega) (by
     have : (xs.length + ys.length) * i.bytes ≤ 10000000 * 4096 := Nat.mul_le_mul (by omega) hby
     omega) hbase
   exact ⟨v', w', hrun, h2, h3, h5⟩
 obtain ⟨v', w', hrun, h2, h3, h5⟩ := key
 unfold Oper.wp execOp
 simp only [ho, resolve, invoke, builtin, Sem.run_bind, Sem.run_pure, Result.andThen_ok, List.map_toArray, List.map_cons, List.map_nil, hs, hx, hrun]
 exact h v' w' h2 h3 h5
theorem wpList_appendAllW {P : Program} {e : Nat} {D : Nat → Prop} {ops : Array Oper} {rest : List Oper} {o : Oper} {a : Act} {Q : Exit → Act → World → Prop} (hI : AppInfo P t e size) (hgd : o.guard = none) (s x : Operand)
  (ho : o.op = .call { callee := .builtin .append, args := #[s, x], argTypes := #[t, t] }) (w : World) (hfc : ∀ x, (fc x).length = size) (xs : List α)
  (v : Value) (hs : a.eval s = v) (hown : OwnW size fc w base e v xs) (u : Value) (ys : List α) (hx : a.eval x = u) (hu : Sl size R D w u ys) (hf : ∀ y c, R D w y c → c = fc y) (h1 : ∀ y, ∀ u ∈ fc y, u.oneCell' = true) (hn : xs.length + ys.length < 10000000) (hbase : base ≤ w.heap.size)
  (h : ∀ v' w', OwnW size fc w' base e v' (xs ++ ys) → w.grownBy w' v.ownBlock → (v'.ownBlock = v.ownBlock ∨ v'.ownBlock = some w.heap.size) → wpList P ops Q rest (a.put o.dst v') w') : wpList P ops Q (o :: rest) a w :=
 wpList_plain hgd fun _ hK => wp_appendAllW hI s x ho w hfc xs v hs hown u ys hx hu hf h1 hn hbase fun v' w' h2 h3 h4 => hK _ _ (h v' w' h2 h3 h4)
theorem wpList_pushW {P : Program} {e : Nat} {ops : Array Oper} {rest : List Oper} {o : Oper} {a : Act} {Q : Exit → Act → World → Prop} (hI : AppInfo P t e size) (hgd : o.guard = none) (s x : Operand)
  (ho : o.op = .call { callee := .builtin .append, args := #[s, x], argTypes := #[t, t] }) (w0 : World) (y : α) (xs : List α) (hfc : (fc y).length = size) (h1 : ∀ u ∈ fc y, u.oneCell' = true)
  (v : Value) (hs : a.eval s = v) (hown : OwnW size fc w0 base e v xs) (hx : a.eval x = .slice (some ⟨w0.heap.size, 0, none⟩) 1 1) (hn : xs.length < 10000000) (hbase : base ≤ w0.heap.size)
  (h : ∀ v' w', OwnW size fc w' base e v' (xs ++ [y]) → w0.grownBy w' v.ownBlock → (v'.ownBlock = v.ownBlock ∨ v'.ownBlock = some (w0.heap.size + 1)) → wpList P ops Q rest (a.put o.dst v') w') : wpList P ops Q (o :: rest) a (w0.alloc (.cells (fc y).toArray e)) :=
 wpList_push hI hgd s x ho w0 (fc y) hfc h1 v xs.length (flat fc xs) hs hown hx hn hbase fun v' w' h2 h3 h4 => h v' w' (by
  unfold OwnW
  rw [flat_append, List.length_append]
  simpa [flat] using h2) h3 h4
end
end Go.Proofs.YtlmenhjlgmejkaaGreatDoor
