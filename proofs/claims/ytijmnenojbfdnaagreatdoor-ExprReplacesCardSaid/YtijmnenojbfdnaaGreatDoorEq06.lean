/- Texts of this seat, merged. -/
import Derived.Deep.RegionHeld3
import Derived.Deep.QuietTactic
import Derived.BigQuiet
import Derived.Test.YtijmnenojbfdnaaGreatDoorEq01
import Derived.Test.YtijmnenojbfdnaaGreatDoorEq02
import Derived.Test.YtijmnenojbfdnaaGreatDoorEq03
import Derived.Test.YtijmnenojbfdnaaGreatDoorEq04
import Derived.Test.YtijmnenojbfdnaaGreatDoorEq05
set_option linter.unusedSimpArgs false
set_option linter.unusedVariables false
namespace Go.Proofs.YtijmnenojbfdnaaGreatDoor
open Go.RowKit
theorem varB_no {x : Var} (h : isNameB x.name = false) : varB x = false := by unfold varB; rw [h]; rfl
theorem varB_yes {x : Var} (h : isNameB x.name = true) : varB x = formB x := by unfold varB; rw [h]; rfl
theorem form1 {nm : ByteArray} {lo hi : Int} {its : List ByteArray} : formB ⟨nm, 1, lo, hi, its⟩ = decide (lo = 0 ∧ hi = 0 ∧ its.length = 0) := rfl
theorem form2 {nm : ByteArray} {lo hi : Int} {its : List ByteArray} : formB ⟨nm, 2, lo, hi, its⟩ = (numB lo && numB hi && decide (lo ≤ hi ∧ hi - lo < 1000 ∧ its.length = 0)) := rfl
theorem form3 {nm : ByteArray} {lo hi : Int} {its : List ByteArray} : formB ⟨nm, 3, lo, hi, its⟩ = (decide (lo = 0 ∧ hi = 0 ∧ 1 ≤ its.length ∧ its.length ≤ 1000) && its.all textB && onceB (bytesOf its)) := rfl
theorem form0 {nm : ByteArray} {k lo hi : Int} {its : List ByteArray} (h1 : k ≠ 1) (h2 : k ≠ 2) (h3 : k ≠ 3) : formB ⟨nm, k, lo, hi, its⟩ = false := by unfold formB; simp [h1, h2, h3]
theorem num_bounds {n : Int} (h : numB n = true) : -4503599627370496 ≤ n ∧ n ≤ 4503599627370496 := by unfold numB at h; simpa using h
theorem any_not_allT (l : List ByteArray) : (l.any fun x => !textB x) = !l.all textB := by
  induction l with
  | nil => rfl
  | cons a m ih => simp [List.any_cons, List.all_cons, ih]
set_option maxHeartbeats 2000000 in
set_option maxRecDepth 100000 in
theorem validVar_any (x : Var) (u : Value) (w : World) (h : IsVar (Lt w.heap.size) w u x) :
    Calls Tryz.prog 125 #[u] w fun e w' => e = .returned (.bool (varB x)) ∧ Below w.heap.size w w' := by
  obtain ⟨nm, k, lo, hi, its⟩ := x
  obtain ⟨iv, rfl, hnm, f1, f2, f3, hit⟩ := h
  dsimp only at hnm f1 f2 f3 hit ⊢
  obtain ⟨A, c, rfl, i1, i2, hit⟩ := hit.open_
  have hb := bone w (.cells #[.string nm, .int .i64 k, .int .i64 lo, .int .i64 hi, .slice A its.length c] 68)
  have hB := Blk.new w 68 #[.string nm, .int .i64 k, .int .i64 lo, .int .i64 hi, .slice A its.length c]
  have hit1 := hit.now hb
  go_enter Tryz.func125, Tryz.ntmps125
  go_upto_region 1 with fail
  generalize hw1 : w.alloc (.cells #[.string nm, .int .i64 k, .int .i64 lo, .int .i64 hi, .slice A its.length c] 68) = w1 at *
  clear hw1
  obtain ⟨q0, q1, q2, q3, q4⟩ := hB.c5
  have hlt := hB.lt
  go_wp2_with fail
  refine (isName_any nm _ hnm).mono ?_
  rintro e w' ⟨rfl, rfl⟩
  generalize hq : isNameB nm = q
  have HQ := Lib.hid hq
  clear hq
  cases q
  · have HE : Hid (varB ⟨nm, k, lo, hi, its⟩ = false) := varB_no HQ.out
    go_wp2_with fail
    go_ret
    exact ⟨ret_bool HE.out.symm, hb⟩
  have HV : Hid (varB ⟨nm, k, lo, hi, its⟩ = formB ⟨nm, k, lo, hi, its⟩) := varB_yes HQ.out
  by_cases k1 : k = 1
  · subst k1
    have HE : Hid (varB ⟨nm, 1, lo, hi, its⟩ = decide (lo = 0 ∧ hi = 0 ∧ its.length = 0)) := HV.out.trans form1
    by_cases a1 : lo = 0
    · subst a1
      by_cases a2 : hi = 0
      · subst a2
        by_cases a3 : its.length = 0
        · rw [a3] at q4 HE
          go_wp2_with fail
          go_ret
          exact ⟨ret_bool (by rw [HE.out]; simp), hb⟩
        · have a3' : ((its.length : Int) == 0) = false := by rw [beq_eq_false_iff_ne]; omega
          go_wp2_with fail
          go_ret
          exact ⟨ret_bool (by rw [HE.out]; simp [a3]), hb⟩
      · have a2' : (hi == 0) = false := by simpa using a2
        go_wp2_with fail
        go_ret
        exact ⟨ret_bool (by rw [HE.out]; simp [a2]), hb⟩
    · have a1' : (lo == 0) = false := by simpa using a1
      go_wp2_with fail
      go_ret
      exact ⟨ret_bool (by rw [HE.out]; simp [a1]), hb⟩
  have k1' : (k == 1) = false := by simpa using k1
  by_cases k2 : k = 2
  · subst k2
    have HE : Hid (varB ⟨nm, 2, lo, hi, its⟩ = (numB lo && numB hi && decide (lo ≤ hi ∧ hi - lo < 1000 ∧ its.length = 0))) := HV.out.trans form2
    have HN := Lib.hid (fun n w => number_any n w)
    go_upto_region 7 with fail
    cases hn1 : numB lo with
    | false =>
      have HN1 : Hid (∀ w, Calls Tryz.prog 153 #[.int .i64 lo] w fun e w' => e = .returned (.bool false) ∧ w = w') := fun w => by rw [← hn1]; exact number_any lo w
      rw [hn1] at HE
      clear hn1
      go_wp2_with (go_at_call 153; refine (HN1.out _).mono ?_; rintro e w' ⟨rfl, rfl⟩)
      go_ret
      exact ⟨ret_bool (by rw [HE.out]; rfl), hb⟩
    | true =>
      have HN1 : Hid (∀ w, Calls Tryz.prog 153 #[.int .i64 lo] w fun e w' => e = .returned (.bool true) ∧ w = w') := fun w => by rw [← hn1]; exact number_any lo w
      obtain ⟨b1, b2⟩ := num_bounds hn1
      rw [hn1] at HE
      clear hn1
      cases hn2 : numB hi with
      | false =>
        have HN2 : Hid (∀ w, Calls Tryz.prog 153 #[.int .i64 hi] w fun e w' => e = .returned (.bool false) ∧ w = w') := fun w => by rw [← hn2]; exact number_any hi w
        rw [hn2] at HE
        clear hn2
        go_wp2_with (first | (go_at_call 153; (with_reducible refine (HN1.out _).mono ?_); rintro e w' ⟨rfl, rfl⟩) | (go_at_call 153; (with_reducible refine (HN2.out _).mono ?_); rintro e w' ⟨rfl, rfl⟩))
        go_ret
        exact ⟨ret_bool (by rw [HE.out]; rfl), hb⟩
      | true =>
        have HN2 : Hid (∀ w, Calls Tryz.prog 153 #[.int .i64 hi] w fun e w' => e = .returned (.bool true) ∧ w = w') := fun w => by rw [← hn2]; exact number_any hi w
        obtain ⟨b3, b4⟩ := num_bounds hn2
        rw [hn2] at HE
        clear hn2
        by_cases a1 : lo ≤ hi
        · by_cases a2 : hi - lo < 1000
          · by_cases a3 : its.length = 0
            · rw [a3] at q4 HE
              go_wp2_with (first | (go_at_call 153; (with_reducible refine (HN1.out _).mono ?_); rintro e w' ⟨rfl, rfl⟩) | (go_at_call 153; (with_reducible refine (HN2.out _).mono ?_); rintro e w' ⟨rfl, rfl⟩))
              go_ret
              exact ⟨ret_bool (by rw [HE.out]; simp [a1, a2]), hb⟩
            · have a3' : ((its.length : Int) == 0) = false := by rw [beq_eq_false_iff_ne]; omega
              go_wp2_with (first | (go_at_call 153; (with_reducible refine (HN1.out _).mono ?_); rintro e w' ⟨rfl, rfl⟩) | (go_at_call 153; (with_reducible refine (HN2.out _).mono ?_); rintro e w' ⟨rfl, rfl⟩))
              go_ret
              exact ⟨ret_bool (by rw [HE.out]; simp [a3]), hb⟩
          · go_wp2_with (first | (go_at_call 153; (with_reducible refine (HN1.out _).mono ?_); rintro e w' ⟨rfl, rfl⟩) | (go_at_call 153; (with_reducible refine (HN2.out _).mono ?_); rintro e w' ⟨rfl, rfl⟩))
            go_ret
            exact ⟨ret_bool (by rw [HE.out, show decide (lo ≤ hi ∧ hi - lo < 1000 ∧ its.length = 0) = false from decide_eq_false (fun h => by omega)]; rfl), hb⟩
        · go_wp2_with (first | (go_at_call 153; (with_reducible refine (HN1.out _).mono ?_); rintro e w' ⟨rfl, rfl⟩) | (go_at_call 153; (with_reducible refine (HN2.out _).mono ?_); rintro e w' ⟨rfl, rfl⟩))
          go_ret
          exact ⟨ret_bool (by rw [HE.out, show decide (lo ≤ hi ∧ hi - lo < 1000 ∧ its.length = 0) = false from decide_eq_false (fun h => by omega)]; rfl), hb⟩
  have k2' : (k == 2) = false := by simpa using k2
  by_cases k3 : k = 3
  rotate_left
  · have k3' : (k == 3) = false := by simpa using k3
    have HE : Hid (varB ⟨nm, k, lo, hi, its⟩ = false) := HV.out.trans (form0 k1 k2 k3)
    clear k1 k2 k3
    go_wp2_with fail
    go_ret
    exact ⟨ret_bool HE.out.symm, hb⟩
  subst k3
  have HE : Hid (varB ⟨nm, 3, lo, hi, its⟩ = (decide (lo = 0 ∧ hi = 0 ∧ 1 ≤ its.length ∧ its.length ≤ 1000) && its.all textB && onceB (bytesOf its))) := HV.out.trans form3
  clear k1 k2 k1' k2'
  by_cases a1 : lo = 0
  rotate_left
  · have a1' : (lo != 0) = true := by simpa using a1
    go_wp2_with fail
    go_ret
    exact ⟨ret_bool (by rw [HE.out]; simp [a1]), hb⟩
  subst a1
  by_cases a2 : hi = 0
  rotate_left
  · have a2' : (hi != 0) = true := by simpa using a2
    go_wp2_with fail
    go_ret
    exact ⟨ret_bool (by rw [HE.out]; simp [a2]), hb⟩
  subst a2
  by_cases a3 : its.length < 1
  · have HE2 : Hid (varB ⟨nm, 3, 0, 0, its⟩ = false) := by
      show varB _ = false
      rw [HE.out, show decide ((0 : Int) = 0 ∧ (0 : Int) = 0 ∧ 1 ≤ its.length ∧ its.length ≤ 1000) = false from decide_eq_false (fun h => by omega)]; rfl
    go_wp2_with fail
    go_ret
    exact ⟨ret_bool HE2.out.symm, hb⟩
  by_cases a4 : 1000 < its.length
  · have HE2 : Hid (varB ⟨nm, 3, 0, 0, its⟩ = false) := by
      show varB _ = false
      rw [HE.out, show decide ((0 : Int) = 0 ∧ (0 : Int) = 0 ∧ 1 ≤ its.length ∧ its.length ≤ 1000) = false from decide_eq_false (fun h => by omega)]; rfl
    go_wp2_with fail
    go_ret
    exact ⟨ret_bool HE2.out.symm, hb⟩
  have HE2 : Hid (varB ⟨nm, 3, 0, 0, its⟩ = (its.all textB && onceB (bytesOf its))) := by
    show varB _ = _
    rw [HE.out, show decide ((0 : Int) = 0 ∧ (0 : Int) = 0 ∧ 1 ≤ its.length ∧ its.length ≤ 1000) = true from decide_eq_true (by omega)]; rfl
  clear HE HV
  have eg : ∀ args w, (callFunc 168 args).run Tryz.prog w = .ok (.enter 168 args) w := enters_of Tryz.func168 (by kernel_rfl) rfl
  have HC := Lib.hid (containsFuncS 168 eg _ its (fun s => !textB s) w1 hit1 (fun s W _ hs _ => validVar1_any s W hs))
  clear eg
  rw [any_not_allT] at HC
  go_wp2_with fail
  refine HC.out.mono ?_
  rintro e w2 ⟨rfl, hb2⟩
  clear HC
  have hbw2 := bthen hb hb2
  have hB2 := hB.now hb2
  have hit2 := hit1.now hb2
  clear q0 q1 q2 q3 q4 hb2
  obtain ⟨q0, q1, q2, q3, q4⟩ := hB2.c5
  cases ht : its.all textB with
  | false =>
    rw [ht] at HE2
    clear ht
    go_wp2_with fail
    go_ret
    exact ⟨ret_bool (by rw [HE2.out]; rfl), hbw2⟩
  | true =>
    rw [ht] at HE2
    clear ht
    go_wp2_with fail
    refine (cloneS _ its w2 hit2 (by omega)).mono ?_
    rintro e w3 ⟨cv, rfl, hown, hb3⟩
    have hlt2 := hB2.lt
    have hbw3 := bthen hbw2 hb3
    have hB3 := hB2.now hb3
    clear q0 q1 q2 q3 q4
    go_wp2_with fail
    have hbl : (bytesOf its).length = its.length := by unfold bytesOf; rw [List.length_map]
    refine (sortS _ _ _ _ (own_bytes hown) (by omega)).mono ?_
    rintro e w4 ⟨rfl, hown4, hb4⟩
    have hbw4 := hbw3.trans (hb4.mono (by omega))
    have hB4 := hB3.below hb4 hlt2
    have hsz4 : w2.heap.size ≤ w4.heap.size := Nat.le_trans hb3.size hb4.size
    have hsl := sortB_len (bytesOf its)
    clear hb3 hb4 hB3 hbw3 hown hB2 hbw2
    have HLT : Hid (∀ s ∈ Lib.compact (sortB (bytesOf its)), s.length ≤ maxLen) := fun s hs => by
      have := (setB_mem (bytesOf its) s).1 hs
      unfold bytesOf at this
      obtain ⟨z, hz, rfl⟩ := List.mem_map.1 this
      obtain ⟨q, hq, rfl⟩ := List.mem_iff_getElem.1 hz
      obtain ⟨_, _, z', _, _, hz', hf, _⟩ := hit2.at_ hq
      rw [List.getElem?_eq_getElem hq] at hz'
      injection hz' with hz'
      rw [hz']; exact hf
    have HCP : Hid (Calls Tryz.prog 55 #[cv] w4.drew fun e w' => ∃ A' c', e = .returned (.slice A' (setB (bytesOf its)).length c') ∧ Below w2.heap.size w4 w') := by
      refine (compactS cv _ _ w4.drew hown4 (by omega) HLT.out).mono ?_
      rintro e w' ⟨v', rfl, hsl', hb'⟩
      obtain ⟨A', c', rfl, _, _, _⟩ := hsl'.open_
      refine ⟨A', c', ?_, below_drew_left hb'⟩
      rw [List.length_map]; rfl
    have HS : Hid (∀ W, Below w2.heap.size w4 W → W.cell? ⟨w.heap.size, 4, none⟩ = some (.slice A its.length c)) := fun W hW => (hW.cell (p := ⟨w.heap.size, 4, none⟩) hlt2).trans hB4.c5.2.2.2.2
    have HO := Lib.hid (once_iff (bytesOf its))
    rw [hbl] at HO
    generalize (setB (bytesOf its)).length = L at *
    have HSM : Hid (((L : Int) == (its.length : Int)) = decide (L = its.length)) := by
      show ((L : Int) == (its.length : Int)) = _
      by_cases h : L = its.length
      · simp [h]
      · have h' : ¬ ((L : Int) = (its.length : Int)) := by omega
        simp [h, h']
    generalize decide (L = its.length) = r at *
    have hLr := HSM.out
    have hbd : Below w2.heap.size w4 w4.drew := (Below.refl _ _).drew
    have a0 := HS.out _ hbd
    go_upto_region 13 with fail
    go_region_held3 (fun W => W.cell? ⟨w.heap.size, 4, none⟩ = some (.slice A its.length c)) (exact HS.out _ (by assumption))
      (first
      | (go_at_call 55; (with_reducible refine HCP.out.mono ?_); rintro e w5 ⟨A', c', rfl, hb5⟩))
    go_wp2_with fail
    go_ret
    exact ⟨ret_bool (by rw [HE2.out, HO.out]; rfl), hbw4.trans (hb5.mono (by omega))⟩
end Go.Proofs.YtijmnenojbfdnaaGreatDoor

namespace Go.Proofs.YtijmnenojbfdnaaGreatDoor
open Go.RowKit
def sameS (s : ByteArray) (y : ByteArray) : Bool := y.toList == s.toList
theorem atS_hit (l : List ByteArray) (s : ByteArray) (j : Nat) (y : ByteArray) (hy : l[j]? = some y) (h : sameS s y = true) (hn : ∀ q z, q < j → l[q]? = some z → sameS s z = false) : atS l s = j := by
  have hj : j < l.length := by
    rcases Nat.lt_or_ge j l.length with h | h
    · exact h
    · rw [List.getElem?_eq_none h] at hy; cases hy
  have : l.findIdx? (fun y => y.toList == s.toList) = some j := by
    rw [List.findIdx?_eq_some_iff_getElem]
    refine ⟨hj, ?_, fun q hq => ?_⟩
    · rw [List.getElem?_eq_getElem hj] at hy; injection hy with hy; rw [hy]; exact h
    · have := hn q _ hq (List.getElem?_eq_getElem (by omega)); simpa [sameS] using this
  unfold atS; rw [this]
theorem atS_miss (l : List ByteArray) (s : ByteArray) (hn : ∀ q z, q < l.length → l[q]? = some z → sameS s z = false) : atS l s = -1 := by
  have : l.findIdx? (fun y => y.toList == s.toList) = none := by
    rw [List.findIdx?_eq_none_iff]
    intro x hx
    obtain ⟨q, hq, rfl⟩ := List.mem_iff_getElem.1 hx
    exact hn q _ hq (List.getElem?_eq_getElem hq)
  unfold atS; rw [this]
theorem atS_any (l : List ByteArray) (s : ByteArray) : decide (0 ≤ atS l s) = l.any (sameS s) := by
  unfold atS
  cases h : l.findIdx? (fun y => y.toList == s.toList) with
  | none =>
    rw [List.findIdx?_eq_none_iff] at h
    rw [Bool.eq_iff_iff]
    simp
    exact fun x hx => by have := h x hx; simpa [sameS] using this
  | some i =>
    rw [List.findIdx?_eq_some_iff_getElem] at h
    obtain ⟨h1, h2, _⟩ := h
    rw [Bool.eq_iff_iff]
    simp
    exact ⟨_, List.getElem_mem h1, h2⟩
set_option maxHeartbeats 400000 in
theorem index_ref (v : Value) (l : List ByteArray) (s : ByteArray) (w : World) (hv : SlS (Lt w.heap.size) w v l) :
    Calls Tryz.prog 115 #[v, .string s] w fun e w' => e = .returned (.int .i64 (atS l s)) ∧ w = w' := by
  obtain ⟨A, c, rfl, h1, h2, hv⟩ := hv.open_
  go_enter Tryz.func115, Tryz.ntmps115
  go_wp2_with fail
  go_loop [5] (fun i => ∃ k : Nat, k ≤ l.length ∧ i = .int .i64 k ∧ ∀ j y, j < k → l[j]? = some y → sameS s y = false) (fun i => l.length - (intOf i).toNat)
  case atStart => exact ⟨0, Nat.zero_le _, rfl, fun j _ h => absurd h (by omega)⟩
  case round =>
    obtain ⟨k, hk, rfl, hp⟩ := hrel
    have HP := Lib.hid hp
    clear hp
    by_cases hlt : k < l.length
    · obtain ⟨b, o, y, rfl, hD, hx, hf, hcell⟩ := hv.at_ hlt
      have HX := Lib.hid hx
      clear hx
      cases hq : (y.toList == s.toList) with
      | true =>
        have HE := Lib.hid (atS_hit l s k y HX.out hq HP.out)
        go_wp2_with fail
        go_ret
        exact ⟨ret_int HE.out.symm, rfl⟩
      | false =>
        have HQ : Hid (sameS s y = false) := hq
        go_wp2_with fail
        go_round
        case rel => exact ⟨k + 1, by omega, by go_num, fun j z hj hz => by
          by_cases e : j = k
          · subst e; rw [HX.out] at hz; injection hz with hz; rw [← hz]; exact HQ.out
          · exact HP.out j z (by omega) hz⟩
        case measure => simp [intOf]; omega
    · have HE := Lib.hid (atS_miss l s (fun q z hq hz => HP.out q z (by omega) hz))
      go_wp2_with fail
      go_ret
      exact ⟨ret_int HE.out.symm, rfl⟩
def FineTo (its : List ByteArray) (k : Nat) : Prop := ∀ (j : Nat) s, j < k → its[j]? = some s → textB s = true ∧ (its.take j).any (sameS s) = false
theorem sameS_iff (s y : ByteArray) : sameS s y = true ↔ y.data.toList = s.data.toList := by
  unfold sameS
  rw [Lib.toList_data, Lib.toList_data]
  simp
theorem fine_all {its : List ByteArray} (h : FineTo its its.length) : (its.all textB && onceB (bytesOf its)) = true := by
  rw [Bool.and_eq_true]
  constructor
  · rw [List.all_eq_true]
    intro s hs
    obtain ⟨j, hj, rfl⟩ := List.mem_iff_getElem.1 hs
    exact (h j _ hj (List.getElem?_eq_getElem hj)).1
  · unfold onceB
    rw [decide_eq_true_eq]
    unfold List.Nodup
    rw [List.pairwise_iff_getElem]
    intro i j hi hj hij e
    have hj' : j < its.length := by simpa [bytesOf] using hj
    have h2 := (h j _ hj' (List.getElem?_eq_getElem hj')).2
    rw [List.any_eq_false] at h2
    refine h2 its[i] ?_ ?_
    · rw [List.mem_take_iff_getElem]
      exact ⟨i, by omega, rfl⟩
    · rw [sameS_iff]
      simpa [bytesOf] using e
theorem fine_text {its : List ByteArray} {j : Nat} {s : ByteArray} (hs : its[j]? = some s) (h : textB s = false) : (its.all textB && onceB (bytesOf its)) = false := by
  rw [Bool.and_eq_false_iff]
  left
  rw [Bool.eq_false_iff]
  intro h'
  rw [List.all_eq_true.1 h' s (List.mem_of_getElem? hs)] at h
  cases h
theorem fine_twice {its : List ByteArray} {j : Nat} {s : ByteArray} (hs : its[j]? = some s) (h : (its.take j).any (sameS s) = true) : (its.all textB && onceB (bytesOf its)) = false := by
  rw [Bool.and_eq_false_iff]
  right
  unfold onceB
  rw [decide_eq_false_iff_not]
  intro hn
  obtain ⟨y, hy, hsy⟩ := List.any_eq_true.1 h
  rw [List.mem_take_iff_getElem] at hy
  obtain ⟨i, hi, rfl⟩ := hy
  rw [sameS_iff] at hsy
  have hj : j < its.length := by
    rcases Nat.lt_or_ge j its.length with h | h
    · exact h
    · rw [List.getElem?_eq_none h] at hs; cases hs
  rw [List.getElem?_eq_getElem hj] at hs
  injection hs with hs
  unfold List.Nodup at hn
  rw [List.pairwise_iff_getElem] at hn
  refine hn i j (by simp [bytesOf]; omega) (by simpa [bytesOf] using hj) (by omega) ?_
  simp only [bytesOf, List.getElem_map]
  rw [hs, hsy]
end Go.Proofs.YtijmnenojbfdnaaGreatDoor
