/- Merged texts. -/
import Derived.Deep.RegionHeld3
import Derived.Lib.Builder
import Derived.Lib.AppendStr
import Derived.Lib.UnsafeStr
import Derived.Lib.FrozenHead2
import Derived.Lib.OthersKept
import Derived.Laws.Externs
import Derived.Test.YtlmenhjlgmejkaaGreatDoorPl03
set_option linter.all false
namespace Go.Proofs.YtlmenhjlgmejkaaGreatDoor
open Go.RowKit
theorem varB_no {x : Var} (h : isNameB x.name = false) : varB x = false := by unfold varB; rw [h]; rfl
theorem varB_yes {x : Var} (h : isNameB x.name = true) : varB x = formB x := by unfold varB; rw [h]; rfl
theorem form1 {nm : ByteArray} {lo hi : Int} {its : List ByteArray} : formB ⟨nm, 1, lo, hi, its⟩ = decide (lo = 0 ∧ hi = 0 ∧ its.length = 0) := rfl
theorem form2 {nm : ByteArray} {lo hi : Int} {its : List ByteArray} : formB ⟨nm, 2, lo, hi, its⟩ = (numB lo && numB hi && decide (lo ≤ hi ∧ hi - lo < 1000 ∧ its.length = 0)) := rfl
theorem form3 {nm : ByteArray} {lo hi : Int} {its : List ByteArray} : formB ⟨nm, 3, lo, hi, its⟩ = (decide (lo = 0 ∧ hi = 0 ∧ 1 ≤ its.length ∧ its.length ≤ 1000) && its.all textB && onceB (bytesOf its)) := rfl
theorem form0 {nm : ByteArray} {k lo hi : Int} {its : List ByteArray} (h1 : k ≠ 1) (h2 : k ≠ 2) (h3 : k ≠ 3) : formB ⟨nm, k, lo, hi, its⟩ = false := by unfold formB; simp [h1, h2, h3]
theorem num_bounds {n : Int} (h : numB n = true) : -4503599627370496 ≤ n ∧ n ≤ 4503599627370496 := by unfold numB at h; simpa using h
theorem any_not_allT (l : List ByteArray) : (l.any fun x => !textB x) = !l.all textB := by
  induction l with
  | nil => rfl
  | cons a m ih => simp [List.any_cons, List.all_cons, ih]
set_option maxHeartbeats 2000000 in
set_option maxRecDepth 100000 in
theorem validVar_any (x : Var) (u : Value) (w : World) (h : IsVar (Lt w.heap.size) w u x) :
    Calls Tryz.prog 145 #[u] w fun e w' => e = .returned (.bool (varB x)) ∧ Below w.heap.size w w' := by
  obtain ⟨nm, k, lo, hi, its⟩ := x
  obtain ⟨iv, rfl, hnm, f1, f2, f3, hit⟩ := h
  dsimp only at hnm f1 f2 f3 hit ⊢
  obtain ⟨A, c, rfl, i1, i2, hit⟩ := hit.open_
  have hb := bone w (.cells #[.string nm, .int .i64 k, .int .i64 lo, .int .i64 hi, .slice A its.length c] 117)
  have hB := Blk.new w 117 #[.string nm, .int .i64 k, .int .i64 lo, .int .i64 hi, .slice A its.length c]
  have hit1 := hit.now hb
  go_enter Tryz.func145, Tryz.ntmps145
  go_upto_region 1 with fail
  generalize hw1 : w.alloc (.cells #[.string nm, .int .i64 k, .int .i64 lo, .int .i64 hi, .slice A its.length c] 117) = w1 at *
  clear hw1
  obtain ⟨q0, q1, q2, q3, q4⟩ := hB.c5
  have hlt := hB.lt
  go_wp2_with fail
  refine (isName_any nm _ hnm).mono ?_
  rintro e w' ⟨rfl, rfl⟩
  generalize hq : isNameB nm = q
  have HQ := Lib.hid hq
  clear hq
  cases q
  · have HE : Hid (varB ⟨nm, k, lo, hi, its⟩ = false) := varB_no HQ.out
    go_wp2_with fail
    go_ret
    exact ⟨ret_bool HE.out.symm, hb⟩
  have HV : Hid (varB ⟨nm, k, lo, hi, its⟩ = formB ⟨nm, k, lo, hi, its⟩) := varB_yes HQ.out
  by_cases k1 : k = 1
  · subst k1
    have HE : Hid (varB ⟨nm, 1, lo, hi, its⟩ = decide (lo = 0 ∧ hi = 0 ∧ its.length = 0)) := HV.out.trans form1
    by_cases a1 : lo = 0
    · subst a1
      by_cases a2 : hi = 0
      · subst a2
        by_cases a3 : its.length = 0
        · rw [a3] at q4 HE
          go_wp2_with fail
          go_ret
          exact ⟨ret_bool (by rw [HE.out]; simp), hb⟩
        · have a3' : ((its.length : Int) == 0) = false := by rw [beq_eq_false_iff_ne]; omega
          go_wp2_with fail
          go_ret
          exact ⟨ret_bool (by rw [HE.out]; simp [a3]), hb⟩
      · have a2' : (hi == 0) = false := by simpa using a2
        go_wp2_with fail
        go_ret
        exact ⟨ret_bool (by rw [HE.out]; simp [a2]), hb⟩
    · have a1' : (lo == 0) = false := by simpa using a1
      go_wp2_with fail
      go_ret
      exact ⟨ret_bool (by rw [HE.out]; simp [a1]), hb⟩
  have k1' : (k == 1) = false := by simpa using k1
  by_cases k2 : k = 2
  · subst k2
    have HE : Hid (varB ⟨nm, 2, lo, hi, its⟩ = (numB lo && numB hi && decide (lo ≤ hi ∧ hi - lo < 1000 ∧ its.length = 0))) := HV.out.trans form2
    have HN := Lib.hid (fun n w => number_any n w)
    go_upto_region 7 with fail
    cases hn1 : numB lo with
    | false =>
      have HN1 : Hid (∀ w, Calls Tryz.prog 161 #[.int .i64 lo] w fun e w' => e = .returned (.bool false) ∧ w = w') := fun w => by rw [← hn1]; exact number_any lo w
      rw [hn1] at HE
      clear hn1
      go_wp2_with (go_at_call 161; refine (HN1.out _).mono ?_; rintro e w' ⟨rfl, rfl⟩)
      go_ret
      exact ⟨ret_bool (by rw [HE.out]; rfl), hb⟩
    | true =>
      have HN1 : Hid (∀ w, Calls Tryz.prog 161 #[.int .i64 lo] w fun e w' => e = .returned (.bool true) ∧ w = w') := fun w => by rw [← hn1]; exact number_any lo w
      obtain ⟨b1, b2⟩ := num_bounds hn1
      rw [hn1] at HE
      clear hn1
      cases hn2 : numB hi with
      | false =>
        have HN2 : Hid (∀ w, Calls Tryz.prog 161 #[.int .i64 hi] w fun e w' => e = .returned (.bool false) ∧ w = w') := fun w => by rw [← hn2]; exact number_any hi w
        rw [hn2] at HE
        clear hn2
        go_wp2_with (first | (go_at_call 161; (with_reducible refine (HN1.out _).mono ?_); rintro e w' ⟨rfl, rfl⟩) | (go_at_call 161; (with_reducible refine (HN2.out _).mono ?_); rintro e w' ⟨rfl, rfl⟩))
        go_ret
        exact ⟨ret_bool (by rw [HE.out]; rfl), hb⟩
      | true =>
        have HN2 : Hid (∀ w, Calls Tryz.prog 161 #[.int .i64 hi] w fun e w' => e = .returned (.bool true) ∧ w = w') := fun w => by rw [← hn2]; exact number_any hi w
        obtain ⟨b3, b4⟩ := num_bounds hn2
        rw [hn2] at HE
        clear hn2
        by_cases a1 : lo ≤ hi
        · by_cases a2 : hi - lo < 1000
          · by_cases a3 : its.length = 0
            · rw [a3] at q4 HE
              go_wp2_with (first | (go_at_call 161; (with_reducible refine (HN1.out _).mono ?_); rintro e w' ⟨rfl, rfl⟩) | (go_at_call 161; (with_reducible refine (HN2.out _).mono ?_); rintro e w' ⟨rfl, rfl⟩))
              go_ret
              exact ⟨ret_bool (by rw [HE.out]; simp [a1, a2]), hb⟩
            · have a3' : ((its.length : Int) == 0) = false := by rw [beq_eq_false_iff_ne]; omega
              go_wp2_with (first | (go_at_call 161; (with_reducible refine (HN1.out _).mono ?_); rintro e w' ⟨rfl, rfl⟩) | (go_at_call 161; (with_reducible refine (HN2.out _).mono ?_); rintro e w' ⟨rfl, rfl⟩))
              go_ret
              exact ⟨ret_bool (by rw [HE.out]; simp [a3]), hb⟩
          · go_wp2_with (first | (go_at_call 161; (with_reducible refine (HN1.out _).mono ?_); rintro e w' ⟨rfl, rfl⟩) | (go_at_call 161; (with_reducible refine (HN2.out _).mono ?_); rintro e w' ⟨rfl, rfl⟩))
            go_ret
            exact ⟨ret_bool (by rw [HE.out, show decide (lo ≤ hi ∧ hi - lo < 1000 ∧ its.length = 0) = false from decide_eq_false (fun h => by omega)]; rfl), hb⟩
        · go_wp2_with (first | (go_at_call 161; (with_reducible refine (HN1.out _).mono ?_); rintro e w' ⟨rfl, rfl⟩) | (go_at_call 161; (with_reducible refine (HN2.out _).mono ?_); rintro e w' ⟨rfl, rfl⟩))
          go_ret
          exact ⟨ret_bool (by rw [HE.out, show decide (lo ≤ hi ∧ hi - lo < 1000 ∧ its.length = 0) = false from decide_eq_false (fun h => by omega)]; rfl), hb⟩
  have k2' : (k == 2) = false := by simpa using k2
  by_cases k3 : k = 3
  rotate_left
  · have k3' : (k == 3) = false := by simpa using k3
    have HE : Hid (varB ⟨nm, k, lo, hi, its⟩ = false) := HV.out.trans (form0 k1 k2 k3)
    clear k1 k2 k3
    go_wp2_with fail
    go_ret
    exact ⟨ret_bool HE.out.symm, hb⟩
  subst k3
  have HE : Hid (varB ⟨nm, 3, lo, hi, its⟩ = (decide (lo = 0 ∧ hi = 0 ∧ 1 ≤ its.length ∧ its.length ≤ 1000) && its.all textB && onceB (bytesOf its))) := HV.out.trans form3
  clear k1 k2 k1' k2'
  by_cases a1 : lo = 0
  rotate_left
  · have a1' : (lo != 0) = true := by simpa using a1
    go_wp2_with fail
    go_ret
    exact ⟨ret_bool (by rw [HE.out]; simp [a1]), hb⟩
  subst a1
  by_cases a2 : hi = 0
  rotate_left
  · have a2' : (hi != 0) = true := by simpa using a2
    go_wp2_with fail
    go_ret
    exact ⟨ret_bool (by rw [HE.out]; simp [a2]), hb⟩
  subst a2
  by_cases a3 : its.length < 1
  · have HE2 : Hid (varB ⟨nm, 3, 0, 0, its⟩ = false) := by
      show varB _ = false
      rw [HE.out, show decide ((0 : Int) = 0 ∧ (0 : Int) = 0 ∧ 1 ≤ its.length ∧ its.length ≤ 1000) = false from decide_eq_false (fun h => by omega)]; rfl
    go_wp2_with fail
    go_ret
    exact ⟨ret_bool HE2.out.symm, hb⟩
  by_cases a4 : 1000 < its.length
  · have HE2 : Hid (varB ⟨nm, 3, 0, 0, its⟩ = false) := by
      show varB _ = false
      rw [HE.out, show decide ((0 : Int) = 0 ∧ (0 : Int) = 0 ∧ 1 ≤ its.length ∧ its.length ≤ 1000) = false from decide_eq_false (fun h => by omega)]; rfl
    go_wp2_with fail
    go_ret
    exact ⟨ret_bool HE2.out.symm, hb⟩
  have HE2 : Hid (varB ⟨nm, 3, 0, 0, its⟩ = (its.all textB && onceB (bytesOf its))) := by
    show varB _ = _
    rw [HE.out, show decide ((0 : Int) = 0 ∧ (0 : Int) = 0 ∧ 1 ≤ its.length ∧ its.length ≤ 1000) = true from decide_eq_true (by omega)]; rfl
  clear HE HV
  have eg : ∀ args w, (callFunc 171 args).run Tryz.prog w = .ok (.enter 171 args) w := enters_of Tryz.func171 (by kernel_rfl) rfl
  have HC := Lib.hid (containsFuncS 171 eg _ its (fun s => !textB s) w1 hit1 (fun s W _ hs _ => validVar1_any s W hs))
  clear eg
  rw [any_not_allT] at HC
  go_wp2_with fail
  refine HC.out.mono ?_
  rintro e w2 ⟨rfl, hb2⟩
  clear HC
  have hbw2 := bthen hb hb2
  have hB2 := hB.now hb2
  have hit2 := hit1.now hb2
  clear q0 q1 q2 q3 q4 hb2
  obtain ⟨q0, q1, q2, q3, q4⟩ := hB2.c5
  cases ht : its.all textB with
  | false =>
    rw [ht] at HE2
    clear ht
    go_wp2_with fail
    go_ret
    exact ⟨ret_bool (by rw [HE2.out]; rfl), hbw2⟩
  | true =>
    rw [ht] at HE2
    clear ht
    go_wp2_with fail
    refine (cloneS _ its w2 hit2 (by omega)).mono ?_
    rintro e w3 ⟨cv, rfl, hown, hb3⟩
    have hlt2 := hB2.lt
    have hbw3 := bthen hbw2 hb3
    have hB3 := hB2.now hb3
    clear q0 q1 q2 q3 q4
    go_wp2_with fail
    have hbl : (bytesOf its).length = its.length := by unfold bytesOf; rw [List.length_map]
    refine (sortS _ _ _ _ (own_bytes hown) (by omega)).mono ?_
    rintro e w4 ⟨rfl, hown4, hb4⟩
    have hbw4 := hbw3.trans (hb4.mono (by omega))
    have hB4 := hB3.below hb4 hlt2
    have hsz4 : w2.heap.size ≤ w4.heap.size := Nat.le_trans hb3.size hb4.size
    have hsl := sortB_len (bytesOf its)
    clear hb3 hb4 hB3 hbw3 hown hB2 hbw2
    have HLT : Hid (∀ s ∈ Lib.compact (sortB (bytesOf its)), s.length ≤ maxLen) := fun s hs => by
      have := (setB_mem (bytesOf its) s).1 hs
      unfold bytesOf at this
      obtain ⟨z, hz, rfl⟩ := List.mem_map.1 this
      obtain ⟨q, hq, rfl⟩ := List.mem_iff_getElem.1 hz
      obtain ⟨_, _, z', _, _, hz', hf, _⟩ := hit2.at_ hq
      rw [List.getElem?_eq_getElem hq] at hz'
      injection hz' with hz'
      rw [hz']; exact hf
    have HCP : Hid (Calls Tryz.prog 174 #[cv] w4.drew fun e w' => ∃ A' c', e = .returned (.slice A' (setB (bytesOf its)).length c') ∧ Below w2.heap.size w4 w') := by
      refine (compactS cv _ _ w4.drew hown4 (by omega) HLT.out).mono ?_
      rintro e w' ⟨v', rfl, hsl', hb'⟩
      obtain ⟨A', c', rfl, _, _, _⟩ := hsl'.open_
      refine ⟨A', c', ?_, below_drew_left hb'⟩
      rw [List.length_map]; rfl
    have HS : Hid (∀ W, Below w2.heap.size w4 W → W.cell? ⟨w.heap.size, 4, none⟩ = some (.slice A its.length c)) := fun W hW => (hW.cell (p := ⟨w.heap.size, 4, none⟩) hlt2).trans hB4.c5.2.2.2.2
    have HO := Lib.hid (once_iff (bytesOf its))
    rw [hbl] at HO
    generalize (setB (bytesOf its)).length = L at *
    have HSM : Hid (((L : Int) == (its.length : Int)) = decide (L = its.length)) := by
      show ((L : Int) == (its.length : Int)) = _
      by_cases h : L = its.length
      · simp [h]
      · have h' : ¬ ((L : Int) = (its.length : Int)) := by omega
        simp [h, h']
    generalize decide (L = its.length) = r at *
    have hLr := HSM.out
    have hbd : Below w2.heap.size w4 w4.drew := (Below.refl _ _).drew
    have a0 := HS.out _ hbd
    go_upto_region 13 with fail
    go_region_held3 (fun W => W.cell? ⟨w.heap.size, 4, none⟩ = some (.slice A its.length c)) (exact HS.out _ (by assumption))
      (first
      | (go_at_call 174; (with_reducible refine HCP.out.mono ?_); rintro e w5 ⟨A', c', rfl, hb5⟩))
    go_wp2_with fail
    go_ret
    exact ⟨ret_bool (by rw [HE2.out, HO.out]; rfl), hbw4.trans (hb5.mono (by omega))⟩
def sameS (s : ByteArray) (y : ByteArray) : Bool := y.toList == s.toList
def FineTo (its : List ByteArray) (k : Nat) : Prop := ∀ (j : Nat) s, j < k → its[j]? = some s → textB s = true ∧ (its.take j).any (sameS s) = false
structure Tame (x : Var) : Prop where
  lo : -4503599627370496 ≤ x.low ∧ x.low ≤ 4503599627370496
  hi : -4503599627370496 ≤ x.high ∧ x.high ≤ 4503599627370496
  dom : x.kind = 2 → x.low ≤ x.high ∧ x.high - x.low < 1000
  kind : x.kind = 1 ∨ x.kind = 2 ∨ x.kind = 3
  items : x.kind = 3 → 1 ≤ x.items.length ∧ x.items.length ≤ 1000
theorem tame_of {x : Var} (h : varB x = true) : Tame x := by
  have hf : formB x = true := by unfold varB at h; simp only [Bool.and_eq_true] at h; exact h.2
  obtain ⟨nm, k, lo, hi, its⟩ := x
  by_cases k1 : k = 1
  · subst k1
    rw [form1] at hf
    simp only [decide_eq_true_eq] at hf
    obtain ⟨rfl, rfl, _⟩ := hf
    exact ⟨by simp, by simp, by simp, by simp, by simp⟩
  by_cases k2 : k = 2
  · subst k2
    rw [form2] at hf
    simp only [Bool.and_eq_true, decide_eq_true_eq] at hf
    exact ⟨num_bounds hf.1.1, num_bounds hf.1.2, fun _ => ⟨hf.2.1, hf.2.2.1⟩, by simp, by simp⟩
  by_cases k3 : k = 3
  · subst k3
    rw [form3] at hf
    simp only [Bool.and_eq_true, decide_eq_true_eq] at hf
    obtain ⟨rfl, rfl, h1, h2⟩ := hf.1.1
    exact ⟨by simp, by simp, by simp, by simp, fun _ => ⟨h1, h2⟩⟩
  · rw [form0 k1 k2 k3] at hf; cases hf
theorem idxFrom_eq (x : ByteArray) : ∀ (zs : List ByteArray) (i : Nat), Lib.idxFromS zs x i = match zs.findIdx? (fun y => y.toList == x.toList) with | some k => ((i + k : Nat) : Int) | none => -1 := by
  intro zs
  induction zs with
  | nil => intro i; rfl
  | cons z zs ih =>
    intro i
    unfold Lib.idxFromS
    by_cases h : z = x
    · subst h
      have h1 : (z.toList == z.toList) = true := by simp
      rw [List.findIdx?_cons, h1, if_pos rfl, if_pos rfl]
      simp
    · have h2 : (z.toList == x.toList) = false := by
        rw [beq_eq_false_iff_ne]
        intro e
        rw [Lib.toList_data, Lib.toList_data] at e
        apply h
        cases z; cases x
        congr 1
        exact Array.toList_inj.1 e
      rw [if_neg h, ih (i + 1), List.findIdx?_cons, h2]
      cases zs.findIdx? (fun y => y.toList == x.toList) with
      | none => rfl
      | some k =>
        show ((i + 1 + k : Nat) : Int) = ((i + (k + 1) : Nat) : Int)
        congr 1
        omega
theorem idxOf_eq (zs : List ByteArray) (x : ByteArray) : Lib.idxOfS zs x = atS zs x := by
  unfold Lib.idxOfS atS
  rw [idxFrom_eq]
  cases zs.findIdx? (fun y => y.toList == x.toList) with
  | none => rfl
  | some k => simp
theorem indexS_any (v : Value) (xs : List ByteArray) (x : ByteArray) (w : World) (hu : SlS (Lt w.heap.size) w v xs) :
    Calls Tryz.prog 163 #[v, .string x] w fun e w' => e = .returned (.int .i64 (atS xs x)) ∧ w = w' := by
  obtain ⟨A, c, rfl, h1, h2, hu⟩ := hu.open_
  by_cases hn : 0 < xs.length
  · obtain ⟨b, o, rfl, hD, _, hc⟩ := hu.cells hn
    refine (Tryz.slices_Index_string b o xs.length c xs x w (Nat.le_refl _) (by omega) hc).mono ?_
    rintro e w' ⟨rfl, hq⟩
    rw [List.take_of_length_le (Nat.le_refl _), idxOf_eq]
    exact ⟨rfl, hq.symm⟩
  · have : xs = [] := List.eq_nil_of_length_eq_zero (by omega)
    subst this
    refine (Tryz.slices_Index_string_empty A c x w).mono ?_
    rintro e w' ⟨rfl, hq⟩
    rw [idxOf_eq]
    exact ⟨rfl, hq.symm⟩
set_option maxHeartbeats 2000000 in
theorem place_any (x : Var) (v : Val) (u : Value) (w : World) (h : IsVar (Lt w.heap.size) w u x) (ht : Tame x) (hv : FitV v) :
    Calls Tryz.prog 137 #[u, valV v] w fun e w' => e = .returned (.int .i64 (placeV x v)) ∧ Below w.heap.size w w' := by
  obtain ⟨nm, k, lo, hi, its⟩ := x
  obtain ⟨vk, vn, vs⟩ := v
  obtain ⟨⟨l1, l2⟩, ⟨l3, l4⟩, ld, lk, li⟩ := ht
  obtain ⟨iv, rfl, hnm, f1, f2, f3, hit⟩ := h
  obtain ⟨g1, g2, g3⟩ := hv
  unfold Fit at f1 f2 f3 g1 g2
  unfold valV
  dsimp only at hnm f1 f2 f3 hit l1 l2 l3 l4 ld lk li g1 g2 g3 ⊢
  obtain ⟨A, c, rfl, i1, i2, hit⟩ := hit.open_
  have hb := bbox (bone w (.cells #[.string nm, .int .i64 k, .int .i64 lo, .int .i64 hi, .slice A its.length c] 117)) (.cells #[.int .i64 vk, .int .i64 vn, .string vs] 63)
  have hit2 := hit.now hb
  have HP : Hid (placeV ⟨nm, k, lo, hi, its⟩ ⟨vk, vn, vs⟩ = if vk ≠ k then -1 else if k = 1 then vn else if k = 3 then atS its vs else if vn < lo ∨ hi < vn then -1 else vn - lo) := rfl
  go_enter Tryz.func137, Tryz.ntmps137
  by_cases a1 : vk = k
  rotate_left
  · have a1' : (vk != k) = true := by simpa using a1
    have HE := Lib.hid (HP.out.trans (if_pos a1))
    clear a1
    go_wp2_with fail
    go_ret
    exact ⟨ret_int HE.out.symm, hb⟩
  subst a1
  have a1' : (vk != vk) = false := by simp
  have HE := Lib.hid (HP.out.trans (if_neg (fun h => h rfl)))
  rcases lk with rfl | rfl | rfl
  · go_wp2_with fail
    go_ret
    exact ⟨ret_int HE.out.symm, hb⟩
  · by_cases b1 : vn < lo
    · have HE2 := Lib.hid (HE.out.trans (show _ = (-1 : Int) by simp [b1]))
      go_wp2_with fail
      go_ret
      exact ⟨ret_int HE2.out.symm, hb⟩
    by_cases b2 : hi < vn
    · have HE2 := Lib.hid (HE.out.trans (show _ = (-1 : Int) by simp [b2]))
      go_wp2_with fail
      go_ret
      exact ⟨ret_int HE2.out.symm, hb⟩
    have HE2 := Lib.hid (HE.out.trans (show _ = vn - lo by simp [b1, b2]))
    go_wp2_with fail
    go_ret
    exact ⟨ret_int HE2.out.symm, hb⟩
  · go_wp2_with fail
    refine (indexS_any _ its vs _ hit2).mono ?_
    rintro e w' ⟨rfl, rfl⟩
    go_wp2_with fail
    go_ret
    exact ⟨ret_int HE.out.symm, hb⟩
def namesOf (l : List Var) : List Bs := bytesOf (l.map Var.name)
theorem namesOf_take (l : List Var) (k : Nat) : namesOf (l.take k) = (namesOf l).take k := by unfold namesOf bytesOf; rw [List.map_take, List.map_take]
theorem namesOf_get {l : List Var} {k : Nat} {x : Var} (h : l[k]? = some x) : (namesOf l)[k]? = some x.name.data.toList := by unfold namesOf bytesOf; simp [h]
theorem namesOf_snoc {l : List Var} {k : Nat} {x : Var} (h : l[k]? = some x) : namesOf (l.take (k + 1)) = namesOf (l.take k) ++ [x.name.data.toList] := by
  rw [namesOf_take, namesOf_take, List.take_add_one, namesOf_get h]; rfl
def VarsTo (l : List Var) (k : Nat) : Prop := (∀ j x, j < k → l[j]? = some x → varB x = true) ∧ (namesOf (l.take k)).Nodup
theorem VarsTo.zero (l : List Var) : VarsTo l 0 := ⟨fun j _ h => absurd h (by omega), by unfold namesOf bytesOf; simp⟩
theorem VarsTo.next {l : List Var} {k : Nat} {x : Var} (h : VarsTo l k) (hx : l[k]? = some x) (h1 : varB x = true) (h2 : x.name.data.toList ∉ namesOf (l.take k)) : VarsTo l (k + 1) := by
  refine ⟨fun j y hj hy => ?_, ?_⟩
  · by_cases e : j = k
    · subst e; rw [hx] at hy; injection hy with hy; subst hy; exact h1
    · exact h.1 j y (by omega) hy
  · rw [namesOf_snoc hx, List.nodup_append]
    refine ⟨h.2, by simp, fun a ha b hb e => ?_⟩
    simp only [List.mem_singleton] at hb
    subst e hb
    exact h2 ha
theorem varsB_all {l : List Var} (h : VarsTo l l.length) : varsB l = decide (l.length ≤ 8) := by
  unfold varsB
  have h1 : l.all varB = true := by
    rw [List.all_eq_true]
    intro x hx
    obtain ⟨j, hj, rfl⟩ := List.mem_iff_getElem.1 hx
    exact h.1 j _ hj (List.getElem?_eq_getElem hj)
  have h2 := h.2
  rw [List.take_of_length_le (Nat.le_refl _)] at h2
  have h3 : onceB (bytesOf (l.map Var.name)) = true := decide_eq_true h2
  rw [h1, h3]; simp
theorem varsB_bad {l : List Var} {k : Nat} {x : Var} (hx : l[k]? = some x) (h : varB x = false) : varsB l = false := by
  unfold varsB
  have : l.all varB = false := by
    rw [List.all_eq_false]
    exact ⟨x, List.mem_of_getElem? hx, by rw [h]; simp⟩
  rw [this]; simp
theorem varsB_twice {l : List Var} {k : Nat} {x : Var} (hx : l[k]? = some x) (h : x.name.data.toList ∈ namesOf (l.take k)) : varsB l = false := by
  unfold varsB
  have : onceB (bytesOf (l.map Var.name)) = false := by
    unfold onceB
    rw [decide_eq_false_iff_not]
    intro hn
    have h1 : (namesOf (l.take (k + 1))).Nodup := by
      rw [namesOf_take]
      exact hn.sublist (List.take_sublist _ _)
    rw [namesOf_snoc hx, List.nodup_append] at h1
    exact h1.2.2 _ h _ (by simp) rfl
  rw [this]; simp
set_option maxHeartbeats 2000000 in
theorem validVars_any (l : List Var) (u : Value) (w : World) (h : SlX (Lt w.heap.size) w u l) (hl : l.length ≤ 1000000) :
    Calls Tryz.prog 134 #[u] w fun e w' => e = .returned (.bool (varsB l)) ∧ Below w.heap.size w w' := by
  have hmm := @run_makeMap Tryz.prog
  obtain ⟨A, c, rfl, h1, h2, ht⟩ := h.open_
  go_enter Tryz.func134, Tryz.ntmps134
  go_wp2_with fail
  go_loopw [9] (fun i wr => ∃ j : Nat, j ≤ l.length ∧ i = .int .i64 j ∧ Below w.heap.size w wr ∧ SetS wr w.heap.size j (namesOf (l.take j)) ∧ VarsTo l j) (fun i _ => l.length - (intOf i).toNat)
  case atStart => exact ⟨0, Nat.zero_le _, rfl, bone w _, SetS.made w, VarsTo.zero l⟩
  case round =>
    obtain ⟨j, hj, rfl, hb, hset, hto⟩ := hrel
    have HTO := Lib.hid hto
    clear hto
    by_cases hlt : j < l.length
    · obtain ⟨b, o, x, iv, rfl, hD, hx, hvar, hiv, c0, c1, c2, c3, c4⟩ := (ht.now hb).at_ hlt
      have HX := Lib.hid hx
      clear hx
      obtain ⟨A2, k2, rfl, g1, g2, hiv⟩ := hiv.open_
      have hnm : x.name.size ≤ maxLen := by obtain ⟨_, _, hn, _⟩ := hvar; exact hn
      have hb1 := bone wr (.cells #[.string x.name, .int .i64 x.kind, .int .i64 x.low, .int .i64 x.high, .slice A2 x.items.length k2] 117)
      have hB1 := Blk.new wr 117 #[.string x.name, .int .i64 x.kind, .int .i64 x.low, .int .i64 x.high, .slice A2 x.items.length k2]
      have hvar1 := hvar.now hb1
      go_wp2_with fail
      refine (validVar_any x _ _ hvar1).mono ?_
      rintro e w2 ⟨rfl, hb2⟩
      have hB2 := hB1.now hb2
      have hset2 := (hset.now hb1).now hb2
      have hbw2 : Below w.heap.size w w2 := hb.trans ((bthen hb1 hb2).mono hb.size)
      obtain ⟨q0, q1, q2, q3, q4⟩ := hB2.c5
      have hlk := hset2.look hnm
      generalize hq : varB x = q
      have HQ := Lib.hid hq
      clear hq
      cases q
      · have HE := Lib.hid (varsB_bad HX.out HQ.out)
        clear hlk
        go_wp2_with fail
        go_ret
        exact ⟨ret_bool HE.out.symm, hbw2⟩
      · by_cases hin : x.name.data.toList ∈ namesOf (l.take j)
        · have HE := Lib.hid (varsB_twice HX.out hin)
          rw [decide_eq_true hin] at hlk
          clear hin
          go_wp2_with fail
          go_ret
          exact ⟨ret_bool HE.out.symm, hbw2⟩
        · have HI := Lib.hid hin
          rw [decide_eq_false hin] at hlk
          clear hin
          go_wp2_with (at_mapUpdate; refine hset2.store hnm (by unfold maxLen; omega) rfl _ _ _ rfl rfl rfl rfl ?_)
          intro w3 hset3 hg3
          go_wp2_with fail
          go_roundw
          case rel =>
            refine ⟨j + 1, by omega, by go_num, hbw2.trans (below_of_grown hg3 hbw2.size (fun g hg => by injection hg with hg; omega)), ?_, HTO.out.next HX.out HQ.out HI.out⟩
            rw [namesOf_snoc HX.out]
            exact hset3
          case measure => simp [intOf]; omega
    · obtain rfl : j = l.length := by omega
      have HE := Lib.hid (varsB_all HTO.out)
      go_wp2_with fail
      go_ret
      exact ⟨ret_bool (by rw [HE.out, decide_eq_decide]; omega), hb⟩
def inE (x : Var) (v : Val) : Bool × Int := if varB x && validV v then (decide (0 ≤ placeV x v), 0) else (false, 1)
def sizeE (x : Var) : Int × Int := if varB x then (sizeV x, 0) else (0, 1)
def nthE (x : Var) (i : Int) : Val × Int := if varB x then (if i < 0 ∨ sizeV x ≤ i then (noV, 2) else (nthV x i, 0)) else (noV, 1)
def rankE (x : Var) (v : Val) : Int × Int := if varB x && validV v then (if placeV x v < 0 then (0, 11) else (placeV x v, 0)) else (0, 1)
theorem ret_bi {a b : Bool} {c d : Int} (h : (a, c) = (b, d)) : Ending.returned (.tuple #[.bool a, .int .i64 c]) = .returned (.tuple #[.bool b, .int .i64 d]) := by injection h with h1 h2; rw [h1, h2]
set_option maxHeartbeats 1000000 in
theorem inE_any (x : Var) (v : Val) (u : Value) (w : World) (h : IsVar (Lt w.heap.size) w u x) (hf : FitV v) :
    Calls Tryz.prog 108 #[u, valV v] w fun e w' => e = .returned (.tuple #[.bool (inE x v).1, .int .i64 (inE x v).2]) ∧ Below w.heap.size w w' := by
  have hv := h
  obtain ⟨iv, rfl, hnm, f1, f2, f3, hit⟩ := h
  obtain ⟨A, c, rfl, i1, i2, hit⟩ := hit.open_
  have hb0 := bone w (.cells #[.string x.name, .int .i64 x.kind, .int .i64 x.low, .int .i64 x.high, .slice A x.items.length c] 117)
  have hb := bbox hb0 (.cells #[.int .i64 v.kind, .int .i64 v.n, .string v.s] 63)
  have hB := (Blk.new w 117 #[.string x.name, .int .i64 x.kind, .int .i64 x.low, .int .i64 x.high, .slice A x.items.length c]).alloc (.cells #[.int .i64 v.kind, .int .i64 v.n, .string v.s] 63)
  have hC := Blk.new_at (t := 63) (cs := #[.int .i64 v.kind, .int .i64 v.n, .string v.s]) (w := w.alloc (.cells #[.string x.name, .int .i64 x.kind, .int .i64 x.low, .int .i64 x.high, .slice A x.items.length c] 117)) (s := w.heap.size + 1) (by simp)
  have hv1 := hv.now hb
  unfold valV
  go_enter Tryz.func108, Tryz.ntmps108
  go_wp2_with fail
  refine (validVar_any x _ _ hv1).mono ?_
  rintro e w2 ⟨rfl, hb2⟩
  have hB2 := hB.now hb2
  have hC2 := hC.now hb2
  have hv2 := hv1.now hb2
  have hbw2 := bthen hb hb2
  obtain ⟨q0, q1, q2, q3, q4⟩ := hB2.c5
  obtain ⟨y0, y1, y2⟩ := hC2.c3
  generalize hq : varB x = q
  have HQ := Lib.hid hq
  clear hq
  cases q
  · have HE : Hid ((false, 1) = ((inE x v).1, (inE x v).2)) := by show _ = _; unfold inE; rw [HQ.out]; rfl
    go_wp2_with fail
    go_ret2
    exact ⟨ret_bi HE.out, hbw2⟩
  · go_wp2_with fail
    refine (validV_any v _ hf).mono ?_
    rintro e w3 ⟨rfl, hb3⟩
    have hB3 := hB2.now hb3
    have hC3 := hC2.now hb3
    have hv3 := hv2.now hb3
    have hbw3 := bthen hbw2 hb3
    clear q0 q1 q2 q3 q4 y0 y1 y2
    obtain ⟨q0, q1, q2, q3, q4⟩ := hB3.c5
    obtain ⟨y0, y1, y2⟩ := hC3.c3
    generalize hp : validV v = p
    have HP := Lib.hid hp
    clear hp
    cases p
    · have HE : Hid ((false, 1) = ((inE x v).1, (inE x v).2)) := by show _ = _; unfold inE; rw [HQ.out, HP.out]; rfl
      go_wp2_with fail
      go_ret2
      exact ⟨ret_bi HE.out, hbw3⟩
    · have HE : Hid ((decide (0 ≤ placeV x v), 0) = ((inE x v).1, (inE x v).2)) := by show _ = _; unfold inE; rw [HQ.out, HP.out]; rfl
      go_wp2_with fail
      refine (place_any x v _ _ hv3 (tame_of HQ.out) hf).mono ?_
      rintro e w4 ⟨rfl, hb4⟩
      go_wp2_with fail
      go_ret2
      exact ⟨ret_bi HE.out, bthen hbw3 hb4⟩
theorem Blk.set3 {w : World} {g : Nat} {t : TypeId} {a b c : Value} (h : Blk w g t #[a, b, c]) (x y z : Value) :
    Blk (((w.setCell ⟨g, 0, none⟩ x).setCell ⟨g, 1, none⟩ y).setCell ⟨g, 2, none⟩ z) g t #[x, y, z] := by
  have := ((h.set_ 0 x).set_ 1 y).set_ 2 z
  exact this
theorem bset3 {w w1 : World} {g : Nat} (h : Below w.heap.size w w1) (hg : w.heap.size ≤ g) (x y z : Value) :
    Below w.heap.size w (((w1.setCell ⟨g, 0, none⟩ x).setCell ⟨g, 1, none⟩ y).setCell ⟨g, 2, none⟩ z) :=
  ((h.setCell (p := ⟨g, 0, none⟩) hg x).setCell (p := ⟨g, 1, none⟩) hg y).setCell (p := ⟨g, 2, none⟩) hg z
def Bld (w : World) (B b : Nat) (l : List UInt8) : Prop := Lib.IsBuilderF 166 5 B b (Lib.byteCells l) w
theorem builderSize : (Tryz.prog.info? 166).map (·.size) = some 2 := by kernel_rfl
theorem builderLies : liesAt Tryz.prog Tryz.prog.depth 166 (2 / Tryz.prog.cellsOf 166) 0 166 1 = true := by kernel_rfl
theorem byteInfo : (Tryz.prog.info? 5).map (fun i => (i.zero, i.size, i.bytes)) = some (some (.int .u8 0), 1, 1) := by kernel_rfl
set_option maxHeartbeats 1000000 in
set_option maxRecDepth 100000 in
theorem copyCheck_used (b : Nat) (w : World) (h0 : w.cell? ⟨b, 0, none⟩ = some (.pointer (some ⟨b, 0, none⟩))) :
    Calls Tryz.prog 151 #[.pointer (some ⟨b, 0, none⟩)] w fun e w' => e = .returned (.tuple #[]) ∧ w' = w := by
  obtain ⟨j, hj, _⟩ := Option.map_eq_some_iff.1 builderSize
  go_enter Tryz.func151, Tryz.ntmps151
  go_wp2
  rw [Lib.run_neq_ptr_same w _ Tryz.underlying164 hj]
  go_wp2
  go_end0
  exact ⟨rfl, rfl⟩
set_option maxHeartbeats 1000000 in
set_option maxRecDepth 100000 in
theorem copyCheck_fresh (b : Nat) (w : World) (h0 : w.cell? ⟨b, 0, none⟩ = some (.pointer none)) (hsh : w.shape? b = some (166, 2)) (hfz : w.frozen? ⟨b, 0, none⟩ = false) :
    Calls Tryz.prog 151 #[.pointer (some ⟨b, 0, none⟩)] w fun e w' => e = .returned (.tuple #[]) ∧ w' = w.setCell ⟨b, 0, none⟩ (.pointer (some ⟨b, 0, none⟩)) := by
  obtain ⟨j, hj, hjs⟩ := Option.map_eq_some_iff.1 builderSize
  go_enter Tryz.func151, Tryz.ntmps151
  go_wp2
  rw [Lib.run_to_unsafe w ⟨b, 0, none⟩ Tryz.underlying164 Tryz.underlying204 hj (by rw [hjs]; decide) hsh (Nat.zero_lt_succ 1)]
  simp only [Result.andThen]
  rw [Oper.upon_value]
  go_wp2
  rw [run_callFunc_extern Tryz.func175 (by kernel_rfl) (by kernel_rfl) (by kernel_rfl) (e := Extern.AbiNoEscape.same) (by kernel_rfl)]
  rw [Lib.run_noEscape]
  simp only [Result.andThen]
  rw [Oper.upon_value]
  go_wp2
  rw [Lib.run_from_unsafe w ⟨b, 0, none⟩ Tryz.underlying204 Tryz.underlying164 hj hsh builderLies]
  simp only [Result.andThen]
  rw [Oper.upon_value]
  go_wp2
  go_end0
  exact ⟨rfl, rfl⟩
theorem copyCheck_any (B b : Nat) (bs : List Value) (w : World) (h : Lib.IsBuilderF 166 5 B b bs w) :
    Calls Tryz.prog 151 #[.pointer (some ⟨b, 0, none⟩)] w fun e w' => e = .returned (.tuple #[]) ∧ (Lib.BuilderAtF 166 5 B b (.pointer (some ⟨b, 0, none⟩)) bs w' ∧ Below B w w' ∧ Lib.OthersKept 5 (some b) w w') := by
  rcases h with h | h
  · refine (copyCheck_fresh b w h.cell0 h.shape h.frozen0).mono ?_
    rintro e w' ⟨rfl, rfl⟩
    exact ⟨rfl, h.used _, (Below.refl B w).setCell (p := ⟨b, 0, none⟩) h.1 _, (Lib.OthersKept.refl _ _ w).setCell ⟨b, 0, none⟩ rfl _⟩
  · refine (copyCheck_used b w h.cell0).mono ?_
    rintro e w' ⟨rfl, rfl⟩
    exact ⟨rfl, h, Below.refl B _, Lib.OthersKept.refl _ _ _⟩
set_option maxHeartbeats 2000000 in
set_option maxRecDepth 100000 in
theorem writeString_any (B b : Nat) (l : List UInt8) (s : ByteArray) (w : World) (h : Bld w B b l) (hlen : l.length + s.size ≤ 140737488355328) (hBw : B ≤ w.heap.size) :
    Calls Tryz.prog 113 #[.pointer (some ⟨b, 0, none⟩), .string s] w fun e w' => e = .returned (.tuple #[.int .i64 s.size, .nilIface]) ∧ (Bld w' B b (l ++ s.data.toList) ∧ Below B w w' ∧ Lib.OthersKept 5 (some b) w w') := by
  obtain ⟨i0, hi, hz0, hz1, hz2⟩ := info_parts byteInfo
  have hbl : (Lib.byteCells l).length = l.length := Lib.byteCells_length l
  go_enter Tryz.func113, Tryz.ntmps113
  go_wp2_with (go_at_call 151; refine (copyCheck_any B b (Lib.byteCells l) _ h).mono ?_)
  rintro e w1 ⟨rfl, h1, hb1, hk1⟩
  obtain ⟨hB, v, hbk, hown, hne⟩ := h1
  have c0 : w1.cell? ⟨b, 0, none⟩ = some (.pointer (some ⟨b, 0, none⟩)) := by rw [Lib.cell_of_heap hbk]; rfl
  have c1 : w1.cell? ⟨b, 1, none⟩ = some v := by rw [Lib.cell_of_heap hbk]; rfl
  have HBL := Lib.hid hbl
  clear hbl
  go_wp2_with (at_builtin; refine Lib.wpList_append_own_stringF _ rfl _ _ 91 9 rfl B 5 i0 Tryz.underlying91 Tryz.underlying9 hi hz0 hz1 hz2 _ _ _ rfl hown s rfl ?c3 ?c4 ?c5 ?_)
  case c3 => have := HBL.out; unfold maxLen; omega
  case c4 => have := HBL.out; omega
  case c5 => have := hb1.size; omega
  intro v' w2 hown' hgrow _
  have hlt : b < w1.heap.size := by
    rcases Nat.lt_or_ge b w1.heap.size with h' | h'
    · exact h'
    · simp [Array.getElem?_eq_none h'] at hbk
  have hb2 : w2.heap[b]? = some (.cells #[.pointer (some ⟨b, 0, none⟩), v] 166 (0, 0)) := by
    rw [hgrow.block b hlt (fun e => hne e.symm)]
    exact hbk
  have d0 : w2.cell? ⟨b, 0, none⟩ = some (.pointer (some ⟨b, 0, none⟩)) := by rw [Lib.cell_of_heap hb2]; rfl
  have d1 : w2.cell? ⟨b, 1, none⟩ = some v := by rw [Lib.cell_of_heap hb2]; rfl
  have f1 : w2.frozen? ⟨b, 1, none⟩ = false := Lib.frozen_of_heap hb2 1
  obtain ⟨ao, n', cap, rfl⟩ : ∃ ao n' cap, v' = .slice ao n' cap := by
    rcases hown'.2 with ⟨hv, _⟩ | ⟨g, cap, cur, fz, hv, _⟩
    · exact ⟨_, _, _, hv⟩
    · exact ⟨_, _, _, hv⟩
  go_wp2
  go_ret2
  refine ⟨rfl, ?_, ?_, (hk1.grown hgrow (Lib.ownsRowF_kind hown)).setCell ⟨b, 1, none⟩ rfl _⟩
  · right
    rw [Lib.byteCells_append, ← Lib.strCells_eq]
    exact Lib.BuilderAtF.put (T := 166) (e := 5) hB hb2 (bs' := Lib.byteCells l ++ Lib.strCells s) (by simpa [Lib.strCells_length] using hown') (by decide)
  · exact (hb1.grown hgrow (by have := hb1.size; omega) (fun k hk => (hown.lt k hk).1)).setCell (p := ⟨b, 1, none⟩) hB _
set_option maxHeartbeats 2000000 in
set_option maxRecDepth 100000 in
theorem writeByte_any (B b : Nat) (l : List UInt8) (c : UInt8) (w : World) (h : Bld w B b l) (hlen : l.length + 1 ≤ 140737488355328) (hBw : B ≤ w.heap.size) :
    Calls Tryz.prog 194 #[.pointer (some ⟨b, 0, none⟩), .int .u8 (c.toNat : Int)] w fun e w' => e = .returned .nilIface ∧ (Bld w' B b (l ++ [c]) ∧ Below B w w' ∧ Lib.OthersKept 5 (some b) w w') := by
  obtain ⟨i0, hi, hz0, hz1, hz2⟩ := info_parts byteInfo
  have hbl : (Lib.byteCells l).length = l.length := Lib.byteCells_length l
  have HC : Hid (Lib.byteCells (l ++ [c]) = Lib.byteCells l ++ [.int .u8 (c.toNat : Int)]) := by show _ = _; rw [Lib.byteCells_append]; rfl
  generalize (c.toNat : Int) = z at *
  go_enter Tryz.func194, Tryz.ntmps194
  go_wp2_with (go_at_call 151; refine (copyCheck_any B b (Lib.byteCells l) _ h).mono ?_)
  rintro e w1 ⟨rfl, h1, hb1, hk1⟩
  obtain ⟨hB, v, hbk, hown, hne⟩ := h1
  have c0 : w1.cell? ⟨b, 0, none⟩ = some (.pointer (some ⟨b, 0, none⟩)) := by rw [Lib.cell_of_heap hbk]; rfl
  have c1 : w1.cell? ⟨b, 1, none⟩ = some v := by rw [Lib.cell_of_heap hbk]; rfl
  have HBL := Lib.hid hbl
  clear hbl
  go_wp2_with (at_builtin; refine wpList_append_ownF _ rfl _ _ 91 rfl B 5 i0 (.int .u8 0) 1 1 Tryz.underlying91 hi hz0 hz1 hz2 rfl (by decide) _ _ _ rfl (hown.alloc _) ⟨w1.heap.size, 0, none⟩ 1 1 [.int .u8 z] rfl rfl ?c1 ?c2 ?c3 ?c4 ?c5 ?_)
  case c1 =>
    intro j u hj
    match j, hj with
    | 0, hj => simp at hj; subst hj; simp [Addr.add]
  case c2 => intro u hu; simp at hu; subst hu; rfl
  case c3 => have := HBL.out; unfold maxLen; omega
  case c4 => have := HBL.out; omega
  case c5 => have := hb1.size; simp; omega
  intro v' w2 hown' hgrow _
  have hlt : b < w1.heap.size := by
    rcases Nat.lt_or_ge b w1.heap.size with h' | h'
    · exact h'
    · simp [Array.getElem?_eq_none h'] at hbk
  have hb2 : w2.heap[b]? = some (.cells #[.pointer (some ⟨b, 0, none⟩), v] 166 (0, 0)) := by
    rw [hgrow.block b (by simp; omega) (fun e => hne e.symm), Lib.alloc_old w1 _ b hlt]
    exact hbk
  have d0 : w2.cell? ⟨b, 0, none⟩ = some (.pointer (some ⟨b, 0, none⟩)) := by rw [Lib.cell_of_heap hb2]; rfl
  have d1 : w2.cell? ⟨b, 1, none⟩ = some v := by rw [Lib.cell_of_heap hb2]; rfl
  have f1 : w2.frozen? ⟨b, 1, none⟩ = false := Lib.frozen_of_heap hb2 1
  obtain ⟨ao, n', cap, rfl⟩ : ∃ ao n' cap, v' = .slice ao n' cap := by
    rcases hown'.2 with ⟨hv, _⟩ | ⟨g, cap, cur, fz, hv, _⟩
    · exact ⟨_, _, _, hv⟩
    · exact ⟨_, _, _, hv⟩
  go_wp2
  go_ret
  refine ⟨rfl, ?_, ?_, ((hk1.alloc _).grown hgrow (Lib.ownsRowF_kind (hown.alloc _))).setCell ⟨b, 1, none⟩ rfl _⟩
  · right
    rw [HC.out]
    exact Lib.BuilderAtF.put (T := 166) (e := 5) hB hb2 (bs' := Lib.byteCells l ++ [.int .u8 z]) (by simpa using hown') (by decide)
  · exact ((hb1.alloc (by have := hb1.size; omega) _).grown hgrow (by have := hb1.size; simp; omega) (fun k hk => (hown.lt k hk).1)).setCell (p := ⟨b, 1, none⟩) hB _
theorem string_any (B b : Nat) (l : List UInt8) (w : World) (h : Bld w B b l) (hBw : B ≤ w.heap.size) :
    Calls Tryz.prog 116 #[.pointer (some ⟨b, 0, none⟩)] w fun e w' => e = .returned (.string ⟨l.toArray⟩) ∧ (Bld w' B b l ∧ Below B w w' ∧ Lib.OthersKept 5 (some b) w w') :=
  Tryz.Builder_String_any_k B b l w h hBw
theorem Bld.new {w : World} {b B : Nat} (hb : Blk w b 166 #[.pointer none, .slice none 0 0]) (hB : B ≤ b) : Bld w B b [] := by
  left
  exact ⟨hB, .slice none 0 0, hb, World.ownsRowF_nil _ _ _ _, by simp [Value.ownBlock]⟩
theorem at_now {w w' : World} {B b : Nat} {p : Value} {bs : List Value} (h : Lib.BuilderAtF 166 5 B b p bs w) (hb : Below w.heap.size w w') : Lib.BuilderAtF 166 5 B b p bs w' := by
  obtain ⟨hB, v, hbk, hown, hne⟩ := h
  have hlt : b < w.heap.size := by
    rcases Nat.lt_or_ge b w.heap.size with h' | h'
    · exact h'
    · rw [Array.getElem?_eq_none h'] at hbk; cases hbk
  refine ⟨hB, v, (hb.block b hlt).trans hbk, hown.kept (grown_of_below hb none) ?_, hne⟩
  cases e : v.ownBlock with
  | none => exact .inl rfl
  | some g => exact .inr (by simp)
theorem Bld.now {w w' : World} {B b : Nat} {l : List UInt8} (h : Bld w B b l) (hb : Below w.heap.size w w') : Bld w' B b l := by
  rcases h with h | h
  · exact .inl (at_now h hb)
  · exact .inr (at_now h hb)
structure Tr where
  label : ByteArray
  ins : List Int
  outs : List Int
structure Net where
  places : Int
  trans : List Tr
  source : Int
  sink : Int
def RTr : ElemR Tr := fun D w t cs => ∃ iv ov, cs = [.string t.label, iv, ov] ∧ t.label.size ≤ maxLen ∧ SlI D w iv t.ins ∧ SlI D w ov t.outs
theorem RTr.kept : ElemR.Kept RTr := by
  rintro D D' w w' x cs hd hs ⟨iv, ov, rfl, hl, hi, ho⟩
  exact ⟨iv, ov, rfl, hl, Sl.keep hi RInt.kept hd hs, Sl.keep ho RInt.kept hd hs⟩
def SlT := Sl 3 RTr
def IsTr (D : Nat → Prop) (w : World) (v : Value) (t : Tr) : Prop := ∃ iv ov, v = .agg #[.string t.label, iv, ov] ∧ t.label.size ≤ maxLen ∧ SlI D w iv t.ins ∧ SlI D w ov t.outs
def IsNet (D : Nat → Prop) (w : World) (v : Value) (n : Net) : Prop :=
  ∃ tv, v = .agg #[.int .i64 n.places, tv, .int .i64 n.source, .int .i64 n.sink] ∧ Fit n.places ∧ Fit n.source ∧ Fit n.sink ∧ SlT D w tv n.trans
section
variable {D D' : Nat → Prop} {w w' : World} {v : Value}
theorem SlT.below {zs : List Tr} {B B' : Nat} (h : SlT (Lt B) w v zs) (hb : Below B w w') (hB : B ≤ B') : SlT (Lt B') w' v zs := Sl.below h RTr.kept hb hB
theorem SlT.open_ {zs : List Tr} (h : SlT D w v zs) : ∃ A c, v = .slice A zs.length c ∧ zs.length ≤ c ∧ c ≤ 9223372036854775807 ∧ SlT D w (.slice A zs.length c) zs := Sl.open_ h
theorem SlT.at_ {zs : List Tr} {A : Option Addr} {n c k : Nat} (h : SlT D w (.slice A n c) zs) (hk : k < n) :
    ∃ b o t iv ov, A = some ⟨b, o, none⟩ ∧ D b ∧ zs[k]? = some t ∧ t.label.size ≤ maxLen ∧ SlI D w iv t.ins ∧ SlI D w ov t.outs ∧
      w.cell? ⟨b, o + k * 3, none⟩ = some (.string t.label) ∧ w.cell? ⟨b, o + k * 3 + 1, none⟩ = some iv ∧ w.cell? ⟨b, o + k * 3 + 2, none⟩ = some ov := by
  obtain ⟨b, o, x, u0, u1, u2, hA, hD, hx, ⟨iv, ov, hu, hl, hi, ho⟩, h0, h1, h2⟩ := Sl.at3 h hk
  injection hu with e0 hu; injection hu with e1 hu; injection hu with e2 hu
  subst e0 e1 e2
  exact ⟨b, o, x, u1, u2, hA, hD, hx, hl, hi, ho, h0, h1, h2⟩
theorem IsTr.below {t : Tr} {B B' : Nat} (h : IsTr (Lt B) w v t) (hb : Below B w w') (hB : B ≤ B') : IsTr (Lt B') w' v t := by
  obtain ⟨iv, ov, e, hl, hi, ho⟩ := h
  exact ⟨iv, ov, e, hl, hi.below hb hB, ho.below hb hB⟩
theorem IsNet.below {n : Net} {B B' : Nat} (h : IsNet (Lt B) w v n) (hb : Below B w w') (hB : B ≤ B') : IsNet (Lt B') w' v n := by
  obtain ⟨tv, e, h1, h2, h3, ht⟩ := h
  exact ⟨tv, e, h1, h2, h3, ht.below hb hB⟩
theorem SlT.now {zs : List Tr} (h : SlT (Lt w.heap.size) w v zs) (hb : Below w.heap.size w w') : SlT (Lt w'.heap.size) w' v zs := h.below hb hb.size
theorem IsTr.now {t : Tr} (h : IsTr (Lt w.heap.size) w v t) (hb : Below w.heap.size w w') : IsTr (Lt w'.heap.size) w' v t := h.below hb hb.size
theorem IsNet.now {n : Net} (h : IsNet (Lt w.heap.size) w v n) (hb : Below w.heap.size w w') : IsNet (Lt w'.heap.size) w' v n := h.below hb hb.size
end
end Go.Proofs.YtlmenhjlgmejkaaGreatDoor
