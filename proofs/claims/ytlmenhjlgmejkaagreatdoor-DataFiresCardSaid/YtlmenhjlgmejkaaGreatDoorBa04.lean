/- Texts of this seat, merged. -/
import Derived.Deep.RegionHeld3
import Derived.Maps.OwnOps
import Derived.Maps.OwnSet
import Derived.Maps.Views
import Derived.StringKeys
import Derived.Lib.Builder
import Derived.Lib.AppendStr
import Derived.Lib.UnsafeStr
import Derived.Lib.FrozenHead2
import Derived.Lib.OthersKept
import Derived.Laws.Externs
import Derived.Test.YtlmenhjlgmejkaaGreatDoorBa03
set_option linter.unusedSimpArgs false
set_option linter.unusedVariables false
namespace Go.Proofs.YtlmenhjlgmejkaaGreatDoor
open Go.RowKit
theorem perm_of_subset : ∀ (A ls : List Bs), A.Nodup → (∀ x ∈ A, x ∈ ls) → ls.length = A.length → ls.Perm A := by
  intro A
  induction A with
  | nil => intro ls _ _ h; have : ls = [] := List.eq_nil_of_length_eq_zero h; rw [this]
  | cons a A ih =>
    intro ls hn hs hl
    rw [List.nodup_cons] at hn
    have ha := hs a (by simp)
    have h1 : ls.Perm (a :: ls.erase a) := List.perm_cons_erase ha
    have h2 := ih (ls.erase a) hn.2 (fun x hx => by
      rw [List.mem_erase_of_ne (fun e => by subst e; exact hn.1 hx)]
      exact hs x (by simp [hx])) (by rw [List.length_erase_of_mem ha, hl]; simp)
    exact h1.trans (h2.cons a)
theorem once_iff (ls : List Bs) : onceB ls = decide ((setB ls).length = ls.length) := by
  unfold onceB
  rw [decide_eq_decide]
  constructor
  · intro h
    exact ((List.perm_ext_iff_of_nodup (asc_nodup (setB_asc ls)) h).2 (fun x => setB_mem ls x)).length_eq
  · intro h
    have := perm_of_subset (setB ls) ls (asc_nodup (setB_asc ls)) (fun x hx => (setB_mem ls x).1 hx) h.symm
    exact this.nodup_iff.2 (asc_nodup (setB_asc ls))
def AsksS (k : FuncId) (w : World) (xs : List ByteArray) (p : ByteArray → Bool) : Prop :=
  ∀ (x : ByteArray) (w1 : World), x ∈ xs → x.size ≤ maxLen → Below w.heap.size w w1 → Calls Tryz.prog k #[.string x] w1 fun e w2 => e = .returned (.bool (p x)) ∧ Below w1.heap.size w1 w2
set_option maxHeartbeats 400000 in
theorem indexFuncS (k : FuncId) (eg : ∀ args w, (callFunc k args).run Tryz.prog w = .ok (.enter k args) w) (tv : Value) (ts : List ByteArray) (p : ByteArray → Bool) (w : World) (ht : SlS (Lt w.heap.size) w tv ts) (hf : AsksS k w ts p) :
    Calls Tryz.prog 103 #[tv, .func (.func k) #[] #[]] w fun e w' => ∃ z : Int, e = .returned (.int .i64 z) ∧ decide (0 ≤ z) = ts.any p ∧ Below w.heap.size w w' := by
  obtain ⟨A, c, rfl, h1, h2, ht⟩ := ht.open_
  have HF := Lib.hid hf
  clear hf
  go_enter Tryz.func103, Tryz.ntmps103
  go_wp2_with fail
  go_loopw [8] (fun i wr => ∃ j : Nat, j ≤ ts.length ∧ i = .int .i64 j ∧ (∀ q t, q < j → ts[q]? = some t → p t = false) ∧ Below w.heap.size w wr) (fun i _ => ts.length - (intOf i).toNat)
  case atStart => exact ⟨0, Nat.zero_le _, rfl, fun q _ h => absurd h (by omega), Below.refl _ _⟩
  case round =>
    obtain ⟨j, hj, rfl, hp, hb⟩ := hrel
    have HP := Lib.hid hp
    clear hp
    by_cases hlt : j < ts.length
    · obtain ⟨b, o, t, rfl, hD, hx, hf, c0⟩ := (ht.now hb).at_ hlt
      have hcall := HF.out t wr (List.mem_of_getElem? hx) hf hb
      have HX := Lib.hid hx
      clear hx
      generalize hq : p t = q at *
      have HQ := Lib.hid hq
      have HC := Lib.hid hcall
      clear hcall hq
      cases q
      · go_wp2_with (go_at_fn k; refine HC.out.mono ?_; rintro e w' ⟨rfl, hb'⟩)
        go_roundw
        case rel =>
          refine ⟨j + 1, by omega, by go_num, fun q y hq hy => ?_, bthen hb hb'⟩
          by_cases e : q = j
          · subst e; rw [HX.out] at hy; injection hy with hy; subst hy; exact HQ.out
          · exact HP.out q y (by omega) hy
        case measure => simp [intOf]; omega
      · go_wp2_with (go_at_fn k; refine HC.out.mono ?_; rintro e w' ⟨rfl, hb'⟩)
        go_ret
        refine ⟨_, rfl, ?_, bthen hb hb'⟩
        rw [List.any_eq_true.2 ⟨t, List.mem_of_getElem? HX.out, HQ.out⟩]
        simp
    · go_wp2_with fail
      go_ret
      refine ⟨_, rfl, ?_, hb⟩
      rw [any_false_of _ ts (fun q y hq hy => HP.out q y (by omega) hy)]
      simp
theorem containsFuncS (k : FuncId) (eg : ∀ args w, (callFunc k args).run Tryz.prog w = .ok (.enter k args) w) (tv : Value) (ts : List ByteArray) (p : ByteArray → Bool) (w : World) (ht : SlS (Lt w.heap.size) w tv ts) (hf : AsksS k w ts p) :
    Calls Tryz.prog 61 #[tv, .func (.func k) #[] #[]] w fun e w' => e = .returned (.bool (ts.any p)) ∧ Below w.heap.size w w' := by
  have HC := Lib.hid (indexFuncS k eg tv ts p w ht hf)
  clear hf ht
  go_enter Tryz.func61, Tryz.ntmps61
  go_wp2_with (go_at_call 103; refine HC.out.mono ?_; rintro e w' ⟨z, rfl, hz, hb'⟩)
  go_ret
  exact ⟨rfl, hb'⟩
set_option maxHeartbeats 400000 in
theorem validVar1_any (s : ByteArray) (w : World) (hs : s.size ≤ maxLen) : Calls Tryz.prog 171 #[.string s] w fun e w' => e = .returned (.bool (!textB s)) ∧ Below w.heap.size w w' := by
  have HT := Lib.hid (text_any s w hs)
  clear hs
  generalize textB s = q at *
  go_enter Tryz.func171, Tryz.ntmps171
  go_wp2_with (go_at_call 162; refine HT.out.mono ?_; rintro e w' ⟨rfl, hb⟩)
  go_ret
  exact ⟨rfl, hb⟩
theorem cloneS (v : Value) (zs : List ByteArray) (w : World) (h : SlS (Lt w.heap.size) w v zs) (hz : zs.length ≤ 1000000) :
    Calls Tryz.prog 172 #[v] w fun e w' => ∃ v', e = .returned v' ∧ w'.ownsRow w.heap.size 9 1 v' zs.length (zs.map Value.string) ∧ Below w.heap.size w w' := by
  obtain ⟨A, c, rfl, h1, h2, h⟩ := h.open_
  by_cases hn : 0 < zs.length
  · obtain ⟨b, o, rfl, hD, _, hc⟩ := h.cells hn
    refine (Tryz.slices_Clone_string b o zs.length c zs w (Nat.le_refl _) (by omega) hc).mono ?_
    rintro e w' ⟨v', rfl, ho, _, hb⟩
    rw [List.take_of_length_le (Nat.le_refl _)] at ho
    exact ⟨v', rfl, ho, hb⟩
  · have : zs = [] := List.eq_nil_of_length_eq_zero (by omega)
    subst this
    rcases A with _ | a
    · refine (Tryz.slices_Clone_string_nil _ _ w).mono ?_
      rintro e w' ⟨rfl, rfl⟩
      exact ⟨_, rfl, World.ownsRow_nil _ _ _ _, Below.refl _ _⟩
    · refine (Tryz.slices_Clone_string_zero a c w).mono ?_
      rintro e w' ⟨v', rfl, ho, _, hb⟩
      exact ⟨v', rfl, ho, hb⟩
theorem own_bytes {w : World} {base : Nat} {v : Value} {zs : List ByteArray} (h : w.ownsRow base 9 1 v zs.length (zs.map Value.string)) : OwnS w base v (bytesOf zs) := by
  unfold OwnS bytesOf
  rw [List.length_map, List.map_map]
  have : (encStr ∘ fun s : ByteArray => s.data.toList) = Value.string := by
    funext s
    show Value.string (mkS s.data.toList) = _
    rw [mkS_of]
  rw [this]
  exact h
end Go.Proofs.YtlmenhjlgmejkaaGreatDoor

namespace Go.Proofs.YtlmenhjlgmejkaaGreatDoor
open Go.RowKit
theorem varB_no {x : Var} (h : isNameB x.name = false) : varB x = false := by unfold varB; rw [h]; rfl
theorem varB_yes {x : Var} (h : isNameB x.name = true) : varB x = formB x := by unfold varB; rw [h]; rfl
theorem form1 {nm : ByteArray} {lo hi : Int} {its : List ByteArray} : formB ⟨nm, 1, lo, hi, its⟩ = decide (lo = 0 ∧ hi = 0 ∧ its.length = 0) := rfl
theorem form2 {nm : ByteArray} {lo hi : Int} {its : List ByteArray} : formB ⟨nm, 2, lo, hi, its⟩ = (numB lo && numB hi && decide (lo ≤ hi ∧ hi - lo < 1000 ∧ its.length = 0)) := rfl
theorem form3 {nm : ByteArray} {lo hi : Int} {its : List ByteArray} : formB ⟨nm, 3, lo, hi, its⟩ = (decide (lo = 0 ∧ hi = 0 ∧ 1 ≤ its.length ∧ its.length ≤ 1000) && its.all textB && onceB (bytesOf its)) := rfl
theorem form0 {nm : ByteArray} {k lo hi : Int} {its : List ByteArray} (h1 : k ≠ 1) (h2 : k ≠ 2) (h3 : k ≠ 3) : formB ⟨nm, k, lo, hi, its⟩ = false := by unfold formB; simp [h1, h2, h3]
theorem num_bounds {n : Int} (h : numB n = true) : -4503599627370496 ≤ n ∧ n ≤ 4503599627370496 := by unfold numB at h; simpa using h
theorem any_not_allT (l : List ByteArray) : (l.any fun x => !textB x) = !l.all textB := by
  induction l with
  | nil => rfl
  | cons a m ih => simp [List.any_cons, List.all_cons, ih]
set_option maxHeartbeats 2000000 in
set_option maxRecDepth 100000 in
theorem validVar_any (x : Var) (u : Value) (w : World) (h : IsVar (Lt w.heap.size) w u x) :
    Calls Tryz.prog 145 #[u] w fun e w' => e = .returned (.bool (varB x)) ∧ Below w.heap.size w w' := by
  obtain ⟨nm, k, lo, hi, its⟩ := x
  obtain ⟨iv, rfl, hnm, f1, f2, f3, hit⟩ := h
  dsimp only at hnm f1 f2 f3 hit ⊢
  obtain ⟨A, c, rfl, i1, i2, hit⟩ := hit.open_
  have hb := bone w (.cells #[.string nm, .int .i64 k, .int .i64 lo, .int .i64 hi, .slice A its.length c] 117)
  have hB := Blk.new w 117 #[.string nm, .int .i64 k, .int .i64 lo, .int .i64 hi, .slice A its.length c]
  have hit1 := hit.now hb
  go_enter Tryz.func145, Tryz.ntmps145
  go_upto_region 1 with fail
  generalize hw1 : w.alloc (.cells #[.string nm, .int .i64 k, .int .i64 lo, .int .i64 hi, .slice A its.length c] 117) = w1 at *
  clear hw1
  obtain ⟨q0, q1, q2, q3, q4⟩ := hB.c5
  have hlt := hB.lt
  go_wp2_with fail
  refine (isName_any nm _ hnm).mono ?_
  rintro e w' ⟨rfl, rfl⟩
  generalize hq : isNameB nm = q
  have HQ := Lib.hid hq
  clear hq
  cases q
  · have HE : Hid (varB ⟨nm, k, lo, hi, its⟩ = false) := varB_no HQ.out
    go_wp2_with fail
    go_ret
    exact ⟨ret_bool HE.out.symm, hb⟩
  have HV : Hid (varB ⟨nm, k, lo, hi, its⟩ = formB ⟨nm, k, lo, hi, its⟩) := varB_yes HQ.out
  by_cases k1 : k = 1
  · subst k1
    have HE : Hid (varB ⟨nm, 1, lo, hi, its⟩ = decide (lo = 0 ∧ hi = 0 ∧ its.length = 0)) := HV.out.trans form1
    by_cases a1 : lo = 0
    · subst a1
      by_cases a2 : hi = 0
      · subst a2
        by_cases a3 : its.length = 0
        · rw [a3] at q4 HE
          go_wp2_with fail
          go_ret
          exact ⟨ret_bool (by rw [HE.out]; simp), hb⟩
        · have a3' : ((its.length : Int) == 0) = false := by rw [beq_eq_false_iff_ne]; omega
          go_wp2_with fail
          go_ret
          exact ⟨ret_bool (by rw [HE.out]; simp [a3]), hb⟩
      · have a2' : (hi == 0) = false := by simpa using a2
        go_wp2_with fail
        go_ret
        exact ⟨ret_bool (by rw [HE.out]; simp [a2]), hb⟩
    · have a1' : (lo == 0) = false := by simpa using a1
      go_wp2_with fail
      go_ret
      exact ⟨ret_bool (by rw [HE.out]; simp [a1]), hb⟩
  have k1' : (k == 1) = false := by simpa using k1
  by_cases k2 : k = 2
  · subst k2
    have HE : Hid (varB ⟨nm, 2, lo, hi, its⟩ = (numB lo && numB hi && decide (lo ≤ hi ∧ hi - lo < 1000 ∧ its.length = 0))) := HV.out.trans form2
    have HN := Lib.hid (fun n w => number_any n w)
    go_upto_region 7 with fail
    cases hn1 : numB lo with
    | false =>
      have HN1 : Hid (∀ w, Calls Tryz.prog 161 #[.int .i64 lo] w fun e w' => e = .returned (.bool false) ∧ w = w') := fun w => by rw [← hn1]; exact number_any lo w
      rw [hn1] at HE
      clear hn1
      go_wp2_with (go_at_call 161; refine (HN1.out _).mono ?_; rintro e w' ⟨rfl, rfl⟩)
      go_ret
      exact ⟨ret_bool (by rw [HE.out]; rfl), hb⟩
    | true =>
      have HN1 : Hid (∀ w, Calls Tryz.prog 161 #[.int .i64 lo] w fun e w' => e = .returned (.bool true) ∧ w = w') := fun w => by rw [← hn1]; exact number_any lo w
      obtain ⟨b1, b2⟩ := num_bounds hn1
      rw [hn1] at HE
      clear hn1
      cases hn2 : numB hi with
      | false =>
        have HN2 : Hid (∀ w, Calls Tryz.prog 161 #[.int .i64 hi] w fun e w' => e = .returned (.bool false) ∧ w = w') := fun w => by rw [← hn2]; exact number_any hi w
        rw [hn2] at HE
        clear hn2
        go_wp2_with (first | (go_at_call 161; (with_reducible refine (HN1.out _).mono ?_); rintro e w' ⟨rfl, rfl⟩) | (go_at_call 161; (with_reducible refine (HN2.out _).mono ?_); rintro e w' ⟨rfl, rfl⟩))
        go_ret
        exact ⟨ret_bool (by rw [HE.out]; rfl), hb⟩
      | true =>
        have HN2 : Hid (∀ w, Calls Tryz.prog 161 #[.int .i64 hi] w fun e w' => e = .returned (.bool true) ∧ w = w') := fun w => by rw [← hn2]; exact number_any hi w
        obtain ⟨b3, b4⟩ := num_bounds hn2
        rw [hn2] at HE
        clear hn2
        by_cases a1 : lo ≤ hi
        · by_cases a2 : hi - lo < 1000
          · by_cases a3 : its.length = 0
            · rw [a3] at q4 HE
              go_wp2_with (first | (go_at_call 161; (with_reducible refine (HN1.out _).mono ?_); rintro e w' ⟨rfl, rfl⟩) | (go_at_call 161; (with_reducible refine (HN2.out _).mono ?_); rintro e w' ⟨rfl, rfl⟩))
              go_ret
              exact ⟨ret_bool (by rw [HE.out]; simp [a1, a2]), hb⟩
            · have a3' : ((its.length : Int) == 0) = false := by rw [beq_eq_false_iff_ne]; omega
              go_wp2_with (first | (go_at_call 161; (with_reducible refine (HN1.out _).mono ?_); rintro e w' ⟨rfl, rfl⟩) | (go_at_call 161; (with_reducible refine (HN2.out _).mono ?_); rintro e w' ⟨rfl, rfl⟩))
              go_ret
              exact ⟨ret_bool (by rw [HE.out]; simp [a3]), hb⟩
          · go_wp2_with (first | (go_at_call 161; (with_reducible refine (HN1.out _).mono ?_); rintro e w' ⟨rfl, rfl⟩) | (go_at_call 161; (with_reducible refine (HN2.out _).mono ?_); rintro e w' ⟨rfl, rfl⟩))
            go_ret
            exact ⟨ret_bool (by rw [HE.out, show decide (lo ≤ hi ∧ hi - lo < 1000 ∧ its.length = 0) = false from decide_eq_false (fun h => by omega)]; rfl), hb⟩
        · go_wp2_with (first | (go_at_call 161; (with_reducible refine (HN1.out _).mono ?_); rintro e w' ⟨rfl, rfl⟩) | (go_at_call 161; (with_reducible refine (HN2.out _).mono ?_); rintro e w' ⟨rfl, rfl⟩))
          go_ret
          exact ⟨ret_bool (by rw [HE.out, show decide (lo ≤ hi ∧ hi - lo < 1000 ∧ its.length = 0) = false from decide_eq_false (fun h => by omega)]; rfl), hb⟩
  have k2' : (k == 2) = false := by simpa using k2
  by_cases k3 : k = 3
  rotate_left
  · have k3' : (k == 3) = false := by simpa using k3
    have HE : Hid (varB ⟨nm, k, lo, hi, its⟩ = false) := HV.out.trans (form0 k1 k2 k3)
    clear k1 k2 k3
    go_wp2_with fail
    go_ret
    exact ⟨ret_bool HE.out.symm, hb⟩
  subst k3
  have HE : Hid (varB ⟨nm, 3, lo, hi, its⟩ = (decide (lo = 0 ∧ hi = 0 ∧ 1 ≤ its.length ∧ its.length ≤ 1000) && its.all textB && onceB (bytesOf its))) := HV.out.trans form3
  clear k1 k2 k1' k2'
  by_cases a1 : lo = 0
  rotate_left
  · have a1' : (lo != 0) = true := by simpa using a1
    go_wp2_with fail
    go_ret
    exact ⟨ret_bool (by rw [HE.out]; simp [a1]), hb⟩
  subst a1
  by_cases a2 : hi = 0
  rotate_left
  · have a2' : (hi != 0) = true := by simpa using a2
    go_wp2_with fail
    go_ret
    exact ⟨ret_bool (by rw [HE.out]; simp [a2]), hb⟩
  subst a2
  by_cases a3 : its.length < 1
  · have HE2 : Hid (varB ⟨nm, 3, 0, 0, its⟩ = false) := by
      show varB _ = false
      rw [HE.out, show decide ((0 : Int) = 0 ∧ (0 : Int) = 0 ∧ 1 ≤ its.length ∧ its.length ≤ 1000) = false from decide_eq_false (fun h => by omega)]; rfl
    go_wp2_with fail
    go_ret
    exact ⟨ret_bool HE2.out.symm, hb⟩
  by_cases a4 : 1000 < its.length
  · have HE2 : Hid (varB ⟨nm, 3, 0, 0, its⟩ = false) := by
      show varB _ = false
      rw [HE.out, show decide ((0 : Int) = 0 ∧ (0 : Int) = 0 ∧ 1 ≤ its.length ∧ its.length ≤ 1000) = false from decide_eq_false (fun h => by omega)]; rfl
    go_wp2_with fail
    go_ret
    exact ⟨ret_bool HE2.out.symm, hb⟩
  have HE2 : Hid (varB ⟨nm, 3, 0, 0, its⟩ = (its.all textB && onceB (bytesOf its))) := by
    show varB _ = _
    rw [HE.out, show decide ((0 : Int) = 0 ∧ (0 : Int) = 0 ∧ 1 ≤ its.length ∧ its.length ≤ 1000) = true from decide_eq_true (by omega)]; rfl
  clear HE HV
  have eg : ∀ args w, (callFunc 171 args).run Tryz.prog w = .ok (.enter 171 args) w := enters_of Tryz.func171 (by kernel_rfl) rfl
  have HC := Lib.hid (containsFuncS 171 eg _ its (fun s => !textB s) w1 hit1 (fun s W _ hs _ => validVar1_any s W hs))
  clear eg
  rw [any_not_allT] at HC
  go_wp2_with fail
  refine HC.out.mono ?_
  rintro e w2 ⟨rfl, hb2⟩
  clear HC
  have hbw2 := bthen hb hb2
  have hB2 := hB.now hb2
  have hit2 := hit1.now hb2
  clear q0 q1 q2 q3 q4 hb2
  obtain ⟨q0, q1, q2, q3, q4⟩ := hB2.c5
  cases ht : its.all textB with
  | false =>
    rw [ht] at HE2
    clear ht
    go_wp2_with fail
    go_ret
    exact ⟨ret_bool (by rw [HE2.out]; rfl), hbw2⟩
  | true =>
    rw [ht] at HE2
    clear ht
    go_wp2_with fail
    refine (cloneS _ its w2 hit2 (by omega)).mono ?_
    rintro e w3 ⟨cv, rfl, hown, hb3⟩
    have hlt2 := hB2.lt
    have hbw3 := bthen hbw2 hb3
    have hB3 := hB2.now hb3
    clear q0 q1 q2 q3 q4
    go_wp2_with fail
    have hbl : (bytesOf its).length = its.length := by unfold bytesOf; rw [List.length_map]
    refine (sortS _ _ _ _ (own_bytes hown) (by omega)).mono ?_
    rintro e w4 ⟨rfl, hown4, hb4⟩
    have hbw4 := hbw3.trans (hb4.mono (by omega))
    have hB4 := hB3.below hb4 hlt2
    have hsz4 : w2.heap.size ≤ w4.heap.size := Nat.le_trans hb3.size hb4.size
    have hsl := sortB_len (bytesOf its)
    clear hb3 hb4 hB3 hbw3 hown hB2 hbw2
    have HLT : Hid (∀ s ∈ Lib.compact (sortB (bytesOf its)), s.length ≤ maxLen) := fun s hs => by
      have := (setB_mem (bytesOf its) s).1 hs
      unfold bytesOf at this
      obtain ⟨z, hz, rfl⟩ := List.mem_map.1 this
      obtain ⟨q, hq, rfl⟩ := List.mem_iff_getElem.1 hz
      obtain ⟨_, _, z', _, _, hz', hf, _⟩ := hit2.at_ hq
      rw [List.getElem?_eq_getElem hq] at hz'
      injection hz' with hz'
      rw [hz']; exact hf
    have HCP : Hid (Calls Tryz.prog 174 #[cv] w4.drew fun e w' => ∃ A' c', e = .returned (.slice A' (setB (bytesOf its)).length c') ∧ Below w2.heap.size w4 w') := by
      refine (compactS cv _ _ w4.drew hown4 (by omega) HLT.out).mono ?_
      rintro e w' ⟨v', rfl, hsl', hb'⟩
      obtain ⟨A', c', rfl, _, _, _⟩ := hsl'.open_
      refine ⟨A', c', ?_, below_drew_left hb'⟩
      rw [List.length_map]; rfl
    have HS : Hid (∀ W, Below w2.heap.size w4 W → W.cell? ⟨w.heap.size, 4, none⟩ = some (.slice A its.length c)) := fun W hW => (hW.cell (p := ⟨w.heap.size, 4, none⟩) hlt2).trans hB4.c5.2.2.2.2
    have HO := Lib.hid (once_iff (bytesOf its))
    rw [hbl] at HO
    generalize (setB (bytesOf its)).length = L at *
    have HSM : Hid (((L : Int) == (its.length : Int)) = decide (L = its.length)) := by
      show ((L : Int) == (its.length : Int)) = _
      by_cases h : L = its.length
      · simp [h]
      · have h' : ¬ ((L : Int) = (its.length : Int)) := by omega
        simp [h, h']
    generalize decide (L = its.length) = r at *
    have hLr := HSM.out
    have hbd : Below w2.heap.size w4 w4.drew := (Below.refl _ _).drew
    have a0 := HS.out _ hbd
    go_upto_region 13 with fail
    go_region_held3 (fun W => W.cell? ⟨w.heap.size, 4, none⟩ = some (.slice A its.length c)) (exact HS.out _ (by assumption))
      (first
      | (go_at_call 174; (with_reducible refine HCP.out.mono ?_); rintro e w5 ⟨A', c', rfl, hb5⟩))
    go_wp2_with fail
    go_ret
    exact ⟨ret_bool (by rw [HE2.out, HO.out]; rfl), hbw4.trans (hb5.mono (by omega))⟩
end Go.Proofs.YtlmenhjlgmejkaaGreatDoor

namespace Go.Proofs.YtlmenhjlgmejkaaGreatDoor
open Go.RowKit
def sameS (s : ByteArray) (y : ByteArray) : Bool := y.toList == s.toList
theorem atS_hit (l : List ByteArray) (s : ByteArray) (j : Nat) (y : ByteArray) (hy : l[j]? = some y) (h : sameS s y = true) (hn : ∀ q z, q < j → l[q]? = some z → sameS s z = false) : atS l s = j := by
  have hj : j < l.length := by
    rcases Nat.lt_or_ge j l.length with h | h
    · exact h
    · rw [List.getElem?_eq_none h] at hy; cases hy
  have : l.findIdx? (fun y => y.toList == s.toList) = some j := by
    rw [List.findIdx?_eq_some_iff_getElem]
    refine ⟨hj, ?_, fun q hq => ?_⟩
    · rw [List.getElem?_eq_getElem hj] at hy; injection hy with hy; rw [hy]; exact h
    · have := hn q _ hq (List.getElem?_eq_getElem (by omega)); simpa [sameS] using this
  unfold atS; rw [this]
theorem atS_miss (l : List ByteArray) (s : ByteArray) (hn : ∀ q z, q < l.length → l[q]? = some z → sameS s z = false) : atS l s = -1 := by
  have : l.findIdx? (fun y => y.toList == s.toList) = none := by
    rw [List.findIdx?_eq_none_iff]
    intro x hx
    obtain ⟨q, hq, rfl⟩ := List.mem_iff_getElem.1 hx
    exact hn q _ hq (List.getElem?_eq_getElem hq)
  unfold atS; rw [this]
theorem atS_any (l : List ByteArray) (s : ByteArray) : decide (0 ≤ atS l s) = l.any (sameS s) := by
  unfold atS
  cases h : l.findIdx? (fun y => y.toList == s.toList) with
  | none =>
    rw [List.findIdx?_eq_none_iff] at h
    rw [Bool.eq_iff_iff]
    simp
    exact fun x hx => by have := h x hx; simpa [sameS] using this
  | some i =>
    rw [List.findIdx?_eq_some_iff_getElem] at h
    obtain ⟨h1, h2, _⟩ := h
    rw [Bool.eq_iff_iff]
    simp
    exact ⟨_, List.getElem_mem h1, h2⟩
set_option maxHeartbeats 400000 in
theorem index_ref (v : Value) (l : List ByteArray) (s : ByteArray) (w : World) (hv : SlS (Lt w.heap.size) w v l) :
    Calls Tryz.prog 150 #[v, .string s] w fun e w' => e = .returned (.int .i64 (atS l s)) ∧ w = w' := by
  obtain ⟨A, c, rfl, h1, h2, hv⟩ := hv.open_
  go_enter Tryz.func150, Tryz.ntmps150
  go_wp2_with fail
  go_loop [5] (fun i => ∃ k : Nat, k ≤ l.length ∧ i = .int .i64 k ∧ ∀ j y, j < k → l[j]? = some y → sameS s y = false) (fun i => l.length - (intOf i).toNat)
  case atStart => exact ⟨0, Nat.zero_le _, rfl, fun j _ h => absurd h (by omega)⟩
  case round =>
    obtain ⟨k, hk, rfl, hp⟩ := hrel
    have HP := Lib.hid hp
    clear hp
    by_cases hlt : k < l.length
    · obtain ⟨b, o, y, rfl, hD, hx, hf, hcell⟩ := hv.at_ hlt
      have HX := Lib.hid hx
      clear hx
      cases hq : (y.toList == s.toList) with
      | true =>
        have HE := Lib.hid (atS_hit l s k y HX.out hq HP.out)
        go_wp2_with fail
        go_ret
        exact ⟨ret_int HE.out.symm, rfl⟩
      | false =>
        have HQ : Hid (sameS s y = false) := hq
        go_wp2_with fail
        go_round
        case rel => exact ⟨k + 1, by omega, by go_num, fun j z hj hz => by
          by_cases e : j = k
          · subst e; rw [HX.out] at hz; injection hz with hz; rw [← hz]; exact HQ.out
          · exact HP.out j z (by omega) hz⟩
        case measure => simp [intOf]; omega
    · have HE := Lib.hid (atS_miss l s (fun q z hq hz => HP.out q z (by omega) hz))
      go_wp2_with fail
      go_ret
      exact ⟨ret_int HE.out.symm, rfl⟩
def FineTo (its : List ByteArray) (k : Nat) : Prop := ∀ (j : Nat) s, j < k → its[j]? = some s → textB s = true ∧ (its.take j).any (sameS s) = false
theorem sameS_iff (s y : ByteArray) : sameS s y = true ↔ y.data.toList = s.data.toList := by
  unfold sameS
  rw [Lib.toList_data, Lib.toList_data]
  simp
theorem fine_all {its : List ByteArray} (h : FineTo its its.length) : (its.all textB && onceB (bytesOf its)) = true := by
  rw [Bool.and_eq_true]
  constructor
  · rw [List.all_eq_true]
    intro s hs
    obtain ⟨j, hj, rfl⟩ := List.mem_iff_getElem.1 hs
    exact (h j _ hj (List.getElem?_eq_getElem hj)).1
  · unfold onceB
    rw [decide_eq_true_eq]
    unfold List.Nodup
    rw [List.pairwise_iff_getElem]
    intro i j hi hj hij e
    have hj' : j < its.length := by simpa [bytesOf] using hj
    have h2 := (h j _ hj' (List.getElem?_eq_getElem hj')).2
    rw [List.any_eq_false] at h2
    refine h2 its[i] ?_ ?_
    · rw [List.mem_take_iff_getElem]
      exact ⟨i, by omega, rfl⟩
    · rw [sameS_iff]
      simpa [bytesOf] using e
theorem fine_text {its : List ByteArray} {j : Nat} {s : ByteArray} (hs : its[j]? = some s) (h : textB s = false) : (its.all textB && onceB (bytesOf its)) = false := by
  rw [Bool.and_eq_false_iff]
  left
  rw [Bool.eq_false_iff]
  intro h'
  rw [List.all_eq_true.1 h' s (List.mem_of_getElem? hs)] at h
  cases h
theorem fine_twice {its : List ByteArray} {j : Nat} {s : ByteArray} (hs : its[j]? = some s) (h : (its.take j).any (sameS s) = true) : (its.all textB && onceB (bytesOf its)) = false := by
  rw [Bool.and_eq_false_iff]
  right
  unfold onceB
  rw [decide_eq_false_iff_not]
  intro hn
  obtain ⟨y, hy, hsy⟩ := List.any_eq_true.1 h
  rw [List.mem_take_iff_getElem] at hy
  obtain ⟨i, hi, rfl⟩ := hy
  rw [sameS_iff] at hsy
  have hj : j < its.length := by
    rcases Nat.lt_or_ge j its.length with h | h
    · exact h
    · rw [List.getElem?_eq_none h] at hs; cases hs
  rw [List.getElem?_eq_getElem hj] at hs
  injection hs with hs
  unfold List.Nodup at hn
  rw [List.pairwise_iff_getElem] at hn
  refine hn i j (by simp [bytesOf]; omega) (by simpa [bytesOf] using hj) (by omega) ?_
  simp only [bytesOf, List.getElem_map]
  rw [hs, hsy]
end Go.Proofs.YtlmenhjlgmejkaaGreatDoor

namespace Go.Proofs.YtlmenhjlgmejkaaGreatDoor
open Go.RowKit Go.Maps Go.WideMaps
section
variable {P : Program} {t k e : TypeId}
theorem plainElem_bool_inv (he : P.underlying e = some .bool) {v : Value} {z : DataW Unit × List MemPlace} (h : plainElem P e v = some z) : ∃ a, v = .bool a ∧ z = (.lit (.bool a), []) := by
  unfold plainElem at h
  rw [he] at h
  cases v <;> simp at h
  subst h
  exact ⟨_, rfl, rfl⟩
def SetP (P : Program) (k e : TypeId) (w : World) (b n : Nat) (l : List (List UInt8)) : Prop :=
  ∃ D : DataW Unit, w.ownsMap P k (plainElem P e) b n D ∧ IsMap D ∧ ∀ s : List UInt8, D.atKey (.string s) (.lit (.bool false)) = .lit (.bool (decide (s ∈ l)))
theorem SetP.made (w : World) : SetP P k e (w.alloc (.map #[] 0)) w.heap.size 0 [] :=
  ⟨.map [], World.ownsMap_made w _ _ _, isMap_empty, fun s => by rw [show decide (s ∈ ([] : List (List UInt8))) = false by simp]; rfl⟩
theorem SetP.now {w w' : World} {b n : Nat} {l : List (List UInt8)} (h : SetP P k e w b n l) (hb : Below w.heap.size w w') : SetP P k e w' b n l := by
  obtain ⟨D, h1, h2, h3⟩ := h
  exact ⟨D, h1.kept (grown_of_below hb none) (by simp), h2, h3⟩
theorem SetP.lt {w : World} {b n : Nat} {l : List (List UInt8)} (h : SetP P k e w b n l) : b < w.heap.size := by
  obtain ⟨D, h1, h2, h3⟩ := h
  exact h1.lt
theorem SetP.look {w : World} {b n : Nat} {l : List (List UInt8)} (h : SetP P k e w b n l) (ht : P.underlying t = some (.map k e)) (hk : P.underlying k = some .string) (he : P.underlying e = some .bool) (hz : (zeroValue e).run P w = .ok (.bool false) w) {s : ByteArray} (hs : s.size ≤ maxLen) :
    (Instr.lookup t (.map (some b)) (.string s) false).run P w = .ok (.bool (decide (s.data.toList ∈ l))) w := by
  obtain ⟨D, h1, h2, h3⟩ := h
  obtain ⟨v, ps, hrun, hv⟩ := h1.lookup (string_keyed hk) ht hz (plainElem_bool he false) (keyOf_string_mk hk hs)
  obtain ⟨c, rfl, hc⟩ := plainElem_bool_inv he hv
  rw [h3] at hc
  simp only [Prod.mk.injEq, DataW.lit.injEq, Lit.bool.injEq] at hc
  rw [hc.1]
  exact hrun
theorem SetP.put {w : World} {b n : Nat} {l : List (List UInt8)} (h : SetP P k e w b n l) (ht : P.underlying t = some (.map k e)) (hk : P.underlying k = some .string) (he : P.underlying e = some .bool) {s : ByteArray} (hs : s.size ≤ maxLen) (hn : n < maxLen) :
    ∃ w', (Instr.mapUpdate t (.map (some b)) (.string s) (.bool true)).run P w = .ok () w' ∧ SetP P k e w' b (n + 1) (l ++ [s.data.toList]) ∧ w.grownBy w' (some b) := by
  obtain ⟨D, h1, h2, h3⟩ := h
  obtain ⟨w', r0, r1, r2⟩ := h1.update (string_keyed hk) ht hn (keyOf_string_mk hk hs) (plainElem_bool he true)
  refine ⟨w', r0, ⟨_, r1, h2.put _ _, fun t => ?_⟩, r2⟩
  by_cases e : t = s.data.toList
  · subst e
    rw [atKey_put_same h2 (by simp [WideAt.IsKeyLit])]
    simp
  · rw [atKey_put_other (by simpa using e), h3]
    simp [e]
end
def SetS := SetP Tryz.prog 9 4
theorem SetS.made (w : World) : SetS (w.alloc (.map #[] 0)) w.heap.size 0 [] := SetP.made w
theorem SetS.now {w w' : World} {b n : Nat} {l : List (List UInt8)} (h : SetS w b n l) (hb : Below w.heap.size w w') : SetS w' b n l := SetP.now h hb
theorem SetS.lt {w : World} {b n : Nat} {l : List (List UInt8)} (h : SetS w b n l) : b < w.heap.size := SetP.lt h
theorem SetS.look {w : World} {b n : Nat} {l : List (List UInt8)} (h : SetS w b n l) {s : ByteArray} (hs : s.size ≤ maxLen) :
    (Instr.lookup 201 (.map (some b)) (.string s) false).run Tryz.prog w = .ok (.bool (decide (s.data.toList ∈ l))) w :=
  SetP.look h Tryz.underlying201 Tryz.underlying9 Tryz.underlying4 (by kernel_rfl) hs
theorem SetS.store {w : World} {ops : Array Oper} {rest : List Oper} {o : Oper} {a : Act} {Q : Exit → Act → World → Prop} {b n : Nat} {l : List (List UInt8)} {s : ByteArray}
    (h : SetS w b n l) (hs : s.size ≤ maxLen) (hn : n < maxLen) (hg : o.guard = none) (m x v : Operand) (hop : o.op = Op.mapUpdate 201 m x v)
    (hm : a.eval m = .map (some b)) (hx : a.eval x = .string s) (hv : a.eval v = .bool true)
    (hK : ∀ w', SetS w' b (n + 1) (l ++ [s.data.toList]) → w.grownBy w' (some b) → wpList Tryz.prog ops Q rest (a.put o.dst undef) w') :
    wpList Tryz.prog ops Q (o :: rest) a w := by
  refine wpList_plain hg fun K' hK' => ?_
  obtain ⟨w', hrun, r1, r2⟩ := SetP.put h Tryz.underlying201 Tryz.underlying9 Tryz.underlying4 hs hn
  unfold Oper.wp
  simp [execOp, hop, hm, hx, hv, hrun, Result.andThen]
  exact hK' _ _ (hK w' r1 r2)
end Go.Proofs.YtlmenhjlgmejkaaGreatDoor

namespace Go.Proofs.YtlmenhjlgmejkaaGreatDoor
open Go.RowKit
def Bld (w : World) (B b : Nat) (l : List UInt8) : Prop := Lib.IsBuilderF 166 5 B b (Lib.byteCells l) w
theorem builderSize : (Tryz.prog.info? 166).map (·.size) = some 2 := by kernel_rfl
theorem builderLies : liesAt Tryz.prog Tryz.prog.depth 166 (2 / Tryz.prog.cellsOf 166) 0 166 1 = true := by kernel_rfl
theorem byteInfo : (Tryz.prog.info? 5).map (fun i => (i.zero, i.size, i.bytes)) = some (some (.int .u8 0), 1, 1) := by kernel_rfl
set_option maxHeartbeats 1000000 in
set_option maxRecDepth 100000 in
theorem copyCheck_used (b : Nat) (w : World) (h0 : w.cell? ⟨b, 0, none⟩ = some (.pointer (some ⟨b, 0, none⟩))) :
    Calls Tryz.prog 151 #[.pointer (some ⟨b, 0, none⟩)] w fun e w' => e = .returned (.tuple #[]) ∧ w' = w := by
  obtain ⟨j, hj, _⟩ := Option.map_eq_some_iff.1 builderSize
  go_enter Tryz.func151, Tryz.ntmps151
  go_wp2
  rw [Lib.run_neq_ptr_same w _ Tryz.underlying164 hj]
  go_wp2
  go_end0
  exact ⟨rfl, rfl⟩
set_option maxHeartbeats 1000000 in
set_option maxRecDepth 100000 in
theorem copyCheck_fresh (b : Nat) (w : World) (h0 : w.cell? ⟨b, 0, none⟩ = some (.pointer none)) (hsh : w.shape? b = some (166, 2)) (hfz : w.frozen? ⟨b, 0, none⟩ = false) :
    Calls Tryz.prog 151 #[.pointer (some ⟨b, 0, none⟩)] w fun e w' => e = .returned (.tuple #[]) ∧ w' = w.setCell ⟨b, 0, none⟩ (.pointer (some ⟨b, 0, none⟩)) := by
  obtain ⟨j, hj, hjs⟩ := Option.map_eq_some_iff.1 builderSize
  go_enter Tryz.func151, Tryz.ntmps151
  go_wp2
  rw [Lib.run_to_unsafe w ⟨b, 0, none⟩ Tryz.underlying164 Tryz.underlying204 hj (by rw [hjs]; decide) hsh (Nat.zero_lt_succ 1)]
  simp only [Result.andThen]
  rw [Oper.upon_value]
  go_wp2
  rw [run_callFunc_extern Tryz.func175 (by kernel_rfl) (by kernel_rfl) (by kernel_rfl) (e := Extern.AbiNoEscape.same) (by kernel_rfl)]
  rw [Lib.run_noEscape]
  simp only [Result.andThen]
  rw [Oper.upon_value]
  go_wp2
  rw [Lib.run_from_unsafe w ⟨b, 0, none⟩ Tryz.underlying204 Tryz.underlying164 hj hsh builderLies]
  simp only [Result.andThen]
  rw [Oper.upon_value]
  go_wp2
  go_end0
  exact ⟨rfl, rfl⟩
theorem copyCheck_any (B b : Nat) (bs : List Value) (w : World) (h : Lib.IsBuilderF 166 5 B b bs w) :
    Calls Tryz.prog 151 #[.pointer (some ⟨b, 0, none⟩)] w fun e w' => e = .returned (.tuple #[]) ∧ (Lib.BuilderAtF 166 5 B b (.pointer (some ⟨b, 0, none⟩)) bs w' ∧ Below B w w' ∧ Lib.OthersKept 5 (some b) w w') := by
  rcases h with h | h
  · refine (copyCheck_fresh b w h.cell0 h.shape h.frozen0).mono ?_
    rintro e w' ⟨rfl, rfl⟩
    exact ⟨rfl, h.used _, (Below.refl B w).setCell (p := ⟨b, 0, none⟩) h.1 _, (Lib.OthersKept.refl _ _ w).setCell ⟨b, 0, none⟩ rfl _⟩
  · refine (copyCheck_used b w h.cell0).mono ?_
    rintro e w' ⟨rfl, rfl⟩
    exact ⟨rfl, h, Below.refl B _, Lib.OthersKept.refl _ _ _⟩
set_option maxHeartbeats 2000000 in
set_option maxRecDepth 100000 in
theorem writeString_any (B b : Nat) (l : List UInt8) (s : ByteArray) (w : World) (h : Bld w B b l) (hlen : l.length + s.size ≤ 140737488355328) (hBw : B ≤ w.heap.size) :
    Calls Tryz.prog 113 #[.pointer (some ⟨b, 0, none⟩), .string s] w fun e w' => e = .returned (.tuple #[.int .i64 s.size, .nilIface]) ∧ (Bld w' B b (l ++ s.data.toList) ∧ Below B w w' ∧ Lib.OthersKept 5 (some b) w w') := by
  obtain ⟨i0, hi, hz0, hz1, hz2⟩ := info_parts byteInfo
  have hbl : (Lib.byteCells l).length = l.length := Lib.byteCells_length l
  go_enter Tryz.func113, Tryz.ntmps113
  go_wp2_with (go_at_call 151; refine (copyCheck_any B b (Lib.byteCells l) _ h).mono ?_)
  rintro e w1 ⟨rfl, h1, hb1, hk1⟩
  obtain ⟨hB, v, hbk, hown, hne⟩ := h1
  have c0 : w1.cell? ⟨b, 0, none⟩ = some (.pointer (some ⟨b, 0, none⟩)) := by rw [Lib.cell_of_heap hbk]; rfl
  have c1 : w1.cell? ⟨b, 1, none⟩ = some v := by rw [Lib.cell_of_heap hbk]; rfl
  have HBL := Lib.hid hbl
  clear hbl
  go_wp2_with (at_builtin; refine Lib.wpList_append_own_stringF _ rfl _ _ 91 9 rfl B 5 i0 Tryz.underlying91 Tryz.underlying9 hi hz0 hz1 hz2 _ _ _ rfl hown s rfl ?c3 ?c4 ?c5 ?_)
  case c3 => have := HBL.out; unfold maxLen; omega
  case c4 => have := HBL.out; omega
  case c5 => have := hb1.size; omega
  intro v' w2 hown' hgrow _
  have hlt : b < w1.heap.size := by
    rcases Nat.lt_or_ge b w1.heap.size with h' | h'
    · exact h'
    · simp [Array.getElem?_eq_none h'] at hbk
  have hb2 : w2.heap[b]? = some (.cells #[.pointer (some ⟨b, 0, none⟩), v] 166 (0, 0)) := by
    rw [hgrow.block b hlt (fun e => hne e.symm)]
    exact hbk
  have d0 : w2.cell? ⟨b, 0, none⟩ = some (.pointer (some ⟨b, 0, none⟩)) := by rw [Lib.cell_of_heap hb2]; rfl
  have d1 : w2.cell? ⟨b, 1, none⟩ = some v := by rw [Lib.cell_of_heap hb2]; rfl
  have f1 : w2.frozen? ⟨b, 1, none⟩ = false := Lib.frozen_of_heap hb2 1
  obtain ⟨ao, n', cap, rfl⟩ : ∃ ao n' cap, v' = .slice ao n' cap := by
    rcases hown'.2 with ⟨hv, _⟩ | ⟨g, cap, cur, fz, hv, _⟩
    · exact ⟨_, _, _, hv⟩
    · exact ⟨_, _, _, hv⟩
  go_wp2
  go_ret2
  refine ⟨rfl, ?_, ?_, (hk1.grown hgrow (Lib.ownsRowF_kind hown)).setCell ⟨b, 1, none⟩ rfl _⟩
  · right
    rw [Lib.byteCells_append, ← Lib.strCells_eq]
    exact Lib.BuilderAtF.put (T := 166) (e := 5) hB hb2 (bs' := Lib.byteCells l ++ Lib.strCells s) (by simpa [Lib.strCells_length] using hown') (by decide)
  · exact (hb1.grown hgrow (by have := hb1.size; omega) (fun k hk => (hown.lt k hk).1)).setCell (p := ⟨b, 1, none⟩) hB _
set_option maxHeartbeats 2000000 in
set_option maxRecDepth 100000 in
theorem writeByte_any (B b : Nat) (l : List UInt8) (c : UInt8) (w : World) (h : Bld w B b l) (hlen : l.length + 1 ≤ 140737488355328) (hBw : B ≤ w.heap.size) :
    Calls Tryz.prog 194 #[.pointer (some ⟨b, 0, none⟩), .int .u8 (c.toNat : Int)] w fun e w' => e = .returned .nilIface ∧ (Bld w' B b (l ++ [c]) ∧ Below B w w' ∧ Lib.OthersKept 5 (some b) w w') := by
  obtain ⟨i0, hi, hz0, hz1, hz2⟩ := info_parts byteInfo
  have hbl : (Lib.byteCells l).length = l.length := Lib.byteCells_length l
  have HC : Hid (Lib.byteCells (l ++ [c]) = Lib.byteCells l ++ [.int .u8 (c.toNat : Int)]) := by show _ = _; rw [Lib.byteCells_append]; rfl
  generalize (c.toNat : Int) = z at *
  go_enter Tryz.func194, Tryz.ntmps194
  go_wp2_with (go_at_call 151; refine (copyCheck_any B b (Lib.byteCells l) _ h).mono ?_)
  rintro e w1 ⟨rfl, h1, hb1, hk1⟩
  obtain ⟨hB, v, hbk, hown, hne⟩ := h1
  have c0 : w1.cell? ⟨b, 0, none⟩ = some (.pointer (some ⟨b, 0, none⟩)) := by rw [Lib.cell_of_heap hbk]; rfl
  have c1 : w1.cell? ⟨b, 1, none⟩ = some v := by rw [Lib.cell_of_heap hbk]; rfl
  have HBL := Lib.hid hbl
  clear hbl
  go_wp2_with (at_builtin; refine wpList_append_ownF _ rfl _ _ 91 rfl B 5 i0 (.int .u8 0) 1 1 Tryz.underlying91 hi hz0 hz1 hz2 rfl (by decide) _ _ _ rfl (hown.alloc _) ⟨w1.heap.size, 0, none⟩ 1 1 [.int .u8 z] rfl rfl ?c1 ?c2 ?c3 ?c4 ?c5 ?_)
  case c1 =>
    intro j u hj
    match j, hj with
    | 0, hj => simp at hj; subst hj; simp [Addr.add]
  case c2 => intro u hu; simp at hu; subst hu; rfl
  case c3 => have := HBL.out; unfold maxLen; omega
  case c4 => have := HBL.out; omega
  case c5 => have := hb1.size; simp; omega
  intro v' w2 hown' hgrow _
  have hlt : b < w1.heap.size := by
    rcases Nat.lt_or_ge b w1.heap.size with h' | h'
    · exact h'
    · simp [Array.getElem?_eq_none h'] at hbk
  have hb2 : w2.heap[b]? = some (.cells #[.pointer (some ⟨b, 0, none⟩), v] 166 (0, 0)) := by
    rw [hgrow.block b (by simp; omega) (fun e => hne e.symm), Lib.alloc_old w1 _ b hlt]
    exact hbk
  have d0 : w2.cell? ⟨b, 0, none⟩ = some (.pointer (some ⟨b, 0, none⟩)) := by rw [Lib.cell_of_heap hb2]; rfl
  have d1 : w2.cell? ⟨b, 1, none⟩ = some v := by rw [Lib.cell_of_heap hb2]; rfl
  have f1 : w2.frozen? ⟨b, 1, none⟩ = false := Lib.frozen_of_heap hb2 1
  obtain ⟨ao, n', cap, rfl⟩ : ∃ ao n' cap, v' = .slice ao n' cap := by
    rcases hown'.2 with ⟨hv, _⟩ | ⟨g, cap, cur, fz, hv, _⟩
    · exact ⟨_, _, _, hv⟩
    · exact ⟨_, _, _, hv⟩
  go_wp2
  go_ret
  refine ⟨rfl, ?_, ?_, ((hk1.alloc _).grown hgrow (Lib.ownsRowF_kind (hown.alloc _))).setCell ⟨b, 1, none⟩ rfl _⟩
  · right
    rw [HC.out]
    exact Lib.BuilderAtF.put (T := 166) (e := 5) hB hb2 (bs' := Lib.byteCells l ++ [.int .u8 z]) (by simpa using hown') (by decide)
  · exact ((hb1.alloc (by have := hb1.size; omega) _).grown hgrow (by have := hb1.size; simp; omega) (fun k hk => (hown.lt k hk).1)).setCell (p := ⟨b, 1, none⟩) hB _
theorem string_any (B b : Nat) (l : List UInt8) (w : World) (h : Bld w B b l) (hBw : B ≤ w.heap.size) :
    Calls Tryz.prog 116 #[.pointer (some ⟨b, 0, none⟩)] w fun e w' => e = .returned (.string ⟨l.toArray⟩) ∧ (Bld w' B b l ∧ Below B w w' ∧ Lib.OthersKept 5 (some b) w w') :=
  Tryz.Builder_String_any_k B b l w h hBw
theorem Bld.new {w : World} {b B : Nat} (hb : Blk w b 166 #[.pointer none, .slice none 0 0]) (hB : B ≤ b) : Bld w B b [] := by
  left
  exact ⟨hB, .slice none 0 0, hb, World.ownsRowF_nil _ _ _ _, by simp [Value.ownBlock]⟩
theorem at_now {w w' : World} {B b : Nat} {p : Value} {bs : List Value} (h : Lib.BuilderAtF 166 5 B b p bs w) (hb : Below w.heap.size w w') : Lib.BuilderAtF 166 5 B b p bs w' := by
  obtain ⟨hB, v, hbk, hown, hne⟩ := h
  have hlt : b < w.heap.size := by
    rcases Nat.lt_or_ge b w.heap.size with h' | h'
    · exact h'
    · rw [Array.getElem?_eq_none h'] at hbk; cases hbk
  refine ⟨hB, v, (hb.block b hlt).trans hbk, hown.kept (grown_of_below hb none) ?_, hne⟩
  cases e : v.ownBlock with
  | none => exact .inl rfl
  | some g => exact .inr (by simp)
theorem Bld.now {w w' : World} {B b : Nat} {l : List UInt8} (h : Bld w B b l) (hb : Below w.heap.size w w') : Bld w' B b l := by
  rcases h with h | h
  · exact .inl (at_now h hb)
  · exact .inr (at_now h hb)
end Go.Proofs.YtlmenhjlgmejkaaGreatDoor

namespace Go.Proofs.YtlmenhjlgmejkaaGreatDoor
open Go.RowKit
structure Tr where
  label : ByteArray
  ins : List Int
  outs : List Int
structure Net where
  places : Int
  trans : List Tr
  source : Int
  sink : Int
def RTr : ElemR Tr := fun D w t cs => ∃ iv ov, cs = [.string t.label, iv, ov] ∧ t.label.size ≤ maxLen ∧ SlI D w iv t.ins ∧ SlI D w ov t.outs
theorem RTr.kept : ElemR.Kept RTr := by
  rintro D D' w w' x cs hd hs ⟨iv, ov, rfl, hl, hi, ho⟩
  exact ⟨iv, ov, rfl, hl, Sl.keep hi RInt.kept hd hs, Sl.keep ho RInt.kept hd hs⟩
def SlT := Sl 3 RTr
def IsTr (D : Nat → Prop) (w : World) (v : Value) (t : Tr) : Prop := ∃ iv ov, v = .agg #[.string t.label, iv, ov] ∧ t.label.size ≤ maxLen ∧ SlI D w iv t.ins ∧ SlI D w ov t.outs
def IsNet (D : Nat → Prop) (w : World) (v : Value) (n : Net) : Prop :=
  ∃ tv, v = .agg #[.int .i64 n.places, tv, .int .i64 n.source, .int .i64 n.sink] ∧ Fit n.places ∧ Fit n.source ∧ Fit n.sink ∧ SlT D w tv n.trans
section
variable {D D' : Nat → Prop} {w w' : World} {v : Value}
theorem SlT.below {zs : List Tr} {B B' : Nat} (h : SlT (Lt B) w v zs) (hb : Below B w w') (hB : B ≤ B') : SlT (Lt B') w' v zs := Sl.below h RTr.kept hb hB
theorem SlT.open_ {zs : List Tr} (h : SlT D w v zs) : ∃ A c, v = .slice A zs.length c ∧ zs.length ≤ c ∧ c ≤ 9223372036854775807 ∧ SlT D w (.slice A zs.length c) zs := Sl.open_ h
theorem SlT.at_ {zs : List Tr} {A : Option Addr} {n c k : Nat} (h : SlT D w (.slice A n c) zs) (hk : k < n) :
    ∃ b o t iv ov, A = some ⟨b, o, none⟩ ∧ D b ∧ zs[k]? = some t ∧ t.label.size ≤ maxLen ∧ SlI D w iv t.ins ∧ SlI D w ov t.outs ∧
      w.cell? ⟨b, o + k * 3, none⟩ = some (.string t.label) ∧ w.cell? ⟨b, o + k * 3 + 1, none⟩ = some iv ∧ w.cell? ⟨b, o + k * 3 + 2, none⟩ = some ov := by
  obtain ⟨b, o, x, u0, u1, u2, hA, hD, hx, ⟨iv, ov, hu, hl, hi, ho⟩, h0, h1, h2⟩ := Sl.at3 h hk
  injection hu with e0 hu; injection hu with e1 hu; injection hu with e2 hu
  subst e0 e1 e2
  exact ⟨b, o, x, u1, u2, hA, hD, hx, hl, hi, ho, h0, h1, h2⟩
theorem IsTr.below {t : Tr} {B B' : Nat} (h : IsTr (Lt B) w v t) (hb : Below B w w') (hB : B ≤ B') : IsTr (Lt B') w' v t := by
  obtain ⟨iv, ov, e, hl, hi, ho⟩ := h
  exact ⟨iv, ov, e, hl, hi.below hb hB, ho.below hb hB⟩
theorem IsNet.below {n : Net} {B B' : Nat} (h : IsNet (Lt B) w v n) (hb : Below B w w') (hB : B ≤ B') : IsNet (Lt B') w' v n := by
  obtain ⟨tv, e, h1, h2, h3, ht⟩ := h
  exact ⟨tv, e, h1, h2, h3, ht.below hb hB⟩
theorem SlT.now {zs : List Tr} (h : SlT (Lt w.heap.size) w v zs) (hb : Below w.heap.size w w') : SlT (Lt w'.heap.size) w' v zs := h.below hb hb.size
theorem IsTr.now {t : Tr} (h : IsTr (Lt w.heap.size) w v t) (hb : Below w.heap.size w w') : IsTr (Lt w'.heap.size) w' v t := h.below hb hb.size
theorem IsNet.now {n : Net} (h : IsNet (Lt w.heap.size) w v n) (hb : Below w.heap.size w w') : IsNet (Lt w'.heap.size) w' v n := h.below hb hb.size
end
end Go.Proofs.YtlmenhjlgmejkaaGreatDoor

namespace Go.Proofs.YtlmenhjlgmejkaaGreatDoor
open Go.RowKit
theorem cloneI (v : Value) (zs : List Int) (w : World) (h : SlI (Lt w.heap.size) w v zs) (hz : zs.length * 8 ≤ 140737488355328) :
    Calls Tryz.prog 64 #[v] w fun e w' => ∃ v', e = .returned v' ∧ w'.ownsRow w.heap.size 3 1 v' zs.length (zs.map (Value.int .i64)) ∧ Below w.heap.size w w' := by
  obtain ⟨A, c, rfl, h1, h2, h⟩ := h.open_
  by_cases hn : 0 < zs.length
  · obtain ⟨b, o, rfl, hD, _, hc⟩ := h.cells hn
    refine (Tryz.slices_Clone_int b o zs.length c zs w (Nat.le_refl _) hz hc).mono ?_
    rintro e w' ⟨v', rfl, ho, _, hb⟩
    rw [List.take_of_length_le (Nat.le_refl _)] at ho
    exact ⟨v', rfl, ho, hb⟩
  · have : zs = [] := List.eq_nil_of_length_eq_zero (by omega)
    subst this
    rcases A with _ | a
    · refine (Tryz.slices_Clone_int_nil _ _ w).mono ?_
      rintro e w' ⟨rfl, rfl⟩
      exact ⟨_, rfl, World.ownsRow_nil _ _ _ _, Below.refl _ _⟩
    · refine (Tryz.slices_Clone_int_zero a c w).mono ?_
      rintro e w' ⟨v', rfl, ho, _, hb⟩
      exact ⟨v', rfl, ho, hb⟩
theorem equalI (u v : Value) (xs ys : List Int) (w : World) (hu : SlI (Lt w.heap.size) w u xs) (hv : SlI (Lt w.heap.size) w v ys) :
    Calls Tryz.prog 38 #[u, v] w fun e w' => e = .returned (.bool (xs == ys)) ∧ ∃ q, w' = w.drewN q := by
  obtain ⟨A, c, rfl, h1, h2, hu⟩ := hu.open_
  obtain ⟨A', c', rfl, h1', h2', hv⟩ := hv.open_
  by_cases hn : 0 < xs.length ∧ 0 < ys.length
  · obtain ⟨b, o, rfl, hD, _, hc⟩ := hu.cells hn.1
    obtain ⟨b', o', rfl, hD', _, hc'⟩ := hv.cells hn.2
    refine (Tryz.slices_Equal_int b o xs.length c b' o' ys.length c' xs ys w (Nat.le_refl _) (Nat.le_refl _) (by omega) (by omega) hc hc').mono ?_
    rintro e w' ⟨rfl, hq⟩
    rw [List.take_of_length_le (Nat.le_refl _), List.take_of_length_le (Nat.le_refl _)]
    exact ⟨rfl, hq⟩
  · by_cases hl : xs.length = ys.length
    · have e1 : xs = [] := List.eq_nil_of_length_eq_zero (by omega)
      have e2 : ys = [] := List.eq_nil_of_length_eq_zero (by omega)
      subst e1 e2
      refine (Tryz.slices_Equal_int_empty A A' c 0 c' w (by omega)).mono ?_
      rintro e w' ⟨rfl, rfl⟩
      exact ⟨rfl, 0, rfl⟩
    · refine (Tryz.slices_Equal_int_lens A A' xs.length c ys.length c' w hl).mono ?_
      rintro e w' ⟨rfl, rfl⟩
      refine ⟨ret_bool ?_, 0, rfl⟩
      symm
      rw [beq_eq_false_iff_ne]
      exact fun e => hl (by rw [e])
theorem maxI (v : Value) (xs : List Int) (w : World) (hu : SlI (Lt w.heap.size) w v xs) (hn : 0 < xs.length) :
    Calls Tryz.prog 133 #[v] w fun e w' => e = .returned (.int .i64 (Lib.maxOf xs)) ∧ w' = w := by
  obtain ⟨A, c, rfl, h1, h2, hu⟩ := hu.open_
  obtain ⟨b, o, rfl, hD, _, hc⟩ := hu.cells hn
  refine (Tryz.slices_Max_int b o xs.length c xs w hn (Nat.le_refl _) (by omega) hc).mono ?_
  rintro e w' ⟨rfl, hq⟩
  rw [List.take_of_length_le (Nat.le_refl _)]
  exact ⟨rfl, hq⟩
end Go.Proofs.YtlmenhjlgmejkaaGreatDoor
