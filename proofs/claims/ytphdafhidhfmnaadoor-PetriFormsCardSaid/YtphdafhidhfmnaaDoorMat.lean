/- matrix.Valid. -/
import Derived.Test.YtphdafhidhfmnaaDoorSearch
import Derived.Test.YtphdafhidhfmnaaDoorMatSpec
namespace Go.Proofs.YtphdafhidhfmnaaDoor
open Go.RowKit

set_option maxHeartbeats 400000 in
theorem entries1_any (z : Int) (v : Value) (w : World) (D : Nat → Prop) (h : IsI D w v z) :
    Calls Tryd.prog 88 #[v] w fun e w' => e = .returned (.bool (!entryB z)) ∧ Below w.heap.size w w' := by
  obtain ⟨rfl, hf⟩ := h
  unfold entryB
  by_cases h1 : -1048576 ≤ z <;> by_cases h2 : z ≤ 1048576
  all_goals
    go_enter Tryd.func88, Tryd.ntmps88
    go_wp2
    go_ret
    exact ⟨by simp [h1, h2], Below.refl _ _⟩

theorem any_not_entry (m : List Int) : m.any (fun z => !entryB z) = !entriesB m := by
  unfold entriesB
  induction m with
  | nil => rfl
  | cons a m ih => simp [List.any_cons, List.all_cons, ih]
theorem any_not_row (c : Nat) (m : List (List Int)) : m.any (fun r => !rowOk c r) = !m.all (rowOk c) := by
  induction m with
  | nil => rfl
  | cons a m ih => simp [List.any_cons, List.all_cons, ih]

set_option maxHeartbeats 400000 in
theorem entries_any (v : Value) (r : List Int) (w : World) (hr : SlI (Lt w.heap.size) w v r) :
    Calls Tryd.prog 62 #[v] w fun e w' => e = .returned (.bool (entriesB r)) ∧ Below w.heap.size w w' := by
  have eg : ∀ args w, (callFunc 88 args).run Tryd.prog w = .ok (.enter 88 args) w := enters_of Tryd.func88 (by kernel_rfl) rfl
  have HC := Lib.hid (containsFuncI 88 eg #[] v r (fun z => !entryB z) w hr (fun x v w1 _ _ _ h => entries1_any x v w1 _ h))
  clear eg
  obtain ⟨A, c, rfl, h1, h2, hr⟩ := hr.open_
  go_enter Tryd.func62, Tryd.ntmps62
  go_wp2_with fail
  refine HC.out.mono ?_
  rintro e w1 ⟨rfl, hb1⟩
  rw [any_not_entry]
  generalize hq : entriesB r = q
  have HQ := Lib.hid hq
  clear hq
  go_wp2_with fail
  go_ret
  exact ⟨ret_bool HQ.out.symm, hb1⟩

/-- A row as a value. -/
def IsRow (D : Nat → Prop) (w : World) (v : Value) (r : List Int) : Prop := SlI D w v r

set_option maxHeartbeats 400000 in
theorem indexFuncR (k : FuncId) (eg : ∀ args w, (callFunc k args).run Tryd.prog w = .ok (.enter k args) w) (cap : Array Value) (tv : Value) (ts : List (List Int)) (p : List Int → Bool) (w : World) (ht : SlII (Lt w.heap.size) w tv ts)
    (hf : Asks1 k cap w.heap.size w ts IsRow p) :
    Calls Tryd.prog 87 #[tv, .func (.func k) #[] cap] w fun e w' => e = .returned (.int .i64 (firstAt p ts)) ∧ Below w.heap.size w w' := by
  obtain ⟨A, c, rfl, h1, h2, ht⟩ := ht.open_
  have HF := Lib.hid hf
  clear hf
  go_enter Tryd.func87, Tryd.ntmps87
  go_wp2_with fail
  go_loopw [8] (fun i wr => ∃ j : Nat, j ≤ ts.length ∧ i = .int .i64 j ∧ (∀ q t, q < j → ts[q]? = some t → p t = false) ∧ Below w.heap.size w wr) (fun i _ => ts.length - (intOf i).toNat)
  case atStart => exact ⟨0, Nat.zero_le _, rfl, fun q _ h => absurd h (by omega), Below.refl _ _⟩
  case round =>
    obtain ⟨j, hj, rfl, hp, hb⟩ := hrel
    have hsz := hb.size
    have HP := Lib.hid hp
    clear hp
    by_cases hlt : j < ts.length
    · obtain ⟨b, o, t, tv', rfl, hD, hx, hf, c0⟩ := (ht.below hb hsz).at_ hlt
      obtain ⟨At, ct, rfl, _, _, hf⟩ := hf.open_
      have hcall := HF.out t (.slice At t.length ct) wr (List.mem_of_getElem? hx) hb hsz hf
      have HX := Lib.hid hx
      clear hx
      cases hq : p t with
      | true =>
        rw [hq] at hcall
        have HC := Lib.hid hcall
        have HQ := Lib.hid hq
        clear hcall hq
        go_wp2_with (go_at_fn k; refine HC.out.mono ?_; rintro e w' ⟨rfl, hb'⟩)
        go_ret
        exact ⟨ret_int (firstAt_hit p ts j t HX.out HQ.out HP.out).symm, below_step hb hb' hsz⟩
      | false =>
        rw [hq] at hcall
        have HC := Lib.hid hcall
        have HQ := Lib.hid hq
        clear hcall hq
        go_wp2_with (go_at_fn k; refine HC.out.mono ?_; rintro e w' ⟨rfl, hb'⟩)
        go_roundw
        case rel =>
          refine ⟨j + 1, by omega, by go_num, fun q y hq hy => ?_, below_step hb hb' hsz⟩
          by_cases e : q = j
          · subst e; rw [HX.out] at hy; injection hy with hy; subst hy; exact HQ.out
          · exact HP.out q y (by omega) hy
        case measure => simp [intOf]; omega
    · go_wp2_with fail
      go_ret
      exact ⟨ret_int (firstAt_miss p ts (fun q y hq hy => HP.out q y (by omega) hy)).symm, hb⟩

set_option maxHeartbeats 400000 in
theorem containsFuncR (k : FuncId) (eg : ∀ args w, (callFunc k args).run Tryd.prog w = .ok (.enter k args) w) (cap : Array Value) (tv : Value) (ts : List (List Int)) (p : List Int → Bool) (w : World) (ht : SlII (Lt w.heap.size) w tv ts)
    (hf : Asks1 k cap w.heap.size w ts IsRow p) :
    Calls Tryd.prog 60 #[tv, .func (.func k) #[] cap] w fun e w' => e = .returned (.bool (ts.any p)) ∧ Below w.heap.size w w' := by
  have HC := Lib.hid (indexFuncR k eg cap tv ts p w ht hf)
  have HE := Lib.hid (firstAt_any p ts)
  clear hf ht
  generalize firstAt p ts = r at HC HE
  go_enter Tryd.func60, Tryd.ntmps60
  go_wp2_with (go_at_call 87; refine HC.out.mono ?_; rintro e w' ⟨rfl, hb'⟩)
  go_ret
  exact ⟨ret_bool HE.out, hb'⟩

theorem first_at {D : Nat → Prop} {w : World} {A : Option Addr} {n c : Nat} {m : List (List Int)} (h : SlII D w (.slice A n c) m) (hn : 0 < n) :
    ∃ b o A0 c0, A = some ⟨b, o, none⟩ ∧ D b ∧ w.cell? ⟨b, o, none⟩ = some (.slice A0 (firstLen m) c0) ∧ firstLen m ≤ c0 ∧ c0 ≤ 9223372036854775807 := by
  obtain ⟨b, o, r, u, hA, hD, hx, hs, hc⟩ := h.at_ hn
  obtain ⟨A0, c0, rfl, l1, l2, _⟩ := hs.open_
  cases m with
  | nil => simp at hx
  | cons a m =>
    injection hx with hx
    subst hx
    exact ⟨b, o, A0, c0, hA, hD, hc, l1, l2⟩

set_option maxHeartbeats 400000 in
theorem mvalid1_any (r : List Int) (v mv : Value) (B : Nat) (m : List (List Int)) (w : World) (h : SlI (Lt w.heap.size) w v r) (hm0 : 0 < m.length) (hc : w.cell? ⟨B, 0, none⟩ = some mv) (hm : SlII (Lt w.heap.size) w mv m) :
    Calls Tryd.prog 61 #[v, .pointer (some ⟨B, 0, none⟩)] w fun e w' => e = .returned (.bool (!rowOk (firstLen m) r)) ∧ Below w.heap.size w w' := by
  have HC := Lib.hid (entries_any v r w h)
  obtain ⟨A, c, rfl, h1, h2, h⟩ := h.open_
  obtain ⟨Am, cm, rfl, m1, m2, hm⟩ := hm.open_
  obtain ⟨b, o, A0, c0, rfl, hD, hcell, k1, k2⟩ := first_at hm hm0
  unfold rowOk
  generalize firstLen m = f at *
  by_cases hq : r.length = f
  · have hq' : ((r.length : Int) != (f : Int)) = false := by simp [hq]
    have HQ := Lib.hid hq
    clear hq
    go_enter Tryd.func61, Tryd.ntmps61
    go_wp2_with fail
    refine HC.out.mono ?_
    rintro e w1 ⟨rfl, hb1⟩
    generalize hq : entriesB r = q
    have HE := Lib.hid hq
    clear hq
    go_wp2_with fail
    go_ret
    exact ⟨ret_bool (by simp [HQ.out, HE.out]), hb1⟩
  · have hq' : ((r.length : Int) != (f : Int)) = true := by simp; omega
    have HQ : Hid (decide (r.length = f) = false) := by show decide (r.length = f) = false; simpa using hq
    clear hq
    go_enter Tryd.func61, Tryd.ntmps61
    go_wp2_with fail
    go_ret
    exact ⟨ret_bool (by rw [HQ.out]; rfl), Below.refl _ _⟩

set_option maxHeartbeats 800000 in
theorem mvalid_any (v : Value) (m : List (List Int)) (w : World) (h : SlII (Lt w.heap.size) w v m) :
    Calls Tryd.prog 32 #[v] w fun e w' => e = .returned (.bool (matB m)) ∧ Below w.heap.size w w' := by
  have eg : ∀ args w, (callFunc 61 args).run Tryd.prog w = .ok (.enter 61 args) w := enters_of Tryd.func61 (by kernel_rfl) rfl
  have HC := Lib.hid (fun (B : Nat) (W : World) (hW : SlII (Lt W.heap.size) W v m) (hc : W.cell? ⟨B, 0, none⟩ = some v) (hB : B < W.heap.size) (hm0 : 0 < m.length) =>
    containsFuncR 61 eg #[.pointer (some ⟨B, 0, none⟩)] v m (fun r => !rowOk (firstLen m) r) W hW
      (fun x v' w1 hx hb _ h => mvalid1_any x v' v B m w1 h hm0 ((hb.cell (p := ⟨B, 0, none⟩) hB).trans hc) (hW.now hb)))
  clear eg
  obtain ⟨A, c, rfl, h1, h2, h⟩ := h.open_
  have hb := bone w (.cells #[.slice A m.length c] 54)
  by_cases hm0 : m.length < 1
  · have HE : Hid (matB m = false) := by
      show matB m = false; unfold matB
      have : decide (1 ≤ m.length) = false := decide_eq_false (by omega)
      rw [this]; rfl
    go_enter Tryd.func32, Tryd.ntmps32
    go_wp2_with fail
    go_ret
    exact ⟨ret_bool HE.out.symm, hb⟩
  by_cases hm1 : 20 < m.length
  · have HE : Hid (matB m = false) := by
      show matB m = false; unfold matB
      have : decide (m.length ≤ 20) = false := decide_eq_false (by omega)
      rw [this]; simp
    go_enter Tryd.func32, Tryd.ntmps32
    go_wp2_with fail
    go_ret
    exact ⟨ret_bool HE.out.symm, hb⟩
  have hpos : 0 < m.length := by omega
  have h' := h.now hb
  obtain ⟨b, o, A0, c0, rfl, hD, hcell, k1, k2⟩ := first_at h' hpos
  have HM : Hid (matB m = (decide (1 ≤ firstLen m) && decide (firstLen m ≤ 20) && m.all (rowOk (firstLen m)))) := by
    show matB m = _; unfold matB
    have e1 : decide (1 ≤ m.length) = true := decide_eq_true (by omega)
    have e2 : decide (m.length ≤ 20) = true := decide_eq_true (by omega)
    rw [e1, e2]; simp
  by_cases hf0 : firstLen m < 1
  · have HE : Hid (matB m = false) := by
      show matB m = false; rw [HM.out]
      have : decide (1 ≤ firstLen m) = false := decide_eq_false (by omega)
      rw [this]; rfl
    go_enter Tryd.func32, Tryd.ntmps32
    go_wp2_with fail
    go_ret
    exact ⟨ret_bool HE.out.symm, hb⟩
  by_cases hf1 : 20 < firstLen m
  · have HE : Hid (matB m = false) := by
      show matB m = false; rw [HM.out]
      have : decide (firstLen m ≤ 20) = false := decide_eq_false (by omega)
      rw [this]; simp
    go_enter Tryd.func32, Tryd.ntmps32
    go_wp2_with fail
    go_ret
    exact ⟨ret_bool HE.out.symm, hb⟩
  have HE : Hid (matB m = m.all (rowOk (firstLen m))) := by
    show matB m = _; rw [HM.out]
    have e1 : decide (1 ≤ firstLen m) = true := decide_eq_true (by omega)
    have e2 : decide (firstLen m ≤ 20) = true := decide_eq_true (by omega)
    rw [e1, e2]; simp
  go_enter Tryd.func32, Tryd.ntmps32
  go_wp2_with fail
  refine (HC.out _ _ h' (by simp) (by simp) hpos).mono ?_
  rintro e w2 ⟨rfl, hb2⟩
  rw [any_not_row]
  generalize m.all (rowOk (firstLen m)) = r at HE ⊢
  go_wp2_with fail
  go_ret
  exact ⟨ret_bool HE.out.symm, bthen hb hb2⟩
end Go.Proofs.YtphdafhidhfmnaaDoor
