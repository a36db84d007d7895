/- great, and the search by a function over transitions. -/
import Derived.Test.YtlkkfkkhllijbaaDoorSearch
import Derived.Test.YtlkkfkkhllijbaaDoorNet
namespace Go.Proofs.YtlkkfkkhllijbaaDoor
open Go.RowKit

def bigTr (t : Tr) : Bool := decide (50 < t.ins.length) || decide (50 < t.outs.length) || decide (200 < t.label.size)

set_option maxHeartbeats 400000 in
theorem great1_any (t : Tr) (v : Value) (w : World) (h : IsTr (Lt w.heap.size) w v t) :
    Calls Tryd.prog 19 #[v] w fun e w' => e = .returned (.bool (bigTr t)) ∧ Below w.heap.size w w' := by
  obtain ⟨iv, ov, rfl, hl, hi, ho⟩ := h
  obtain ⟨A, c, rfl, h1, h2, _⟩ := hi.open_
  obtain ⟨A', c', rfl, h1', h2', _⟩ := ho.open_
  unfold maxLen at hl
  unfold bigTr
  generalize t.ins.length = a at *
  generalize t.outs.length = b at *
  generalize hsz : t.label.size = d at *
  by_cases ha : 50 < a <;> by_cases hb : 50 < b <;> by_cases hd : 200 < d
  all_goals
    go_enter Tryd.func19, Tryd.ntmps19
    go_wp2
    go_ret
    refine ⟨ret_bool ?_, (Below.refl _ _).alloc (Nat.le_refl _) _⟩
    first
      | rfl
      | (rw [Bool.eq_iff_iff]; simp; done)
      | (rw [Bool.eq_iff_iff]; simp; omega)

set_option maxHeartbeats 400000 in
theorem indexFuncT (k : FuncId) (eg : ∀ args w, (callFunc k args).run Tryd.prog w = .ok (.enter k args) w) (cap : Array Value) (tv : Value) (ts : List Tr) (p : Tr → Bool) (w : World) (ht : SlT (Lt w.heap.size) w tv ts)
    (hf : Asks1 k cap w.heap.size w ts IsTr p) :
    Calls Tryd.prog 25 #[tv, .func (.func k) #[] cap] w fun e w' => e = .returned (.int .i64 (firstAt p ts)) ∧ Below w.heap.size w w' := by
  obtain ⟨A, c, rfl, h1, h2, ht⟩ := ht.open_
  have HF := Lib.hid hf
  clear hf
  go_enter Tryd.func25, Tryd.ntmps25
  go_wp2_with fail
  go_loopw [8] (fun i wr => ∃ j : Nat, j ≤ ts.length ∧ i = .int .i64 j ∧ (∀ q t, q < j → ts[q]? = some t → p t = false) ∧ Below w.heap.size w wr) (fun i _ => ts.length - (intOf i).toNat)
  case atStart => exact ⟨0, Nat.zero_le _, rfl, fun q _ h => absurd h (by omega), Below.refl _ _⟩
  case round =>
    obtain ⟨j, hj, rfl, hp, hb⟩ := hrel
    have hsz := hb.size
    have HP := Lib.hid hp
    clear hp
    by_cases hlt : j < ts.length
    · obtain ⟨b, o, t, iv, ov, rfl, hD, hx, hl, hi, ho, c0, c1, c2⟩ := (ht.below hb hsz).at_ hlt
      have hcall := HF.out t (.agg #[.string t.label, iv, ov]) wr (List.mem_of_getElem? hx) hb hsz ⟨iv, ov, rfl, hl, hi, ho⟩
      have HX := Lib.hid hx
      clear hx
      cases hq : p t with
      | true =>
        rw [hq] at hcall
        have HC := Lib.hid hcall
        have HQ := Lib.hid hq
        clear hcall hq
        go_wp2_with (go_at_fn k; refine HC.out.mono ?_; rintro e w' ⟨rfl, hb'⟩)
        go_ret
        exact ⟨ret_int (firstAt_hit p ts j t HX.out HQ.out HP.out).symm, below_step hb hb' hsz⟩
      | false =>
        rw [hq] at hcall
        have HC := Lib.hid hcall
        have HQ := Lib.hid hq
        clear hcall hq
        go_wp2_with (go_at_fn k; refine HC.out.mono ?_; rintro e w' ⟨rfl, hb'⟩)
        go_roundw
        case rel =>
          refine ⟨j + 1, by omega, by go_num, fun q y hq hy => ?_, below_step hb hb' hsz⟩
          by_cases e : q = j
          · subst e; rw [HX.out] at hy; injection hy with hy; subst hy; exact HQ.out
          · exact HP.out q y (by omega) hy
        case measure => simp [intOf]; omega
    · go_wp2_with fail
      go_ret
      exact ⟨ret_int (firstAt_miss p ts (fun q y hq hy => HP.out q y (by omega) hy)).symm, hb⟩

set_option maxHeartbeats 400000 in
theorem containsFuncT (k : FuncId) (eg : ∀ args w, (callFunc k args).run Tryd.prog w = .ok (.enter k args) w) (cap : Array Value) (tv : Value) (ts : List Tr) (p : Tr → Bool) (w : World) (ht : SlT (Lt w.heap.size) w tv ts)
    (hf : Asks1 k cap w.heap.size w ts IsTr p) :
    Calls Tryd.prog 8 #[tv, .func (.func k) #[] cap] w fun e w' => e = .returned (.bool (ts.any p)) ∧ Below w.heap.size w w' := by
  have HC := Lib.hid (indexFuncT k eg cap tv ts p w ht hf)
  have HE := Lib.hid (firstAt_any p ts)
  clear hf ht
  generalize firstAt p ts = r at HC HE
  go_enter Tryd.func8, Tryd.ntmps8
  go_wp2_with (go_at_call 25; refine HC.out.mono ?_; rintro e w' ⟨rfl, hb'⟩)
  go_ret
  exact ⟨ret_bool HE.out, hb'⟩

/-- The law does not speak of such nets. -/
def greatB (n : Net) : Bool := (decide (20 < n.trans.length) && decide (n.trans.length ≤ 60)) || decide (100 < n.trans.length) || n.trans.any bigTr

theorem great1_asks (ts : List Tr) (w : World) : Asks1 19 #[] w.heap.size w ts IsTr bigTr :=
  fun x v w1 _ _ _ h => great1_any x v w1 h

set_option maxHeartbeats 400000 in
theorem great_any (n : Net) (v : Value) (w : World) (h : IsNet (Lt w.heap.size) w v n) :
    Calls Tryd.prog 5 #[v] w fun e w' => e = .returned (.bool (greatB n)) ∧ Below w.heap.size w w' := by
  obtain ⟨tv, rfl, hp, hs, hk, ht⟩ := h
  have eg : ∀ args w, (callFunc 19 args).run Tryd.prog w = .ok (.enter 19 args) w := enters_of Tryd.func19 (by kernel_rfl) rfl
  have HC := Lib.hid (fun W (hW : SlT (Lt W.heap.size) W tv n.trans) => containsFuncT 19 eg #[] tv n.trans bigTr W hW (great1_asks n.trans W))
  clear eg
  have HB : Hid (greatB n = ((decide (20 < n.trans.length) && decide (n.trans.length ≤ 60)) || decide (100 < n.trans.length) || n.trans.any bigTr)) := rfl
  obtain ⟨A, c, rfl, h1, h2, ht⟩ := ht.open_
  have HT := Lib.hid (ht.below (w' := w.alloc (.cells #[.int .i64 n.places, .slice A n.trans.length c, .int .i64 n.source, .int .i64 n.sink] 24)) (B' := w.heap.size + 1) ((Below.refl _ _).alloc (Nat.le_refl _) _) (by omega))
  generalize greatB n = g at *
  generalize n.trans.any bigTr = r at HB HC
  generalize n.trans.length = a at *
  cases hr : (decide (20 < a) && decide (a ≤ 60) || decide (100 < a)) with
  | true =>
    have hr' : (20 < a ∧ a ≤ 60) ∨ 100 < a := by simpa using hr
    rw [hr] at HB
    clear hr
    go_enter Tryd.func5, Tryd.ntmps5
    rcases hr' with ⟨h3, h4⟩ | h3
    · go_wp2_with fail
      go_ret
      exact ⟨ret_bool (by rw [HB.out]; rfl), (Below.refl _ _).alloc (Nat.le_refl _) _⟩
    · go_wp2_with fail
      go_ret
      exact ⟨ret_bool (by rw [HB.out]; rfl), (Below.refl _ _).alloc (Nat.le_refl _) _⟩
  | false =>
    have hr' : ¬ ((20 < a ∧ a ≤ 60) ∨ 100 < a) := by simpa using hr
    rw [hr] at HB
    clear hr
    by_cases h3 : 20 < a
    · have h4 : ¬ a ≤ 60 := by omega
      have h5 : ¬ 100 < a := by omega
      clear hr'
      go_enter Tryd.func5, Tryd.ntmps5
      go_wp2_with (go_at_call 8; refine (HC.out _ (by simpa using HT.out)).mono ?_; rintro e w' ⟨rfl, hb'⟩)
      go_ret
      exact ⟨ret_bool (by rw [HB.out]; rfl), below_step ((Below.refl _ _).alloc (Nat.le_refl _) _) hb' (by simp)⟩
    · have h5 : ¬ 100 < a := by omega
      clear hr'
      go_enter Tryd.func5, Tryd.ntmps5
      go_wp2_with (go_at_call 8; refine (HC.out _ (by simpa using HT.out)).mono ?_; rintro e w' ⟨rfl, hb'⟩)
      go_ret
      exact ⟨ret_bool (by rw [HB.out]; rfl), below_step ((Below.refl _ _).alloc (Nat.le_refl _) _) hb' (by simp)⟩
end Go.Proofs.YtlkkfkkhllijbaaDoor
