/- Searches by closures: texts, words with counts. -/
import Derived.Test.YtilmdlkfmkbfmaaPvCmp
set_option linter.all false
namespace Go.Proofs.Ytilmdlkfmkbfmaa
open Go.RowKit

theorem any_false_of {α : Type} (p : α → Bool) (l : List α) (h : ∀ (q : Nat) y, q < l.length → l[q]? = some y → p y = false) : l.any p = false := by
  rw [List.any_eq_false]
  intro y hy
  obtain ⟨q, hq, rfl⟩ := List.mem_iff_getElem.1 hy
  rw [h q _ hq (List.getElem?_eq_getElem hq)]; decide
/-! ### searches in lists of texts by a function value -/
def AsksS (k : FuncId) (w : World) (xs : List ByteArray) (p : ByteArray → Bool) : Prop :=
  ∀ (x : ByteArray) (w1 : World), x ∈ xs → x.size ≤ maxLen → Below w.heap.size w w1 → Calls Try.prog k #[.string x] w1 fun e w2 => e = .returned (.bool (p x)) ∧ Below w1.heap.size w1 w2

set_option maxHeartbeats 400000 in
theorem indexFuncS (k : FuncId) (eg : ∀ args w, (callFunc k args).run Try.prog w = .ok (.enter k args) w) (tv : Value) (ts : List ByteArray) (p : ByteArray → Bool) (w : World) (ht : SlS (Lt w.heap.size) w tv ts) (hf : AsksS k w ts p) :
    Calls Try.prog 50 #[tv, .func (.func k) #[] #[]] w fun e w' => ∃ z : Int, e = .returned (.int .i64 z) ∧ decide (0 ≤ z) = ts.any p ∧ Below w.heap.size w w' := by
  obtain ⟨A, c, rfl, h1, h2, ht⟩ := ht.open_
  have HF := Lib.hid hf
  clear hf
  go_enter Try.func50, Try.ntmps50
  go_wp2_with fail
  go_loopw [8] (fun i wr => ∃ j : Nat, j ≤ ts.length ∧ i = .int .i64 j ∧ (∀ q t, q < j → ts[q]? = some t → p t = false) ∧ Below w.heap.size w wr) (fun i _ => ts.length - (intOf i).toNat)
  case atStart => exact ⟨0, Nat.zero_le _, rfl, fun q _ h => absurd h (by omega), Below.refl _ _⟩
  case round =>
    obtain ⟨j, hj, rfl, hp, hb⟩ := hrel
    have HP := Lib.hid hp
    clear hp
    by_cases hlt : j < ts.length
    · obtain ⟨b, o, t, rfl, hD, hx, hf, c0⟩ := (ht.now hb).at_ hlt
      have hcall := HF.out t wr (List.mem_of_getElem? hx) hf hb
      have HX := Lib.hid hx
      clear hx
      generalize hq : p t = q at *
      have HQ := Lib.hid hq
      have HC := Lib.hid hcall
      clear hcall hq
      cases q
      · go_wp2_with (go_at_fn k; refine HC.out.mono ?_; rintro e w' ⟨rfl, hb'⟩)
        go_roundw
        case rel =>
          refine ⟨j + 1, by omega, by go_num, fun q y hq hy => ?_, bthen hb hb'⟩
          by_cases e : q = j
          · subst e; rw [HX.out] at hy; injection hy with hy; subst hy; exact HQ.out
          · exact HP.out q y (by omega) hy
        case measure => simp [intOf]; omega
      · go_wp2_with (go_at_fn k; refine HC.out.mono ?_; rintro e w' ⟨rfl, hb'⟩)
        go_ret
        refine ⟨_, rfl, ?_, bthen hb hb'⟩
        rw [List.any_eq_true.2 ⟨t, List.mem_of_getElem? HX.out, HQ.out⟩]
        simp
    · go_wp2_with fail
      go_ret
      refine ⟨_, rfl, ?_, hb⟩
      rw [any_false_of _ ts (fun q y hq hy => HP.out q y (by omega) hy)]
      simp
theorem containsFuncS (k : FuncId) (eg : ∀ args w, (callFunc k args).run Try.prog w = .ok (.enter k args) w) (tv : Value) (ts : List ByteArray) (p : ByteArray → Bool) (w : World) (ht : SlS (Lt w.heap.size) w tv ts) (hf : AsksS k w ts p) :
    Calls Try.prog 38 #[tv, .func (.func k) #[] #[]] w fun e w' => e = .returned (.bool (ts.any p)) ∧ Below w.heap.size w w' := by
  have HC := Lib.hid (indexFuncS k eg tv ts p w ht hf)
  clear hf ht
  go_enter Try.func38, Try.ntmps38
  go_wp2_with (go_at_call 50; refine HC.out.mono ?_; rintro e w' ⟨z, rfl, hz, hb'⟩)
  go_ret
  exact ⟨rfl, hb'⟩

/-! ### words with counts -/

def AsksVa (k : FuncId) (w : World) (p : Vr → Bool) : Prop := ∀ (x : Vr) (sv : Value) (W : World), SlS (Lt w.heap.size) w sv x.acts → Fit x.n → Below w.heap.size w W → Calls Try.prog k #[.agg #[sv, .int .i64 x.n]] W fun e w' => e = .returned (.bool (p x)) ∧ Below W.heap.size W w'
set_option maxHeartbeats 1000000 in
theorem indexFuncVa (k : FuncId) (eg : ∀ args w, (callFunc k args).run Try.prog w = .ok (.enter k args) w) (tv : Value) (ts : List Vr) (p : Vr → Bool) (w : World) (ht : SlVr (Lt w.heap.size) w tv ts) (hf : AsksVa k w p) :
    Calls Try.prog 16 #[tv, .func (.func k) #[] #[]] w fun e w' => ∃ z : Int, e = .returned (.int .i64 z) ∧ decide (0 ≤ z) = ts.any p ∧ Below w.heap.size w w' := by
  obtain ⟨A, c, rfl, h1, h2, ht⟩ := ht.open_
  have HF := Lib.hid hf
  have HT := Lib.hid ht
  clear hf ht
  go_enter Try.func16, Try.ntmps16
  go_wp2_with fail
  go_loopw [8] (fun i wr => ∃ j : Nat, j ≤ ts.length ∧ i = .int .i64 j ∧ Hid (∀ (q : Nat) t, q < j → ts[q]? = some t → p t = false) ∧ Hid (Below w.heap.size w wr)) (fun i _ => ts.length - (intOf i).toNat)
  case atStart => exact ⟨0, Nat.zero_le _, rfl, Lib.hid (fun q _ h => absurd h (by omega)), Lib.hid (Below.refl _ _)⟩
  case round =>
    obtain ⟨j, hj, rfl, HP, HB⟩ := hrel
    by_cases hlt : j < ts.length
    · obtain ⟨b, o, t, sv, rfl, hD, hx, hf, hs, c0', c1'⟩ := HT.out.at_ hlt
      have c0 := (HB.out.cell (p := ⟨b, o + j * 2, none⟩) hD).trans c0'
      have c1 := (HB.out.cell (p := ⟨b, o + j * 2 + 1, none⟩) hD).trans c1'
      have hcall := HF.out t sv wr hs hf HB.out
      have HX := Lib.hid hx
      obtain ⟨As, cs, rfl, _, _, _⟩ := hs.open_
      clear hx hs hf c0' c1'
      generalize hq : p t = q' at *
      have HQ := Lib.hid hq
      have HC := Lib.hid hcall
      clear hcall hq
      cases q'
      · go_wp2_with (go_at_fn k; (with_reducible refine HC.out.mono ?_); rintro e w' ⟨rfl, hb'⟩; have HB' := Lib.hid (bthen HB.out hb'); clear hb')
        go_roundw
        case rel =>
          refine ⟨j + 1, by omega, by go_num, Lib.hid (fun q y hq hy => ?_), HB'⟩
          by_cases e : q = j
          · subst e; rw [HX.out] at hy; injection hy with hy; subst hy; exact HQ.out
          · exact HP.out q y (by omega) hy
        case measure => simp [intOf]; omega
      · go_wp2_with (go_at_fn k; (with_reducible refine HC.out.mono ?_); rintro e w' ⟨rfl, hb'⟩; have HB' := Lib.hid (bthen HB.out hb'); clear hb')
        go_ret
        refine ⟨_, rfl, ?_, HB'.out⟩
        rw [List.any_eq_true.2 ⟨t, List.mem_of_getElem? HX.out, HQ.out⟩]
        simp
    · go_wp2_with fail
      go_ret
      refine ⟨_, rfl, ?_, HB.out⟩
      rw [any_false_of _ ts (fun q y hq hy => HP.out q y (by omega) hy)]
      simp
theorem containsFuncVa (k : FuncId) (eg : ∀ args w, (callFunc k args).run Try.prog w = .ok (.enter k args) w) (tv : Value) (ts : List Vr) (p : Vr → Bool) (w : World) (ht : SlVr (Lt w.heap.size) w tv ts) (hf : AsksVa k w p) :
    Calls Try.prog 5 #[tv, .func (.func k) #[] #[]] w fun e w' => e = .returned (.bool (ts.any p)) ∧ Below w.heap.size w w' := by
  have HC := Lib.hid (indexFuncVa k eg tv ts p w ht hf)
  obtain ⟨A, c, rfl, h1, h2, _⟩ := ht.open_
  clear hf ht
  go_enter Try.func5, Try.ntmps5
  go_wp2_with fail
  (with_reducible refine HC.out.mono ?_)
  rintro e w' ⟨z, rfl, hz, hb'⟩
  go_wp2_with fail
  go_ret
  exact ⟨by rw [← hz]; rfl, hb'⟩

def AsksEn (k : FuncId) (w : World) (p : Vr → Bool) : Prop := ∀ (x : Vr) (sv : Value) (W : World), SlS (Lt w.heap.size) w sv x.acts → Fit x.n → Below w.heap.size w W → Calls Try.prog k #[.agg #[sv, .int .i64 x.n]] W fun e w' => e = .returned (.bool (p x)) ∧ Below W.heap.size W w'
set_option maxHeartbeats 1000000 in
theorem indexFuncEn (k : FuncId) (eg : ∀ args w, (callFunc k args).run Try.prog w = .ok (.enter k args) w) (tv : Value) (ts : List Vr) (p : Vr → Bool) (w : World) (ht : SlVr (Lt w.heap.size) w tv ts) (hf : AsksEn k w p) :
    Calls Try.prog 43 #[tv, .func (.func k) #[] #[]] w fun e w' => ∃ z : Int, e = .returned (.int .i64 z) ∧ decide (0 ≤ z) = ts.any p ∧ Below w.heap.size w w' := by
  obtain ⟨A, c, rfl, h1, h2, ht⟩ := ht.open_
  have HF := Lib.hid hf
  have HT := Lib.hid ht
  clear hf ht
  go_enter Try.func43, Try.ntmps43
  go_wp2_with fail
  go_loopw [8] (fun i wr => ∃ j : Nat, j ≤ ts.length ∧ i = .int .i64 j ∧ Hid (∀ (q : Nat) t, q < j → ts[q]? = some t → p t = false) ∧ Hid (Below w.heap.size w wr)) (fun i _ => ts.length - (intOf i).toNat)
  case atStart => exact ⟨0, Nat.zero_le _, rfl, Lib.hid (fun q _ h => absurd h (by omega)), Lib.hid (Below.refl _ _)⟩
  case round =>
    obtain ⟨j, hj, rfl, HP, HB⟩ := hrel
    by_cases hlt : j < ts.length
    · obtain ⟨b, o, t, sv, rfl, hD, hx, hf, hs, c0', c1'⟩ := HT.out.at_ hlt
      have c0 := (HB.out.cell (p := ⟨b, o + j * 2, none⟩) hD).trans c0'
      have c1 := (HB.out.cell (p := ⟨b, o + j * 2 + 1, none⟩) hD).trans c1'
      have hcall := HF.out t sv wr hs hf HB.out
      have HX := Lib.hid hx
      obtain ⟨As, cs, rfl, _, _, _⟩ := hs.open_
      clear hx hs hf c0' c1'
      generalize hq : p t = q' at *
      have HQ := Lib.hid hq
      have HC := Lib.hid hcall
      clear hcall hq
      cases q'
      · go_wp2_with (go_at_fn k; (with_reducible refine HC.out.mono ?_); rintro e w' ⟨rfl, hb'⟩; have HB' := Lib.hid (bthen HB.out hb'); clear hb')
        go_roundw
        case rel =>
          refine ⟨j + 1, by omega, by go_num, Lib.hid (fun q y hq hy => ?_), HB'⟩
          by_cases e : q = j
          · subst e; rw [HX.out] at hy; injection hy with hy; subst hy; exact HQ.out
          · exact HP.out q y (by omega) hy
        case measure => simp [intOf]; omega
      · go_wp2_with (go_at_fn k; (with_reducible refine HC.out.mono ?_); rintro e w' ⟨rfl, hb'⟩; have HB' := Lib.hid (bthen HB.out hb'); clear hb')
        go_ret
        refine ⟨_, rfl, ?_, HB'.out⟩
        rw [List.any_eq_true.2 ⟨t, List.mem_of_getElem? HX.out, HQ.out⟩]
        simp
    · go_wp2_with fail
      go_ret
      refine ⟨_, rfl, ?_, HB.out⟩
      rw [any_false_of _ ts (fun q y hq hy => HP.out q y (by omega) hy)]
      simp
theorem containsFuncEn (k : FuncId) (eg : ∀ args w, (callFunc k args).run Try.prog w = .ok (.enter k args) w) (tv : Value) (ts : List Vr) (p : Vr → Bool) (w : World) (ht : SlVr (Lt w.heap.size) w tv ts) (hf : AsksEn k w p) :
    Calls Try.prog 27 #[tv, .func (.func k) #[] #[]] w fun e w' => e = .returned (.bool (ts.any p)) ∧ Below w.heap.size w w' := by
  have HC := Lib.hid (indexFuncEn k eg tv ts p w ht hf)
  obtain ⟨A, c, rfl, h1, h2, _⟩ := ht.open_
  clear hf ht
  go_enter Try.func27, Try.ntmps27
  go_wp2_with fail
  (with_reducible refine HC.out.mono ?_)
  rintro e w' ⟨z, rfl, hz, hb'⟩
  go_wp2_with fail
  go_ret
  exact ⟨by rw [← hz]; rfl, hb'⟩

def AsksPu (q : Nat) (k : FuncId) (w : World) (p : Vr → Bool) : Prop := ∀ (x : Vr) (sv : Value) (W : World), SlS (Lt w.heap.size) w sv x.acts → Fit x.n → Below w.heap.size w W → Calls Try.prog k #[.agg #[sv, .int .i64 x.n], .pointer (some ⟨q, 0, none⟩)] W fun e w' => e = .returned (.bool (p x)) ∧ Below W.heap.size W w'
set_option maxHeartbeats 1000000 in
theorem indexFuncPu (q : Nat) (k : FuncId) (eg : ∀ args w, (callFunc k args).run Try.prog w = .ok (.enter k args) w) (tv : Value) (ts : List Vr) (p : Vr → Bool) (w : World) (ht : SlVr (Lt w.heap.size) w tv ts) (hf : AsksPu q k w p) :
    Calls Try.prog 47 #[tv, .func (.func k) #[] #[.pointer (some ⟨q, 0, none⟩)]] w fun e w' => ∃ z : Int, e = .returned (.int .i64 z) ∧ decide (0 ≤ z) = ts.any p ∧ Below w.heap.size w w' := by
  obtain ⟨A, c, rfl, h1, h2, ht⟩ := ht.open_
  have HF := Lib.hid hf
  have HT := Lib.hid ht
  clear hf ht
  go_enter Try.func47, Try.ntmps47
  go_wp2_with fail
  go_loopw [8] (fun i wr => ∃ j : Nat, j ≤ ts.length ∧ i = .int .i64 j ∧ Hid (∀ (q : Nat) t, q < j → ts[q]? = some t → p t = false) ∧ Hid (Below w.heap.size w wr)) (fun i _ => ts.length - (intOf i).toNat)
  case atStart => exact ⟨0, Nat.zero_le _, rfl, Lib.hid (fun q _ h => absurd h (by omega)), Lib.hid (Below.refl _ _)⟩
  case round =>
    obtain ⟨j, hj, rfl, HP, HB⟩ := hrel
    by_cases hlt : j < ts.length
    · obtain ⟨b, o, t, sv, rfl, hD, hx, hf, hs, c0', c1'⟩ := HT.out.at_ hlt
      have c0 := (HB.out.cell (p := ⟨b, o + j * 2, none⟩) hD).trans c0'
      have c1 := (HB.out.cell (p := ⟨b, o + j * 2 + 1, none⟩) hD).trans c1'
      have hcall := HF.out t sv wr hs hf HB.out
      have HX := Lib.hid hx
      obtain ⟨As, cs, rfl, _, _, _⟩ := hs.open_
      clear hx hs hf c0' c1'
      generalize hq : p t = q' at *
      have HQ := Lib.hid hq
      have HC := Lib.hid hcall
      clear hcall hq
      cases q'
      · go_wp2_with (go_at_fn k; (with_reducible refine HC.out.mono ?_); rintro e w' ⟨rfl, hb'⟩; have HB' := Lib.hid (bthen HB.out hb'); clear hb')
        go_roundw
        case rel =>
          refine ⟨j + 1, by omega, by go_num, Lib.hid (fun q y hq hy => ?_), HB'⟩
          by_cases e : q = j
          · subst e; rw [HX.out] at hy; injection hy with hy; subst hy; exact HQ.out
          · exact HP.out q y (by omega) hy
        case measure => simp [intOf]; omega
      · go_wp2_with (go_at_fn k; (with_reducible refine HC.out.mono ?_); rintro e w' ⟨rfl, hb'⟩; have HB' := Lib.hid (bthen HB.out hb'); clear hb')
        go_ret
        refine ⟨_, rfl, ?_, HB'.out⟩
        rw [List.any_eq_true.2 ⟨t, List.mem_of_getElem? HX.out, HQ.out⟩]
        simp
    · go_wp2_with fail
      go_ret
      refine ⟨_, rfl, ?_, HB.out⟩
      rw [any_false_of _ ts (fun q y hq hy => HP.out q y (by omega) hy)]
      simp
theorem containsFuncPu (q : Nat) (k : FuncId) (eg : ∀ args w, (callFunc k args).run Try.prog w = .ok (.enter k args) w) (tv : Value) (ts : List Vr) (p : Vr → Bool) (w : World) (ht : SlVr (Lt w.heap.size) w tv ts) (hf : AsksPu q k w p) :
    Calls Try.prog 30 #[tv, .func (.func k) #[] #[.pointer (some ⟨q, 0, none⟩)]] w fun e w' => e = .returned (.bool (ts.any p)) ∧ Below w.heap.size w w' := by
  have HC := Lib.hid (indexFuncPu q k eg tv ts p w ht hf)
  obtain ⟨A, c, rfl, h1, h2, _⟩ := ht.open_
  clear hf ht
  go_enter Try.func30, Try.ntmps30
  go_wp2_with fail
  (with_reducible refine HC.out.mono ?_)
  rintro e w' ⟨z, rfl, hz, hb'⟩
  go_wp2_with fail
  go_ret
  exact ⟨by rw [← hz]; rfl, hb'⟩
end Go.Proofs.Ytilmdlkfmkbfmaa
