/- Searches by a function value: slices.IndexFunc and slices.ContainsFunc over numbers, for whatever function value answers. -/
import Derived.Test.YtlkkfkkhllijbaaDoorProg
import Derived.Test.YtlkkfkkhllijbaaDoorWords
import Derived.Outline
import Derived.Shelf.Abstract
namespace Go.Proofs.YtlkkfkkhllijbaaDoor
open Go.RowKit

/-- What a function value of the law's own answers for the elements of a list, in whatever world comes. -/
def Asks1 {α : Type} (k : FuncId) (cap : Array Value) (B : Nat) (w : World) (xs : List α) (IsA : (Nat → Prop) → World → Value → α → Prop) (p : α → Bool) : Prop :=
  ∀ (x : α) (v : Value) (w1 : World), x ∈ xs → Below B w w1 → B ≤ w1.heap.size → IsA (Lt w1.heap.size) w1 v x →
    Calls Tryd.prog k (#[v] ++ cap) w1 fun e w2 => e = .returned (.bool (p x)) ∧ Below w1.heap.size w1 w2

/-- The place of the first element that p takes, or -1. -/
def firstAt {α : Type} (p : α → Bool) (xs : List α) : Int := match xs.findIdx? p with | some i => (i : Int) | none => -1
theorem firstAt_hit {α : Type} (p : α → Bool) (xs : List α) (j : Nat) (x : α) (hx : xs[j]? = some x) (h : p x = true) (hn : ∀ q y, q < j → xs[q]? = some y → p y = false) : firstAt p xs = j := by
  have hj : j < xs.length := by
    rcases Nat.lt_or_ge j xs.length with h | h
    · exact h
    · rw [List.getElem?_eq_none h] at hx; cases hx
  have : xs.findIdx? p = some j := by
    rw [List.findIdx?_eq_some_iff_getElem]
    refine ⟨hj, ?_, fun q hq => ?_⟩
    · rw [List.getElem?_eq_getElem hj] at hx; injection hx with hx; rw [hx]; exact h
    · have := hn q _ hq (List.getElem?_eq_getElem (by omega)); simpa using this
  unfold firstAt; rw [this]
theorem firstAt_miss {α : Type} (p : α → Bool) (xs : List α) (hn : ∀ q y, q < xs.length → xs[q]? = some y → p y = false) : firstAt p xs = -1 := by
  have : xs.findIdx? p = none := by
    rw [List.findIdx?_eq_none_iff]
    intro x hx
    obtain ⟨q, hq, rfl⟩ := List.mem_iff_getElem.1 hx
    exact hn q _ hq (List.getElem?_eq_getElem hq)
  unfold firstAt; rw [this]
theorem firstAt_any {α : Type} (p : α → Bool) (xs : List α) : decide (0 ≤ firstAt p xs) = xs.any p := by
  unfold firstAt
  cases h : xs.findIdx? p with
  | none =>
    rw [List.findIdx?_eq_none_iff] at h
    rw [Bool.eq_iff_iff]
    simp
    exact fun x hx => by have := h x hx; simp [this]
  | some i =>
    rw [List.findIdx?_eq_some_iff_getElem] at h
    obtain ⟨h1, h2, _⟩ := h
    rw [Bool.eq_iff_iff]
    simp
    exact ⟨_, List.getElem_mem h1, h2⟩

def IsI (_ : Nat → Prop) (_ : World) (v : Value) (z : Int) : Prop := v = .int .i64 z ∧ Fit z

set_option maxHeartbeats 400000 in
theorem indexFuncI (k : FuncId) (eg : ∀ args w, (callFunc k args).run Tryd.prog w = .ok (.enter k args) w) (cap : Array Value) (tv : Value) (ts : List Int) (p : Int → Bool) (w : World) (ht : SlI (Lt w.heap.size) w tv ts)
    (hf : Asks1 k cap w.heap.size w ts IsI p) :
    Calls Tryd.prog 53 #[tv, .func (.func k) #[] cap] w fun e w' => e = .returned (.int .i64 (firstAt p ts)) ∧ Below w.heap.size w w' := by
  obtain ⟨A, c, rfl, h1, h2, ht⟩ := ht.open_
  have HF := Lib.hid hf
  clear hf
  go_enter Tryd.func53, Tryd.ntmps53
  go_wp2_with fail
  go_loopw [8] (fun i wr => ∃ j : Nat, j ≤ ts.length ∧ i = .int .i64 j ∧ (∀ q t, q < j → ts[q]? = some t → p t = false) ∧ Below w.heap.size w wr) (fun i _ => ts.length - (intOf i).toNat)
  case atStart => exact ⟨0, Nat.zero_le _, rfl, fun q _ h => absurd h (by omega), Below.refl _ _⟩
  case round =>
    obtain ⟨j, hj, rfl, hp, hb⟩ := hrel
    have hsz := hb.size
    have HP := Lib.hid hp
    clear hp
    by_cases hlt : j < ts.length
    · obtain ⟨b, o, t, rfl, hD, hx, hf, c0⟩ := (ht.below hb hsz).at_ hlt
      have hcall := HF.out t (.int .i64 t) wr (List.mem_of_getElem? hx) hb hsz ⟨rfl, hf⟩
      have HX := Lib.hid hx
      clear hx
      cases hq : p t with
      | true =>
        rw [hq] at hcall
        have HC := Lib.hid hcall
        have HQ := Lib.hid hq
        clear hcall hq
        go_wp2_with (go_at_fn k; refine HC.out.mono ?_; rintro e w' ⟨rfl, hb'⟩)
        go_ret
        exact ⟨ret_int (firstAt_hit p ts j t HX.out HQ.out HP.out).symm, below_step hb hb' hsz⟩
      | false =>
        rw [hq] at hcall
        have HC := Lib.hid hcall
        have HQ := Lib.hid hq
        clear hcall hq
        go_wp2_with (go_at_fn k; refine HC.out.mono ?_; rintro e w' ⟨rfl, hb'⟩)
        go_roundw
        case rel =>
          refine ⟨j + 1, by omega, by go_num, fun q y hq hy => ?_, below_step hb hb' hsz⟩
          by_cases e : q = j
          · subst e; rw [HX.out] at hy; injection hy with hy; subst hy; exact HQ.out
          · exact HP.out q y (by omega) hy
        case measure => simp [intOf]; omega
    · go_wp2_with fail
      go_ret
      exact ⟨ret_int (firstAt_miss p ts (fun q y hq hy => HP.out q y (by omega) hy)).symm, hb⟩

set_option maxHeartbeats 400000 in
theorem containsFuncI (k : FuncId) (eg : ∀ args w, (callFunc k args).run Tryd.prog w = .ok (.enter k args) w) (cap : Array Value) (tv : Value) (ts : List Int) (p : Int → Bool) (w : World) (ht : SlI (Lt w.heap.size) w tv ts)
    (hf : Asks1 k cap w.heap.size w ts IsI p) :
    Calls Tryd.prog 41 #[tv, .func (.func k) #[] cap] w fun e w' => e = .returned (.bool (ts.any p)) ∧ Below w.heap.size w w' := by
  have HC := Lib.hid (indexFuncI k eg cap tv ts p w ht hf)
  have HE := Lib.hid (firstAt_any p ts)
  clear hf ht
  generalize firstAt p ts = r at HC HE
  go_enter Tryd.func41, Tryd.ntmps41
  go_wp2_with (go_at_call 53; refine HC.out.mono ?_; rintro e w' ⟨rfl, hb'⟩)
  go_ret
  exact ⟨ret_bool HE.out, hb'⟩

end Go.Proofs.YtlkkfkkhllijbaaDoor
