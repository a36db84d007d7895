/- Texts of this seat, merged. -/
import Derived.Test.YtoalecalahkblaaGreatDoorProg
import Derived.Outline
import Derived.Shelf.Abstract
import Derived.Test.YtoalecalahkblaaGreatDoorIy01
import Derived.Test.YtoalecalahkblaaGreatDoorIy02
import Derived.Test.YtoalecalahkblaaGreatDoorIy03
set_option linter.all false
set_option linter.all false
namespace Go.Proofs.YtoalecalahkblaaGreatDoor
open Go.RowKit
def firstF {α : Type} (p : α → Bool) (xs : List α) : Int := match xs.findIdx? p with
  | some i => (i : Int)
  | none => -1
theorem firstF_hit {α : Type} {p : α → Bool} {xs : List α} {j : Nat} {x : α} (hx : xs[j]? = some x) (hp : p x = true) (hb : ∀ (q : Nat) t, q < j → xs[q]? = some t → p t = false) : firstF p xs = (j : Int) := by
  obtain ⟨hj, e⟩ := List.getElem?_eq_some_iff.1 hx
  have : xs.findIdx? p = some j := List.findIdx?_eq_some_iff_getElem.2 ⟨hj, by rw [e]; exact hp, fun q hq => by
    have := hb q xs[q] hq (List.getElem?_eq_getElem (by omega))
    rw [this]; decide⟩
  unfold firstF; rw [this]
theorem firstF_miss {α : Type} {p : α → Bool} {xs : List α} (hb : ∀ (q : Nat) y, q < xs.length → xs[q]? = some y → p y = false) : firstF p xs = -1 := by
  have : xs.findIdx? p = none := List.findIdx?_eq_none_iff.2 fun x hx => by
    obtain ⟨q, hq, rfl⟩ := List.mem_iff_getElem.1 hx
    exact hb q _ hq (List.getElem?_eq_getElem hq)
  unfold firstF; rw [this]
theorem firstF_any {α : Type} (p : α → Bool) (xs : List α) : decide (0 ≤ firstF p xs) = xs.any p := by
  unfold firstF
  cases h : xs.findIdx? p with
  | none =>
    have := List.findIdx?_eq_none_iff.1 h
    rw [List.any_eq_false.2 fun x hx => by rw [this x hx]; decide]
    rfl
  | some i =>
    obtain ⟨hi, hp, _⟩ := List.findIdx?_eq_some_iff_getElem.1 h
    rw [List.any_eq_true.2 ⟨_, List.getElem_mem hi, hp⟩]
    exact decide_eq_true (by simp only; omega)
def AsksF {α : Type} (k : FuncId) (cb : Array Value) (R : ElemR α) (w : World) (ts : List α) (p : α → Bool) : Prop := ∀ (x : α) (u : Value) (W : World), x ∈ ts → R (Lt w.heap.size) w x [u] → Below w.heap.size w W → Calls Tryz.prog k (#[u] ++ cb) W fun e w' => e = .returned (.bool (p x)) ∧ Below W.heap.size W w'
def RByte : ElemR UInt8 := fun _ _ c cs => cs = [.int .u8 (c.toNat : Int)]
theorem RByte.kept : ElemR.Kept RByte := fun _ _ _ _ _ _ _ _ h => h
set_option maxHeartbeats 1000000 in
theorem idxFS (k : FuncId) (cb : Array Value) (eg : ∀ args w, (callFunc k args).run Tryz.prog w = .ok (.enter k args) w) (tv : Value) (ts : List (ByteArray)) (p : ByteArray → Bool) (w : World) (ht : Sl 1 RStr (Lt w.heap.size) w tv ts) (hf : AsksF k cb RStr w ts p) :
    Calls Tryz.prog 73 #[tv, .func (.func k) #[] cb] w fun e w' => e = .returned (.int .i64 (firstF p ts)) ∧ Below w.heap.size w w' := by
  obtain ⟨A, c, rfl, h1, h2, ht⟩ := ht.open_
  have HF := Lib.hid hf
  have HT := Lib.hid ht
  clear hf ht
  go_enter Tryz.func73, Tryz.ntmps73
  go_wp2_with fail
  go_loopw [8] (fun i wr => ∃ j : Nat, j ≤ ts.length ∧ i = .int .i64 j ∧ Hid (∀ (q : Nat) t, q < j → ts[q]? = some t → p t = false) ∧ Hid (Below w.heap.size w wr)) (fun i _ => ts.length - (intOf i).toNat)
  case atStart => exact ⟨0, Nat.zero_le _, rfl, Lib.hid (fun q _ h => absurd h (by omega)), Lib.hid (Below.refl _ _)⟩
  case round =>
    obtain ⟨j, hj, rfl, HP, HB⟩ := hrel
    by_cases hlt : j < ts.length
    · obtain ⟨b, o, t, u, rfl, hD, hx, hr, hc⟩ := HT.out.at1 hlt
      have c0 := (HB.out.cell (p := ⟨b, o + j, none⟩) hD).trans hc
      have hcall := HF.out t u wr (List.mem_of_getElem? hx) hr HB.out
      have HX := Lib.hid hx
      clear hx hr hc
      generalize hq : p t = q' at *
      have HQ := Lib.hid hq
      have HC := Lib.hid hcall
      clear hcall hq
      cases q'
      · go_wp2_with (go_at_fn k; (with_reducible refine HC.out.mono ?_); rintro e w' ⟨rfl, hb'⟩; have HB' := Lib.hid (bthen HB.out hb'); clear hb')
        go_roundw
        case rel =>
          refine ⟨j + 1, by omega, by go_num, Lib.hid (fun q y hq hy => ?_), HB'⟩
          by_cases e : q = j
          · subst e; rw [HX.out] at hy; injection hy with hy; subst hy; exact HQ.out
          · exact HP.out q y (by omega) hy
        case measure => simp [intOf]; omega
      · go_wp2_with (go_at_fn k; (with_reducible refine HC.out.mono ?_); rintro e w' ⟨rfl, hb'⟩; have HB' := Lib.hid (bthen HB.out hb'); clear hb')
        go_ret
        exact ⟨ret_int (firstF_hit HX.out HQ.out HP.out).symm, HB'.out⟩
    · go_wp2_with fail
      go_ret
      exact ⟨ret_int (firstF_miss (fun q y hq hy => HP.out q y (by omega) hy)).symm, HB.out⟩
theorem contFS (k : FuncId) (cb : Array Value) (eg : ∀ args w, (callFunc k args).run Tryz.prog w = .ok (.enter k args) w) (tv : Value) (ts : List (ByteArray)) (p : ByteArray → Bool) (w : World) (ht : Sl 1 RStr (Lt w.heap.size) w tv ts) (hf : AsksF k cb RStr w ts p) :
    Calls Tryz.prog 28 #[tv, .func (.func k) #[] cb] w fun e w' => e = .returned (.bool (ts.any p)) ∧ Below w.heap.size w w' := by
  have HC := Lib.hid (idxFS k cb eg tv ts p w ht hf)
  have HZ := Lib.hid (firstF_any p ts)
  generalize firstF p ts = z at *
  obtain ⟨A, c, rfl, h1, h2, _⟩ := ht.open_
  clear hf ht
  go_enter Tryz.func28, Tryz.ntmps28
  go_wp2_with fail
  (with_reducible refine HC.out.mono ?_)
  rintro e w' ⟨rfl, hb'⟩
  go_wp2_with fail
  go_ret
  exact ⟨by rw [← HZ.out]; rfl, hb'⟩
set_option maxHeartbeats 1000000 in
theorem idxFI (k : FuncId) (cb : Array Value) (eg : ∀ args w, (callFunc k args).run Tryz.prog w = .ok (.enter k args) w) (tv : Value) (ts : List (Int)) (p : Int → Bool) (w : World) (ht : Sl 1 RInt (Lt w.heap.size) w tv ts) (hf : AsksF k cb RInt w ts p) :
    Calls Tryz.prog 114 #[tv, .func (.func k) #[] cb] w fun e w' => e = .returned (.int .i64 (firstF p ts)) ∧ Below w.heap.size w w' := by
  obtain ⟨A, c, rfl, h1, h2, ht⟩ := ht.open_
  have HF := Lib.hid hf
  have HT := Lib.hid ht
  clear hf ht
  go_enter Tryz.func114, Tryz.ntmps114
  go_wp2_with fail
  go_loopw [8] (fun i wr => ∃ j : Nat, j ≤ ts.length ∧ i = .int .i64 j ∧ Hid (∀ (q : Nat) t, q < j → ts[q]? = some t → p t = false) ∧ Hid (Below w.heap.size w wr)) (fun i _ => ts.length - (intOf i).toNat)
  case atStart => exact ⟨0, Nat.zero_le _, rfl, Lib.hid (fun q _ h => absurd h (by omega)), Lib.hid (Below.refl _ _)⟩
  case round =>
    obtain ⟨j, hj, rfl, HP, HB⟩ := hrel
    by_cases hlt : j < ts.length
    · obtain ⟨b, o, t, u, rfl, hD, hx, hr, hc⟩ := HT.out.at1 hlt
      have c0 := (HB.out.cell (p := ⟨b, o + j, none⟩) hD).trans hc
      have hcall := HF.out t u wr (List.mem_of_getElem? hx) hr HB.out
      have HX := Lib.hid hx
      clear hx hr hc
      generalize hq : p t = q' at *
      have HQ := Lib.hid hq
      have HC := Lib.hid hcall
      clear hcall hq
      cases q'
      · go_wp2_with (go_at_fn k; (with_reducible refine HC.out.mono ?_); rintro e w' ⟨rfl, hb'⟩; have HB' := Lib.hid (bthen HB.out hb'); clear hb')
        go_roundw
        case rel =>
          refine ⟨j + 1, by omega, by go_num, Lib.hid (fun q y hq hy => ?_), HB'⟩
          by_cases e : q = j
          · subst e; rw [HX.out] at hy; injection hy with hy; subst hy; exact HQ.out
          · exact HP.out q y (by omega) hy
        case measure => simp [intOf]; omega
      · go_wp2_with (go_at_fn k; (with_reducible refine HC.out.mono ?_); rintro e w' ⟨rfl, hb'⟩; have HB' := Lib.hid (bthen HB.out hb'); clear hb')
        go_ret
        exact ⟨ret_int (firstF_hit HX.out HQ.out HP.out).symm, HB'.out⟩
    · go_wp2_with fail
      go_ret
      exact ⟨ret_int (firstF_miss (fun q y hq hy => HP.out q y (by omega) hy)).symm, HB.out⟩
theorem contFI (k : FuncId) (cb : Array Value) (eg : ∀ args w, (callFunc k args).run Tryz.prog w = .ok (.enter k args) w) (tv : Value) (ts : List (Int)) (p : Int → Bool) (w : World) (ht : Sl 1 RInt (Lt w.heap.size) w tv ts) (hf : AsksF k cb RInt w ts p) :
    Calls Tryz.prog 62 #[tv, .func (.func k) #[] cb] w fun e w' => e = .returned (.bool (ts.any p)) ∧ Below w.heap.size w w' := by
  have HC := Lib.hid (idxFI k cb eg tv ts p w ht hf)
  have HZ := Lib.hid (firstF_any p ts)
  generalize firstF p ts = z at *
  obtain ⟨A, c, rfl, h1, h2, _⟩ := ht.open_
  clear hf ht
  go_enter Tryz.func62, Tryz.ntmps62
  go_wp2_with fail
  (with_reducible refine HC.out.mono ?_)
  rintro e w' ⟨rfl, hb'⟩
  go_wp2_with fail
  go_ret
  exact ⟨by rw [← HZ.out]; rfl, hb'⟩
end Go.Proofs.YtoalecalahkblaaGreatDoor
