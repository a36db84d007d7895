/- Texts of this seat, merged. -/
import Derived.Test.YtijmnenojbfdnaaGreatDoorProg
import Derived.Outline
import Derived.Shelf.Abstract
import Derived.Laws.MakeOwn
import Derived.Laws.Entries
import Derived.Test.YtijmnenojbfdnaaGreatDoorChecked
import Derived.Test.YtijmnenojbfdnaaGreatDoorEq01
set_option linter.unusedSimpArgs false
set_option linter.unusedVariables false
namespace Go.Proofs.YtijmnenojbfdnaaGreatDoor
open Go.RowKit
def Asks1 {α : Type} (k : FuncId) (cap : Array Value) (B : Nat) (w : World) (xs : List α) (IsA : (Nat → Prop) → World → Value → α → Prop) (p : α → Bool) : Prop :=
  ∀ (x : α) (v : Value) (w1 : World), x ∈ xs → Below B w w1 → B ≤ w1.heap.size → IsA (Lt w1.heap.size) w1 v x →
    Calls Tryz.prog k (#[v] ++ cap) w1 fun e w2 => e = .returned (.bool (p x)) ∧ Below w1.heap.size w1 w2
def firstAt {α : Type} (p : α → Bool) (xs : List α) : Int := match xs.findIdx? p with | some i => (i : Int) | none => -1
theorem firstAt_hit {α : Type} (p : α → Bool) (xs : List α) (j : Nat) (x : α) (hx : xs[j]? = some x) (h : p x = true) (hn : ∀ q y, q < j → xs[q]? = some y → p y = false) : firstAt p xs = j := by
  have hj : j < xs.length := by
    rcases Nat.lt_or_ge j xs.length with h | h
    · exact h
    · rw [List.getElem?_eq_none h] at hx; cases hx
  have : xs.findIdx? p = some j := by
    rw [List.findIdx?_eq_some_iff_getElem]
    refine ⟨hj, ?_, fun q hq => ?_⟩
    · rw [List.getElem?_eq_getElem hj] at hx; injection hx with hx; rw [hx]; exact h
    · have := hn q _ hq (List.getElem?_eq_getElem (by omega)); simpa using this
  unfold firstAt; rw [this]
theorem firstAt_miss {α : Type} (p : α → Bool) (xs : List α) (hn : ∀ q y, q < xs.length → xs[q]? = some y → p y = false) : firstAt p xs = -1 := by
  have : xs.findIdx? p = none := by
    rw [List.findIdx?_eq_none_iff]
    intro x hx
    obtain ⟨q, hq, rfl⟩ := List.mem_iff_getElem.1 hx
    exact hn q _ hq (List.getElem?_eq_getElem hq)
  unfold firstAt; rw [this]
theorem firstAt_any {α : Type} (p : α → Bool) (xs : List α) : decide (0 ≤ firstAt p xs) = xs.any p := by
  unfold firstAt
  cases h : xs.findIdx? p with
  | none =>
    rw [List.findIdx?_eq_none_iff] at h
    rw [Bool.eq_iff_iff]
    simp
    exact fun x hx => by have := h x hx; simp [this]
  | some i =>
    rw [List.findIdx?_eq_some_iff_getElem] at h
    obtain ⟨h1, h2, _⟩ := h
    rw [Bool.eq_iff_iff]
    simp
    exact ⟨_, List.getElem_mem h1, h2⟩
def IsI (_ : Nat → Prop) (_ : World) (v : Value) (z : Int) : Prop := v = .int .i64 z ∧ Fit z
set_option maxHeartbeats 400000 in
theorem indexFuncI (k : FuncId) (eg : ∀ args w, (callFunc k args).run Tryz.prog w = .ok (.enter k args) w) (cap : Array Value) (tv : Value) (ts : List Int) (p : Int → Bool) (w : World) (ht : SlI (Lt w.heap.size) w tv ts)
    (hf : Asks1 k cap w.heap.size w ts IsI p) :
    Calls Tryz.prog 170 #[tv, .func (.func k) #[] cap] w fun e w' => e = .returned (.int .i64 (firstAt p ts)) ∧ Below w.heap.size w w' := by
  obtain ⟨A, c, rfl, h1, h2, ht⟩ := ht.open_
  have HF := Lib.hid hf
  clear hf
  go_enter Tryz.func170, Tryz.ntmps170
  go_wp2_with fail
  go_loopw [8] (fun i wr => ∃ j : Nat, j ≤ ts.length ∧ i = .int .i64 j ∧ (∀ q t, q < j → ts[q]? = some t → p t = false) ∧ Below w.heap.size w wr) (fun i _ => ts.length - (intOf i).toNat)
  case atStart => exact ⟨0, Nat.zero_le _, rfl, fun q _ h => absurd h (by omega), Below.refl _ _⟩
  case round =>
    obtain ⟨j, hj, rfl, hp, hb⟩ := hrel
    have hsz := hb.size
    have HP := Lib.hid hp
    clear hp
    by_cases hlt : j < ts.length
    · obtain ⟨b, o, t, rfl, hD, hx, hf, c0⟩ := (ht.below hb hsz).at_ hlt
      have hcall := HF.out t (.int .i64 t) wr (List.mem_of_getElem? hx) hb hsz ⟨rfl, hf⟩
      have HX := Lib.hid hx
      clear hx
      cases hq : p t with
      | true =>
        rw [hq] at hcall
        have HC := Lib.hid hcall
        have HQ := Lib.hid hq
        clear hcall hq
        go_wp2_with (go_at_fn k; refine HC.out.mono ?_; rintro e w' ⟨rfl, hb'⟩)
        go_ret
        exact ⟨ret_int (firstAt_hit p ts j t HX.out HQ.out HP.out).symm, below_step hb hb' hsz⟩
      | false =>
        rw [hq] at hcall
        have HC := Lib.hid hcall
        have HQ := Lib.hid hq
        clear hcall hq
        go_wp2_with (go_at_fn k; refine HC.out.mono ?_; rintro e w' ⟨rfl, hb'⟩)
        go_roundw
        case rel =>
          refine ⟨j + 1, by omega, by go_num, fun q y hq hy => ?_, below_step hb hb' hsz⟩
          by_cases e : q = j
          · subst e; rw [HX.out] at hy; injection hy with hy; subst hy; exact HQ.out
          · exact HP.out q y (by omega) hy
        case measure => simp [intOf]; omega
    · go_wp2_with fail
      go_ret
      exact ⟨ret_int (firstAt_miss p ts (fun q y hq hy => HP.out q y (by omega) hy)).symm, hb⟩
set_option maxHeartbeats 400000 in
theorem containsFuncI (k : FuncId) (eg : ∀ args w, (callFunc k args).run Tryz.prog w = .ok (.enter k args) w) (cap : Array Value) (tv : Value) (ts : List Int) (p : Int → Bool) (w : World) (ht : SlI (Lt w.heap.size) w tv ts)
    (hf : Asks1 k cap w.heap.size w ts IsI p) :
    Calls Tryz.prog 127 #[tv, .func (.func k) #[] cap] w fun e w' => e = .returned (.bool (ts.any p)) ∧ Below w.heap.size w w' := by
  have HC := Lib.hid (indexFuncI k eg cap tv ts p w ht hf)
  have HE := Lib.hid (firstAt_any p ts)
  clear hf ht
  generalize firstAt p ts = r at HC HE
  go_enter Tryz.func127, Tryz.ntmps127
  go_wp2_with (go_at_call 170; refine HC.out.mono ?_; rintro e w' ⟨rfl, hb'⟩)
  go_ret
  exact ⟨ret_bool HE.out, hb'⟩
end Go.Proofs.YtijmnenojbfdnaaGreatDoor

namespace Go.Proofs.YtijmnenojbfdnaaGreatDoor
open Go.RowKit
def OwnF {α : Type} (f : α → Value) (w : World) (base t g cap : Nat) (xs : List α) : Prop :=
  w.ownsRow base t 1 (.slice (some ⟨g, 0, none⟩) xs.length cap) xs.length (xs.map f) ∧ g < w.heap.size ∧ base ≤ g
section
variable {α : Type} {f : α → Value} {w w' : World} {base t g cap : Nat} {xs : List α}
theorem OwnF.cell (h : OwnF f w base t g cap xs) {k : Nat} {x : α} (hx : xs[k]? = some x) : w.cell? ⟨g, k, none⟩ = some (f x) := by
  have hk : k < xs.length := by
    rcases Nat.lt_or_ge k xs.length with h | h
    · exact h
    · rw [List.getElem?_eq_none h] at hx; cases hx
  rw [h.1.cellAt k (by omega)]; simp [hx]
theorem OwnF.frozen (h : OwnF f w base t g cap xs) (k : Nat) : w.frozen? ⟨g, k, none⟩ = false := h.1.frozenAt k
theorem OwnF.set_ (h : OwnF f w base t g cap xs) (k : Nat) (x : α) : OwnF f (w.setCell ⟨g, k, none⟩ (f x)) base t g cap (xs.set k x) := by
  refine ⟨?_, by simpa using h.2.1, h.2.2⟩
  have := (h.1.stored k (f x)).1
  rw [List.length_set, List.map_set]
  exact this
theorem OwnF.now (h : OwnF f w base t g cap xs) (hb : Below w.heap.size w w') : OwnF f w' base t g cap xs := ⟨own_now h.1 hb, Nat.lt_of_lt_of_le h.2.1 hb.size, h.2.2⟩
theorem OwnF.drew (h : OwnF f w base t g cap xs) : OwnF f w.drew base t g cap xs := h
theorem OwnF.drewN (h : OwnF f w base t g cap xs) (n : Nat) : OwnF f (w.drewN n) base t g cap xs := h
theorem OwnF.far (h : OwnF f w base t g cap xs) {p : Addr} (hp : p.block ≠ g) (u : Value) : OwnF f (w.setCell p u) base t g cap xs :=
  ⟨ownsRow_setCell_other h.1 (fun e => by injection e with e; exact hp e.symm) u, by simpa using h.2.1, h.2.2⟩
theorem OwnF.lt (h : OwnF f w base t g cap xs) : g < w.heap.size := h.2.1
theorem OwnF.mono {base' : Nat} (h : OwnF f w base t g cap xs) (hb : base' ≤ base) : OwnF f w base' t g cap xs := by
  refine ⟨⟨h.1.1, ?_⟩, h.2.1, Nat.le_trans hb h.2.2⟩
  rcases h.1.2 with h' | ⟨g', c', cur, e, h1, h2⟩
  · exact .inl h'
  · exact .inr ⟨g', c', cur, e, Nat.le_trans hb h1, h2⟩
theorem OwnF.made (w : World) (t n : Nat) (z : α) (hn : n ≤ maxLen) : OwnF f (w.alloc (.cells (madeCells #[f z] n) t)) w.heap.size t w.heap.size n (List.replicate n z) := by
  have hs : (madeCells #[f z] n).size = n * 1 := by simp [madeCells]
  have := World.ownsRow_lit (base := w.heap.size) (e := t) (size := 1) w (madeCells #[f z] n) n (Nat.le_refl _) hn hs
  refine ⟨?_, by simp, Nat.le_refl _⟩
  rw [List.length_replicate, List.map_replicate]
  rw [toList_madeCells_one] at this
  exact this
end
end Go.Proofs.YtijmnenojbfdnaaGreatDoor

namespace Go.Proofs.YtijmnenojbfdnaaGreatDoor
open Go.RowKit
theorem intInfo : (Tryz.prog.info? 3).map (fun i => (i.zero, i.size, i.bytes)) = some (some (.int .i64 0), 1, 8) := by kernel_rfl
theorem appInts : AppInfo Tryz.prog 148 3 1 := AppInfo.mk' Tryz.underlying148 (by kernel_rfl) (bytes := 8) (z := .int .i64 0) (by omega) rfl (by omega)
end Go.Proofs.YtijmnenojbfdnaaGreatDoor
