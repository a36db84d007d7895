/- Texts of this seat, merged. -/
import Derived.Lib.Strings
import Derived.Test.YtoalecalahkblaaGreatDoorIy01
import Derived.Test.YtoalecalahkblaaGreatDoorIy02
set_option linter.all false
set_option linter.all false
namespace Go.Proofs.YtoalecalahkblaaGreatDoor
open Go.RowKit
theorem size_eq (s : ByteArray) : s.data.toList.length = s.size := Array.length_toList
theorem noS_size {s : ByteArray} (h : noS s = true) : s.size = 0 := by
  unfold noS at h
  have h1 : s.toList = [] := by simpa using h
  have h2 : s.data.toList = [] := by rw [← Lib.toList_data]; exact h1
  rw [← size_eq, h2]; rfl
theorem fld_parts {f : Fld} (h : fldB f = true) : isNameB f.nm = true ∧ validV f.v = true := by
  unfold fldB at h
  simpa using h
theorem flds_mem {l : List Fld} (h : fldsB l = true) : ∀ f ∈ l, fldB f = true := by
  intro f hf
  obtain ⟨k, hk, rfl⟩ := List.mem_iff_getElem.1 hf
  have := all_at h hk
  unfold fldAt at this
  rw [List.getElem?_eq_getElem hk] at this
  dsimp only at this
  rw [Bool.and_eq_true] at this
  exact this.1
structure EvOk (e : Ev) : Prop where
  cas : isNameB e.cas = true
  act : isNameB e.act = true
  res : noS e.res = true ∨ isNameB e.res = true
  life : 1 ≤ e.life ∧ e.life ≤ 6
  time : 0 ≤ e.time ∧ e.time ≤ 1099511627776
  len : e.data.length ≤ 8
  flds : fldsB e.data = true
theorem ev_parts {e : Ev} (h : evB e = true) : EvOk e := by
  unfold evB at h
  simp only [Bool.and_eq_true, Bool.or_eq_true, decide_eq_true_eq] at h
  obtain ⟨⟨⟨⟨⟨⟨h1, h2⟩, h3⟩, h4⟩, h5⟩, h6⟩, h7⟩ := h
  exact ⟨h1, h2, h3, h4, h5, h6, h7⟩
theorem log_time {l : List Ev} (h : logB l = true) : l.Pairwise fun a b => a.time ≤ b.time := by
  unfold logB at h
  rw [Bool.and_eq_true, decide_eq_true_eq] at h
  have h2 : ∀ (j : Nat) (hj : j < l.length), 0 < j → (l[j - 1]'(by omega)).time ≤ l[j].time := by
    intro j hj h0
    have := all_at h.2 hj
    unfold evAt at this
    rw [List.getElem?_eq_getElem hj, List.getElem?_eq_getElem (show j - 1 < l.length by omega)] at this
    dsimp only at this
    rw [Bool.and_eq_true, Bool.or_eq_true, decide_eq_true_eq, decide_eq_true_eq] at this
    rcases this.2 with h | h
    · omega
    · exact h
  rw [List.pairwise_iff_getElem]
  intro i j hi hj hij
  have : ∀ d, (hd : i + d < l.length) → l[i].time ≤ l[i + d].time := by
    intro d
    induction d with
    | zero => intro _; exact Int.le_refl _
    | succ d ih =>
      intro hd
      have h3 := h2 (i + (d + 1)) hd (by omega)
      have h4 := ih (by omega)
      have e : i + (d + 1) - 1 = i + d := by omega
      simp only [e] at h3
      omega
  have h5 := this (j - i) (by omega)
  have e : i + (j - i) = j := by omega
  simp only [e] at h5
  exact h5
end Go.Proofs.YtoalecalahkblaaGreatDoor

set_option linter.all false
namespace Go.Proofs.YtoalecalahkblaaGreatDoor
open Go.RowKit
theorem less_eqB : ∀ (x y : List UInt8), Op.bytesLess x y = decide (x < y)
  | [], [] => by simp [Op.bytesLess]
  | _ :: _, [] => by simp [Op.bytesLess]
  | [], _ :: _ => by simp [Op.bytesLess]
  | a :: x, b :: y => by
    rw [Op.bytesLess, less_eqB x y]
    simp only [List.cons_lt_cons_iff]
    by_cases h1 : a < b <;> by_cases h2 : a = b <;> by_cases h3 : x < y <;> simp [h1, h2, h3]
theorem less_at (x y : ByteArray) : Op.bytesLess x.toList y.toList = decide (x.data.toList < y.data.toList) := by
  rw [less_eqB, Lib.toList_data, Lib.toList_data]
end Go.Proofs.YtoalecalahkblaaGreatDoor
