/- Texts of this seat, merged. -/
import Derived.Deep.CutRange
import Derived.Test.YtoalecalahkblaaGreatDoorIl01
import Derived.Test.YtoalecalahkblaaGreatDoorIl02
import Derived.Test.YtoalecalahkblaaGreatDoorIl03
import Derived.Test.YtoalecalahkblaaGreatDoorIl04
import Derived.Test.YtoalecalahkblaaGreatDoorIl23
set_option linter.all false
set_option linter.all false
namespace Go.Proofs.YtoalecalahkblaaGreatDoor
open Go.RowKit
theorem evB_eq (e : Ev) : evB e = (((isNameB e.cas && isNameB e.act && (noS e.res || isNameB e.res)) && (decide (1 ≤ e.life ∧ e.life ≤ 6) && decide (0 ≤ e.time ∧ e.time ≤ 1099511627776) && decide (e.data.length ≤ 8))) && fldsB e.data) := by
  unfold evB; simp only [Bool.and_assoc]
theorem fldAt_zero {l : List Fld} {f : Fld} (h : l[0]? = some f) : fldAt l 0 = (isNameB f.nm && validV f.v) := by unfold fldAt fldB; rw [h]; simp
theorem fldAt_succ {l : List Fld} {k : Nat} {f g : Fld} (h : l[k + 1]? = some f) (hg : l[k]? = some g) : fldAt l (k + 1) = ((isNameB f.nm && validV f.v) && decide (g.nm.data.toList < f.nm.data.toList)) := by
  unfold fldAt fldB; rw [h]; simp [hg]
theorem fldAt_bad {l : List Fld} {k : Nat} {f : Fld} (h : l[k]? = some f) (hb : (isNameB f.nm && validV f.v) = false) : fldAt l k = false := by
  unfold fldAt fldB; rw [h]; simp only [hb, Bool.false_and]
theorem noS_no {s : ByteArray} (h : noS s = false) : (s.toList == []) = false := by
  unfold noS at h
  cases hh : s.toList with
  | nil => rw [hh] at h; simp at h
  | cons a b => rfl
theorem noS_yes {s : ByteArray} (h : noS s = true) : (s.toList == []) = true := by
  unfold noS at h
  cases hh : s.toList with
  | nil => rfl
  | cons a b => rw [hh] at h; simp at h
end Go.Proofs.YtoalecalahkblaaGreatDoor
