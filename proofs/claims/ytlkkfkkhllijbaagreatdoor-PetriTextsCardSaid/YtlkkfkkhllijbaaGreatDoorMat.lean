/- matrix.Valid. -/
import Derived.Test.YtlkkfkkhllijbaaGreatDoorSearch
import Derived.Test.YtlkkfkkhllijbaaGreatDoorMatSpec
namespace Go.Proofs.YtlkkfkkhllijbaaGreatDoor
open Go.RowKit


theorem any_not_entry (m : List Int) : m.any (fun z => !entryB z) = !entriesB m := by
  unfold entriesB
  induction m with
  | nil => rfl
  | cons a m ih => simp [List.any_cons, List.all_cons, ih]
theorem any_not_row (c : Nat) (m : List (List Int)) : m.any (fun r => !rowOk c r) = !m.all (rowOk c) := by
  induction m with
  | nil => rfl
  | cons a m ih => simp [List.any_cons, List.all_cons, ih]


/-- A row as a value. -/
def IsRow (D : Nat → Prop) (w : World) (v : Value) (r : List Int) : Prop := SlI D w v r



theorem first_at {D : Nat → Prop} {w : World} {A : Option Addr} {n c : Nat} {m : List (List Int)} (h : SlII D w (.slice A n c) m) (hn : 0 < n) :
    ∃ b o A0 c0, A = some ⟨b, o, none⟩ ∧ D b ∧ w.cell? ⟨b, o, none⟩ = some (.slice A0 (firstLen m) c0) ∧ firstLen m ≤ c0 ∧ c0 ≤ 9223372036854775807 := by
  obtain ⟨b, o, r, u, hA, hD, hx, hs, hc⟩ := h.at_ hn
  obtain ⟨A0, c0, rfl, l1, l2, _⟩ := hs.open_
  cases m with
  | nil => simp at hx
  | cons a m =>
    injection hx with hx
    subst hx
    exact ⟨b, o, A0, c0, hA, hD, hc, l1, l2⟩


end Go.Proofs.YtlkkfkkhllijbaaGreatDoor
