/- slices.Equal of texts. -/
import Derived.Test.YtilmdlkfmkbfmaaShelf
import Derived.Test.YtilmdlkfmkbfmaaOwn
set_option linter.all false
namespace Go.Proofs.Ytilmdlkfmkbfmaa
open Go.RowKit

theorem equalS (u v : Value) (xs ys : List ByteArray) (w : World) (hu : SlS (Lt w.heap.size) w u xs) (hv : SlS (Lt w.heap.size) w v ys) :
    Calls Try.prog 15 #[u, v] w fun e w' => e = .returned (.bool (decide (xs = ys))) ∧ ∃ q, w' = w.drewN q := by
  obtain ⟨A, c, rfl, h1, h2, hu⟩ := hu.open_
  obtain ⟨A', c', rfl, h1', h2', hv⟩ := hv.open_
  by_cases hn : 0 < xs.length ∧ 0 < ys.length
  · obtain ⟨b, o, rfl, hD, _, hc⟩ := hu.cells hn.1
    obtain ⟨b', o', rfl, hD', _, hc'⟩ := hv.cells hn.2
    refine (Try.slices_Equal_string b o xs.length c b' o' ys.length c' xs ys w (Nat.le_refl _) (Nat.le_refl _) (by omega) (by omega) hc hc').mono ?_
    rintro e w' ⟨rfl, hq⟩
    rw [List.take_of_length_le (Nat.le_refl _), List.take_of_length_le (Nat.le_refl _)]
    exact ⟨rfl, hq⟩
  · by_cases hl : xs.length = ys.length
    · have e1 : xs = [] := List.eq_nil_of_length_eq_zero (by omega)
      have e2 : ys = [] := List.eq_nil_of_length_eq_zero (by omega)
      subst e1 e2
      refine (Try.slices_Equal_string_empty A A' c 0 c' w (by omega)).mono ?_
      rintro e w' ⟨rfl, rfl⟩
      exact ⟨ret_bool (by simp), 0, rfl⟩
    · refine (Try.slices_Equal_string_lens A A' xs.length c ys.length c' w hl).mono ?_
      rintro e w' ⟨rfl, rfl⟩
      refine ⟨ret_bool ?_, 0, rfl⟩
      symm
      rw [decide_eq_false_iff_not]
      exact fun e => hl (by rw [e])
end Go.Proofs.Ytilmdlkfmkbfmaa
