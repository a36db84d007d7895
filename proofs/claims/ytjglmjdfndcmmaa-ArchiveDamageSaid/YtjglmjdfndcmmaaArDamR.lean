/- The law of damage at its row's integers. -/
import Derived.Test.YtjglmjdfndcmmaaLawArDam
import Derived.Test.YtjglmjdfndcmmaaOpen
set_option linter.all false
namespace Go.Proofs.Ytjglmjdfndcmmaa
open Go.RowKit
theorem nat_of_wf32 {n : Int} (h : (Lit.int .u32 n).wf = true) : ∃ k : Nat, n = (k : Int) ∧ k < 4294967296 := by
  have h' : decide ((0 : Int) ≤ n) = true ∧ decide (n ≤ (4294967295 : Int)) = true := by
    rw [← Bool.and_eq_true]; exact h
  obtain ⟨h1, h2⟩ := h'
  have h1 := of_decide_eq_true h1
  have h2 := of_decide_eq_true h2
  exact ⟨n.toNat, by omega, by omega⟩
theorem archiveDamage_row (l : List Ev) (z m : Int) (u : Value) (w : World) (h : IsLog (Lt w.heap.size) w u l) (hz : (Lit.int .u32 z).wf = true) (hm : (Lit.int .u32 m).wf = true) :
    Calls Try.prog 4 #[u, .int .u32 z, .int .u32 m] w (YesB w) := by
  obtain ⟨a, rfl, ha⟩ := nat_of_wf32 hz
  obtain ⟨b, rfl, hb⟩ := nat_of_wf32 hm
  exact archiveDamage_law l a b u w h ha hb
end Go.Proofs.Ytjglmjdfndcmmaa
