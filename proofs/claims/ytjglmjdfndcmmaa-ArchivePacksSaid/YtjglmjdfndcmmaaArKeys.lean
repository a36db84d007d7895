/- slices.Sorted(maps.Keys(m)) of a map[string]int that the call makes. -/
import Derived.Test.YtjglmjdfndcmmaaIter
import Derived.Test.YtjglmjdfndcmmaaSortS
import Derived.Test.YtjglmjdfndcmmaaArMap
set_option linter.all false
namespace Go.Proofs.Ytjglmjdfndcmmaa
open Go.RowKit Go.Maps Go.Sort Go.Shelf

theorem sortsN (m : Nat) : AnyZ.SortsIn Try.prog Try.sorted46_ren Fence.wide m :=
  ⟨fun blk off cap ss W hH hblk hsz => callsIn_wide.2 (AnyM.slices_Sort_string Try.sort77 blk off cap ss W hH hblk hsz),
   fun p cap W => callsIn_wide.2 (AnyM.slices_Sort_string_none Try.sort77 p cap W)⟩
theorem keysN (mb : Option Nat) (W : World) : Calls Try.prog 81 #[.map mb] W fun e w' => e = .returned (.func (.func 99) #[] #[.pointer (some ⟨W.heap.size, 0, none⟩)]) ∧ w' = W.alloc (.cells #[.map mb] 114) :=
  (callsIn_wide (n := 5)).1 (AnyZ.keys_in Try.keys81 Fence.wide 5 trivial rfl mb W)

set_option maxHeartbeats 1000000 in
theorem sortedN (b n : Nat) (f : Bs → Option Nat) (ks : List Bs) (w : World) (hM : MapN w b n f) (hf : ∀ s, (f s).isSome = true ↔ s ∈ ks) (hn : n ≤ 1000000) :
    Calls Try.prog 46 #[.func (.func 99) #[] #[.pointer (some ⟨w.heap.size, 0, none⟩)]] (w.alloc (.cells #[.map (some b)] 114)) fun e w' =>
      ∃ v : Value, e = .returned v ∧ OwnS w' (w.alloc (.cells #[.map (some b)] 114)).heap.size v (setB ks) ∧ Below (w.alloc (.cells #[.map (some b)] 114)).heap.size (w.alloc (.cells #[.map (some b)] 114)) w' := by
  obtain ⟨D0, hown, hsz, hperm⟩ := hM.keys hf
  have hbl := hown.lt
  have hseq : SeqGives Fence.wide 2 Try.prog 99 #[.pointer (some ⟨w.heap.size, 0, none⟩)] encStr (fun ss => ss.Perm (strKeys D0)) (Maps.size D0) (w.alloc (.cells #[.map (some b)] 114)) :=
    AnyZ.keys_gives (ρ := Try.keys81_ren) { Try.keys81 with } Fence.wide _ trivial rfl (by omega) w.heap.size b n D0 _ (by simp) (by simp) (by
      obtain ⟨es, clock, hb, Ft, hs, hD⟩ := hown
      exact ⟨es, clock, (Below.heap_alloc _ _ b hbl).trans hb, Ft, hs, hD⟩)
  refine ((callsIn_wide (n := 5)).1 (AnyZ.sorted_in Try.sorted46 Fence.wide 5 trivial trivial trivial trivial rfl (by omega) (sortsN _) (enters_of Try.func77 (by kernel_rfl) rfl) 99 #[.pointer (some ⟨w.heap.size, 0, none⟩)] trivial (enters_of Try.func99 (by kernel_rfl) rfl) _ _ (by unfold maxLen; omega) (by omega) _ hseq)).mono ?_
  rintro e w' ⟨v, ss, rfl, hS, hrow, _, hb⟩
  refine ⟨v, rfl, ?_, hb⟩
  have h1 := hperm ss hS
  have h2 : (ss.mergeSort (fun x y => decide (x ≤ y))).length = ss.length := (List.mergeSort_perm ss _).length_eq
  unfold OwnS
  rw [← h1, h2]
  exact hrow
end Go.Proofs.Ytjglmjdfndcmmaa
