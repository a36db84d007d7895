/- Four successive bytes changed by a mask: the sum is wrong then. No program in sight. -/
import Derived.Test.YtjglmjdfndcmmaaArCrc
set_option linter.all false
namespace Go.Proofs.Ytjglmjdfndcmmaa
open Go.RowKit

/-- Byte j of a mask. -/
def mb (m j : Nat) : UInt8 := UInt8.ofNat (m / 256 ^ j % 256)
/-- The first k of four bytes at i are changed. -/
structure Chg (L L' : List UInt8) (i m k : Nat) : Prop where
  len : L'.length = L.length
  at_ : ∀ j, L'[j]? = if i ≤ j ∧ j < i + k then (L[j]?).map (fun c => c ^^^ mb m (j - i)) else L[j]?
theorem Chg.zero (L : List UInt8) (i m : Nat) : Chg L L i m 0 := ⟨rfl, fun j => by rw [if_neg (by omega)]⟩
theorem Chg.step {L L' : List UInt8} {i m k : Nat} (h : Chg L L' i m k) {c : UInt8} (hc : L'[i + k]? = some c) : Chg L (L'.set (i + k) (c ^^^ mb m k)) i m (k + 1) := by
  refine ⟨by rw [List.length_set, h.len], fun j => ?_⟩
  rw [List.getElem?_set]
  by_cases hj : i + k = j
  · subst hj
    have h1 := h.at_ (i + k)
    rw [if_neg (by omega), hc] at h1
    have hl := (List.getElem?_eq_some_iff.1 hc).1
    rw [if_pos rfl, if_pos hl, if_pos (by omega), ← h1, show i + k - i = k by omega]
    rfl
  · rw [if_neg hj, h.at_ j]
    by_cases h2 : i ≤ j ∧ j < i + k
    · rw [if_pos h2, if_pos (by omega)]
    · rw [if_neg h2, if_neg (by omega)]
theorem mb_some {m : Nat} (h0 : m ≠ 0) (h : m < 4294967296) : ∃ j, j < 4 ∧ mb m j ≠ 0 := by
  apply Classical.byContradiction
  intro hn
  have key : ∀ j, j < 4 → m / 256 ^ j % 256 = 0 := fun j hj => by
    have h1 : mb m j = 0 := Classical.byContradiction fun h2 => hn ⟨j, hj, h2⟩
    have h2 := congrArg UInt8.toNat h1
    unfold mb at h2
    rw [UInt8.toNat_ofNat'] at h2
    have h3 : (0 : UInt8).toNat = 0 := rfl
    rw [h3] at h2
    omega
  have k0 := key 0 (by omega)
  have k1 := key 1 (by omega)
  have k2 := key 2 (by omega)
  have k3 := key 3 (by omega)
  rw [show (256 : Nat) ^ 0 = 1 from rfl] at k0
  rw [show (256 : Nat) ^ 1 = 256 from rfl] at k1
  rw [show (256 : Nat) ^ 2 = 65536 from rfl] at k2
  rw [show (256 : Nat) ^ 3 = 16777216 from rfl] at k3
  omega
theorem xor_ne {c m : UInt8} (h : m ≠ 0) : c ^^^ m ≠ c := by
  intro e
  refine h ?_
  have := congrArg (fun x => c ^^^ x) e
  simpa [← UInt8.xor_assoc] using this
theorem three (L : List UInt8) (i : Nat) : L = L.take i ++ (L.drop i).take 4 ++ L.drop (i + 4) := by
  rw [List.append_assoc, show L.drop (i + 4) = (L.drop i).drop 4 by rw [List.drop_drop], List.take_append_drop, List.take_append_drop]
theorem damage {c L' : List UInt8} {i m : Nat} (h : Chg (c ++ le4 (sumOf c)) L' i m 4) (hi : i + 4 ≤ (c ++ le4 (sumOf c)).length) (h0 : m ≠ 0) (hm : m < 4294967296) :
    L'.drop (L'.length - 4) ≠ le4 (sumOf (L'.take (L'.length - 4))) := by
  obtain ⟨L, hL⟩ : ∃ L, c ++ le4 (sumOf c) = L := ⟨_, rfl⟩
  have hb := hL
  rw [hL] at h hi
  have e1 : L'.take i = L.take i := by
    apply List.ext_getElem?
    intro j
    rw [List.getElem?_take, List.getElem?_take]
    by_cases hj : j < i
    · rw [if_pos hj, if_pos hj, h.at_ j, if_neg (by omega)]
    · rw [if_neg hj, if_neg hj]
  have e2 : L'.drop (i + 4) = L.drop (i + 4) := by
    apply List.ext_getElem?
    intro j
    rw [List.getElem?_drop, List.getElem?_drop, h.at_, if_neg (by omega)]
  have hne : (L.drop i).take 4 ≠ (L'.drop i).take 4 := by
    intro e
    obtain ⟨j, hj, hmj⟩ := mb_some h0 hm
    have h1 := congrArg (fun l => l[j]?) e
    try dsimp only at h1
    rw [List.getElem?_take, if_pos hj, List.getElem?_take, if_pos hj, List.getElem?_drop, List.getElem?_drop, h.at_ (i + j), if_pos (by omega), List.getElem?_eq_getElem (by omega)] at h1
    rw [show i + j - i = j by omega] at h1
    injection h1 with h1
    exact xor_ne hmj h1.symm
  have hl := h.len
  refine damage_found (c := c) (p := L.take i) (u := (L.drop i).take 4) (v := (L'.drop i).take 4) (q := L.drop (i + 4)) ?_ ?_ ?_ ?_ hne
  · rw [hb]; exact three L i
  · rw [List.take_append_drop, ← e1, ← e2]; exact (three L' i).symm
  · rw [List.length_take, List.length_drop]; omega
  · rw [List.length_take, List.length_drop]; omega
end Go.Proofs.Ytjglmjdfndcmmaa
