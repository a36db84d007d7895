/- strings.Split and strings.Cut at one byte, as lists of parts; blocks of four cells. -/
import Derived.Test.YtlkkfkkhllijbaaGreatDoorPtFld
import Derived.Lib.CutLaws
namespace Go.Proofs.YtlkkfkkhllijbaaGreatDoor
open Go.RowKit

theorem idx_hit {p r : List UInt8} {c : UInt8} (h1 : ∀ b ∈ p, b ≠ c) : Lib.index (p ++ c :: r) [c] = (p.length : Int) := by
  refine Lib.index_first (i := p.length) (by simp) ?_ ?_
  · simp [Lib.occAt]
  · intro j hj
    have hne : p[j] ≠ c := h1 _ (List.getElem_mem hj)
    have hd : (p ++ c :: r).drop j = p[j] :: (p ++ c :: r).drop (j + 1) := by
      rw [List.drop_eq_getElem_cons (by simp; omega)]
      congr 1
      rw [List.getElem_append_left hj]
    unfold Lib.occAt
    rw [hd]
    have : (c == p[j]) = false := by simp [hne.symm]
    rw [List.isPrefixOf, this]; rfl
theorem idx_miss {l : List UInt8} {c : UInt8} (h : ∀ b ∈ l, b ≠ c) : Lib.index l [c] = -1 := by
  refine Lib.index_none fun j hj => ?_
  unfold Lib.occAt
  rcases Nat.lt_or_ge j l.length with h1 | h1
  · rw [List.drop_eq_getElem_cons h1, List.isPrefixOf]
    have : (c == l[j]) = false := by simp [(h _ (List.getElem_mem h1)).symm]
    rw [this]; rfl
  · rw [List.drop_eq_nil_of_le h1]; rfl
theorem cut_lib (c : UInt8) (l : List UInt8) : Lib.cut l [c] = match cutB c l with
    | some (p, r) => (p, r, true)
    | none => (l, [], false) := by
  cases h : cutB c l with
  | none =>
    unfold Lib.cut
    rw [idx_miss (cut_none h)]; rfl
  | some x =>
    obtain ⟨p, r⟩ := x
    obtain ⟨h1, h2⟩ := cut_some h
    unfold Lib.cut
    rw [h1, idx_hit h2, if_pos (by omega)]
    have e : ((p.length : Int)).toNat = p.length := by omega
    rw [e]
    dsimp only
    congr 1
    · simp
    · congr 1
      have : p ++ c :: r = (p ++ [c]) ++ r := by simp
      rw [this]
      exact List.drop_left' (by simp)
theorem split_fr (c : UInt8) (s : ByteArray) (w : World) (hs : s.size ≤ 1000000) (ha : AmbP w) : Calls Tryz.prog 21 #[.string s, .string ⟨#[c]⟩] w fun e w' =>
    e = .returned (.slice (some ⟨w.heap.size, 0, none⟩) (partsB c s.data.toList).length (partsB c s.data.toList).length) ∧ SlP (Lt w'.heap.size) w' (.slice (some ⟨w.heap.size, 0, none⟩) (partsB c s.data.toList).length (partsB c s.data.toList).length) (partsB c s.data.toList) ∧ Below w.heap.size w w' := by
  obtain ⟨m, hm⟩ := ha.mx
  have h1 : 1 ≤ (⟨#[c]⟩ : ByteArray).size := Nat.le_refl 1
  have hlen := Lib.splitB_all ⟨#[c]⟩ h1 0 _ s rfl
  rw [split_list, List.length_map] at hlen
  refine (Tryz.strings_Split s ⟨#[c]⟩ m w (by omega) hm h1).mono ?_
  rintro e w' ⟨rfl, rfl⟩
  rw [split_list, ← hlen]
  have h2 : SlS (Lt (w.alloc (.cells (((partsB c s.data.toList).map bsOf).map Value.string).toArray 9)).heap.size) (w.alloc (.cells (((partsB c s.data.toList).map bsOf).map Value.string).toArray 9)) (.slice (some ⟨w.heap.size, 0, none⟩) ((partsB c s.data.toList).map bsOf).length ((partsB c s.data.toList).map bsOf).length) ((partsB c s.data.toList).map bsOf) := by
    refine SlS.ofBlk (Blk.new w _ _) ?_ ?_
    · have := (parts_len c s.data.toList).1
      rw [size_list] at this
      rw [List.length_map]; unfold maxLen; omega
    · intro z hz
      obtain ⟨l, hl, rfl⟩ := List.mem_map.1 hz
      have := (parts_len c s.data.toList).2 l hl
      rw [size_list] at this
      rw [bs_size]; unfold maxLen; omega
  rw [List.length_map] at h2
  exact ⟨rfl, h2, bone w _⟩
theorem split_any (c : UInt8) (s : ByteArray) (w : World) (hs : s.size ≤ 1000000) (ha : AmbP w) : Calls Tryz.prog 21 #[.string s, .string ⟨#[c]⟩] w (RetSlP (partsB c s.data.toList) w) :=
  (split_fr c s w hs ha).mono fun _ _ ⟨h1, h2, h3⟩ => ⟨_, h1, h2, h3⟩
theorem cut_any (c : UInt8) (s : ByteArray) (w : World) (hs : s.size ≤ 1000000) (ha : AmbP w) : Calls Tryz.prog 45 #[.string s, .string ⟨#[c]⟩] w fun e w' =>
    (match cutB c s.data.toList with
      | some (p, r) => e = .returned (.tuple #[.string (bsOf p), .string (bsOf r), .bool true])
      | none => e = .returned (.tuple #[.string s, .string (bsOf []), .bool false])) ∧ Below w.heap.size w w' := by
  obtain ⟨m, hm⟩ := ha.mx
  refine (Tryz.strings_Cut s ⟨#[c]⟩ m w (by omega) hm).mono ?_
  rintro e w' ⟨rfl, n, rfl⟩
  have h := cut_lib c s.data.toList
  have hsep : (⟨#[c]⟩ : ByteArray).data.toList = [c] := rfl
  refine ⟨?_, bdrawn (Below.refl _ _) n⟩
  rw [hsep]
  cases hc : cutB c s.data.toList with
  | none =>
    rw [hc] at h
    rw [h]
    exact rfl
  | some x =>
    obtain ⟨p, r⟩ := x
    rw [hc] at h
    rw [h]
    exact rfl
theorem Blk.set4 {w : World} {g : Nat} {t : TypeId} {p q r s : Value} (h : Blk w g t #[p, q, r, s]) (a b c d : Value) :
    Blk ((((w.setCell ⟨g, 0, none⟩ a).setCell ⟨g, 1, none⟩ b).setCell ⟨g, 2, none⟩ c).setCell ⟨g, 3, none⟩ d) g t #[a, b, c, d] := (((h.set_ 0 a).set_ 1 b).set_ 2 c).set_ 3 d
theorem Below.set4 {B : Nat} {w0 w : World} {g : Nat} (h : Below B w0 w) (hg : B ≤ g) (a b c d : Value) :
    Below B w0 ((((w.setCell ⟨g, 0, none⟩ a).setCell ⟨g, 1, none⟩ b).setCell ⟨g, 2, none⟩ c).setCell ⟨g, 3, none⟩ d) :=
  (((h.setCell (p := ⟨g, 0, none⟩) hg a).setCell (p := ⟨g, 1, none⟩) hg b).setCell (p := ⟨g, 2, none⟩) hg c).setCell (p := ⟨g, 3, none⟩) hg d
theorem Blk.set3 {w : World} {g : Nat} {t : TypeId} {a b c : Value} (h : Blk w g t #[a, b, c]) (x y z : Value) :
    Blk (((w.setCell ⟨g, 0, none⟩ x).setCell ⟨g, 1, none⟩ y).setCell ⟨g, 2, none⟩ z) g t #[x, y, z] := ((h.set_ 0 x).set_ 1 y).set_ 2 z
theorem Below.set3 {B : Nat} {w0 w : World} {g : Nat} (h : Below B w0 w) (hg : B ≤ g) (a b c : Value) :
    Below B w0 (((w.setCell ⟨g, 0, none⟩ a).setCell ⟨g, 1, none⟩ b).setCell ⟨g, 2, none⟩ c) :=
  ((h.setCell (p := ⟨g, 0, none⟩) hg a).setCell (p := ⟨g, 1, none⟩) hg b).setCell (p := ⟨g, 2, none⟩) hg c
theorem SlP.row {D : Nat → Prop} {w : World} {A : Option Addr} {n c : Nat} {ls : List (List UInt8)} (h : SlP D w (.slice A n c) ls) (hn : 0 < n) :
    ∃ g o, A = some ⟨g, o, none⟩ ∧ D g ∧ ∀ k l, ls[k]? = some l → w.cell? ⟨g, o + k, none⟩ = some (.string (bsOf l)) := by
  obtain ⟨g, o, hA, hD, _, hr⟩ := Sl.row1 h hn
  refine ⟨g, o, hA, hD, fun k l hl => ?_⟩
  obtain ⟨u, ⟨hu, _⟩, hc⟩ := hr k (bsOf l) (by rw [List.getElem?_map, hl]; rfl)
  injection hu with hu
  rw [hc, hu]
theorem SlP.size {D : Nat → Prop} {w : World} {v : Value} {ls : List (List UInt8)} (h : SlP D w v ls) : ∀ l ∈ ls, l.length ≤ maxLen := fun l hl => by
  obtain ⟨A, c, rfl, _, _, h⟩ := h.open_
  obtain ⟨k, hk, rfl⟩ := List.mem_iff_getElem.1 hl
  obtain ⟨_, _, x, _, _, hx, hm, _⟩ := h.at_ hk
  rw [List.getElem?_eq_getElem hk] at hx
  injection hx with hx
  rw [hx]; exact hm
end Go.Proofs.YtlkkfkkhllijbaaGreatDoor
