/- Lists of texts that ascend, plainly: sorting and compacting, and inserting one by one. No program in sight. -/
import Derived.Lib.SlicesCompact
import Derived.Test.YtilmdlkfmkbfmaaWords
set_option linter.all false
namespace Go.Proofs.Ytilmdlkfmkbfmaa
open Go.RowKit

abbrev Bs := List UInt8
def Asc (l : List Bs) : Prop := l.Pairwise (· < ·)
theorem bs_total {a b : Bs} (h : ¬ a < b) (h2 : a ≠ b) : b < a := by
  apply Classical.byContradiction
  intro h3
  exact h2 (List.le_antisymm (List.not_lt.1 h3) (List.not_lt.1 h))
theorem bs_lt {a b : Bs} (h : a ≤ b) (h2 : a ≠ b) : a < b := by
  apply Classical.byContradiction
  intro h3
  exact h2 (List.le_antisymm h (List.not_lt.1 h3))
theorem asc_nodup {l : List Bs} (h : Asc l) : l.Nodup := List.Pairwise.imp (fun {a b} (h : a < b) => fun e => by subst e; exact List.lt_irrefl _ h) h
theorem asc_ext {a b : List Bs} (ha : Asc a) (hb : Asc b) (h : ∀ x, x ∈ a ↔ x ∈ b) : a = b := by
  refine List.Perm.eq_of_pairwise (le := (· < ·)) (fun x y _ _ h1 h2 => absurd h2 (List.lt_asymm h1)) ha hb ?_
  exact (List.perm_ext_iff_of_nodup (asc_nodup ha) (asc_nodup hb)).2 h
theorem asc_push {l : List Bs} {s : Bs} (h : Asc l) (hs : ∀ x ∈ l, x < s) : Asc (l ++ [s]) := by
  unfold Asc
  rw [List.pairwise_append]
  exact ⟨h, by simp, fun x hx y hy => by simp at hy; rw [hy]; exact hs x hx⟩
theorem asc_get {l : List Bs} (h : Asc l) {k : Nat} {x y : Bs} (hx : x ∈ l.take k) (hy : l[k]? = some y) : x < y := by
  have hk : k < l.length := by
    rcases Nat.lt_or_ge k l.length with h' | h'
    · exact h'
    · rw [List.getElem?_eq_none h'] at hy; cases hy
  have e : l = l.take k ++ l.drop k := (List.take_append_drop k l).symm
  unfold Asc at h
  rw [e, List.pairwise_append] at h
  refine h.2.2 x hx y ?_
  rw [List.getElem?_eq_getElem hk] at hy
  injection hy with hy
  rw [List.drop_eq_getElem_cons hk, hy]
  simp

theorem mem_compactUpTo (d : Array Bs) (hd : d.toList.Pairwise (· ≤ ·)) : ∀ m, m ≤ d.size →
    Asc (Lib.compactUpTo d m) ∧ (∀ x, x ∈ Lib.compactUpTo d m ↔ x ∈ d.toList.take m) ∧ (∀ x ∈ Lib.compactUpTo d m, ∀ j, j + 1 = m → x ≤ d[j]!) := by
  intro m
  induction m with
  | zero => intro _; exact ⟨by simp [Asc, Lib.compactUpTo], by simp [Lib.compactUpTo], fun x hx => by simp [Lib.compactUpTo] at hx⟩
  | succ m ih =>
    intro hm
    obtain ⟨h1, h2, h3⟩ := ih (by omega)
    have hmd : m < d.size := by omega
    have hget : d[m]! = d[m] := by simp [hmd]
    have htake : d.toList.take (m + 1) = d.toList.take m ++ [d[m]!] := by
      rw [List.take_succ_eq_append_getElem (by simpa using hmd), hget]
      simp
    have hle : ∀ x ∈ Lib.compactUpTo d m, x ≤ d[m]! := by
      intro x hx
      have hx' := (h2 x).1 hx
      have hp := hd
      rw [← List.take_append_drop m d.toList, List.pairwise_append] at hp
      refine hp.2.2 x hx' _ ?_
      rw [List.drop_eq_getElem_cons (by simpa using hmd), hget]
      simp
    rw [Lib.compactUpTo_succ]
    by_cases hk : Lib.keeps d m = true
    · rw [if_pos hk]
      have hlt : ∀ x ∈ Lib.compactUpTo d m, x < d[m]! := by
        intro x hx
        rcases Nat.eq_zero_or_pos m with h0 | h0
        · subst h0; simp [Lib.compactUpTo] at hx
        · have hne : d[m]! ≠ d[m - 1]! := by
            intro e
            rw [Lib.keeps_neg h0 e] at hk
            cases hk
          have hxj := h3 x hx (m - 1) (by omega)
          refine bs_lt (hle x hx) ?_
          intro e
          have hm1 : d[m - 1]! ≤ d[m]! := by
            have hmem : d[m - 1]! ∈ d.toList.take m := by
              have : m - 1 < d.size := by omega
              rw [show d[m - 1]! = d[m - 1] by simp [this], List.mem_take_iff_getElem]
              exact ⟨m - 1, by simp; omega, by simp⟩
            have hp := hd
            rw [← List.take_append_drop m d.toList, List.pairwise_append] at hp
            refine hp.2.2 _ hmem _ ?_
            rw [List.drop_eq_getElem_cons (by simpa using hmd), hget]
            simp
          rw [e] at hxj
          exact hne (List.le_antisymm hxj hm1)
      refine ⟨asc_push h1 hlt, fun x => ?_, fun x hx j hj => ?_⟩
      · rw [htake, List.mem_append, List.mem_append, h2]
      · obtain rfl : j = m := by omega
        rcases List.mem_append.1 hx with h | h
        · exact hle x h
        · simp only [List.mem_singleton] at h; rw [h]; exact List.le_refl _
    · have hk' : Lib.keeps d m = false := by simpa using hk
      rw [if_neg hk, List.append_nil]
      have h0 : 0 < m := by
        rcases Nat.eq_zero_or_pos m with h0 | h0
        · subst h0; rw [Lib.keeps_lt_one d 0 (by omega)] at hk'; cases hk'
        · exact h0
      have he : d[m]! = d[m - 1]! := by
        apply Classical.byContradiction
        intro hne
        rw [Lib.keeps_pos hne] at hk'
        cases hk'
      refine ⟨h1, fun x => ?_, fun x hx j hj => ?_⟩
      · rw [htake, List.mem_append, h2]
        constructor
        · exact Or.inl
        · rintro (h | h)
          · exact h
          · simp only [List.mem_singleton] at h
            rw [h, he]
            have : m - 1 < d.size := by omega
            rw [show d[m - 1]! = d[m - 1] by simp [this], List.mem_take_iff_getElem]
            exact ⟨m - 1, by simp; omega, by simp⟩
      · obtain rfl : j = m := by omega
        exact hle x hx

def sortB (ls : List Bs) : List Bs := ls.mergeSort fun x y => decide (x ≤ y)
def setB (ls : List Bs) : List Bs := Lib.compact (sortB ls)
theorem sortB_le (ls : List Bs) : (sortB ls).Pairwise (· ≤ ·) := by
  have := List.pairwise_mergeSort (le := fun (x y : Bs) => decide (x ≤ y)) (fun a b c h1 h2 => by simp at *; exact List.le_trans h1 h2) (fun a b => by simp; exact List.le_total a b) ls
  unfold sortB
  simpa using this
theorem sortB_mem (ls : List Bs) (x : Bs) : x ∈ sortB ls ↔ x ∈ ls := (List.mergeSort_perm ls _).mem_iff
theorem sortB_len (ls : List Bs) : (sortB ls).length = ls.length := (List.mergeSort_perm ls _).length_eq
theorem setB_asc (ls : List Bs) : Asc (setB ls) := (mem_compactUpTo (sortB ls).toArray (by simpa using sortB_le ls) _ (by simp)).1
theorem setB_mem (ls : List Bs) (x : Bs) : x ∈ setB ls ↔ x ∈ ls := by
  have := (mem_compactUpTo (sortB ls).toArray (by simpa using sortB_le ls) (sortB ls).length (by simp)).2.1 x
  rw [show setB ls = Lib.compactUpTo (sortB ls).toArray (sortB ls).length from rfl, this]
  simp [sortB_mem]
theorem compact_len (zs : List Bs) : (Lib.compact zs).length ≤ zs.length := by
  show (((List.range zs.length).filter _).map _).length ≤ _
  rw [List.length_map]
  exact Nat.le_trans (List.length_filter_le _ _) (by simp)
theorem setB_unique {ls r : List Bs} (ha : Asc r) (hm : ∀ x, x ∈ r ↔ x ∈ ls) : r = setB ls := asc_ext ha (setB_asc ls) fun x => by rw [hm, setB_mem]

/-- How far an insertion has come. -/
structure InsInv (l : List Bs) (s : Bs) (k : Nat) (d : Bool) (out : List Bs) : Prop where
  asc : Asc out
  mem : ∀ x, x ∈ out ↔ x ∈ l.take k ∨ (d = true ∧ x = s)
  big : d = true → ∃ y ∈ l.take k, s < y
  small : d = false → ∀ x ∈ l.take k, x < s
  len : out.length ≤ k + (if d then 1 else 0)
theorem InsInv.start (l : List Bs) (s : Bs) : InsInv l s 0 false [] := ⟨by simp [Asc], by simp, by simp, by simp, by simp⟩
theorem take_snoc {l : List Bs} {k : Nat} {y : Bs} (hy : l[k]? = some y) : l.take (k + 1) = l.take k ++ [y] := by
  rw [List.take_add_one, hy]; rfl
theorem InsInv.plain {l : List Bs} {s : Bs} {k : Nat} {out : List Bs} {y : Bs} (h : InsInv l s k false out) (hl : Asc l) (hy : l[k]? = some y) (hs : y < s) : InsInv l s (k + 1) false (out ++ [y]) := by
  refine ⟨asc_push h.asc fun x hx => ?_, fun x => ?_, by simp, fun _ x hx => ?_, by have := h.len; simp at this ⊢; omega⟩
  · rcases (h.mem x).1 hx with h' | h'
    · exact asc_get hl h' hy
    · simp at h'
  · rw [take_snoc hy]; simp [h.mem]
  · rw [take_snoc hy] at hx
    rcases List.mem_append.1 hx with h' | h'
    · exact h.small rfl x h'
    · simp at h'; rw [h']; exact hs
theorem InsInv.ins {l : List Bs} {s : Bs} {k : Nat} {out : List Bs} {y : Bs} (h : InsInv l s k false out) (hy : l[k]? = some y) (hs : s < y) : InsInv l s (k + 1) true (out ++ [s] ++ [y]) := by
  have h1 : Asc (out ++ [s]) := asc_push h.asc fun x hx => by
    rcases (h.mem x).1 hx with h' | h'
    · exact h.small rfl x h'
    · simp at h'
  refine ⟨asc_push h1 fun x hx => ?_, fun x => ?_, fun _ => ⟨y, by rw [take_snoc hy]; simp, hs⟩, by simp, by have := h.len; simp at this ⊢; omega⟩
  · rcases List.mem_append.1 hx with h' | h'
    · rcases (h.mem x).1 h' with h' | h'
      · exact List.lt_trans (h.small rfl x h') hs
      · simp at h'
    · simp at h'; rw [h']; exact hs
  · rw [take_snoc hy]
    simp only [List.mem_append, List.mem_singleton, h.mem]
    constructor
    · rintro ((h | h) | h)
      · rcases h with h | ⟨h, _⟩
        · exact .inl (.inl h)
        · cases h
      · exact .inr ⟨trivial, h⟩
      · exact .inl (.inr h)
    · rintro ((h | h) | ⟨_, h⟩)
      · exact .inl (.inl (.inl h))
      · exact .inr h
      · exact .inl (.inr h)
theorem InsInv.after {l : List Bs} {s : Bs} {k : Nat} {out : List Bs} {y : Bs} (h : InsInv l s k true out) (hl : Asc l) (hy : l[k]? = some y) : InsInv l s (k + 1) true (out ++ [y]) := by
  obtain ⟨z, hz, hsz⟩ := h.big rfl
  refine ⟨asc_push h.asc fun x hx => ?_, fun x => ?_, fun _ => ⟨z, by rw [take_snoc hy]; simp [hz], hsz⟩, by simp, by have := h.len; simp at this ⊢; omega⟩
  · rcases (h.mem x).1 hx with h' | ⟨_, h'⟩
    · exact asc_get hl h' hy
    · rw [h']; exact List.lt_trans hsz (asc_get hl hz hy)
  · rw [take_snoc hy]
    simp only [List.mem_append, List.mem_singleton, h.mem]
    constructor
    · rintro ((h | h) | h)
      · exact .inl (.inl h)
      · exact .inr h
      · exact .inl (.inr h)
    · rintro ((h | h) | h)
      · exact .inl (.inl h)
      · exact .inr h
      · exact .inl (.inr h)
/-- The outcome of an insertion. -/
def InsRes (l : List Bs) (s : Bs) (r : List Bs) : Prop := Asc r ∧ (∀ x, x ∈ r ↔ x ∈ l ∨ x = s) ∧ r.length ≤ l.length + 1
theorem InsInv.doneT {l : List Bs} {s : Bs} {k : Nat} {out : List Bs} (h : InsInv l s k true out) (hk : k = l.length) : InsRes l s out := by
  subst hk
  refine ⟨h.asc, fun x => ?_, by have := h.len; simp at this; omega⟩
  rw [h.mem, List.take_of_length_le (Nat.le_refl _)]; simp
theorem InsInv.doneF {l : List Bs} {s : Bs} {k : Nat} {out : List Bs} (h : InsInv l s k false out) (hk : k = l.length) : InsRes l s (out ++ [s]) := by
  subst hk
  refine ⟨asc_push h.asc fun x hx => ?_, fun x => ?_, by have := h.len; simp at this ⊢; omega⟩
  · rcases (h.mem x).1 hx with h' | h'
    · exact h.small rfl x h'
    · simp at h'
  · rw [List.mem_append, h.mem, List.take_of_length_le (Nat.le_refl _)]; simp
theorem InsRes.same {l : List Bs} {s : Bs} (h : Asc l) (hs : s ∈ l) : InsRes l s l := ⟨h, fun x => ⟨Or.inl, fun h' => by rcases h' with h' | h'; exact h'; rw [h']; exact hs⟩, by omega⟩
end Go.Proofs.Ytilmdlkfmkbfmaa
