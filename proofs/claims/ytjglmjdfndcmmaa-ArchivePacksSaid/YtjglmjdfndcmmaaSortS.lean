/- The library's sort and compaction of texts, said of rows of the call's own. -/
import Derived.Test.YtjglmjdfndcmmaaSortSpec
import Derived.Test.YtjglmjdfndcmmaaShelf
import Derived.Test.YtjglmjdfndcmmaaOwn
import Derived.Sort.OwnSorted
import Derived.Lib.Bytes
set_option linter.all false
namespace Go.Proofs.Ytjglmjdfndcmmaa
open Go.RowKit

def mkS (l : Bs) : ByteArray := ⟨l.toArray⟩
theorem mkS_data (l : Bs) : (mkS l).data.toList = l := rfl
theorem mkS_toList (l : Bs) : (mkS l).toList = l := by rw [Lib.toList_data]; rfl
theorem mkS_of (s : ByteArray) : mkS s.data.toList = s := by cases s; rfl
theorem mkS_size (l : Bs) : (mkS l).size = l.length := rfl
theorem less_eq : ∀ (x y : Bs), Op.bytesLess x y = decide (x < y)
  | [], [] => by simp [Op.bytesLess]
  | _ :: _, [] => by simp [Op.bytesLess]
  | [], _ :: _ => by simp [Op.bytesLess]
  | a :: x, b :: y => by
    rw [Op.bytesLess, less_eq x y]
    simp only [List.cons_lt_cons_iff]
    by_cases h1 : a < b <;> by_cases h2 : a = b <;> by_cases h3 : x < y <;> simp [h1, h2, h3]

theorem Sl.take_ {α : Type} {size : Nat} {R : ElemR α} {D : Nat → Prop} {w : World} {A : Option Addr} {n c k : Nat} {xs : List α} (h : Sl size R D w (.slice A n c) xs) (hk : k ≤ xs.length) : Sl size R D w (.slice A k c) (xs.take k) := by
  obtain ⟨A', c', hv, h1, h2, h3⟩ := h
  injection hv with e1 e2 e3
  subst e1 e3
  refine ⟨A, c, by rw [List.length_take, Nat.min_eq_left hk], by rw [List.length_take]; omega, h2, fun i x hx => h3 i x ?_⟩
  rw [List.getElem?_take] at hx
  split at hx
  · exact hx
  · cases hx

/-- A row of texts of the call's own. -/
abbrev OwnS (w : World) (base : Nat) (v : Value) (ss : List Bs) : Prop := w.ownsRow base 9 1 v ss.length (ss.map encStr)
theorem OwnS.slS {w : World} {base : Nat} {v : Value} {ss : List Bs} (h : OwnS w base v ss) (hf : ∀ s ∈ ss, s.length ≤ maxLen) : SlS (Lt w.heap.size) w v (ss.map mkS) :=
  SlS.of_own (zs := ss.map mkS) (by rw [List.map_map]; exact h) (fun z hz => by obtain ⟨s, hs, rfl⟩ := List.mem_map.1 hz; exact hf s hs)

theorem sortS (v : Value) (ss : List Bs) (base : Nat) (w : World) (h : OwnS w base v ss) (hl : ss.length ≤ 1000) :
    Calls Try.prog 77 #[v] w fun e w' => e = .returned (.tuple #[]) ∧ OwnS w' base v (sortB ss) ∧ Below base w w' := by
  by_cases hn : 0 < ss.length
  · rcases h.2 with ⟨_, h0⟩ | ⟨g, cap, cur, rfl, hbase, hb, h1, h2, h3, h4⟩
    · omega
    · have hg : g < w.heap.size := (Array.getElem?_eq_some_iff.1 hb).1
      refine (Try.slices_Sort_string g 0 cap ss w (holds_of_block hb (by simpa using h4)) hg (by omega)).mono ?_
      rintro e w' ⟨rfl, m, os, rfl⟩
      refine ⟨rfl, ?_, ?_⟩
      · have := ownsRow_sorted (n := m) (os := os) (ts := sortB ss) (sortB_len ss) hbase hb h1 h2 h3
        unfold OwnS
        rw [sortB_len]
        exact this
      · have hgr := grownBy_sorted (w := w) (g := g) (n := m) (os := os) (sortB ss).toArray
        exact below_of_grown hgr (by omega) (fun g' e => by injection e with e; omega)
  · have : ss = [] := List.eq_nil_of_length_eq_zero (by omega)
    subst this
    rcases h.2 with ⟨rfl, _⟩ | ⟨g, cap, cur, rfl, hb, hg, hc, hm, hs, htake⟩
    · refine (Try.slices_Sort_string_none none 0 w).mono ?_
      rintro e w' ⟨rfl, rfl⟩
      exact ⟨rfl, by rw [show sortB [] = [] by simp [sortB]]; exact h, Below.refl _ _⟩
    · refine (Try.slices_Sort_string_none (some ⟨g, 0, none⟩) cap w).mono ?_
      rintro e w' ⟨rfl, rfl⟩
      exact ⟨rfl, by rw [show sortB [] = [] by simp [sortB]]; exact h, Below.refl _ _⟩

end Go.Proofs.Ytjglmjdfndcmmaa
