/- More tokens do not hinder, plainly. -/
import Derived.Test.YtphdafhidhfmnaaDoorRunSpec
namespace Go.Proofs.YtphdafhidhfmnaaDoor
open Go.RowKit

/-- c is a and b, place by place. -/
def Sums (a b c : List Int) : Prop := c.length = a.length ∧ ∀ k, c.getD k 0 = a.getD k 0 + b.getD k 0

theorem sums_out {n : Net} {t : Tr} {m b y : List Int} (hm : (m.length : Int) = n.places) (ht : trOk n.places t = true) (h : Sums m b y) : Sums (outOf t m) b (outOf t y) := by
  refine ⟨by rw [out_length, out_length]; exact h.1, fun k => ?_⟩
  rw [getD_out hm ht, getD_out (by rw [h.1]; exact hm) ht, h.2 k]
  omega
theorem can_more {ins m b y : List Int} (h : Sums m b y) (hb : ∀ k, 0 ≤ b.getD k 0) (hc : canB ins m = true) : canB ins y = true := by
  unfold canB at *
  rw [List.all_eq_true] at *
  intro p hp
  have := hc p hp
  have h2 := h.2 p.toNat
  have h3 := hb p.toNat
  simp only [decide_eq_true_eq] at *
  omega
/-- Firing with more tokens. -/
theorem fire_more {n : Net} {m b y : List Int} {t : Int} (hv : validB n = true) (hm : markingB n.places m = true) (h : Sums m b y) (hb : ∀ k, 0 ≤ b.getD k 0) (h0 : (fireB n m t).2 = 0) :
    (fireB n y t).2 = 5 ∨ ((fireB n y t).2 = 0 ∧ Sums (fireB n m t).1 b (fireB n y t).1 ∧ (fireB n m t).1.length = m.length) := by
  obtain ⟨v1, _, _, v4⟩ := validOk hv
  obtain ⟨hml, _⟩ := markOk hm
  unfold fireB at *
  by_cases ht : t < 0
  · rw [if_pos ht] at h0; simp at h0
  rw [if_neg ht] at h0 ⊢
  rw [if_neg ht]
  cases hx : n.trans[t.toNat]? with
  | none => rw [hx] at h0; simp at h0
  | some x =>
    rw [hx] at h0
    simp only at h0 ⊢
    have hok := v4 x (List.mem_of_getElem? hx)
    unfold fireT at *
    by_cases hc : canB x.ins m = false
    · rw [if_pos hc] at h0; simp at h0
    · have hc1 : canB x.ins m = true := by simpa using hc
      have hc2 := can_more h hb hc1
      have hc3 : ¬ canB x.ins y = false := by rw [hc2]; simp
      rw [if_neg hc3, if_neg hc]
      rw [if_neg hc] at h0
      by_cases h1 : 100 < Lib.maxOf (outOf x m)
      · rw [if_pos h1] at h0; simp at h0
      · rw [if_neg h1]
        by_cases h2 : 100 < Lib.maxOf (outOf x y)
        · rw [if_pos h2]; exact .inl rfl
        · rw [if_neg h2]; exact .inr ⟨rfl, sums_out hml hok h, out_length x m⟩
theorem run_more {n : Net} {b : List Int} (hv : validB n = true) (hb : ∀ k, 0 ≤ b.getD k 0) : ∀ (l m y : List Int) (i : Nat), markingB n.places m = true → Sums m b y → (runFrom n m l i).2.2 = 0 →
    (runFrom n y l i).2.2 = 5 ∨ ((runFrom n y l i).2.2 = 0 ∧ Sums (runFrom n m l i).1 b (runFrom n y l i).1 ∧ (runFrom n m l i).1.length = m.length) := by
  intro l
  induction l with
  | nil => intro m y i _ h _; exact .inr ⟨rfl, h, rfl⟩
  | cons t l ih =>
    intro m y i hm h h0
    have e : ∀ m, runFrom n m (t :: l) i = (if (fireB n m t).2 = 0 then runFrom n (fireB n m t).1 l (i + 1) else ([], i, (fireB n m t).2)) := fun _ => rfl
    rw [e] at h0
    rw [e, e]
    by_cases h1 : (fireB n m t).2 = 0
    · rw [if_pos h1] at h0 ⊢
      rcases fire_more hv hm h hb h1 with h2 | ⟨h2, h3, h4⟩
      · rw [if_neg (by omega)]; exact .inl h2
      · rw [if_pos h2]
        rcases ih _ _ (i + 1) (fire_mark hv hm h1) h3 h0 with h5 | ⟨h5, h6, h7⟩
        · exact .inl h5
        · exact .inr ⟨h5, h6, h7.trans h4⟩
    · rw [if_neg h1] at h0; exact absurd h0 h1
theorem runB_more {n : Net} {m b y l : List Int} (hv : validB n = true) (hm : markingB n.places m = true) (hy : markingB n.places y = true) (hb : ∀ k, 0 ≤ b.getD k 0) (h : Sums m b y) (hl : l.length ≤ 60) (h0 : (runB n m l).2.2 = 0) :
    (runB n y l).2.2 = 5 ∨ ((runB n y l).2.2 = 0 ∧ Sums (runB n m l).1 b (runB n y l).1 ∧ (runB n m l).1.length = m.length) := by
  unfold runB at *
  rw [hv, hm, if_neg (by simp), if_neg (by omega)] at h0
  rw [hv, hm, hy, if_neg (by simp), if_neg (by omega), if_neg (by simp), if_neg (by omega)]
  exact run_more hv hb l m y 0 hm h h0

def sumTo (a b : List Int) (k : Nat) : List Int := (List.range k).map fun j => a.getD j 0 + b.getD j 0
theorem sumTo_succ (a b : List Int) (k : Nat) : sumTo a b (k + 1) = sumTo a b k ++ [a.getD k 0 + b.getD k 0] := by
  unfold sumTo; rw [List.range_succ, List.map_append]; rfl
theorem sumTo_length (a b : List Int) (k : Nat) : (sumTo a b k).length = k := by unfold sumTo; simp
theorem sums_sumTo (a b : List Int) (h : b.length = a.length) : Sums a b (sumTo a b a.length) := by
  refine ⟨sumTo_length _ _ _, fun k => ?_⟩
  unfold sumTo
  rw [List.getD_eq_getElem?_getD, List.getElem?_map]
  rcases Nat.lt_or_ge k a.length with hk | hk
  · rw [List.getElem?_range hk]; rfl
  · rw [List.getElem?_eq_none (by simpa using hk), List.getD_eq_getElem?_getD, List.getElem?_eq_none hk, List.getD_eq_getElem?_getD, List.getElem?_eq_none (by omega)]; rfl
theorem getD_fit0 {m : List Int} {P : Int} (h : markingB P m = true) (k : Nat) : 0 ≤ m.getD k 0 ∧ m.getD k 0 ≤ 100 := by
  obtain ⟨_, hw⟩ := markOk (n := ⟨P, [], 0, 0⟩) h
  rcases Nat.lt_or_ge k m.length with hk | hk
  · exact within_get hw hk
  · rw [List.getD_eq_getElem?_getD, List.getElem?_eq_none hk]; simp
theorem sum_marking {a b : List Int} {P : Int} (ha : markingB P a = true) (hb : markingB P b = true) (hs : ∀ j, j < a.length → a.getD j 0 + b.getD j 0 ≤ 100) : markingB P (sumTo a b a.length) = true := by
  obtain ⟨hl, _⟩ := markOk (n := ⟨P, [], 0, 0⟩) ha
  unfold markingB
  rw [sumTo_length, Bool.and_eq_true, List.all_eq_true]
  refine ⟨by simpa using hl, fun z hz => ?_⟩
  unfold sumTo at hz
  obtain ⟨j, hj, rfl⟩ := List.mem_map.1 hz
  have h1 := hs j (List.mem_range.1 hj)
  have h2 := getD_fit0 ha j
  have h3 := getD_fit0 hb j
  unfold tokensOk
  simp only [Bool.and_eq_true, decide_eq_true_eq]
  omega
end Go.Proofs.YtphdafhidhfmnaaDoor
