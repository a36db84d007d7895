/- Fractions and a budget that is spent, as plain data. No program in sight. -/
import Derived.Test.YtilmdlkfmkbfmaaOwn
set_option linter.all false
namespace Go.Proofs.Ytilmdlkfmkbfmaa
open Go.RowKit

structure Fr where
  num : Int
  den : Int
theorem Fr.ext' {a b : Fr} (h1 : a.num = b.num) (h2 : a.den = b.den) : a = b := by cases a; cases b; simp at h1 h2; rw [h1, h2]
def frB (a : Fr) : Bool := decide (-1073741824 ≤ a.num) && decide (a.num ≤ 1073741824) && decide (1 ≤ a.den) && decide (a.den ≤ 1073741824) && (Nat.gcd a.num.natAbs a.den.toNat == 1)
def fr0 : Fr := ⟨0, 0⟩
theorem frB_iff {a : Fr} : frB a = true ↔ (-1073741824 ≤ a.num ∧ a.num ≤ 1073741824 ∧ 1 ≤ a.den ∧ a.den ≤ 1073741824 ∧ Nat.gcd a.num.natAbs a.den.toNat = 1) := by
  simp [frB, and_assoc]
/-- The fraction with a sign, a numerator and a denominator. -/
def fitF (neg : Bool) (num den : Nat) : Fr × Int :=
  if 1073741824 < num / Nat.gcd num den ∨ 1073741824 < den / Nat.gcd num den then (fr0, 6) else (⟨if neg then -((num / Nat.gcd num den : Nat) : Int) else ((num / Nat.gcd num den : Nat) : Int), ((den / Nat.gcd num den : Nat) : Int)⟩, 0)
def crossX (a b : Fr) : Int := a.num * (b.den / ((Nat.gcd a.den.toNat b.den.toNat : Nat) : Int))
/-- The sum over the least common denominator. -/
def addN (a b : Fr) : Int := crossX a b + crossX b a
def addD (a b : Fr) : Int := a.den * (b.den / ((Nat.gcd a.den.toNat b.den.toNat : Nat) : Int))
def addF (a b : Fr) : Fr × Int := fitF (decide (addN a b < 0)) (addN a b).natAbs (addD a b).toNat
def negF (a : Fr) : Fr := ⟨-a.num, a.den⟩
def subF (a b : Fr) : Fr × Int := addF a (negF b)
def cmpF (a b : Fr) : Int := if a.num * b.den < b.num * a.den then -1 else if b.num * a.den < a.num * b.den then 1 else 0
theorem negF_B {a : Fr} (h : frB a = true) : frB (negF a) = true := by
  rw [frB_iff] at h ⊢
  obtain ⟨h1, h2, h3, h4, h5⟩ := h
  refine ⟨by show _ ≤ -a.num; omega, by show -a.num ≤ _; omega, h3, h4, ?_⟩
  show Nat.gcd (-a.num).natAbs _ = 1
  rw [Int.natAbs_neg]; exact h5
theorem fitF_ok {neg : Bool} {num den : Nat} {r : Fr} (hd : 0 < den) (h : fitF neg num den = (r, 0)) : frB r = true ∧ (neg = false → 0 ≤ r.num) := by
  unfold fitF at h
  split at h
  · injection h with _ h; cases h
  · rename_i hn
    injection h with h _
    subst h
    have hg : 0 < Nat.gcd num den := Nat.gcd_pos_of_pos_right _ hd
    have hdg : 0 < den / Nat.gcd num den := Nat.div_pos (Nat.le_of_dvd hd (Nat.gcd_dvd_right _ _)) hg
    have hco : Nat.gcd (num / Nat.gcd num den) (den / Nat.gcd num den) = 1 := by
      rw [Nat.gcd_div (Nat.gcd_dvd_left _ _) (Nat.gcd_dvd_right _ _), Nat.div_self hg]
    refine ⟨?_, fun hneg => by rw [hneg]; exact Int.natCast_nonneg _⟩
    rw [frB_iff]
    generalize num / Nat.gcd num den = p at *
    generalize den / Nat.gcd num den = q at *
    cases neg
    · refine ⟨by show _ ≤ (p : Int); omega, by show (p : Int) ≤ _; omega, by show _ ≤ (q : Int); omega, by show (q : Int) ≤ _; omega, ?_⟩
      show Nat.gcd (p : Int).natAbs (q : Int).toNat = 1
      simpa using hco
    · refine ⟨by show _ ≤ -(p : Int); omega, by show -(p : Int) ≤ _; omega, by show _ ≤ (q : Int); omega, by show (q : Int) ≤ _; omega, ?_⟩
      show Nat.gcd (-(p : Int)).natAbs (q : Int).toNat = 1
      simpa using hco
/-- The denominators by their divisor. -/
theorem den_split {a b : Fr} (ha : frB a = true) (hb : frB b = true) : ∃ (g x y : Nat), 0 < g ∧ 0 < x ∧ 0 < y ∧ a.den = (g : Int) * x ∧ b.den = (g : Int) * y ∧ ((Nat.gcd a.den.toNat b.den.toNat : Nat) : Int) = g ∧ a.den / (g : Int) = x ∧ b.den / (g : Int) = y ∧ x ≤ 1073741824 ∧ y ≤ 1073741824 ∧ g ≤ 1073741824 := by
  obtain ⟨_, _, a3, a4, _⟩ := frB_iff.1 ha
  obtain ⟨_, _, b3, b4, _⟩ := frB_iff.1 hb
  obtain ⟨p, hp⟩ : ∃ p : Nat, a.den = (p : Int) := ⟨a.den.toNat, by omega⟩
  obtain ⟨q, hq⟩ : ∃ q : Nat, b.den = (q : Int) := ⟨b.den.toNat, by omega⟩
  have hp0 : 0 < p := by omega
  have hq0 : 0 < q := by omega
  have hpm : p ≤ 1073741824 := by omega
  have hqm : q ≤ 1073741824 := by omega
  rw [hp, hq]
  have hg : 0 < Nat.gcd p q := Nat.gcd_pos_of_pos_left _ hp0
  have hx := Nat.gcd_dvd_left p q
  have hy := Nat.gcd_dvd_right p q
  refine ⟨Nat.gcd p q, p / Nat.gcd p q, q / Nat.gcd p q, hg, Nat.div_pos (Nat.le_of_dvd hp0 hx) hg, Nat.div_pos (Nat.le_of_dvd hq0 hy) hg, ?_, ?_, by simp, by simp, by simp, ?_, ?_, ?_⟩
  · rw [← Int.natCast_mul, Nat.mul_div_cancel' hx]
  · rw [← Int.natCast_mul, Nat.mul_div_cancel' hy]
  · have := Nat.div_le_self p (Nat.gcd p q); omega
  · have := Nat.div_le_self q (Nat.gcd p q); omega
  · have := Nat.le_of_dvd hp0 hx; omega
theorem sub_ok {a b r : Fr} (ha : frB a = true) (hb : frB b = true) (h : subF a b = (r, 0)) : frB r = true ∧ (b.num * a.den ≤ a.num * b.den → 0 ≤ r.num) := by
  obtain ⟨g, x, y, hg, hx, hy, e1, e2, e3, e4, e5, -, -, -⟩ := den_split ha (negF_B hb)
  unfold subF addF at h
  have hD : addD a (negF b) = ((g * x * y : Nat) : Int) := by unfold addD; rw [e3, e5, e1, Int.natCast_mul, Int.natCast_mul]
  have hN : addN a (negF b) = a.num * y - b.num * x := by
    unfold addN crossX
    rw [e3, e5, Nat.gcd_comm, e3, e4]
    show a.num * y + -b.num * x = _
    rw [Int.neg_mul]; omega
  rw [hD, hN, Int.toNat_natCast] at h
  obtain ⟨h1, h2⟩ := fitF_ok (Nat.mul_pos (Nat.mul_pos hg hx) hy) h
  refine ⟨h1, fun hle => h2 ?_⟩
  rw [decide_eq_false_iff_not]
  rw [e1, show b.den = (g : Int) * y from e2] at hle
  have h3 : (g : Int) * (b.num * x) ≤ (g : Int) * (a.num * y) := by
    have e : ∀ u v : Int, u * ((g : Int) * v) = (g : Int) * (u * v) := fun u v => by rw [Int.mul_left_comm]
    rw [e, e] at hle
    exact hle
  have h4 : b.num * x ≤ a.num * y := Int.le_of_mul_le_mul_left h3 (by omega)
  omega
/-! ### a budget -/
def badF (a : Fr) : Bool := !frB a || decide (a.num < 0)
def spendL : Nat → Fr → List Fr → Fr × Nat × Int
  | i, b, [] => (b, i, 0)
  | i, b, a :: l => if b.num * a.den < a.num * b.den then (fr0, i, 27) else if (subF b a).2 = 0 then spendL (i + 1) (subF b a).1 l else (fr0, i, (subF b a).2)
def spendF (b : Fr) (l : List Fr) : Fr × Nat × Int := if badF b || l.any badF then (fr0, 0, 1) else if 1000 < l.length then (fr0, 0, 5) else spendL 0 b l
theorem badF_no {a : Fr} (h : badF a = false) : frB a = true ∧ 0 ≤ a.num := by
  simp [badF] at h
  exact ⟨h.1, by omega⟩
theorem badF_of {a : Fr} (h1 : frB a = true) (h2 : 0 ≤ a.num) : badF a = false := by
  simp [badF, h1]; omega
theorem spendL_cons (i : Nat) (b a : Fr) (l : List Fr) : spendL i b (a :: l) = if b.num * a.den < a.num * b.den then (fr0, i, 27) else if (subF b a).2 = 0 then spendL (i + 1) (subF b a).1 l else (fr0, i, (subF b a).2) := rfl
theorem spendL_shift : ∀ (l : List Fr) (i : Nat) (b : Fr), spendL i b l = ((spendL 0 b l).1, i + (spendL 0 b l).2.1, (spendL 0 b l).2.2) := by
  intro l
  induction l with
  | nil => intro i b; rfl
  | cons a l ih =>
    intro i b
    unfold spendL
    split
    · rfl
    · split
      · rw [ih (i + 1), ih (0 + 1)]
        simp [Nat.add_assoc]
      · rfl
/-- What is left is valid and not negative. -/
theorem spendL_ok : ∀ (l : List Fr) (i : Nat) (b : Fr), badF b = false → (∀ a ∈ l, badF a = false) → (spendL i b l).2.2 = 0 → badF (spendL i b l).1 = false ∧ (spendL i b l).2.1 = i + l.length := by
  intro l
  induction l with
  | nil => intro i b hb _ _; exact ⟨hb, rfl⟩
  | cons a l ih =>
    intro i b hb hl h
    unfold spendL at h ⊢
    split at h
    · cases h
    · rename_i hlt
      split at h
      · rename_i hs
        rw [if_neg hlt, if_pos hs]
        obtain ⟨hb1, hb2⟩ := badF_no hb
        obtain ⟨ha1, ha2⟩ := badF_no (hl a (List.mem_cons_self))
        obtain ⟨h1, h2⟩ := sub_ok (r := (subF b a).1) hb1 ha1 (by rw [← hs])
        obtain ⟨h3, h4⟩ := ih (i + 1) _ (badF_of h1 (h2 (by omega))) (fun x hx => hl x (List.mem_cons_of_mem _ hx)) h
        refine ⟨h3, ?_⟩
        rw [h4, List.length_cons]; omega
      · exact absurd h (by assumption)
theorem spendL_append : ∀ (l m : List Fr) (i : Nat) (b : Fr), spendL i b (l ++ m) = if (spendL i b l).2.2 = 0 then spendL (spendL i b l).2.1 (spendL i b l).1 m else spendL i b l := by
  intro l
  induction l with
  | nil => intro m i b; rfl
  | cons a l ih =>
    intro m i b
    rw [List.cons_append, spendL_cons, spendL_cons]
    by_cases h1 : b.num * a.den < a.num * b.den
    · rw [if_pos h1, if_pos h1]; rfl
    · rw [if_neg h1, if_neg h1]
      by_cases h2 : (subF b a).2 = 0
      · rw [if_pos h2, if_pos h2]; exact ih m (i + 1) _
      · rw [if_neg h2, if_neg h2, if_neg h2]
theorem fitF_err (neg : Bool) (num den : Nat) : (fitF neg num den).2 ≠ 1 := by
  unfold fitF
  split
  · show (6 : Int) ≠ 1; decide
  · show (0 : Int) ≠ 1; decide
theorem spendL_pos : ∀ (l : List Fr) (i : Nat) (b : Fr), (spendL i b l).2.2 ≠ 0 → (spendL i b l).1 = fr0 ∧ (spendL i b l).2.2 ≠ 1 := by
  intro l
  induction l with
  | nil => intro i b h; exact absurd rfl h
  | cons a l ih =>
    intro i b
    rw [spendL_cons]
    by_cases h1 : b.num * a.den < a.num * b.den
    · rw [if_pos h1]; exact fun _ => ⟨rfl, by show (27 : Int) ≠ 1; decide⟩
    · rw [if_neg h1]
      by_cases h2 : (subF b a).2 = 0
      · rw [if_pos h2]; exact ih _ _
      · rw [if_neg h2]; exact fun _ => ⟨rfl, fitF_err _ _ _⟩
/-- A budget that is spent in two parts is spent as a whole. -/
theorem spend_parts {b : Fr} {l : List Fr} {at_ : Nat} (hl : l.length ≤ 8) (hat : at_ ≤ l.length) :
    ((spendF b l).2.2 = 0 → (spendF b (l.take at_)).2.2 = 0 ∧ spendF (spendF b (l.take at_)).1 (l.drop at_) = ((spendF b l).1, (spendF b l).2.1 - (spendF b (l.take at_)).2.1, 0) ∧ (spendF b (l.take at_)).2.1 ≤ (spendF b l).2.1 ∧ frB (spendF b l).1 = true ∧ 0 ≤ (spendF b l).1.num) ∧
    ((spendF b l).2.2 ≠ 0 → (spendF b (l.take at_)).2.2 = 0 → (spendF b l).2.2 ≠ 1 → (spendF (spendF b (l.take at_)).1 (l.drop at_)).2.2 = (spendF b l).2.2 ∧ (spendF b (l.take at_)).2.1 + (spendF (spendF b (l.take at_)).1 (l.drop at_)).2.1 = (spendF b l).2.1) := by
  by_cases hbad : (badF b || l.any badF) = true
  · have e : spendF b l = (fr0, 0, 1) := by unfold spendF; rw [if_pos hbad]
    rw [e]
    exact ⟨fun h => (by cases h), fun _ _ h => absurd rfl h⟩
  · have hb : badF b = false := by simp at hbad; exact hbad.1
    have hla : ∀ a ∈ l, badF a = false := by simp at hbad; exact hbad.2
    have hl1 : ∀ a ∈ l.take at_, badF a = false := fun a ha => hla a (List.mem_of_mem_take ha)
    have hl2 : ∀ a ∈ l.drop at_, badF a = false := fun a ha => hla a (List.mem_of_mem_drop ha)
    have any_no : ∀ m : List Fr, (∀ a ∈ m, badF a = false) → m.any badF = false := fun m hm => by
      rw [List.any_eq_false]; intro a ha; rw [hm a ha]; decide
    have key : ∀ c m, badF c = false → (∀ a ∈ m, badF a = false) → m.length ≤ 8 → spendF c m = spendL 0 c m := fun c m hc hm h8 => by
      unfold spendF; rw [hc, any_no m hm, if_neg (by decide), if_neg (by omega)]
    have e1 := key b l hb hla hl
    have e2 := key b (l.take at_) hb hl1 (by rw [List.length_take]; omega)
    have e3 := spendL_append (l.take at_) (l.drop at_) 0 b
    rw [List.take_append_drop] at e3
    rw [e1, e2]
    by_cases h0 : (spendL 0 b (l.take at_)).2.2 = 0
    · obtain ⟨k1, k2⟩ := spendL_ok (l.take at_) 0 b hb hl1 h0
      have e4 := spendL_shift (l.drop at_) (spendL 0 b (l.take at_)).2.1 (spendL 0 b (l.take at_)).1
      rw [if_pos h0, e4] at e3
      rw [key _ _ k1 hl2 (by rw [List.length_drop]; omega)]
      rw [e3]
      refine ⟨fun h => ⟨h0, ?_, by simp, ?_⟩, fun h _ _ => ⟨rfl, rfl⟩⟩
      · have h' : (spendL 0 (spendL 0 b (l.take at_)).1 (l.drop at_)).2.2 = 0 := h
        refine Prod.ext rfl (Prod.ext ?_ h')
        show _ = _ + _ - _
        omega
      · have h' : (spendL 0 (spendL 0 b (l.take at_)).1 (l.drop at_)).2.2 = 0 := h
        exact badF_no (spendL_ok _ 0 _ k1 hl2 h').1
    · rw [if_neg h0] at e3
      rw [e3]
      exact ⟨fun h => absurd h h0, fun _ h => absurd h h0⟩
end Go.Proofs.Ytilmdlkfmkbfmaa
