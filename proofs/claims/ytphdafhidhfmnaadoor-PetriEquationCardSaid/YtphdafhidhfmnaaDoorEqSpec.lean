/- The marking equation, plainly: lists of numbers, no program in sight. -/
import Derived.Test.YtphdafhidhfmnaaDoorBackSpec
import Derived.Test.YtphdafhidhfmnaaDoorMatSpec
namespace Go.Proofs.YtphdafhidhfmnaaDoor

def cnt (l : List Int) (t : Nat) : Nat := (l.filter fun u => u == (t : Int)).length
def cntsTo (l : List Int) (k : Nat) : List Int := (List.range k).map fun t => (cnt l t : Int)
def dotTo (r cs : List Int) : Nat → Int
  | 0 => 0
  | k + 1 => dotTo r cs k + r.getD k 0 * cs.getD k 0
theorem cntsTo_len (l : List Int) (k : Nat) : (cntsTo l k).length = k := by unfold cntsTo; simp
theorem cntsTo_succ (l : List Int) (k : Nat) : cntsTo l (k + 1) = cntsTo l k ++ [(cnt l k : Int)] := by unfold cntsTo; rw [List.range_succ, List.map_append]; rfl
theorem cntsTo_get (l : List Int) {k t : Nat} (h : t < k) : (cntsTo l k).getD t 0 = cnt l t := by unfold cntsTo; simp [h]
theorem cnt_le (l : List Int) (t : Nat) : cnt l t ≤ l.length := List.length_filter_le _ _
theorem cnt_nil (t : Nat) : cnt [] t = 0 := rfl
theorem cnt_cons (u : Nat) (l : List Int) (t : Nat) : cnt ((u : Int) :: l) t = cnt l t + (if u = t then 1 else 0) := by
  unfold cnt
  by_cases h : u = t
  · subst h; simp
  · have : ((u : Int) == (t : Int)) = false := by simpa using fun e => h (by omega)
    rw [List.filter_cons, this, if_neg h]; simp
theorem cnt_take (l : List Int) (t j : Nat) {u : Int} (h : l[j]? = some u) : cnt (l.take (j + 1)) t = cnt (l.take j) t + (if u = (t : Int) then 1 else 0) := by
  have hj : j < l.length := by
    rcases Nat.lt_or_ge j l.length with h' | h'
    · exact h'
    · rw [List.getElem?_eq_none h'] at h; cases h
  rw [List.getElem?_eq_getElem hj] at h
  injection h with h
  unfold cnt
  rw [List.take_succ_eq_append_getElem hj, List.filter_append, List.length_append, h]
  by_cases e : u = (t : Int)
  · subst e; simp
  · have : (u == (t : Int)) = false := by simpa using e
    rw [if_neg e, List.filter_cons, this]; simp
theorem incRow_get (n : Net) (p : Nat) {k : Nat} {x : Tr} (h : n.trans[k]? = some x) : (incRow n p).getD k 0 = incAt p x := by
  unfold incRow; rw [List.getD_eq_getElem?_getD, List.getElem?_map, h]; rfl

theorem dot_nil (r : List Int) (N : Nat) : ∀ k, k ≤ N → dotTo r (cntsTo [] N) k = 0 := by
  intro k
  induction k with
  | zero => intro _; rfl
  | succ k ih =>
    intro hk
    show dotTo r _ k + r.getD k 0 * (cntsTo [] N).getD k 0 = 0
    rw [ih (by omega), cntsTo_get [] (by omega), cnt_nil]; simp
theorem dot_cons (r : List Int) (N u : Nat) (l : List Int) : ∀ k, k ≤ N → dotTo r (cntsTo ((u : Int) :: l) N) k = dotTo r (cntsTo l N) k + (if u < k then r.getD u 0 else 0) := by
  intro k
  induction k with
  | zero => intro _; rfl
  | succ k ih =>
    intro hk
    show dotTo r _ k + r.getD k 0 * (cntsTo ((u : Int) :: l) N).getD k 0 = dotTo r _ k + r.getD k 0 * (cntsTo l N).getD k 0 + _
    rw [ih (by omega), cntsTo_get _ (by omega), cntsTo_get _ (by omega), cnt_cons]
    by_cases h1 : u = k
    · subst h1
      rw [if_pos rfl, if_neg (by omega), if_pos (by omega)]
      rw [Int.natCast_add, Int.mul_add]
      simp [Int.add_assoc]
    · rw [if_neg h1]
      by_cases h2 : u < k
      · rw [if_pos h2, if_pos (by omega)]; simp; omega
      · rw [if_neg h2, if_neg (by omega)]; simp
theorem inc_get {n : Net} {t : Tr} {m : List Int} (hm : (m.length : Int) = n.places) (ht : trOk n.places t = true) (k : Nat) : (outOf t m).getD k 0 = m.getD k 0 + incAt k t := by
  rw [getD_out hm ht]
  unfold incAt hasI
  by_cases h1 : (k : Int) ∈ t.ins <;> by_cases h2 : (k : Int) ∈ t.outs <;> simp [h1, h2] <;> omega
/-- A transition that was fired. -/
theorem fire_ok {n : Net} {m : List Int} {t : Int} (h : (fireB n m t).2 = 0) : ∃ (u : Nat) (x : Tr), t = (u : Int) ∧ n.trans[u]? = some x ∧ (fireB n m t).1 = outOf x m := by
  unfold fireB at h ⊢
  by_cases h0 : t < 0
  · rw [if_pos h0] at h; simp at h
  · rw [if_neg h0] at h ⊢
    cases hx : n.trans[t.toNat]? with
    | none => rw [hx] at h; simp at h
    | some x =>
      rw [hx] at h
      refine ⟨t.toNat, x, by omega, hx, ?_⟩
      simp only at h ⊢
      unfold fireT at h ⊢
      by_cases hc' : canB x.ins m = false
      · rw [if_pos hc'] at h; simp at h
      · rw [if_neg hc'] at h ⊢
        by_cases hx : 100 < Lib.maxOf (outOf x m)
        · rw [if_pos hx] at h; simp at h
        · rw [if_neg hx]
theorem run_eq {n : Net} (hv : validB n = true) : ∀ (l m : List Int) (i : Nat), markingB n.places m = true → (runFrom n m l i).2.2 = 0 → ∀ p : Nat, (runFrom n m l i).1.getD p 0 = m.getD p 0 + dotTo (incRow n p) (cntsTo l n.trans.length) n.trans.length := by
  intro l
  induction l with
  | nil => intro m i _ _ p; rw [dot_nil _ _ _ (Nat.le_refl _)]; simp [runFrom]
  | cons t l ih =>
    intro m i hm h p
    have hs : runFrom n m (t :: l) i = if (fireB n m t).2 = 0 then runFrom n (fireB n m t).1 l (i + 1) else ([], i, (fireB n m t).2) := rfl
    by_cases h0 : (fireB n m t).2 = 0
    · rw [hs, if_pos h0] at h ⊢
      have hm' := fire_mark hv hm h0
      rw [ih _ _ hm' h p]
      obtain ⟨u, x, rfl, hx, e⟩ := fire_ok h0
      obtain ⟨_, _, _, v4⟩ := validOk hv
      have hu : u < n.trans.length := by
        rcases Nat.lt_or_ge u n.trans.length with h' | h'
        · exact h'
        · rw [List.getElem?_eq_none h'] at hx; cases hx
      rw [e, inc_get (markOk hm).1 (v4 x (List.mem_of_getElem? hx)), dot_cons _ _ _ _ _ (Nat.le_refl _), if_pos hu, incRow_get n p hx]
      omega
    · rw [hs, if_neg h0] at h
      exact absurd h h0
theorem runB_eqn {n : Net} {m l : List Int} (hl : l.length ≤ 60) (h : (runB n m l).2.2 = 0) : (runB n m l).1.length = m.length ∧ ∀ p : Nat, (runB n m l).1.getD p 0 = m.getD p 0 + dotTo (incRow n p) (cntsTo l n.trans.length) n.trans.length := by
  obtain ⟨hv, hm⟩ := runB_ok h
  rw [runB_eq hv hm hl] at h ⊢
  refine ⟨?_, run_eq hv l m 0 hm h⟩
  have := (markOk (run_back hv l m 0 0 hm h).2).1
  have := (markOk hm).1
  omega

theorem mul_b {x y : Int} (h1 : -1 ≤ x) (h2 : x ≤ 1) (h3 : 0 ≤ y) (h4 : y ≤ 60) : -60 ≤ x * y ∧ x * y ≤ 60 := by
  rcases (show x = -1 ∨ x = 0 ∨ x = 1 by omega) with rfl | rfl | rfl
  · omega
  · omega
  · omega
def Unit1 (r : List Int) : Prop := ∀ k, -1 ≤ r.getD k 0 ∧ r.getD k 0 ≤ 1
def Few (cs : List Int) : Prop := ∀ k, 0 ≤ cs.getD k 0 ∧ cs.getD k 0 ≤ 60
theorem dot_b {r cs : List Int} (h1 : Unit1 r) (h2 : Few cs) : ∀ k : Nat, -60 * (k : Int) ≤ dotTo r cs k ∧ dotTo r cs k ≤ 60 * (k : Int) := by
  intro k
  induction k with
  | zero => exact ⟨by simp [dotTo], by simp [dotTo]⟩
  | succ k ih =>
    have := mul_b (h1 k).1 (h1 k).2 (h2 k).1 (h2 k).2
    show _ ≤ dotTo r cs k + r.getD k 0 * cs.getD k 0 ∧ dotTo r cs k + r.getD k 0 * cs.getD k 0 ≤ _
    generalize r.getD k 0 * cs.getD k 0 = z at *
    omega
theorem unit_inc (n : Net) (p : Nat) : Unit1 (incRow n p) := by
  intro k
  rw [List.getD_eq_getElem?_getD]
  cases h : (incRow n p)[k]? with
  | none => simp
  | some z => exact incRow_fit n p z (List.mem_of_getElem? h)
theorem few_cnts (l : List Int) (N : Nat) (hl : l.length ≤ 60) : Few (cntsTo l N) := by
  intro k
  rcases Nat.lt_or_ge k N with h | h
  · rw [cntsTo_get l h]
    have := cnt_le l k
    omega
  · rw [List.getD_eq_getElem?_getD, List.getElem?_eq_none (by rw [cntsTo_len]; exact h)]; simp
end Go.Proofs.YtphdafhidhfmnaaDoor
