/- The order of strong components: there is always one that no other untaken one leads to. No program in sight. -/
import Derived.WalkKit
namespace Go.Proofs.YtlkkfkkhllijbaaDoor

theorem getD_set_self' {α : Type} {l : List α} {i : Nat} {x d : α} (h : i < l.length) : (l.set i x).getD i d = x := by
  rw [List.getD_eq_getElem?_getD, List.getElem?_set_self h]; rfl
theorem getD_set_ne' {α : Type} {l : List α} {i j : Nat} {x d : α} (h : i ≠ j) : (l.set i x).getD j d = l.getD j d := by
  rw [List.getD_eq_getElem?_getD, List.getD_eq_getElem?_getD, List.getElem?_set_ne h]
section
variable (cl : Nat → Nat) (es : List (Nat × Nat)) (n : Nat)
/-- The edges into c from other classes that are not taken. -/
def opn (T : List Bool) (c : Nat) : Int := ((es.countP fun e => decide (cl e.2 = c) && decide (cl e.1 ≠ c) && !T.getD (cl e.1) false : Nat) : Int)
def nextE (v : Nat) : List Nat := (es.filter fun e => decide (e.1 = v)).map (·.2)
variable {cl es n}
theorem nextE_mem {v w : Nat} : w ∈ nextE es v ↔ (v, w) ∈ es := by
  unfold nextE
  rw [List.mem_map]
  constructor
  · rintro ⟨⟨a, b⟩, h, rfl⟩
    rw [List.mem_filter] at h
    have h2 : a = v := by simpa using h.2
    subst h2
    exact h.1
  · intro h
    exact ⟨(v, w), by rw [List.mem_filter]; exact ⟨h, by simp⟩, rfl⟩
theorem opn_bound (T : List Bool) (c : Nat) : 0 ≤ opn cl es T c ∧ opn cl es T c ≤ es.length := by
  unfold opn
  have := List.countP_le_length (p := fun e : Nat × Nat => decide (cl e.2 = c) && decide (cl e.1 ≠ c) && !T.getD (cl e.1) false) (l := es)
  omega
/-- One is free. -/
theorem free_one (hm : ∀ e ∈ es, cl e.2 ≤ cl e.1 ∧ cl e.1 < n) {T : List Bool} (hT : T.length = n) (hc : T.count true < n) : ∃ c, c < n ∧ T.getD c false = false ∧ opn cl es T c = 0 := by
  have h1 : ∃ c, c < n ∧ T.getD c false = false := by
    apply Classical.byContradiction
    intro h
    have : ∀ b ∈ T, true = b := fun b hb => by
      obtain ⟨i, hi, rfl⟩ := List.mem_iff_getElem.1 hb
      cases e : T[i] with
      | true => rfl
      | false =>
        exfalso
        refine h ⟨i, by omega, ?_⟩
        rw [List.getD_eq_getElem?_getD, List.getElem?_eq_getElem hi, e]; rfl
    have := List.count_eq_length.2 this
    omega
  have h2 : ∀ k, (∃ c, c < n ∧ n - k ≤ c ∧ T.getD c false = false) → ∃ c, c < n ∧ T.getD c false = false ∧ ∀ d, c < d → d < n → T.getD d false = true := by
    intro k
    induction k with
    | zero => rintro ⟨c, a, b, _⟩; omega
    | succ k ih =>
      rintro ⟨c, a, b, d⟩
      by_cases h : ∃ c, c < n ∧ n - k ≤ c ∧ T.getD c false = false
      · exact ih h
      · refine ⟨c, a, d, fun x h1 h2 => ?_⟩
        cases e : T.getD x false with
        | true => rfl
        | false => exact absurd ⟨x, h2, by omega, e⟩ h
  obtain ⟨c, c1, c2⟩ := h1
  obtain ⟨c, c1, c2, c3⟩ := h2 n ⟨c, c1, by omega, c2⟩
  refine ⟨c, c1, c2, ?_⟩
  unfold opn
  have : (es.countP fun e => decide (cl e.2 = c) && decide (cl e.1 ≠ c) && !T.getD (cl e.1) false) = 0 := by
    rw [List.countP_eq_zero]
    intro e he h
    simp only [Bool.and_eq_true, decide_eq_true_eq, Bool.not_eq_true'] at h
    obtain ⟨⟨h1, h2⟩, h3⟩ := h
    obtain ⟨a, b⟩ := hm e he
    have := c3 (cl e.1) (by omega) b
    rw [this] at h3
    cases h3
  rw [this]; rfl
def membs (cl : Nat → Nat) (N c : Nat) : List Nat := (List.range N).filter fun v => decide (cl v = c)
theorem sum_one (l : List Nat) (hl : l.Nodup) (a : Nat) : (l.map fun v => if a = v then 1 else 0).sum = if a ∈ l then 1 else 0 := by
  induction l with
  | nil => rfl
  | cons b l ih =>
    rw [List.nodup_cons] at hl
    rw [List.map_cons, List.sum_cons, ih hl.2]
    by_cases h : a = b
    · subst h
      rw [if_pos rfl, if_neg hl.1, if_pos (by simp)]
    · rw [if_neg h, Nat.zero_add]
      by_cases h2 : a ∈ l
      · rw [if_pos h2, if_pos (by simp [h2])]
      · rw [if_neg h2, if_neg (by simp [h, h2])]
theorem sum_zero (l : List Nat) : (l.map fun _ => 0).sum = 0 := by
  induction l with
  | nil => rfl
  | cons b l ih => simp only [List.map_cons, List.sum_cons, ih]
theorem sum_add (l : List Nat) (f g : Nat → Nat) : (l.map fun v => f v + g v).sum = (l.map f).sum + (l.map g).sum := by
  induction l with
  | nil => rfl
  | cons b l ih => simp only [List.map_cons, List.sum_cons, ih]; omega
theorem count_next (l : List Nat) (hl : l.Nodup) (p : Nat → Bool) : (l.flatMap (nextE es)).countP p = es.countP fun e => decide (e.1 ∈ l) && p e.2 := by
  rw [List.countP_flatMap]
  induction es with
  | nil =>
    have : (l.map (List.countP p ∘ nextE [])) = l.map fun _ => 0 := List.map_congr_left fun v _ => rfl
    rw [this, sum_zero]
    rfl
  | cons e es ih =>
    have h1 : ∀ v, (List.countP p ∘ nextE (e :: es)) v = (if e.1 = v then (if p e.2 then 1 else 0) else 0) + (List.countP p ∘ nextE es) v := fun v => by
      show (nextE (e :: es) v).countP p = _ + (nextE es v).countP p
      unfold nextE
      rw [List.filter_cons]
      by_cases hv : e.1 = v
      · rw [if_pos (by simpa using hv), if_pos hv, List.map_cons, List.countP_cons]; omega
      · rw [if_neg (by simpa using hv), if_neg hv, Nat.zero_add]
    have h2 : (l.map (List.countP p ∘ nextE (e :: es))) = l.map fun v => (if e.1 = v then (if p e.2 then 1 else 0) else 0) + (List.countP p ∘ nextE es) v := List.map_congr_left fun v _ => h1 v
    rw [h2, sum_add, ih, List.countP_cons]
    by_cases hp : p e.2 = true
    · simp only [hp, if_true, Bool.and_true]
      rw [sum_one l hl]
      by_cases hm : e.1 ∈ l
      · simp [hm]; omega
      · simp [hm]
    · have hp' : p e.2 = false := by simpa using hp
      have h3 : (l.map fun v => if e.1 = v then (if p e.2 = true then 1 else 0) else 0) = l.map fun _ => 0 := List.map_congr_left fun v _ => by simp [hp']
      rw [h3, sum_zero]
      simp [hp']
theorem membs_nodup (N c : Nat) : (membs cl N c).Nodup := List.Nodup.sublist List.filter_sublist List.nodup_range
theorem membs_mem {N c v : Nat} : v ∈ membs cl N c ↔ v < N ∧ cl v = c := by
  unfold membs
  rw [List.mem_filter, List.mem_range, decide_eq_true_eq]
/-- Once a class is taken, its edges into others are no longer counted. -/
theorem opn_take {N b c : Nat} (hN : ∀ e ∈ es, e.1 < N) {T : List Bool} (hb : b < T.length) (hTb : T.getD b false = false) :
    opn cl es (T.set b true) c = opn cl es T c - (((membs cl N b).flatMap (nextE es)).countP fun w => decide (cl w ≠ b) && decide (cl w = c) : Nat) := by
  rw [count_next _ (membs_nodup N b)]
  unfold opn
  have key : ∀ l : List (Nat × Nat), (∀ e ∈ l, e.1 < N) → (l.countP fun e => decide (cl e.2 = c) && decide (cl e.1 ≠ c) && !T.getD (cl e.1) false) = (l.countP fun e => decide (cl e.2 = c) && decide (cl e.1 ≠ c) && !(T.set b true).getD (cl e.1) false) + l.countP fun e => decide (e.1 ∈ membs cl N b) && (decide (cl e.2 ≠ b) && decide (cl e.2 = c)) := by
    intro l hl
    induction l with
    | nil => rfl
    | cons e l ih =>
      rw [List.countP_cons, List.countP_cons, List.countP_cons, ih (fun x hx => hl x (by simp [hx]))]
      have he := hl e (by simp)
      have hmem : decide (e.1 ∈ membs cl N b) = decide (cl e.1 = b) := by rw [decide_eq_decide, membs_mem]; exact ⟨fun h => h.2, fun h => ⟨he, h⟩⟩
      rw [hmem]
      by_cases h1 : cl e.1 = b
      · rw [h1, getD_set_self' hb, hTb]
        by_cases h2 : cl e.2 = c
        · by_cases h3 : b = c
          · simp [h2, h3]
          · have h4 : ¬ c = b := fun e => h3 e.symm
            simp [h2, h3, h4]; omega
        · simp [h2]
      · rw [getD_set_ne' (fun h => h1 h.symm)]
        simp [h1]; omega
  have := key es hN
  omega
end
end Go.Proofs.YtlkkfkkhllijbaaDoor
