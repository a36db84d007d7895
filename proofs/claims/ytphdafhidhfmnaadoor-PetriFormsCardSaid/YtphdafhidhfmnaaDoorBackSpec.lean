/- A run can be taken back, plainly; the reversed net. -/
import Derived.Test.YtphdafhidhfmnaaDoorRunSpec
import Derived.Test.YtphdafhidhfmnaaDoorWorkflow
namespace Go.Proofs.YtphdafhidhfmnaaDoor
open Go.RowKit

def revT (t : Tr) : Tr := ⟨t.label, t.outs, t.ins⟩
def revN (n : Net) : Net := ⟨n.places, n.trans.map revT, n.sink, n.source⟩
def noNet : Net := ⟨0, [], 0, 0⟩
def revE (n : Net) : Net × Int := if validB n = false then (noNet, 1) else (revN n, 0)

theorem trOk_rev (P : Int) (t : Tr) : trOk P (revT t) = trOk P t := by
  unfold trOk revT
  simp only [Bool.and_assoc]
  rw [Bool.and_comm (placesB P t.outs)]
theorem validB_rev (n : Net) : validB (revN n) = validB n := by
  unfold validB revN
  simp only [List.length_map, List.all_map, Function.comp_def, trOk_rev, Bool.and_assoc]
  rw [Bool.and_comm (inside n.places n.sink)]
theorem arcs_rev (back : Bool) (n : Net) : arcs back (revN n) = arcs (!back) n := by
  unfold arcs revN
  simp only [List.map_map]
  congr 1
  funext t
  cases back <;> rfl
theorem start_rev (back : Bool) (n : Net) : startOf (revN n) back = startOf n (!back) := by cases back <;> rfl
theorem arcOf_rev (back : Bool) (t : Tr) : arcOf back (revT t) = arcOf (!back) t := by cases back <;> rfl
theorem covers_rev (n : Net) (back : Bool) : Covers (revN n) back ↔ Covers n (!back) := by
  unfold Covers
  rw [arcs_rev, start_rev]
  have e : ∀ p : Tr → Prop, (∀ t ∈ (revN n).trans, p t) ↔ ∀ t ∈ n.trans, p (revT t) := fun p => by simp [revN]
  rw [e]
  simp only [arcOf_rev]
  exact Iff.rfl
theorem workflowP_rev (n : Net) : WorkflowP (revN n) ↔ WorkflowP n := by
  unfold WorkflowP
  rw [validB_rev, covers_rev, covers_rev]
  have e : ∀ p : Tr → Prop, (∀ t ∈ (revN n).trans, p t) ↔ ∀ t ∈ n.trans, p (revT t) := fun p => by simp [revN]
  rw [e]
  simp only [Bare, revT, revN, Bool.not_false, Bool.not_true]
  constructor
  · rintro ⟨a, b, c, d, e⟩; exact ⟨a, Ne.symm b, fun t ht => ⟨(c t ht).2, (c t ht).1⟩, e, d⟩
  · rintro ⟨a, b, c, d, e⟩; exact ⟨a, Ne.symm b, fun t ht => ⟨(c t ht).2, (c t ht).1⟩, e, d⟩
theorem workflowB_rev (n : Net) : workflowB (revN n) = workflowB n := by
  unfold workflowB
  exact decide_eq_decide.2 (workflowP_rev n)
theorem workflow_valid {n : Net} (h : validB n = false) : workflowB n = false := workflow_no (fun h' => by have := h'.1; rw [h] at this; cases this)

theorem list_ext_getD {a b : List Int} (hl : a.length = b.length) (h : ∀ k, a.getD k 0 = b.getD k 0) : a = b := by
  apply List.ext_getElem hl
  intro k h1 h2
  have := h k
  rwa [List.getD_eq_getElem?_getD, List.getD_eq_getElem?_getD, List.getElem?_eq_getElem h1, List.getElem?_eq_getElem h2] at this
theorem out_rev {n : Net} {t : Tr} {m : List Int} (hm : (m.length : Int) = n.places) (ht : trOk n.places t = true) : outOf (revT t) (outOf t m) = m := by
  apply list_ext_getD
  · rw [out_length, out_length]
  · intro k
    rw [getD_out (n := n) (by rw [out_length]; exact hm) (by rw [trOk_rev]; exact ht), getD_out hm ht]
    simp only [revT]
    by_cases h1 : (k : Int) ∈ t.ins <;> by_cases h2 : (k : Int) ∈ t.outs <;> simp only [h1, h2, if_true, if_false] <;> omega
theorem can_rev {n : Net} {t : Tr} {m : List Int} (hm : (m.length : Int) = n.places) (hw : Within 0 100 m) (ht : trOk n.places t = true) (hc : canB t.ins m = true) : canB (revT t).ins (outOf t m) = true := by
  obtain ⟨_, h2⟩ := trPlaces ht
  unfold canB
  rw [List.all_eq_true]
  intro p hp
  replace hp : p ∈ t.outs := hp
  have hp0 := places_mem h2 p hp
  obtain ⟨k, rfl⟩ := Int.eq_ofNat_of_zero_le hp0.1
  rw [Int.toNat_natCast, getD_out hm ht, if_pos hp]
  have h0 := getD_nonneg hw k
  have h1 := canB_get hc k
  simp only [decide_eq_true_eq]
  by_cases hi : (k : Int) ∈ t.ins
  · have := h1 hi; rw [if_pos hi]; omega
  · rw [if_neg hi]; omega
/-- A firing taken back. -/
theorem fire_back {n : Net} {m : List Int} {t : Int} (hv : validB n = true) (hm : markingB n.places m = true) (h : (fireB n m t).2 = 0) : fireB (revN n) (fireB n m t).1 t = (m, 0) := by
  obtain ⟨v1, _, _, v4⟩ := validOk hv
  obtain ⟨m1, m2⟩ := markOk hm
  unfold fireB at h ⊢
  by_cases h0 : t < 0
  · rw [if_pos h0] at h; simp at h
  rw [if_neg h0] at h ⊢
  rw [if_neg h0]
  have e : (revN n).trans[t.toNat]? = (n.trans[t.toNat]?).map revT := by simp [revN]
  rw [e]
  cases hx : n.trans[t.toNat]? with
  | none => rw [hx] at h; simp at h
  | some x =>
    rw [hx] at h
    simp only [Option.map_some] at h ⊢
    have ht := v4 x (List.mem_of_getElem? hx)
    unfold fireT at h ⊢
    by_cases hc' : canB x.ins m = false
    · rw [if_pos hc'] at h; simp at h
    have hc : canB x.ins m = true := by simpa using hc'
    rw [if_neg hc'] at h ⊢
    by_cases hx2 : 100 < Lib.maxOf (outOf x m)
    · rw [if_pos hx2] at h; simp at h
    rw [if_neg hx2]
    have hc2 : ¬ canB (revT x).ins (outOf x m) = false := by rw [can_rev m1 m2 ht hc]; simp
    rw [if_neg hc2, out_rev m1 ht, if_neg]
    rw [maxOf_gt 100 m (by omega)]
    rintro ⟨z, hz, h'⟩
    have := m2 z hz
    omega
theorem run_append {n : Net} : ∀ (a b m : List Int) (i : Nat), (runFrom n m a i).2.2 = 0 → runFrom n m (a ++ b) i = runFrom n (runFrom n m a i).1 b (i + a.length) := by
  intro a
  induction a with
  | nil => intro b m i _; rfl
  | cons t a ih =>
    intro b m i h
    have e : ∀ l, runFrom n m (t :: l) i = (if (fireB n m t).2 = 0 then runFrom n (fireB n m t).1 l (i + 1) else ([], i, (fireB n m t).2)) := fun _ => rfl
    rw [e] at h
    rw [List.cons_append, e, e]
    by_cases h1 : (fireB n m t).2 = 0
    · rw [if_pos h1] at h ⊢
      rw [if_pos h1, ih b _ _ h, List.length_cons]
      congr 1
      omega
    · rw [if_neg h1] at h; exact absurd h h1
theorem run_back {n : Net} (hv : validB n = true) : ∀ (l m : List Int) (i j : Nat), markingB n.places m = true → (runFrom n m l i).2.2 = 0 → runFrom (revN n) (runFrom n m l i).1 l.reverse j = (m, j + l.length, 0) ∧ markingB n.places (runFrom n m l i).1 = true := by
  intro l
  induction l with
  | nil => intro m i j hm _; exact ⟨rfl, hm⟩
  | cons t l ih =>
    intro m i j hm h
    have e : runFrom n m (t :: l) i = (if (fireB n m t).2 = 0 then runFrom n (fireB n m t).1 l (i + 1) else ([], i, (fireB n m t).2)) := rfl
    rw [e] at h ⊢
    by_cases h1 : (fireB n m t).2 = 0
    · rw [if_pos h1] at h ⊢
      obtain ⟨h2, h3⟩ := ih _ (i + 1) j (fire_mark hv hm h1) h
      refine ⟨?_, h3⟩
      rw [List.reverse_cons, run_append _ _ _ _ (by rw [h2]), h2]
      show (if _ then _ else _) = _
      rw [fire_back hv hm h1]
      rw [if_pos rfl, List.length_reverse, List.length_cons]
      show (m, j + l.length + 1, (0 : Int)) = _
      rw [Nat.add_assoc]
    · rw [if_neg h1] at h; exact absurd h h1
theorem runB_eq {n : Net} {m l : List Int} (hv : validB n = true) (hm : markingB n.places m = true) (hl : l.length ≤ 60) : runB n m l = runFrom n m l 0 := by
  unfold runB
  rw [hv, hm, if_neg (by simp), if_neg (by omega)]
theorem runB_back {n : Net} {m l : List Int} (hv : validB n = true) (hm : markingB n.places m = true) (hl : l.length ≤ 60) (h : (runB n m l).2.2 = 0) : runB (revN n) (runB n m l).1 l.reverse = (m, l.length, 0) := by
  rw [runB_eq hv hm hl] at h ⊢
  obtain ⟨h1, h2⟩ := run_back hv l m 0 0 hm h
  rw [runB_eq (n := revN n) (by rw [validB_rev]; exact hv) h2 (by rw [List.length_reverse]; exact hl), h1]
  simp
/-- A run that ended well began with a marking of a valid net. -/
theorem runB_ok {n : Net} {m l : List Int} (h : (runB n m l).2.2 = 0) : validB n = true ∧ markingB n.places m = true := by
  unfold runB at h
  by_cases h1 : (validB n && markingB n.places m) = false
  · rw [if_pos h1] at h; simp at h
  · simpa using h1
end Go.Proofs.YtphdafhidhfmnaaDoor
