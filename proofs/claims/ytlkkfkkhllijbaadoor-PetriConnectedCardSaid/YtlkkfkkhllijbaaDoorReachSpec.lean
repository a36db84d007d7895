/- What a net leads to, plainly. -/
import Derived.Test.YtlkkfkkhllijbaaDoorFire
namespace Go.Proofs.YtlkkfkkhllijbaaDoor
open Go.RowKit

def arcOf (back : Bool) (t : Tr) : List Int × List Int := if back then (t.outs, t.ins) else (t.ins, t.outs)
def arcs (back : Bool) (n : Net) : List (List Int × List Int) := n.trans.map (arcOf back)
/-- p is in every set that has the place a and is closed under the transitions. -/
def Reach (ts : List (List Int × List Int)) (a p : Int) : Prop := ∀ S : Int → Prop, S a → (∀ t ∈ ts, ∀ q ∈ t.1, S q → ∀ r ∈ t.2, S r) → S p
theorem Reach.start (ts : List (List Int × List Int)) (a : Int) : Reach ts a a := fun _ h _ => h
theorem Reach.step {ts : List (List Int × List Int)} {a q r : Int} {t : List Int × List Int} (ht : t ∈ ts) (hq : q ∈ t.1) (h : Reach ts a q) (hr : r ∈ t.2) : Reach ts a r :=
  fun S h1 h2 => h2 t ht q hq (h S h1 h2) r hr

def setAll (pl : List Bool) (ps : List Int) : List Bool := ps.foldl (fun l p => l.set p.toNat true) pl
theorem setAll_length (ps : List Int) : ∀ pl, (setAll pl ps).length = pl.length := by
  unfold setAll
  induction ps with
  | nil => intro pl; rfl
  | cons p ps ih => intro pl; rw [List.foldl_cons, ih, List.length_set]
theorem setAll_snoc (pl : List Bool) (ps : List Int) (k : Nat) (p : Int) (h : ps[k]? = some p) : setAll pl (ps.take (k + 1)) = (setAll pl (ps.take k)).set p.toNat true := by
  have hk : k < ps.length := by
    rcases Nat.lt_or_ge k ps.length with h' | h'
    · exact h'
    · rw [List.getElem?_eq_none h'] at h; cases h
  rw [List.getElem?_eq_getElem hk] at h
  injection h with h
  unfold setAll
  rw [List.take_succ_eq_append_getElem hk, List.foldl_append, h]
  rfl
theorem setAll_get (ps : List Int) : ∀ (pl : List Bool) (k : Nat), (∀ p ∈ ps, 0 ≤ p ∧ p.toNat < pl.length) → ((setAll pl ps).getD k false = true ↔ pl.getD k false = true ∨ (k : Int) ∈ ps) := by
  induction ps with
  | nil => intro pl k _; simp [setAll]
  | cons p ps ih =>
    intro pl k h
    have e : setAll pl (p :: ps) = setAll (pl.set p.toNat true) ps := rfl
    rw [e, ih (pl.set p.toNat true) k (fun q hq => by rw [List.length_set]; exact h q (by simp [hq]))]
    have hp := h p (by simp)
    simp only [List.getD_eq_getElem?_getD, List.getElem?_set, List.mem_cons]
    by_cases hk : p.toNat = k
    · subst hk
      have : ((p.toNat : Nat) : Int) = p := by omega
      simp [hp.2, this]
    · have : ¬ (k : Int) = p := by omega
      simp [hk, this]

/-- How far the search has come: all that is found is right, and what is fired is all there. -/
structure Inv (ts : List (List Int × List Int)) (P : Nat) (a : Int) (pl tr : List Bool) : Prop where
  lp : pl.length = P
  lt : tr.length = ts.length
  has : pl.getD a.toNat false = true
  ok : ∀ k, pl.getD k false = true → Reach ts a k
  done : ∀ i t, ts[i]? = some t → tr.getD i false = true → (∃ q ∈ t.1, Reach ts a q) ∧ ∀ r ∈ t.2, pl.getD r.toNat false = true
def anyIn (pl : List Bool) (ps : List Int) : Bool := ps.any fun p => pl.getD p.toNat false
def InPl (P : Nat) (ts : List (List Int × List Int)) : Prop := ∀ t ∈ ts, (∀ q ∈ t.1, 0 ≤ q ∧ q.toNat < P) ∧ (∀ r ∈ t.2, 0 ≤ r ∧ r.toNat < P)

theorem getD_set_bool (l : List Bool) (i j : Nat) : (l.set i true).getD j false = true ↔ (i = j ∧ i < l.length) ∨ l.getD j false = true := by
  simp only [List.getD_eq_getElem?_getD, List.getElem?_set]
  by_cases h : i = j
  · subst h
    by_cases hl : i < l.length
    · simp [hl]
    · simp [hl]
  · simp [h]
theorem Inv.start {ts : List (List Int × List Int)} {P : Nat} {a : Int} (h0 : 0 ≤ a) (h1 : a.toNat < P) : Inv ts P a ((List.replicate P false).set a.toNat true) (List.replicate ts.length false) := by
  refine ⟨by simp, by simp, ?_, ?_, ?_⟩
  · rw [getD_set_bool]; left; simp [h1]
  · intro k hk
    rw [getD_set_bool] at hk
    rcases hk with ⟨h, _⟩ | h
    · have : (k : Int) = a := by omega
      rw [this]; exact Reach.start ts a
    · simp only [List.getD_eq_getElem?_getD, List.getElem?_replicate] at h
      split at h <;> simp at h
  · intro i t _ h
    simp only [List.getD_eq_getElem?_getD, List.getElem?_replicate] at h
    split at h <;> simp at h
theorem Inv.step {ts : List (List Int × List Int)} {P : Nat} {a : Int} {pl tr : List Bool} (h : Inv ts P a pl tr) (hin : InPl P ts) {i : Nat} {t : List Int × List Int} (ht : ts[i]? = some t) (hany : anyIn pl t.1 = true) :
    Inv ts P a (setAll pl t.2) (tr.set i true) := by
  obtain ⟨h1, h2⟩ := hin t (List.mem_of_getElem? ht)
  have hg := fun k => setAll_get t.2 pl k (fun p hp => by rw [h.lp]; exact h2 p hp)
  have hq : ∃ q ∈ t.1, Reach ts a q := by
    unfold anyIn at hany
    rw [List.any_eq_true] at hany
    obtain ⟨q, hq, hq2⟩ := hany
    refine ⟨q, hq, ?_⟩
    have := h.ok q.toNat hq2
    rwa [show ((q.toNat : Nat) : Int) = q from by have := h1 q hq; omega] at this
  refine ⟨by rw [setAll_length]; exact h.lp, by rw [List.length_set]; exact h.lt, ?_, ?_, ?_⟩
  · rw [hg]; exact .inl h.has
  · intro k hk
    rw [hg] at hk
    rcases hk with hk | hk
    · exact h.ok k hk
    · obtain ⟨q, hq, hr⟩ := hq
      exact Reach.step (List.mem_of_getElem? ht) hq hr hk
  · intro j u hu hj
    rw [getD_set_bool] at hj
    rcases hj with ⟨rfl, _⟩ | hj
    · rw [ht] at hu
      injection hu with hu
      subst hu
      refine ⟨hq, fun r hr => ?_⟩
      rw [hg]; right
      rwa [show ((r.toNat : Nat) : Int) = r from by have := h2 r hr; omega]
    · obtain ⟨a1, a2⟩ := h.done j u hu hj
      exact ⟨a1, fun r hr => by rw [hg]; exact .inl (a2 r hr)⟩
/-- What the search has found when nothing changes any more. -/
def Found (ts : List (List Int × List Int)) (P : Nat) (a : Int) (pl tr : List Bool) : Prop :=
  pl.length = P ∧ tr.length = ts.length ∧ (∀ k, pl.getD k false = true ↔ Reach ts a k) ∧ (∀ i t, ts[i]? = some t → (tr.getD i false = true ↔ ∃ q ∈ t.1, Reach ts a q))
theorem Inv.found {ts : List (List Int × List Int)} {P : Nat} {a : Int} {pl tr : List Bool} (h : Inv ts P a pl tr) (h0 : 0 ≤ a) (hin : InPl P ts) (hend : ∀ i t, ts[i]? = some t → tr.getD i false = true ∨ anyIn pl t.1 = false) : Found ts P a pl tr := by
  have key : ∀ p, Reach ts a p → 0 ≤ p ∧ pl.getD p.toNat false = true := by
    intro p hp
    refine hp (fun x => 0 ≤ x ∧ pl.getD x.toNat false = true) ⟨h0, h.has⟩ ?_
    intro t ht q hq ⟨hq0, hq1⟩ r hr
    obtain ⟨i, hi, rfl⟩ := List.mem_iff_getElem.1 ht
    have hti : ts[i]? = some ts[i] := List.getElem?_eq_getElem hi
    rcases hend i _ hti with h' | h'
    · exact ⟨((hin _ ht).2 r hr).1, (h.done i _ hti h').2 r hr⟩
    · unfold anyIn at h'
      rw [List.any_eq_false] at h'
      exact absurd hq1 (by simpa using h' q hq)
  refine ⟨h.lp, h.lt, fun k => ⟨h.ok k, fun hk => by have := (key k hk).2; simpa using this⟩, fun i t ht => ⟨fun h' => (h.done i t ht h').1, ?_⟩⟩
  rintro ⟨q, hq, hr⟩
  rcases hend i t ht with h' | h'
  · exact h'
  · unfold anyIn at h'
    rw [List.any_eq_false] at h'
    exact absurd (key q hr).2 (by simpa using h' q hq)
theorem inPl_arcs {n : Net} (hv : validB n = true) (back : Bool) : InPl n.places.toNat (arcs back n) := by
  intro t ht
  unfold arcs at ht
  obtain ⟨x, hx, rfl⟩ := List.mem_map.1 ht
  obtain ⟨v1, v2, v3, v4⟩ := validOk hv
  obtain ⟨pi, po⟩ := trPlaces (v4 x hx)
  have a1 := fun p hp => places_mem pi p hp
  have a2 := fun p hp => places_mem po p hp
  unfold arcOf
  cases back
  · exact ⟨fun q hq => by have := a1 q hq; omega, fun q hq => by have := a2 q hq; omega⟩
  · exact ⟨fun q hq => by have := a2 q hq; omega, fun q hq => by have := a1 q hq; omega⟩
def falses (tr : List Bool) : Nat := (tr.filter (fun b => !b)).length
theorem falses_set (tr : List Bool) : ∀ i, i < tr.length → tr.getD i false = false → falses (tr.set i true) + 1 = falses tr := by
  unfold falses
  induction tr with
  | nil => intro i hi; simp at hi
  | cons b tr ih =>
    intro i hi h
    cases i with
    | zero => simp at h; subst h; simp
    | succ i =>
      have := ih i (by simpa using hi) (by simpa using h)
      cases b
      · simp only [List.set_cons_succ, List.filter_cons, Bool.not_false, if_true, List.length_cons]; omega
      · simp only [List.set_cons_succ, List.filter_cons, Bool.not_true, Bool.false_eq_true, if_false]; omega
end Go.Proofs.YtlkkfkkhllijbaaDoor
