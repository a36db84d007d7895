/- PetriConnected, plainly: a workflow net is strongly connected if it is closed, and only then. No program in sight. -/
import Derived.Test.YtlkkfkkhllijbaaDoorWorkflow
import Derived.Test.YtlkkfkkhllijbaaDoorStrongP
import Derived.Test.YtlkkfkkhllijbaaDoorTarjan
namespace Go.Proofs.YtlkkfkkhllijbaaDoor
open Go.RowKit

def tEdges (P i : Nat) (t : Tr) : List (Nat × Nat) := t.ins.map (fun p => (p.toNat, P + i)) ++ t.outs.map (fun p => (P + i, p.toNat))
def edgesTo' (P : Nat) (ts : List Tr) : Nat → List (Nat × Nat)
  | 0 => []
  | k + 1 => edgesTo' P ts k ++ match ts[k]? with
    | some t => tEdges P k t
    | none => []
theorem edgesTo_mem {P : Nat} {ts : List Tr} {e : Nat × Nat} : ∀ {k : Nat}, e ∈ edgesTo' P ts k ↔ ∃ i t, i < k ∧ ts[i]? = some t ∧ e ∈ tEdges P i t
  | 0 => by unfold edgesTo'; simp
  | k + 1 => by
    rw [edgesTo', List.mem_append, edgesTo_mem]
    constructor
    · rintro (⟨i, t, h1, h2, h3⟩ | h)
      · exact ⟨i, t, by omega, h2, h3⟩
      · cases hx : ts[k]? with
        | none => rw [hx] at h; cases h
        | some t => rw [hx] at h; exact ⟨k, t, by omega, hx, h⟩
    · rintro ⟨i, t, h1, h2, h3⟩
      by_cases e : i = k
      · subst e; right; rw [h2]; exact h3
      · exact .inl ⟨i, t, by omega, h2, h3⟩
theorem tEdges_mem {P i : Nat} {t : Tr} {e : Nat × Nat} : e ∈ tEdges P i t ↔ (∃ p ∈ t.ins, e = (p.toNat, P + i)) ∨ (∃ p ∈ t.outs, e = (P + i, p.toNat)) := by
  unfold tEdges
  rw [List.mem_append, List.mem_map, List.mem_map]
  constructor
  · rintro (⟨p, h, e⟩ | ⟨p, h, e⟩)
    · exact .inl ⟨p, h, e.symm⟩
    · exact .inr ⟨p, h, e.symm⟩
  · rintro (⟨p, h, e⟩ | ⟨p, h, e⟩)
    · exact .inl ⟨p, h, e.symm⟩
    · exact .inr ⟨p, h, e.symm⟩
/-- The vertices: the places, the transitions, and one more. -/
def vertsN (n : Net) : Nat := n.places.toNat + n.trans.length + 1
def edgesN (n : Net) : List (Nat × Nat) := edgesTo' n.places.toNat n.trans n.trans.length ++ [(n.sink.toNat, n.places.toNat + n.trans.length), (n.places.toNat + n.trans.length, n.source.toNat)]
theorem edgesN_mem {n : Net} {e : Nat × Nat} : e ∈ edgesN n ↔ (∃ i t, n.trans[i]? = some t ∧ ((∃ p ∈ t.ins, e = (p.toNat, n.places.toNat + i)) ∨ (∃ p ∈ t.outs, e = (n.places.toNat + i, p.toNat)))) ∨ e = (n.sink.toNat, n.places.toNat + n.trans.length) ∨ e = (n.places.toNat + n.trans.length, n.source.toNat) := by
  unfold edgesN
  rw [List.mem_append, edgesTo_mem]
  simp only [List.mem_cons, List.not_mem_nil, or_false]
  constructor
  · rintro (⟨i, t, _, h2, h3⟩ | h)
    · exact .inl ⟨i, t, h2, tEdges_mem.1 h3⟩
    · exact .inr h
  · rintro (⟨i, t, h2, h3⟩ | h)
    · exact .inl ⟨i, t, (List.getElem?_eq_some_iff.1 h2).1, h2, tEdges_mem.2 h3⟩
    · exact .inr h
theorem place_in {n : Net} (hv : validB n = true) {t : Tr} (ht : t ∈ n.trans) : (∀ p ∈ t.ins, 0 ≤ p ∧ p < n.places) ∧ (∀ p ∈ t.outs, 0 ≤ p ∧ p < n.places) := by
  obtain ⟨_, _, _, v4⟩ := validOk hv
  obtain ⟨pi, po⟩ := trPlaces (v4 t ht)
  exact ⟨fun p hp => places_mem pi p hp, fun p hp => places_mem po p hp⟩
theorem edgesN_lt {n : Net} (hv : validB n = true) : ∀ e ∈ edgesN n, e.1 < vertsN n ∧ e.2 < vertsN n := by
  obtain ⟨⟨s1, s2⟩, k1, k2⟩ := insideOk hv
  intro e he
  unfold vertsN
  rcases edgesN_mem.1 he with ⟨i, t, ht, h⟩ | h | h
  · have hi := (List.getElem?_eq_some_iff.1 ht).1
    obtain ⟨h1, h2⟩ := place_in hv (List.mem_of_getElem? ht)
    rcases h with ⟨p, hp, rfl⟩ | ⟨p, hp, rfl⟩
    · have := h1 p hp; dsimp only; omega
    · have := h2 p hp; dsimp only; omega
  · subst h; dsimp only; omega
  · subst h; dsimp only; omega
section
variable {n : Net}
theorem rch_in (hv : validB n = true) {i : Nat} {t : Tr} (ht : n.trans[i]? = some t) {p : Int} (hp : p ∈ t.ins) : Rch (nextE (edgesN n)) p.toNat (n.places.toNat + i) :=
  Rch.one (nextE_mem.2 (edgesN_mem.2 (.inl ⟨i, t, ht, .inl ⟨p, hp, rfl⟩⟩)))
theorem rch_out (hv : validB n = true) {i : Nat} {t : Tr} (ht : n.trans[i]? = some t) {p : Int} (hp : p ∈ t.outs) : Rch (nextE (edgesN n)) (n.places.toNat + i) p.toNat :=
  Rch.one (nextE_mem.2 (edgesN_mem.2 (.inl ⟨i, t, ht, .inr ⟨p, hp, rfl⟩⟩)))
theorem reach_fwd (hv : validB n = true) {p : Int} (h : Reach (arcs false n) n.source p) : Rch (nextE (edgesN n)) n.source.toNat p.toNat := by
  refine h (fun x => Rch (nextE (edgesN n)) n.source.toNat x.toNat) (Rch.refl _) ?_
  intro t ht q hq hS r hr
  obtain ⟨u, hu, rfl⟩ := List.mem_map.1 ht
  obtain ⟨i, hi, rfl⟩ := List.mem_iff_getElem.1 hu
  have hx := List.getElem?_eq_getElem hi
  exact (hS.trans (rch_in hv hx hq)).trans (rch_out hv hx hr)
theorem reach_bwd (hv : validB n = true) {p : Int} (h : Reach (arcs true n) n.sink p) : Rch (nextE (edgesN n)) p.toNat n.sink.toNat := by
  refine h (fun x => Rch (nextE (edgesN n)) x.toNat n.sink.toNat) (Rch.refl _) ?_
  intro t ht q hq hS r hr
  obtain ⟨u, hu, rfl⟩ := List.mem_map.1 ht
  obtain ⟨i, hi, rfl⟩ := List.mem_iff_getElem.1 hu
  have hx := List.getElem?_eq_getElem hi
  exact ((rch_in hv hx hr).trans (rch_out hv hx hq)).trans hS
/-- Covered from both ends: each vertex leads to each other one. -/
theorem conn_of (hv : validB n = true) (hf : Covers n false) (hb : Covers n true) : ∀ x y, x < vertsN n → y < vertsN n → Rch (nextE (edgesN n)) x y := by
  obtain ⟨⟨s1, s2⟩, k1, k2⟩ := insideOk hv
  have hT : Rch (nextE (edgesN n)) n.sink.toNat (n.places.toNat + n.trans.length) := Rch.one (nextE_mem.2 (edgesN_mem.2 (.inr (.inl rfl))))
  have hT2 : Rch (nextE (edgesN n)) (n.places.toNat + n.trans.length) n.source.toNat := Rch.one (nextE_mem.2 (edgesN_mem.2 (.inr (.inr rfl))))
  have hto : ∀ x, x < vertsN n → Rch (nextE (edgesN n)) x n.sink.toNat := by
    intro x hx
    unfold vertsN at hx
    have hpl : ∀ k : Nat, k < n.places.toNat → Rch (nextE (edgesN n)) k n.sink.toNat := fun k hk => by
      have := reach_bwd hv (hb.1 k hk)
      simpa using this
    by_cases h1 : x < n.places.toNat
    · exact hpl x h1
    · by_cases h2 : x < n.places.toNat + n.trans.length
      · obtain ⟨i, rfl⟩ : ∃ i, x = n.places.toNat + i := ⟨x - n.places.toNat, by omega⟩
        have hi : i < n.trans.length := by omega
        have hx := List.getElem?_eq_getElem hi
        obtain ⟨q, hq, hr⟩ := hb.2 n.trans[i] (List.getElem_mem hi)
        exact (rch_out hv hx hq).trans (reach_bwd hv hr)
      · obtain rfl : x = n.places.toNat + n.trans.length := by omega
        exact hT2.trans (by have := hpl n.source.toNat (by omega); exact this)
  have hfrom : ∀ y, y < vertsN n → Rch (nextE (edgesN n)) n.source.toNat y := by
    intro y hy
    unfold vertsN at hy
    have hpl : ∀ k : Nat, k < n.places.toNat → Rch (nextE (edgesN n)) n.source.toNat k := fun k hk => by
      have := reach_fwd hv (hf.1 k hk)
      simpa using this
    by_cases h1 : y < n.places.toNat
    · exact hpl y h1
    · by_cases h2 : y < n.places.toNat + n.trans.length
      · obtain ⟨i, rfl⟩ : ∃ i, y = n.places.toNat + i := ⟨y - n.places.toNat, by omega⟩
        have hi : i < n.trans.length := by omega
        have hx := List.getElem?_eq_getElem hi
        obtain ⟨q, hq, hr⟩ := hf.2 n.trans[i] (List.getElem_mem hi)
        exact (reach_fwd hv hr).trans (rch_in hv hx hq)
      · obtain rfl : y = n.places.toNat + n.trans.length := by omega
        exact (hpl n.sink.toNat (by omega)).trans hT
  exact fun x y hx hy => ((hto x hx).trans (hT.trans hT2)).trans (hfrom y hy)
/-- What a vertex means, if the places mean S. -/
def Means (n : Net) (S : Int → Prop) (side : Tr → List Int) (x : Nat) : Prop := (x < n.places.toNat → S (x : Int)) ∧ ∀ i t, x = n.places.toNat + i → n.trans[i]? = some t → ∃ q ∈ side t, S q
theorem rch_keeps {next : Nat → List Nat} {M : Nat → Prop} (h : ∀ u, M u → ∀ v ∈ next u, M v) {x y : Nat} (hr : Rch next x y) : M x → M y := by
  induction hr with
  | refl => exact id
  | @step u v w hm _ ih => exact fun hu => ih (h u hu v hm)
theorem rch_back {next : Nat → List Nat} {M : Nat → Prop} (h : ∀ u, ∀ v ∈ next u, M v → M u) {x y : Nat} (hr : Rch next x y) : M y → M x := by
  induction hr with
  | refl => exact id
  | @step u v w hm _ ih => exact fun hw => h u v hm (ih hw)
theorem means_place {S : Int → Prop} {side : Tr → List Int} {p : Int} (h0 : 0 ≤ p) (h1 : p < n.places) : Means n S side p.toNat ↔ S p := by
  unfold Means
  constructor
  · intro h
    have := h.1 (by omega)
    rwa [show ((p.toNat : Nat) : Int) = p by omega] at this
  · intro h
    refine ⟨fun _ => by rwa [show ((p.toNat : Nat) : Int) = p by omega], fun i t e _ => ?_⟩
    omega
theorem means_trans {S : Int → Prop} {side : Tr → List Int} {i : Nat} {t : Tr} (ht : n.trans[i]? = some t) : Means n S side (n.places.toNat + i) ↔ ∃ q ∈ side t, S q := by
  unfold Means
  constructor
  · exact fun h => h.2 i t rfl ht
  · intro h
    refine ⟨fun h' => by omega, fun j u e hu => ?_⟩
    obtain rfl : i = j := by omega
    rw [ht] at hu
    injection hu with hu
    subst hu
    exact h
theorem means_last {S : Int → Prop} {side : Tr → List Int} : Means n S side (n.places.toNat + n.trans.length) :=
  ⟨fun h => by omega, fun i t e ht => by have := (List.getElem?_eq_some_iff.1 ht).1; omega⟩
theorem cover_fwd (hv : validB n = true) (hc : ∀ x y, x < vertsN n → y < vertsN n → Rch (nextE (edgesN n)) x y) : Covers n false := by
  obtain ⟨⟨s1, s2⟩, k1, k2⟩ := insideOk hv
  have key : ∀ (S : Int → Prop), S n.source → (∀ t ∈ arcs false n, ∀ q ∈ t.1, S q → ∀ r ∈ t.2, S r) → ∀ y, y < vertsN n → Means n S (·.ins) y := by
    intro S hS hcl y hy
    refine rch_keeps (M := Means n S (·.ins)) ?_ (hc n.source.toNat y (by unfold vertsN; omega) hy) ((means_place s1 s2).2 hS)
    intro u hu v hm
    rcases edgesN_mem.1 (nextE_mem.1 hm) with ⟨i, t, ht, h⟩ | h | h
    · obtain ⟨q1, q2⟩ := place_in hv (List.mem_of_getElem? ht)
      rcases h with ⟨p, hp, e⟩ | ⟨p, hp, e⟩
      · injection e with e1 e2
        subst e1 e2
        exact (means_trans ht).2 ⟨p, hp, (means_place (q1 p hp).1 (q1 p hp).2).1 hu⟩
      · injection e with e1 e2
        subst e1 e2
        obtain ⟨q, hq, hSq⟩ := (means_trans ht).1 hu
        exact (means_place (q2 p hp).1 (q2 p hp).2).2 (hcl (arcOf false t) (List.mem_map_of_mem (List.mem_of_getElem? ht)) q hq hSq p hp)
    · injection h with e1 e2
      subst e2
      exact means_last
    · injection h with e1 e2
      subst e2
      exact (means_place s1 s2).2 hS
  refine ⟨fun k hk S hS hcl => (key S hS hcl k (by unfold vertsN; omega)).1 hk, fun t ht => ?_⟩
  obtain ⟨i, hi, rfl⟩ := List.mem_iff_getElem.1 ht
  have h := key (Reach (arcs false n) n.source) (Reach.start _ _) (fun t ht q hq h r hr => Reach.step ht hq h hr) (n.places.toNat + i) (by unfold vertsN; omega)
  exact (means_trans (List.getElem?_eq_getElem hi)).1 h
theorem cover_bwd (hv : validB n = true) (hc : ∀ x y, x < vertsN n → y < vertsN n → Rch (nextE (edgesN n)) x y) : Covers n true := by
  obtain ⟨⟨s1, s2⟩, k1, k2⟩ := insideOk hv
  have key : ∀ (S : Int → Prop), S n.sink → (∀ t ∈ arcs true n, ∀ q ∈ t.1, S q → ∀ r ∈ t.2, S r) → ∀ y, y < vertsN n → Means n S (·.outs) y := by
    intro S hS hcl y hy
    refine rch_back (M := Means n S (·.outs)) ?_ (hc y n.sink.toNat hy (by unfold vertsN; omega)) ((means_place k1 k2).2 hS)
    intro u v hm hu
    rcases edgesN_mem.1 (nextE_mem.1 hm) with ⟨i, t, ht, h⟩ | h | h
    · obtain ⟨q1, q2⟩ := place_in hv (List.mem_of_getElem? ht)
      rcases h with ⟨p, hp, e⟩ | ⟨p, hp, e⟩
      · injection e with e1 e2
        subst e1 e2
        obtain ⟨q, hq, hSq⟩ := (means_trans ht).1 hu
        exact (means_place (q1 p hp).1 (q1 p hp).2).2 (hcl (arcOf true t) (List.mem_map_of_mem (List.mem_of_getElem? ht)) q hq hSq p hp)
      · injection e with e1 e2
        subst e1 e2
        exact (means_trans ht).2 ⟨p, hp, (means_place (q2 p hp).1 (q2 p hp).2).1 hu⟩
    · injection h with e1 e2
      subst e1
      exact (means_place k1 k2).2 hS
    · injection h with e1 e2
      subst e1
      exact means_last
  refine ⟨fun k hk S hS hcl => (key S hS hcl k (by unfold vertsN; omega)).1 hk, fun t ht => ?_⟩
  obtain ⟨i, hi, rfl⟩ := List.mem_iff_getElem.1 ht
  have h := key (Reach (arcs true n) n.sink) (Reach.start _ _) (fun t ht q hq h r hr => Reach.step ht hq h hr) (n.places.toNat + i) (by unfold vertsN; omega)
  exact (means_trans (List.getElem?_eq_getElem hi)).1 h
/-- The plain law. -/
theorem conn_law (hv : validB n = true) (hs : n.source ≠ n.sink) (hb : ∀ t ∈ n.trans, Bare n t) : workflowB n = decide ((visitTo (nextE (edgesN n)) (vertsN n) (vertsN n)).cc = 1) := by
  have hN : ∀ x, x < vertsN n → ∀ y ∈ nextE (edgesN n) x, y < vertsN n := fun x _ y hy => (edgesN_lt hv _ (nextE_mem.1 hy)).2
  have h1 := (visit_done hN).one hN (by unfold vertsN; omega)
  by_cases hc : ∀ x y, x < vertsN n → y < vertsN n → Rch (nextE (edgesN n)) x y
  · rw [workflow_yes ⟨hv, hs, hb, cover_fwd hv hc, cover_bwd hv hc⟩, decide_eq_true (h1.2 hc)]
  · rw [workflow_no (fun h => hc (conn_of hv h.2.2.2.1 h.2.2.2.2)), decide_eq_false (fun h => hc (h1.1 h))]
end
end Go.Proofs.YtlkkfkkhllijbaaDoor
