/- The counters of the search for strong components stay small; its loops step by step. No program in sight. -/
import Derived.Test.YtlkkfkkhllijbaaDoorTarjan
namespace Go.Proofs.YtlkkfkkhllijbaaDoor

section
variable {next : Nat → List Nat} {N : Nat}
/-- The counters of a state between two steps. -/
structure Cnt (N : Nat) (s : TS) : Prop where
  li : s.index.length = N
  ct : s.count + unvis N s ≤ N
  cc : s.cc ≤ s.count
theorem unvis_same {s s' : TS} (h : s'.index = s.index) : unvis N s' = unvis N s := by
  unfold unvis TS.ix; rw [h]
theorem enter_cnt {s : TS} {v : Nat} (h : Cnt N s) (hv : v < N) (h0 : s.ix v = 0) : Cnt N (s.enter v) ∧ (s.enter v).cc + 1 ≤ (s.enter v).count := by
  have h1 : (s.enter v).ix v = s.count + 1 := getD_set_self (by rw [h.li]; exact hv)
  have h2 : unvis N (s.enter v) < unvis N s := unvis_lt hv h0 (by rw [h1]; omega) (fun x hx hx0 => by
    by_cases e : x = v
    · subst e; rw [h1]; omega
    · have : (s.enter v).ix x = s.ix x := getD_set_ne (Ne.symm e)
      rw [this]; exact hx0)
  have h3 := h.ct
  have h4 := h.cc
  refine ⟨⟨by show (s.index.set v _).length = N; rw [List.length_set]; exact h.li, ?_, ?_⟩, ?_⟩
  · show s.count + 1 + _ ≤ N; omega
  · show s.cc ≤ s.count + 1; omega
  · show s.cc + 1 ≤ s.count + 1; omega
theorem visit_cnt (hN : ∀ x, x < N → ∀ y ∈ next x, y < N) : ∀ (f v : Nat) (s : TS), Cnt N s → v < N → s.ix v = 0 → Cnt N (visit next f v s) ∧ (visit next f v s).cc + s.count ≤ (visit next f v s).count + s.cc ∧ s.count ≤ (visit next f v s).count := by
  intro f
  induction f with
  | zero => intro v s h _ _; exact ⟨h, by show s.cc + s.count ≤ s.count + s.cc; omega, Nat.le_refl _⟩
  | succ f ih =>
    intro v s h hv h0
    rw [visit]
    have h1 := (enter_cnt h hv h0).1
    have key : ∀ (ws : List Nat) (x : TS), (∀ w ∈ ws, w ∈ next v) → Cnt N x → Cnt N (ws.foldl (edgeF (visit next f) v) x) ∧ (ws.foldl (edgeF (visit next f) v) x).cc + x.count ≤ (ws.foldl (edgeF (visit next f) v) x).count + x.cc ∧ x.count ≤ (ws.foldl (edgeF (visit next f) v) x).count := by
      intro ws
      induction ws with
      | nil => intro x _ hx; exact ⟨hx, by rw [List.foldl_nil]; omega, Nat.le_refl _⟩
      | cons w ws ihw =>
        intro x hws hx
        rw [List.foldl_cons]
        have h2 : Cnt N (edgeF (visit next f) v x w) ∧ (edgeF (visit next f) v x w).cc + x.count ≤ (edgeF (visit next f) v x w).count + x.cc ∧ x.count ≤ (edgeF (visit next f) v x w).count := by
          unfold edgeF
          split
          · rename_i hw0
            obtain ⟨a, b, c⟩ := ih w x hx (hN v hv w (hws w (by simp))) hw0
            exact ⟨⟨a.li, a.ct, a.cc⟩, b, c⟩
          · split
            · exact ⟨⟨hx.li, hx.ct, hx.cc⟩, by show x.cc + x.count ≤ x.count + x.cc; omega, Nat.le_refl _⟩
            · exact ⟨hx, by omega, Nat.le_refl _⟩
        obtain ⟨a, b, c⟩ := h2
        obtain ⟨a', b', c'⟩ := ihw _ (fun y hy => hws y (by simp [hy])) a
        exact ⟨a', by omega, by omega⟩
    obtain ⟨a, b, c⟩ := key (next v) (s.enter v) (fun w hw => hw) h1
    have e1 : (s.enter v).count = s.count + 1 := rfl
    have e2 : (s.enter v).cc = s.cc := rfl
    rw [e1, e2] at b
    rw [e1] at c
    generalize (next v).foldl (edgeF (visit next f) v) (s.enter v) = x at *
    have hcc := h.cc
    unfold TS.finish
    split
    · exact ⟨a, by omega, by omega⟩
    · refine ⟨⟨a.li, a.ct, ?_⟩, ?_, ?_⟩
      · show x.cc + 1 ≤ x.count; omega
      · show x.cc + 1 + s.count ≤ x.count + s.cc; omega
      · show s.count ≤ x.count; omega
theorem init_cnt : Cnt N (TS.init N) := ⟨List.length_replicate, by have := unvis_all (N := N) (TS.init N); show 0 + _ ≤ N; omega, Nat.le_refl _⟩
theorem visitTo_cnt (hN : ∀ x, x < N → ∀ y ∈ next x, y < N) : ∀ k, k ≤ N → Cnt N (visitTo next N k) := by
  intro k
  induction k with
  | zero => intro _; exact init_cnt
  | succ k ih =>
    intro hk
    have h := ih (by omega)
    rw [visitTo]
    split
    · rename_i h0; exact (visit_cnt hN N k _ h (by omega) h0).1
    · exact h
/-- The state after the first edges of a vertex. -/
def edgesTo (next : Nat → List Nat) (f v : Nat) (s : TS) (k : Nat) : TS := ((next v).take k).foldl (edgeF (visit next f) v) (s.enter v)
theorem edges_zero (f v : Nat) (s : TS) : edgesTo next f v s 0 = s.enter v := rfl
theorem edges_succ {f v : Nat} {s : TS} {k w : Nat} (h : (next v)[k]? = some w) : edgesTo next f v s (k + 1) = edgeF (visit next f) v (edgesTo next f v s k) w := by
  unfold edgesTo
  rw [List.take_add_one, h, List.foldl_append]; rfl
theorem edges_all {f v : Nat} {s : TS} {k : Nat} (h : (next v).length ≤ k) : visit next (f + 1) v s = (edgesTo next f v s k).finish v := by
  unfold edgesTo
  rw [List.take_of_length_le h]; rfl
/-- What holds on the way through the edges. -/
theorem edges_loop (hN : ∀ x, x < N → ∀ y ∈ next x, y < N) {f v : Nat} {s : TS} (h : TInv next N s) (hc : Cnt N s) (hv : v < N) (h0 : s.ix v = 0) (hu : unvis N s ≤ f + 1) :
    ∀ k, k ≤ (next v).length → TLoop next N v s (edgesTo next f v s k) ((next v).take k) ∧ Cnt N (edgesTo next f v s k) ∧ unvis N (edgesTo next f v s k) ≤ f ∧ (edgesTo next f v s k).cc + 1 ≤ (edgesTo next f v s k).count := by
  intro k
  induction k with
  | zero =>
    intro _
    have h1 := enter_loop (next := next) h hv h0
    have h2 := enter_cnt hc hv h0
    rw [edges_zero]
    refine ⟨by simpa using h1, h2.1, ?_, h2.2⟩
    have h2 : unvis N (s.enter v) < unvis N s := unvis_lt hv h0 (by rw [h1.vx]; omega) (fun y hy hy0 => by rw [h1.ix y hy hy0]; exact hy0)
    omega
  | succ k ih =>
    intro hk
    obtain ⟨a, b, c, d⟩ := ih (by omega)
    have hw := List.getElem?_eq_getElem (show k < (next v).length by omega)
    have hm := List.mem_of_getElem? hw
    generalize (next v)[k] = w at hw hm
    rw [edges_succ hw, List.take_add_one, hw]
    generalize edgesTo next f v s k = x at *
    have hr : x.ix w = 0 → TPost next N w x (visit next f w x) := fun hw0 => visit_post hN f w x a.inv (hN v hv w hm) hw0 c
    have hl := edge_loop hN h hv hm a hr
    refine ⟨hl, ?_, ?_, ?_⟩
    · unfold edgeF
      split
      · rename_i hw0
        have := (visit_cnt hN f w x b (hN v hv w hm) hw0).1
        exact ⟨this.li, this.ct, this.cc⟩
      · split
        · exact ⟨b.li, b.ct, b.cc⟩
        · exact b
    · have h2 : unvis N (edgeF (visit next f) v x w) < unvis N s := unvis_lt hv h0 (by rw [hl.vx]; omega) (fun y hy hy0 => by rw [hl.ix y hy hy0]; exact hy0)
      omega
    · unfold edgeF
      split
      · rename_i hw0
        obtain ⟨_, h1, h2⟩ := visit_cnt hN f w x b (hN v hv w hm) hw0
        show (visit next f w x).cc + 1 ≤ (visit next f w x).count
        omega
      · split
        · exact d
        · exact d
end
end Go.Proofs.YtlkkfkkhllijbaaDoor
