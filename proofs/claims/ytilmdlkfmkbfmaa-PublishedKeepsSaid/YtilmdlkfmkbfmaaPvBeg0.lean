/- The beginnings of words with their counts. -/
import Derived.Test.YtilmdlkfmkbfmaaPvSup
set_option linter.all false
namespace Go.Proofs.Ytilmdlkfmkbfmaa
open Go.RowKit Go.Maps Go.WideMaps

def presTo (x : Vr) (m : Nat) : List Vr := (List.range m).map fun j => ⟨x.acts.take j, x.n⟩
def pres (x : Vr) : List Vr := presTo x (x.acts.length + 1)
def allp (l : List Vr) : List Vr := l.flatMap pres
def preW (p : Wd) : Wd → Int := fun u => if u.take p.length = p then 1 else 0
def lenW : Wd → Int := fun u => (u.length : Int)
theorem presTo_succ (x : Vr) (m : Nat) : presTo x (m + 1) = presTo x m ++ [⟨x.acts.take m, x.n⟩] := by
  unfold presTo; rw [List.range_succ, List.map_append]; rfl
theorem presTo_len (x : Vr) (m : Nat) : (presTo x m).length = m := by unfold presTo; rw [List.length_map, List.length_range]
theorem cnt_presTo (x : Vr) (p : Wd) : ∀ m, m ≤ x.acts.length + 1 → cnt (presTo x m) p = if p.length < m ∧ x.acts.take p.length = p then x.n else 0
  | 0, _ => by rw [if_neg (by omega)]; rfl
  | m + 1, h => by
    rw [presTo_succ, cnt_append, cnt_presTo x p m (by omega), cnt_cons, cnt_nil]
    show _ + ((if x.acts.take m = p then x.n else 0) + 0) = _
    by_cases e : x.acts.take m = p
    · have hl : p.length = m := by rw [← e, List.length_take]; omega
      have e2 : x.acts.take p.length = p := by rw [hl]; exact e
      rw [if_pos e, if_neg (fun h => by omega), if_pos ⟨by omega, e2⟩]; omega
    · rw [if_neg e]
      by_cases e2 : p.length < m ∧ x.acts.take p.length = p
      · rw [if_pos e2, if_pos ⟨by omega, e2.2⟩]; omega
      · rw [if_neg e2, if_neg (fun h => ?_)]
        · rfl
        · by_cases h3 : p.length = m
          · rw [← h3] at e; exact e h.2
          · exact e2 ⟨by omega, h.2⟩
theorem cnt_pres (x : Vr) (p : Wd) : cnt (pres x) p = x.n * preW p x.acts := by
  unfold pres
  rw [cnt_presTo x p _ (Nat.le_refl _)]
  unfold preW
  by_cases e : x.acts.take p.length = p
  · have hl := congrArg List.length e
    rw [List.length_take] at hl
    rw [if_pos ⟨by omega, e⟩, if_pos e, Int.mul_one]
  · rw [if_neg (fun h => e h.2), if_neg e, Int.mul_zero]
theorem allp_cons (x : Vr) (l : List Vr) : allp (x :: l) = pres x ++ allp l := rfl
theorem allp_append (l m : List Vr) : allp (l ++ m) = allp l ++ allp m := by unfold allp; rw [List.flatMap_append]
theorem cnt_allp (p : Wd) : ∀ l, cnt (allp l) p = totW (preW p) l
  | [] => rfl
  | x :: l => by rw [allp_cons, cnt_append, cnt_pres, cnt_allp p l, totW_cons]
theorem preW_nonneg (p : Wd) : ∀ u, 0 ≤ preW p u := fun u => by unfold preW; split <;> omega
theorem preW_drop (p : Wd) : ∀ u : Wd, preW p u.dropLast ≤ preW p u := fun u => by
  unfold preW
  by_cases e : u.dropLast.take p.length = p
  · have hl := congrArg List.length e
    rw [List.length_take, List.length_dropLast] at hl
    have e2 : u.take p.length = p := by
      rw [List.dropLast_eq_take, List.take_take] at e
      rw [show min p.length (u.length - 1) = p.length by omega] at e
      exact e
    rw [if_pos e, if_pos e2]; exact Int.le_refl _
  · rw [if_neg e]; split <;> omega
theorem lenW_nonneg : ∀ u, 0 ≤ lenW u := fun u => by unfold lenW; omega
theorem lenW_drop : ∀ u : Wd, lenW u.dropLast ≤ lenW u := fun u => by unfold lenW; rw [List.length_dropLast]; omega
theorem allp_len : ∀ l : List Vr, (∀ x ∈ l, x.acts.length ≤ 200) → (allp l).length ≤ 201 * l.length
  | [], _ => Nat.zero_le _
  | x :: l, h => by
    have h1 := allp_len l (fun y hy => h y (List.mem_cons_of_mem _ hy))
    have h2 := h x List.mem_cons_self
    rw [allp_cons, List.length_append, List.length_cons]
    unfold pres
    rw [presTo_len]
    omega
theorem presTo_mem {x y : Vr} {m : Nat} (h : y ∈ presTo x m) : ∃ j, y = ⟨x.acts.take j, x.n⟩ := by
  obtain ⟨j, _, rfl⟩ := List.mem_map.1 h
  exact ⟨j, rfl⟩
structure PreOk (C : List Vr) : Prop where
  pos : Pos C
  names : ∀ x ∈ C, Names x.acts
  small : ∀ x ∈ C, x.n ≤ 1048576
theorem PreOk.nil : PreOk [] := ⟨by intro x hx; simp at hx, by simp, by simp⟩
theorem PreOk.append {C E : List Vr} (h : PreOk C) (g : PreOk E) : PreOk (C ++ E) :=
  ⟨fun x hx => (List.mem_append.1 hx).elim (h.pos x) (g.pos x), fun x hx => (List.mem_append.1 hx).elim (h.names x) (g.names x), fun x hx => (List.mem_append.1 hx).elim (h.small x) (g.small x)⟩
theorem PreOk.pres {x : Vr} (h1 : 1 ≤ x.n) (h2 : x.n ≤ 1048576) (h3 : Names x.acts) (m : Nat) : PreOk (presTo x m) :=
  ⟨fun y hy => by obtain ⟨j, rfl⟩ := presTo_mem hy; exact h1, fun y hy => by obtain ⟨j, rfl⟩ := presTo_mem hy; exact fun a ha => h3 a (List.mem_of_mem_take ha), fun y hy => by obtain ⟨j, rfl⟩ := presTo_mem hy; exact h2⟩
theorem PreOk.allp : ∀ l : List Vr, (∀ x ∈ l, 1 ≤ x.n ∧ x.n ≤ 1048576 ∧ Names x.acts) → PreOk (allp l)
  | [], _ => PreOk.nil
  | x :: l, h => by
    obtain ⟨h1, h2, h3⟩ := h x List.mem_cons_self
    exact (PreOk.pres h1 h2 h3 _).append (PreOk.allp l fun y hy => h y (List.mem_cons_of_mem _ hy))
theorem PreOk.cnt_le {C : List Vr} (h : PreOk C) {m : Nat} (hm : C.length ≤ m) (u : Wd) : cnt C u ≤ 1048576 * (m : Int) := by
  have h1 := Go.Proofs.Ytilmdlkfmkbfmaa.cnt_le h.pos u
  have h2 := tot_le (M := 1048576) (by omega) C h.small
  have h3 : (1048576 : Int) * (C.length : Int) ≤ 1048576 * (m : Int) := Int.mul_le_mul_of_nonneg_left (Int.ofNat_le.2 hm) (by decide)
  exact Int.le_trans h1 (Int.le_trans h2 h3)
/-! ### the map of beginnings -/
def MapI (w : World) (b n : Nat) (C : List Vr) : Prop := ∃ D : DataW Value, w.ownsMap Try.prog 9 RH b n D ∧ IsMap D ∧ (∀ x, has D (.string x) = true ↔ ∃ u : Wd, 0 < cnt C u ∧ keyB u = x) ∧
  ∀ u : Wd, 0 < cnt C u → ∀ zd, D.atKey (.string (keyB u)) zd = .held (.int .i64 (cnt C u))
theorem MapI.lt {w : World} {b n : Nat} {C : List Vr} (h : MapI w b n C) : b < w.heap.size := by obtain ⟨D, h, _⟩ := h; exact h.lt
theorem MapI.made (w : World) : MapI (w.alloc (.map #[] 0)) w.heap.size 0 [] :=
  ⟨.map [], World.ownsMap_made w _ _ _, isMap_empty, fun x => ⟨fun e => by simp [has_eq] at e, fun ⟨u, h1, _⟩ => by rw [cnt_nil] at h1; omega⟩, fun u h1 => by rw [cnt_nil] at h1; omega⟩
theorem MapI.keep {w w' : World} {b n : Nat} {C : List Vr} (h : MapI w b n C) (hb : w'.heap[b]? = w.heap[b]?) : MapI w' b n C := by
  obtain ⟨D, ⟨es, clock, g1, g2⟩, h2, h3, h4⟩ := h
  exact ⟨D, ⟨es, clock, hb.trans g1, g2⟩, h2, h3, h4⟩
theorem MapI.now {w w' : World} {b n : Nat} {C : List Vr} (h : MapI w b n C) (hb : Below w.heap.size w w') : MapI w' b n C := h.keep (hb.block b h.lt)
theorem zeroInt (w : World) : (zeroValue 3).run Try.prog w = .ok (.int .i64 0) w := by kernel_rfl
theorem MapI.look {w : World} {b n : Nat} {C : List Vr} (h : MapI w b n C) (hC : PreOk C) {u : Wd} (hnu : Names u) (hl : u.length ≤ 1000) :
    (Instr.lookup 70 (.map (some b)) (.string (keyS u)) false).run Try.prog w = .ok (.int .i64 (cnt C u)) w := by
  obtain ⟨D, h1, h2, h3, h4⟩ := h
  obtain ⟨v, ps, hrun, hv⟩ := h1.lookup (string_keyed Try.underlying9) Try.underlying70 (zeroInt w) (zd := .held (.int .i64 0)) (zp := []) rfl (keyOf_string_mk Try.underlying9 (keyS_size u hnu hl))
  have hv : DataW.held v = _ := congrArg Prod.fst (Option.some.inj hv)
  rw [keyS_toList] at hv
  by_cases hc : 0 < cnt C u
  · rw [h4 u hc] at hv
    rw [hrun, DataW.held.inj hv]
  · have hno : has D (.string (keyB u)) = false := by
      rw [Bool.eq_false_iff]
      intro e
      obtain ⟨u', g2, g3⟩ := (h3 _).1 e
      have := keyB_inj u' u (namesIn_of hC.pos hC.names u' g2) hnu g3
      subst this
      exact hc g2
    rw [atKey_of_not_has hno] at hv
    have hv := DataW.held.inj hv
    have hz : cnt C u = 0 := by have := cnt_nonneg hC.pos u; omega
    rw [hrun, hv, hz]
theorem MapI.put {w : World} {b n : Nat} {C : List Vr} (h : MapI w b n C) (hC : PreOk C) {u : Wd} {k : Int} (hnu : Names u) (hl : u.length ≤ 1000) (hk : 1 ≤ k) (hm : n < maxLen) :
    ∃ w', (Instr.mapUpdate 70 (.map (some b)) (.string (keyS u)) (.int .i64 (cnt C u + k))).run Try.prog w = .ok () w' ∧ MapI w' b (n + 1) (C ++ [⟨u, k⟩]) ∧ w.grownBy w' (some b) := by
  obtain ⟨D, h1, h2, h3, h4⟩ := h
  obtain ⟨w', hrun, r1, r2⟩ := h1.update (string_keyed Try.underlying9) Try.underlying70 hm (keyOf_string_mk Try.underlying9 (keyS_size u hnu hl)) (val := .int .i64 (cnt C u + k)) (d := .held (.int .i64 (cnt C u + k))) (ps := []) rfl
  rw [keyS_toList] at r1
  have hcu : cnt (C ++ [⟨u, k⟩]) u = cnt C u + k := by rw [cnt_append, cnt_cons, if_pos rfl, cnt_nil]; show cnt C u + (k + 0) = _; omega
  have hu0 := cnt_nonneg hC.pos u
  have hn := namesIn_of hC.pos hC.names
  refine ⟨w', hrun, ⟨_, r1, h2.put _ _, fun x => ?_, fun v hp zd => ?_⟩, r2⟩
  · by_cases e : x = keyB u
    · subst e
      rw [has_put_same h2 (by simp [WideAt.IsKeyLit])]
      exact ⟨fun _ => ⟨u, by rw [hcu]; omega, rfl⟩, fun _ => rfl⟩
    · rw [has_put_other (by simpa using e), h3]
      constructor
      · rintro ⟨v, g2, g3⟩
        have hne : v ≠ u := fun e' => e (by rw [← g3, e'])
        exact ⟨v, by rw [cnt_other hne]; exact g2, g3⟩
      · rintro ⟨v, g2, g3⟩
        have hne : v ≠ u := fun e' => e (by rw [← g3, e'])
        exact ⟨v, by rw [← cnt_other hne]; exact g2, g3⟩
  · by_cases e : v = u
    · subst e
      rw [hcu]; exact atKey_put_same h2 (by simp [WideAt.IsKeyLit]) _ _
    · rw [cnt_other e] at hp ⊢
      have hkne : keyB v ≠ keyB u := fun e' => e (keyB_inj v u (hn v hp) hnu e')
      rw [atKey_put_other (by simpa using hkne)]; exact h4 v hp zd
end Go.Proofs.Ytilmdlkfmkbfmaa
