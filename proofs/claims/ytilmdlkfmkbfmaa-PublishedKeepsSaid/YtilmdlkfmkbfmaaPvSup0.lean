/- Facts for privacy.Suppress. -/
import Derived.Test.YtilmdlkfmkbfmaaPvAddM
import Derived.Sort.KeysCollected
set_option linter.all false
namespace Go.Proofs.Ytilmdlkfmkbfmaa
open Go.RowKit Go.Maps Go.WideMaps

theorem add_any {w : World} {q B0 g : Nat} {N : Nat → Nat} {B : List Vr} {bl : Nat → Option Nat} (h : WS w B0 g N B bl) (hn : NamesIn B) (h0 : ∀ u, 0 ≤ cnt B u) {u : Wd} {k : Int} (hu : u.length < 201) (hnu : Names u) (hk : 1 ≤ k) (hkb : cnt B u + k ≤ 4611686018427387904) {sv : Value} (hs : SlS (Lt B0) w sv u) (hB : B0 ≤ g) (hBw : B0 ≤ w.heap.size) (hN : N u.length < maxLen) (hq : Blk w q 59 #[.slice (some ⟨g, 0, none⟩) 201 201]) (hgq : g ≠ q) :
    Calls Try.prog 25 #[sv, .int .i64 k, .pointer (some ⟨q, 0, none⟩)] w fun e w' => e = .returned (.tuple #[]) ∧ ∃ bl', RetAdd g B0 N B bl bl' u k w w' := by
  cases hb : bl u.length with
  | none =>
    refine (add_none h hn h0 hu hnu hb hk hkb hs hB hBw hN hq hgq).mono fun e w' ⟨he, h1, h2⟩ => ⟨he, _, h1, fun j hj => updN_ne hj, fun b e => ?_, h2.mono fun b _ hb => .inl hb⟩
    rw [updN_same] at e
    injection e with e
    exact .inr (by omega)
  | some b =>
    refine (add_map h hn h0 hu hnu hb hk hkb hs hB hBw hN hq).mono fun e w' ⟨he, h1, h2⟩ => ⟨he, _, h1, fun j hj => rfl, fun b' e => .inl e, h2.mono fun b' _ hb' => .inr (by rw [hb, hb'])⟩
theorem RetAdd.below {w0 w w' : World} {q B0 g : Nat} {N : Nat → Nat} {B : List Vr} {bl bl' : Nat → Option Nat} {u : Wd} {k : Int} (h : RetAdd g B0 N B bl bl' u k w w') (hws : WS w B0 g N B bl) (hu : u.length < 201) (hb : Below w0.heap.size w0 w) (hg : w0.heap.size ≤ g) : Below w0.heap.size w0 w' :=
  hb.trans (h.chg.below hb.size (fun i hi hs => by
    rcases hs with hs | hs
    · omega
    · have := (hws.map u.length i hu hs).1
      omega))
theorem RetAdd.blk {w w' : World} {q t B0 g : Nat} {cs : Array Value} {N : Nat → Nat} {B : List Vr} {bl bl' : Nat → Option Nat} {u : Wd} {k : Int} (h : RetAdd g B0 N B bl bl' u k w w') (hws : WS w B0 g N B bl) (hu : u.length < 201) (hq : Blk w q t cs) (hgq : g ≠ q) : Blk w' q t cs :=
  hq.chg h.chg (fun hs => by
    rcases hs with hs | hs
    · exact hgq hs.symm
    · obtain ⟨_, n, _, D, ⟨es, clock, g1, _⟩, _⟩ := hws.map u.length q hu hs
      have := hq.symm.trans g1
      injection this with this
      cases this)
/-- A row of entries is no map, and not the row of the maps. -/
theorem RetAdd.own {w w' : World} {B0 g base : Nat} {D : Nat → Prop} {N : Nat → Nat} {B : List Vr} {bl bl' : Nat → Option Nat} {u : Wd} {k : Int} {v : Value} {xs : List Vr} (h : RetAdd g B0 N B bl bl' u k w w') (hws : WS w B0 g N B bl) (hu : u.length < 201) (ho : OwnV 62 w base D v xs) (hD : ∀ b, D b → b < B0) (hB : B0 ≤ g) : OwnV 62 w' base D v xs := by
  have hgl := hws.lt
  refine ho.keep (fun o hv => ?_) (fun b hb => h.chg.block b (by have := hD b hb; omega) (fun hs => ?_))
  · have hol := (ho.lt o hv).2
    refine h.chg.block o hol (fun hs => ?_)
    obtain ⟨ps, _, ⟨_, h1⟩, _⟩ := ho
    rcases h1 with ⟨rfl, _⟩ | ⟨o', cap, cur, rfl, _, hh, _⟩
    · cases hv
    · injection hv with hv
      have hv : o' = o := hv
      subst hv
      rcases hs with hs | hs
      · obtain ⟨cs, hg, _⟩ := hws.blk
        rw [hs] at hh
        have := hh.symm.trans hg
        injection this with this
        injection this with _ this
        exact absurd this (by decide)
      · obtain ⟨_, n, _, D', ⟨es, clock, g1, _⟩, _⟩ := hws.map u.length o' hu hs
        have := hh.symm.trans g1
        injection this with this
        cases this
  · have := hD b hb
    rcases hs with hs | hs
    · omega
    · have := (hws.map u.length b hu hs).1
      omega
/-! ### what is right -/
structure RightOk (l : List Vr) : Prop where
  len : l.length ≤ 300
  each : ∀ x ∈ l, x.acts.length ≤ 200 ∧ 1 ≤ x.n ∧ x.n ≤ 1048576 ∧ Names x.acts
  order : ∀ (i : Nat) x y, l[i]? = some x → l[i + 1]? = some y → cmpW x.acts y.acts < 0
theorem right_ok {l : List Vr} (h : rightB l = true) : RightOk l := by
  unfold rightB at h
  rw [Bool.and_eq_true, List.all_eq_true] at h
  obtain ⟨h1, h2⟩ := h
  have h3 : ∀ (i : Nat) x, l[i]? = some x → entB x = true ∧ ordB l i x = true := fun i x hx => by
    have := h2 i (List.mem_range.2 (List.getElem?_eq_some_iff.1 hx).1)
    rw [entAt_eq hx, Bool.and_eq_true] at this
    exact this
  refine ⟨of_decide_eq_true h1, fun x hx => ?_, fun i x y hx hy => ?_⟩
  · obtain ⟨i, hi, rfl⟩ := List.mem_iff_getElem.1 hx
    have h4 := (h3 i _ (List.getElem?_eq_getElem hi)).1
    unfold entB at h4
    simp only [Bool.and_eq_true, decide_eq_true_eq, Bool.not_eq_true'] at h4
    obtain ⟨⟨⟨a1, a2⟩, a3⟩, a4⟩ := h4
    refine ⟨a1, a2, a3, fun s hs => ?_⟩
    rw [List.any_eq_false] at a4
    simpa using a4 s hs
  · have h4 := (h3 (i + 1) y hy).2
    rw [ordB_succ l i y x hx] at h4
    exact of_decide_eq_true h4
theorem RightOk.pos {l : List Vr} (h : RightOk l) : Pos l := fun x hx => (h.each x hx).2.1
theorem RightOk.good {l : List Vr} (h : RightOk l) : Good ⟨[], l⟩ := ⟨h.pos, fun x hx => (h.each x hx).2.2.2⟩
theorem tot_le {M : Int} (hM : 0 ≤ M) : ∀ l : List Vr, (∀ x ∈ l, x.n ≤ M) → tot l ≤ M * (l.length : Int)
  | [], _ => by show (0 : Int) ≤ _; simp
  | x :: l, h => by
    have h1 := tot_le hM l (fun y hy => h y (List.mem_cons_of_mem _ hy))
    have h2 := h x List.mem_cons_self
    unfold tot at h1 ⊢
    rw [totW_cons, List.length_cons, Int.natCast_succ, Int.mul_add]
    unfold one1
    have e : totW (fun _ => 1) l = totW one1 l := rfl
    rw [e]
    omega
theorem cnt_le {B : List Vr} (h : Pos B) (u : Wd) : cnt B u ≤ tot B := by
  unfold cnt tot
  have h1 := totW_filter one1 (fun x => decide (x.acts = u)) B
  have h2 := totW_nonneg (f := one1) (fun _ => by unfold one1; omega) (B.filter fun x => !decide (x.acts = u)) (fun x hx => by have := h x (List.mem_filter.1 hx).1; omega)
  omega
theorem tot_take {l : List Vr} (h : Pos l) (i : Nat) : tot (l.take i) ≤ tot l := by
  have h1 := totW_append one1 (l.take i) (l.drop i)
  rw [List.take_append_drop] at h1
  have h2 := totW_nonneg (f := one1) (fun _ => by unfold one1; omega) (l.drop i) (fun x hx => by have := h x (List.mem_of_mem_drop hx); omega)
  unfold tot
  omega
theorem RightOk.tot {l : List Vr} (h : RightOk l) : tot l ≤ 314572800 := by
  have h1 := tot_le (M := 1048576) (by omega) l (fun x hx => (h.each x hx).2.2.1)
  have h2 := h.len
  have h3 : (1048576 : Int) * (l.length : Int) ≤ 1048576 * 300 := Int.mul_le_mul_of_nonneg_left (by omega) (by omega)
  omega
theorem take_pos {l : List Vr} (h : Pos l) (i : Nat) : Pos (l.take i) := fun x hx => h x (List.mem_of_mem_take hx)
/-- What is counted so far of a length. -/
theorem cnt_upTo {B : List Vr} (h : Pos B) {L : Nat} {u : Wd} (hu : u.length ≤ L) : cnt B u ≤ totW one1 (upTo L B) := by
  have e : cnt B u = cnt (upTo L B) u := by
    unfold cnt upTo
    rw [List.filter_filter]
    congr 1
    apply List.filter_congr
    intro x _
    by_cases hx : x.acts = u
    · subst hx; simp [hu]
    · simp [hx]
  rw [e]
  exact cnt_le (fun x hx => h x (List.mem_filter.1 hx).1) u
end Go.Proofs.Ytilmdlkfmkbfmaa
