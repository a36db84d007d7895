/- The maps of words with counts, by the length of the words. -/
import Derived.Test.YtilmdlkfmkbfmaaPvKey
import Derived.Maps.Own
import Derived.Maps.Views
import Derived.Maps.RangeWalk
set_option linter.all false
namespace Go.Proofs.Ytilmdlkfmkbfmaa
open Go.RowKit Go.Maps Go.WideMaps

def RH : Value → Option (DataW Value × List MemPlace) := fun v => some (.held v, [])
def entV (sv : Value) (n : Int) : Value := .agg #[sv, .int .i64 n]
/-- Block b is a map that holds the words of length L with their counts. -/
def MapB (w : World) (B0 b n L : Nat) (B : List Vr) : Prop := ∃ D : DataW Value, w.ownsMap Try.prog 9 RH b n D ∧ IsMap D ∧ (∀ x, has D (.string x) = true ↔ ∃ u : Wd, u.length = L ∧ 0 < cnt B u ∧ keyB u = x) ∧
  ∀ u : Wd, u.length = L → 0 < cnt B u → ∃ sv, (∀ zd, D.atKey (.string (keyB u)) zd = .held (entV sv (cnt B u))) ∧ SlS (Lt B0) w sv u
theorem MapB.lt {w : World} {B0 b n L : Nat} {B : List Vr} (h : MapB w B0 b n L B) : b < w.heap.size := by obtain ⟨D, h, _⟩ := h; exact h.lt
theorem MapB.made {w : World} {B0 L : Nat} {B : List Vr} (h : ∀ u : Wd, u.length = L → ¬ 0 < cnt B u) : MapB (w.alloc (.map #[] 0)) B0 w.heap.size 0 L B :=
  ⟨.map [], World.ownsMap_made w _ _ _, isMap_empty, fun x => ⟨fun e => by simp [has_eq] at e, fun ⟨u, h1, h2, _⟩ => absurd h2 (h u h1)⟩, fun u h1 h2 => absurd h2 (h u h1)⟩
theorem MapB.keep {w w' : World} {B0 b n L : Nat} {B : List Vr} (h : MapB w B0 b n L B) (hb : w'.heap[b]? = w.heap[b]?) (hs : Same (Lt B0) w w') : MapB w' B0 b n L B := by
  obtain ⟨D, ⟨es, clock, g1, g2⟩, h2, h3, h4⟩ := h
  refine ⟨D, ⟨es, clock, hb.trans g1, g2⟩, h2, h3, fun u hu hc => ?_⟩
  obtain ⟨sv, k1, k2⟩ := h4 u hu hc
  exact ⟨sv, k1, Sl.keep k2 RStr.kept (fun _ => id) hs⟩
theorem MapB.cnt_same {w : World} {B0 b n L : Nat} {B B' : List Vr} (h : MapB w B0 b n L B) (hc : ∀ u : Wd, u.length = L → cnt B' u = cnt B u) : MapB w B0 b n L B' := by
  obtain ⟨D, h1, h2, h3, h4⟩ := h
  refine ⟨D, h1, h2, fun x => ?_, fun u hu hp => ?_⟩
  · rw [h3]
    constructor
    · rintro ⟨u, hu, hp, hx⟩; exact ⟨u, hu, by rw [hc u hu]; exact hp, hx⟩
    · rintro ⟨u, hu, hp, hx⟩; exact ⟨u, hu, by rw [← hc u hu]; exact hp, hx⟩
  · rw [hc u hu] at hp
    obtain ⟨sv, k1, k2⟩ := h4 u hu hp
    exact ⟨sv, by rw [hc u hu]; exact k1, k2⟩
def NamesIn (B : List Vr) : Prop := ∀ u, 0 < cnt B u → Names u
theorem zeroEnt (w : World) : (zeroValue 62).run Try.prog w = .ok (entV (.slice none 0 0) 0) w := by kernel_rfl
theorem MapB.look {w : World} {B0 b n L : Nat} {B : List Vr} (h : MapB w B0 b n L B) (hn : NamesIn B) (h0 : ∀ u, 0 ≤ cnt B u) {u : Wd} (hu : u.length = L) (hnu : Names u) (hl : u.length ≤ 1000) :
    ∃ A n c, (Instr.lookup 60 (.map (some b)) (.string (keyS u)) false).run Try.prog w = .ok (entV (.slice A n c) (cnt B u)) w := by
  obtain ⟨D, h1, h2, h3, h4⟩ := h
  obtain ⟨v, ps, hrun, hv⟩ := h1.lookup (string_keyed Try.underlying9) Try.underlying60 (zeroEnt w) (zd := .held (entV (.slice none 0 0) 0)) (zp := []) rfl (keyOf_string_mk Try.underlying9 (keyS_size u hnu hl))
  unfold RH at hv
  injection hv with hv
  injection hv with hv _
  rw [keyS_toList] at hv
  by_cases hc : 0 < cnt B u
  · obtain ⟨sv, k1, A, c, rfl, _⟩ := h4 u hu hc
    rw [k1] at hv
    injection hv with hv
    exact ⟨A, _, c, by rw [hrun, hv]⟩
  · have hno : has D (.string (keyB u)) = false := by
      rw [Bool.eq_false_iff]
      intro e
      obtain ⟨u', g1, g2, g3⟩ := (h3 _).1 e
      have := keyB_inj u' u (hn u' g2) hnu g3
      subst this
      exact hc g2
    rw [atKey_of_not_has hno] at hv
    injection hv with hv
    have hz : cnt B u = 0 := by have := h0 u; omega
    exact ⟨none, 0, 0, by rw [hrun, hv, hz]⟩
theorem MapB.put {w : World} {B0 b n L : Nat} {B : List Vr} (h : MapB w B0 b n L B) (hn : NamesIn B) (h0 : ∀ u, 0 ≤ cnt B u) {u : Wd} {k : Int} (hu : u.length = L) (hnu : Names u) (hl : u.length ≤ 1000) (hk : 1 ≤ k) {sv : Value} (hs : SlS (Lt B0) w sv u) (hb : B0 ≤ b) (hm : n < maxLen) :
    ∃ w', (Instr.mapUpdate 60 (.map (some b)) (.string (keyS u)) (entV sv (cnt B u + k))).run Try.prog w = .ok () w' ∧ MapB w' B0 b (n + 1) L (B ++ [⟨u, k⟩]) ∧ w.grownBy w' (some b) := by
  obtain ⟨D, h1, h2, h3, h4⟩ := h
  obtain ⟨w', hrun, r1, r2⟩ := h1.update (string_keyed Try.underlying9) Try.underlying60 hm (keyOf_string_mk Try.underlying9 (keyS_size u hnu hl)) (val := entV sv (cnt B u + k)) (d := .held (entV sv (cnt B u + k))) (ps := []) rfl
  rw [keyS_toList] at r1
  have hlt := h1.lt
  have hsm : Same (Lt B0) w w' := fun j hj => r2.block j (Nat.lt_trans (Nat.lt_of_lt_of_le hj hb) hlt) (fun e => by injection e with e; have hj' : j < B0 := hj; omega)
  have hcu : cnt (B ++ [⟨u, k⟩]) u = cnt B u + k := by rw [cnt_append, cnt_cons, if_pos rfl, cnt_nil]; show cnt B u + (k + 0) = _; omega
  have hco : ∀ v, v ≠ u → cnt (B ++ [⟨u, k⟩]) v = cnt B v := fun v hv => by rw [cnt_append, cnt_cons, if_neg (fun e => hv e.symm), cnt_nil]; omega
  have hu0 := h0 u
  refine ⟨w', hrun, ⟨_, r1, h2.put _ _, fun x => ?_, fun v hv hp => ?_⟩, r2⟩
  · by_cases e : x = keyB u
    · subst e
      rw [has_put_same h2 (by simp [WideAt.IsKeyLit])]
      exact ⟨fun _ => ⟨u, hu, by rw [hcu]; omega, rfl⟩, fun _ => rfl⟩
    · rw [has_put_other (by simpa using e), h3]
      constructor
      · rintro ⟨v, g1, g2, g3⟩
        have hne : v ≠ u := fun e' => e (by rw [← g3, e'])
        exact ⟨v, g1, by rw [hco v hne]; exact g2, g3⟩
      · rintro ⟨v, g1, g2, g3⟩
        have hne : v ≠ u := fun e' => e (by rw [← g3, e'])
        exact ⟨v, g1, by rw [← hco v hne]; exact g2, g3⟩
  · by_cases e : v = u
    · subst e
      exact ⟨sv, fun zd => by rw [hcu]; exact atKey_put_same h2 (by simp [WideAt.IsKeyLit]) _ _, Sl.keep hs RStr.kept (fun _ => id) hsm⟩
    · rw [hco v e] at hp ⊢
      obtain ⟨s2, k1, k2⟩ := h4 v hv hp
      have hkne : keyB v ≠ keyB u := fun e' => e (keyB_inj v u (hn v hp) hnu e')
      exact ⟨s2, fun zd => by rw [atKey_put_other (by simpa using hkne)]; exact k1 zd, Sl.keep k2 RStr.kept (fun _ => id) hsm⟩
theorem namesIn_of {B : List Vr} (hp : Pos B) (h : ∀ x ∈ B, Names x.acts) : NamesIn B := fun u hu => by
  obtain ⟨x, hx, e⟩ := (cnt_pos hp).1 hu
  rw [← e]; exact h x hx
theorem cnt_other {B : List Vr} {u v : Wd} {k : Int} (h : v ≠ u) : cnt (B ++ [⟨u, k⟩]) v = cnt B v := by rw [cnt_append, cnt_cons, if_neg (fun e => h e.symm), cnt_nil]; omega
/-- Block g holds a map for each length from 0 to 200, or none. -/
structure WS (w : World) (B0 g : Nat) (N : Nat → Nat) (B : List Vr) (bl : Nat → Option Nat) : Prop where
  blk : ∃ cs : Array Value, Blk w g 60 cs ∧ cs.size = 201 ∧ ∀ j, j < 201 → cs[j]? = some (.map (bl j))
  none : ∀ j, j < 201 → bl j = none → ∀ u : Wd, u.length = j → ¬ 0 < cnt B u
  map : ∀ j b, j < 201 → bl j = some b → g < b ∧ ∃ n, n ≤ N j ∧ MapB w B0 b n j B
  inj : ∀ i j b, i < 201 → j < 201 → bl i = some b → bl j = some b → i = j
theorem WS.cell {w : World} {B0 g : Nat} {N : Nat → Nat} {B : List Vr} {bl : Nat → Option Nat} (h : WS w B0 g N B bl) {j : Nat} (hj : j < 201) : w.cell? ⟨g, j, .none⟩ = some (.map (bl j)) := by
  obtain ⟨cs, h1, _, h3⟩ := h.blk
  rw [h1.cell]; exact h3 j hj
theorem WS.frozen {w : World} {B0 g : Nat} {N : Nat → Nat} {B : List Vr} {bl : Nat → Option Nat} (h : WS w B0 g N B bl) (j : Nat) : w.frozen? ⟨g, j, .none⟩ = false := by
  obtain ⟨cs, h1, _⟩ := h.blk; exact h1.frozen j
theorem WS.lt {w : World} {B0 g : Nat} {N : Nat → Nat} {B : List Vr} {bl : Nat → Option Nat} (h : WS w B0 g N B bl) : g < w.heap.size := by
  obtain ⟨cs, h1, _⟩ := h.blk; exact h1.lt
/-- Nothing of it has changed. -/
theorem WS.keep {w w' : World} {B0 g : Nat} {N : Nat → Nat} {B : List Vr} {bl : Nat → Option Nat} (h : WS w B0 g N B bl) (hg : w'.heap[g]? = w.heap[g]?) (hm : ∀ j b, j < 201 → bl j = some b → w'.heap[b]? = w.heap[b]?) (hs : Same (Lt B0) w w') : WS w' B0 g N B bl := by
  obtain ⟨⟨cs, h1, h2, h3⟩, h4, h5, h6⟩ := h
  refine ⟨⟨cs, hg.trans h1, h2, h3⟩, h4, fun j b hj hb => ?_, h6⟩
  obtain ⟨g1, n, g2, g3⟩ := h5 j b hj hb
  exact ⟨g1, n, g2, g3.keep (hm j b hj hb) hs⟩
theorem WS.now {w w' : World} {B0 g : Nat} {N : Nat → Nat} {B : List Vr} {bl : Nat → Option Nat} (h : WS w B0 g N B bl) (hb : Below w.heap.size w w') (hB : B0 ≤ w.heap.size) : WS w' B0 g N B bl :=
  h.keep (hb.block g h.lt) (fun j b hj e => by obtain ⟨_, n, _, g3⟩ := h.map j b hj e; exact hb.block b g3.lt) (fun b hb' => hb.block b (Nat.lt_of_lt_of_le hb' hB))
def updN {α : Type} (f : Nat → α) (j : Nat) (x : α) : Nat → α := fun i => if i = j then x else f i
theorem updN_same {α : Type} (f : Nat → α) (j : Nat) (x : α) : updN f j x j = x := if_pos rfl
theorem updN_ne {α : Type} {f : Nat → α} {i j : Nat} {x : α} (h : i ≠ j) : updN f j x i = f i := if_neg h
/-- A map is made for a length. -/
theorem WS.make {w : World} {B0 g j : Nat} {N : Nat → Nat} {B : List Vr} {bl : Nat → Option Nat} (h : WS w B0 g N B bl) (hj : j < 201) (hn : bl j = .none) (hB : B0 ≤ g) : WS ((w.alloc (.map #[] 0)).setCell ⟨g, j, .none⟩ (.map (some w.heap.size))) B0 g N B (updN bl j (some w.heap.size)) := by
  have hb1 := bone w (.map #[] 0)
  have hg := h.lt
  obtain ⟨⟨cs, h1, h2, h3⟩, h4, h5, h6⟩ := h
  have hlt : ∀ i b, i < 201 → bl i = some b → b < w.heap.size := fun i b hi e => by obtain ⟨_, n, _, g3⟩ := h5 i b hi e; exact g3.lt
  have hsame : ∀ b, b < w.heap.size → b ≠ g → ((w.alloc (.map #[] 0)).setCell ⟨g, j, .none⟩ (.map (some w.heap.size))).heap[b]? = w.heap[b]? := fun b hb hne => (Below.heap_setCell _ _ _ b hne).trans (hb1.block b hb)
  have hs0 : Same (Lt B0) w ((w.alloc (.map #[] 0)).setCell ⟨g, j, .none⟩ (.map (some w.heap.size))) := fun b hb => hsame b (by have hb' : b < B0 := hb; omega) (by have hb' : b < B0 := hb; omega)
  refine ⟨⟨cs.setIfInBounds j (.map (some w.heap.size)), (h1.now hb1).set_ j _, by simpa using h2, fun i hi => ?_⟩, fun i hi e u hu => ?_, fun i b hi e => ?_, fun i i' b hi hi' e e' => ?_⟩
  · rw [Array.getElem?_setIfInBounds]
    by_cases hij : j = i
    · subst hij; rw [if_pos rfl, if_pos (by omega), updN_same]
    · rw [if_neg hij, updN_ne (fun e => hij e.symm)]; exact h3 i hi
  · by_cases hij : i = j
    · subst hij; rw [updN_same] at e; cases e
    · rw [updN_ne hij] at e; exact h4 i hi e u hu
  · by_cases hij : i = j
    · subst hij
      rw [updN_same] at e
      injection e with e
      subst e
      refine ⟨hg, 0, Nat.zero_le _, (MapB.made (h4 i hi hn)).keep (Below.heap_setCell _ _ _ _ (Nat.ne_of_gt hg)) (fun b hb => Below.heap_setCell _ _ _ b (by have hb' : b < B0 := hb; show b ≠ g; omega))⟩
    · rw [updN_ne hij] at e
      obtain ⟨g1, n, g2, g3⟩ := h5 i b hi e
      exact ⟨g1, n, g2, g3.keep (hsame b (hlt i b hi e) (by omega)) hs0⟩
  · by_cases hij : i = j
    · subst hij
      rw [updN_same] at e
      injection e with e
      by_cases hij' : i' = i
      · exact hij'.symm
      · rw [updN_ne hij'] at e'
        have := hlt i' b hi' e'
        omega
    · rw [updN_ne hij] at e
      by_cases hij' : i' = j
      · subst hij'
        rw [updN_same] at e'
        injection e' with e'
        have := hlt i b hi e
        omega
      · rw [updN_ne hij'] at e'
        exact h6 i i' b hi hi' e e'
end Go.Proofs.Ytilmdlkfmkbfmaa
