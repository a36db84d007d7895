/- Facts for the loops of privacy.Suppress: levels step by step; what lies in memory meanwhile. -/
import Derived.Test.YtilmdlkfmkbfmaaPvSup0
import Derived.Test.YtilmdlkfmkbfmaaOwnF
import Derived.Sort.OwnSorted
set_option linter.all false
namespace Go.Proofs.Ytilmdlkfmkbfmaa
open Go.RowKit Go.Maps Go.WideMaps

theorem Sl.take_ {α : Type} {size : Nat} {R : ElemR α} {D : Nat → Prop} {w : World} {A : Option Addr} {n c k : Nat} {xs : List α} (h : Sl size R D w (.slice A n c) xs) (hk : k ≤ xs.length) : Sl size R D w (.slice A k c) (xs.take k) := by
  obtain ⟨A', c', hv, h1, h2, h3⟩ := h
  injection hv with e1 e2 e3
  subst e1 e3
  refine ⟨A, c, by rw [List.length_take, Nat.min_eq_left hk], by rw [List.length_take]; omega, h2, fun i x hx => h3 i x ?_⟩
  rw [List.getElem?_take] at hx
  split at hx
  · exact hx
  · cases hx

/-! ### a level, word by word -/
theorem bag_append (B : List Vr) (ps qs : List Wd) : bag B (ps ++ qs) = bag B ps ++ bag B qs := List.map_append
theorem Lvl.start (k : Int) (M : Nat) (s : St) : Lvl k M s s [] :=
  ⟨List.nodup_nil, by simp, by simp [bag], by simp⟩
section
variable {k : Int} {M : Nat} {s si : St} {ps : List Wd} {u : Wd}
theorem Lvl.nodup_add (h : Lvl k M s si ps) (hnew : u ∉ ps) : (ps ++ [u]).Nodup :=
  List.nodup_append.2 ⟨h.nodup, by simp, fun a ha b hb e => by simp at hb; subst hb; exact hnew (e ▸ ha)⟩
theorem Lvl.mem_add (h : Lvl k M s si ps) (hu : u.length = M) (hp : 0 < cnt s.B u) : ∀ v ∈ ps ++ [u], v.length = M ∧ 0 < cnt s.B v := fun v hv => by
  rcases List.mem_append.1 hv with hv | hv
  · exact h.mem v hv
  · simp at hv; subst hv; exact ⟨hu, hp⟩
theorem Lvl.step_keep (h : Lvl k M s si ps) (hu : u.length = M) (hp : 0 < cnt s.B u) (hnew : u ∉ ps) (hk : k ≤ cnt s.B u) : Lvl k M s ⟨si.out ++ [⟨u, cnt s.B u⟩], si.B⟩ (ps ++ [u]) := by
  refine ⟨h.nodup_add hnew, h.mem_add hu hp, ?_, ?_⟩
  · rw [List.filter_append, List.filter_cons_of_pos (by simpa using hk), List.filter_nil, bag_append, ← List.append_assoc, ← h.out]; rfl
  · rw [List.filter_append, List.filter_cons_of_neg (by simp [hk]), List.filter_nil, List.append_nil]; exact h.rest
theorem Lvl.step_fall (h : Lvl k M s si ps) (hu : u.length = M) (hp : 0 < cnt s.B u) (hnew : u ∉ ps) (hk : ¬ k ≤ cnt s.B u) (hM : 0 < M) : Lvl k M s ⟨si.out, si.B ++ [⟨u.dropLast, cnt s.B u⟩]⟩ (ps ++ [u]) := by
  refine ⟨h.nodup_add hnew, h.mem_add hu hp, ?_, ?_⟩
  · rw [List.filter_append, List.filter_cons_of_neg (by simp [hk]), List.filter_nil, List.append_nil]; exact h.out
  · rw [List.filter_append, List.filter_cons_of_pos (by simp [hk]), List.filter_nil]
    show si.B ++ _ = _
    rw [h.rest, if_pos hM, if_pos hM, List.map_append, List.append_assoc]; rfl
theorem Lvl.step_lose (h : Lvl k M s si ps) (hu : u.length = M) (hp : 0 < cnt s.B u) (hnew : u ∉ ps) (hk : ¬ k ≤ cnt s.B u) (hM : ¬ 0 < M) : Lvl k M s si (ps ++ [u]) := by
  refine ⟨h.nodup_add hnew, h.mem_add hu hp, ?_, ?_⟩
  · rw [List.filter_append, List.filter_cons_of_neg (by simp [hk]), List.filter_nil, List.append_nil]; exact h.out
  · rw [h.rest, if_neg hM, if_neg hM]
end
/-! ### all levels -/
def RunF (k : Int) : Nat → St → St → Prop
  | 0, s, s' => s' = s
  | L + 1, s, s' => Run k L s s'
theorem RunF.step {k : Int} {M : Nat} {s m s' : St} {ps : List Wd} (h : Lvl k M s m ps) (hf : Full M s ps) (hr : RunF k M m s') : RunF k (M + 1) s s' := by
  cases M with
  | zero => obtain rfl : s' = m := hr; exact ⟨ps, h, hf⟩
  | succ j => exact ⟨m, ps, h, hf, hr⟩
structure SupI (k : Int) (l : List Vr) (L : Nat) (s : St) : Prop where
  run : ∀ s', RunF k L s s' → Run k 200 ⟨[], l⟩ s'
  good : Good s
  ok : OutOk k L s
  tot : totW one1 s.out + totW one1 (low L s.B) ≤ 314572800
  many : s.out.length + (low L s.B).length ≤ 300
  short : ∀ x ∈ s.out, x.acts.length ≤ 200
theorem one1_nonneg : ∀ u, 0 ≤ one1 u := fun _ => by unfold one1; omega
theorem one1_drop : ∀ u : Wd, one1 u.dropLast ≤ one1 u := fun _ => Int.le_refl _
theorem SupI.start {k : Int} {l : List Vr} (h : RightOk l) : SupI k l 201 ⟨[], l⟩ := by
  refine ⟨fun s' h => h, h.good, ⟨by simp, by simp⟩, ?_, ?_, by simp⟩
  · have h1 := totW_filter one1 (fun x : Vr => decide (x.acts.length < 201)) l
    have h2 := totW_nonneg (f := one1) one1_nonneg (l.filter fun x => !decide (x.acts.length < 201)) (fun x hx => by have := h.pos x (List.mem_filter.1 hx).1; omega)
    have h3 := h.tot
    unfold Go.Proofs.Ytilmdlkfmkbfmaa.tot at h3
    unfold low
    show totW one1 [] + _ ≤ _
    rw [totW_nil]
    show 0 + totW one1 (l.filter fun x => decide (x.acts.length < 201)) ≤ _
    omega
  · have h1 := List.length_filter_le (fun x : Vr => decide (x.acts.length < 201)) l
    have h2 := h.len
    show 0 + (l.filter _).length ≤ 300
    omega
theorem SupI.mid {k : Int} {l : List Vr} {M : Nat} {s si : St} {ps : List Wd} (h : SupI k l (M + 1) s) (hl : Lvl k M s si ps) : Good si ∧ OutOk k M si ∧ totW one1 si.out + totW one1 (low M si.B) ≤ 314572800 ∧ si.out.length + (low M si.B).length ≤ 300 ∧ ps.length ≤ 300 := by
  have h1 := hl.weigh h.good one1_nonneg one1_drop
  have h2 := hl.many h.good
  have h3 := h.tot
  have h4 := h.many
  rw [low_succ] at h3 h4
  have h5 : (atLen M s.B).length ≤ (upTo M s.B).length := by rw [upTo_two]; omega
  exact ⟨hl.good h.good, hl.outOk h.good h.ok, by omega, by omega, by omega⟩
theorem SupI.next {k : Int} {l : List Vr} {M : Nat} {s si : St} {ps : List Wd} (h : SupI k l (M + 1) s) (hl : Lvl k M s si ps) (hf : Full M s ps) (hM : M ≤ 200) : SupI k l M si := by
  obtain ⟨h1, h2, h3, h4, _⟩ := h.mid hl
  refine ⟨fun s' hr => h.run s' (hr.step hl hf), h1, h2, h3, h4, fun x hx => ?_⟩
  rw [hl.out] at hx
  rcases List.mem_append.1 hx with hx | hx
  · exact h.short x hx
  · obtain ⟨u, hu, rfl⟩ := List.mem_map.1 hx
    have h5 := (hl.mem u (List.mem_filter.1 hu).1).1
    show u.length ≤ 200
    omega
/-- The counts of a level. -/
theorem SupI.cnt_le {k : Int} {l : List Vr} {M : Nat} {s : St} (h : SupI k l (M + 1) s) (hk : 1 ≤ k) {u : Wd} (hu : u.length = M) : cnt s.B u ≤ 314572800 := by
  have h1 := cnt_upTo h.good.pos (L := M) (u := u) (by omega)
  have h2 := h.tot
  rw [low_succ] at h2
  have h3 := totW_nonneg (f := one1) one1_nonneg s.out (fun x hx => by have := (h.ok.each x hx).2.1; omega)
  omega
theorem SupI.fall_le {k : Int} {l : List Vr} {M : Nat} {s si : St} {ps : List Wd} (h : SupI k l (M + 1) s) (hl : Lvl k M s si ps) (hk : 1 ≤ k) {u : Wd} (hu : u.length < M) : cnt si.B u ≤ 314572800 := by
  obtain ⟨h1, h2, h3, h4, _⟩ := h.mid hl
  obtain ⟨j, rfl⟩ : ∃ j, M = j + 1 := ⟨M - 1, by omega⟩
  have h5 := cnt_upTo h1.pos (L := j) (u := u) (by omega)
  rw [low_succ] at h3
  have h6 := totW_nonneg (f := one1) one1_nonneg si.out (fun x hx => by have := (h2.each x hx).2.1; omega)
  omega
/-- What is counted at this level stays. -/
theorem Lvl.cnt_same {k : Int} {M : Nat} {s si : St} {ps : List Wd} (h : Lvl k M s si ps) {u : Wd} (hu : u.length = M) : cnt si.B u = cnt s.B u := by
  rw [h.rest, cnt_append]
  have : cnt (if 0 < M then (ps.filter fun u => !decide (k ≤ cnt s.B u)).map fun u => (⟨u.dropLast, cnt s.B u⟩ : Vr) else []) u = 0 := by
    split
    · rename_i hM
      unfold cnt
      rw [List.filter_eq_nil_iff.2]
      · rfl
      · intro x hx
        obtain ⟨v, hv, rfl⟩ := List.mem_map.1 hx
        have h1 := (h.mem v (List.mem_filter.1 hv).1).1
        simp only [decide_eq_true_eq]
        intro e
        rw [← e, List.length_dropLast] at hu
        omega
    · rfl
  omega
/-! ### memory -/
structure SupB (w0 : World) (B0 g q c : Nat) (B out : List Vr) (ov : Value) (bl : Nat → Option Nat) (w : World) : Prop where
  ws : ∃ N, (∀ j, N j ≤ c) ∧ WS w B0 g N B bl
  own : OwnV 62 w w0.heap.size (Lt B0) ov out
  blk : Blk w q 59 #[.slice (some ⟨g, 0, none⟩) 201 201]
  below : Below w0.heap.size w0 w
theorem own_cells {t : TypeId} {w : World} {base : Nat} {D : Nat → Prop} {v : Value} {xs : List Vr} (h : OwnV t w base D v xs) : ∀ g, v.ownBlock = some g → ∃ cur, w.heap[g]? = some (.cells cur t (0, 0)) := fun g hg => by
  obtain ⟨ps, _, ⟨_, h1⟩, _⟩ := h
  rcases h1 with ⟨rfl, _⟩ | ⟨o', cap, cur, rfl, _, hh, _⟩
  · cases hg
  · injection hg with hg
    have hg : o' = g := hg
    subst hg
    exact ⟨cur, hh⟩
theorem WS.map_at {w : World} {B0 g : Nat} {N : Nat → Nat} {B : List Vr} {bl : Nat → Option Nat} (h : WS w B0 g N B bl) {j b : Nat} (hj : j < 201) (hb : bl j = some b) : ∃ es clock, w.heap[b]? = some (.map es clock) := by
  obtain ⟨_, n, _, D, ⟨es, clock, g1, _⟩, _⟩ := h.map j b hj hb
  exact ⟨es, clock, g1⟩
section
variable {w0 w w' : World} {B0 g q c : Nat} {B out : List Vr} {ov : Value} {bl : Nat → Option Nat}
theorem SupB.now (h : SupB w0 B0 g q c B out ov bl w) (hB : B0 ≤ w0.heap.size) (hb : Below w.heap.size w w') : SupB w0 B0 g q c B out ov bl w' := by
  obtain ⟨N, h1, h2⟩ := h.ws
  have hBw : B0 ≤ w.heap.size := Nat.le_trans hB h.below.size
  exact ⟨⟨N, h1, h2.now hb hBw⟩, h.own.now hb (fun b hb' => Nat.lt_of_lt_of_le hb' hBw), h.blk.now hb, h.below.trans (hb.mono h.below.size)⟩
/-- An iterator is written. -/
theorem SupB.one {r : Nat} (h : SupB w0 B0 g q c B out ov bl w) (hB : B0 ≤ w0.heap.size) (hr : ∃ m s e c, w.heap[r]? = some (.mapIter m s e c)) (hr0 : w0.heap.size ≤ r) (hg : w.grownBy w' (some r)) : SupB w0 B0 g q c B out ov bl w' := by
  obtain ⟨N, h1, h2⟩ := h.ws
  have hBw : B0 ≤ w.heap.size := Nat.le_trans hB h.below.size
  obtain ⟨m, s, e, c', hrr⟩ := hr
  have hne : ∀ b o, w.heap[b]? = some o → (∀ m s e c, o ≠ Obj.mapIter m s e c) → w'.heap[b]? = w.heap[b]? := fun b o hb ho => hg.block b (Array.getElem?_eq_some_iff.1 hb).1 (fun e => by
    injection e with e
    rw [e, hrr] at hb
    injection hb with hb
    exact ho _ _ _ _ hb.symm)
  have hs : Same (Lt B0) w w' := fun b hb => hg.block b (Nat.lt_of_lt_of_le hb hBw) (fun e => by injection e with e; have hb' : b < B0 := hb; omega)
  refine ⟨⟨N, h1, h2.keep ?_ ?_ hs⟩, h.own.keep (fun b hb => ?_) hs, ?_, h.below.trans (below_of_grown hg h.below.size (fun g e => by injection e with e; omega))⟩
  · obtain ⟨cs, k1, _⟩ := h2.blk
    exact hne _ _ k1 (by intros; simp)
  · intro j b hj hb
    obtain ⟨es, cl, k1⟩ := h2.map_at hj hb
    exact hne _ _ k1 (by intros; simp)
  · obtain ⟨cur, k1⟩ := own_cells h.own b hb
    exact hne _ _ k1 (by intros; simp)
  · exact (hne _ _ h.blk (by intros; simp)).trans h.blk
/-- A word is put to what is published. -/
theorem SupB.push {y : Vr} {ov' : Value} (h : SupB w0 B0 g q c B out ov bl w) (hB : B0 ≤ w0.heap.size) (ho : OwnV 62 w' w0.heap.size (Lt B0) ov' (out ++ [y])) (hg : w.grownBy w' ov.ownBlock) : SupB w0 B0 g q c B (out ++ [y]) ov' bl w' := by
  obtain ⟨N, h1, h2⟩ := h.ws
  have hBw : B0 ≤ w.heap.size := Nat.le_trans hB h.below.size
  have hne : ∀ b o, w.heap[b]? = some o → (∀ cur, o ≠ Obj.cells cur 62 (0, 0)) → w'.heap[b]? = w.heap[b]? := fun b o hb hno => hg.block b (Array.getElem?_eq_some_iff.1 hb).1 (fun e => by
    obtain ⟨cur, k1⟩ := own_cells h.own b e.symm
    rw [k1] at hb
    injection hb with hb
    exact hno _ hb.symm)
  have hs : Same (Lt B0) w w' := fun b hb => hg.block b (Nat.lt_of_lt_of_le hb hBw) (fun e => by have h3 := (h.own.lt b e.symm).1; have hb' : b < B0 := hb; omega)
  refine ⟨⟨N, h1, h2.keep ?_ ?_ hs⟩, ho, ?_, ?_⟩
  · obtain ⟨cs, k1, _⟩ := h2.blk
    exact hne _ _ k1 (fun cur e => by injection e with _ e; exact absurd e (by decide))
  · intro j b hj hb
    obtain ⟨es, cl, k1⟩ := h2.map_at hj hb
    exact hne _ _ k1 (by intros; simp)
  · exact (hne _ _ h.blk (fun cur e => by injection e with _ e; exact absurd e (by decide))).trans h.blk
  · exact h.below.trans (below_of_grown hg h.below.size (fun g e => (h.own.lt g e).1))
/-- A word is counted. -/
theorem SupB.add {u : Wd} {k : Int} {N : Nat → Nat} {bl' : Nat → Option Nat} (h : SupB w0 B0 g q c B out ov bl w) (hB : B0 ≤ w0.heap.size) (hg0 : w0.heap.size ≤ g) (hgq : g ≠ q) (hu : u.length < 201) (h1 : ∀ j, N j ≤ c) (h2 : WS w B0 g N B bl) (hr : RetAdd g B0 N B bl bl' u k w w') : SupB w0 B0 g q (c + 1) (B ++ [⟨u, k⟩]) out ov bl' w' := by
  refine ⟨⟨_, fun j => ?_, hr.ws⟩, hr.own h2 hu h.own (fun b hb => hb) (by omega), hr.blk h2 hu h.blk hgq, hr.below (q := q) h2 hu h.below hg0⟩
  by_cases hj : j = u.length
  · subst hj; rw [updN_same]; have := h1 u.length; omega
  · rw [updN_ne hj]; have := h1 j; omega
end
end Go.Proofs.Ytilmdlkfmkbfmaa
