/- Words with counts: what is left of variants, as plain data. No program in sight. -/
import Derived.Test.YtilmdlkfmkbfmaaOwn
import Derived.Test.YtilmdlkfmkbfmaaNames
set_option linter.all false
namespace Go.Proofs.Ytilmdlkfmkbfmaa
open Go.RowKit

abbrev Wd := List ByteArray
structure Vr where
  acts : Wd
  n : Int
/-! ### sums -/
def totW (f : Wd → Int) : List Vr → Int
  | [] => 0
  | x :: l => x.n * f x.acts + totW f l
theorem totW_nil (f : Wd → Int) : totW f [] = 0 := rfl
theorem totW_cons (f : Wd → Int) (x : Vr) (l : List Vr) : totW f (x :: l) = x.n * f x.acts + totW f l := rfl
def one1 : Wd → Int := fun _ => 1
def tot (l : List Vr) : Int := totW one1 l
theorem totW_append (f : Wd → Int) : ∀ l m, totW f (l ++ m) = totW f l + totW f m
  | [], m => by simp [totW]
  | x :: l, m => by rw [List.cons_append, totW_cons, totW_cons, totW_append f l m]; omega
theorem totW_nonneg {f : Wd → Int} (hf : ∀ u, 0 ≤ f u) : ∀ l : List Vr, (∀ x ∈ l, 0 ≤ x.n) → 0 ≤ totW f l
  | [], _ => Int.le_refl 0
  | x :: l, h => by
    rw [totW_cons]
    have h1 := Int.mul_nonneg (h x (List.mem_cons_self)) (hf x.acts)
    have h2 := totW_nonneg hf l (fun y hy => h y (List.mem_cons_of_mem _ hy))
    omega
theorem totW_filter (f : Wd → Int) (p : Vr → Bool) : ∀ l, totW f l = totW f (l.filter p) + totW f (l.filter fun x => !p x)
  | [] => by simp [totW]
  | x :: l => by
    have ih := totW_filter f p l
    by_cases h : p x = true
    · rw [List.filter_cons_of_pos h, List.filter_cons_of_neg (by simp [h])]; simp only [totW_cons]; omega
    · rw [List.filter_cons_of_neg h, List.filter_cons_of_pos (by simp [h])]; simp only [totW_cons]; omega
theorem totW_perm {f : Wd → Int} {l m : List Vr} (h : l.Perm m) : totW f l = totW f m := by
  induction h with
  | nil => rfl
  | cons x _ ih => rw [totW_cons, totW_cons, ih]
  | swap x y l => simp only [totW_cons]; omega
  | trans _ _ h1 h2 => rw [h1, h2]
/-- How often a word. -/
def cnt (B : List Vr) (u : Wd) : Int := tot (B.filter fun x => decide (x.acts = u))
theorem cnt_nil (u : Wd) : cnt [] u = 0 := rfl
theorem cnt_cons (x : Vr) (B : List Vr) (u : Wd) : cnt (x :: B) u = (if x.acts = u then x.n else 0) + cnt B u := by
  unfold cnt tot
  by_cases h : x.acts = u
  · rw [List.filter_cons_of_pos (by simpa using h), if_pos h, totW_cons]; unfold one1; omega
  · rw [List.filter_cons_of_neg (by simpa using h), if_neg h]; omega
theorem cnt_append (B C : List Vr) (u : Wd) : cnt (B ++ C) u = cnt B u + cnt C u := by
  unfold cnt tot; rw [List.filter_append, totW_append]
def Pos (B : List Vr) : Prop := ∀ x ∈ B, 1 ≤ x.n
theorem cnt_nonneg {B : List Vr} (h : Pos B) (u : Wd) : 0 ≤ cnt B u :=
  totW_nonneg (fun _ => by unfold one1; omega) _ (fun x hx => by have := h x (List.mem_filter.1 hx).1; omega)
theorem cnt_pos {B : List Vr} (h : Pos B) {u : Wd} : 0 < cnt B u ↔ ∃ x ∈ B, x.acts = u := by
  induction B with
  | nil => simp [cnt_nil]
  | cons x B ih =>
    have hB : Pos B := fun y hy => h y (List.mem_cons_of_mem _ hy)
    have h1 := h x (List.mem_cons_self)
    have h2 := cnt_nonneg hB u
    have h3 := ih hB
    rw [cnt_cons]
    by_cases e : x.acts = u
    · rw [if_pos e]
      exact ⟨fun _ => ⟨x, List.mem_cons_self, e⟩, fun _ => by omega⟩
    · rw [if_neg e, Int.zero_add, h3]
      exact ⟨fun ⟨y, hy, hyu⟩ => ⟨y, List.mem_cons_of_mem _ hy, hyu⟩, fun ⟨y, hy, hyu⟩ => by
        rcases List.mem_cons.1 hy with rfl | hy
        · exact absurd hyu e
        · exact ⟨y, hy, hyu⟩⟩
/-- A sum by its words. -/
def bag (B : List Vr) (ps : List Wd) : List Vr := ps.map fun u => ⟨u, cnt B u⟩
theorem bag_cons (B : List Vr) (u : Wd) (ps : List Wd) : bag B (u :: ps) = ⟨u, cnt B u⟩ :: bag B ps := rfl
theorem bag_out (f : Wd → Int) (x : Vr) (B : List Vr) : ∀ ps : List Wd, x.acts ∉ ps → totW f (bag (x :: B) ps) = totW f (bag B ps)
  | [], _ => rfl
  | u :: ps, h => by
    rw [bag_cons, bag_cons, totW_cons, totW_cons]
    have hne : x.acts ≠ u := fun e => h (by rw [e]; exact List.mem_cons_self)
    rw [bag_out f x B ps (fun hm => h (List.mem_cons_of_mem _ hm)), cnt_cons, if_neg hne, Int.zero_add]
theorem bag_in (f : Wd → Int) (x : Vr) (B : List Vr) : ∀ ps : List Wd, ps.Nodup → x.acts ∈ ps → totW f (bag (x :: B) ps) = totW f (bag B ps) + x.n * f x.acts
  | [], _, h => by simp at h
  | u :: ps, hn, h => by
    obtain ⟨h1, h2⟩ := List.nodup_cons.1 hn
    rw [bag_cons, bag_cons, totW_cons, totW_cons]
    by_cases e : x.acts = u
    · subst e
      rw [bag_out f x B ps h1, cnt_cons, if_pos rfl]
      show (x.n + cnt B x.acts) * f x.acts + _ = _
      rw [Int.add_mul]
      show x.n * f x.acts + cnt B x.acts * f x.acts + totW f (bag B ps) = cnt B x.acts * f x.acts + totW f (bag B ps) + x.n * f x.acts
      omega
    · rcases List.mem_cons.1 h with h | h
      · exact absurd h e
      · rw [bag_in f x B ps h2 h, cnt_cons, if_neg e, Int.zero_add]; omega
theorem tot_bag (f : Wd → Int) (ps : List Wd) (hn : ps.Nodup) : ∀ B : List Vr, (∀ x ∈ B, x.acts ∈ ps) → totW f (bag B ps) = totW f B
  | [], _ => by
    clear hn
    induction ps with
    | nil => rfl
    | cons u ps ih => rw [bag_cons, totW_cons, ih (by simp)]; show cnt [] u * _ + _ = _; rw [cnt_nil, Int.zero_mul]; rfl
  | x :: B, h => by
    rw [bag_in f x B ps hn (h x List.mem_cons_self), tot_bag f ps hn B (fun y hy => h y (List.mem_cons_of_mem _ hy))]
    show _ = x.n * f x.acts + totW f B
    omega
/-! ### one length of words -/
def atLen (L : Nat) (B : List Vr) : List Vr := B.filter fun x => decide (x.acts.length = L)
def upTo (L : Nat) (B : List Vr) : List Vr := B.filter fun x => decide (x.acts.length ≤ L)
theorem cnt_atLen (B : List Vr) {L : Nat} {u : Wd} (hu : u.length = L) : cnt (atLen L B) u = cnt B u := by
  unfold cnt atLen
  rw [List.filter_filter]
  congr 1
  apply List.filter_congr
  intro x _
  by_cases e : x.acts = u
  · subst e; simp [hu]
  · simp [e]
structure St where
  out : List Vr
  B : List Vr
/-- What some words of one length give: those that are often enough, and what goes to their beginnings. -/
structure Lvl (k : Int) (L : Nat) (s s' : St) (ps : List Wd) : Prop where
  nodup : ps.Nodup
  mem : ∀ u ∈ ps, u.length = L ∧ 0 < cnt s.B u
  out : s'.out = s.out ++ bag s.B (ps.filter fun u => decide (k ≤ cnt s.B u))
  rest : s'.B = s.B ++ if 0 < L then (ps.filter fun u => !decide (k ≤ cnt s.B u)).map fun u => ⟨u.dropLast, cnt s.B u⟩ else []
/-- All words of a length. -/
def Full (L : Nat) (s : St) (ps : List Wd) : Prop := ∀ u : Wd, u.length = L → 0 < cnt s.B u → u ∈ ps
def Run (k : Int) : Nat → St → St → Prop
  | 0, s, s' => ∃ ps, Lvl k 0 s s' ps ∧ Full 0 s ps
  | L + 1, s, s' => ∃ m ps, Lvl k (L + 1) s m ps ∧ Full (L + 1) s ps ∧ Run k L m s'
def Names (u : Wd) : Prop := ∀ a ∈ u, isNameB a = true
structure Good (s : St) : Prop where
  pos : Pos s.B
  names : ∀ x ∈ s.B, Names x.acts
def inB (ps : List Wd) (u : Wd) : Bool := ps.any fun v => decide (v = u)
theorem inB_iff {ps : List Wd} {u : Wd} : inB ps u = true ↔ u ∈ ps := by
  unfold inB; rw [List.any_eq_true]
  exact ⟨fun ⟨v, hv, e⟩ => of_decide_eq_true e ▸ hv, fun h => ⟨u, h, decide_eq_true rfl⟩⟩
theorem bag_le {f : Wd → Int} (hf0 : ∀ u, 0 ≤ f u) {ps : List Wd} (hn : ps.Nodup) {B : List Vr} (hB : Pos B) : totW f (bag B ps) ≤ totW f B := by
  have h1 := totW_filter f (fun x => inB ps x.acts) B
  have h2 := totW_nonneg hf0 (B.filter fun x => !inB ps x.acts) (fun x hx => by have := hB x (List.mem_filter.1 hx).1; omega)
  have h3 := tot_bag f ps hn (B.filter fun x => inB ps x.acts) (fun x hx => inB_iff.1 (List.mem_filter.1 hx).2)
  have h4 : bag (B.filter fun x => inB ps x.acts) ps = bag B ps := List.map_congr_left fun u hu => by
    congr 1
    unfold cnt
    rw [List.filter_filter]
    congr 1
    apply List.filter_congr
    intro x _
    by_cases e : x.acts = u
    · subst e; simp [inB_iff.2 hu]
    · simp [e]
  rw [h4] at h3
  omega
theorem Lvl.good {k : Int} {L : Nat} {s s' : St} {ps : List Wd} (h : Lvl k L s s' ps) (hg : Good s) : Good s' := by
  have key : ∀ x ∈ s'.B, x ∈ s.B ∨ ∃ u ∈ ps, x = ⟨u.dropLast, cnt s.B u⟩ := fun x hx => by
    rw [h.rest] at hx
    rcases List.mem_append.1 hx with hx | hx
    · exact .inl hx
    · split at hx
      · obtain ⟨u, hu, rfl⟩ := List.mem_map.1 hx
        exact .inr ⟨u, (List.mem_filter.1 hu).1, rfl⟩
      · simp at hx
  have hnm : ∀ u ∈ ps, Names u := fun u hu => by
    obtain ⟨x, hx, e⟩ := (cnt_pos hg.pos).1 (h.mem u hu).2
    rw [← e]; exact hg.names x hx
  refine ⟨fun x hx => ?_, fun x hx => ?_⟩
  · rcases key x hx with hx | ⟨u, hu, rfl⟩
    · exact hg.pos x hx
    · have := (h.mem u hu).2
      show 1 ≤ cnt s.B u
      omega
  · rcases key x hx with hx | ⟨u, hu, rfl⟩
    · exact hg.names x hx
    · exact fun a ha => hnm u hu a ((List.dropLast_sublist u).subset ha)
theorem bag_split (f : Wd → Int) (B : List Vr) (p : Wd → Bool) : ∀ ps : List Wd, totW f (bag B ps) = totW f (bag B (ps.filter p)) + totW f (bag B (ps.filter fun u => !p u))
  | [] => by simp [bag, totW]
  | u :: ps => by
    have ih := bag_split f B p ps
    by_cases h : p u = true
    · rw [List.filter_cons_of_pos h, List.filter_cons_of_neg (by simp [h]), bag_cons, bag_cons]; simp only [totW_cons]; omega
    · rw [List.filter_cons_of_neg h, List.filter_cons_of_pos (by simp [h]), bag_cons, bag_cons]; simp only [totW_cons]; omega
/-- What falls back to shorter words weighs no more. -/
theorem fall_le {f : Wd → Int} (B : List Vr) (h0 : ∀ u, 0 ≤ cnt B u) (hf : ∀ u : Wd, f u.dropLast ≤ f u) : ∀ ps : List Wd, totW f (ps.map fun u => ⟨u.dropLast, cnt B u⟩) ≤ totW f (bag B ps)
  | [] => Int.le_refl _
  | u :: ps => by
    rw [List.map_cons, bag_cons, totW_cons, totW_cons]
    have h1 := fall_le B h0 hf ps
    have h2 := Int.mul_le_mul_of_nonneg_left (hf u) (h0 u)
    show cnt B u * f u.dropLast + _ ≤ cnt B u * f u + _
    omega
def low (L : Nat) (B : List Vr) : List Vr := B.filter fun x => decide (x.acts.length < L)
theorem upTo_split (f : Wd → Int) (L : Nat) (B : List Vr) : totW f (upTo L B) = totW f (atLen L B) + totW f (low L B) := by
  rw [totW_filter f (fun x => decide (x.acts.length = L)) (upTo L B)]
  congr 1
  · unfold upTo atLen; rw [List.filter_filter]; congr 1; apply List.filter_congr; intro x _; by_cases h : x.acts.length = L <;> simp [h]
  · unfold upTo low; rw [List.filter_filter]; congr 1; apply List.filter_congr; intro x _
    rcases Nat.lt_trichotomy x.acts.length L with h | h | h
    · have h1 : x.acts.length ≠ L := by omega
      have h2 : x.acts.length ≤ L := by omega
      simp [h, h1, h2]
    · simp [h]
    · have h1 : ¬ x.acts.length < L := by omega
      have h2 : ¬ x.acts.length ≤ L := by omega
      simp [h1, h2]
theorem Lvl.weigh {k : Int} {L : Nat} {s s' : St} {ps : List Wd} {f : Wd → Int} (h : Lvl k L s s' ps) (hg : Good s) (hf0 : ∀ u, 0 ≤ f u) (hf : ∀ u : Wd, f u.dropLast ≤ f u) :
    totW f s'.out + totW f (low L s'.B) ≤ totW f s.out + totW f (upTo L s.B) := by
  rw [upTo_split]
  have hle := bag_le (f := f) hf0 h.nodup (B := atLen L s.B) (fun x hx => hg.pos x (List.mem_filter.1 hx).1)
  have hbag : bag (atLen L s.B) ps = bag s.B ps := List.map_congr_left fun u hu => by rw [cnt_atLen s.B (h.mem u hu).1]
  rw [hbag, bag_split f s.B (fun u => decide (k ≤ cnt s.B u))] at hle
  rw [h.out, totW_append, h.rest]
  unfold low
  rw [List.filter_append, totW_append]
  have hrest : totW f (List.filter (fun x => decide (x.acts.length < L)) (if 0 < L then (ps.filter fun u => !decide (k ≤ cnt s.B u)).map (fun u => (⟨u.dropLast, cnt s.B u⟩ : Vr)) else [])) ≤ totW f (bag s.B (ps.filter fun u => !decide (k ≤ cnt s.B u))) := by
    have h0 : 0 ≤ totW f (bag s.B (ps.filter fun u => !decide (k ≤ cnt s.B u))) := totW_nonneg hf0 _ (fun x hx => by
      obtain ⟨u, _, rfl⟩ := List.mem_map.1 hx
      exact cnt_nonneg hg.pos u)
    split
    · refine Int.le_trans ?_ (fall_le s.B (cnt_nonneg hg.pos) hf _)
      have hh := totW_filter f (fun x : Vr => decide (x.acts.length < L)) ((ps.filter fun u => !decide (k ≤ cnt s.B u)).map fun u => (⟨u.dropLast, cnt s.B u⟩ : Vr))
      have hp := totW_nonneg hf0 (List.filter (fun x : Vr => !decide (x.acts.length < L)) ((ps.filter fun u => !decide (k ≤ cnt s.B u)).map fun u => (⟨u.dropLast, cnt s.B u⟩ : Vr))) (fun x hx => by
        obtain ⟨u, _, rfl⟩ := List.mem_map.1 (List.mem_filter.1 hx).1
        exact cnt_nonneg hg.pos u)
      omega
    · exact h0
  omega
theorem low_succ (L : Nat) (B : List Vr) : low (L + 1) B = upTo L B := by
  unfold low upTo
  apply List.filter_congr
  intro x _
  rw [decide_eq_decide]
  omega
theorem low_zero (B : List Vr) : low 0 B = [] := by
  unfold low
  rw [List.filter_eq_nil_iff]
  intro x _; simp
/-- No weight is won. -/
theorem Run.weigh {k : Int} {f : Wd → Int} (hf0 : ∀ u, 0 ≤ f u) (hf : ∀ u : Wd, f u.dropLast ≤ f u) : ∀ (L : Nat) (s s' : St), Run k L s s' → Good s → totW f s'.out ≤ totW f s.out + totW f (upTo L s.B)
  | 0, s, s', ⟨ps, h, _⟩, hg => by
    have := h.weigh hg hf0 hf
    rw [low_zero] at this
    simpa [totW] using this
  | L + 1, s, s', ⟨m, ps, h, _, hr⟩, hg => by
    have h1 := h.weigh hg hf0 hf
    rw [low_succ] at h1
    have h2 := Run.weigh hf0 hf L m s' hr (h.good hg)
    omega
/-! ### what is published -/
structure OutOk (k : Int) (L : Nat) (s : St) : Prop where
  each : ∀ x ∈ s.out, L ≤ x.acts.length ∧ k ≤ x.n ∧ Names x.acts
  nodup : (s.out.map (·.acts)).Nodup
theorem bag_acts (B : List Vr) (ps : List Wd) : (bag B ps).map (·.acts) = ps := by
  unfold bag; rw [List.map_map]; exact List.map_id _
theorem Lvl.outOk {k : Int} {L : Nat} {s s' : St} {ps : List Wd} (h : Lvl k L s s' ps) (hg : Good s) (ho : OutOk k (L + 1) s) : OutOk k L s' := by
  refine ⟨fun x hx => ?_, ?_⟩
  · rw [h.out] at hx
    rcases List.mem_append.1 hx with hx | hx
    · obtain ⟨h1, h2, h3⟩ := ho.each x hx
      exact ⟨by omega, h2, h3⟩
    · obtain ⟨u, hu, rfl⟩ := List.mem_map.1 hx
      obtain ⟨h1, h2⟩ := List.mem_filter.1 hu
      obtain ⟨h3, h4⟩ := h.mem u h1
      refine ⟨Nat.le_of_eq h3.symm, of_decide_eq_true h2, ?_⟩
      obtain ⟨y, hy, e⟩ := (cnt_pos hg.pos).1 h4
      show Names u
      rw [← e]; exact hg.names y hy
  · rw [h.out, List.map_append, bag_acts]
    refine List.nodup_append.2 ⟨ho.nodup, h.nodup.filter _, fun a ha b hb e => ?_⟩
    obtain ⟨x, hx, rfl⟩ := List.mem_map.1 ha
    have h1 := (ho.each x hx).1
    have h2 := (h.mem b (List.mem_filter.1 hb).1).1
    rw [← e] at h2
    omega
theorem Run.outOk {k : Int} : ∀ (L : Nat) (s s' : St), Run k L s s' → Good s → OutOk k (L + 1) s → OutOk k 0 s'
  | 0, s, s', ⟨ps, h, _⟩, hg, ho => h.outOk hg ho
  | L + 1, s, s', ⟨m, ps, h, _, hr⟩, hg, ho => Run.outOk L m s' hr (h.good hg) (h.outOk hg ho)
/-! ### how many -/
theorem nodup_le {α : Type} [DecidableEq α] : ∀ (ps m : List α), ps.Nodup → (∀ u ∈ ps, u ∈ m) → ps.length ≤ m.length
  | [], _, _, _ => Nat.zero_le _
  | u :: ps, m, hn, h => by
    obtain ⟨h1, h2⟩ := List.nodup_cons.1 hn
    have hu := h u List.mem_cons_self
    have hl := List.length_erase_of_mem hu
    have hp := List.length_pos_of_mem hu
    have ih := nodup_le ps (m.erase u) h2 (fun x hx => by
      have hxu : x ≠ u := fun e => h1 (e ▸ hx)
      exact (List.mem_erase_of_ne hxu).2 (h x (List.mem_cons_of_mem _ hx)))
    rw [List.length_cons]
    omega
theorem filter_two {α : Type} (p : α → Bool) : ∀ l : List α, (l.filter p).length + (l.filter fun x => !p x).length = l.length
  | [] => rfl
  | x :: l => by
    have ih := filter_two p l
    by_cases h : p x = true
    · rw [List.filter_cons_of_pos h, List.filter_cons_of_neg (by simp [h]), List.length_cons, List.length_cons]; omega
    · rw [List.filter_cons_of_neg h, List.filter_cons_of_pos (by simp [h]), List.length_cons, List.length_cons]; omega
theorem upTo_two (L : Nat) (B : List Vr) : (upTo L B).length = (atLen L B).length + (low L B).length := by
  rw [← filter_two (fun x => decide (x.acts.length = L)) (upTo L B)]
  congr 1
  · unfold upTo atLen; rw [List.filter_filter]; congr 1; apply List.filter_congr; intro x _; by_cases h : x.acts.length = L <;> simp [h]
  · unfold upTo low; rw [List.filter_filter]; congr 1; apply List.filter_congr; intro x _
    rcases Nat.lt_trichotomy x.acts.length L with h | h | h
    · have h1 : x.acts.length ≠ L := by omega
      have h2 : x.acts.length ≤ L := by omega
      simp [h, h1, h2]
    · simp [h]
    · have h1 : ¬ x.acts.length < L := by omega
      have h2 : ¬ x.acts.length ≤ L := by omega
      simp [h1, h2]
theorem Lvl.many {k : Int} {L : Nat} {s s' : St} {ps : List Wd} (h : Lvl k L s s' ps) (hg : Good s) : ps.length ≤ (atLen L s.B).length ∧ s'.out.length + (low L s'.B).length ≤ s.out.length + (upTo L s.B).length := by
  have h1 : ps.length ≤ (atLen L s.B).length := by
    refine Nat.le_trans (nodup_le ps ((atLen L s.B).map (·.acts)) h.nodup fun u hu => ?_) (Nat.le_of_eq (List.length_map _))
    obtain ⟨h2, h3⟩ := h.mem u hu
    obtain ⟨x, hx, rfl⟩ := (cnt_pos hg.pos).1 h3
    exact List.mem_map.2 ⟨x, List.mem_filter.2 ⟨hx, decide_eq_true h2⟩, rfl⟩
  refine ⟨h1, ?_⟩
  have h2 := filter_two (fun u => decide (k ≤ cnt s.B u)) ps
  have h3 : s'.out.length = s.out.length + (ps.filter fun u => decide (k ≤ cnt s.B u)).length := by rw [h.out, List.length_append]; unfold bag; rw [List.length_map]
  have h4 : (low L s'.B).length ≤ (low L s.B).length + (ps.filter fun u => !decide (k ≤ cnt s.B u)).length := by
    rw [h.rest]
    unfold low
    rw [List.filter_append, List.length_append]
    have h5 : ∀ m : List Vr, (m.filter fun x => decide (x.acts.length < L)).length ≤ m.length := fun m => List.length_filter_le _ _
    have h6 := h5 (if 0 < L then (ps.filter fun u => !decide (k ≤ cnt s.B u)).map (fun u => (⟨u.dropLast, cnt s.B u⟩ : Vr)) else [])
    have h7 : (if 0 < L then (ps.filter fun u => !decide (k ≤ cnt s.B u)).map (fun u => (⟨u.dropLast, cnt s.B u⟩ : Vr)) else []).length ≤ (ps.filter fun u => !decide (k ≤ cnt s.B u)).length := by
      split
      · rw [List.length_map]; exact Nat.le_refl _
      · exact Nat.zero_le _
    omega
  rw [upTo_two]
  omega
theorem Run.many {k : Int} : ∀ (L : Nat) (s s' : St), Run k L s s' → Good s → s'.out.length ≤ s.out.length + (upTo L s.B).length
  | 0, s, s', ⟨ps, h, _⟩, hg => by have := (h.many hg).2; omega
  | L + 1, s, s', ⟨m, ps, h, _, hr⟩, hg => by
    have h1 := (h.many hg).2
    rw [low_succ] at h1
    have h2 := Run.many L m s' hr (h.good hg)
    omega
/-! ### where all are often enough -/
theorem nodup_of_map {α β : Type} (f : α → β) {l : List α} (h : (l.map f).Nodup) : l.Nodup := List.Pairwise.of_map f (fun a b hab e => hab (congrArg f e)) h
structure Kept (l : List Vr) (L : Nat) (s : St) : Prop where
  out : s.out.Perm (l.filter fun x => decide (L ≤ x.acts.length))
  B : s.B = l
theorem cnt_own {l : List Vr} (hn : (l.map (·.acts)).Nodup) {x : Vr} (hx : x ∈ l) : cnt l x.acts = x.n := by
  induction l with
  | nil => simp at hx
  | cons y l ih =>
    rw [List.map_cons] at hn
    obtain ⟨h1, h2⟩ := List.nodup_cons.1 hn
    rw [cnt_cons]
    have hz : ∀ (m : List Vr) (u : Wd), u ∉ m.map (·.acts) → cnt m u = 0 := fun m u => by
      induction m with
      | nil => intro _; rfl
      | cons z m ihm =>
        intro h
        rw [List.map_cons] at h
        rw [cnt_cons, if_neg (fun e => h (by rw [e]; exact List.mem_cons_self)), ihm (fun hm => h (List.mem_cons_of_mem _ hm))]; rfl
    rcases List.mem_cons.1 hx with rfl | hx
    · rw [if_pos rfl, hz l x.acts h1]; omega
    · rw [if_neg (fun e => h1 (by rw [e]; exact List.mem_map.2 ⟨x, hx, rfl⟩)), ih h2 hx]; omega
theorem Lvl.kept {k : Int} {l : List Vr} {L : Nat} {s s' : St} {ps : List Wd} (h : Lvl k L s s' ps) (hfull : Full L s ps) (hp : Pos l) (hn : (l.map (·.acts)).Nodup) (hk : ∀ x ∈ l, k ≤ x.n) (hs : Kept l (L + 1) s) : Kept l L s' := by
  have hall : ∀ u ∈ ps, k ≤ cnt s.B u := fun u hu => by
    rw [hs.B]
    obtain ⟨x, hx, rfl⟩ := (cnt_pos hp).1 (by rw [← hs.B]; exact (h.mem u hu).2)
    rw [cnt_own hn hx]; exact hk x hx
  have h1 : ps.filter (fun u => decide (k ≤ cnt s.B u)) = ps := List.filter_eq_self.2 fun u hu => decide_eq_true (hall u hu)
  have h2 : ps.filter (fun u => !decide (k ≤ cnt s.B u)) = [] := by
    rw [List.filter_eq_nil_iff]; intro u hu; simp [hall u hu]
  refine ⟨?_, ?_⟩
  · rw [h.out, h1]
    have hb : (bag s.B ps).Perm (l.filter fun x => decide (x.acts.length = L)) := by
      have e1 : bag s.B ps = bag l ps := by rw [hs.B]
      rw [e1]
      have n1 : (bag l ps).Nodup := by
        have : ((bag l ps).map (·.acts)).Nodup := by rw [bag_acts]; exact h.nodup
        exact nodup_of_map (·.acts) this
      have n2 : (l.filter fun x => decide (x.acts.length = L)).Nodup := nodup_of_map (·.acts) ((hn.sublist ((List.filter_sublist).map _)))
      refine (List.perm_ext_iff_of_nodup n1 n2).2 fun x => ?_
      constructor
      · intro hx
        obtain ⟨u, hu, rfl⟩ := List.mem_map.1 hx
        obtain ⟨h3, h4⟩ := h.mem u hu
        rw [hs.B] at h4
        obtain ⟨y, hy, rfl⟩ := (cnt_pos hp).1 h4
        rw [cnt_own hn hy]
        exact List.mem_filter.2 ⟨hy, decide_eq_true h3⟩
      · intro hx
        obtain ⟨h3, h4⟩ := List.mem_filter.1 hx
        refine List.mem_map.2 ⟨x.acts, hfull x.acts (of_decide_eq_true h4) (by rw [hs.B]; exact (cnt_pos hp).2 ⟨x, h3, rfl⟩), ?_⟩
        rw [cnt_own hn h3]
    have hsplit : (l.filter fun x => decide (L ≤ x.acts.length)).Perm ((l.filter fun x => decide (L + 1 ≤ x.acts.length)) ++ l.filter fun x => decide (x.acts.length = L)) := by
      clear hs h hfull hp hn hk hall h1 h2 hb
      induction l with
      | nil => exact List.Perm.refl _
      | cons x l ih =>
        rcases Nat.lt_trichotomy x.acts.length L with hx | hx | hx
        · rw [List.filter_cons_of_neg (by simp; omega), List.filter_cons_of_neg (by simp; omega), List.filter_cons_of_neg (by simp; omega)]; exact ih
        · rw [List.filter_cons_of_pos (by simp; omega), List.filter_cons_of_neg (by simp; omega), List.filter_cons_of_pos (by simp; omega)]
          exact (ih.cons x).trans List.perm_middle.symm
        · rw [List.filter_cons_of_pos (by simp; omega), List.filter_cons_of_pos (by simp; omega), List.filter_cons_of_neg (by simp; omega)]
          exact ih.cons x
    exact (hs.out.append hb).trans hsplit.symm
  · rw [h.rest, h2, hs.B]; split <;> simp
theorem Run.kept {k : Int} {l : List Vr} (hp : Pos l) (hn : (l.map (·.acts)).Nodup) (hk : ∀ x ∈ l, k ≤ x.n) : ∀ (L : Nat) (s s' : St), Run k L s s' → Kept l (L + 1) s → Kept l 0 s'
  | 0, s, s', ⟨ps, h, hf⟩, hs => h.kept hf hp hn hk hs
  | L + 1, s, s', ⟨m, ps, h, hf, hr⟩, hs => Run.kept hp hn hk L m s' hr (h.kept hf hp hn hk hs)
end Go.Proofs.Ytilmdlkfmkbfmaa
