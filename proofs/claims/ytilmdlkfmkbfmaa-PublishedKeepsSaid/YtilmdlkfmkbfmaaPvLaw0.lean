/- Plain facts for the law of what is published. -/
import Derived.Test.YtilmdlkfmkbfmaaPvLoss
set_option linter.all false
namespace Go.Proofs.Ytilmdlkfmkbfmaa
open Go.RowKit

theorem lvl_none {k : Int} {L : Nat} {s m : St} {ps : List Wd} (h : Lvl k L s m ps) (hn : ∀ u : Wd, u.length = L → ¬ 0 < cnt s.B u) : m = s := by
  have hp : ps = [] := by
    cases ps with
    | nil => rfl
    | cons u ps => obtain ⟨h1, h2⟩ := h.mem u List.mem_cons_self; exact absurd h2 (hn u h1)
  subst hp
  have h1 := h.out
  have h2 := h.rest
  obtain ⟨o, B⟩ := m
  obtain ⟨o', B'⟩ := s
  simp [bag] at h1 h2
  rw [h1, h2]
theorem run_skip {k : Int} {j : Nat} : ∀ (L : Nat) (s s' : St), j ≤ L → (∀ u : Wd, j < u.length → ¬ 0 < cnt s.B u) → Run k L s s' → Run k j s s'
  | 0, s, s', hj, _, h => by
    have : j = 0 := by omega
    subst this; exact h
  | L + 1, s, s', hj, hn, h => by
    by_cases e : j = L + 1
    · subst e; exact h
    · obtain ⟨m, ps, h1, _, h3⟩ := h
      have := lvl_none h1 (fun u hu => hn u (by omega))
      subst this
      exact run_skip L m s' (by omega) hn h3
theorem only_one {ps : List Wd} {a : Wd} (hn : ps.Nodup) (h : ∀ u ∈ ps, u = a) (ha : a ∈ ps) : ps = [a] := by
  match ps, hn, h, ha with
  | [x], _, h, _ => rw [h x (by simp)]
  | x :: y :: r, hn, h, _ =>
    have e1 := h x (by simp)
    have e2 := h y (by simp)
    rw [e1, e2] at hn
    simp at hn
def tA : ByteArray := ⟨#[97]⟩
def tB : ByteArray := ⟨#[98]⟩
def awk : List Vr := [⟨[tA], 2⟩, ⟨[tA, tB], 1⟩]
theorem awk_right : rightB awk = true := by decide +kernel
theorem awk_cnt (u : Wd) : cnt awk u = (if [tA] = u then 2 else 0) + (if [tA, tB] = u then 1 else 0) := by
  unfold awk; rw [cnt_cons, cnt_cons, cnt_nil]; rw [Int.add_zero]
theorem awake_run {s' : St} (h : Run 2 200 ⟨[], awk⟩ s') : s'.out = [⟨[tA], 3⟩] := by
  have h2 := run_skip (j := 2) 200 _ _ (by omega) (fun u hu => by
    show ¬ 0 < cnt awk u
    rw [awk_cnt, if_neg (fun e => by rw [← e] at hu; simp at hu), if_neg (fun e => by rw [← e] at hu; simp at hu)]; decide) h
  obtain ⟨m, ps, a1, a2, a3⟩ := h2
  have c2 : cnt awk [tA, tB] = 1 := by rw [awk_cnt, if_neg (by decide), if_pos rfl]; rfl
  have p2 : ps = [[tA, tB]] := only_one a1.nodup (fun u hu => by
    obtain ⟨b1, b2⟩ := a1.mem u hu
    by_cases e : [tA, tB] = u
    · exact e.symm
    · have b2 : 0 < cnt awk u := b2
      rw [awk_cnt, if_neg e, if_neg (fun e => by rw [← e] at b1; simp at b1)] at b2
      exact absurd b2 (by decide)) (a2 [tA, tB] rfl (by show 0 < cnt awk [tA, tB]; rw [c2]; decide))
  subst p2
  have o1 : m.out = [] := by
    rw [a1.out]
    show [] ++ bag awk _ = []
    rw [List.filter_cons_of_neg (by show ¬ decide (2 ≤ cnt awk [tA, tB]) = true; rw [c2]; decide)]; rfl
  have r1 : m.B = awk ++ [⟨[tA], 1⟩] := by
    rw [a1.rest]
    show awk ++ (if 0 < 2 then _ else _) = _
    rw [if_pos (by omega), List.filter_cons_of_pos (by show (!decide (2 ≤ cnt awk [tA, tB])) = true; rw [c2]; decide)]
    show awk ++ [(⟨[tA, tB].dropLast, cnt awk [tA, tB]⟩ : Vr)] = _
    rw [c2]; rfl
  have cm : ∀ u, cnt m.B u = cnt awk u + (if [tA] = u then 1 else 0) := fun u => by rw [r1, cnt_append, cnt_cons, cnt_nil, Int.add_zero]
  obtain ⟨m2, ps2, d1, d2, d3⟩ := a3
  have c1 : cnt m.B [tA] = 3 := by rw [cm, awk_cnt, if_pos rfl, if_neg (by decide), if_pos rfl]; rfl
  have p1 : ps2 = [[tA]] := only_one d1.nodup (fun u hu => by
    obtain ⟨b1, b2⟩ := d1.mem u hu
    by_cases e : [tA] = u
    · exact e.symm
    · rw [cm, awk_cnt, if_neg e, if_neg (fun e => by rw [← e] at b1; simp at b1), if_neg e] at b2
      exact absurd b2 (by decide)) (d2 [tA] rfl (by rw [c1]; decide))
  subst p1
  have o2 : m2.out = [⟨[tA], 3⟩] := by
    rw [d1.out, o1, List.filter_cons_of_pos (by rw [c1]; decide)]
    show [] ++ [(⟨[tA], cnt m.B [tA]⟩ : Vr)] = _
    rw [c1]; rfl
  have r2 : m2.B = m.B := by
    rw [d1.rest, if_pos (by omega), List.filter_cons_of_neg (by rw [c1]; decide)]
    simp
  obtain ⟨ps3, f1, _⟩ := d3
  have := lvl_none f1 (fun u hu => by
    have hu0 : u = [] := List.eq_nil_of_length_eq_zero hu
    subst hu0
    rw [r2, cm, awk_cnt, if_neg (by decide), if_neg (by decide), if_neg (by decide)]; decide)
  rw [this, o2]
/-! ### what is published is right -/
theorem Run.short {k : Int} : ∀ (L : Nat) (s s' : St), Run k L s s' → L ≤ 200 → (∀ x ∈ s.out, x.acts.length ≤ 200) → ∀ x ∈ s'.out, x.acts.length ≤ 200 := by
  have key : ∀ {L : Nat} {s m : St} {ps : List Wd}, Lvl k L s m ps → L ≤ 200 → (∀ x ∈ s.out, x.acts.length ≤ 200) → ∀ x ∈ m.out, x.acts.length ≤ 200 := fun h hL hs x hx => by
    rw [h.out] at hx
    rcases List.mem_append.1 hx with hx | hx
    · exact hs x hx
    · obtain ⟨u, hu, rfl⟩ := List.mem_map.1 hx
      have h5 := (h.mem u (List.mem_filter.1 hu).1).1
      show u.length ≤ 200
      omega
  intro L
  induction L with
  | zero => intro s s' hr hL hs; obtain ⟨ps, h, _⟩ := hr; exact key h hL hs
  | succ L ih => intro s s' hr hL hs; obtain ⟨m, ps, h, _, hr⟩ := hr; exact ih m s' hr (by omega) (key h hL hs)
structure PubOk (k : Int) (l ys : List Vr) : Prop where
  right : rightB ys = true
  least : ∀ x ∈ ys, k ≤ x.n
  dom : ∀ p, cnt (allp ys) p ≤ cnt (allp l) p
  evs : totW lenW ys ≤ totW lenW l
theorem upTo_le {f : Wd → Int} (hf : ∀ u, 0 ≤ f u) {l : List Vr} (h : Pos l) (L : Nat) : totW f (upTo L l) ≤ totW f l := by
  have h1 := totW_filter f (fun x : Vr => decide (x.acts.length ≤ L)) l
  have h2 := totW_nonneg hf (l.filter fun x => !decide (x.acts.length ≤ L)) (fun x hx => by have := h x (List.mem_filter.1 hx).1; omega)
  unfold upTo; omega
theorem pub_ok {k : Int} {l ys : List Vr} {s' : St} (hl : RightOk l) (hk : 1 ≤ k) (hr : Run k 200 ⟨[], l⟩ s') (ha : s'.out.any (fun x => decide (1048576 < x.n)) = false) (hp : ys.Perm s'.out) (ho : Ord ys) : PubOk k l ys := by
  have hok := hr.outOk 200 _ _ hl.good ⟨by simp, by simp⟩
  have hsh := Run.short 200 _ _ hr (by omega) (by simp)
  have hmn := hr.many 200 _ _ hl.good
  have hul : (upTo 200 l).length ≤ l.length := List.length_filter_le _ _
  have hll := hl.len
  have hyl : ys.length ≤ 300 := by
    rw [hp.length_eq]
    have : s'.out.length ≤ 0 + (upTo 200 l).length := hmn
    omega
  have hmem : ∀ x ∈ ys, x ∈ s'.out := fun x hx => hp.mem_iff.1 hx
  have hw : ∀ {f : Wd → Int}, (∀ u, 0 ≤ f u) → (∀ u : Wd, f u.dropLast ≤ f u) → totW f ys ≤ totW f l := fun {f} h1 h2 => by
    have h3 := hr.weigh h1 h2 200 _ _ hl.good
    have h4 := upTo_le h1 hl.pos 200
    rw [totW_perm hp]
    have h5 : totW f (⟨[], l⟩ : St).out = 0 := rfl
    rw [h5] at h3
    exact Int.le_trans h3 (by show 0 + totW f (upTo 200 l) ≤ _; omega)
  refine ⟨right_yes hyl fun i hi => ?_, fun x hx => (hok.each x (hmem x hx)).2.1, fun p => ?_, hw lenW_nonneg lenW_drop⟩
  · have hx := List.getElem?_eq_getElem hi
    rw [entAt_eq hx, Bool.and_eq_true]
    have hxm := hmem _ (List.getElem_mem hi)
    obtain ⟨_, e1, e2⟩ := hok.each _ hxm
    have e3 := hsh _ hxm
    have e4 : ¬ 1048576 < ys[i].n := by
      rw [List.any_eq_false] at ha
      simpa using ha _ hxm
    constructor
    · unfold entB
      simp only [Bool.and_eq_true, decide_eq_true_eq, Bool.not_eq_true']
      refine ⟨⟨⟨e3, by omega⟩, by omega⟩, ?_⟩
      rw [List.any_eq_false]
      intro s hs
      simp [e2 s hs]
    · cases i with
      | zero => rfl
      | succ j =>
        have hy := List.getElem?_eq_getElem (show j < ys.length by omega)
        rw [ordB_succ ys j _ _ hy]
        exact decide_eq_true (ord_next ho hy hx)
  · rw [cnt_allp, cnt_allp]; exact hw (preW_nonneg p) (preW_drop p)
/-- Published once more it is the same. -/
theorem pub_again {k : Int} {ys zs : List Vr} {s' : St} (hy : RightOk ys) (hk : ∀ x ∈ ys, k ≤ x.n) (hoy : Ord ys) (hr : Run k 200 ⟨[], ys⟩ s') (hz : zs.Perm s'.out) (hoz : Ord zs) : zs = ys := by
  have h := hr.kept hy.pos (ord_nodup hoy) hk 200 _ _ ⟨by
    show [].Perm _
    rw [List.filter_eq_nil_iff.2 (fun x hx => by have := (hy.each x hx).1; simp; omega)], rfl⟩
  have h2 : ys.filter (fun x => decide (0 ≤ x.acts.length)) = ys := List.filter_eq_self.2 (fun x _ => by simp)
  have h3 := h.out
  rw [h2] at h3
  exact ord_unique (hz.trans h3) hoz hoy
theorem again_small {k : Int} {ys : List Vr} {s' : St} (hy : RightOk ys) (hk : ∀ x ∈ ys, k ≤ x.n) (hoy : Ord ys) (hr : Run k 200 ⟨[], ys⟩ s') : s'.out.any (fun x => decide (1048576 < x.n)) = false := by
  have h := hr.kept hy.pos (ord_nodup hoy) hk 200 _ _ ⟨by
    show [].Perm _
    rw [List.filter_eq_nil_iff.2 (fun x hx => by have := (hy.each x hx).1; simp; omega)], rfl⟩
  rw [List.any_eq_false]
  intro x hx
  have hm := (List.mem_filter.1 (h.out.mem_iff.1 hx)).1
  have := (hy.each x hm).2.2.1
  simp; omega
end Go.Proofs.Ytilmdlkfmkbfmaa
