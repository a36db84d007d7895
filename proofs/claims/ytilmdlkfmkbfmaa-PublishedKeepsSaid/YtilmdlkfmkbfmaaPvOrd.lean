/- The order of words, and a sort by it. No program in sight. -/
import Derived.Test.YtilmdlkfmkbfmaaPvKey
import Derived.Test.YtilmdlkfmkbfmaaSortF
set_option linter.all false
namespace Go.Proofs.Ytilmdlkfmkbfmaa
open Go.RowKit

theorem cmpS_lt {x y : ByteArray} : cmpS x y < 0 ↔ x.data.toList < y.data.toList := by
  unfold cmpS
  by_cases h : x.data.toList < y.data.toList
  · rw [if_pos h]; exact ⟨fun _ => h, fun _ => by decide⟩
  · rw [if_neg h]
    refine ⟨fun h2 => absurd h2 ?_, fun h2 => absurd h2 h⟩
    split <;> decide
theorem cmpS_neg (x y : ByteArray) : cmpS y x = - cmpS x y := by
  unfold cmpS
  by_cases h : x.data.toList < y.data.toList
  · have h2 : ¬ y.data.toList < x.data.toList := fun h2 => List.lt_irrefl _ (List.lt_trans h h2)
    rw [if_pos h, if_neg h2, if_pos h]; rfl
  · rw [if_neg h]
    by_cases h2 : y.data.toList < x.data.toList
    · rw [if_pos h2, if_neg h, if_pos h2]
    · rw [if_neg h2, if_neg h, if_neg h2]; rfl
theorem cmpS_zero {x y : ByteArray} : cmpS x y = 0 ↔ x = y := by
  refine ⟨fun h => ?_, fun h => ?_⟩
  · unfold cmpS at h
    by_cases h1 : x.data.toList < y.data.toList
    · rw [if_pos h1] at h; cases h
    · rw [if_neg h1] at h
      by_cases h2 : y.data.toList < x.data.toList
      · rw [if_pos h2] at h; cases h
      · exact ba_ext (List.le_antisymm (List.not_lt.1 h2) (List.not_lt.1 h1))
  · subst h
    unfold cmpS
    rw [if_neg (List.lt_irrefl _), if_neg (List.lt_irrefl _)]
theorem cmpS_trans {x y z : ByteArray} (h1 : cmpS x y < 0) (h2 : cmpS y z < 0) : cmpS x z < 0 := cmpS_lt.2 (List.lt_trans (cmpS_lt.1 h1) (cmpS_lt.1 h2))
theorem cmpW_cons (x y : ByteArray) (a b : Wd) : cmpW (x :: a) (y :: b) = if cmpS x y ≠ 0 then cmpS x y else cmpW a b := rfl
theorem cmpW_neg : ∀ a b : Wd, cmpW b a = - cmpW a b
  | [], [] => rfl
  | [], _ :: _ => rfl
  | _ :: _, [] => rfl
  | x :: a, y :: b => by
    rw [cmpW_cons, cmpW_cons, cmpS_neg x y, cmpW_neg a b]
    by_cases h : cmpS x y = 0
    · simp [h]
    · rw [if_pos (by omega), if_pos h]
theorem cmpW_zero : ∀ a b : Wd, cmpW a b = 0 ↔ a = b
  | [], [] => by simp [cmpW]
  | [], _ :: _ => by simp [cmpW]
  | _ :: _, [] => by simp [cmpW]
  | x :: a, y :: b => by
    rw [cmpW_cons]
    by_cases h : cmpS x y = 0
    · rw [if_neg (by simp [h]), cmpW_zero a b, List.cons.injEq, cmpS_zero.1 h]; simp
    · rw [if_pos h]
      exact ⟨fun e => absurd e h, fun e => by injection e with e1 e2; exact absurd (cmpS_zero.2 e1) h⟩
theorem cmpW_trans : ∀ {a b c : Wd}, cmpW a b < 0 → cmpW b c < 0 → cmpW a c < 0
  | [], [], _, h, _ => absurd h (by simp [cmpW])
  | _ :: _, [], _, h, _ => absurd h (by simp [cmpW])
  | _, _ :: _, [], _, h => absurd h (by simp [cmpW])
  | [], _ :: _, _ :: _, _, _ => by simp [cmpW]
  | x :: a, y :: b, z :: c, h1, h2 => by
    rw [cmpW_cons] at *
    by_cases e1 : cmpS x y = 0
    · rw [if_neg (by simp [e1])] at h1
      obtain rfl := cmpS_zero.1 e1
      by_cases e2 : cmpS x z = 0
      · rw [if_neg (by simp [e2])] at h2 ⊢
        exact cmpW_trans h1 h2
      · rw [if_pos e2] at h2 ⊢; exact h2
    · rw [if_pos e1] at h1
      by_cases e2 : cmpS y z = 0
      · obtain rfl := cmpS_zero.1 e2
        rw [if_pos e1]; exact h1
      · rw [if_pos e2] at h2
        have := cmpS_trans h1 h2
        rw [if_pos (by omega)]; exact this
theorem swoW {α : Type} (f : α → Wd) : Go.Sort.SWO (Go.Proofs.ltOf fun x y : α => cmpW (f x) (f y)) where
  irrefl x := by
    have h : cmpW (f x) (f x) = 0 := (cmpW_zero _ _).2 rfl
    exact decide_eq_false (show ¬ cmpW (f x) (f x) < 0 by omega)
  trans x y z h1 h2 := by
    unfold ltOf at *
    exact decide_eq_true (cmpW_trans (of_decide_eq_true h1) (of_decide_eq_true h2))
  ntrans x y z h1 h2 := by
    unfold ltOf at *
    have g1 : ¬ cmpW (f x) (f y) < 0 := of_decide_eq_false h1
    have g2 : ¬ cmpW (f y) (f z) < 0 := of_decide_eq_false h2
    refine decide_eq_false fun h => ?_
    have h : cmpW (f x) (f z) < 0 := h
    have n1 := cmpW_neg (f x) (f y)
    have n2 := cmpW_neg (f y) (f z)
    by_cases e1 : cmpW (f x) (f y) = 0
    · rw [(cmpW_zero _ _).1 e1] at h; exact g2 h
    · have h3 : cmpW (f y) (f x) < 0 := by omega
      exact g2 (cmpW_trans h3 h)
def Ord (l : List Vr) : Prop := l.Pairwise fun x y => cmpW x.acts y.acts < 0
/-- One order of distinct words. -/
theorem ord_unique {l m : List Vr} (h : l.Perm m) (h1 : Ord l) (h2 : Ord m) : l = m :=
  List.Perm.eq_of_pairwise (fun a b _ _ e1 e2 => by have := cmpW_neg a.acts b.acts; omega) h1 h2 h
theorem ord_of_next : ∀ (l : List Vr), (∀ (i : Nat) x y, l[i]? = some x → l[i + 1]? = some y → cmpW x.acts y.acts < 0) → Ord l
  | [], _ => List.Pairwise.nil
  | [x], _ => by unfold Ord; simp
  | x :: y :: l, h => by
    have ih := ord_of_next (y :: l) (fun i a b ha hb => h (i + 1) a b ha hb)
    have h0 := h 0 x y rfl rfl
    refine List.Pairwise.cons (fun z hz => ?_) ih
    rcases List.mem_cons.1 hz with rfl | hz
    · exact h0
    · exact cmpW_trans h0 (List.rel_of_pairwise_cons ih hz)
theorem ord_nodup {l : List Vr} (h : Ord l) : (l.map (·.acts)).Nodup := by
  refine List.Pairwise.map _ (fun a b hab e => ?_) h
  rw [(cmpW_zero _ _).2 e] at hab; omega
theorem ord_next {l : List Vr} (h : Ord l) {i : Nat} {x y : Vr} (hx : l[i]? = some x) (hy : l[i + 1]? = some y) : cmpW x.acts y.acts < 0 := by
  obtain ⟨h1, rfl⟩ := List.getElem?_eq_some_iff.1 hx
  obtain ⟨h2, rfl⟩ := List.getElem?_eq_some_iff.1 hy
  exact List.pairwise_iff_getElem.1 h i (i + 1) h1 h2 (by omega)
/-! ### the entries of a row -/
abbrev SubV (B : Nat) (w : World) : Type := {p : PrV // Fit p.1.n ∧ SlS (Lt B) w p.2 p.1.acts}
def encSub {B : Nat} {w : World} (x : SubV B w) : List Value := cellV x.val
/-- What lies in a row after a sort. -/
theorem sorted_list {B : Nat} {w : World} [Inhabited (SubV B w)] {d d' : Array (SubV B w)} (hn : (d.toList.map fun x => x.val.1.acts).Nodup) (hp : Go.Sort.PermIn 0 d.size d d') (hs : Go.Sort.SortedIn (Go.Proofs.ltOf fun x y : SubV B w => cmpW x.val.1.acts y.val.1.acts) 0 d.size d') :
    (d'.toList.map fun x => x.val.1).Perm (d.toList.map fun x => x.val.1) ∧ Ord (d'.toList.map fun x => x.val.1) := by
  obtain ⟨h1, _, h3⟩ := hp
  have e1 : (d'.extract 0 d.size) = d' := by rw [← h1]; exact Array.extract_size
  have e2 : (d.extract 0 d.size) = d := Array.extract_size
  rw [e1, e2] at h3
  refine ⟨h3.map _, ?_⟩
  have hn' : (d'.toList.map fun x => x.val.1.acts).Nodup := (h3.map _).nodup_iff.2 hn
  unfold Ord
  rw [List.pairwise_map, List.pairwise_iff_getElem]
  intro i j hi hj hij
  have hi' : i < d'.size := by simpa using hi
  have hj' : j < d'.size := by simpa using hj
  have h5 := hs i j (Nat.zero_le _) hij (by omega)
  unfold Go.Proofs.ltOf at h5
  rw [getElem!_pos d' i hi', getElem!_pos d' j hj'] at h5
  have h6 : ¬ cmpW d'[j].val.1.acts d'[i].val.1.acts < 0 := of_decide_eq_false h5
  have n1 := cmpW_neg d'[i].val.1.acts d'[j].val.1.acts
  have hne : cmpW d'[i].val.1.acts d'[j].val.1.acts ≠ 0 := fun e => by
    have e := (cmpW_zero _ _).1 e
    have h7 := (List.pairwise_iff_getElem.1 hn') i j (by simpa using hi') (by simpa using hj') hij
    apply h7
    simpa using e
  simp only [Array.getElem_toList]
  omega
end Go.Proofs.Ytilmdlkfmkbfmaa
