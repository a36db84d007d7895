/- Texts of this seat, merged. -/
import Derived.Test.YtijmnenojbfdnaaGreatDoorEm01
import Derived.Test.YtijmnenojbfdnaaGreatDoorEm02
import Derived.Test.YtijmnenojbfdnaaGreatDoorEm03
import Derived.Test.YtijmnenojbfdnaaGreatDoorEm04
import Derived.Test.YtijmnenojbfdnaaGreatDoorEm05
import Derived.Test.YtijmnenojbfdnaaGreatDoorEm06
import Derived.Test.YtijmnenojbfdnaaGreatDoorEm07
import Derived.Test.YtijmnenojbfdnaaGreatDoorEm08
import Derived.Test.YtijmnenojbfdnaaGreatDoorEm09
import Derived.Test.YtijmnenojbfdnaaGreatDoorEm10
set_option linter.unusedSimpArgs false
set_option linter.unusedVariables false
namespace Go.Proofs.YtijmnenojbfdnaaGreatDoor
open Go.RowKit
structure Asg (vs : List Var) (vals : List Val) : Prop where
  len : vals.length = vs.length
  each : ∀ (i : Nat) (x : Var) (v : Val), vs[i]? = some x → vals[i]? = some v → v.kind = x.kind ∧ validV v = true
theorem find_at {vs : List Var} {s : ByteArray} (h : ¬ findV vs s < 0) : ∃ (i : Nat) (x : Var), findV vs s = i ∧ vs[i]? = some x := by
  unfold findV at h ⊢
  cases hf : vs.findIdx? (fun x => x.name.toList == s.toList) with
  | none => rw [hf] at h; exact absurd (by decide) h
  | some i =>
    rw [List.findIdx?_eq_some_iff_getElem] at hf
    obtain ⟨h1, _⟩ := hf
    exact ⟨i, vs[i], rfl, List.getElem?_eq_getElem h1⟩
theorem es_at {f : Ex → Option Val} {l : List Ex} {i : Nat} {a : Val} (h : (l.map f).getD i none = some a) : ∃ hi : i < l.length, f l[i] = some a := by
  rcases Nat.lt_or_ge i l.length with hi | hi
  · refine ⟨hi, ?_⟩
    rw [List.getD_eq_getElem?_getD, List.getElem?_map, List.getElem?_eq_getElem hi] at h
    exact h
  · rw [List.getD_eq_getElem?_getD, List.getElem?_eq_none (by simpa using hi)] at h
    cases h
theorem ks_at {f : Ex → Int} {l : List Ex} {i : Nat} (hi : i < l.length) : (l.map f).getD i 0 = f l[i] := by
  rw [List.getD_eq_getElem?_getD, List.getElem?_map, List.getElem?_eq_getElem hi]; rfl
theorem all_at {f : Ex → Int} {l : List Ex} {k : Int} (h : (l.map f).all (· == k) = true) {i : Nat} (hi : i < l.length) : f l[i] = k := by
  rw [List.all_eq_true] at h
  have := h (f l[i]) (List.mem_map.2 ⟨_, List.getElem_mem hi, rfl⟩)
  exact eq_of_beq this
theorem ev_node {vs : List Var} {vals : List Val} (hA : Asg vs vals) (x : Ex) (hs : shapeX x = true)
    (ih : ∀ y ∈ x.l, (typX vs y).2 = 0 → ∀ a, evX vs vals y = some a → a.kind = (typX vs y).1 ∧ validV a = true)
    (ht : (typX vs x).2 = 0) (a : Val) (ha : evX vs vals x = some a) : a.kind = (typX vs x).1 ∧ validV a = true := by
  obtain ⟨l1, l2, l3, l4, l5, l6, o1, o2⟩ := shape_len hs
  rw [typX_eq] at ht ⊢
  rw [evX_eq, evL_eq] at ha
  by_cases h0 : (typL vs x.l).2 ≠ 0
  · rw [if_pos h0] at ht; exact absurd ht h0
  rw [if_neg h0] at ht ⊢
  obtain ⟨k1, k2⟩ := typL_ok (vs := vs) (l := x.l) (by simpa using h0)
  rw [k1] at ht ⊢
  have ihat : ∀ (i : Nat) (hi : i < x.l.length) (b : Val), evX vs vals x.l[i] = some b → b.kind = (typX vs x.l[i]).1 ∧ validV b = true :=
    fun i hi b hb => ih _ (List.getElem_mem hi) (k2 _ (List.getElem_mem hi)) b hb
  unfold typO at ht ⊢
  unfold evO at ha
  by_cases c1 : x.op = 1
  · rw [if_pos c1] at ht ha ⊢
    injection ha with ha
    subst ha
    refine ⟨rfl, ?_⟩
    unfold shapeX at hs
    rw [if_pos c1] at hs
    simp only [Bool.and_eq_true] at hs
    exact hs.2
  rw [if_neg c1] at ht ha ⊢
  by_cases c2 : x.op = 2
  · rw [if_pos c2] at ht ha ⊢
    by_cases hf : findV vs x.s < 0
    · rw [if_pos hf] at ht; cases ht
    rw [if_neg hf] at ht ⊢
    obtain ⟨i, y, h1, h2⟩ := find_at hf
    injection ha with ha
    have hi : i < vals.length := by
      rw [hA.len]
      rcases Nat.lt_or_ge i vs.length with h | h
      · exact h
      · rw [List.getElem?_eq_none h] at h2; cases h2
    have hv : varV vs vals x.s = vals[i] := by
      unfold varV
      rw [h1, Int.toNat_natCast, List.getD_eq_getElem?_getD, List.getElem?_eq_getElem hi]; rfl
    have hk : kindAt vs (findV vs x.s) = y.kind := by unfold kindAt; rw [h1, Int.toNat_natCast, h2]; rfl
    rw [hv] at ha
    rw [hk, ← ha]
    exact hA.each i y _ h2 (List.getElem?_eq_getElem hi)
  rw [if_neg c2] at ht ha ⊢
  cases he : (x.l.map (evX vs vals)).getD 0 none with
  | none => rw [he] at ha; cases ha
  | some b =>
    rw [he] at ha
    simp only at ha
    obtain ⟨hi0, hb⟩ := es_at he
    have hb' := ihat 0 hi0 b hb
    by_cases c9 : x.op = 9 ∨ x.op = 10 ∨ x.op = 11
    · rw [if_pos c9] at ht ⊢
      split at ht
      · rename_i hall
        rw [if_pos hall]
        rw [if_neg (by omega), if_neg (by omega), if_neg (by omega), if_neg (by omega), if_neg (by omega)] at ha
        cases he1 : (x.l.map (evX vs vals)).getD 1 none with
        | none => rw [he1] at ha; cases ha
        | some c =>
          rw [he1] at ha
          simp only at ha
          rw [if_neg (by omega), if_neg (by omega), if_neg (by omega)] at ha
          split at ha
          · obtain ⟨e, h⟩ := numV_some ha; subst e; exact ⟨rfl, num_valid h⟩
          split at ha
          · obtain ⟨e, h⟩ := numV_some ha; subst e; exact ⟨rfl, num_valid h⟩
          · obtain ⟨e, h⟩ := numV_some ha; subst e; exact ⟨rfl, num_valid h⟩
      · cases ht
    rw [if_neg c9] at ht ⊢
    by_cases c7 : x.op = 7 ∨ x.op = 8
    · rw [if_pos c7] at ht ⊢
      split at ht
      · rename_i hall
        rw [if_pos hall]
        rw [if_neg (by omega), if_neg (by omega), if_neg (by omega), if_neg (by omega), if_neg (by omega)] at ha
        cases he1 : (x.l.map (evX vs vals)).getD 1 none with
        | none => rw [he1] at ha; cases ha
        | some c =>
          rw [he1] at ha
          simp only at ha
          rw [if_neg (by omega)] at ha
          split at ha
          · injection ha with ha; subst ha; exact ⟨rfl, truth_valid _⟩
          · rw [if_pos (by omega)] at ha
            injection ha with ha; subst ha; exact ⟨rfl, truth_valid _⟩
      · cases ht
    rw [if_neg c7] at ht ⊢
    by_cases c3 : x.op = 3 ∨ x.op = 4 ∨ x.op = 5
    · rw [if_pos c3] at ht ⊢
      split at ht
      · rename_i hall
        rw [if_pos hall]
        have hb1 : b.kind = 1 ∧ validV b = true := ⟨hb'.1.trans (all_at hall hi0), hb'.2⟩
        split at ha
        · injection ha with ha; subst ha; exact ⟨rfl, truth_valid _⟩
        have hsec : ∀ c, (x.l.map (evX vs vals)).getD 1 none = some c → c.kind = 1 ∧ validV c = true := by
          intro c hc
          obtain ⟨hi1, hc⟩ := es_at hc
          have := ihat 1 hi1 c hc
          exact ⟨this.1.trans (all_at hall hi1), this.2⟩
        split at ha
        · split at ha
          · exact hsec _ ha
          · injection ha with ha; subst ha; exact hb1
        · rw [if_pos (by omega)] at ha
          split at ha
          · injection ha with ha; subst ha; exact hb1
          · exact hsec _ ha
      · cases ht
    rw [if_neg c3] at ht ⊢
    by_cases c12 : x.op = 12
    · rw [if_pos c12] at ht ⊢
      split at ht
      · rename_i hall
        rw [if_pos hall]
        rw [if_neg (by omega), if_neg (by omega), if_neg (by omega), if_pos c12] at ha
        have h3 := l5 c12
        split at ha
        · obtain ⟨hi1, hc⟩ := es_at ha
          have := ihat 1 hi1 a hc
          exact ⟨by rw [this.1, ks_at hi1], this.2⟩
        · obtain ⟨hi2, hc⟩ := es_at ha
          have := ihat 2 hi2 a hc
          exact ⟨by rw [this.1, hall.2, ks_at hi2], this.2⟩
      · cases ht
    rw [if_neg c12] at ht ⊢
    split at ht
    · rename_i hall
      rw [if_pos hall]
      rw [if_neg (by omega), if_neg (by omega), if_neg (by omega), if_neg c12] at ha
      split at ha
      · injection ha with ha; subst ha; exact ⟨rfl, truth_valid _⟩
      · cases he1 : (x.l.map (evX vs vals)).getD 1 none with
        | none => rw [he1] at ha; cases ha
        | some c =>
          rw [he1] at ha
          simp only at ha
          rw [if_pos (by omega)] at ha
          injection ha with ha; subst ha; exact ⟨rfl, truth_valid _⟩
    · cases ht
mutual
theorem ev_typed {vs : List Var} {vals : List Val} (hA : Asg vs vals) : ∀ (x : Ex), okX x = true → (typX vs x).2 = 0 → ∀ a, evX vs vals x = some a → a.kind = (typX vs x).1 ∧ validV a = true
  | .mk o v s l, hok, ht, a, ha => by
    rw [okX, Bool.and_eq_true, Bool.and_eq_true] at hok
    exact ev_node hA (.mk o v s l) hok.1.1 (ev_typedL hA l hok.2) ht a ha
theorem ev_typedL {vs : List Var} {vals : List Val} (hA : Asg vs vals) : ∀ (l : List Ex), okL l = true → ∀ y ∈ l, (typX vs y).2 = 0 → ∀ a, evX vs vals y = some a → a.kind = (typX vs y).1 ∧ validV a = true
  | [], _, y, hy, _, _, _ => by simp at hy
  | x :: l, hok, y, hy, ht, a, ha => by
    rw [okL, Bool.and_eq_true] at hok
    rcases List.mem_cons.1 hy with h | h
    · rw [h] at ht ha ⊢; exact ev_typed hA x hok.1 ht a ha
    · exact ev_typedL hA l hok.2 y h ht a ha
end
theorem truth_range {a : Val} (h : validV a = true) (hk : a.kind = 1) : a.n = 0 ∨ a.n = 1 := by
  unfold validV at h
  rw [if_pos hk] at h
  simp only [Bool.and_eq_true, decide_eq_true_eq] at h
  exact h.1
theorem num_range {a : Val} (h : validV a = true) (hk : a.kind = 2) : -4503599627370496 ≤ a.n ∧ a.n ≤ 4503599627370496 := by
  unfold validV at h
  rw [if_neg (by omega), if_pos hk] at h
  simp only [Bool.and_eq_true] at h
  have := h.1
  unfold numB at this
  simpa using this
end Go.Proofs.YtijmnenojbfdnaaGreatDoor

namespace Go.Proofs.YtijmnenojbfdnaaGreatDoor
open Go.RowKit
def prodL : List Var → Nat
  | [] => 1
  | x :: l => (sizeV x).toNat * prodL l
def numL : List Var → List Val → Nat
  | x :: l, v :: vs => (placeV x v).toNat * prodL l + numL l vs
  | _, _ => 0
structure Good (l : List Var) (vs : List Val) : Prop where
  vars : varsB l = true
  len : vs.length = l.length
  each : ∀ (i : Nat) x v, l[i]? = some x → vs[i]? = some v → validV v = true ∧ 0 ≤ placeV x v
theorem Good.asg {l : List Var} {vs : List Val} (h : Good l vs) : Asg l vs := ⟨h.len, fun i x v hx hv => by
  obtain ⟨h1, h2⟩ := h.each i x v hx hv
  refine ⟨?_, h1⟩
  rcases Classical.em (v.kind = x.kind) with e | e
  · exact e
  · have : placeV x v = -1 := if_pos e
    omega⟩
theorem Good.ok {l : List Var} {vs : List Val} (h : Good l vs) : okB l vs = true := by
  unfold okB
  rw [h.vars, Bool.true_and, List.all_eq_true]
  intro v hv
  obtain ⟨i, hi, rfl⟩ := List.mem_iff_getElem.1 hv
  have hi' : i < l.length := by rw [← h.len]; exact hi
  exact (h.each i l[i] _ (List.getElem?_eq_getElem hi') (List.getElem?_eq_getElem hi)).1
theorem Good.assigned {l : List Var} {vs : List Val} (h : Good l vs) : assignedB l vs = true :=
  assigned_yes h.len fun j x v _ hx hv => (h.each j x v hx hv).2
theorem Good.next {l : List Var} {vs : List Val} (h : Good l vs) : nextE l vs = ((nextV l vs).1, (nextV l vs).2, 0) := by
  unfold nextE
  rw [h.ok, if_pos rfl, if_neg (by rw [h.len]; simp), if_pos h.assigned]
theorem varB_of {l : List Var} (h : varsB l = true) {x : Var} (hx : x ∈ l) : varB x = true := by
  obtain ⟨i, hi, rfl⟩ := List.mem_iff_getElem.1 hx
  exact vars_each h (List.getElem?_eq_getElem hi)
theorem prod_pos {l : List Var} (h : ∀ x ∈ l, varB x = true) : 0 < prodL l := by
  induction l with
  | nil => exact Nat.one_pos
  | cons x l ih =>
    have := size_pos (tame_of (h x (by simp)))
    exact Nat.mul_pos (by omega) (ih fun y hy => h y (by simp [hy]))
theorem first_good {l : List Var} (h : varsB l = true) : Good l (firstV l) := by
  refine ⟨h, by unfold firstV; rw [List.length_map], fun i x v hx hv => ?_⟩
  unfold firstV at hv
  rw [List.getElem?_map, hx] at hv
  injection hv with hv
  subst hv
  have hv := vars_each h hx
  have hp := size_pos (tame_of hv)
  refine ⟨nth_valid hv (n := 0) (by omega), ?_⟩
  have := place_nth hv (n := 0) (by omega)
  show 0 ≤ placeV x (nthV x ((0 : Nat) : Int))
  omega
theorem num_lt {l : List Var} : ∀ {vs : List Val}, (∀ x ∈ l, varB x = true) → vs.length = l.length → (∀ (i : Nat) x v, l[i]? = some x → vs[i]? = some v → validV v = true ∧ 0 ≤ placeV x v) → numL l vs < prodL l := by
  induction l with
  | nil => intro vs _ _ _; show 0 < 1; omega
  | cons x l ih =>
    intro vs h hl he
    match vs, hl with
    | v :: vs, hl =>
      have h1 := ih (vs := vs) (fun y hy => h y (by simp [hy])) (by simpa using hl) (fun i x v hx hv => he (i + 1) x v (by simpa using hx) (by simpa using hv))
      obtain ⟨h2, h3⟩ := he 0 x v rfl rfl
      have h4 := (place_lt (tame_of (h x (by simp))) h2).2
      show (placeV x v).toNat * prodL l + numL l vs < (sizeV x).toNat * prodL l
      have h5 : (placeV x v).toNat + 1 ≤ (sizeV x).toNat := by omega
      have := Nat.mul_le_mul_right (prodL l) h5
      rw [Nat.add_mul, Nat.one_mul] at this
      omega
theorem Good.lt {l : List Var} {vs : List Val} (h : Good l vs) : numL l vs < prodL l := num_lt (fun _ hx => varB_of h.vars hx) h.len h.each
theorem num_set {l : List Var} : ∀ {vs : List Val} {i : Nat} {x : Var} {v : Val} (y : Val), l[i]? = some x → vs[i]? = some v → vs.length = l.length →
    numL l (vs.set i y) + (placeV x v).toNat * prodL (l.drop (i + 1)) = numL l vs + (placeV x y).toNat * prodL (l.drop (i + 1)) := by
  induction l with
  | nil => intro vs i x v y hx; simp at hx
  | cons a l ih =>
    intro vs i x v y hx hv hl
    match vs, hl, i, hx, hv with
    | b :: vs, hl, 0, hx, hv =>
      injection hx with hx; injection hv with hv
      subst hx hv
      show (placeV a y).toNat * prodL l + numL l vs + (placeV a b).toNat * prodL l = (placeV a b).toNat * prodL l + numL l vs + (placeV a y).toNat * prodL l
      omega
    | b :: vs, hl, i + 1, hx, hv =>
      have := ih (vs := vs) (i := i) y (by simpa using hx) (by simpa using hv) (by simpa using hl)
      show (placeV a b).toNat * prodL l + numL l (vs.set i y) + (placeV x v).toNat * prodL (l.drop (i + 1)) = (placeV a b).toNat * prodL l + numL l vs + (placeV x y).toNat * prodL (l.drop (i + 1))
      omega
theorem next_num {l : List Var} {vs : List Val} (h : Good l vs) : ∀ (i : Nat) (out : List Val), i ≤ l.length → Good l out → out.take i = vs.take i → numL l vs = numL l out + prodL (l.drop i) - 1 →
    (nextFrom l vs i out).2 = true → Good l (nextFrom l vs i out).1 ∧ numL l (nextFrom l vs i out).1 = numL l vs + 1 := by
  intro i
  induction i with
  | zero => intro out _ _ _ _ h; cases h
  | succ i ih =>
    intro out hi ho ht hn hr
    have hil : i < l.length := by omega
    have hiv : i < vs.length := by rw [h.len]; exact hil
    have hio : i < out.length := by rw [ho.len]; exact hil
    have hx := List.getElem?_eq_getElem hil
    have hv := List.getElem?_eq_getElem hiv
    have hgo : out[i]? = some vs[i] := by
      have := congrArg (fun l => l[i]?) ht
      simp only [List.getElem?_take, Nat.lt_succ_self, if_pos] at this
      rw [this, hv]
    obtain ⟨hv1, hv2⟩ := h.each i _ _ hx hv
    have hvb := vars_each h.vars hx
    have hlt := (place_lt (tame_of hvb) hv1).2
    have hdrop : prodL (l.drop i) = (sizeV l[i]).toNat * prodL (l.drop (i + 1)) := by rw [List.drop_eq_getElem_cons hil]; rfl
    have hpp : 0 < prodL (l.drop (i + 1)) := prod_pos fun y hy => varB_of h.vars (List.mem_of_mem_drop hy)
    have setGood : ∀ y, validV y = true → 0 ≤ placeV l[i] y → Good l (out.set i y) := fun y h1 h2 => ⟨h.vars, by rw [List.length_set]; exact ho.len, fun j x v hjx hjv => by
      rw [List.getElem?_set] at hjv
      by_cases e : i = j
      · subst e
        rw [if_pos rfl, if_pos hio] at hjv
        injection hjv with hjv; subst hjv
        rw [hx] at hjx; injection hjx with hjx; subst hjx
        exact ⟨h1, h2⟩
      · rw [if_neg e] at hjv
        exact ho.each j x v hjx hjv⟩
    by_cases hc : placeV l[i] vs[i] + 1 < sizeV l[i]
    · rw [nextFrom_yes hx hv hc] at hr ⊢
      obtain ⟨p, hp⟩ := Int.eq_ofNat_of_zero_le hv2
      have hp1 := place_nth hvb (n := p + 1) (by omega)
      have hg := setGood (nthV l[i] (placeV l[i] vs[i] + 1)) (by rw [hp]; exact nth_valid hvb (n := p + 1) (by omega)) (by rw [hp]; show 0 ≤ placeV _ (nthV _ ((p + 1 : Nat) : Int)); omega)
      refine ⟨hg, ?_⟩
      have := num_set (nthV l[i] (placeV l[i] vs[i] + 1)) hx hgo ho.len
      rw [hp] at this ⊢
      rw [show (p : Int) + 1 = ((p + 1 : Nat) : Int) from rfl] at this ⊢
      rw [hp1] at this
      simp only [Int.toNat_natCast] at this
      rw [Nat.add_mul] at this
      show numL l (out.set i (nthV l[i] ((p + 1 : Nat) : Int))) = _
      omega
    · rw [nextFrom_no hx hv hc] at hr ⊢
      have hsz := size_pos (tame_of hvb)
      have hp0 := place_nth hvb (n := 0) (by omega)
      have hg := setGood (nthV l[i] 0) (nth_valid hvb (n := 0) (by omega)) (by show 0 ≤ placeV _ (nthV _ ((0 : Nat) : Int)); omega)
      refine ih _ (by omega) hg ?_ ?_ hr
      · rw [List.take_set_of_le (Nat.le_refl _)]
        have := congrArg (fun l => l.take i) ht
        simp only [List.take_take] at this
        rw [Nat.min_eq_left (by omega)] at this
        exact this
      · have := num_set (nthV l[i] 0) hx hgo ho.len
        rw [show (0 : Int) = ((0 : Nat) : Int) from rfl, hp0] at this
        simp only [Int.toNat_natCast, Nat.zero_mul, Nat.add_zero] at this
        rw [hdrop]
        have he : (placeV l[i] vs[i]).toNat + 1 = (sizeV l[i]).toNat := by omega
        rw [← he, Nat.add_mul, Nat.one_mul]
        show numL l vs = numL l (out.set i (nthV l[i] ((0 : Nat) : Int))) + _ - 1
        omega
theorem next_good {l : List Var} {vs : List Val} (h : Good l vs) (hn : (nextV l vs).2 = true) : Good l (nextV l vs).1 ∧ numL l (nextV l vs).1 = numL l vs + 1 :=
  next_num h l.length vs (Nat.le_refl _) h rfl (by rw [List.drop_length]; show _ = _ + 1 - 1; omega) hn
def eachL (l : List Var) (q : List Val → Bool) : Nat → List Val → List (List Val)
  | 0, _ => []
  | f + 1, v => v :: if q v && (nextV l v).2 then eachL l q f (nextV l v).1 else []
def asgL (l : List Var) : List (List Val) := eachL l (fun _ => true) (prodL l) (firstV l)
def plentyB (l : List Var) : Bool := decide (10000 < prodL l)
def isM (l : List Var) (x : Ex) (v : List Val) : Bool := match evX l v x with | some a => decide (a.n = 1) | none => false
def modelsE (l : List Var) (x : Ex) : Int × List Val × Int :=
  if (givenE l x).2 ≠ 0 then (0, [], (givenE l x).2)
  else if (givenE l x).1 ≠ 1 then (0, [], 11)
  else if plentyB l then (0, [], 13)
  else ((((asgL l).filter (isM l x)).length : Nat), ((asgL l).filter (isM l x)).head?.getD [], 0)
end Go.Proofs.YtijmnenojbfdnaaGreatDoor

namespace Go.Proofs.YtijmnenojbfdnaaGreatDoor
open Go.RowKit
mutual
def depX : Ex → Nat
  | .mk _ _ _ l => 1 + depL l
def depL : List Ex → Nat
  | [] => 0
  | x :: l => max (depX x) (depL l)
end
theorem depX_eq (x : Ex) : depX x = 1 + depL x.l := by cases x; rw [depX]; rfl
theorem depL_mem {l : List Ex} {y : Ex} (h : y ∈ l) : depX y ≤ depL l := by
  induction l with
  | nil => simp at h
  | cons a l ih =>
    rw [depL]
    rcases List.mem_cons.1 h with rfl | h
    · omega
    · have := ih h; omega
theorem txB_fuel : ∀ (f g : Nat) (x : Ex) (asks : Nat), okX x = true → depX x ≤ f → depX x ≤ g → txB f x asks = txB g x asks
  | 0, _, x, _, _, h, _ => by rw [depX_eq] at h; omega
  | _ + 1, 0, x, _, _, _, h => by rw [depX_eq] at h; omega
  | f + 1, g + 1, x, asks, hok, h1, h2 => by
    rw [depX_eq] at h1 h2
    have hok0 := hok
    rw [okX_eq, Bool.and_eq_true, Bool.and_eq_true] at hok
    obtain ⟨⟨hs, _⟩, hl⟩ := hok
    obtain ⟨s1, s2, s3, s4, s5, s6, s7, s8⟩ := shape_len hs
    have hk : ∀ k asks, k < x.l.length → txB f (kAt x.l k) asks = txB g (kAt x.l k) asks := fun k a h => by
      have := depL_mem (kAt_mem h)
      exact txB_fuel f g _ a (okL_mem hl _ (kAt_mem h)) (by omega) (by omega)
    have hd : (x.l.drop 1).map (fun y => txB f y 0) = (x.l.drop 1).map (fun y => txB g y 0) := List.map_congr_left fun y hy => by
      have hy := List.mem_of_mem_drop hy
      have := depL_mem hy
      exact txB_fuel f g y 0 (okL_mem hl y hy) (by omega) (by omega)
    unfold txB
    dsimp only
    congr 1
    all_goals
      first
      | rfl
      | skip
    all_goals
      by_cases c1 : x.op = 1
      · simp only [if_pos c1]
      by_cases c2 : x.op = 2
      · simp only [if_neg c1, if_pos c2]
      by_cases c3 : x.op = 3
      · have e := s3 c3
        simp only [if_neg c1, if_neg c2, if_pos c3]
        rw [hk 0 4 (by omega)]
      by_cases c12 : x.op = 12
      · have e := s5 c12
        simp only [if_neg c1, if_neg c2, if_neg c3, if_pos c12]
        rw [hk 0 1 (by omega), hk 1 1 (by omega), hk 2 1 (by omega)]
      by_cases c13 : x.op = 13
      · have e := s6 c13
        simp only [if_neg c1, if_neg c2, if_neg c3, if_neg c12, if_pos c13]
        rw [hk 0 6 (by omega), hd]
      · have e := s4 (by omega)
        simp only [if_neg c1, if_neg c2, if_neg c3, if_neg c12, if_neg c13]
        rw [hk 0 _ (by omega), hk 1 _ (by omega)]
def exVar : Var := ⟨⟨#[110]⟩, 2, 0, 3, []⟩
theorem okA : okX exA = true := by kernel_rfl
theorem validA : validX exA = true := by kernel_rfl
theorem validC : validX exC = true := by kernel_rfl
theorem depA : depX exA ≤ 10 := by decide +kernel
theorem md1 : modelsE [exVar] exC = (2, [⟨2, 0, ⟨#[]⟩⟩], 0) := by kernel_rfl
end Go.Proofs.YtijmnenojbfdnaaGreatDoor

namespace Go.Proofs.YtijmnenojbfdnaaGreatDoor
open Go.RowKit
def RExN : Nat → ElemR Ex
  | 0 => fun _ _ _ _ => False
  | n + 1 => fun D w x cs => ∃ lv, cs = [.int .i64 x.op, .int .i64 x.v.kind, .int .i64 x.v.n, .string x.v.s, .string x.s, lv] ∧ Fit x.op ∧ FitV x.v ∧ x.s.size ≤ maxLen ∧ Sl 6 (RExN n) D w lv x.l
theorem RExN.kept : ∀ n, ElemR.Kept (RExN n)
  | 0 => fun _ _ _ _ _ _ _ _ h => h
  | n + 1 => by
    rintro D D' w w' x cs hd hs ⟨lv, rfl, h1, h2, h3, h4⟩
    exact ⟨lv, rfl, h1, h2, h3, Sl.keep h4 (RExN.kept n) hd hs⟩
def SlE (n : Nat) := Sl 6 (RExN n)
def IsEx (n : Nat) (D : Nat → Prop) (w : World) (u : Value) (x : Ex) : Prop :=
  ∃ lv, u = .agg #[.int .i64 x.op, .int .i64 x.v.kind, .int .i64 x.v.n, .string x.v.s, .string x.s, lv] ∧ Fit x.op ∧ FitV x.v ∧ x.s.size ≤ maxLen ∧ SlE n D w lv x.l
section
variable {D : Nat → Prop} {w w' : World} {u : Value} {n : Nat}
theorem IsEx.below {x : Ex} {B B' : Nat} (h : IsEx n (Lt B) w u x) (hb : Below B w w') (hB : B ≤ B') : IsEx n (Lt B') w' u x := by
  obtain ⟨lv, e, h1, h2, h3, h4⟩ := h
  exact ⟨lv, e, h1, h2, h3, Sl.below h4 (RExN.kept n) hb hB⟩
theorem IsEx.now {x : Ex} (h : IsEx n (Lt w.heap.size) w u x) (hb : Below w.heap.size w w') : IsEx n (Lt w'.heap.size) w' u x := h.below hb hb.size
theorem SlE.now {zs : List Ex} (h : SlE n (Lt w.heap.size) w u zs) (hb : Below w.heap.size w w') : SlE n (Lt w'.heap.size) w' u zs := Sl.below h (RExN.kept n) hb hb.size
theorem SlE.open_ {zs : List Ex} (h : SlE n D w u zs) : ∃ A c, u = .slice A zs.length c ∧ zs.length ≤ c ∧ c ≤ 9223372036854775807 ∧ SlE n D w (.slice A zs.length c) zs := Sl.open_ h
theorem Sl.at6 {α : Type} {R : ElemR α} {xs : List α} {A : Option Addr} {m c k : Nat} (h : Sl 6 R D w (.slice A m c) xs) (hk : k < m) :
    ∃ b o x u0 u1 u2 u3 u4 u5, A = some ⟨b, o, none⟩ ∧ D b ∧ xs[k]? = some x ∧ R D w x [u0, u1, u2, u3, u4, u5] ∧ w.cell? ⟨b, o + k * 6, none⟩ = some u0 ∧ w.cell? ⟨b, o + k * 6 + 1, none⟩ = some u1 ∧ w.cell? ⟨b, o + k * 6 + 2, none⟩ = some u2 ∧ w.cell? ⟨b, o + k * 6 + 3, none⟩ = some u3 ∧ w.cell? ⟨b, o + k * 6 + 4, none⟩ = some u4 ∧ w.cell? ⟨b, o + k * 6 + 5, none⟩ = some u5 := by
  obtain ⟨A', c', hv, h1, h2, h3⟩ := h
  injection hv with hA hn hc
  subst hA hn hc
  obtain ⟨b, o, cs, hA, hD, hl, hr, hcell⟩ := h3 k xs[k] (List.getElem?_eq_getElem hk)
  match cs, hl with
  | [u0, u1, u2, u3, u4, u5], _ => exact ⟨b, o, xs[k], u0, u1, u2, u3, u4, u5, hA, hD, List.getElem?_eq_getElem hk, hr, hcell 0 u0 rfl, hcell 1 u1 rfl, hcell 2 u2 rfl, hcell 3 u3 rfl, hcell 4 u4 rfl, hcell 5 u5 rfl⟩
theorem SlE.at_ {zs : List Ex} {A : Option Addr} {m c k : Nat} (h : SlE n D w (.slice A m c) zs) (hk : k < m) :
    ∃ b o x lv n', n = n' + 1 ∧ A = some ⟨b, o, none⟩ ∧ D b ∧ zs[k]? = some x ∧ IsEx n' D w (.agg #[.int .i64 x.op, .int .i64 x.v.kind, .int .i64 x.v.n, .string x.v.s, .string x.s, lv]) x ∧ FitV x.v ∧ SlE n' D w lv x.l ∧
      w.cell? ⟨b, o + k * 6, none⟩ = some (.int .i64 x.op) ∧ w.cell? ⟨b, o + k * 6 + 1, none⟩ = some (.int .i64 x.v.kind) ∧ w.cell? ⟨b, o + k * 6 + 2, none⟩ = some (.int .i64 x.v.n) ∧ w.cell? ⟨b, o + k * 6 + 3, none⟩ = some (.string x.v.s) ∧ w.cell? ⟨b, o + k * 6 + 4, none⟩ = some (.string x.s) ∧ w.cell? ⟨b, o + k * 6 + 5, none⟩ = some lv := by
  cases n with
  | zero => obtain ⟨_, _, _, _, _, _, _, _, _, _, _, _, hr, _⟩ := Sl.at6 h hk; exact hr.elim
  | succ n' =>
    obtain ⟨b, o, x, u0, u1, u2, u3, u4, u5, hA, hD, hx, ⟨lv, hu, a1, a2, a3, a4⟩, h0, h1, h2, h3, h4, h5⟩ := Sl.at6 h hk
    injection hu with e0 hu; injection hu with e1 hu; injection hu with e2 hu; injection hu with e3 hu; injection hu with e4 hu; injection hu with e5 hu
    subst e0 e1 e2 e3 e4 e5
    exact ⟨b, o, x, u5, n', rfl, hA, hD, hx, ⟨u5, rfl, a1, a2, a3, a4⟩, a2, a4, h0, h1, h2, h3, h4, h5⟩
end
theorem RExN.up : ∀ (n m : Nat), n ≤ m → ∀ D w x cs, RExN n D w x cs → RExN m D w x cs
  | 0, _, _, _, _, _, _, h => h.elim
  | n + 1, 0, h, _, _, _, _, _ => absurd h (by omega)
  | n + 1, m + 1, h, D, w, x, cs, hr => by
    obtain ⟨lv, e, h1, h2, h3, A, c, hv, h4, h5, h6⟩ := hr
    refine ⟨lv, e, h1, h2, h3, A, c, hv, h4, h5, fun i y hy => ?_⟩
    obtain ⟨b, o, cs', hA, hD, hl, hr, hc⟩ := h6 i y hy
    exact ⟨b, o, cs', hA, hD, hl, RExN.up n m (by omega) _ _ _ _ hr, hc⟩
theorem SlE.up {n m : Nat} (h : n ≤ m) {D : Nat → Prop} {w : World} {u : Value} {zs : List Ex} (hs : SlE n D w u zs) : SlE m D w u zs := by
  obtain ⟨A, c, hv, h4, h5, h6⟩ := hs
  refine ⟨A, c, hv, h4, h5, fun i y hy => ?_⟩
  obtain ⟨b, o, cs', hA, hD, hl, hr, hc⟩ := h6 i y hy
  exact ⟨b, o, cs', hA, hD, hl, RExN.up n m h _ _ _ _ hr, hc⟩
theorem IsEx.up {n m : Nat} (h : n ≤ m) {D : Nat → Prop} {w : World} {u : Value} {x : Ex} (hs : IsEx n D w u x) : IsEx m D w u x := by
  obtain ⟨lv, e, h1, h2, h3, h4⟩ := hs
  exact ⟨lv, e, h1, h2, h3, h4.up h⟩
theorem mul_quo {a b n : Int} (hb : -4503599627370496 ≤ b ∧ b ≤ 4503599627370496) (h0 : b ≠ 0)
    (hn : n = IntKind.i64.wrap (a * b)) (hq : Int.tdiv n b = a) : n = a * b := by
  have h1 := Int.mul_tdiv_add_tmod n b
  rw [hq] at h1
  have h2 : (Int.tmod n b).natAbs < b.natAbs := by
    rw [Int.natAbs_tmod]
    exact Nat.mod_lt _ (by omega)
  rw [IntKind.wrap_i64] at hn
  rw [Int.mul_comm b a] at h1
  generalize a * b = p at *
  generalize Int.tmod n b = r at *
  omega
theorem mul_fits {a b : Int} (hb0 : b ≠ 0) (h : -4503599627370496 ≤ a * b ∧ a * b ≤ 4503599627370496) : IntKind.i64.wrap (a * b) = a * b ∧ Int.tdiv (a * b) b = a :=
  ⟨IntWalk.i64_in _ (by omega), Int.mul_tdiv_cancel a hb0⟩
end Go.Proofs.YtijmnenojbfdnaaGreatDoor

namespace Go.Proofs.YtijmnenojbfdnaaGreatDoor
open Go.RowKit
theorem key_or (s : ByteArray) : keyB s = ((s.toList == [97, 110, 100]) || (s.toList == [101, 108, 115, 101]) || (s.toList == [102, 97, 108, 115, 101]) || (s.toList == [105, 102]) || (s.toList == [105, 110]) || (s.toList == [110, 111, 116]) || (s.toList == [111, 114]) || (s.toList == [116, 104, 101, 110]) || (s.toList == [116, 114, 117, 101])) := by
  show (s.toList == [97, 110, 100] || (s.toList == [101, 108, 115, 101] || (s.toList == [102, 97, 108, 115, 101] || (s.toList == [105, 102] || (s.toList == [105, 110] || (s.toList == [110, 111, 116] || (s.toList == [111, 114] || (s.toList == [116, 104, 101, 110] || (s.toList == [116, 114, 117, 101] || false))))))))) = _
  simp only [Bool.or_assoc, Bool.or_false]
set_option maxHeartbeats 1000000 in
theorem key_any (s : ByteArray) (w : World) : Calls Tryz.prog 147 #[.string s] w fun e w' => e = .returned (.bool (keyB s)) ∧ w = w' := by
  have hk := key_or s
  have HK := Lib.hid hk
  clear hk
  go_enter Tryz.func147, Tryz.ntmps147
  generalize h0 : (s.toList == [97, 110, 100]) = q0
  cases q0
  rotate_left
  · have HE : Hid (keyB s = true) := by
      show _ = _
      rw [HK.out, h0]; simp
    go_wp2_with fail
    go_ret
    exact ⟨ret_bool HE.out.symm, rfl⟩
  generalize h1 : (s.toList == [101, 108, 115, 101]) = q1
  cases q1
  rotate_left
  · have HE : Hid (keyB s = true) := by
      show _ = _
      rw [HK.out, h0, h1]; simp
    go_wp2_with fail
    go_ret
    exact ⟨ret_bool HE.out.symm, rfl⟩
  generalize h2 : (s.toList == [102, 97, 108, 115, 101]) = q2
  cases q2
  rotate_left
  · have HE : Hid (keyB s = true) := by
      show _ = _
      rw [HK.out, h0, h1, h2]; simp
    go_wp2_with fail
    go_ret
    exact ⟨ret_bool HE.out.symm, rfl⟩
  generalize h3 : (s.toList == [105, 102]) = q3
  cases q3
  rotate_left
  · have HE : Hid (keyB s = true) := by
      show _ = _
      rw [HK.out, h0, h1, h2, h3]; simp
    go_wp2_with fail
    go_ret
    exact ⟨ret_bool HE.out.symm, rfl⟩
  generalize h4 : (s.toList == [105, 110]) = q4
  cases q4
  rotate_left
  · have HE : Hid (keyB s = true) := by
      show _ = _
      rw [HK.out, h0, h1, h2, h3, h4]; simp
    go_wp2_with fail
    go_ret
    exact ⟨ret_bool HE.out.symm, rfl⟩
  generalize h5 : (s.toList == [110, 111, 116]) = q5
  cases q5
  rotate_left
  · have HE : Hid (keyB s = true) := by
      show _ = _
      rw [HK.out, h0, h1, h2, h3, h4, h5]; simp
    go_wp2_with fail
    go_ret
    exact ⟨ret_bool HE.out.symm, rfl⟩
  generalize h6 : (s.toList == [111, 114]) = q6
  cases q6
  rotate_left
  · have HE : Hid (keyB s = true) := by
      show _ = _
      rw [HK.out, h0, h1, h2, h3, h4, h5, h6]; simp
    go_wp2_with fail
    go_ret
    exact ⟨ret_bool HE.out.symm, rfl⟩
  generalize h7 : (s.toList == [116, 104, 101, 110]) = q7
  cases q7
  rotate_left
  · have HE : Hid (keyB s = true) := by
      show _ = _
      rw [HK.out, h0, h1, h2, h3, h4, h5, h6, h7]; simp
    go_wp2_with fail
    go_ret
    exact ⟨ret_bool HE.out.symm, rfl⟩
  generalize h8 : (s.toList == [116, 114, 117, 101]) = q8
  cases q8
  rotate_left
  · have HE : Hid (keyB s = true) := by
      show _ = _
      rw [HK.out, h0, h1, h2, h3, h4, h5, h6, h7, h8]; simp
    go_wp2_with fail
    go_ret
    exact ⟨ret_bool HE.out.symm, rfl⟩
  have HE : Hid (keyB s = false) := by
    show _ = _
    rw [HK.out, h0, h1, h2, h3, h4, h5, h6, h7, h8]; rfl
  go_wp2_with fail
  go_ret
  exact ⟨ret_bool HE.out.symm, rfl⟩
def keyBA : List ByteArray := [⟨#[97, 110, 100]⟩, ⟨#[101, 108, 115, 101]⟩, ⟨#[102, 97, 108, 115, 101]⟩, ⟨#[105, 102]⟩, ⟨#[105, 110]⟩, ⟨#[110, 111, 116]⟩, ⟨#[111, 114]⟩, ⟨#[116, 104, 101, 110]⟩, ⟨#[116, 114, 117, 101]⟩]
theorem key_at (s : ByteArray) : decide (0 ≤ atS keyBA s) = keyB s := by
  rw [atS_any, key_or]
  have t : ∀ (l : List UInt8), (⟨l.toArray⟩ : ByteArray).toList = l := fun l => by rw [Lib.toList_data]
  have e : ∀ l : List UInt8, (l == s.toList) = (s.toList == l) := fun l => by rw [Bool.eq_iff_iff]; simp only [beq_iff_eq]; exact eq_comm
  show ((⟨[97, 110, 100].toArray⟩ : ByteArray).toList == s.toList || ((⟨[101, 108, 115, 101].toArray⟩ : ByteArray).toList == s.toList || ((⟨[102, 97, 108, 115, 101].toArray⟩ : ByteArray).toList == s.toList || ((⟨[105, 102].toArray⟩ : ByteArray).toList == s.toList || ((⟨[105, 110].toArray⟩ : ByteArray).toList == s.toList || ((⟨[110, 111, 116].toArray⟩ : ByteArray).toList == s.toList || ((⟨[111, 114].toArray⟩ : ByteArray).toList == s.toList || ((⟨[116, 104, 101, 110].toArray⟩ : ByteArray).toList == s.toList || ((⟨[116, 114, 117, 101].toArray⟩ : ByteArray).toList == s.toList || false))))))))) = _
  rw [t [97, 110, 100], t [101, 108, 115, 101], t [102, 97, 108, 115, 101], t [105, 102], t [105, 110], t [110, 111, 116], t [111, 114], t [116, 104, 101, 110], t [116, 114, 117, 101], e [97, 110, 100], e [101, 108, 115, 101], e [102, 97, 108, 115, 101], e [105, 102], e [105, 110], e [110, 111, 116], e [111, 114], e [116, 104, 101, 110], e [116, 114, 117, 101], Bool.or_false]
  simp only [Bool.or_assoc]
theorem keys_ref (w : World) : Calls Tryz.prog 182 #[] w fun e w' => e = .returned (.slice (some ⟨w.heap.size, 0, none⟩) 9 9) ∧ w' = w.alloc (.cells #[.string ⟨#[97, 110, 100]⟩, .string ⟨#[101, 108, 115, 101]⟩, .string ⟨#[102, 97, 108, 115, 101]⟩, .string ⟨#[105, 102]⟩, .string ⟨#[105, 110]⟩, .string ⟨#[110, 111, 116]⟩, .string ⟨#[111, 114]⟩, .string ⟨#[116, 104, 101, 110]⟩, .string ⟨#[116, 114, 117, 101]⟩] 9) := by
  go_enter Tryz.func182, Tryz.ntmps182
  go_wp2_with fail
  go_ret
  exact ⟨rfl, rfl⟩
set_option maxHeartbeats 1000000 in
theorem key_ref (s : ByteArray) (w : World) : Calls Tryz.prog 145 #[.string s] w fun e w' => e = .returned (.bool (keyB s)) ∧ Below w.heap.size w w' := by
  have hB := Blk.new w 9 (keyBA.map Value.string).toArray
  have hb := bone w (.cells (keyBA.map Value.string).toArray 9)
  have hS : SlS (Lt _) _ _ keyBA := SlS.ofBlk hB (by unfold maxLen keyBA; simp) (by intro z hz; unfold maxLen; simp only [keyBA, List.mem_cons, List.not_mem_nil, or_false] at hz; rcases hz with rfl | rfl | rfl | rfl | rfl | rfl | rfl | rfl | rfl <;> simp [ByteArray.size])
  have hcells : (keyBA.map Value.string).toArray = #[.string ⟨#[97, 110, 100]⟩, .string ⟨#[101, 108, 115, 101]⟩, .string ⟨#[102, 97, 108, 115, 101]⟩, .string ⟨#[105, 102]⟩, .string ⟨#[105, 110]⟩, .string ⟨#[110, 111, 116]⟩, .string ⟨#[111, 114]⟩, .string ⟨#[116, 104, 101, 110]⟩, .string ⟨#[116, 114, 117, 101]⟩] := rfl
  have hlen : keyBA.length = 9 := rfl
  rw [hcells] at hB hb hS
  rw [hlen] at hS
  have hka := key_at s
  have HK := Lib.hid hka
  clear hka hcells
  go_enter Tryz.func145, Tryz.ntmps145
  go_wp2_with fail
  refine (keys_ref _).mono ?_
  rintro e w1 ⟨rfl, rfl⟩
  go_wp2_with fail
  refine (index_ref _ keyBA s _ hS).mono ?_
  rintro e w2 ⟨rfl, rfl⟩
  generalize atS keyBA s = z at *
  go_wp2_with fail
  go_ret
  exact ⟨ret_bool HK.out, hb⟩
end Go.Proofs.YtijmnenojbfdnaaGreatDoor

namespace Go.Proofs.YtijmnenojbfdnaaGreatDoor
open Go.RowKit
theorem eqV_bool (a b : Val) : decide (a = b) = (a.kind == b.kind && (a.n == b.n && a.s.toList == b.s.toList)) := by
  obtain ⟨k, n, s⟩ := a
  obtain ⟨k', n', s'⟩ := b
  rw [Bool.eq_iff_iff]
  simp only [decide_eq_true_eq, Val.mk.injEq, Bool.and_eq_true, beq_iff_eq]
  constructor
  · rintro ⟨rfl, rfl, rfl⟩; simp
  · rintro ⟨rfl, rfl, h⟩
    refine ⟨rfl, rfl, ?_⟩
    rw [Lib.toList_data, Lib.toList_data] at h
    cases s; cases s'
    congr 1
    exact Array.toList_inj.1 h
set_option maxRecDepth 100000 in
theorem run_eqV (w : World) (a b : Val) : (binOp .eql 25 (.agg #[.int .i64 a.kind, .int .i64 a.n, .string a.s]) (.agg #[.int .i64 b.kind, .int .i64 b.n, .string b.s])).run Tryz.prog w = .ok (.bool (decide (a = b))) w := by
  rw [eqV_bool, run_eql_struct, run_equalIn_struct w 9999 25 _ _ (by kernel_rfl) (by kernel_rfl)]
  unfold Program.fieldsOf
  rw [Tryz.underlying25]
  simp [Op.eqFields, go_sem, Tryz.underlying3, Tryz.underlying9]
  by_cases h1 : a.kind = b.kind <;> by_cases h2 : a.n = b.n <;> by_cases h3 : a.s.toList = b.s.toList <;> simp [h1, h2, h3]
set_option maxRecDepth 100000 in
theorem run_neV (w : World) (a b : Val) : (binOp .neq 25 (.agg #[.int .i64 a.kind, .int .i64 a.n, .string a.s]) (.agg #[.int .i64 b.kind, .int .i64 b.n, .string b.s])).run Tryz.prog w = .ok (.bool (!decide (a = b))) w := by
  have h := run_eqV w a b
  rw [run_eql_struct] at h
  rw [run_neq_struct]
  cases hr : (Op.equalIn 10000 25 (.agg #[.int .i64 a.kind, .int .i64 a.n, .string a.s]) (.agg #[.int .i64 b.kind, .int .i64 b.n, .string b.s])).run Tryz.prog w with
  | ok r w' =>
    rw [hr] at h
    simp only [Result.andThen_ok, Result.ok.injEq, Value.bool.injEq] at h
    obtain ⟨rfl, rfl⟩ := h
    simp only [Result.andThen_ok]
  | halt x w' => rw [hr] at h; simp [Result.andThen] at h
end Go.Proofs.YtijmnenojbfdnaaGreatDoor
