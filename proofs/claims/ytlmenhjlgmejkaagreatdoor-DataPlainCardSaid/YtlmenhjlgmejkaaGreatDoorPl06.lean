/- Merged texts. -/
import Derived.Test.YtlmenhjlgmejkaaGreatDoorPl05
set_option linter.all false
namespace Go.Proofs.YtlmenhjlgmejkaaGreatDoor
open Go.RowKit
inductive Ex where
  | mk (op : Int) (v : Val) (s : ByteArray) (l : List Ex) : Ex
def Ex.op : Ex → Int | .mk o _ _ _ => o
def Ex.v : Ex → Val | .mk _ v _ _ => v
def Ex.s : Ex → ByteArray | .mk _ _ s _ => s
def Ex.l : Ex → List Ex | .mk _ _ _ l => l
def keyWords : List (List UInt8) := [[97, 110, 100], [101, 108, 115, 101], [102, 97, 108, 115, 101], [105, 102], [105, 110], [110, 111, 116], [111, 114], [116, 104, 101, 110], [116, 114, 117, 101]]
def keyB (s : ByteArray) : Bool := keyWords.any fun w => s.toList == w
def zeroV (v : Val) : Bool := decide (v = noV)
def shapeX (x : Ex) : Bool :=
  if x.op = 1 then decide (x.l.length = 0) && noS x.s && validV x.v
  else if x.op = 2 then decide (x.l.length = 0) && zeroV x.v && isNameB x.s && !keyB x.s
  else zeroV x.v && noS x.s &&
    (if x.op = 3 then decide (x.l.length = 1)
     else if 4 ≤ x.op ∧ x.op ≤ 11 then decide (x.l.length = 2)
     else if x.op = 12 then decide (x.l.length = 3)
     else if x.op = 13 then decide (2 ≤ x.l.length) && (x.l.drop 1).all fun y => decide (y.op = 1)
     else false)
mutual
/-- How many nodes are left after those of an expression; -1: it is not well-formed. -/
def cntX : Ex → Int → Int → Int
  | .mk o v s l, a, d => if a ≤ 0 ∨ d ≤ 0 ∨ shapeX (.mk o v s l) = false then -1 else cntL l (a - 1) (d - 1)
def cntL : List Ex → Int → Int → Int
  | [], a, _ => a
  | x :: l, a, d => if cntX x a d < 0 then -1 else cntL l (cntX x a d) d
end
theorem cntX_eq (x : Ex) (a d : Int) : cntX x a d = if a ≤ 0 ∨ d ≤ 0 ∨ shapeX x = false then -1 else cntL x.l (a - 1) (d - 1) := by
  cases x; rw [cntX]; rfl
def validX (x : Ex) : Bool := decide (0 ≤ cntX x 400 60)
mutual
/-- Well-formed in all its parts. -/
def okX : Ex → Bool
  | .mk o v s l => shapeX (.mk o v s l) && decide (l.length ≤ 400) && okL l
def okL : List Ex → Bool
  | [] => true
  | x :: l => okX x && okL l
end
theorem okX_eq (x : Ex) : okX x = (shapeX x && decide (x.l.length ≤ 400) && okL x.l) := by cases x; rw [okX]; rfl
theorem okL_mem {l : List Ex} (h : okL l = true) : ∀ x ∈ l, okX x = true := by
  induction l with
  | nil => intro x hx; simp at hx
  | cons a l ih =>
    rw [okL, Bool.and_eq_true] at h
    intro x hx
    rcases List.mem_cons.1 hx with rfl | hx
    · exact h.1
    · exact ih h.2 x hx
mutual
theorem cntX_ok : ∀ (x : Ex) (a d : Int), a ≤ 400 → 0 ≤ cntX x a d → okX x = true ∧ cntX x a d < a
  | .mk o v s l, a, d, ha, h => by
    rw [cntX] at h ⊢
    split at h
    · omega
    · rename_i hc
      rw [if_neg hc]
      have hc1 : ¬ a ≤ 0 := fun e => hc (.inl e)
      have hc3 : shapeX (.mk o v s l) = true := by
        cases e : shapeX (.mk o v s l)
        · exact absurd (.inr (.inr e)) hc
        · rfl
      obtain ⟨h1, h2, h3⟩ := cntL_ok l (a - 1) (d - 1) (by omega) h
      refine ⟨?_, by omega⟩
      rw [okX, hc3, h1, decide_eq_true (by omega)]; rfl
theorem cntL_ok : ∀ (l : List Ex) (a d : Int), a ≤ 400 → 0 ≤ cntL l a d → okL l = true ∧ cntL l a d ≤ a ∧ l.length ≤ a - cntL l a d
  | [], a, d, ha, h => by rw [cntL] at h ⊢; exact ⟨rfl, by omega, by simp⟩
  | x :: l, a, d, ha, h => by
    rw [cntL] at h ⊢
    split at h
    · omega
    · rename_i hc
      rw [if_neg hc]
      obtain ⟨h1, h2⟩ := cntX_ok x a d ha (by omega)
      obtain ⟨h3, h4, h5⟩ := cntL_ok l (cntX x a d) d (by omega) h
      refine ⟨by rw [okL, h1, h3]; rfl, by omega, ?_⟩
      rw [List.length_cons]; omega
end
theorem valid_ok {x : Ex} (h : validX x = true) : okX x = true := (cntX_ok x 400 60 (by omega) (by unfold validX at h; simpa using h)).1
def findV (vs : List Var) (s : ByteArray) : Int := match vs.findIdx? (fun x => x.name.toList == s.toList) with | some i => (i : Int) | none => -1
def kindAt (vs : List Var) (i : Int) : Int := (vs[i.toNat]?.map Var.kind).getD 0
def typO (vs : List Var) (x : Ex) (ks : List Int) : Int × Int :=
  if x.op = 1 then (x.v.kind, 0)
  else if x.op = 2 then (if findV vs x.s < 0 then (0, 8) else (kindAt vs (findV vs x.s), 0))
  else if x.op = 9 ∨ x.op = 10 ∨ x.op = 11 then (if ks.all (· == 2) then (2, 0) else (0, 11))
  else if x.op = 7 ∨ x.op = 8 then (if ks.all (· == 2) then (1, 0) else (0, 11))
  else if x.op = 3 ∨ x.op = 4 ∨ x.op = 5 then (if ks.all (· == 1) then (1, 0) else (0, 11))
  else if x.op = 12 then (if ks.getD 0 0 = 1 ∧ ks.getD 1 0 = ks.getD 2 0 then (ks.getD 1 0, 0) else (0, 11))
  else (if ks.all (· == ks.getD 0 0) then (1, 0) else (0, 11))
mutual
def typX (vs : List Var) : Ex → Int × Int
  | .mk o v s l => if (typL vs l).2 ≠ 0 then (0, (typL vs l).2) else typO vs (.mk o v s l) (typL vs l).1
def typL (vs : List Var) : List Ex → List Int × Int
  | [] => ([], 0)
  | x :: l => if (typX vs x).2 ≠ 0 then ([], (typX vs x).2) else if (typL vs l).2 ≠ 0 then ([], (typL vs l).2) else ((typX vs x).1 :: (typL vs l).1, 0)
end
theorem typX_eq (vs : List Var) (x : Ex) : typX vs x = if (typL vs x.l).2 ≠ 0 then (0, (typL vs x.l).2) else typO vs x (typL vs x.l).1 := by cases x; rw [typX]; rfl
theorem typL_nil (vs : List Var) : typL vs [] = ([], 0) := by rw [typL]
theorem typL_cons (vs : List Var) (x : Ex) (l : List Ex) : typL vs (x :: l) = if (typX vs x).2 ≠ 0 then ([], (typX vs x).2) else if (typL vs l).2 ≠ 0 then ([], (typL vs l).2) else ((typX vs x).1 :: (typL vs l).1, 0) := by rw [typL]
theorem typL_ok {vs : List Var} {l : List Ex} (h : (typL vs l).2 = 0) : (typL vs l).1 = l.map (fun x => (typX vs x).1) ∧ ∀ x ∈ l, (typX vs x).2 = 0 := by
  induction l with
  | nil => rw [typL_nil]; exact ⟨rfl, fun x hx => by simp at hx⟩
  | cons x l ih =>
    rw [typL_cons] at h ⊢
    by_cases h1 : (typX vs x).2 ≠ 0
    · rw [if_pos h1] at h; exact absurd h h1
    · rw [if_neg h1] at h ⊢
      by_cases h2 : (typL vs l).2 ≠ 0
      · rw [if_pos h2] at h; exact absurd h h2
      · rw [if_neg h2] at h ⊢
        obtain ⟨i1, i2⟩ := ih (by simpa using h2)
        refine ⟨by rw [i1]; rfl, fun y hy => ?_⟩
        rcases List.mem_cons.1 hy with rfl | hy
        · simpa using h1
        · exact i2 y hy
def givenE (vs : List Var) (x : Ex) : Int × Int := if validX x && varsB vs then typX vs x else (0, 1)
def truthV (b : Bool) : Val := ⟨1, if b then 1 else 0, emptyS⟩
def numV (n : Int) : Option Val := if numB n then some ⟨2, n, emptyS⟩ else none
def varV (vs : List Var) (vals : List Val) (s : ByteArray) : Val := vals.getD (findV vs s).toNat noV
def evO (vs : List Var) (vals : List Val) (x : Ex) (es : List (Option Val)) : Option Val :=
  if x.op = 1 then some x.v
  else if x.op = 2 then some (varV vs vals x.s)
  else match es.getD 0 none with
  | none => none
  | some a =>
    if x.op = 3 then some (truthV (decide (a.n = 0)))
    else if x.op = 4 then (if a.n = 1 then es.getD 1 none else some a)
    else if x.op = 5 then (if a.n = 1 then some a else es.getD 1 none)
    else if x.op = 12 then (if a.n = 1 then es.getD 1 none else es.getD 2 none)
    else if x.op = 13 then some (truthV ((x.l.drop 1).any fun y => decide (y.v = a)))
    else match es.getD 1 none with
    | none => none
    | some b =>
      if x.op = 6 then some (truthV (decide (a = b)))
      else if x.op = 7 then some (truthV (decide (a.n < b.n)))
      else if x.op = 8 then some (truthV (decide (a.n ≤ b.n)))
      else if x.op = 9 then numV (a.n + b.n)
      else if x.op = 10 then numV (a.n - b.n)
      else numV (a.n * b.n)
mutual
def evX (vs : List Var) (vals : List Val) : Ex → Option Val
  | .mk o v s l => evO vs vals (.mk o v s l) (evL vs vals l)
def evL (vs : List Var) (vals : List Val) : List Ex → List (Option Val)
  | [] => []
  | x :: l => evX vs vals x :: evL vs vals l
end
theorem evX_eq (vs : List Var) (vals : List Val) (x : Ex) : evX vs vals x = evO vs vals x (evL vs vals x.l) := by cases x; rw [evX]; rfl
theorem evL_eq (vs : List Var) (vals : List Val) (l : List Ex) : evL vs vals l = l.map (evX vs vals) := by
  induction l with
  | nil => rw [evL]; rfl
  | cons x l ih => rw [evL, ih]; rfl
def evalE (vs : List Var) (vals : List Val) (x : Ex) : Val × Int :=
  if (givenE vs x).2 ≠ 0 then (noV, (givenE vs x).2)
  else if (inAllE vs vals).2 = 0 ∧ (inAllE vs vals).1 = true then (match evX vs vals x with | some a => (a, 0) | none => (noV, 6))
  else (noV, 11)
theorem shape_len {x : Ex} (h : shapeX x = true) : (x.op = 1 → x.l.length = 0) ∧ (x.op = 2 → x.l.length = 0) ∧ (x.op = 3 → x.l.length = 1) ∧ (4 ≤ x.op ∧ x.op ≤ 11 → x.l.length = 2) ∧ (x.op = 12 → x.l.length = 3) ∧ (x.op = 13 → 2 ≤ x.l.length) ∧ 1 ≤ x.op ∧ x.op ≤ 13 := by
  unfold shapeX at h
  split at h
  · rename_i h1
    simp only [Bool.and_eq_true, decide_eq_true_eq] at h
    exact ⟨fun _ => h.1.1, fun _ => by omega, fun _ => by omega, fun _ => by omega, fun _ => by omega, fun _ => by omega, by omega, by omega⟩
  split at h
  · rename_i h1
    simp only [Bool.and_eq_true, decide_eq_true_eq] at h
    exact ⟨fun _ => by omega, fun _ => h.1.1.1, fun _ => by omega, fun _ => by omega, fun _ => by omega, fun _ => by omega, by omega, by omega⟩
  rw [Bool.and_eq_true] at h
  have h := h.2
  split at h
  · rw [decide_eq_true_eq] at h
    exact ⟨fun _ => by omega, fun _ => by omega, fun _ => h, fun _ => by omega, fun _ => by omega, fun _ => by omega, by omega, by omega⟩
  split at h
  · rw [decide_eq_true_eq] at h
    exact ⟨fun _ => by omega, fun _ => by omega, fun _ => by omega, fun _ => h, fun _ => by omega, fun _ => by omega, by omega, by omega⟩
  split at h
  · rw [decide_eq_true_eq] at h
    exact ⟨fun _ => by omega, fun _ => by omega, fun _ => by omega, fun _ => by omega, fun _ => h, fun _ => by omega, by omega, by omega⟩
  split at h
  · rw [Bool.and_eq_true, decide_eq_true_eq] at h
    exact ⟨fun _ => by omega, fun _ => by omega, fun _ => by omega, fun _ => by omega, fun _ => by omega, fun _ => h.1, by omega, by omega⟩
  · cases h
theorem truth_valid (b : Bool) : validV (truthV b) = true := by cases b <;> decide +kernel
theorem numV_some {n : Int} {a : Val} (h : numV n = some a) : a = ⟨2, n, emptyS⟩ ∧ numB n = true := by
  unfold numV at h
  split at h
  · rename_i h1; injection h with h; exact ⟨h.symm, h1⟩
  · cases h
theorem num_valid {n : Int} (h : numB n = true) : validV ⟨2, n, emptyS⟩ = true := by
  show (numB n && noS emptyS) = true
  rw [h, show noS emptyS = true by decide +kernel]; rfl
structure Asg (vs : List Var) (vals : List Val) : Prop where
  len : vals.length = vs.length
  each : ∀ (i : Nat) (x : Var) (v : Val), vs[i]? = some x → vals[i]? = some v → v.kind = x.kind ∧ validV v = true
theorem find_at {vs : List Var} {s : ByteArray} (h : ¬ findV vs s < 0) : ∃ (i : Nat) (x : Var), findV vs s = i ∧ vs[i]? = some x := by
  unfold findV at h ⊢
  cases hf : vs.findIdx? (fun x => x.name.toList == s.toList) with
  | none => rw [hf] at h; exact absurd (by decide) h
  | some i =>
    rw [List.findIdx?_eq_some_iff_getElem] at hf
    obtain ⟨h1, _⟩ := hf
    exact ⟨i, vs[i], rfl, List.getElem?_eq_getElem h1⟩
theorem es_at {f : Ex → Option Val} {l : List Ex} {i : Nat} {a : Val} (h : (l.map f).getD i none = some a) : ∃ hi : i < l.length, f l[i] = some a := by
  rcases Nat.lt_or_ge i l.length with hi | hi
  · refine ⟨hi, ?_⟩
    rw [List.getD_eq_getElem?_getD, List.getElem?_map, List.getElem?_eq_getElem hi] at h
    exact h
  · rw [List.getD_eq_getElem?_getD, List.getElem?_eq_none (by simpa using hi)] at h
    cases h
theorem ks_at {f : Ex → Int} {l : List Ex} {i : Nat} (hi : i < l.length) : (l.map f).getD i 0 = f l[i] := by
  rw [List.getD_eq_getElem?_getD, List.getElem?_map, List.getElem?_eq_getElem hi]; rfl
theorem all_at {f : Ex → Int} {l : List Ex} {k : Int} (h : (l.map f).all (· == k) = true) {i : Nat} (hi : i < l.length) : f l[i] = k := by
  rw [List.all_eq_true] at h
  have := h (f l[i]) (List.mem_map.2 ⟨_, List.getElem_mem hi, rfl⟩)
  exact eq_of_beq this
theorem ev_node {vs : List Var} {vals : List Val} (hA : Asg vs vals) (x : Ex) (hs : shapeX x = true)
    (ih : ∀ y ∈ x.l, (typX vs y).2 = 0 → ∀ a, evX vs vals y = some a → a.kind = (typX vs y).1 ∧ validV a = true)
    (ht : (typX vs x).2 = 0) (a : Val) (ha : evX vs vals x = some a) : a.kind = (typX vs x).1 ∧ validV a = true := by
  obtain ⟨l1, l2, l3, l4, l5, l6, o1, o2⟩ := shape_len hs
  rw [typX_eq] at ht ⊢
  rw [evX_eq, evL_eq] at ha
  by_cases h0 : (typL vs x.l).2 ≠ 0
  · rw [if_pos h0] at ht; exact absurd ht h0
  rw [if_neg h0] at ht ⊢
  obtain ⟨k1, k2⟩ := typL_ok (vs := vs) (l := x.l) (by simpa using h0)
  rw [k1] at ht ⊢
  have ihat : ∀ (i : Nat) (hi : i < x.l.length) (b : Val), evX vs vals x.l[i] = some b → b.kind = (typX vs x.l[i]).1 ∧ validV b = true :=
    fun i hi b hb => ih _ (List.getElem_mem hi) (k2 _ (List.getElem_mem hi)) b hb
  unfold typO at ht ⊢
  unfold evO at ha
  by_cases c1 : x.op = 1
  · rw [if_pos c1] at ht ha ⊢
    injection ha with ha
    subst ha
    refine ⟨rfl, ?_⟩
    unfold shapeX at hs
    rw [if_pos c1] at hs
    simp only [Bool.and_eq_true] at hs
    exact hs.2
  rw [if_neg c1] at ht ha ⊢
  by_cases c2 : x.op = 2
  · rw [if_pos c2] at ht ha ⊢
    by_cases hf : findV vs x.s < 0
    · rw [if_pos hf] at ht; cases ht
    rw [if_neg hf] at ht ⊢
    obtain ⟨i, y, h1, h2⟩ := find_at hf
    injection ha with ha
    have hi : i < vals.length := by
      rw [hA.len]
      rcases Nat.lt_or_ge i vs.length with h | h
      · exact h
      · rw [List.getElem?_eq_none h] at h2; cases h2
    have hv : varV vs vals x.s = vals[i] := by
      unfold varV
      rw [h1, Int.toNat_natCast, List.getD_eq_getElem?_getD, List.getElem?_eq_getElem hi]; rfl
    have hk : kindAt vs (findV vs x.s) = y.kind := by unfold kindAt; rw [h1, Int.toNat_natCast, h2]; rfl
    rw [hv] at ha
    rw [hk, ← ha]
    exact hA.each i y _ h2 (List.getElem?_eq_getElem hi)
  rw [if_neg c2] at ht ha ⊢
  cases he : (x.l.map (evX vs vals)).getD 0 none with
  | none => rw [he] at ha; cases ha
  | some b =>
    rw [he] at ha
    simp only at ha
    obtain ⟨hi0, hb⟩ := es_at he
    have hb' := ihat 0 hi0 b hb
    by_cases c9 : x.op = 9 ∨ x.op = 10 ∨ x.op = 11
    · rw [if_pos c9] at ht ⊢
      split at ht
      · rename_i hall
        rw [if_pos hall]
        rw [if_neg (by omega), if_neg (by omega), if_neg (by omega), if_neg (by omega), if_neg (by omega)] at ha
        cases he1 : (x.l.map (evX vs vals)).getD 1 none with
        | none => rw [he1] at ha; cases ha
        | some c =>
          rw [he1] at ha
          simp only at ha
          rw [if_neg (by omega), if_neg (by omega), if_neg (by omega)] at ha
          split at ha
          · obtain ⟨e, h⟩ := numV_some ha; subst e; exact ⟨rfl, num_valid h⟩
          split at ha
          · obtain ⟨e, h⟩ := numV_some ha; subst e; exact ⟨rfl, num_valid h⟩
          · obtain ⟨e, h⟩ := numV_some ha; subst e; exact ⟨rfl, num_valid h⟩
      · cases ht
    rw [if_neg c9] at ht ⊢
    by_cases c7 : x.op = 7 ∨ x.op = 8
    · rw [if_pos c7] at ht ⊢
      split at ht
      · rename_i hall
        rw [if_pos hall]
        rw [if_neg (by omega), if_neg (by omega), if_neg (by omega), if_neg (by omega), if_neg (by omega)] at ha
        cases he1 : (x.l.map (evX vs vals)).getD 1 none with
        | none => rw [he1] at ha; cases ha
        | some c =>
          rw [he1] at ha
          simp only at ha
          rw [if_neg (by omega)] at ha
          split at ha
          · injection ha with ha; subst ha; exact ⟨rfl, truth_valid _⟩
          · rw [if_pos (by omega)] at ha
            injection ha with ha; subst ha; exact ⟨rfl, truth_valid _⟩
      · cases ht
    rw [if_neg c7] at ht ⊢
    by_cases c3 : x.op = 3 ∨ x.op = 4 ∨ x.op = 5
    · rw [if_pos c3] at ht ⊢
      split at ht
      · rename_i hall
        rw [if_pos hall]
        have hb1 : b.kind = 1 ∧ validV b = true := ⟨hb'.1.trans (all_at hall hi0), hb'.2⟩
        split at ha
        · injection ha with ha; subst ha; exact ⟨rfl, truth_valid _⟩
        have hsec : ∀ c, (x.l.map (evX vs vals)).getD 1 none = some c → c.kind = 1 ∧ validV c = true := by
          intro c hc
          obtain ⟨hi1, hc⟩ := es_at hc
          have := ihat 1 hi1 c hc
          exact ⟨this.1.trans (all_at hall hi1), this.2⟩
        split at ha
        · split at ha
          · exact hsec _ ha
          · injection ha with ha; subst ha; exact hb1
        · rw [if_pos (by omega)] at ha
          split at ha
          · injection ha with ha; subst ha; exact hb1
          · exact hsec _ ha
      · cases ht
    rw [if_neg c3] at ht ⊢
    by_cases c12 : x.op = 12
    · rw [if_pos c12] at ht ⊢
      split at ht
      · rename_i hall
        rw [if_pos hall]
        rw [if_neg (by omega), if_neg (by omega), if_neg (by omega), if_pos c12] at ha
        have h3 := l5 c12
        split at ha
        · obtain ⟨hi1, hc⟩ := es_at ha
          have := ihat 1 hi1 a hc
          exact ⟨by rw [this.1, ks_at hi1], this.2⟩
        · obtain ⟨hi2, hc⟩ := es_at ha
          have := ihat 2 hi2 a hc
          exact ⟨by rw [this.1, hall.2, ks_at hi2], this.2⟩
      · cases ht
    rw [if_neg c12] at ht ⊢
    split at ht
    · rename_i hall
      rw [if_pos hall]
      rw [if_neg (by omega), if_neg (by omega), if_neg (by omega), if_neg c12] at ha
      split at ha
      · injection ha with ha; subst ha; exact ⟨rfl, truth_valid _⟩
      · cases he1 : (x.l.map (evX vs vals)).getD 1 none with
        | none => rw [he1] at ha; cases ha
        | some c =>
          rw [he1] at ha
          simp only at ha
          rw [if_pos (by omega)] at ha
          injection ha with ha; subst ha; exact ⟨rfl, truth_valid _⟩
    · cases ht
mutual
theorem ev_typed {vs : List Var} {vals : List Val} (hA : Asg vs vals) : ∀ (x : Ex), okX x = true → (typX vs x).2 = 0 → ∀ a, evX vs vals x = some a → a.kind = (typX vs x).1 ∧ validV a = true
  | .mk o v s l, hok, ht, a, ha => by
    rw [okX, Bool.and_eq_true, Bool.and_eq_true] at hok
    exact ev_node hA (.mk o v s l) hok.1.1 (ev_typedL hA l hok.2) ht a ha
theorem ev_typedL {vs : List Var} {vals : List Val} (hA : Asg vs vals) : ∀ (l : List Ex), okL l = true → ∀ y ∈ l, (typX vs y).2 = 0 → ∀ a, evX vs vals y = some a → a.kind = (typX vs y).1 ∧ validV a = true
  | [], _, y, hy, _, _, _ => by simp at hy
  | x :: l, hok, y, hy, ht, a, ha => by
    rw [okL, Bool.and_eq_true] at hok
    rcases List.mem_cons.1 hy with h | h
    · rw [h] at ht ha ⊢; exact ev_typed hA x hok.1 ht a ha
    · exact ev_typedL hA l hok.2 y h ht a ha
end
theorem truth_range {a : Val} (h : validV a = true) (hk : a.kind = 1) : a.n = 0 ∨ a.n = 1 := by
  unfold validV at h
  rw [if_pos hk] at h
  simp only [Bool.and_eq_true, decide_eq_true_eq] at h
  exact h.1
theorem num_range {a : Val} (h : validV a = true) (hk : a.kind = 2) : -4503599627370496 ≤ a.n ∧ a.n ≤ 4503599627370496 := by
  unfold validV at h
  rw [if_neg (by omega), if_pos hk] at h
  simp only [Bool.and_eq_true] at h
  have := h.1
  unfold numB at this
  simpa using this
theorem asg_of {vs : List Var} {vals : List Val} (h : (inAllE vs vals).2 = 0 ∧ (inAllE vs vals).1 = true) : Asg vs vals := by
  unfold inAllE at h
  split at h
  · rename_i hok
    obtain ⟨_, h⟩ := h
    unfold okB at hok
    rw [Bool.and_eq_true] at hok
    have h : assignedB vs vals = true := h
    unfold assignedB at h
    rw [Bool.and_eq_true, decide_eq_true_eq] at h
    refine ⟨h.1, fun i x v hx hv => ?_⟩
    have hz : (vs.zip vals)[i]? = some (x, v) := by rw [List.getElem?_zip_eq_some]; exact ⟨hx, hv⟩
    have hp := List.all_eq_true.1 h.2 _ (List.mem_of_getElem? hz)
    refine ⟨?_, List.all_eq_true.1 hok.2 _ (List.mem_of_getElem? hv)⟩
    rcases Classical.em (v.kind = x.kind) with e | e
    · exact e
    · have : placeV x v = -1 := if_pos e
      simp only at hp
      rw [this] at hp
      simp at hp
  · cases h.1
def RExN : Nat → ElemR Ex
  | 0 => fun _ _ _ _ => False
  | n + 1 => fun D w x cs => ∃ lv, cs = [.int .i64 x.op, .int .i64 x.v.kind, .int .i64 x.v.n, .string x.v.s, .string x.s, lv] ∧ Fit x.op ∧ FitV x.v ∧ x.s.size ≤ maxLen ∧ Sl 6 (RExN n) D w lv x.l
theorem RExN.kept : ∀ n, ElemR.Kept (RExN n)
  | 0 => fun _ _ _ _ _ _ _ _ h => h
  | n + 1 => by
    rintro D D' w w' x cs hd hs ⟨lv, rfl, h1, h2, h3, h4⟩
    exact ⟨lv, rfl, h1, h2, h3, Sl.keep h4 (RExN.kept n) hd hs⟩
def SlE (n : Nat) := Sl 6 (RExN n)
def IsEx (n : Nat) (D : Nat → Prop) (w : World) (u : Value) (x : Ex) : Prop :=
  ∃ lv, u = .agg #[.int .i64 x.op, .int .i64 x.v.kind, .int .i64 x.v.n, .string x.v.s, .string x.s, lv] ∧ Fit x.op ∧ FitV x.v ∧ x.s.size ≤ maxLen ∧ SlE n D w lv x.l
section
variable {D : Nat → Prop} {w w' : World} {u : Value} {n : Nat}
theorem IsEx.below {x : Ex} {B B' : Nat} (h : IsEx n (Lt B) w u x) (hb : Below B w w') (hB : B ≤ B') : IsEx n (Lt B') w' u x := by
  obtain ⟨lv, e, h1, h2, h3, h4⟩ := h
  exact ⟨lv, e, h1, h2, h3, Sl.below h4 (RExN.kept n) hb hB⟩
theorem IsEx.now {x : Ex} (h : IsEx n (Lt w.heap.size) w u x) (hb : Below w.heap.size w w') : IsEx n (Lt w'.heap.size) w' u x := h.below hb hb.size
theorem SlE.now {zs : List Ex} (h : SlE n (Lt w.heap.size) w u zs) (hb : Below w.heap.size w w') : SlE n (Lt w'.heap.size) w' u zs := Sl.below h (RExN.kept n) hb hb.size
theorem SlE.open_ {zs : List Ex} (h : SlE n D w u zs) : ∃ A c, u = .slice A zs.length c ∧ zs.length ≤ c ∧ c ≤ 9223372036854775807 ∧ SlE n D w (.slice A zs.length c) zs := Sl.open_ h
theorem Sl.at6 {α : Type} {R : ElemR α} {xs : List α} {A : Option Addr} {m c k : Nat} (h : Sl 6 R D w (.slice A m c) xs) (hk : k < m) :
    ∃ b o x u0 u1 u2 u3 u4 u5, A = some ⟨b, o, none⟩ ∧ D b ∧ xs[k]? = some x ∧ R D w x [u0, u1, u2, u3, u4, u5] ∧ w.cell? ⟨b, o + k * 6, none⟩ = some u0 ∧ w.cell? ⟨b, o + k * 6 + 1, none⟩ = some u1 ∧ w.cell? ⟨b, o + k * 6 + 2, none⟩ = some u2 ∧ w.cell? ⟨b, o + k * 6 + 3, none⟩ = some u3 ∧ w.cell? ⟨b, o + k * 6 + 4, none⟩ = some u4 ∧ w.cell? ⟨b, o + k * 6 + 5, none⟩ = some u5 := by
  obtain ⟨A', c', hv, h1, h2, h3⟩ := h
  injection hv with hA hn hc
  subst hA hn hc
  obtain ⟨b, o, cs, hA, hD, hl, hr, hcell⟩ := h3 k xs[k] (List.getElem?_eq_getElem hk)
  match cs, hl with
  | [u0, u1, u2, u3, u4, u5], _ => exact ⟨b, o, xs[k], u0, u1, u2, u3, u4, u5, hA, hD, List.getElem?_eq_getElem hk, hr, hcell 0 u0 rfl, hcell 1 u1 rfl, hcell 2 u2 rfl, hcell 3 u3 rfl, hcell 4 u4 rfl, hcell 5 u5 rfl⟩
theorem SlE.at_ {zs : List Ex} {A : Option Addr} {m c k : Nat} (h : SlE n D w (.slice A m c) zs) (hk : k < m) :
    ∃ b o x lv n', n = n' + 1 ∧ A = some ⟨b, o, none⟩ ∧ D b ∧ zs[k]? = some x ∧ IsEx n' D w (.agg #[.int .i64 x.op, .int .i64 x.v.kind, .int .i64 x.v.n, .string x.v.s, .string x.s, lv]) x ∧ FitV x.v ∧ SlE n' D w lv x.l ∧
      w.cell? ⟨b, o + k * 6, none⟩ = some (.int .i64 x.op) ∧ w.cell? ⟨b, o + k * 6 + 1, none⟩ = some (.int .i64 x.v.kind) ∧ w.cell? ⟨b, o + k * 6 + 2, none⟩ = some (.int .i64 x.v.n) ∧ w.cell? ⟨b, o + k * 6 + 3, none⟩ = some (.string x.v.s) ∧ w.cell? ⟨b, o + k * 6 + 4, none⟩ = some (.string x.s) ∧ w.cell? ⟨b, o + k * 6 + 5, none⟩ = some lv := by
  cases n with
  | zero => obtain ⟨_, _, _, _, _, _, _, _, _, _, _, _, hr, _⟩ := Sl.at6 h hk; exact hr.elim
  | succ n' =>
    obtain ⟨b, o, x, u0, u1, u2, u3, u4, u5, hA, hD, hx, ⟨lv, hu, a1, a2, a3, a4⟩, h0, h1, h2, h3, h4, h5⟩ := Sl.at6 h hk
    injection hu with e0 hu; injection hu with e1 hu; injection hu with e2 hu; injection hu with e3 hu; injection hu with e4 hu; injection hu with e5 hu
    subst e0 e1 e2 e3 e4 e5
    exact ⟨b, o, x, u5, n', rfl, hA, hD, hx, ⟨u5, rfl, a1, a2, a3, a4⟩, a2, a4, h0, h1, h2, h3, h4, h5⟩
end
theorem RExN.up : ∀ (n m : Nat), n ≤ m → ∀ D w x cs, RExN n D w x cs → RExN m D w x cs
  | 0, _, _, _, _, _, _, h => h.elim
  | n + 1, 0, h, _, _, _, _, _ => absurd h (by omega)
  | n + 1, m + 1, h, D, w, x, cs, hr => by
    obtain ⟨lv, e, h1, h2, h3, A, c, hv, h4, h5, h6⟩ := hr
    refine ⟨lv, e, h1, h2, h3, A, c, hv, h4, h5, fun i y hy => ?_⟩
    obtain ⟨b, o, cs', hA, hD, hl, hr, hc⟩ := h6 i y hy
    exact ⟨b, o, cs', hA, hD, hl, RExN.up n m (by omega) _ _ _ _ hr, hc⟩
theorem SlE.up {n m : Nat} (h : n ≤ m) {D : Nat → Prop} {w : World} {u : Value} {zs : List Ex} (hs : SlE n D w u zs) : SlE m D w u zs := by
  obtain ⟨A, c, hv, h4, h5, h6⟩ := hs
  refine ⟨A, c, hv, h4, h5, fun i y hy => ?_⟩
  obtain ⟨b, o, cs', hA, hD, hl, hr, hc⟩ := h6 i y hy
  exact ⟨b, o, cs', hA, hD, hl, RExN.up n m h _ _ _ _ hr, hc⟩
theorem IsEx.up {n m : Nat} (h : n ≤ m) {D : Nat → Prop} {w : World} {u : Value} {x : Ex} (hs : IsEx n D w u x) : IsEx m D w u x := by
  obtain ⟨lv, e, h1, h2, h3, h4⟩ := hs
  exact ⟨lv, e, h1, h2, h3, h4.up h⟩
theorem mul_quo {a b n : Int} (hb : -4503599627370496 ≤ b ∧ b ≤ 4503599627370496) (h0 : b ≠ 0)
    (hn : n = IntKind.i64.wrap (a * b)) (hq : Int.tdiv n b = a) : n = a * b := by
  have h1 := Int.mul_tdiv_add_tmod n b
  rw [hq] at h1
  have h2 : (Int.tmod n b).natAbs < b.natAbs := by
    rw [Int.natAbs_tmod]
    exact Nat.mod_lt _ (by omega)
  rw [IntKind.wrap_i64] at hn
  rw [Int.mul_comm b a] at h1
  generalize a * b = p at *
  generalize Int.tmod n b = r at *
  omega
theorem mul_fits {a b : Int} (hb0 : b ≠ 0) (h : -4503599627370496 ≤ a * b ∧ a * b ≤ 4503599627370496) : IntKind.i64.wrap (a * b) = a * b ∧ Int.tdiv (a * b) b = a :=
  ⟨IntWalk.i64_in _ (by omega), Int.mul_tdiv_cancel a hb0⟩
def placeAt (P : Int) (zs : List Int) (i : Nat) : Bool :=
  decide (0 ≤ zs.getD i 0) && decide (zs.getD i 0 < P) && (decide (i = 0) || decide (zs.getD (i-1) 0 < zs.getD i 0))
def placesB (P : Int) (zs : List Int) : Bool := (List.range zs.length).all (placeAt P zs)
theorem getD_of {zs : List Int} {k : Nat} {z : Int} (h : zs[k]? = some z) : zs.getD k 0 = z := by rw [List.getD_eq_getElem?_getD, h]; rfl
theorem places_bad {P : Int} {zs : List Int} {k : Nat} (hk : k < zs.length) (h : placeAt P zs k = false) : placesB P zs = false := by
  unfold placesB; rw [List.all_eq_false]; exact ⟨k, List.mem_range.2 hk, by simp [h]⟩
theorem places_ok {P : Int} {zs : List Int} (h : ∀ j, j < zs.length → placeAt P zs j = true) : placesB P zs = true := by
  unfold placesB; rw [List.all_eq_true]; exact fun j hj => h j (List.mem_range.1 hj)
theorem placeAt_pos {P : Int} {zs : List Int} {k : Nat} {x y : Int} (hx : zs[k]? = some x) (hy : zs[k-1]? = some y) (hk : 0 < k) :
    placeAt P zs k = decide (0 ≤ x ∧ x < P ∧ y < x) := by
  unfold placeAt; rw [getD_of hx, getD_of hy, Bool.eq_iff_iff]; simp; omega
theorem placeAt_zero {P : Int} {zs : List Int} {x : Int} (hx : zs[0]? = some x) : placeAt P zs 0 = decide (0 ≤ x ∧ x < P) := by
  unfold placeAt; rw [getD_of hx, Bool.eq_iff_iff]; simp
set_option maxHeartbeats 400000 in
theorem places_any (P s t : Int) (tv l : Value) (zs : List Int) (w : World) (hl : SlI (Lt w.heap.size) w l zs) :
    Calls Tryz.prog 95 #[.agg #[.int .i64 P, tv, .int .i64 s, .int .i64 t], l] w fun e w' => e = .returned (.bool (placesB P zs)) ∧ Below w.heap.size w w' := by
  obtain ⟨A, c, rfl, hc, hm, hl⟩ := hl.open_
  go_enter Tryz.func95, Tryz.ntmps95
  go_wp2_with fail
  have HB : Hid (Below w.heap.size w (w.alloc (Obj.cells #[Value.int IntKind.i64 P, tv, Value.int IntKind.i64 s, Value.int IntKind.i64 t] 24))) := (Below.refl _ _).alloc (Nat.le_refl _) _
  have hl' := hl.below HB.out (Nat.le_refl _)
  go_loop [9] (fun i => ∃ k : Nat, k ≤ zs.length ∧ i = .int .i64 k ∧ ∀ j, j < k → placeAt P zs j = true) (fun i => zs.length - (intOf i).toNat)
  case atStart => exact ⟨0, Nat.zero_le _, rfl, fun j h => absurd h (by omega)⟩
  case round =>
    obtain ⟨k, hk, rfl, hp⟩ := hrel
    have HP := Lib.hid hp
    clear hp
    by_cases hlt : k < zs.length
    · obtain ⟨b, o, x, rfl, hD, hx, hf, hcell⟩ := hl'.at_ hlt
      by_cases hk0 : 0 < k
      · obtain ⟨b', o', y, hA, _, hy, _, hcell'⟩ := hl'.at_ (k := k - 1) (by omega)
        injection hA with hA; injection hA with e1 e2 _; subst e1 e2
        have HQ := Lib.hid (placeAt_pos (P := P) hx hy hk0)
        have e3 : (k : Int) - 1 = ((k - 1 : Nat) : Int) := by omega
        clear hx hy hD
        have hcell2 : World.cell? (w.alloc (Obj.cells #[Value.int IntKind.i64 P, tv, Value.int IntKind.i64 s, Value.int IntKind.i64 t] 24)) { block := b, off := o + (k - 1) } = some (Value.int IntKind.i64 y) := hcell'
        clear hcell'
        by_cases h1 : 0 ≤ x ∧ x < P ∧ y < x
        · obtain ⟨h1, h2, h3⟩ := h1
          clear e3
          go_wp2
          go_round
          case rel => exact ⟨k + 1, by omega, by go_num, fun j hj => by
            by_cases e : j = k
            · subst e; rw [HQ.out]; simp [h1, h2, h3]
            · exact HP.out j (by omega)⟩
          case measure => simp [intOf]; omega
        · have HE : Hid (placesB P zs = false) := places_bad hlt (by rw [HQ.out]; simpa using h1)
          have h1' : ¬ (0 ≤ x ∧ x < P ∧ y < x) := h1
          clear h1 e3
          by_cases h2 : 0 ≤ x <;> by_cases h3 : x < P <;> by_cases h4 : y < x
          all_goals first
            | (exfalso; exact h1' ⟨h2, h3, h4⟩)
            | (clear h1'
               go_wp2
               go_ret
               exact ⟨ret_bool HE.out.symm, HB.out⟩)
      · have HQ : Hid (placeAt P zs k = decide (0 ≤ x ∧ x < P)) := by
          obtain rfl : k = 0 := by omega
          exact placeAt_zero (P := P) hx
        clear hx hD
        by_cases h1 : 0 ≤ x ∧ x < P
        · obtain ⟨h1, h2⟩ := h1
          go_wp2
          go_round
          case rel => exact ⟨k + 1, by omega, by go_num, fun j hj => by
            rw [show j = k from by omega, HQ.out]; simp [h1, h2]⟩
          case measure => simp [intOf]; omega
        · have HE : Hid (placesB P zs = false) := places_bad hlt (by rw [HQ.out]; simpa using h1)
          have h1' : ¬ (0 ≤ x ∧ x < P) := h1
          clear h1
          by_cases h2 : 0 ≤ x <;> by_cases h3 : x < P
          all_goals first
            | (exfalso; exact h1' ⟨h2, h3⟩)
            | (clear h1'
               go_wp2
               go_ret
               exact ⟨ret_bool HE.out.symm, HB.out⟩)
    · go_wp2
      go_ret
      exact ⟨ret_bool (places_ok (fun j hj => HP.out j (by omega))).symm, HB.out⟩
def labelOk (s : ByteArray) : Bool := decide (s.size = 0) || isNameB s
def trOk (P : Int) (t : Tr) : Bool := labelOk t.label && placesB P t.ins && placesB P t.outs
def inside (P x : Int) : Bool := decide (0 ≤ x) && decide (x < P)
def validB (n : Net) : Bool := decide (1 ≤ n.places) && decide (n.places ≤ 40) && decide (n.trans.length ≤ 60) && n.trans.all (trOk n.places) && inside n.places n.source && inside n.places n.sink
theorem size_toList (s : ByteArray) : s.toList = [] ↔ s.size = 0 := by
  rw [ByteArray.toList_eq, ← List.length_eq_zero_iff, Array.length_toList]; rfl
theorem labelOk_empty {s : ByteArray} (h : s.toList = []) : labelOk s = true := by
  rw [size_toList] at h; unfold labelOk; simp [h]
theorem labelOk_full {s : ByteArray} (h : ¬ s.toList = []) : labelOk s = isNameB s := by
  rw [size_toList] at h; unfold labelOk; simp [h]
theorem places_single (P x : Int) : placesB P [x] = inside P x := by
  unfold placesB inside placeAt; simp [List.range_succ]
theorem valid_bad_tr {n : Net} {k : Nat} {t : Tr} (hx : n.trans[k]? = some t) (h : trOk n.places t = false) : validB n = false := by
  have : n.trans.all (trOk n.places) = false := by rw [List.all_eq_false]; exact ⟨t, List.mem_of_getElem? hx, by simp [h]⟩
  unfold validB; simp [this]
theorem all_ok {n : Net} (h : ∀ j t, j < n.trans.length → n.trans[j]? = some t → trOk n.places t = true) : n.trans.all (trOk n.places) = true := by
  rw [List.all_eq_true]
  intro t ht
  obtain ⟨q, hq, rfl⟩ := List.mem_iff_getElem.1 ht
  exact h q _ hq (List.getElem?_eq_getElem hq)
set_option maxHeartbeats 1000000 in
theorem valid_any (n : Net) (v : Value) (w : World) (h : IsNet (Lt w.heap.size) w v n) :
    Calls Tryz.prog 51 #[v] w fun e w' => e = .returned (.bool (validB n)) ∧ Below w.heap.size w w' := by
  obtain ⟨tv, rfl, hp, hs, hk, ht⟩ := h
  obtain ⟨A, c, rfl, h1, h2, ht⟩ := ht.open_
  by_cases g1 : 1 ≤ n.places
  · by_cases g2 : n.places ≤ 40
    · by_cases g3 : n.trans.length ≤ 60
      · go_enter Tryz.func51, Tryz.ntmps51
        go_wp2_with fail
        go_loopw [22] (fun i wr => ∃ k : Nat, k ≤ n.trans.length ∧ i = .int .i64 k ∧ (∀ j t, j < k → n.trans[j]? = some t → trOk n.places t = true) ∧ Below w.heap.size w wr ∧ Blk wr w.heap.size 24 #[.int .i64 n.places, .slice A n.trans.length c, .int .i64 n.source, .int .i64 n.sink]) (fun i _ => n.trans.length - (intOf i).toNat)
        case atStart => exact ⟨0, Nat.zero_le _, rfl, fun j _ h => absurd h (by omega), (Below.refl _ _).alloc (Nat.le_refl _) _, Blk.new _ _ _⟩
        case round =>
          obtain ⟨k, hk', rfl, hp', hb, hB⟩ := hrel
          have HP := Lib.hid hp'
          clear hp'
          have hlt0 := hB.lt
          obtain ⟨q0, q1, q2, q3⟩ := hB.c4
          by_cases hlt : k < n.trans.length
          · obtain ⟨b, o, t, iv, ov, rfl, hD, hx, hl, hi, ho, c0, c1, c2⟩ := (ht.now hb).at_ hlt
            obtain ⟨Ai, ci, rfl, i1, i2, hi⟩ := hi.open_
            obtain ⟨Ao, co, rfl, o1, o2, ho⟩ := ho.open_
            have HX := Lib.hid hx
            clear hx
            by_cases hlab : t.label.toList = []
            have HLab := Lib.hid (labelOk_empty hlab)
            rotate_left
            go_wp2_with fail
            refine (isName_any _ _ hl).mono ?_
            rintro e w0 ⟨rfl, rfl⟩
            have HLab := Lib.hid (labelOk_full hlab)
            generalize isNameB t.label = q at HLab ⊢
            cases q
            · have HE : Hid (validB n = false) := valid_bad_tr HX.out (by unfold trOk; rw [HLab.out]; rfl)
              go_wp2_with fail
              go_ret
              exact ⟨ret_bool HE.out.symm, bbox hb _⟩
            clear hlab
            go_wp2_with fail
            rotate_left
            go_wp2_with fail
            all_goals
              have hB1 := hB.alloc (.cells #[.string t.label, .slice Ai t.ins.length ci, .slice Ao t.outs.length co] 112)
              have hT1 := Blk.new wr 112 #[.string t.label, .slice Ai t.ins.length ci, .slice Ao t.outs.length co]
              refine (places_any _ _ _ _ _ t.ins _ (by exact hi.now (bone _ _))).mono ?_
              rintro e w1 ⟨rfl, hb1⟩
              obtain ⟨p0, p1, p2, p3⟩ := (hB1.now hb1).c4
              obtain ⟨r0, r1, r2⟩ := (hT1.now hb1).c3
              have HB1 := Lib.hid (hB1.now hb1)
              clear hB1 hT1
              generalize hq : placesB n.places t.ins = qi
              have HI := Lib.hid hq
              clear hq
              cases qi
              · have HE : Hid (validB n = false) := valid_bad_tr HX.out (by unfold trOk; rw [HI.out]; simp)
                go_wp2_with fail
                go_ret
                exact ⟨ret_bool HE.out.symm, bthen (bbox hb _) hb1⟩
              · go_wp2_with fail
                refine (places_any _ _ _ _ _ t.outs _ (by exact ho.now (bthen (bone _ _) hb1))).mono ?_
                rintro e w2 ⟨rfl, hb2⟩
                generalize hq : placesB n.places t.outs = qo
                have HO := Lib.hid hq
                clear hq
                cases qo
                · have HE : Hid (validB n = false) := valid_bad_tr HX.out (by unfold trOk; rw [HO.out]; simp)
                  go_wp2_with fail
                  go_ret
                  exact ⟨ret_bool HE.out.symm, bthen (bthen (bbox hb _) hb1) hb2⟩
                · go_wp2_with fail
                  go_roundw
                  case rel => exact ⟨k + 1, by omega, by go_num, fun j t' hj ht' => by
                    by_cases e : j = k
                    · subst e; rw [HX.out] at ht'; injection ht' with ht'; subst ht'
                      unfold trOk; rw [HLab.out, HI.out, HO.out]; rfl
                    · exact HP.out j t' (by omega) ht', bthen (bthen (bbox hb _) hb1) hb2, HB1.out.now hb2⟩
                  case measure => simp [intOf]; omega
          · have HA := Lib.hid (all_ok (n := n) (fun j t hj => HP.out j t (by omega)))
            go_wp2_with fail
            refine (places_any _ _ _ _ _ [n.source] _ (by exact SlI.single hs)).mono ?_
            rintro e w1 ⟨rfl, hb1⟩
            have hB1 := (hB.alloc (.cells #[.int .i64 n.source] 3)).now hb1
            obtain ⟨p0, p1, p2, p3⟩ := hB1.c4
            have hsz1 := hB1.lt
            rw [places_single]
            generalize hq : inside n.places n.source = qs
            have HS := Lib.hid hq
            clear hq
            cases qs
            · have HE : Hid (validB n = false) := by show validB n = false; unfold validB; rw [HS.out]; simp
              go_wp2_with fail
              go_ret
              exact ⟨ret_bool HE.out.symm, bthen (bbox hb _) hb1⟩
            · go_wp2_with fail
              refine (places_any _ _ _ _ _ [n.sink] _ (by exact SlI.single ‹_›)).mono ?_
              rintro e w2 ⟨rfl, hb2⟩
              rw [places_single]
              have HE : Hid (validB n = inside n.places n.sink) := by show validB n = _; unfold validB; rw [HS.out, HA.out]; simp [g1, g2, g3]
              generalize inside n.places n.sink = qk at HE
              go_wp2_with fail
              go_ret
              exact ⟨ret_bool HE.out.symm, bthen (bbox (bthen (bbox hb _) hb1) _) hb2⟩
      · have HE : Hid (validB n = false) := by show validB n = false; unfold validB; simp [g3]
        go_enter Tryz.func51, Tryz.ntmps51
        go_wp2_with fail
        go_ret
        exact ⟨ret_bool HE.out.symm, bone _ _⟩
    · have HE : Hid (validB n = false) := by show validB n = false; unfold validB; simp [g2]
      go_enter Tryz.func51, Tryz.ntmps51
      go_wp2_with fail
      go_ret
      exact ⟨ret_bool HE.out.symm, bone _ _⟩
  · have HE : Hid (validB n = false) := by show validB n = false; unfold validB; simp [g1]
    go_enter Tryz.func51, Tryz.ntmps51
    go_wp2_with fail
    go_ret
    exact ⟨ret_bool HE.out.symm, bone _ _⟩
def Asks1 {α : Type} (k : FuncId) (cap : Array Value) (B : Nat) (w : World) (xs : List α) (IsA : (Nat → Prop) → World → Value → α → Prop) (p : α → Bool) : Prop :=
  ∀ (x : α) (v : Value) (w1 : World), x ∈ xs → Below B w w1 → B ≤ w1.heap.size → IsA (Lt w1.heap.size) w1 v x →
    Calls Tryz.prog k (#[v] ++ cap) w1 fun e w2 => e = .returned (.bool (p x)) ∧ Below w1.heap.size w1 w2
def firstAt {α : Type} (p : α → Bool) (xs : List α) : Int := match xs.findIdx? p with | some i => (i : Int) | none => -1
theorem firstAt_hit {α : Type} (p : α → Bool) (xs : List α) (j : Nat) (x : α) (hx : xs[j]? = some x) (h : p x = true) (hn : ∀ q y, q < j → xs[q]? = some y → p y = false) : firstAt p xs = j := by
  have hj : j < xs.length := by
    rcases Nat.lt_or_ge j xs.length with h | h
    · exact h
    · rw [List.getElem?_eq_none h] at hx; cases hx
  have : xs.findIdx? p = some j := by
    rw [List.findIdx?_eq_some_iff_getElem]
    refine ⟨hj, ?_, fun q hq => ?_⟩
    · rw [List.getElem?_eq_getElem hj] at hx; injection hx with hx; rw [hx]; exact h
    · have := hn q _ hq (List.getElem?_eq_getElem (by omega)); simpa using this
  unfold firstAt; rw [this]
theorem firstAt_miss {α : Type} (p : α → Bool) (xs : List α) (hn : ∀ q y, q < xs.length → xs[q]? = some y → p y = false) : firstAt p xs = -1 := by
  have : xs.findIdx? p = none := by
    rw [List.findIdx?_eq_none_iff]
    intro x hx
    obtain ⟨q, hq, rfl⟩ := List.mem_iff_getElem.1 hx
    exact hn q _ hq (List.getElem?_eq_getElem hq)
  unfold firstAt; rw [this]
theorem firstAt_any {α : Type} (p : α → Bool) (xs : List α) : decide (0 ≤ firstAt p xs) = xs.any p := by
  unfold firstAt
  cases h : xs.findIdx? p with
  | none =>
    rw [List.findIdx?_eq_none_iff] at h
    rw [Bool.eq_iff_iff]
    simp
    exact fun x hx => by have := h x hx; simp [this]
  | some i =>
    rw [List.findIdx?_eq_some_iff_getElem] at h
    obtain ⟨h1, h2, _⟩ := h
    rw [Bool.eq_iff_iff]
    simp
    exact ⟨_, List.getElem_mem h1, h2⟩
def IsI (_ : Nat → Prop) (_ : World) (v : Value) (z : Int) : Prop := v = .int .i64 z ∧ Fit z
set_option maxHeartbeats 400000 in
theorem indexFuncI (k : FuncId) (eg : ∀ args w, (callFunc k args).run Tryz.prog w = .ok (.enter k args) w) (cap : Array Value) (tv : Value) (ts : List Int) (p : Int → Bool) (w : World) (ht : SlI (Lt w.heap.size) w tv ts)
    (hf : Asks1 k cap w.heap.size w ts IsI p) :
    Calls Tryz.prog 160 #[tv, .func (.func k) #[] cap] w fun e w' => e = .returned (.int .i64 (firstAt p ts)) ∧ Below w.heap.size w w' := by
  obtain ⟨A, c, rfl, h1, h2, ht⟩ := ht.open_
  have HF := Lib.hid hf
  clear hf
  go_enter Tryz.func160, Tryz.ntmps160
  go_wp2_with fail
  go_loopw [8] (fun i wr => ∃ j : Nat, j ≤ ts.length ∧ i = .int .i64 j ∧ (∀ q t, q < j → ts[q]? = some t → p t = false) ∧ Below w.heap.size w wr) (fun i _ => ts.length - (intOf i).toNat)
  case atStart => exact ⟨0, Nat.zero_le _, rfl, fun q _ h => absurd h (by omega), Below.refl _ _⟩
  case round =>
    obtain ⟨j, hj, rfl, hp, hb⟩ := hrel
    have hsz := hb.size
    have HP := Lib.hid hp
    clear hp
    by_cases hlt : j < ts.length
    · obtain ⟨b, o, t, rfl, hD, hx, hf, c0⟩ := (ht.below hb hsz).at_ hlt
      have hcall := HF.out t (.int .i64 t) wr (List.mem_of_getElem? hx) hb hsz ⟨rfl, hf⟩
      have HX := Lib.hid hx
      clear hx
      cases hq : p t with
      | true =>
        rw [hq] at hcall
        have HC := Lib.hid hcall
        have HQ := Lib.hid hq
        clear hcall hq
        go_wp2_with (go_at_fn k; refine HC.out.mono ?_; rintro e w' ⟨rfl, hb'⟩)
        go_ret
        exact ⟨ret_int (firstAt_hit p ts j t HX.out HQ.out HP.out).symm, below_step hb hb' hsz⟩
      | false =>
        rw [hq] at hcall
        have HC := Lib.hid hcall
        have HQ := Lib.hid hq
        clear hcall hq
        go_wp2_with (go_at_fn k; refine HC.out.mono ?_; rintro e w' ⟨rfl, hb'⟩)
        go_roundw
        case rel =>
          refine ⟨j + 1, by omega, by go_num, fun q y hq hy => ?_, below_step hb hb' hsz⟩
          by_cases e : q = j
          · subst e; rw [HX.out] at hy; injection hy with hy; subst hy; exact HQ.out
          · exact HP.out q y (by omega) hy
        case measure => simp [intOf]; omega
    · go_wp2_with fail
      go_ret
      exact ⟨ret_int (firstAt_miss p ts (fun q y hq hy => HP.out q y (by omega) hy)).symm, hb⟩
set_option maxHeartbeats 400000 in
theorem containsFuncI (k : FuncId) (eg : ∀ args w, (callFunc k args).run Tryz.prog w = .ok (.enter k args) w) (cap : Array Value) (tv : Value) (ts : List Int) (p : Int → Bool) (w : World) (ht : SlI (Lt w.heap.size) w tv ts)
    (hf : Asks1 k cap w.heap.size w ts IsI p) :
    Calls Tryz.prog 131 #[tv, .func (.func k) #[] cap] w fun e w' => e = .returned (.bool (ts.any p)) ∧ Below w.heap.size w w' := by
  have HC := Lib.hid (indexFuncI k eg cap tv ts p w ht hf)
  have HE := Lib.hid (firstAt_any p ts)
  clear hf ht
  generalize firstAt p ts = r at HC HE
  go_enter Tryz.func131, Tryz.ntmps131
  go_wp2_with (go_at_call 160; refine HC.out.mono ?_; rintro e w' ⟨rfl, hb'⟩)
  go_ret
  exact ⟨ret_bool HE.out, hb'⟩
end Go.Proofs.YtlmenhjlgmejkaaGreatDoor
