/- Runs and words, plainly. -/
import Derived.Test.YtlkkfkkhllijbaaDoorFire
namespace Go.Proofs.YtlkkfkkhllijbaaDoor
open Go.RowKit

theorem getD_out {n : Net} {t : Tr} {m : List Int} (hm : (m.length : Int) = n.places) (ht : trOk n.places t = true) (k : Nat) :
    (outOf t m).getD k 0 = m.getD k 0 + (if (k : Int) ∈ t.ins then -1 else 0) + (if (k : Int) ∈ t.outs then 1 else 0) := by
  obtain ⟨h1, h2⟩ := trPlaces ht
  unfold outOf
  rw [getD_bump 1 n.places t.outs (bump (-1) m t.ins) (by rw [bump_length]; exact hm) h2 k, getD_bump (-1) n.places t.ins m hm h1 k]
theorem out_length (t : Tr) (m : List Int) : (outOf t m).length = m.length := by unfold outOf; rw [bump_length, bump_length]
theorem canB_get {ins m : List Int} (h : canB ins m = true) (k : Nat) (hk : (k : Int) ∈ ins) : 1 ≤ m.getD k 0 := by
  unfold canB at h
  rw [List.all_eq_true] at h
  simpa using h _ hk
theorem getD_nonneg {m : List Int} (h : Within 0 100 m) (k : Nat) : 0 ≤ m.getD k 0 := by
  rcases Nat.lt_or_ge k m.length with hk | hk
  · exact (within_get h hk).1
  · rw [List.getD_eq_getElem?_getD, List.getElem?_eq_none hk]; simp
theorem out_nonneg {n : Net} {t : Tr} {m : List Int} (hm : (m.length : Int) = n.places) (hw : Within 0 100 m) (ht : trOk n.places t = true) (hc : canB t.ins m = true) : ∀ z ∈ outOf t m, 0 ≤ z := by
  intro z hz
  obtain ⟨k, hk, rfl⟩ := List.mem_iff_getElem.1 hz
  have e : (outOf t m)[k] = (outOf t m).getD k 0 := by rw [List.getD_eq_getElem?_getD, List.getElem?_eq_getElem hk]; rfl
  rw [e, getD_out hm ht k]
  have h0 := getD_nonneg hw k
  by_cases h1 : (k : Int) ∈ t.ins
  · have := canB_get hc k h1
    rw [if_pos h1]; split <;> omega
  · rw [if_neg h1]; split <;> omega
theorem out_marking {n : Net} {t : Tr} {m : List Int} (hv : 1 ≤ n.places) (hm : markingB n.places m = true) (ht : trOk n.places t = true) (hc : canB t.ins m = true) :
    markingB n.places (outOf t m) = !decide (100 < Lib.maxOf (outOf t m)) := by
  obtain ⟨h1, h2⟩ := markOk hm
  have h3 := out_nonneg h1 h2 ht hc
  have hl : 0 < (outOf t m).length := by rw [out_length]; omega
  unfold markingB
  rw [out_length, decide_eq_true h1, Bool.true_and, Bool.eq_iff_iff]
  simp only [List.all_eq_true, Bool.not_eq_true', decide_eq_false_iff_not, maxOf_gt 100 _ hl]
  constructor
  · rintro h ⟨z, hz, h'⟩
    have := h z hz
    unfold tokensOk at this
    simp at this
    omega
  · intro h z hz
    have a := h3 z hz
    have b : ¬ 100 < z := fun h' => h ⟨z, hz, h'⟩
    unfold tokensOk
    simp
    omega
theorem fire_mark {n : Net} {m : List Int} {t : Int} (hv : validB n = true) (hm : markingB n.places m = true) (h : (fireB n m t).2 = 0) : markingB n.places (fireB n m t).1 = true := by
  obtain ⟨v1, _, _, v4⟩ := validOk hv
  unfold fireB at h ⊢
  by_cases h0 : t < 0
  · rw [if_pos h0] at h; simp at h
  · rw [if_neg h0] at h ⊢
    cases hx : n.trans[t.toNat]? with
    | none => rw [hx] at h; simp at h
    | some x =>
      rw [hx] at h
      simp only at h ⊢
      unfold fireT at h ⊢
      have ht := v4 x (List.mem_of_getElem? hx)
      by_cases hc' : canB x.ins m = false
      · rw [if_pos hc'] at h; simp at h
      · have hc : canB x.ins m = true := by simpa using hc'
        rw [if_neg hc'] at h ⊢
        by_cases hx : 100 < Lib.maxOf (outOf x m)
        · rw [if_pos hx] at h; simp at h
        · rw [if_neg hx]
          rw [out_marking v1 hm ht hc]
          simpa using hx
/-- With an error there is no marking. -/
theorem fire_err {n : Net} {m : List Int} {t : Int} (h : (fireB n m t).2 ≠ 0) : (fireB n m t).1 = [] := by
  unfold fireB fireT at *
  by_cases h0 : t < 0
  · rw [if_pos h0]
  · rw [if_neg h0] at h ⊢
    cases hx : n.trans[t.toNat]? with
    | none => rfl
    | some x =>
      rw [hx] at h
      simp only at h ⊢
      by_cases h1 : canB x.ins m = false
      · rw [if_pos h1]
      · rw [if_neg h1] at h ⊢
        by_cases h2 : 100 < Lib.maxOf (outOf x m)
        · rw [if_pos h2]
        · rw [if_neg h2] at h; exact absurd rfl h

/-- Fire, as it is exported. -/
def fireE (n : Net) (m : List Int) (t : Int) : List Int × Int := if (validB n && markingB n.places m) = false then ([], 1) else fireB n m t

def runFrom (n : Net) : List Int → List Int → Nat → List Int × Nat × Int
  | m, [], i => (m, i, 0)
  | m, t :: l, i => if (fireB n m t).2 = 0 then runFrom n (fireB n m t).1 l (i + 1) else ([], i, (fireB n m t).2)
def runB (n : Net) (m l : List Int) : List Int × Nat × Int :=
  if (validB n && markingB n.places m) = false then ([], 0, 1) else if 1000 < l.length then ([], 0, 5) else runFrom n m l 0
theorem drop_cons {l : List Int} {j : Nat} {t : Int} (h : l[j]? = some t) : l.drop j = t :: l.drop (j + 1) := by
  have hj : j < l.length := by
    rcases Nat.lt_or_ge j l.length with h' | h'
    · exact h'
    · rw [List.getElem?_eq_none h'] at h; cases h
  rw [List.drop_eq_getElem_cons hj]
  rw [List.getElem?_eq_getElem hj] at h
  injection h with h
  rw [h]
theorem run_step {n : Net} {m l : List Int} {j : Nat} {t : Int} (h : l[j]? = some t) (h0 : (fireB n m t).2 = 0) : runFrom n m (l.drop j) j = runFrom n (fireB n m t).1 (l.drop (j + 1)) (j + 1) := by
  rw [drop_cons h]; show (if _ then _ else _) = _; rw [if_pos h0]
theorem run_stop {n : Net} {m l : List Int} {j : Nat} {t : Int} (h : l[j]? = some t) (h0 : (fireB n m t).2 ≠ 0) : runFrom n m (l.drop j) j = ([], j, (fireB n m t).2) := by
  rw [drop_cons h]; show (if _ then _ else _) = _; rw [if_neg h0]
theorem run_end (n : Net) (m l : List Int) : runFrom n m (l.drop l.length) l.length = (m, l.length, 0) := by
  rw [List.drop_of_length_le (Nat.le_refl _)]; rfl

def wordFrom (n : Net) : List Int → List ByteArray → List ByteArray × Int
  | [], out => (out, 0)
  | t :: l, out => if t < 0 then ([], 2) else match n.trans[t.toNat]? with
    | none => ([], 2)
    | some x => if x.label.size = 0 then wordFrom n l out else wordFrom n l (out ++ [x.label])
def wordB (n : Net) (l : List Int) : List ByteArray × Int :=
  if validB n = false then ([], 1) else if 1000 < l.length then ([], 5) else wordFrom n l []
theorem word_end (n : Net) (l : List Int) (out : List ByteArray) : wordFrom n (l.drop l.length) out = (out, 0) := by
  rw [List.drop_of_length_le (Nat.le_refl _)]; rfl
theorem word_bad {n : Net} {l : List Int} {j : Nat} {t : Int} {out : List ByteArray} (h : l[j]? = some t) (ht : t < 0 ∨ (n.trans.length : Int) ≤ t) : wordFrom n (l.drop j) out = ([], 2) := by
  rw [drop_cons h]
  unfold wordFrom
  by_cases h0 : t < 0
  · rw [if_pos h0]
  · rw [if_neg h0, List.getElem?_eq_none (by omega)]
theorem word_skip {n : Net} {l : List Int} {j k : Nat} {x : Tr} {out : List ByteArray} (h : l[j]? = some (k : Int)) (hx : n.trans[k]? = some x) (h0 : x.label.size = 0) : wordFrom n (l.drop j) out = wordFrom n (l.drop (j + 1)) out := by
  rw [drop_cons h, wordFrom, if_neg (by omega), Int.toNat_natCast, hx]
  show (if _ then _ else _) = _
  rw [if_pos h0]
theorem word_take {n : Net} {l : List Int} {j k : Nat} {x : Tr} {out : List ByteArray} (h : l[j]? = some (k : Int)) (hx : n.trans[k]? = some x) (h0 : ¬ x.label.size = 0) : wordFrom n (l.drop j) out = wordFrom n (l.drop (j + 1)) (out ++ [x.label]) := by
  rw [drop_cons h, wordFrom, if_neg (by omega), Int.toNat_natCast, hx]
  show (if _ then _ else _) = _
  rw [if_neg h0]
end Go.Proofs.YtlkkfkkhllijbaaDoor
