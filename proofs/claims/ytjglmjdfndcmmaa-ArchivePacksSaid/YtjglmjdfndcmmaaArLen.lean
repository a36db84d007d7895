/- Runs by their steps; how long the code of a valid log can be. No program in sight. -/
import Derived.Test.YtjglmjdfndcmmaaArSpec
import Derived.Lib.Strings
set_option linter.all false
namespace Go.Proofs.Ytjglmjdfndcmmaa
open Go.RowKit

theorem lead_eq {x : Nat} : ∀ (l : List Nat) (m : Nat), (∀ j, j < m → l[j]? = some x) → l[m]? ≠ some x → lead x l = m
  | [], 0, _, _ => rfl
  | [], m + 1, h, _ => by have := h 0 (by omega); simp at this
  | y :: l, 0, _, h => by
    unfold lead
    rw [if_neg (fun e => h (by simp [e]))]
  | y :: l, m + 1, h1, h2 => by
    have hy : y = x := by have := h1 0 (by omega); simpa using this
    unfold lead
    rw [if_pos hy, lead_eq l m (fun j hj => by have := h1 (j + 1) (by omega); simpa using this) (by simpa using h2)]
theorem arRuns_step {vals : List Nat} {i k x : Nat} (hik : i < k) (hk : k ≤ vals.length) (h : ∀ j, i ≤ j → j < k → vals[j]? = some x) (he : vals[k]? ≠ some x) :
    arRuns (vals.drop i) = arNum x ++ arNum (k - i) ++ arRuns (vals.drop k) := by
  have hi : i < vals.length := by omega
  have hx : vals[i] = x := by have := h i (Nat.le_refl _) hik; rw [List.getElem?_eq_getElem hi] at this; injection this
  rw [List.drop_eq_getElem_cons hi, hx, arRuns_cons]
  have hl : lead x (vals.drop (i + 1)) = k - i - 1 := by
    refine lead_eq _ _ (fun j hj => ?_) ?_
    · rw [List.getElem?_drop]; exact h _ (by omega) (by omega)
    · rw [List.getElem?_drop, show i + 1 + (k - i - 1) = k by omega]; exact he
  rw [hl, List.drop_drop, show k - i - 1 + 1 = k - i by omega, show i + 1 + (k - i - 1) = k by omega]

theorem size_eq (s : ByteArray) : s.data.toList.length = s.size := Array.length_toList
theorem arText_len {s : List UInt8} (h : s.length < 1000000) : (arText s).length ≤ s.length + 9 := by
  unfold arText
  rw [List.length_append]
  have := arNum_len (n := s.length) (by omega)
  omega
theorem name_size {s : ByteArray} (h : isNameB s = true) : 1 ≤ s.size ∧ s.size ≤ 40 := by
  unfold isNameB at h
  simp only [Bool.and_eq_true, decide_eq_true_eq] at h
  exact ⟨h.1.1.1, h.1.1.2⟩
theorem text_size {s : ByteArray} (h : textB s = true) : s.size ≤ 200 := by
  unfold textB at h
  simp only [Bool.and_eq_true, decide_eq_true_eq] at h
  exact h.1
theorem noS_size {s : ByteArray} (h : noS s = true) : s.size = 0 := by
  unfold noS at h
  have h1 : s.toList = [] := by simpa using h
  have h2 : s.data.toList = [] := by rw [← Lib.toList_data]; exact h1
  rw [← size_eq, h2]; rfl
/-- What is known of a valid value. -/
theorem val_parts {v : Val} (h : validV v = true) : (v.kind = 1 ∧ (v.n = 0 ∨ v.n = 1) ∧ v.s.size = 0) ∨ (v.kind = 2 ∧ -4503599627370496 ≤ v.n ∧ v.n ≤ 4503599627370496 ∧ v.s.size = 0) ∨ (v.kind = 3 ∧ v.n = 0 ∧ v.s.size ≤ 200 ∧ textB v.s = true) := by
  unfold validV at h
  split at h
  · rename_i hk
    simp only [Bool.and_eq_true, decide_eq_true_eq] at h
    exact .inl ⟨hk, h.1, noS_size h.2⟩
  · split at h
    · rename_i hk
      simp only [Bool.and_eq_true] at h
      have h1 : -4503599627370496 ≤ v.n ∧ v.n ≤ 4503599627370496 := by have := h.1; unfold numB at this; simpa using this
      exact .inr (.inl ⟨hk, h1.1, h1.2, noS_size h.2⟩)
    · split at h
      · rename_i hk
        simp only [Bool.and_eq_true, decide_eq_true_eq] at h
        exact .inr (.inr ⟨hk, h.1, text_size h.2, h.2⟩)
      · cases h
theorem arVal_len {v : Val} (h : validV v = true) : (arVal v).length ≤ 218 := by
  unfold arVal
  rw [List.length_append]
  rcases val_parts h with ⟨hk, hn, _⟩ | ⟨hk, h1, h2, _⟩ | ⟨hk, _, hs, _⟩
  · have a := arNum_len (n := v.kind.toNat) (by omega)
    have b := arNum_len (n := v.n.toNat) (by omega)
    rw [if_pos hk]; omega
  · have a := arNum_len (n := v.kind.toNat) (by omega)
    have b := arNum_len (n := zigZ v.n) (by unfold zigZ; split <;> omega)
    rw [if_neg (by omega), if_pos hk]; omega
  · have a := arNum_len (n := v.kind.toNat) (by omega)
    have hz := size_eq v.s
    have b := arText_len (s := v.s.data.toList) (by omega)
    rw [if_neg (by omega), if_neg (by omega)]; omega
theorem fld_parts {f : Fld} (h : fldB f = true) : isNameB f.nm = true ∧ validV f.v = true := by
  unfold fldB at h
  simpa using h
theorem arFld_len {f : Fld} (h : fldB f = true) : (arFld f).length ≤ 267 := by
  obtain ⟨h1, h2⟩ := fld_parts h
  have a := name_size h1
  have hz := size_eq f.nm
  have b := arText_len (s := f.nm.data.toList) (by omega)
  have c := arVal_len h2
  unfold arFld
  rw [List.length_append]
  omega
theorem flat_le {α β : Type} (f : α → List β) (m : Nat) : ∀ (l : List α), (∀ x ∈ l, (f x).length ≤ m) → (l.flatMap f).length ≤ m * l.length
  | [], _ => by simp
  | x :: l, h => by
    rw [List.flatMap_cons, List.length_append, List.length_cons, Nat.mul_add]
    have h1 := h x (by simp)
    have h2 := flat_le f m l (fun y hy => h y (by simp [hy]))
    omega
theorem flds_mem {l : List Fld} (h : fldsB l = true) : ∀ f ∈ l, fldB f = true := by
  intro f hf
  obtain ⟨k, hk, rfl⟩ := List.mem_iff_getElem.1 hf
  have := all_at h hk
  unfold fldAt at this
  rw [List.getElem?_eq_getElem hk] at this
  dsimp only at this
  rw [Bool.and_eq_true] at this
  exact this.1
structure EvOk (e : Ev) : Prop where
  cas : isNameB e.cas = true
  act : isNameB e.act = true
  res : noS e.res = true ∨ isNameB e.res = true
  life : 1 ≤ e.life ∧ e.life ≤ 6
  time : 0 ≤ e.time ∧ e.time ≤ 1099511627776
  len : e.data.length ≤ 8
  flds : fldsB e.data = true
theorem ev_parts {e : Ev} (h : evB e = true) : EvOk e := by
  unfold evB at h
  simp only [Bool.and_eq_true, Bool.or_eq_true, decide_eq_true_eq] at h
  obtain ⟨⟨⟨⟨⟨⟨h1, h2⟩, h3⟩, h4⟩, h5⟩, h6⟩, h7⟩ := h
  exact ⟨h1, h2, h3, h4, h5, h6, h7⟩
theorem EvOk.res_size {e : Ev} (h : EvOk e) : e.res.size ≤ 40 := by
  rcases h.res with h | h
  · have := noS_size h; omega
  · exact (name_size h).2
theorem arData_len {e : Ev} (h : EvOk e) : (arData e).length ≤ 2145 := by
  unfold arData
  rw [List.length_append]
  have h1 := flat_le arFld 267 e.data (fun f hf => arFld_len (flds_mem h.flds f hf))
  have h2 := arNum_len (n := e.data.length) (by have := h.len; omega)
  have := h.len
  omega
theorem arRunsF_len : ∀ (f : Nat) (l : List Nat), (∀ x ∈ l, x < 1000000000) → l.length < 1000000000 → (arRunsF f l).length ≤ 18 * l.length := by
  intro f
  induction f with
  | zero => intro l _ _; simp [arRunsF]
  | succ f ih =>
    intro l h hl
    cases l with
    | nil => simp [arRunsF]
    | cons x l =>
      have hd := lead_le x l
      unfold arRunsF
      rw [List.length_append, List.length_append, List.length_cons]
      rw [List.length_cons] at hl
      have a := arNum_len (n := x) (by have := h x (by simp); omega)
      have b := arNum_len (n := lead x l + 1) (by omega)
      have c := ih (l.drop (lead x l)) (fun y hy => h y (List.mem_cons_of_mem _ (List.mem_of_mem_drop hy))) (by rw [List.length_drop]; omega)
      rw [List.length_drop] at c
      omega
theorem arRuns_len {l : List Nat} (h : ∀ x ∈ l, x < 1000000000) (hl : l.length < 1000000000) : (arRuns l).length ≤ 18 * l.length := arRunsF_len _ l h hl
theorem arTimes_len : ∀ (l : List Ev) (t : Int), (∀ e ∈ l, 0 ≤ e.time ∧ e.time ≤ 1099511627776) → 0 ≤ t → (arTimes t l).length ≤ 9 * l.length
  | [], _, _, _ => by simp [arTimes]
  | e :: l, t, h, ht => by
    have he := h e (by simp)
    have a := arNum_len (n := (e.time - t).toNat) (by omega)
    have b := arTimes_len l e.time (fun x hx => h x (by simp [hx])) he.1
    rw [arTimes, List.length_append, List.length_cons]
    omega
theorem names3_len (l : List Ev) : (names3 l).length = 3 * l.length := by unfold names3; simp; omega
theorem words_len (l : List Ev) : (words l).length ≤ 3 * l.length := by
  unfold words setB
  refine Nat.le_trans (compact_len _) ?_
  rw [sortB_len, names3_len]
  exact Nat.le_refl _
theorem words_mem {l : List Ev} {s : Bs} : s ∈ words l ↔ ∃ e ∈ l, s = e.cas.data.toList ∨ s = e.act.data.toList ∨ s = e.res.data.toList := by
  unfold words
  rw [setB_mem]
  unfold names3
  simp only [List.mem_append, List.mem_map]
  constructor
  · rintro (⟨e, he, rfl⟩ | ⟨e, he, rfl⟩ | ⟨e, he, rfl⟩)
    · exact ⟨e, he, .inl rfl⟩
    · exact ⟨e, he, .inr (.inl rfl)⟩
    · exact ⟨e, he, .inr (.inr rfl)⟩
  · rintro ⟨e, he, rfl | rfl | rfl⟩
    · exact .inl ⟨e, he, rfl⟩
    · exact .inr (.inl ⟨e, he, rfl⟩)
    · exact .inr (.inr ⟨e, he, rfl⟩)
theorem words_size {l : List Ev} (h : ∀ e ∈ l, EvOk e) : ∀ s ∈ words l, s.length ≤ 40 := by
  intro s hs
  obtain ⟨e, he, rfl | rfl | rfl⟩ := words_mem.1 hs
  · rw [size_eq]; exact (name_size (h e he).cas).2
  · rw [size_eq]; exact (name_size (h e he).act).2
  · rw [size_eq]; exact (h e he).res_size
theorem atW_lt {ws : List Bs} (s : ByteArray) : atW ws s ≤ ws.length := List.idxOf_le_length
theorem arBlock_len {l : List Ev} (h : ∀ e ∈ l, EvOk e) (hl : l.length ≤ 100) : (arBlock l).length ≤ 240000 := by
  have hw := words_len l
  have a := arNum_len (n := (words l).length) (by omega)
  have b := flat_le arText 49 (words l) (fun s hs => by have h1 := words_size h s hs; have := arText_len (s := s) (by omega); omega)
  have c := fun f : Ev → ByteArray => arRuns_len (l := l.map fun e => atW (words l) (f e)) (fun x hx => by
    obtain ⟨e, _, rfl⟩ := List.mem_map.1 hx
    have := atW_lt (ws := words l) (f e)
    omega) (by rw [List.length_map]; omega)
  have c1 := c Ev.cas
  have c2 := c Ev.act
  have c3 := c Ev.res
  have d := arRuns_len (l := l.map fun e => e.life.toNat) (fun x hx => by
    obtain ⟨e, he, rfl⟩ := List.mem_map.1 hx
    have := (h e he).life
    omega) (by rw [List.length_map]; omega)
  have t := arTimes_len l 0 (fun e he => (h e he).time) (Int.le_refl 0)
  have g := flat_le arData 2145 l (fun e he => arData_len (h e he))
  rw [List.length_map] at c1 c2 c3 d
  unfold arBlock
  simp only [List.length_append]
  omega
theorem part_mem {l : List Ev} {n : Nat} {e : Ev} (h : e ∈ part l n) : e ∈ l := List.mem_of_mem_drop (List.mem_of_mem_take h)
theorem part_len (l : List Ev) (n : Nat) : (part l n).length ≤ 100 := by unfold part; rw [List.length_take]; omega
theorem arParts_len {l : List Ev} (h : ∀ e ∈ l, EvOk e) (n : Nat) : (arParts l n).length ≤ 240000 * n := by
  have := flat_le (fun k => arBlock (part l k)) 240000 (List.range n) (fun k _ => arBlock_len (fun e he => h e (part_mem he)) (part_len l k))
  rw [List.length_range] at this
  exact this
theorem log_parts {l : List Ev} (h : logB l = true) : l.length ≤ 2000 ∧ (∀ e ∈ l, EvOk e) := by
  unfold logB at h
  rw [Bool.and_eq_true, decide_eq_true_eq] at h
  refine ⟨h.1, fun e he => ?_⟩
  obtain ⟨k, hk, rfl⟩ := List.mem_iff_getElem.1 he
  have := all_at h.2 hk
  unfold evAt at this
  rw [List.getElem?_eq_getElem hk] at this
  dsimp only at this
  rw [Bool.and_eq_true] at this
  exact ev_parts this.1
theorem log_time {l : List Ev} (h : logB l = true) : l.Pairwise fun a b => a.time ≤ b.time := by
  unfold logB at h
  rw [Bool.and_eq_true, decide_eq_true_eq] at h
  have h2 : ∀ (j : Nat) (hj : j < l.length), 0 < j → (l[j - 1]'(by omega)).time ≤ l[j].time := by
    intro j hj h0
    have := all_at h.2 hj
    unfold evAt at this
    rw [List.getElem?_eq_getElem hj, List.getElem?_eq_getElem (show j - 1 < l.length by omega)] at this
    dsimp only at this
    rw [Bool.and_eq_true, Bool.or_eq_true, decide_eq_true_eq, decide_eq_true_eq] at this
    rcases this.2 with h | h
    · omega
    · exact h
  rw [List.pairwise_iff_getElem]
  intro i j hi hj hij
  have : ∀ d, (hd : i + d < l.length) → l[i].time ≤ l[i + d].time := by
    intro d
    induction d with
    | zero => intro _; exact Int.le_refl _
    | succ d ih =>
      intro hd
      have h3 := h2 (i + (d + 1)) hd (by omega)
      have h4 := ih (by omega)
      have e : i + (d + 1) - 1 = i + d := by omega
      simp only [e] at h3
      omega
  have h5 := this (j - i) (by omega)
  have e : i + (j - i) = j := by omega
  simp only [e] at h5
  exact h5
theorem arBody_len {l : List Ev} (h : logB l = true) : (arBody l).length ≤ 4900000 := by
  obtain ⟨h1, h2⟩ := log_parts h
  have a := arNum_len (n := l.length) (by omega)
  have b := arParts_len h2 (nParts l)
  unfold arBody
  rw [List.length_append]
  unfold nParts at b ⊢
  omega
end Go.Proofs.Ytjglmjdfndcmmaa
