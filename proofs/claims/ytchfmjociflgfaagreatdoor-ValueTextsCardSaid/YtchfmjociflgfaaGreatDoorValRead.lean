/- What Unquote and Parse are to give: plain functions and their laws. -/
import Derived.Test.YtchfmjociflgfaaGreatDoorValText
import Derived.Test.YtchfmjociflgfaaGreatDoorNumText
namespace Go.Proofs.YtchfmjociflgfaaGreatDoor
open Go.RowKit

/-- The rest of a literal: the error, the text, and what stands behind. -/
def readB : List UInt8 → List UInt8 → Int × List UInt8 × List UInt8
  | _, [] => (4, [], [])
  | acc, c :: r =>
    if c.toNat = 34 then (0, acc, r)
    else if c.toNat = 92 then
      match r with
      | [] => (4, [], [])
      | d :: r' => if d.toNat = 34 ∨ d.toNat = 92 then readB (acc ++ [d]) r' else (3, [], [])
    else readB (acc ++ [c]) r
theorem read_nil (acc : List UInt8) : readB acc [] = (4, [], []) := rfl
theorem read_end {acc r : List UInt8} {c : UInt8} (h : c.toNat = 34) : readB acc (c :: r) = (0, acc, r) := by rw [readB.eq_def]; exact if_pos h
theorem read_bs {acc : List UInt8} {c : UInt8} (h1 : c.toNat ≠ 34) (h2 : c.toNat = 92) : readB acc [c] = (4, [], []) := by rw [readB, if_neg h1, if_pos h2]
theorem read_esc {acc r : List UInt8} {c d : UInt8} (h1 : c.toNat ≠ 34) (h2 : c.toNat = 92) (h3 : d.toNat = 34 ∨ d.toNat = 92) : readB acc (c :: d :: r) = readB (acc ++ [d]) r := by rw [readB, if_neg h1, if_pos h2, if_pos h3]
theorem read_bad {acc r : List UInt8} {c d : UInt8} (h1 : c.toNat ≠ 34) (h2 : c.toNat = 92) (h3 : ¬ (d.toNat = 34 ∨ d.toNat = 92)) : readB acc (c :: d :: r) = (3, [], []) := by rw [readB, if_neg h1, if_pos h2, if_neg h3]
theorem read_one {acc r : List UInt8} {c : UInt8} (h1 : c.toNat ≠ 34) (h2 : c.toNat ≠ 92) : readB acc (c :: r) = readB (acc ++ [c]) r := by rw [readB.eq_def]; exact (if_neg h1).trans (if_neg h2)
theorem escC_esc {c : UInt8} (h : c.toNat = 34 ∨ c.toNat = 92) : escC c = [92, c] := if_pos h
theorem escC_one {c : UInt8} (h : ¬ (c.toNat = 34 ∨ c.toNat = 92)) : escC c = [c] := if_neg h
theorem read_quote (t rest : List UInt8) : ∀ acc, readB acc (escB t ++ 34 :: rest) = (0, acc ++ t, rest) := by
  induction t with
  | nil => intro acc; rw [show escB [] ++ 34 :: rest = 34 :: rest from rfl, read_end rfl, List.append_nil]
  | cons c t ih =>
    intro acc
    have e : escB (c :: t) = escC c ++ escB t := by unfold escB; rw [List.flatMap_cons]
    rw [e, List.append_assoc]
    by_cases h : c.toNat = 34 ∨ c.toNat = 92
    · rw [escC_esc h, List.cons_append, List.cons_append, List.nil_append, read_esc (by decide) rfl h, ih, List.append_assoc]; rfl
    · rw [escC_one h, List.cons_append, List.nil_append, read_one (fun e => h (.inl e)) (fun e => h (.inr e)), ih, List.append_assoc]; rfl
theorem toNat_34 {c : UInt8} (h : c.toNat = 34) : c = 34 := UInt8.toNat_inj.1 h
theorem toNat_92 {c : UInt8} (h : c.toNat = 92) : c = 92 := UInt8.toNat_inj.1 h
theorem read_ok : ∀ (n : Nat) (l acc t rest : List UInt8), l.length ≤ n → readB acc l = (0, t, rest) → ∃ m, t = acc ++ m ∧ l = escB m ++ 34 :: rest := by
  intro n
  induction n with
  | zero =>
    intro l acc t rest hl h
    have : l = [] := List.eq_nil_of_length_eq_zero (by omega)
    subst this
    rw [read_nil] at h
    injection h with h _; cases h
  | succ n ih =>
    intro l acc t rest hl h
    match l, hl, h with
    | [], _, h => rw [read_nil] at h; injection h with h _; cases h
    | c :: r, hl, h =>
      by_cases h1 : c.toNat = 34
      · rw [read_end h1] at h
        injection h with _ h; injection h with h h'
        subst h h'
        exact ⟨[], by simp, by rw [toNat_34 h1]; rfl⟩
      by_cases h2 : c.toNat = 92
      · match r, hl, h with
        | [], _, h => rw [read_bs h1 h2] at h; injection h with h _; cases h
        | d :: r', hl, h =>
          by_cases h3 : d.toNat = 34 ∨ d.toNat = 92
          · rw [read_esc h1 h2 h3] at h
            obtain ⟨m, hm, hr⟩ := ih r' _ _ _ (by simp at hl; omega) h
            refine ⟨d :: m, by rw [hm, List.append_assoc]; rfl, ?_⟩
            have e : escB (d :: m) = escC d ++ escB m := by unfold escB; rw [List.flatMap_cons]
            rw [e, escC_esc h3, hr, toNat_92 h2]
            simp
          · rw [read_bad h1 h2 h3] at h; injection h with h _; cases h
      · rw [read_one h1 h2] at h
        obtain ⟨m, hm, hr⟩ := ih r _ _ _ (by simp at hl; omega) h
        refine ⟨c :: m, by rw [hm, List.append_assoc]; rfl, ?_⟩
        have e : escB (c :: m) = escC c ++ escB m := by unfold escB; rw [List.flatMap_cons]
        rw [e, escC_one (fun h => h.elim h1 h2), hr]
        simp
theorem read_len : ∀ (n : Nat) (l acc : List UInt8), l.length ≤ n → (readB acc l).2.1.length ≤ acc.length + l.length := by
  intro n
  induction n with
  | zero =>
    intro l acc hl
    have : l = [] := List.eq_nil_of_length_eq_zero (by omega)
    subst this
    rw [read_nil]; simp
  | succ n ih =>
    intro l acc hl
    match l, hl with
    | [], _ => rw [read_nil]; simp
    | c :: r, hl =>
      by_cases h1 : c.toNat = 34
      · rw [read_end h1]; simp
      by_cases h2 : c.toNat = 92
      · match r, hl with
        | [], _ => rw [read_bs h1 h2]; simp
        | d :: r', hl =>
          by_cases h3 : d.toNat = 34 ∨ d.toNat = 92
          · rw [read_esc h1 h2 h3]
            have := ih r' (acc ++ [d]) (by simp at hl; omega)
            simp at *; omega
          · rw [read_bad h1 h2 h3]; simp
      · rw [read_one h1 h2]
        have := ih r (acc ++ [c]) (by simp at hl; omega)
        simp at *; omega

/-- Unquote: the text and the error. -/
def endE : Int × List UInt8 × List UInt8 → ByteArray × Int
  | (0, t, []) => if 16384 < t.length then (⟨#[]⟩, 5) else (⟨t.toArray⟩, 0)
  | (0, _, _ :: _) => (⟨#[]⟩, 3)
  | (e, _, _) => (⟨#[]⟩, e)
def headB (l : List UInt8) : Bool := match l with
  | [] => false
  | c :: _ => decide (c.toNat = 34)
def unquoteE (s : ByteArray) : ByteArray × Int :=
  if 32770 < s.size then (⟨#[]⟩, 5)
  else if headB s.data.toList && plainS s then endE (readB [] (s.data.toList.drop 1)) else (⟨#[]⟩, 3)
theorem unquote_full {s : ByteArray} (h : 32770 < s.size) : unquoteE s = (⟨#[]⟩, 5) := if_pos h
theorem unquote_form {s : ByteArray} (h : ¬ 32770 < s.size) (h' : (headB s.data.toList && plainS s) = false) : unquoteE s = (⟨#[]⟩, 3) := by unfold unquoteE; rw [if_neg h, h']; rfl
theorem unquote_read {s : ByteArray} (h : ¬ 32770 < s.size) (h' : (headB s.data.toList && plainS s) = true) : unquoteE s = endE (readB [] (s.data.toList.drop 1)) := by unfold unquoteE; rw [if_neg h, h']; rfl
theorem unquote_ok {s t : ByteArray} (h : unquoteE s = (t, 0)) : quoteS t = s := by
  unfold unquoteE at h
  split at h
  · injection h with _ h; cases h
  split at h
  · rename_i _ hh
    simp only [Bool.and_eq_true] at hh
    generalize hr : readB [] (s.data.toList.drop 1) = r at h
    obtain ⟨e, u, rest⟩ := r
    by_cases he : e = 0
    · subst he
      cases rest with
      | nil =>
        unfold endE at h
        simp only at h
        split at h
        · injection h with _ h; cases h
        · injection h with h _
          obtain ⟨m, hm, hl⟩ := read_ok _ _ _ _ _ (Nat.le_refl _) hr
          rw [List.nil_append] at hm
          subst hm
          subst h
          unfold quoteS quoteL
          simp only
          rw [← hl]
          obtain ⟨d⟩ := s
          congr 1
          apply Array.toList_inj.1
          obtain ⟨hd, _⟩ := hh
          simp only at hd ⊢
          cases hdl : d.toList with
          | nil => rw [hdl] at hd; cases hd
          | cons c l =>
            rw [hdl] at hd
            have : c.toNat = 34 := of_decide_eq_true hd
            rw [toNat_34 this]
            simp
      | cons a b => unfold endE at h; simp only at h; injection h with _ h; cases h
    · exfalso
      have : endE (e, u, rest) = (⟨#[]⟩, e) := by
        unfold endE
        split
        · rename_i h1; injection h1 with h1 _; exact absurd h1 he
        · rename_i h1; injection h1 with h1 _; exact absurd h1 he
        · rename_i h1; injection h1 with h1 _; rw [h1]
      rw [this] at h
      injection h with _ h
      exact he h
  · injection h with _ h; cases h
theorem size_list (t : ByteArray) : t.data.toList.length = t.size := Array.length_toList
theorem quote_size (t : ByteArray) : (quoteS t).size ≤ 2 * t.size + 2 := by
  have := escB_len t.data.toList
  unfold quoteS quoteL
  simp only [ByteArray.size, List.size_toArray, List.length_cons, List.length_append, List.length_nil]
  have e : t.data.toList.length = t.data.size := by simp
  omega
theorem plain_of_list {s : ByteArray} : plainS s = s.data.toList.all plainC := by
  unfold plainS; rfl
theorem plain_escB {l : List UInt8} (h : l.all plainC = true) : (escB l).all plainC = true := by
  rw [List.all_eq_true] at h ⊢
  intro x hx
  unfold escB at hx
  obtain ⟨c, hc, hx⟩ := List.mem_flatMap.1 hx
  unfold escC at hx
  split at hx
  · rcases List.mem_cons.1 hx with rfl | hx
    · decide
    · rcases List.mem_cons.1 hx with rfl | hx
      · exact h _ hc
      · simp at hx
  · rcases List.mem_cons.1 hx with rfl | hx
    · exact h _ hc
    · simp at hx
theorem plain_quote {t : ByteArray} (h : plainS t = true) : plainS (quoteS t) = true := by
  rw [plain_of_list] at h ⊢
  unfold quoteS quoteL
  simp only [List.all_cons, List.all_append, List.all_nil, Bool.and_true]
  rw [plain_escB h]
  decide
theorem unquote_quote {t : ByteArray} (h : plainS t = true) (hs : t.size ≤ 200) : unquoteE (quoteS t) = (t, 0) := by
  have h1 := quote_size t
  rw [unquote_read (by omega) (by rw [plain_quote h]; rfl)]
  have e : (quoteS t).data.toList.drop 1 = escB t.data.toList ++ 34 :: [] := rfl
  rw [e, read_quote]
  unfold endE
  simp only [List.nil_append]
  have e2 : ¬ 16384 < t.data.toList.length := by rw [size_list]; omega
  rw [if_neg e2]

/-- The number that a text stands for. -/
def okOf : Lib.NumEnd Int → Option Int
  | .ok n => some n
  | _ => none
def numOf (s : ByteArray) : Option Int := (okOf (Lib.atoiAll s.data.toList)).bind fun n => if numB n && decide (itoaS n = s) then some n else none
theorem num_some {s : ByteArray} {n : Int} : numOf s = some n ↔ numB n = true ∧ itoaS n = s := by
  unfold numOf
  constructor
  · intro h
    obtain ⟨m, hm, h⟩ := Option.bind_eq_some_iff.1 h
    split at h
    · rename_i hh
      injection h with h
      subst h
      simpa using hh
    · cases h
  · rintro ⟨h1, rfl⟩
    have hb : -4503599627370496 ≤ n ∧ n ≤ 4503599627370496 := by unfold numB at h1; simpa using h1
    have e : Lib.atoiAll (itoaS n).data.toList = .ok n := atoiAll_itoa (by omega) (by omega)
    rw [e]
    show (if (numB n && decide (itoaS n = itoaS n)) = true then some n else none) = some n
    rw [h1]
    simp
def txtOf (s : ByteArray) : Option ByteArray := if (unquoteE s).2 = 0 ∧ textB (unquoteE s).1 = true then some (unquoteE s).1 else none
theorem txt_some {s t : ByteArray} : txtOf s = some t ↔ unquoteE s = (t, 0) ∧ textB t = true := by
  unfold txtOf
  constructor
  · intro h
    split at h
    · rename_i hh
      injection h with h
      subst h
      exact ⟨by rw [← hh.1], hh.2⟩
    · cases h
  · rintro ⟨h1, h2⟩
    rw [h1, if_pos ⟨rfl, h2⟩]
def parseE (s : ByteArray) : Val × Int :=
  if s = trueS then (⟨1, 1, ⟨#[]⟩⟩, 0) else if s = falseS then (⟨1, 0, ⟨#[]⟩⟩, 0) else
  match numOf s with
  | some n => (⟨2, n, ⟨#[]⟩⟩, 0)
  | none => match txtOf s with
    | some t => (⟨3, 0, t⟩, 0)
    | none => (⟨0, 0, ⟨#[]⟩⟩, 3)
theorem parse_true {s : ByteArray} (h : s = trueS) : parseE s = (⟨1, 1, ⟨#[]⟩⟩, 0) := if_pos h
theorem parse_false {s : ByteArray} (h : s = falseS) : parseE s = (⟨1, 0, ⟨#[]⟩⟩, 0) := by subst h; rfl
theorem parse_num {s : ByteArray} {n : Int} (h1 : s ≠ trueS) (h2 : s ≠ falseS) (h : numOf s = some n) : parseE s = (⟨2, n, ⟨#[]⟩⟩, 0) := by unfold parseE; rw [if_neg h1, if_neg h2, h]
theorem parse_txt {s t : ByteArray} (h1 : s ≠ trueS) (h2 : s ≠ falseS) (h : numOf s = none) (h' : txtOf s = some t) : parseE s = (⟨3, 0, t⟩, 0) := by unfold parseE; rw [if_neg h1, if_neg h2, h, h']
theorem parse_none {s : ByteArray} (h1 : s ≠ trueS) (h2 : s ≠ falseS) (h : numOf s = none) (h' : txtOf s = none) : parseE s = (⟨0, 0, ⟨#[]⟩⟩, 3) := by unfold parseE; rw [if_neg h1, if_neg h2, h, h']
theorem itoa_head (n : Int) : ∃ c r, (itoaS n).data.toList = c :: r ∧ c.toNat ≠ 34 := by
  unfold itoaS
  show ∃ c r, Lib.itoa n = c :: r ∧ _
  unfold Lib.itoa
  split
  · exact ⟨45, _, rfl, by decide⟩
  · obtain ⟨c, r, h, h1, h2⟩ := decDigits_head n.toNat
    exact ⟨c, r, h, by omega⟩
theorem num_quoted {s : ByteArray} (h : headB s.data.toList = true) : numOf s = none := by
  cases hn : numOf s with
  | none => rfl
  | some n =>
    obtain ⟨_, h2⟩ := num_some.1 hn
    obtain ⟨c, r, h3, h4⟩ := itoa_head n
    rw [h2] at h3
    rw [h3] at h
    exact absurd (of_decide_eq_true h) h4
theorem txt_bare {s : ByteArray} (h : headB s.data.toList = false) : txtOf s = none := by
  cases hn : txtOf s with
  | none => rfl
  | some t =>
    obtain ⟨h1, _⟩ := txt_some.1 hn
    unfold unquoteE at h1
    rw [h] at h1
    split at h1
    · injection h1 with _ h1; cases h1
    · simp at h1
end Go.Proofs.YtchfmjociflgfaaGreatDoor
