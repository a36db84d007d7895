/- Texts of nets as plain lists: parts between bytes, numbers, what is read from a text; a net is read from its own. No program in sight. -/
import Derived.Lib.SplitLaws
import Derived.Test.YtlkkfkkhllijbaaGreatDoorText
import Derived.Test.YtlkkfkkhllijbaaGreatDoorNumText
namespace Go.Proofs.YtlkkfkkhllijbaaGreatDoor
open Go.RowKit

def partsB (c : UInt8) : List UInt8 → List (List UInt8)
  | [] => [[]]
  | b :: l => if b = c then [] :: partsB c l else match partsB c l with
    | [] => [[b]]
    | p :: ps => (b :: p) :: ps
theorem parts_ne (c : UInt8) (l : List UInt8) : ∃ p ps, partsB c l = p :: ps := by
  cases l with
  | nil => exact ⟨_, _, rfl⟩
  | cons b l =>
    unfold partsB
    split
    · exact ⟨_, _, rfl⟩
    · split <;> exact ⟨_, _, rfl⟩
theorem parts_hit (c : UInt8) (l : List UInt8) : partsB c (c :: l) = [] :: partsB c l := by rw [partsB, if_pos rfl]
theorem parts_step {b c : UInt8} {l p : List UInt8} {ps : List (List UInt8)} (h : b ≠ c) (hp : partsB c l = p :: ps) : partsB c (b :: l) = (b :: p) :: ps := by rw [partsB, if_neg h, hp]
theorem parts_app {c : UInt8} : ∀ {l : List UInt8} (_ : ∀ b ∈ l, b ≠ c) (r : List UInt8), partsB c (l ++ c :: r) = l :: partsB c r
  | [], _, r => parts_hit c r
  | b :: l, h, r => parts_step (h b (by simp)) (parts_app (fun x hx => h x (by simp [hx])) r)
theorem parts_one {c : UInt8} : ∀ {l : List UInt8} (_ : ∀ b ∈ l, b ≠ c), partsB c l = [l]
  | [], _ => rfl
  | b :: l, h => parts_step (h b (by simp)) (parts_one (fun x hx => h x (by simp [hx])))
theorem parts_head {c : UInt8} : ∀ {l p : List UInt8} {ps : List (List UInt8)}, partsB c l = p :: ps → (∀ b ∈ p, b ≠ c) ∧ ((ps = [] ∧ l = p) ∨ ∃ r, l = p ++ c :: r ∧ partsB c r = ps)
  | [], p, ps, h => by
    rw [partsB] at h
    injection h with h1 h2
    subst h1 h2
    exact ⟨fun b hb => (by cases hb), .inl ⟨rfl, rfl⟩⟩
  | b :: l, p, ps, h => by
    rw [partsB] at h
    split at h
    · rename_i e
      injection h with h1 h2
      subst h1 e
      exact ⟨fun b hb => (by cases hb), .inr ⟨l, rfl, h2⟩⟩
    · rename_i e
      obtain ⟨q, qs, hq⟩ := parts_ne c l
      rw [hq] at h
      injection h with h1 h2
      subst h1 h2
      obtain ⟨a, b'⟩ := parts_head hq
      refine ⟨fun x hx => ?_, ?_⟩
      · rcases List.mem_cons.1 hx with rfl | hx
        · exact e
        · exact a x hx
      · rcases b' with ⟨rfl, rfl⟩ | ⟨r, rfl, hr⟩
        · exact .inl ⟨rfl, rfl⟩
        · exact .inr ⟨r, rfl, hr⟩
/-- The library's pieces at one byte. -/
theorem split_parts (c : UInt8) : ∀ (n : Nat) (s : List UInt8), s.length ≤ n → Lib.split s [c] = partsB c s := by
  intro n
  induction n with
  | zero =>
    intro s hs
    have : s = [] := List.eq_nil_of_length_eq_zero (by omega)
    subst this
    unfold Lib.split
    rw [Lib.count_one]
    rfl
  | succ n ih =>
    intro s hs
    unfold Lib.split
    rw [Lib.count_one]
    obtain ⟨p, ps, hp⟩ := parts_ne c s
    obtain ⟨h1, h2⟩ := parts_head hp
    rcases h2 with ⟨rfl, rfl⟩ | ⟨r, rfl, hr⟩
    · have h0 : s.count c = 0 := List.count_eq_zero.2 fun h => h1 c h rfl
      rw [h0, hp]; rfl
    · have h0 : p.count c = 0 := List.count_eq_zero.2 fun h => h1 c h rfl
      have hi : Lib.index (p ++ c :: r) [c] = (p.length : Int) := by
        refine Lib.index_first (i := p.length) (by simp) ?_ ?_
        · simp [Lib.occAt]
        · intro j hj
          have : (p ++ c :: r)[j]? = some p[j] := by rw [List.getElem?_append_left hj, List.getElem?_eq_getElem hj]
          have hne : p[j] ≠ c := h1 _ (List.getElem_mem hj)
          have hd : (p ++ c :: r).drop j = p[j] :: (p ++ c :: r).drop (j + 1) := by
            rw [List.drop_eq_getElem_cons (by simp; omega)]
            congr 1
            rw [List.getElem_append_left hj]
          unfold Lib.occAt
          rw [hd]
          have : (c == p[j]) = false := by simp [hne.symm]
          rw [List.isPrefixOf, this]; rfl
      have hc : (p ++ c :: r).count c = r.count c + 1 := by rw [List.count_append, h0, List.count_cons_self, Nat.zero_add]
      rw [hc, Lib.splitK]
      have hm : ¬ (Lib.index (p ++ c :: r) [c] == -1) = true := by rw [hi]; simp
      rw [if_neg hm, hi, hp]
      have e1 : ((p.length : Int)).toNat = p.length := by omega
      rw [e1]
      have e2 : (p ++ c :: r).take (p.length + 0) = p := by simp
      have e3 : (p ++ c :: r).drop (p.length + [c].length) = r := by
        have : p ++ c :: r = (p ++ [c]) ++ r := by simp
        rw [this]
        exact List.drop_left' (by simp)
      rw [e2, e3]
      have := ih r (by simp at hs; omega)
      unfold Lib.split at this
      rw [Lib.count_one, hr] at this
      rw [this]

/-! ### numbers -/
theorem head_app {m r : List UInt8} (hm : m ≠ []) : (m ++ r).head? = m.head? := by
  cases m with
  | nil => exact absurd rfl hm
  | cons a m => rfl
/-- A number of at most nine digits in decimal, without needless zeros. -/
def num9 (l : List UInt8) : Option Int := match Lib.decFrom 0 l with
  | some u => if Lib.decDigits u = l ∧ l.length ≤ 9 then some (u : Int) else none
  | none => none
theorem num9_some {l : List UInt8} {z : Int} : num9 l = some z ↔ 0 ≤ z ∧ l = numB z ∧ l.length ≤ 9 := by
  unfold num9 numB
  constructor
  · intro h
    split at h
    · rename_i u hu
      split at h
      · rename_i hc
        injection h with h
        subst h
        exact ⟨by omega, by rw [Int.toNat_natCast]; exact hc.1.symm, hc.2⟩
      · cases h
    · cases h
  · rintro ⟨h0, rfl, h9⟩
    rw [decFrom_digits]
    dsimp only
    rw [if_pos ⟨rfl, h9⟩]
    congr 1
    omega
theorem num9_num {z : Int} (h0 : 0 ≤ z) (h9 : (numB z).length ≤ 9) : num9 (numB z) = some z := num9_some.2 ⟨h0, rfl, h9⟩
/-- Digits without needless zeros are those of their number. -/
theorem digits_back : ∀ (n : Nat) (l : List UInt8) (u : Nat), l.length ≤ n → l ≠ [] → (1 < l.length → l.head? ≠ some 48) → Lib.decFrom 0 l = some u → Lib.decDigits u = l := by
  intro n
  induction n with
  | zero => intro l u h1 h2; exact absurd (List.eq_nil_of_length_eq_zero (by omega)) h2
  | succ n ih =>
    intro l u h1 h2 h3 h4
    rcases List.eq_nil_or_concat l with rfl | ⟨m, b, rfl⟩
    · exact absurd rfl h2
    rw [List.concat_eq_append] at *
    rw [decFrom_append, Option.bind_eq_some_iff] at h4
    obtain ⟨v, hv, hb⟩ := h4
    rw [Lib.decFrom] at hb
    cases hd : Lib.digitVal b with
    | none => rw [hd] at hb; cases hb
    | some d =>
      rw [hd] at hb
      injection hb with hb
      have hd' := hd
      unfold Lib.digitVal at hd'
      split at hd'
      · rename_i hr
        injection hd' with hd'
        have eb : b = UInt8.ofNat (48 + d) := by
          apply UInt8.toNat_inj.1
          simp
          omega
        by_cases hm : m = []
        · subst hm
          injection hv with hv
          rw [Lib.decDigits, dif_pos (by omega), eb, ← hb, ← hv]
          simp
        · have hlen : 0 < m.length := List.length_pos_iff.2 hm
          have h3' : m.head? ≠ some 48 := by
            have := h3 (by simp; omega)
            rwa [head_app hm] at this
          have hw := ih m v (by simp at h1; omega) hm (fun _ => h3') hv
          have hv0 : v ≠ 0 := by
            rintro rfl
            rw [Lib.decDigits, dif_pos (by omega)] at hw
            rw [← hw] at h3'
            exact h3' rfl
          rw [Lib.decDigits, dif_neg (by omega), ← hb]
          have e1 : (v * 10 + d) / 10 = v := by omega
          have e2 : (v * 10 + d) % 10 = d := by omega
          rw [e1, e2, hw, eb]
      · cases hd'
/-- As the reference says it. -/
theorem num9_ref {l : List UInt8} {u : Nat} (h1 : 1 ≤ l.length) (h9 : l.length ≤ 9) (h0 : 1 < l.length → l.head? ≠ some 48) (h : Lib.decFrom 0 l = some u) : num9 l = some (u : Int) := by
  unfold num9
  rw [h]
  dsimp only
  rw [if_pos ⟨digits_back _ l u (Nat.le_refl _) (by rintro rfl; simp at h1) h0 h, h9⟩]
theorem digits_len1 (u : Nat) : 1 ≤ (Lib.decDigits u).length := by
  rw [Lib.decDigits]; split <;> simp
theorem digits_zero (u : Nat) (h : 1 < (Lib.decDigits u).length) : (Lib.decDigits u).head? ≠ some 48 := by
  induction u using Nat.strongRecOn with
  | ind u ih =>
    rw [Lib.decDigits] at h ⊢
    split at h
    · simp at h
    · rename_i hu
      rw [dif_neg hu]
      have hne : Lib.decDigits (u / 10) ≠ [] := by have := digits_len1 (u / 10); intro e; rw [e] at this; simp at this
      rw [head_app hne]
      by_cases h10 : u / 10 < 10
      · rw [Lib.decDigits, dif_pos h10]
        intro e
        injection e with e
        have := congrArg UInt8.toNat e
        simp at this
        omega
      · refine ih (u / 10) (by omega) ?_
        rw [Lib.decDigits, dif_neg h10]
        have := digits_len1 (u / 10 / 10)
        simp
        omega
theorem num9_long {l : List UInt8} (h : 9 < l.length) : num9 l = none := by
  cases hn : num9 l with
  | none => rfl
  | some z => have := (num9_some.1 hn).2.2; omega
theorem num9_nil : num9 [] = none := by
  cases hn : num9 [] with
  | none => rfl
  | some z => have := (num9_some.1 hn).2.1; have h := digits_len1 z.toNat; unfold numB at this; rw [← this] at h; simp at h
theorem num9_zero {l : List UInt8} (h : 1 < l.length) (h0 : l.head? = some 48) : num9 l = none := by
  cases hn : num9 l with
  | none => rfl
  | some z =>
    obtain ⟨_, e, _⟩ := num9_some.1 hn
    subst e
    exact absurd h0 (digits_zero _ h)
theorem num9_bad {l : List UInt8} {b : UInt8} (hb : b ∈ l) (h : Lib.digitVal b = none) : num9 l = none := by
  unfold num9
  have : ∀ (l : List UInt8) acc, b ∈ l → Lib.decFrom acc l = none := by
    intro l
    induction l with
    | nil => intro acc hb; cases hb
    | cons a l ih =>
      intro acc hb
      rw [Lib.decFrom]
      cases ha : Lib.digitVal a with
      | none => rfl
      | some d =>
        rcases List.mem_cons.1 hb with rfl | hb
        · rw [h] at ha; cases ha
        · exact ih _ hb
  rw [this l 0 hb]


/-! ### what is read -/
def arrowB : List UInt8 := [45, 62]
def toksB : List (List UInt8) → Nat → List Int → List Int → Option (Nat × List Int × List Int)
  | [], a, i, o => some (a, i, o)
  | t :: ts, a, i, o => if t = arrowB then toksB ts (a + 1) i o else match num9 t with
    | none => none
    | some z => if a = 0 then toksB ts a (i ++ [z]) o else toksB ts a i (o ++ [z])
theorem toks_ge : ∀ (ts : List (List UInt8)) (a : Nat) (i o : List Int) (b : Nat) (i' o' : List Int), toksB ts a i o = some (b, i', o') → a ≤ b
  | [], a, i, o, b, i', o', h => by
    rw [toksB] at h
    injection h with h
    injection h with h
    omega
  | t :: ts, a, i, o, b, i', o', h => by
    rw [toksB] at h
    split at h
    · have := toks_ge ts _ _ _ _ _ _ h; omega
    · split at h
      · cases h
      · split at h
        · exact toks_ge ts _ _ _ _ _ _ h
        · exact toks_ge ts _ _ _ _ _ _ h
theorem toks_app : ∀ (ts us : List (List UInt8)) (a : Nat) (i o : List Int), toksB (ts ++ us) a i o = (toksB ts a i o).bind fun p => toksB us p.1 p.2.1 p.2.2
  | [], us, a, i, o => rfl
  | t :: ts, us, a, i, o => by
    rw [List.cons_append, toksB, toksB]
    split
    · exact toks_app ts us _ _ _
    · split
      · rfl
      · split
        · exact toks_app ts us _ _ _
        · exact toks_app ts us _ _ _
def cutB (c : UInt8) : List UInt8 → Option (List UInt8 × List UInt8)
  | [] => none
  | b :: l => if b = c then some ([], l) else (cutB c l).map fun p => (b :: p.1, p.2)
theorem cut_app {c : UInt8} : ∀ {l : List UInt8} (_ : ∀ b ∈ l, b ≠ c) (r : List UInt8), cutB c (l ++ c :: r) = some (l, r)
  | [], _, r => by rw [List.nil_append, cutB, if_pos rfl]
  | b :: l, h, r => by rw [List.cons_append, cutB, if_neg (h b (by simp)), cut_app (fun x hx => h x (by simp [hx])) r]; rfl
theorem cut_some {c : UInt8} : ∀ {l p r : List UInt8}, cutB c l = some (p, r) → l = p ++ c :: r ∧ ∀ b ∈ p, b ≠ c
  | [], p, r, h => by cases h
  | b :: l, p, r, h => by
    rw [cutB] at h
    split at h
    · rename_i e
      injection h with h
      injection h with h1 h2
      subst h1 h2 e
      exact ⟨rfl, fun b hb => (by cases hb)⟩
    · rename_i e
      rw [Option.map_eq_some_iff] at h
      obtain ⟨⟨q, s⟩, hq, h⟩ := h
      injection h with h1 h2
      subst h1 h2
      obtain ⟨a, b'⟩ := cut_some hq
      exact ⟨by rw [a]; rfl, fun x hx => by
        rcases List.mem_cons.1 hx with rfl | hx
        · exact e
        · exact b' x hx⟩
theorem cut_none {c : UInt8} : ∀ {l : List UInt8}, cutB c l = none → ∀ b ∈ l, b ≠ c
  | [], _, b, hb => by cases hb
  | a :: l, h, b, hb => by
    rw [cutB] at h
    split at h
    · cases h
    · rename_i e
      rw [Option.map_eq_none_iff] at h
      rcases List.mem_cons.1 hb with rfl | hb
      · exact e
      · exact cut_none h b hb
def labB (lab : List UInt8) : Bool := decide (lab = [95]) || isNameB ⟨lab.toArray⟩
def outB (lab : List UInt8) : ByteArray := if lab = [95] then ⟨#[]⟩ else ⟨lab.toArray⟩
def transOf (lab : List UInt8) (ts : List (List UInt8)) : Option Tr := match toksB ts 0 [] [] with
  | some (1, i, o) => some ⟨outB lab, i, o⟩
  | _ => none
def transB (l : List UInt8) : Option Tr := match cutB 58 l with
  | none => none
  | some (lab, rest) => if labB lab = true then match partsB 32 rest with
      | [] :: ts => transOf lab ts
      | _ => none
    else none
/-- As the reference reads a line. -/
def transR (l : List UInt8) : Option Tr := match partsB 32 l with
  | [] => none
  | p :: ts => if 2 ≤ p.length ∧ p.getLast? = some 58 ∧ labB p.dropLast = true then transOf p.dropLast ts else none
theorem name_bytes {lab : List UInt8} (h : labB lab = true) : lab ≠ [] ∧ ∀ b ∈ lab, b ≠ 58 ∧ b ≠ 32 ∧ b ≠ 10 := by
  unfold labB at h
  rw [Bool.or_eq_true, decide_eq_true_eq] at h
  rcases h with rfl | h
  · exact ⟨by simp, fun b hb => by rw [List.mem_singleton] at hb; subst hb; decide⟩
  · unfold isNameB at h
    simp only [Bool.and_eq_true, decide_eq_true_eq, List.all_eq_true, List.mem_range] at h
    obtain ⟨⟨⟨h1, _⟩, _⟩, h4⟩ := h
    have hs : (⟨lab.toArray⟩ : ByteArray).size = lab.length := by simp [ByteArray.size]
    rw [hs] at h1 h4
    refine ⟨by rintro rfl; simp at h1, fun b hb => ?_⟩
    obtain ⟨k, hk, rfl⟩ := List.mem_iff_getElem.1 hb
    have hp := h4 k hk
    have e : byteAt ⟨lab.toArray⟩ k = (lab[k].toNat : Int) := by
      unfold byteAt
      show (((lab[k]?).getD 0).toNat : Int) = _
      rw [List.getElem?_eq_getElem hk]; rfl
    rw [e] at hp
    unfold partB letterB at hp
    simp only [Bool.or_eq_true, decide_eq_true_eq] at hp
    refine ⟨fun e => ?_, fun e => ?_, fun e => ?_⟩ <;> (rw [e] at hp; simp at hp)
theorem trans_ref (l : List UInt8) : transR l = transB l := by
  unfold transR transB
  obtain ⟨p, ts, hp⟩ := parts_ne 32 l
  obtain ⟨h1, h2⟩ := parts_head hp
  rw [hp]
  dsimp only
  by_cases hc : 2 ≤ p.length ∧ p.getLast? = some 58 ∧ labB p.dropLast = true
  · rw [if_pos hc]
    obtain ⟨c1, c2, c3⟩ := hc
    have hpe : p = p.dropLast ++ [58] := by
      have hne : p ≠ [] := by rintro rfl; simp at c1
      have := List.dropLast_concat_getLast hne
      rw [List.getLast?_eq_some_getLast hne] at c2
      injection c2 with c2
      rw [c2] at this
      exact this.symm
    obtain ⟨hn0, hn⟩ := name_bytes c3
    generalize hlab : p.dropLast = lab at *
    subst hpe
    have hcut : ∀ r, cutB 58 (lab ++ [58] ++ r) = some (lab, r) := fun r => by
      rw [List.append_assoc]
      exact cut_app (fun b hb => (hn b hb).1) r
    rcases h2 with ⟨rfl, rfl⟩ | ⟨r, rfl, hr⟩
    · have := hcut []
      rw [List.append_nil] at this
      rw [this]
      dsimp only
      rw [if_pos c3]
      rfl
    · rw [hcut]
      dsimp only
      rw [if_pos c3, parts_hit, hr]
  · rw [if_neg hc]
    cases hcut : cutB 58 l with
    | none => rfl
    | some q =>
      obtain ⟨lab, rest⟩ := q
      dsimp only
      split
      · rename_i hl
        obtain ⟨e, hn58⟩ := cut_some hcut
        obtain ⟨hn0, hn⟩ := name_bytes hl
        obtain ⟨r0, rs, hr⟩ := parts_ne 32 rest
        rw [hr]
        split
        · rename_i us hus
          injection hus with hus1 hus2
          subst hus1 hus2
          exfalso
          obtain ⟨g1, g2⟩ := parts_head hr
          have hp2 : partsB 32 l = (lab ++ [58]) :: rs := by
            rcases g2 with ⟨rfl, rfl⟩ | ⟨r, rfl, hr'⟩
            · rw [e]
              exact parts_one (fun b hb => by
                rcases List.mem_append.1 hb with hb | hb
                · exact (hn b hb).2.1
                · rw [List.mem_singleton] at hb; subst hb; decide)
            · rw [e, List.nil_append, ← hr']
              have : lab ++ 58 :: 32 :: r = (lab ++ [58]) ++ 32 :: r := by simp
              rw [this]
              exact parts_app (fun b hb => by
                rcases List.mem_append.1 hb with hb | hb
                · exact (hn b hb).2.1
                · rw [List.mem_singleton] at hb; subst hb; decide) r
          rw [hp] at hp2
          injection hp2 with e1 e2
          subst e1
          refine hc ⟨?_, by simp, by simpa using hl⟩
          have := List.length_pos_iff.2 hn0
          simp; omega
        · rfl
      · rfl

def wordNet : List UInt8 := [110, 101, 116]
def wordSource : List UInt8 := [115, 111, 117, 114, 99, 101]
def wordSink : List UInt8 := [115, 105, 110, 107]
def firstB (l : List UInt8) : Option Net := match partsB 32 l with
  | [a, p, b, x, c, y] => if a = wordNet ∧ b = wordSource ∧ c = wordSink then match num9 p, num9 x, num9 y with
      | some p, some x, some y => some ⟨p, [], x, y⟩
      | _, _, _ => none
    else none
  | _ => none
def noNet : Net := ⟨0, [], 0, 0⟩
/-- What is read from the lines that are left: the net, the line of the fault, the error. -/
def linesB : List (List UInt8) → Nat → Net → Net × Nat × Int
  | [], i, _ => (noNet, i + 1, 3)
  | [l], i, n => if l = [] ∧ 0 < i then (if validB n then (n, 0, 0) else (noNet, 0, 1)) else (noNet, i + 1, 3)
  | l :: m :: ls, i, n => if i = 0 then match firstB l with
      | none => (noNet, 1, 3)
      | some n' => linesB (m :: ls) 1 n'
    else match transB l with
      | none => (noNet, i + 1, 3)
      | some t => linesB (m :: ls) (i + 1) ⟨n.places, n.trans ++ [t], n.source, n.sink⟩
def parseB (s : List UInt8) : Net × Nat × Int := if 16384 < s.length then (noNet, 0, 5) else linesB (partsB 10 s) 0 noNet

/-! ### a net is read from its text -/
theorem num_digit (z : Int) : ∀ b ∈ numB z, 48 ≤ b.toNat ∧ b.toNat ≤ 57 := decDigits_digit _
theorem num_ne (z : Int) {c : UInt8} (hc : c.toNat < 48 ∨ 57 < c.toNat) : ∀ b ∈ numB z, b ≠ c := fun b hb e => by
  have := num_digit z b hb
  rw [e] at this
  omega
theorem num_arrow (z : Int) : numB z ≠ arrowB := fun e => by
  have := num_digit z 45 (by rw [e]; simp [arrowB])
  simp at this
theorem parts_words {c : UInt8} : ∀ (ws : List (List UInt8)), (∀ w ∈ ws, ∀ b ∈ w, b ≠ c) → partsB c (ws.flatMap fun w => c :: w) = [] :: ws
  | [], _ => rfl
  | w :: ws, h => by
    rw [List.flatMap_cons, List.cons_append, parts_hit]
    congr 1
    have hw := h w (by simp)
    cases ws with
    | nil => rw [List.flatMap_nil, List.append_nil]; exact parts_one hw
    | cons v ws =>
      have ih := parts_words (v :: ws) (fun x hx => h x (by simp [hx]))
      rw [List.flatMap_cons, List.cons_append, parts_hit] at ih
      rw [List.flatMap_cons, List.cons_append, parts_app hw]
      injection ih with _ ih
      rw [ih]
theorem nums_words (l : List Int) : numsB l = (l.map numB).flatMap fun w => 32 :: w := by
  unfold numsB
  rw [List.flatMap_map]
theorem toks_nums : ∀ (zs : List Int) (a : Nat) (i o : List Int), (∀ z ∈ zs, 0 ≤ z ∧ (numB z).length ≤ 9) → toksB (zs.map numB) a i o = some (if a = 0 then (a, i ++ zs, o) else (a, i, o ++ zs))
  | [], a, i, o, _ => by
    rw [List.map_nil, toksB, List.append_nil, List.append_nil]; split <;> rfl
  | z :: zs, a, i, o, h => by
    obtain ⟨h1, h2⟩ := h z (by simp)
    rw [List.map_cons, toksB, if_neg (num_arrow z), num9_num h1 h2]
    dsimp only
    split
    · rename_i ha
      subst ha
      rw [toks_nums zs 0 _ _ (fun x hx => h x (by simp [hx]))]
      simp
    · rename_i ha
      rw [toks_nums zs a _ _ (fun x hx => h x (by simp [hx])), if_neg ha]
      simp
theorem toks_line (i o : List Int) (hi : ∀ z ∈ i, 0 ≤ z ∧ (numB z).length ≤ 9) (ho : ∀ z ∈ o, 0 ≤ z ∧ (numB z).length ≤ 9) : toksB (i.map numB ++ arrowB :: o.map numB) 0 [] [] = some (1, i, o) := by
  rw [toks_app, toks_nums i 0 [] [] hi, if_pos rfl]
  show toksB (arrowB :: o.map numB) 0 ([] ++ i) [] = _
  rw [toksB, if_pos rfl, toks_nums o 1 _ _ ho, if_neg (by omega)]
  simp
def lineC (t : Tr) : List UInt8 := labelB t.label ++ [58] ++ numsB t.ins ++ [32, 45, 62] ++ numsB t.outs
theorem lineB_eq (t : Tr) : lineB t = lineC t ++ [10] := rfl
theorem label_ok {s : ByteArray} (h : labelOk s = true) : labB (labelB s) = true ∧ outB (labelB s) = s := by
  unfold labelOk at h
  rw [Bool.or_eq_true, decide_eq_true_eq] at h
  unfold labelB
  by_cases h0 : s.size = 0
  · rw [if_pos h0]
    refine ⟨rfl, ?_⟩
    rw [outB, if_pos rfl]
    have : s.data.toList = [] := List.eq_nil_of_length_eq_zero h0
    obtain ⟨⟨l⟩⟩ := s
    dsimp only at this
    subst this
    rfl
  · rw [if_neg h0]
    have h := h.resolve_left h0
    have e : (⟨s.data.toList.toArray⟩ : ByteArray) = s := rfl
    have hne : s.data.toList ≠ [95] := fun e95 => by
      unfold isNameB at h
      simp only [Bool.and_eq_true] at h
      have := h.1.2
      unfold byteAt at this
      rw [e95] at this
      revert this
      decide
    refine ⟨?_, ?_⟩
    · unfold labB; rw [e, h]; simp
    · rw [outB, if_neg hne]
theorem line_read {t : Tr} (ht : labelOk t.label = true) (hi : ∀ z ∈ t.ins, 0 ≤ z ∧ (numB z).length ≤ 9) (ho : ∀ z ∈ t.outs, 0 ≤ z ∧ (numB z).length ≤ 9) : transB (lineC t) = some t := by
  obtain ⟨h1, h2⟩ := label_ok ht
  obtain ⟨hn0, hn⟩ := name_bytes h1
  have e : lineC t = labelB t.label ++ 58 :: ((t.ins.map numB ++ arrowB :: t.outs.map numB).flatMap fun w => 32 :: w) := by
    unfold lineC
    rw [nums_words, nums_words, List.flatMap_append, List.flatMap_cons]
    simp [arrowB]
  unfold transB
  rw [e, cut_app (fun b hb => (hn b hb).1)]
  dsimp only
  rw [if_pos h1, parts_words]
  · dsimp only
    unfold transOf
    rw [toks_line _ _ hi ho, h2]
    rfl
  · intro w hw
    rcases List.mem_append.1 hw with hw | hw
    · obtain ⟨z, _, rfl⟩ := List.mem_map.1 hw
      exact num_ne z (by decide)
    · rcases List.mem_cons.1 hw with rfl | hw
      · intro b hb; simp [arrowB] at hb; rcases hb with rfl | rfl <;> decide
      · obtain ⟨z, _, rfl⟩ := List.mem_map.1 hw
        exact num_ne z (by decide)
theorem nums_noten (l : List Int) : ∀ b ∈ numsB l, b ≠ 10 := by
  unfold numsB
  intro b hb
  obtain ⟨z, _, hb⟩ := List.mem_flatMap.1 hb
  rcases List.mem_cons.1 hb with rfl | hb
  · decide
  · exact num_ne z (by decide) b hb
theorem line_noten {t : Tr} (ht : labelOk t.label = true) : ∀ b ∈ lineC t, b ≠ 10 := by
  obtain ⟨h1, h2⟩ := label_ok ht
  obtain ⟨hn0, hn⟩ := name_bytes h1
  intro b hb
  unfold lineC at hb
  simp only [List.mem_append] at hb
  rcases hb with (((hb | hb) | hb) | hb) | hb
  · exact (hn b hb).2.2
  · rw [List.mem_singleton] at hb; subst hb; decide
  · exact nums_noten _ b hb
  · simp at hb; rcases hb with rfl | rfl | rfl <;> decide
  · exact nums_noten _ b hb
def headC (n : Net) : List UInt8 := [110, 101, 116, 32] ++ numB n.places ++ [32, 115, 111, 117, 114, 99, 101, 32] ++ numB n.source ++ [32, 115, 105, 110, 107, 32] ++ numB n.sink
theorem headB_eq (n : Net) : headB n = headC n ++ [10] := rfl
theorem head_noten (n : Net) : ∀ b ∈ headC n, b ≠ 10 := by
  intro b hb
  unfold headC at hb
  simp only [List.mem_append] at hb
  rcases hb with ((((hb | hb) | hb) | hb) | hb) | hb
  · simp at hb; rcases hb with rfl | rfl | rfl | rfl <;> decide
  · exact num_ne _ (by decide) b hb
  · simp at hb; rcases hb with rfl | rfl | rfl | rfl | rfl | rfl | rfl | rfl <;> decide
  · exact num_ne _ (by decide) b hb
  · simp at hb; rcases hb with rfl | rfl | rfl | rfl | rfl | rfl <;> decide
  · exact num_ne _ (by decide) b hb
theorem head_read {n : Net} (hp : 0 ≤ n.places ∧ (numB n.places).length ≤ 9) (hs : 0 ≤ n.source ∧ (numB n.source).length ≤ 9) (hk : 0 ≤ n.sink ∧ (numB n.sink).length ≤ 9) : firstB (headC n) = some ⟨n.places, [], n.source, n.sink⟩ := by
  have e : headC n = wordNet ++ 32 :: (numB n.places ++ 32 :: (wordSource ++ 32 :: (numB n.source ++ 32 :: (wordSink ++ 32 :: numB n.sink)))) := by
    unfold headC wordNet wordSource wordSink
    simp
  have w1 : ∀ b ∈ wordNet, b ≠ 32 := by decide
  have w2 : ∀ b ∈ wordSource, b ≠ 32 := by decide
  have w3 : ∀ b ∈ wordSink, b ≠ 32 := by decide
  have d : ∀ z, ∀ b ∈ numB z, b ≠ 32 := fun z => num_ne z (by decide)
  unfold firstB
  rw [e, parts_app w1, parts_app (d _), parts_app w2, parts_app (d _), parts_app w3, parts_one (d _)]
  dsimp only
  rw [if_pos ⟨rfl, rfl, rfl⟩, num9_num hp.1 hp.2, num9_num hs.1 hs.2, num9_num hk.1 hk.2]
theorem lines_read (n : Net) (hv : validB n = true) (hin : ∀ t ∈ n.trans, labelOk t.label = true ∧ (∀ z ∈ t.ins, 0 ≤ z ∧ (numB z).length ≤ 9) ∧ (∀ z ∈ t.outs, 0 ≤ z ∧ (numB z).length ≤ 9)) :
    ∀ (ts us : List Tr) (i : Nat), n.trans = us ++ ts → linesB (ts.map lineC ++ [[]]) (i + 1) ⟨n.places, us, n.source, n.sink⟩ = (n, 0, 0)
  | [], us, i, h => by
    rw [List.append_nil] at h
    subst h
    show linesB [[]] (i + 1) n = _
    rw [linesB, if_pos ⟨rfl, by omega⟩, if_pos hv]
  | t :: ts, us, i, h => by
    have ht := hin t (by rw [h]; simp)
    obtain ⟨m, ls, hm⟩ : ∃ m ls, ts.map lineC ++ [[]] = m :: ls := by
      cases ts with
      | nil => exact ⟨_, _, rfl⟩
      | cons a b => exact ⟨_, _, rfl⟩
    have ih := lines_read n hv hin ts (us ++ [t]) (i + 1) (by rw [h]; simp)
    rw [hm] at ih
    rw [List.map_cons, List.cons_append, hm, linesB, if_neg (by omega), line_read ht.1 ht.2.1 ht.2.2]
    exact ih
theorem lines_parts : ∀ (ts : List Tr), (∀ t ∈ ts, labelOk t.label = true) → partsB 10 (ts.flatMap lineB) = ts.map lineC ++ [[]]
  | [], _ => rfl
  | t :: ts, h => by
    rw [List.flatMap_cons, lineB_eq, List.append_assoc, List.singleton_append, parts_app (line_noten (h t (by simp))), lines_parts ts (fun x hx => h x (by simp [hx]))]
    rfl
theorem parse_text {n : Net} (hv : validB n = true) (hl : (textB n).length ≤ 16384) (hp : 0 ≤ n.places ∧ (numB n.places).length ≤ 9) (hs : 0 ≤ n.source ∧ (numB n.source).length ≤ 9) (hk : 0 ≤ n.sink ∧ (numB n.sink).length ≤ 9)
    (hin : ∀ t ∈ n.trans, labelOk t.label = true ∧ (∀ z ∈ t.ins, 0 ≤ z ∧ (numB z).length ≤ 9) ∧ (∀ z ∈ t.outs, 0 ≤ z ∧ (numB z).length ≤ 9)) : parseB (textB n) = (n, 0, 0) := by
  unfold parseB
  rw [if_neg (by omega)]
  unfold textB
  rw [headB_eq, List.append_assoc, List.singleton_append, parts_app (head_noten n), lines_parts _ (fun t ht => (hin t ht).1)]
  obtain ⟨m, ls, hm⟩ : ∃ m ls, n.trans.map lineC ++ [[]] = m :: ls := by
    cases n.trans with
    | nil => exact ⟨_, _, rfl⟩
    | cons a b => exact ⟨_, _, rfl⟩
  have := lines_read n hv hin n.trans [] 0 rfl
  rw [hm] at this ⊢
  rw [linesB, if_pos rfl, head_read hp hs hk]
  exact this
end Go.Proofs.YtlkkfkkhllijbaaGreatDoor
