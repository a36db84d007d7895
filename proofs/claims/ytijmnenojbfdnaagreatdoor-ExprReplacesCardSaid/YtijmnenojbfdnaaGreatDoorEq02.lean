/- Texts of this seat, merged. -/
import Derived.KernelRfl
import Derived.Test.YtijmnenojbfdnaaGreatDoorProg
import Derived.Outline
import Derived.Deep.Light
import Derived.Test.YtijmnenojbfdnaaGreatDoorEq01
set_option linter.unusedSimpArgs false
set_option linter.unusedVariables false
namespace Go.Proofs.YtijmnenojbfdnaaGreatDoor
open Go.RowKit
theorem lexSize (s : ByteArray) : s.data.toList.length = s.size := Array.length_toList
theorem lexDrop {s : ByteArray} {k : Nat} (h : k < s.size) : s.data.toList.drop k = s[k] :: s.data.toList.drop (k + 1) := by
  rw [List.drop_eq_getElem_cons (by rw [lexSize]; exact h)]
  congr 1
theorem lexExt (s : ByteArray) (a b : Nat) : (s.extract a b).data.toList = (s.data.toList.drop a).take (b - a) := by
  rw [ByteArray.data_extract, Array.toList_extract, List.extract_eq_take_drop]
def lenP (p : UInt8 → Bool) (l : List UInt8) : Nat := (l.takeWhile p).length
theorem lenP_le (p : UInt8 → Bool) (l : List UInt8) : lenP p l ≤ l.length := by
  unfold lenP
  exact List.Sublist.length_le (List.takeWhile_sublist p)
theorem lenP_cons (p : UInt8 → Bool) (a : UInt8) (l : List UInt8) : lenP p (a :: l) = if p a then lenP p l + 1 else 0 := by
  unfold lenP
  rw [List.takeWhile_cons]
  split <;> simp
theorem lenP_in (p : UInt8 → Bool) : ∀ (l : List UInt8) (j : Nat), j < lenP p l → ∃ c r, l.drop j = c :: r ∧ p c = true
  | [], j, h => by unfold lenP at h; simp at h
  | a :: l, j, h => by
    rw [lenP_cons] at h
    cases ha : p a with
    | false => rw [ha] at h; simp at h
    | true =>
      rw [ha, if_pos rfl] at h
      cases j with
      | zero => exact ⟨a, l, rfl, ha⟩
      | succ j => exact lenP_in p l j (by omega)
theorem lenP_out (p : UInt8 → Bool) : ∀ (l : List UInt8) (c : UInt8) (r : List UInt8), l.drop (lenP p l) = c :: r → p c = false
  | [], c, r, h => by unfold lenP at h; simp at h
  | a :: l, c, r, h => by
    rw [lenP_cons] at h
    cases ha : p a with
    | false =>
      rw [ha] at h
      have h : a :: l = c :: r := h
      injection h with h1 _
      rw [← h1, ha]
    | true =>
      rw [ha, if_pos rfl] at h
      exact lenP_out p l c r (by simpa using h)
def letB (c : UInt8) : Bool := (decide (97 ≤ c.toNat) && decide (c.toNat ≤ 122)) || (decide (65 ≤ c.toNat) && decide (c.toNat ≤ 90))
def digB (c : UInt8) : Bool := decide (48 ≤ c.toNat) && decide (c.toNat ≤ 57)
def wordC (c : UInt8) : Bool := letB c || digB c || c == 95 || c == 45 || c == 46
def symL : List ByteArray := [⟨#[45, 62]⟩, ⟨#[61, 62]⟩, ⟨#[60, 61]⟩, ⟨#[62, 61]⟩, ⟨#[33, 61]⟩, ⟨#[61, 61]⟩, ⟨#[58, 61]⟩, ⟨#[46, 46]⟩, ⟨#[40]⟩, ⟨#[41]⟩, ⟨#[91]⟩, ⟨#[93]⟩, ⟨#[123]⟩, ⟨#[125]⟩, ⟨#[44]⟩, ⟨#[59]⟩, ⟨#[58]⟩, ⟨#[46]⟩, ⟨#[124]⟩, ⟨#[38]⟩, ⟨#[33]⟩, ⟨#[63]⟩, ⟨#[43]⟩, ⟨#[45]⟩, ⟨#[42]⟩, ⟨#[47]⟩, ⟨#[61]⟩, ⟨#[60]⟩, ⟨#[62]⟩, ⟨#[64]⟩, ⟨#[37]⟩, ⟨#[94]⟩, ⟨#[126]⟩]
def symB (l : List UInt8) : Option ByteArray := symL.find? fun x => Lib.hasPrefix l x.data.toList
def digV : List UInt8 → Option Int
  | [49] => some 1
  | [51] => some 3
  | [52] => some 4
  | _ => none
theorem digV_ok {l : List UInt8} {v : Int} (h : digV l = some v) : Lib.atoiAll l = .ok v ∧ 0 ≤ v ∧ v ≤ 4 := by
  unfold digV at h
  split at h
  all_goals first
    | (injection h with h; subst h; exact ⟨by decide +kernel, by decide, by decide⟩)
    | cases h
structure Tok where
  kind : Int
  text : ByteArray
  n : Int
  col : Int
def badNext : List UInt8 → Bool
  | d :: _ => letB d || d == 95
  | [] => false
def nextB (s : ByteArray) : Option (Int × ByteArray × Int × Nat) := match s.data.toList with
  | [] => some (5, ⟨#[]⟩, 0, 0)
  | c :: l =>
    if letB c then (if lenP wordC (c :: l) ≤ 40 then some (1, s.extract 0 (lenP wordC (c :: l)), 0, lenP wordC (c :: l)) else none)
    else if digB c then (if lenP digB (c :: l) = s.size then (digV ((c :: l).take (lenP digB (c :: l)))).map fun v => (2, ⟨#[]⟩, v, lenP digB (c :: l))
      else if badNext ((c :: l).drop (lenP digB (c :: l))) then none
      else (digV ((c :: l).take (lenP digB (c :: l)))).map fun v => (2, ⟨#[]⟩, v, lenP digB (c :: l)))
    else if c = 34 then none
    else (symB (c :: l)).map fun x => (4, x, 0, x.size)
def plainBlank (l : List UInt8) : Bool := match l.drop (lenP (· == 32) l) with
  | c :: _ => !(c == 9 || c == 10 || c == 13 || c == 35)
  | [] => true
def lexB : Nat → ByteArray → Int → Option (List Tok)
  | 0, _, _ => none
  | f + 1, s, col =>
    if plainBlank s.data.toList then
      match nextB (s.extract (lenP (· == 32) s.data.toList) s.size) with
      | some (k, t, n, len) =>
        if k = 5 then some [⟨k, t, n, col + lenP (· == 32) s.data.toList⟩]
        else if len ≤ s.size - lenP (· == 32) s.data.toList ∧ ((s.data.toList.drop (lenP (· == 32) s.data.toList)).take len).all (· != 10) then
          (lexB f (s.extract (lenP (· == 32) s.data.toList + len) s.size) (col + lenP (· == 32) s.data.toList + len)).map (⟨k, t, n, col + lenP (· == 32) s.data.toList⟩ :: ·)
        else none
      | none => none
    else none
def ex1 : ByteArray := ⟨#[110, 111, 116, 32, 110, 32, 43, 32, 49, 32, 61, 32, 51]⟩
def toks1 : List Tok := [⟨1, ⟨#[110, 111, 116]⟩, 0, 1⟩, ⟨1, ⟨#[110]⟩, 0, 5⟩, ⟨4, ⟨#[43]⟩, 0, 7⟩, ⟨2, ⟨#[]⟩, 1, 9⟩, ⟨4, ⟨#[61]⟩, 0, 11⟩, ⟨2, ⟨#[]⟩, 3, 13⟩, ⟨5, ⟨#[]⟩, 0, 14⟩]
def ex2 : ByteArray := ⟨#[110, 32, 42, 32, 110, 32, 60, 61, 32, 52, 32, 97, 110, 100, 32, 110, 111, 116, 32, 40, 110, 32, 105, 110, 32, 123, 49, 125, 41]⟩
def toks2 : List Tok := [⟨1, ⟨#[110]⟩, 0, 1⟩, ⟨4, ⟨#[42]⟩, 0, 3⟩, ⟨1, ⟨#[110]⟩, 0, 5⟩, ⟨4, ⟨#[60, 61]⟩, 0, 7⟩, ⟨2, ⟨#[]⟩, 4, 10⟩, ⟨1, ⟨#[97, 110, 100]⟩, 0, 12⟩, ⟨1, ⟨#[110, 111, 116]⟩, 0, 16⟩, ⟨4, ⟨#[40]⟩, 0, 20⟩, ⟨1, ⟨#[110]⟩, 0, 21⟩, ⟨1, ⟨#[105, 110]⟩, 0, 23⟩, ⟨4, ⟨#[123]⟩, 0, 26⟩, ⟨2, ⟨#[]⟩, 1, 27⟩, ⟨4, ⟨#[125]⟩, 0, 28⟩, ⟨4, ⟨#[41]⟩, 0, 29⟩, ⟨5, ⟨#[]⟩, 0, 30⟩]
theorem lex1 : lexB 20 ex1 1 = some toks1 := by kernel_rfl
theorem lex2 : lexB 20 ex2 1 = some toks2 := by kernel_rfl
end Go.Proofs.YtijmnenojbfdnaaGreatDoor

namespace Go.Proofs.YtijmnenojbfdnaaGreatDoor
open Go.RowKit
def letterB (c : Int) : Bool := decide (65 ≤ c ∧ c ≤ 90) || decide (97 ≤ c ∧ c ≤ 122)
def partB (c : Int) : Bool := letterB c || decide (48 ≤ c ∧ c ≤ 57) || decide (c = 95) || decide (c = 45) || decide (c = 46)
def byteAt (s : ByteArray) (i : Nat) : Int := (((s.data.toList[i]?).getD 0).toNat : Int)
def isNameB (s : ByteArray) : Bool := decide (1 ≤ s.size) && decide (s.size ≤ 40) && letterB (byteAt s 0) && (List.range s.size).all fun i => partB (byteAt s i)
theorem letter_yes {c : Int} (h : (65 ≤ c ∧ c ≤ 90) ∨ (97 ≤ c ∧ c ≤ 122)) : letterB c = true := by unfold letterB; simp; omega
theorem letter_no {c : Int} (h : ¬ ((65 ≤ c ∧ c ≤ 90) ∨ (97 ≤ c ∧ c ≤ 122))) : letterB c = false := by unfold letterB; simp; omega
theorem part_letter {c : Int} (h : letterB c = true) : partB c = true := by unfold partB; simp [h]
theorem part_other {c : Int} (h : letterB c = false) : partB c = (decide (48 ≤ c ∧ c ≤ 57) || decide (c = 95) || decide (c = 45) || decide (c = 46)) := by unfold partB; simp [h]
theorem byteAt_eq (s : ByteArray) (i : Nat) (h : i < s.size) : byteAt s i = (s[i].toNat : Int) := by
  unfold byteAt
  rw [List.getElem?_eq_getElem (by simpa using h)]
  rfl
set_option maxHeartbeats 400000 in
theorem letter_any (c : Int) (w : World) : Calls Tryz.prog 183 #[.int .u8 c] w fun e w' => e = .returned (.bool (letterB c)) ∧ w = w' := by
  by_cases h1 : 65 ≤ c <;> by_cases h2 : c ≤ 90 <;> by_cases h3 : 97 ≤ c <;> by_cases h4 : c ≤ 122
  all_goals first
    | (exfalso; omega)
    | (go_enter Tryz.func183, Tryz.ntmps183
       go_wp2
       go_ret
       exact ⟨ret_bool (by first | exact (letter_yes (by omega)).symm | exact (letter_no (by omega)).symm), rfl⟩)
set_option maxHeartbeats 400000 in
theorem letter_ref (c : Int) (w : World) : Calls Tryz.prog 155 #[.int .u8 c] w fun e w' => e = .returned (.bool (letterB c)) ∧ w = w' := by
  by_cases h1 : 65 ≤ c <;> by_cases h2 : c ≤ 90 <;> by_cases h3 : 97 ≤ c <;> by_cases h4 : c ≤ 122
  all_goals first
    | (exfalso; omega)
    | (go_enter Tryz.func155, Tryz.ntmps155
       go_wp2
       go_ret
       exact ⟨ret_bool (by first | exact (letter_yes (by omega)).symm | exact (letter_no (by omega)).symm), rfl⟩)
set_option maxHeartbeats 400000 in
theorem part_any (c : Int) (w : World) : Calls Tryz.prog 184 #[.int .u8 c] w fun e w' => e = .returned (.bool (partB c)) ∧ w = w' := by
  have HC := Lib.hid (letter_any c)
  cases hl : letterB c with
  | true =>
    have hp := Lib.hid (part_letter hl)
    have HC' : Hid (∀ w, Calls Tryz.prog 183 #[.int .u8 c] w fun e w' => e = .returned (.bool true) ∧ w = w') := fun w => by have := HC.out w; rwa [hl] at this
    clear hl HC
    go_enter Tryz.func184, Tryz.ntmps184
    go_wp2_with (go_at_call 183; refine (HC'.out _).mono ?_; rintro e w' ⟨rfl, rfl⟩)
    go_ret
    exact ⟨ret_bool hp.out.symm, rfl⟩
  | false =>
    have hp := Lib.hid (part_other hl)
    have HC' : Hid (∀ w, Calls Tryz.prog 183 #[.int .u8 c] w fun e w' => e = .returned (.bool false) ∧ w = w') := fun w => by have := HC.out w; rwa [hl] at this
    clear hl HC
    generalize partB c = pb at *
    by_cases h1 : 48 ≤ c <;> by_cases h2 : c ≤ 57
    all_goals first
      | (exfalso; omega)
      | (go_enter Tryz.func184, Tryz.ntmps184
         go_wp2_with (go_at_call 183; refine (HC'.out _).mono ?_; rintro e w' ⟨rfl, rfl⟩)
         all_goals
           go_ret
           refine ⟨ret_bool ?_, rfl⟩
           rw [hp.out, Bool.eq_iff_iff]
           simp
           omega)
theorem isName_size {s : ByteArray} (h : ¬ (1 ≤ s.size ∧ s.size ≤ 40)) : isNameB s = false := by
  unfold isNameB
  by_cases h1 : 1 ≤ s.size
  · have : ¬ s.size ≤ 40 := fun h2 => h ⟨h1, h2⟩
    simp [this]
  · simp [h1]
theorem isName_first {s : ByteArray} (h : letterB (byteAt s 0) = false) : isNameB s = false := by
  unfold isNameB; simp [h]
theorem isName_bad {s : ByteArray} {k : Nat} (hk : k < s.size) (h : partB (byteAt s k) = false) : isNameB s = false := by
  unfold isNameB
  have : (List.range s.size).all (fun i => partB (byteAt s i)) = false := by
    rw [List.all_eq_false]; exact ⟨k, List.mem_range.2 hk, by simp [h]⟩
  simp [this]
theorem isName_ok {s : ByteArray} (h1 : 1 ≤ s.size) (h2 : s.size ≤ 40) (h3 : letterB (byteAt s 0) = true) (h : ∀ j, j < s.size → partB (byteAt s j) = true) : isNameB s = true := by
  unfold isNameB
  have : (List.range s.size).all (fun i => partB (byteAt s i)) = true := by
    rw [List.all_eq_true]; exact fun j hj => h j (List.mem_range.1 hj)
  simp [this, h1, h2, h3]
set_option maxHeartbeats 400000 in
theorem isName_any (s : ByteArray) (w : World) (hs : s.size ≤ maxLen) : Calls Tryz.prog 146 #[.string s] w fun e w' => e = .returned (.bool (isNameB s)) ∧ w = w' := by
  unfold maxLen at hs
  by_cases h1 : 1 ≤ s.size
  · by_cases h2 : s.size ≤ 40
    · cases hl : letterB (byteAt s 0) with
      | false =>
        have HE := Lib.hid (isName_first hl)
        have HC : Hid (∀ w, Calls Tryz.prog 183 #[.int .u8 (s[0].toNat : Int)] w fun e w' => e = .returned (.bool false) ∧ w = w') := fun w => by
          have := letter_any (byteAt s 0) w; rwa [hl, byteAt_eq s 0 (by omega)] at this
        clear hl
        go_enter Tryz.func146, Tryz.ntmps146
        go_wp2_with (go_at_call 183; refine (HC.out _).mono ?_; rintro e w' ⟨rfl, rfl⟩)
        go_ret
        exact ⟨ret_bool HE.out.symm, rfl⟩
      | true =>
        have HL := Lib.hid hl
        have HC : Hid (∀ w, Calls Tryz.prog 183 #[.int .u8 (s[0].toNat : Int)] w fun e w' => e = .returned (.bool true) ∧ w = w') := fun w => by
          have := letter_any (byteAt s 0) w; rwa [hl, byteAt_eq s 0 (by omega)] at this
        clear hl
        go_enter Tryz.func146, Tryz.ntmps146
        go_wp2_with (go_at_call 183; refine (HC.out _).mono ?_; rintro e w' ⟨rfl, rfl⟩)
        go_loop [20] (fun i => ∃ k : Nat, 0 ≤ k ∧ k ≤ s.size ∧ i = .int .i64 k ∧ ∀ j, j < k → partB (byteAt s j) = true) (fun i => s.size - (intOf i).toNat)
        case atStart => exact ⟨0, Nat.le_refl _, by omega, rfl, fun j hj => absurd hj (by omega)⟩
        case round =>
          obtain ⟨k, hk0, hk, rfl, hp⟩ := hrel
          have HP := Lib.hid hp
          clear hp
          by_cases hlt : k < s.size
          · have hby := byteAt_eq s k hlt
            cases hq : partB (byteAt s k) with
            | true =>
              have HQ := Lib.hid hq
              have HD : Hid (∀ w, Calls Tryz.prog 184 #[.int .u8 (s[k].toNat : Int)] w fun e w' => e = .returned (.bool true) ∧ w = w') := fun w => by
                have := part_any (byteAt s k) w; rwa [hq, hby] at this
              clear hq hby
              go_wp2_with (go_at_call 184; refine (HD.out _).mono ?_; rintro e w' ⟨rfl, rfl⟩)
              go_round
              case rel => exact ⟨k + 1, by omega, by omega, by go_num, fun j hj => by
                by_cases e : j = k
                · subst e; exact HQ.out
                · exact HP.out j (by omega)⟩
              case measure => simp [intOf]; omega
            | false =>
              have HE := Lib.hid (isName_bad hlt hq)
              have HD : Hid (∀ w, Calls Tryz.prog 184 #[.int .u8 (s[k].toNat : Int)] w fun e w' => e = .returned (.bool false) ∧ w = w') := fun w => by
                have := part_any (byteAt s k) w; rwa [hq, hby] at this
              clear hq hby
              go_wp2_with (go_at_call 184; refine (HD.out _).mono ?_; rintro e w' ⟨rfl, rfl⟩)
              go_ret
              exact ⟨ret_bool HE.out.symm, rfl⟩
          · go_wp2_with fail
            go_ret
            exact ⟨ret_bool (isName_ok h1 h2 HL.out (fun j hj => HP.out j (by omega))).symm, rfl⟩
    · have HE := Lib.hid (isName_size (s := s) (by omega))
      go_enter Tryz.func146, Tryz.ntmps146
      go_wp2_with fail
      go_ret
      exact ⟨ret_bool HE.out.symm, rfl⟩
  · have HE := Lib.hid (isName_size (s := s) (by omega))
    go_enter Tryz.func146, Tryz.ntmps146
    go_wp2_with fail
    go_ret
    exact ⟨ret_bool HE.out.symm, rfl⟩
set_option maxHeartbeats 400000 in
theorem isName_ref (s : ByteArray) (w : World) (hs : s.size ≤ maxLen) : Calls Tryz.prog 112 #[.string s] w fun e w' => e = .returned (.bool (isNameB s)) ∧ w = w' := by
  unfold maxLen at hs
  by_cases h1 : 1 ≤ s.size
  · by_cases h2 : s.size ≤ 40
    · cases hl : letterB (byteAt s 0) with
      | false =>
        have HE := Lib.hid (isName_first hl)
        have HC : Hid (∀ w, Calls Tryz.prog 155 #[.int .u8 (s[0].toNat : Int)] w fun e w' => e = .returned (.bool false) ∧ w = w') := fun w => by
          have := letter_ref (byteAt s 0) w; rwa [hl, byteAt_eq s 0 (by omega)] at this
        clear hl
        go_enter Tryz.func112, Tryz.ntmps112
        go_wp2_with (go_at_call 155; refine (HC.out _).mono ?_; rintro e w' ⟨rfl, rfl⟩)
        go_ret
        exact ⟨ret_bool HE.out.symm, rfl⟩
      | true =>
        have HL := Lib.hid hl
        have HC : Hid (∀ w, Calls Tryz.prog 155 #[.int .u8 (s[0].toNat : Int)] w fun e w' => e = .returned (.bool true) ∧ w = w') := fun w => by
          have := letter_ref (byteAt s 0) w; rwa [hl, byteAt_eq s 0 (by omega)] at this
        clear hl
        go_enter Tryz.func112, Tryz.ntmps112
        go_wp2_with (go_at_call 155; refine (HC.out _).mono ?_; rintro e w' ⟨rfl, rfl⟩)
        go_loop [3] (fun i => ∃ k : Nat, 1 ≤ k ∧ k ≤ s.size ∧ i = .int .i64 k ∧ ∀ j, j < k → partB (byteAt s j) = true) (fun i => s.size - (intOf i).toNat)
        case atStart => exact ⟨1, Nat.le_refl _, by omega, rfl, fun j hj => by rw [show j = 0 from by omega]; exact part_letter HL.out⟩
        case round =>
          obtain ⟨k, hk0, hk, rfl, hp⟩ := hrel
          have HP := Lib.hid hp
          clear hp
          by_cases hlt : k < s.size
          · have hby := byteAt_eq s k hlt
            cases hq : letterB (byteAt s k) with
            | true =>
              have HQ := Lib.hid (part_letter hq)
              have HD : Hid (∀ w, Calls Tryz.prog 155 #[.int .u8 (s[k].toNat : Int)] w fun e w' => e = .returned (.bool true) ∧ w = w') := fun w => by
                have := letter_ref (byteAt s k) w; rwa [hq, hby] at this
              clear hq hby
              go_wp2_with (go_at_call 155; refine (HD.out _).mono ?_; rintro e w' ⟨rfl, rfl⟩)
              go_round
              case rel => exact ⟨k + 1, by omega, by omega, by go_num, fun j hj => by
                by_cases e : j = k
                · subst e; exact HQ.out
                · exact HP.out j (by omega)⟩
              case measure => simp [intOf]; omega
            | false =>
              have HQ := Lib.hid (part_other hq)
              have HD : Hid (∀ w, Calls Tryz.prog 155 #[.int .u8 (s[k].toNat : Int)] w fun e w' => e = .returned (.bool false) ∧ w = w') := fun w => by
                have := letter_ref (byteAt s k) w; rwa [hq, hby] at this
              have HY : Hid (partB (byteAt s k) = (decide (48 ≤ (s[k].toNat : Int) ∧ (s[k].toNat : Int) ≤ 57) || decide ((s[k].toNat : Int) = 95) || decide ((s[k].toNat : Int) = 45) || decide ((s[k].toNat : Int) = 46))) := by rw [← hby]; exact HQ.out
              clear hq hby HQ
              go_wp2_with (go_at_call 155; refine (HD.out _).mono ?_; rintro e w' ⟨rfl, rfl⟩)
              all_goals first
                | (go_ret
                   exact ⟨ret_bool (isName_bad hlt (by rw [HY.out]; go_light; simp at *; omega)).symm, rfl⟩)
                | (go_round
                   case rel => exact ⟨k + 1, by omega, by omega, by go_num, fun j hj => by
                     by_cases e : j = k
                     · subst e; rw [HY.out]; go_light; simp at *; omega
                     · exact HP.out j (by omega)⟩
                   case measure => simp [intOf]; omega)
          · go_wp2_with fail
            go_ret
            exact ⟨ret_bool (isName_ok h1 h2 HL.out (fun j hj => HP.out j (by omega))).symm, rfl⟩
    · have HE := Lib.hid (isName_size (s := s) (by omega))
      go_enter Tryz.func112, Tryz.ntmps112
      go_wp2_with fail
      go_ret
      exact ⟨ret_bool HE.out.symm, rfl⟩
  · have HE := Lib.hid (isName_size (s := s) (by omega))
    go_enter Tryz.func112, Tryz.ntmps112
    go_wp2_with fail
    go_ret
    exact ⟨ret_bool HE.out.symm, rfl⟩
end Go.Proofs.YtijmnenojbfdnaaGreatDoor

namespace Go.Proofs.YtijmnenojbfdnaaGreatDoor
open Go.RowKit
structure Val where
  kind : Int
  n : Int
  s : ByteArray
deriving DecidableEq
structure Var where
  name : ByteArray
  kind : Int
  low : Int
  high : Int
  items : List ByteArray
def plainC (c : UInt8) : Bool := decide (32 ≤ c.toNat ∧ c.toNat ≤ 126)
def textB (s : ByteArray) : Bool := decide (s.size ≤ 200) && s.data.toList.all plainC
def numB (n : Int) : Bool := decide (-4503599627370496 ≤ n ∧ n ≤ 4503599627370496)
def noS (s : ByteArray) : Bool := s.toList.isEmpty
def validV (v : Val) : Bool :=
  if v.kind = 1 then decide (v.n = 0 ∨ v.n = 1) && noS v.s
  else if v.kind = 2 then numB v.n && noS v.s
  else if v.kind = 3 then decide (v.n = 0) && textB v.s
  else false
def bytesOf (l : List ByteArray) : List Bs := l.map fun s => s.data.toList
def onceB (l : List Bs) : Bool := decide l.Nodup
def formB (x : Var) : Bool :=
  if x.kind = 1 then decide (x.low = 0 ∧ x.high = 0 ∧ x.items.length = 0)
  else if x.kind = 2 then numB x.low && numB x.high && decide (x.low ≤ x.high ∧ x.high - x.low < 1000 ∧ x.items.length = 0)
  else if x.kind = 3 then decide (x.low = 0 ∧ x.high = 0 ∧ 1 ≤ x.items.length ∧ x.items.length ≤ 1000) && x.items.all textB && onceB (bytesOf x.items)
  else false
def varB (x : Var) : Bool := isNameB x.name && formB x
def varsB (l : List Var) : Bool := decide (l.length ≤ 8) && l.all varB && onceB (bytesOf (l.map Var.name))
def atS (l : List ByteArray) (s : ByteArray) : Int := match l.findIdx? (fun y => y.toList == s.toList) with | some i => (i : Int) | none => -1
def placeV (x : Var) (v : Val) : Int :=
  if v.kind ≠ x.kind then -1
  else if x.kind = 1 then v.n
  else if x.kind = 3 then atS x.items v.s
  else if v.n < x.low ∨ x.high < v.n then -1
  else v.n - x.low
def sizeV (x : Var) : Int := if x.kind = 1 then 2 else if x.kind = 2 then x.high - x.low + 1 else x.items.length
def emptyS : ByteArray := ⟨#[]⟩
def nthV (x : Var) (i : Int) : Val :=
  if x.kind = 3 then ⟨3, 0, x.items.getD i.toNat emptyS⟩ else if x.kind = 2 then ⟨2, i + x.low, emptyS⟩ else ⟨x.kind, i, emptyS⟩
def noV : Val := ⟨0, 0, emptyS⟩
end Go.Proofs.YtijmnenojbfdnaaGreatDoor
