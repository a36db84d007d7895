/- Texts of this seat, merged. -/
import Derived.Test.YtijmnenojbfdnaaGreatDoorProg
import Derived.Outline
import Derived.Deep.Light
import Derived.Shelf.Abstract
import Derived.Laws.IdiomStrings
import Derived.Deep.QuietTactic
import Derived.BigQuiet
import Derived.WalkKit
import Derived.WalkSpells
import Derived.WalkLawsBesides
import Derived.Lib.Hide
import Derived.Deep.Draws
import Derived.Deep.OwnRows
import Derived.Test.YtijmnenojbfdnaaGreatDoorEa01
set_option linter.unusedSimpArgs false
set_option linter.unusedVariables false
namespace Go.Proofs.YtijmnenojbfdnaaGreatDoor
open Go.RowKit
def letterB (c : Int) : Bool := decide (65 ≤ c ∧ c ≤ 90) || decide (97 ≤ c ∧ c ≤ 122)
def partB (c : Int) : Bool := letterB c || decide (48 ≤ c ∧ c ≤ 57) || decide (c = 95) || decide (c = 45) || decide (c = 46)
def byteAt (s : ByteArray) (i : Nat) : Int := (((s.data.toList[i]?).getD 0).toNat : Int)
def isNameB (s : ByteArray) : Bool := decide (1 ≤ s.size) && decide (s.size ≤ 40) && letterB (byteAt s 0) && (List.range s.size).all fun i => partB (byteAt s i)
theorem letter_yes {c : Int} (h : (65 ≤ c ∧ c ≤ 90) ∨ (97 ≤ c ∧ c ≤ 122)) : letterB c = true := by unfold letterB; simp; omega
theorem letter_no {c : Int} (h : ¬ ((65 ≤ c ∧ c ≤ 90) ∨ (97 ≤ c ∧ c ≤ 122))) : letterB c = false := by unfold letterB; simp; omega
theorem part_letter {c : Int} (h : letterB c = true) : partB c = true := by unfold partB; simp [h]
theorem part_other {c : Int} (h : letterB c = false) : partB c = (decide (48 ≤ c ∧ c ≤ 57) || decide (c = 95) || decide (c = 45) || decide (c = 46)) := by unfold partB; simp [h]
theorem byteAt_eq (s : ByteArray) (i : Nat) (h : i < s.size) : byteAt s i = (s[i].toNat : Int) := by
  unfold byteAt
  rw [List.getElem?_eq_getElem (by simpa using h)]
  rfl
set_option maxHeartbeats 400000 in
theorem letter_any (c : Int) (w : World) : Calls Tryz.prog 183 #[.int .u8 c] w fun e w' => e = .returned (.bool (letterB c)) ∧ w = w' := by
  by_cases h1 : 65 ≤ c <;> by_cases h2 : c ≤ 90 <;> by_cases h3 : 97 ≤ c <;> by_cases h4 : c ≤ 122
  all_goals first
    | (exfalso; omega)
    | (go_enter Tryz.func183, Tryz.ntmps183
       go_wp2
       go_ret
       exact ⟨ret_bool (by first | exact (letter_yes (by omega)).symm | exact (letter_no (by omega)).symm), rfl⟩)
set_option maxHeartbeats 400000 in
theorem part_any (c : Int) (w : World) : Calls Tryz.prog 184 #[.int .u8 c] w fun e w' => e = .returned (.bool (partB c)) ∧ w = w' := by
  have HC := Lib.hid (letter_any c)
  cases hl : letterB c with
  | true =>
    have hp := Lib.hid (part_letter hl)
    have HC' : Hid (∀ w, Calls Tryz.prog 183 #[.int .u8 c] w fun e w' => e = .returned (.bool true) ∧ w = w') := fun w => by have := HC.out w; rwa [hl] at this
    clear hl HC
    go_enter Tryz.func184, Tryz.ntmps184
    go_wp2_with (go_at_call 183; refine (HC'.out _).mono ?_; rintro e w' ⟨rfl, rfl⟩)
    go_ret
    exact ⟨ret_bool hp.out.symm, rfl⟩
  | false =>
    have hp := Lib.hid (part_other hl)
    have HC' : Hid (∀ w, Calls Tryz.prog 183 #[.int .u8 c] w fun e w' => e = .returned (.bool false) ∧ w = w') := fun w => by have := HC.out w; rwa [hl] at this
    clear hl HC
    generalize partB c = pb at *
    by_cases h1 : 48 ≤ c <;> by_cases h2 : c ≤ 57
    all_goals first
      | (exfalso; omega)
      | (go_enter Tryz.func184, Tryz.ntmps184
         go_wp2_with (go_at_call 183; refine (HC'.out _).mono ?_; rintro e w' ⟨rfl, rfl⟩)
         all_goals
           go_ret
           refine ⟨ret_bool ?_, rfl⟩
           rw [hp.out, Bool.eq_iff_iff]
           simp
           omega)
theorem isName_size {s : ByteArray} (h : ¬ (1 ≤ s.size ∧ s.size ≤ 40)) : isNameB s = false := by
  unfold isNameB
  by_cases h1 : 1 ≤ s.size
  · have : ¬ s.size ≤ 40 := fun h2 => h ⟨h1, h2⟩
    simp [this]
  · simp [h1]
theorem isName_first {s : ByteArray} (h : letterB (byteAt s 0) = false) : isNameB s = false := by
  unfold isNameB; simp [h]
theorem isName_bad {s : ByteArray} {k : Nat} (hk : k < s.size) (h : partB (byteAt s k) = false) : isNameB s = false := by
  unfold isNameB
  have : (List.range s.size).all (fun i => partB (byteAt s i)) = false := by
    rw [List.all_eq_false]; exact ⟨k, List.mem_range.2 hk, by simp [h]⟩
  simp [this]
theorem isName_ok {s : ByteArray} (h1 : 1 ≤ s.size) (h2 : s.size ≤ 40) (h3 : letterB (byteAt s 0) = true) (h : ∀ j, j < s.size → partB (byteAt s j) = true) : isNameB s = true := by
  unfold isNameB
  have : (List.range s.size).all (fun i => partB (byteAt s i)) = true := by
    rw [List.all_eq_true]; exact fun j hj => h j (List.mem_range.1 hj)
  simp [this, h1, h2, h3]
set_option maxHeartbeats 400000 in
theorem isName_any (s : ByteArray) (w : World) (hs : s.size ≤ maxLen) : Calls Tryz.prog 146 #[.string s] w fun e w' => e = .returned (.bool (isNameB s)) ∧ w = w' := by
  unfold maxLen at hs
  by_cases h1 : 1 ≤ s.size
  · by_cases h2 : s.size ≤ 40
    · cases hl : letterB (byteAt s 0) with
      | false =>
        have HE := Lib.hid (isName_first hl)
        have HC : Hid (∀ w, Calls Tryz.prog 183 #[.int .u8 (s[0].toNat : Int)] w fun e w' => e = .returned (.bool false) ∧ w = w') := fun w => by
          have := letter_any (byteAt s 0) w; rwa [hl, byteAt_eq s 0 (by omega)] at this
        clear hl
        go_enter Tryz.func146, Tryz.ntmps146
        go_wp2_with (go_at_call 183; refine (HC.out _).mono ?_; rintro e w' ⟨rfl, rfl⟩)
        go_ret
        exact ⟨ret_bool HE.out.symm, rfl⟩
      | true =>
        have HL := Lib.hid hl
        have HC : Hid (∀ w, Calls Tryz.prog 183 #[.int .u8 (s[0].toNat : Int)] w fun e w' => e = .returned (.bool true) ∧ w = w') := fun w => by
          have := letter_any (byteAt s 0) w; rwa [hl, byteAt_eq s 0 (by omega)] at this
        clear hl
        go_enter Tryz.func146, Tryz.ntmps146
        go_wp2_with (go_at_call 183; refine (HC.out _).mono ?_; rintro e w' ⟨rfl, rfl⟩)
        go_loop [20] (fun i => ∃ k : Nat, 0 ≤ k ∧ k ≤ s.size ∧ i = .int .i64 k ∧ ∀ j, j < k → partB (byteAt s j) = true) (fun i => s.size - (intOf i).toNat)
        case atStart => exact ⟨0, Nat.le_refl _, by omega, rfl, fun j hj => absurd hj (by omega)⟩
        case round =>
          obtain ⟨k, hk0, hk, rfl, hp⟩ := hrel
          have HP := Lib.hid hp
          clear hp
          by_cases hlt : k < s.size
          · have hby := byteAt_eq s k hlt
            cases hq : partB (byteAt s k) with
            | true =>
              have HQ := Lib.hid hq
              have HD : Hid (∀ w, Calls Tryz.prog 184 #[.int .u8 (s[k].toNat : Int)] w fun e w' => e = .returned (.bool true) ∧ w = w') := fun w => by
                have := part_any (byteAt s k) w; rwa [hq, hby] at this
              clear hq hby
              go_wp2_with (go_at_call 184; refine (HD.out _).mono ?_; rintro e w' ⟨rfl, rfl⟩)
              go_round
              case rel => exact ⟨k + 1, by omega, by omega, by go_num, fun j hj => by
                by_cases e : j = k
                · subst e; exact HQ.out
                · exact HP.out j (by omega)⟩
              case measure => simp [intOf]; omega
            | false =>
              have HE := Lib.hid (isName_bad hlt hq)
              have HD : Hid (∀ w, Calls Tryz.prog 184 #[.int .u8 (s[k].toNat : Int)] w fun e w' => e = .returned (.bool false) ∧ w = w') := fun w => by
                have := part_any (byteAt s k) w; rwa [hq, hby] at this
              clear hq hby
              go_wp2_with (go_at_call 184; refine (HD.out _).mono ?_; rintro e w' ⟨rfl, rfl⟩)
              go_ret
              exact ⟨ret_bool HE.out.symm, rfl⟩
          · go_wp2_with fail
            go_ret
            exact ⟨ret_bool (isName_ok h1 h2 HL.out (fun j hj => HP.out j (by omega))).symm, rfl⟩
    · have HE := Lib.hid (isName_size (s := s) (by omega))
      go_enter Tryz.func146, Tryz.ntmps146
      go_wp2_with fail
      go_ret
      exact ⟨ret_bool HE.out.symm, rfl⟩
  · have HE := Lib.hid (isName_size (s := s) (by omega))
    go_enter Tryz.func146, Tryz.ntmps146
    go_wp2_with fail
    go_ret
    exact ⟨ret_bool HE.out.symm, rfl⟩
end Go.Proofs.YtijmnenojbfdnaaGreatDoor

namespace Go.Proofs.YtijmnenojbfdnaaGreatDoor
open Go.RowKit
structure Val where
  kind : Int
  n : Int
  s : ByteArray
deriving DecidableEq
structure Var where
  name : ByteArray
  kind : Int
  low : Int
  high : Int
  items : List ByteArray
def plainC (c : UInt8) : Bool := decide (32 ≤ c.toNat ∧ c.toNat ≤ 126)
def textB (s : ByteArray) : Bool := decide (s.size ≤ 200) && s.data.toList.all plainC
def numB (n : Int) : Bool := decide (-4503599627370496 ≤ n ∧ n ≤ 4503599627370496)
def noS (s : ByteArray) : Bool := s.toList.isEmpty
def validV (v : Val) : Bool :=
  if v.kind = 1 then decide (v.n = 0 ∨ v.n = 1) && noS v.s
  else if v.kind = 2 then numB v.n && noS v.s
  else if v.kind = 3 then decide (v.n = 0) && textB v.s
  else false
def bytesOf (l : List ByteArray) : List Bs := l.map fun s => s.data.toList
def onceB (l : List Bs) : Bool := decide l.Nodup
def formB (x : Var) : Bool :=
  if x.kind = 1 then decide (x.low = 0 ∧ x.high = 0 ∧ x.items.length = 0)
  else if x.kind = 2 then numB x.low && numB x.high && decide (x.low ≤ x.high ∧ x.high - x.low < 1000 ∧ x.items.length = 0)
  else if x.kind = 3 then decide (x.low = 0 ∧ x.high = 0 ∧ 1 ≤ x.items.length ∧ x.items.length ≤ 1000) && x.items.all textB && onceB (bytesOf x.items)
  else false
def varB (x : Var) : Bool := isNameB x.name && formB x
def varsB (l : List Var) : Bool := decide (l.length ≤ 8) && l.all varB && onceB (bytesOf (l.map Var.name))
def atS (l : List ByteArray) (s : ByteArray) : Int := match l.findIdx? (fun y => y.toList == s.toList) with | some i => (i : Int) | none => -1
def placeV (x : Var) (v : Val) : Int :=
  if v.kind ≠ x.kind then -1
  else if x.kind = 1 then v.n
  else if x.kind = 3 then atS x.items v.s
  else if v.n < x.low ∨ x.high < v.n then -1
  else v.n - x.low
def sizeV (x : Var) : Int := if x.kind = 1 then 2 else if x.kind = 2 then x.high - x.low + 1 else x.items.length
def emptyS : ByteArray := ⟨#[]⟩
def nthV (x : Var) (i : Int) : Val :=
  if x.kind = 3 then ⟨3, 0, x.items.getD i.toNat emptyS⟩ else if x.kind = 2 then ⟨2, i + x.low, emptyS⟩ else ⟨x.kind, i, emptyS⟩
def noV : Val := ⟨0, 0, emptyS⟩
end Go.Proofs.YtijmnenojbfdnaaGreatDoor

namespace Go.Proofs.YtijmnenojbfdnaaGreatDoor
open Go.RowKit
structure FitV (v : Val) : Prop where
  kind : Fit v.kind
  n : Fit v.n
  s : v.s.size ≤ maxLen
def valV (v : Val) : Value := .agg #[.int .i64 v.kind, .int .i64 v.n, .string v.s]
def RVal : ElemR Val := fun _ _ v cs => cs = [.int .i64 v.kind, .int .i64 v.n, .string v.s] ∧ FitV v
theorem RVal.kept : ElemR.Kept RVal := fun _ _ _ _ _ _ _ _ h => h
def SlV := Sl 3 RVal
def RVar : ElemR Var := fun D w x cs => ∃ iv, cs = [.string x.name, .int .i64 x.kind, .int .i64 x.low, .int .i64 x.high, iv] ∧ x.name.size ≤ maxLen ∧ Fit x.kind ∧ Fit x.low ∧ Fit x.high ∧ SlS D w iv x.items
theorem RVar.kept : ElemR.Kept RVar := by
  rintro D D' w w' x cs hd hs ⟨iv, rfl, h1, h2, h3, h4, hi⟩
  exact ⟨iv, rfl, h1, h2, h3, h4, Sl.keep hi RStr.kept hd hs⟩
def SlX := Sl 5 RVar
def IsVar (D : Nat → Prop) (w : World) (u : Value) (x : Var) : Prop := ∃ iv, u = .agg #[.string x.name, .int .i64 x.kind, .int .i64 x.low, .int .i64 x.high, iv] ∧ x.name.size ≤ maxLen ∧ Fit x.kind ∧ Fit x.low ∧ Fit x.high ∧ SlS D w iv x.items
section
variable {D D' : Nat → Prop} {w w' : World} {u : Value}
theorem IsVar.now {x : Var} (h : IsVar (Lt w.heap.size) w u x) (hb : Below w.heap.size w w') : IsVar (Lt w'.heap.size) w' u x := by
  obtain ⟨iv, e, h1, h2, h3, h4, hi⟩ := h
  exact ⟨iv, e, h1, h2, h3, h4, hi.now hb⟩
theorem IsVar.below {x : Var} {B B' : Nat} (h : IsVar (Lt B) w u x) (hb : Below B w w') (hB : B ≤ B') : IsVar (Lt B') w' u x := by
  obtain ⟨iv, e, h1, h2, h3, h4, hi⟩ := h
  exact ⟨iv, e, h1, h2, h3, h4, hi.below hb hB⟩
theorem SlV.now {zs : List Val} (h : SlV (Lt w.heap.size) w u zs) (hb : Below w.heap.size w w') : SlV (Lt w'.heap.size) w' u zs := Sl.below h RVal.kept hb hb.size
theorem SlX.now {zs : List Var} (h : SlX (Lt w.heap.size) w u zs) (hb : Below w.heap.size w w') : SlX (Lt w'.heap.size) w' u zs := Sl.below h RVar.kept hb hb.size
theorem SlV.open_ {zs : List Val} (h : SlV D w u zs) : ∃ A c, u = .slice A zs.length c ∧ zs.length ≤ c ∧ c ≤ 9223372036854775807 ∧ SlV D w (.slice A zs.length c) zs := Sl.open_ h
theorem SlX.open_ {zs : List Var} (h : SlX D w u zs) : ∃ A c, u = .slice A zs.length c ∧ zs.length ≤ c ∧ c ≤ 9223372036854775807 ∧ SlX D w (.slice A zs.length c) zs := Sl.open_ h
theorem SlV.at_ {zs : List Val} {A : Option Addr} {n c k : Nat} (h : SlV D w (.slice A n c) zs) (hk : k < n) :
    ∃ b o v, A = some ⟨b, o, none⟩ ∧ D b ∧ zs[k]? = some v ∧ FitV v ∧ w.cell? ⟨b, o + k * 3, none⟩ = some (.int .i64 v.kind) ∧ w.cell? ⟨b, o + k * 3 + 1, none⟩ = some (.int .i64 v.n) ∧ w.cell? ⟨b, o + k * 3 + 2, none⟩ = some (.string v.s) := by
  obtain ⟨b, o, x, u0, u1, u2, hA, hD, hx, ⟨hu, hf⟩, h0, h1, h2⟩ := Sl.at3 h hk
  injection hu with e0 hu; injection hu with e1 hu; injection hu with e2 hu
  subst e0 e1 e2
  exact ⟨b, o, x, hA, hD, hx, hf, h0, h1, h2⟩
theorem Sl.at5 {α : Type} {R : ElemR α} {xs : List α} {A : Option Addr} {n c k : Nat} (h : Sl 5 R D w (.slice A n c) xs) (hk : k < n) :
    ∃ b o x u0 u1 u2 u3 u4, A = some ⟨b, o, none⟩ ∧ D b ∧ xs[k]? = some x ∧ R D w x [u0, u1, u2, u3, u4] ∧ w.cell? ⟨b, o + k * 5, none⟩ = some u0 ∧ w.cell? ⟨b, o + k * 5 + 1, none⟩ = some u1 ∧ w.cell? ⟨b, o + k * 5 + 2, none⟩ = some u2 ∧ w.cell? ⟨b, o + k * 5 + 3, none⟩ = some u3 ∧ w.cell? ⟨b, o + k * 5 + 4, none⟩ = some u4 := by
  obtain ⟨A', c', hv, h1, h2, h3⟩ := h
  injection hv with hA hn hc
  subst hA hn hc
  obtain ⟨b, o, cs, hA, hD, hl, hr, hcell⟩ := h3 k xs[k] (List.getElem?_eq_getElem hk)
  match cs, hl with
  | [u0, u1, u2, u3, u4], _ => exact ⟨b, o, xs[k], u0, u1, u2, u3, u4, hA, hD, List.getElem?_eq_getElem hk, hr, hcell 0 u0 rfl, hcell 1 u1 rfl, hcell 2 u2 rfl, hcell 3 u3 rfl, hcell 4 u4 rfl⟩
theorem SlX.at_ {zs : List Var} {A : Option Addr} {n c k : Nat} (h : SlX D w (.slice A n c) zs) (hk : k < n) :
    ∃ b o x iv, A = some ⟨b, o, none⟩ ∧ D b ∧ zs[k]? = some x ∧ IsVar D w (.agg #[.string x.name, .int .i64 x.kind, .int .i64 x.low, .int .i64 x.high, iv]) x ∧ SlS D w iv x.items ∧ w.cell? ⟨b, o + k * 5, none⟩ = some (.string x.name) ∧ w.cell? ⟨b, o + k * 5 + 1, none⟩ = some (.int .i64 x.kind) ∧ w.cell? ⟨b, o + k * 5 + 2, none⟩ = some (.int .i64 x.low) ∧ w.cell? ⟨b, o + k * 5 + 3, none⟩ = some (.int .i64 x.high) ∧ w.cell? ⟨b, o + k * 5 + 4, none⟩ = some iv := by
  obtain ⟨b, o, x, u0, u1, u2, u3, u4, hA, hD, hx, ⟨iv, hu, a1, a2, a3, a4, hi⟩, h0, h1, h2, h3, h4⟩ := Sl.at5 h hk
  injection hu with e0 hu; injection hu with e1 hu; injection hu with e2 hu; injection hu with e3 hu; injection hu with e4 hu
  subst e0 e1 e2 e3 e4
  exact ⟨b, o, x, u4, hA, hD, hx, ⟨u4, rfl, a1, a2, a3, a4, hi⟩, hi, h0, h1, h2, h3, h4⟩
end
theorem numB_yes {n : Int} (h1 : -4503599627370496 ≤ n) (h2 : n ≤ 4503599627370496) : numB n = true := by unfold numB; simp [h1, h2]
theorem numB_no {n : Int} (h : ¬ (-4503599627370496 ≤ n ∧ n ≤ 4503599627370496)) : numB n = false := by unfold numB; simp only [h, decide_false]
set_option maxHeartbeats 400000 in
theorem number_any (n : Int) (w : World) : Calls Tryz.prog 153 #[.int .i64 n] w fun e w' => e = .returned (.bool (numB n)) ∧ w = w' := by
  by_cases h1 : -4503599627370496 ≤ n <;> by_cases h2 : n ≤ 4503599627370496
  all_goals
    go_enter Tryz.func153, Tryz.ntmps153
    go_wp2
    go_ret
    exact ⟨ret_bool (by first | exact (numB_yes h1 h2).symm | exact (numB_no (fun h => by omega)).symm), rfl⟩
theorem plainC_iff (c : UInt8) : plainC c = true ↔ 32 ≤ (c.toNat : Int) ∧ (c.toNat : Int) ≤ 126 := by unfold plainC; simp; omega
set_option maxHeartbeats 400000 in
theorem text1_any (c : UInt8) (w : World) : Calls Tryz.prog 187 #[.int .u8 (c.toNat : Int)] w fun e w' => e = .returned (.bool (!plainC c)) ∧ w = w' := by
  have HP := Lib.hid (plainC_iff c)
  generalize hq : plainC c = q at *
  generalize (c.toNat : Int) = z at *
  by_cases h1 : z < 32
  · have hq' : q = false := by cases q with | false => rfl | true => have := HP.out.1 rfl; omega
    subst hq'
    go_enter Tryz.func187, Tryz.ntmps187
    go_wp2
    go_ret
    exact ⟨rfl, rfl⟩
  by_cases h2 : 126 < z
  · have hq' : q = false := by cases q with | false => rfl | true => have := HP.out.1 rfl; omega
    subst hq'
    go_enter Tryz.func187, Tryz.ntmps187
    go_wp2
    go_ret
    exact ⟨rfl, rfl⟩
  · have hq' : q = true := HP.out.2 ⟨by omega, by omega⟩
    subst hq'
    go_enter Tryz.func187, Tryz.ntmps187
    go_wp2
    go_ret
    exact ⟨rfl, rfl⟩
def RowB (w : World) (g : Nat) (l : List UInt8) : Prop := ∀ k c, l[k]? = some c → w.cell? ⟨g, k, none⟩ = some (.int .u8 (c.toNat : Int))
theorem any_false_of {α : Type} (p : α → Bool) (xs : List α) (h : ∀ q y, q < xs.length → xs[q]? = some y → p y = false) : xs.any p = false := by
  rw [List.any_eq_false]
  intro x hx
  obtain ⟨q, hq, rfl⟩ := List.mem_iff_getElem.1 hx
  rw [h q _ hq (List.getElem?_eq_getElem hq)]; simp
set_option maxHeartbeats 400000 in
theorem indexTextB (g c : Nat) (l : List UInt8) (w : World) (hl : l.length ≤ 1000000) (h : RowB w g l) :
    Calls Tryz.prog 197 #[.slice (some ⟨g, 0, none⟩) l.length c, .func (.func 187) #[] #[]] w fun e w' => ∃ z : Int, e = .returned (.int .i64 z) ∧ decide (0 ≤ z) = (l.any fun x => !plainC x) ∧ w = w' := by
  have eg : ∀ args w, (callFunc 187 args).run Tryz.prog w = .ok (.enter 187 args) w := enters_of Tryz.func187 (by kernel_rfl) rfl
  have HH := Lib.hid h
  clear h
  go_enter Tryz.func197, Tryz.ntmps197
  go_wp2_with fail
  go_loopw [8] (fun i wr => ∃ j : Nat, j ≤ l.length ∧ i = .int .i64 j ∧ (∀ q t, q < j → l[q]? = some t → (!plainC t) = false) ∧ wr = w) (fun i _ => l.length - (intOf i).toNat)
  case atStart => exact ⟨0, Nat.zero_le _, rfl, fun q _ h => absurd h (by omega), rfl⟩
  case round =>
    obtain ⟨j, hj, rfl, hp, rfl⟩ := hrel
    have HP := Lib.hid hp
    clear hp
    by_cases hlt : j < l.length
    · have HX : Hid (l[j]? = some l[j]) := List.getElem?_eq_getElem hlt
      have c0 := HH.out j _ HX.out
      have HC := Lib.hid (fun W => text1_any l[j] W)
      generalize l[j] = x at *
      generalize hq : plainC x = q at *
      have HQ := Lib.hid hq
      clear hq
      cases q
      · go_wp2_with (go_at_fn 187; refine (HC.out _).mono ?_; rintro e w' ⟨rfl, rfl⟩)
        go_ret
        refine ⟨_, rfl, ?_, rfl⟩
        have : (l.any fun x => !plainC x) = true := List.any_eq_true.2 ⟨x, List.mem_of_getElem? HX.out, by rw [HQ.out]; rfl⟩
        rw [this]
        simp
      · go_wp2_with (go_at_fn 187; refine (HC.out _).mono ?_; rintro e w' ⟨rfl, rfl⟩)
        go_roundw
        case rel =>
          refine ⟨j + 1, by omega, by go_num, fun q y hq hy => ?_, trivial⟩
          by_cases e : q = j
          · subst e; rw [HX.out] at hy; injection hy with hy; subst hy; rw [HQ.out]; rfl
          · exact HP.out q y (by omega) hy
        case measure => simp [intOf]; omega
    · go_wp2_with fail
      go_ret
      refine ⟨_, rfl, ?_, rfl⟩
      rw [any_false_of _ l (fun q y hq hy => HP.out q y (by omega) hy)]
      simp
theorem containsTextB (g c : Nat) (l : List UInt8) (w : World) (hl : l.length ≤ 1000000) (h : RowB w g l) :
    Calls Tryz.prog 186 #[.slice (some ⟨g, 0, none⟩) l.length c, .func (.func 187) #[] #[]] w fun e w' => e = .returned (.bool (l.any fun x => !plainC x)) ∧ w = w' := by
  have HC := Lib.hid (indexTextB g c l w hl h)
  clear h
  go_enter Tryz.func186, Tryz.ntmps186
  go_wp2_with (go_at_call 197; refine HC.out.mono ?_; rintro e w' ⟨z, rfl, hz, rfl⟩)
  go_ret
  exact ⟨rfl, rfl⟩
end Go.Proofs.YtijmnenojbfdnaaGreatDoor

namespace Go.Proofs.YtijmnenojbfdnaaGreatDoor
open Go.RowKit
def plainS (s : ByteArray) : Bool := s.data.toList.all plainC
theorem any_not_allC (l : List UInt8) : (l.any fun x => !plainC x) = !l.all plainC := by
  induction l with
  | nil => rfl
  | cons a m ih => simp [List.any_cons, List.all_cons, ih]
theorem textB_long {s : ByteArray} (h : 200 < s.size) : textB s = false := by
  unfold textB
  have h' : ¬ s.size ≤ 200 := by omega
  simp [h']
theorem textB_short {s : ByteArray} (h : s.size ≤ 200) : textB s = plainS s := by unfold textB plainS; simp [h]
theorem rowB_new (w : World) (s : ByteArray) (cap t : Nat) (fr : Nat × Nat) : RowB (w.alloc (.cells (bytesRow s cap) t fr)).drew w.heap.size s.data.toList := by
  intro k c hk
  rw [Array.getElem?_toList] at hk
  have hkl : k < s.data.size := by
    rcases Nat.lt_or_ge k s.data.size with h | h
    · exact h
    · rw [Array.getElem?_eq_none h] at hk; cases hk
  have h1 : (w.alloc (.cells (bytesRow s cap) t fr)).drew.heap[w.heap.size]? = some (.cells (bytesRow s cap) t fr) := by
    show (w.heap.push _)[w.heap.size]? = _
    simp
  simp only [World.cell?, h1]
  simp only [Option.isSome_none, Bool.false_eq_true, if_false]
  unfold bytesRow
  rw [Array.getElem?_append_left (by simpa using hkl), Array.getElem?_map, hk]
  rfl
set_option maxHeartbeats 400000 in
theorem text_any (s : ByteArray) (w : World) (hs : s.size ≤ maxLen) : Calls Tryz.prog 154 #[.string s] w fun e w' => e = .returned (.bool (textB s)) ∧ Below w.heap.size w w' := by
  unfold maxLen at hs
  by_cases h1 : 200 < s.size
  · have HE := Lib.hid (textB_long h1)
    go_enter Tryz.func154, Tryz.ntmps154
    go_wp2
    go_ret
    exact ⟨ret_bool HE.out.symm, Below.refl _ _⟩
  · have h2 : s.size ≤ 200 := by omega
    have HE : Hid (textB s = !(s.data.toList.any fun x => !plainC x)) := by show textB s = _; rw [textB_short h2, any_not_allC]; unfold plainS; simp
    have hconv := fun w => run_bytes_of_string (P := Tryz.prog) w 9 90 5 s Tryz.underlying9 Tryz.underlying90 Tryz.underlying5
    go_enter Tryz.func154, Tryz.ntmps154
    go_wp2_with fail
    refine (containsTextB w.heap.size _ s.data.toList _ (by rw [Array.length_toList]; show s.size ≤ _; omega) (rowB_new w s _ _ _)).mono ?_
    rintro e w1 ⟨rfl, rfl⟩
    generalize (s.data.toList.any fun x => !plainC x) = q at *
    go_wp2_with fail
    go_ret
    exact ⟨ret_bool HE.out.symm, (bone w _).drew⟩
theorem byte_plain {s : ByteArray} {k : Nat} (h : k < s.size) : plainC (s.data.toList[k]'(by simpa using h)) = true ↔ 32 ≤ (s[k].toNat : Int) ∧ (s[k].toNat : Int) ≤ 126 := plainC_iff _
theorem all_plain {s : ByteArray} (h : ∀ j (hj : j < s.size), plainC (s.data.toList[j]'(by simpa using hj)) = true) : plainS s = true := by
  unfold plainS
  rw [List.all_eq_true]
  intro c hc
  obtain ⟨j, hj, rfl⟩ := List.mem_iff_getElem.1 hc
  exact h j (by simpa using hj)
theorem not_plain {s : ByteArray} {j : Nat} (hj : j < s.size) (h : ¬ plainC (s.data.toList[j]'(by simpa using hj)) = true) : plainS s = false := by
  unfold plainS
  rw [Bool.eq_false_iff]
  intro h'
  exact h (List.all_eq_true.1 h' _ (List.getElem_mem _))
set_option maxHeartbeats 1000000 in
theorem validV_any (v : Val) (w : World) (h : FitV v) : Calls Tryz.prog 110 #[valV v] w fun e w' => e = .returned (.bool (validV v)) ∧ Below w.heap.size w w' := by
  obtain ⟨k, n, s⟩ := v
  obtain ⟨h1, h2, h3⟩ := h
  have HT := Lib.hid (fun w => text_any s w h3)
  have HN := Lib.hid (fun w => number_any n w)
  unfold validV valV noS
  dsimp only at h1 h2 h3 ⊢
  clear h1 h2 h3
  have hb := bone w (.cells #[.int .i64 k, .int .i64 n, .string s] 25)
  by_cases k1 : k = 1
  · subst k1
    by_cases hS : s.toList = []
    · have hS2 : s.toList.isEmpty = true := by simpa using hS
      by_cases n0 : n = 0
      · subst n0
        go_enter Tryz.func110, Tryz.ntmps110
        go_wp2_with fail
        go_ret
        exact ⟨ret_bool (by first | (simp; done) | simp [hS]), hb⟩
      · by_cases n1 : n = 1
        · subst n1
          go_enter Tryz.func110, Tryz.ntmps110
          go_wp2_with fail
          go_ret
          exact ⟨ret_bool (by first | (simp; done) | simp [hS]), hb⟩
        · go_enter Tryz.func110, Tryz.ntmps110
          go_wp2_with fail
          go_ret
          exact ⟨ret_bool (by first | (simp; done) | simp [n0, n1]), hb⟩
    · have hS2 : s.toList.isEmpty = false := by simpa using hS
      by_cases n0 : n = 0
      · subst n0
        go_enter Tryz.func110, Tryz.ntmps110
        go_wp2_with fail
        go_ret
        exact ⟨ret_bool (by first | (simp; done) | simp [hS]), hb⟩
      · by_cases n1 : n = 1
        · subst n1
          go_enter Tryz.func110, Tryz.ntmps110
          go_wp2_with fail
          go_ret
          exact ⟨ret_bool (by first | (simp; done) | simp [hS]), hb⟩
        · go_enter Tryz.func110, Tryz.ntmps110
          go_wp2_with fail
          go_ret
          exact ⟨ret_bool (by first | (simp; done) | simp [n0, n1]), hb⟩
  by_cases k2 : k = 2
  · subst k2
    generalize numB n = q at *
    by_cases hS : s.toList = []
    · have hS2 : s.toList.isEmpty = true := by simpa using hS
      cases q
      all_goals
        go_enter Tryz.func110, Tryz.ntmps110
        go_wp2_with (go_at_call 153; refine (HN.out _).mono ?_; rintro e w' ⟨rfl, rfl⟩)
        go_ret
        exact ⟨ret_bool (by first | (simp; done) | simp [hS]), hb⟩
    · have hS2 : s.toList.isEmpty = false := by simpa using hS
      cases q
      all_goals
        go_enter Tryz.func110, Tryz.ntmps110
        go_wp2_with (go_at_call 153; refine (HN.out _).mono ?_; rintro e w' ⟨rfl, rfl⟩)
        go_ret
        exact ⟨ret_bool (by first | (simp; done) | simp [hS]), hb⟩
  by_cases k3 : k = 3
  · subst k3
    by_cases n0 : n = 0
    · subst n0
      generalize textB s = q at *
      go_enter Tryz.func110, Tryz.ntmps110
      go_wp2_with (go_at_call 154; refine (HT.out _).mono ?_; rintro e w' ⟨rfl, hb1⟩)
      go_ret
      exact ⟨ret_bool (by simp), bthen hb hb1⟩
    · go_enter Tryz.func110, Tryz.ntmps110
      go_wp2_with fail
      go_ret
      exact ⟨ret_bool (by first | (simp; done) | simp [n0]), hb⟩
  · go_enter Tryz.func110, Tryz.ntmps110
    go_wp2_with fail
    go_ret
    exact ⟨ret_bool (by first | (simp; done) | simp [k1, k2, k3]), hb⟩
end Go.Proofs.YtijmnenojbfdnaaGreatDoor

namespace Go.Proofs.YtijmnenojbfdnaaGreatDoor
open Go.RowKit
theorem perm_of_subset : ∀ (A ls : List Bs), A.Nodup → (∀ x ∈ A, x ∈ ls) → ls.length = A.length → ls.Perm A := by
  intro A
  induction A with
  | nil => intro ls _ _ h; have : ls = [] := List.eq_nil_of_length_eq_zero h; rw [this]
  | cons a A ih =>
    intro ls hn hs hl
    rw [List.nodup_cons] at hn
    have ha := hs a (by simp)
    have h1 : ls.Perm (a :: ls.erase a) := List.perm_cons_erase ha
    have h2 := ih (ls.erase a) hn.2 (fun x hx => by
      rw [List.mem_erase_of_ne (fun e => by subst e; exact hn.1 hx)]
      exact hs x (by simp [hx])) (by rw [List.length_erase_of_mem ha, hl]; simp)
    exact h1.trans (h2.cons a)
theorem once_iff (ls : List Bs) : onceB ls = decide ((setB ls).length = ls.length) := by
  unfold onceB
  rw [decide_eq_decide]
  constructor
  · intro h
    exact ((List.perm_ext_iff_of_nodup (asc_nodup (setB_asc ls)) h).2 (fun x => setB_mem ls x)).length_eq
  · intro h
    have := perm_of_subset (setB ls) ls (asc_nodup (setB_asc ls)) (fun x hx => (setB_mem ls x).1 hx) h.symm
    exact this.nodup_iff.2 (asc_nodup (setB_asc ls))
def AsksS (k : FuncId) (w : World) (xs : List ByteArray) (p : ByteArray → Bool) : Prop :=
  ∀ (x : ByteArray) (w1 : World), x ∈ xs → x.size ≤ maxLen → Below w.heap.size w w1 → Calls Tryz.prog k #[.string x] w1 fun e w2 => e = .returned (.bool (p x)) ∧ Below w1.heap.size w1 w2
set_option maxHeartbeats 400000 in
theorem indexFuncS (k : FuncId) (eg : ∀ args w, (callFunc k args).run Tryz.prog w = .ok (.enter k args) w) (tv : Value) (ts : List ByteArray) (p : ByteArray → Bool) (w : World) (ht : SlS (Lt w.heap.size) w tv ts) (hf : AsksS k w ts p) :
    Calls Tryz.prog 77 #[tv, .func (.func k) #[] #[]] w fun e w' => ∃ z : Int, e = .returned (.int .i64 z) ∧ decide (0 ≤ z) = ts.any p ∧ Below w.heap.size w w' := by
  obtain ⟨A, c, rfl, h1, h2, ht⟩ := ht.open_
  have HF := Lib.hid hf
  clear hf
  go_enter Tryz.func77, Tryz.ntmps77
  go_wp2_with fail
  go_loopw [8] (fun i wr => ∃ j : Nat, j ≤ ts.length ∧ i = .int .i64 j ∧ (∀ q t, q < j → ts[q]? = some t → p t = false) ∧ Below w.heap.size w wr) (fun i _ => ts.length - (intOf i).toNat)
  case atStart => exact ⟨0, Nat.zero_le _, rfl, fun q _ h => absurd h (by omega), Below.refl _ _⟩
  case round =>
    obtain ⟨j, hj, rfl, hp, hb⟩ := hrel
    have HP := Lib.hid hp
    clear hp
    by_cases hlt : j < ts.length
    · obtain ⟨b, o, t, rfl, hD, hx, hf, c0⟩ := (ht.now hb).at_ hlt
      have hcall := HF.out t wr (List.mem_of_getElem? hx) hf hb
      have HX := Lib.hid hx
      clear hx
      generalize hq : p t = q at *
      have HQ := Lib.hid hq
      have HC := Lib.hid hcall
      clear hcall hq
      cases q
      · go_wp2_with (go_at_fn k; refine HC.out.mono ?_; rintro e w' ⟨rfl, hb'⟩)
        go_roundw
        case rel =>
          refine ⟨j + 1, by omega, by go_num, fun q y hq hy => ?_, bthen hb hb'⟩
          by_cases e : q = j
          · subst e; rw [HX.out] at hy; injection hy with hy; subst hy; exact HQ.out
          · exact HP.out q y (by omega) hy
        case measure => simp [intOf]; omega
      · go_wp2_with (go_at_fn k; refine HC.out.mono ?_; rintro e w' ⟨rfl, hb'⟩)
        go_ret
        refine ⟨_, rfl, ?_, bthen hb hb'⟩
        rw [List.any_eq_true.2 ⟨t, List.mem_of_getElem? HX.out, HQ.out⟩]
        simp
    · go_wp2_with fail
      go_ret
      refine ⟨_, rfl, ?_, hb⟩
      rw [any_false_of _ ts (fun q y hq hy => HP.out q y (by omega) hy)]
      simp
theorem containsFuncS (k : FuncId) (eg : ∀ args w, (callFunc k args).run Tryz.prog w = .ok (.enter k args) w) (tv : Value) (ts : List ByteArray) (p : ByteArray → Bool) (w : World) (ht : SlS (Lt w.heap.size) w tv ts) (hf : AsksS k w ts p) :
    Calls Tryz.prog 41 #[tv, .func (.func k) #[] #[]] w fun e w' => e = .returned (.bool (ts.any p)) ∧ Below w.heap.size w w' := by
  have HC := Lib.hid (indexFuncS k eg tv ts p w ht hf)
  clear hf ht
  go_enter Tryz.func41, Tryz.ntmps41
  go_wp2_with (go_at_call 77; refine HC.out.mono ?_; rintro e w' ⟨z, rfl, hz, hb'⟩)
  go_ret
  exact ⟨rfl, hb'⟩
set_option maxHeartbeats 400000 in
theorem validVar1_any (s : ByteArray) (w : World) (hs : s.size ≤ maxLen) : Calls Tryz.prog 168 #[.string s] w fun e w' => e = .returned (.bool (!textB s)) ∧ Below w.heap.size w w' := by
  have HT := Lib.hid (text_any s w hs)
  clear hs
  generalize textB s = q at *
  go_enter Tryz.func168, Tryz.ntmps168
  go_wp2_with (go_at_call 154; refine HT.out.mono ?_; rintro e w' ⟨rfl, hb⟩)
  go_ret
  exact ⟨rfl, hb⟩
theorem cloneS (v : Value) (zs : List ByteArray) (w : World) (h : SlS (Lt w.heap.size) w v zs) (hz : zs.length ≤ 1000000) :
    Calls Tryz.prog 169 #[v] w fun e w' => ∃ v', e = .returned v' ∧ w'.ownsRow w.heap.size 9 1 v' zs.length (zs.map Value.string) ∧ Below w.heap.size w w' := by
  obtain ⟨A, c, rfl, h1, h2, h⟩ := h.open_
  by_cases hn : 0 < zs.length
  · obtain ⟨b, o, rfl, hD, _, hc⟩ := h.cells hn
    refine (Tryz.slices_Clone_string b o zs.length c zs w (Nat.le_refl _) (by omega) hc).mono ?_
    rintro e w' ⟨v', rfl, ho, _, hb⟩
    rw [List.take_of_length_le (Nat.le_refl _)] at ho
    exact ⟨v', rfl, ho, hb⟩
  · have : zs = [] := List.eq_nil_of_length_eq_zero (by omega)
    subst this
    rcases A with _ | a
    · refine (Tryz.slices_Clone_string_nil _ _ w).mono ?_
      rintro e w' ⟨rfl, rfl⟩
      exact ⟨_, rfl, World.ownsRow_nil _ _ _ _, Below.refl _ _⟩
    · refine (Tryz.slices_Clone_string_zero a c w).mono ?_
      rintro e w' ⟨v', rfl, ho, _, hb⟩
      exact ⟨v', rfl, ho, hb⟩
theorem own_bytes {w : World} {base : Nat} {v : Value} {zs : List ByteArray} (h : w.ownsRow base 9 1 v zs.length (zs.map Value.string)) : OwnS w base v (bytesOf zs) := by
  unfold OwnS bytesOf
  rw [List.length_map, List.map_map]
  have : (encStr ∘ fun s : ByteArray => s.data.toList) = Value.string := by
    funext s
    show Value.string (mkS s.data.toList) = _
    rw [mkS_of]
  rw [this]
  exact h
end Go.Proofs.YtijmnenojbfdnaaGreatDoor
