/- Texts of this seat, merged. -/
import Derived.Test.YtoalecalahkblaaGreatDoorProg
import Derived.Outline
import Derived.Deep.Light
import Derived.Shelf.Abstract
import Derived.Laws.IdiomStrings
import Derived.Test.YtoalecalahkblaaGreatDoorIy01
set_option linter.all false
set_option linter.all false
namespace Go.Proofs.YtoalecalahkblaaGreatDoor
open Go.RowKit
def letterB (c : Int) : Bool := decide (65 ≤ c ∧ c ≤ 90) || decide (97 ≤ c ∧ c ≤ 122)
def partB (c : Int) : Bool := letterB c || decide (48 ≤ c ∧ c ≤ 57) || decide (c = 95) || decide (c = 45) || decide (c = 46)
def byteAt (s : ByteArray) (i : Nat) : Int := (((s.data.toList[i]?).getD 0).toNat : Int)
def isNameB (s : ByteArray) : Bool := decide (1 ≤ s.size) && decide (s.size ≤ 40) && letterB (byteAt s 0) && (List.range s.size).all fun i => partB (byteAt s i)
theorem letter_yes {c : Int} (h : (65 ≤ c ∧ c ≤ 90) ∨ (97 ≤ c ∧ c ≤ 122)) : letterB c = true := by unfold letterB; simp; omega
theorem letter_no {c : Int} (h : ¬ ((65 ≤ c ∧ c ≤ 90) ∨ (97 ≤ c ∧ c ≤ 122))) : letterB c = false := by unfold letterB; simp; omega
theorem part_letter {c : Int} (h : letterB c = true) : partB c = true := by unfold partB; simp [h]
theorem part_other {c : Int} (h : letterB c = false) : partB c = (decide (48 ≤ c ∧ c ≤ 57) || decide (c = 95) || decide (c = 45) || decide (c = 46)) := by unfold partB; simp [h]
theorem byteAt_eq (s : ByteArray) (i : Nat) (h : i < s.size) : byteAt s i = (s[i].toNat : Int) := by
  unfold byteAt
  rw [List.getElem?_eq_getElem (by simpa using h)]
  rfl
set_option maxHeartbeats 400000 in
theorem letter_any (c : Int) (w : World) : Calls Tryz.prog 123 #[.int .u8 c] w fun e w' => e = .returned (.bool (letterB c)) ∧ w = w' := by
  by_cases h1 : 65 ≤ c <;> by_cases h2 : c ≤ 90 <;> by_cases h3 : 97 ≤ c <;> by_cases h4 : c ≤ 122
  all_goals first
    | (exfalso; omega)
    | (go_enter Tryz.func123, Tryz.ntmps123
       go_wp2
       go_ret
       exact ⟨ret_bool (by first | exact (letter_yes (by omega)).symm | exact (letter_no (by omega)).symm), rfl⟩)
set_option maxHeartbeats 400000 in
theorem part_any (c : Int) (w : World) : Calls Tryz.prog 124 #[.int .u8 c] w fun e w' => e = .returned (.bool (partB c)) ∧ w = w' := by
  have HC := Lib.hid (letter_any c)
  cases hl : letterB c with
  | true =>
    have hp := Lib.hid (part_letter hl)
    have HC' : Hid (∀ w, Calls Tryz.prog 123 #[.int .u8 c] w fun e w' => e = .returned (.bool true) ∧ w = w') := fun w => by have := HC.out w; rwa [hl] at this
    clear hl HC
    go_enter Tryz.func124, Tryz.ntmps124
    go_wp2_with (go_at_call 123; refine (HC'.out _).mono ?_; rintro e w' ⟨rfl, rfl⟩)
    go_ret
    exact ⟨ret_bool hp.out.symm, rfl⟩
  | false =>
    have hp := Lib.hid (part_other hl)
    have HC' : Hid (∀ w, Calls Tryz.prog 123 #[.int .u8 c] w fun e w' => e = .returned (.bool false) ∧ w = w') := fun w => by have := HC.out w; rwa [hl] at this
    clear hl HC
    generalize partB c = pb at *
    by_cases h1 : 48 ≤ c <;> by_cases h2 : c ≤ 57
    all_goals first
      | (exfalso; omega)
      | (go_enter Tryz.func124, Tryz.ntmps124
         go_wp2_with (go_at_call 123; refine (HC'.out _).mono ?_; rintro e w' ⟨rfl, rfl⟩)
         all_goals
           go_ret
           refine ⟨ret_bool ?_, rfl⟩
           rw [hp.out, Bool.eq_iff_iff]
           simp
           omega)
theorem isName_size {s : ByteArray} (h : ¬ (1 ≤ s.size ∧ s.size ≤ 40)) : isNameB s = false := by
  unfold isNameB
  by_cases h1 : 1 ≤ s.size
  · have : ¬ s.size ≤ 40 := fun h2 => h ⟨h1, h2⟩
    simp [this]
  · simp [h1]
theorem isName_first {s : ByteArray} (h : letterB (byteAt s 0) = false) : isNameB s = false := by
  unfold isNameB; simp [h]
theorem isName_bad {s : ByteArray} {k : Nat} (hk : k < s.size) (h : partB (byteAt s k) = false) : isNameB s = false := by
  unfold isNameB
  have : (List.range s.size).all (fun i => partB (byteAt s i)) = false := by
    rw [List.all_eq_false]; exact ⟨k, List.mem_range.2 hk, by simp [h]⟩
  simp [this]
theorem isName_ok {s : ByteArray} (h1 : 1 ≤ s.size) (h2 : s.size ≤ 40) (h3 : letterB (byteAt s 0) = true) (h : ∀ j, j < s.size → partB (byteAt s j) = true) : isNameB s = true := by
  unfold isNameB
  have : (List.range s.size).all (fun i => partB (byteAt s i)) = true := by
    rw [List.all_eq_true]; exact fun j hj => h j (List.mem_range.1 hj)
  simp [this, h1, h2, h3]
set_option maxHeartbeats 400000 in
theorem isName_any (s : ByteArray) (w : World) (hs : s.size ≤ maxLen) : Calls Tryz.prog 76 #[.string s] w fun e w' => e = .returned (.bool (isNameB s)) ∧ w = w' := by
  unfold maxLen at hs
  by_cases h1 : 1 ≤ s.size
  · by_cases h2 : s.size ≤ 40
    · cases hl : letterB (byteAt s 0) with
      | false =>
        have HE := Lib.hid (isName_first hl)
        have HC : Hid (∀ w, Calls Tryz.prog 123 #[.int .u8 (s[0].toNat : Int)] w fun e w' => e = .returned (.bool false) ∧ w = w') := fun w => by
          have := letter_any (byteAt s 0) w; rwa [hl, byteAt_eq s 0 (by omega)] at this
        clear hl
        go_enter Tryz.func76, Tryz.ntmps76
        go_wp2_with (go_at_call 123; refine (HC.out _).mono ?_; rintro e w' ⟨rfl, rfl⟩)
        go_ret
        exact ⟨ret_bool HE.out.symm, rfl⟩
      | true =>
        have HL := Lib.hid hl
        have HC : Hid (∀ w, Calls Tryz.prog 123 #[.int .u8 (s[0].toNat : Int)] w fun e w' => e = .returned (.bool true) ∧ w = w') := fun w => by
          have := letter_any (byteAt s 0) w; rwa [hl, byteAt_eq s 0 (by omega)] at this
        clear hl
        go_enter Tryz.func76, Tryz.ntmps76
        go_wp2_with (go_at_call 123; refine (HC.out _).mono ?_; rintro e w' ⟨rfl, rfl⟩)
        go_loop [20] (fun i => ∃ k : Nat, 0 ≤ k ∧ k ≤ s.size ∧ i = .int .i64 k ∧ ∀ j, j < k → partB (byteAt s j) = true) (fun i => s.size - (intOf i).toNat)
        case atStart => exact ⟨0, Nat.le_refl _, by omega, rfl, fun j hj => absurd hj (by omega)⟩
        case round =>
          obtain ⟨k, hk0, hk, rfl, hp⟩ := hrel
          have HP := Lib.hid hp
          clear hp
          by_cases hlt : k < s.size
          · have hby := byteAt_eq s k hlt
            cases hq : partB (byteAt s k) with
            | true =>
              have HQ := Lib.hid hq
              have HD : Hid (∀ w, Calls Tryz.prog 124 #[.int .u8 (s[k].toNat : Int)] w fun e w' => e = .returned (.bool true) ∧ w = w') := fun w => by
                have := part_any (byteAt s k) w; rwa [hq, hby] at this
              clear hq hby
              go_wp2_with (go_at_call 124; refine (HD.out _).mono ?_; rintro e w' ⟨rfl, rfl⟩)
              go_round
              case rel => exact ⟨k + 1, by omega, by omega, by go_num, fun j hj => by
                by_cases e : j = k
                · subst e; exact HQ.out
                · exact HP.out j (by omega)⟩
              case measure => simp [intOf]; omega
            | false =>
              have HE := Lib.hid (isName_bad hlt hq)
              have HD : Hid (∀ w, Calls Tryz.prog 124 #[.int .u8 (s[k].toNat : Int)] w fun e w' => e = .returned (.bool false) ∧ w = w') := fun w => by
                have := part_any (byteAt s k) w; rwa [hq, hby] at this
              clear hq hby
              go_wp2_with (go_at_call 124; refine (HD.out _).mono ?_; rintro e w' ⟨rfl, rfl⟩)
              go_ret
              exact ⟨ret_bool HE.out.symm, rfl⟩
          · go_wp2_with fail
            go_ret
            exact ⟨ret_bool (isName_ok h1 h2 HL.out (fun j hj => HP.out j (by omega))).symm, rfl⟩
    · have HE := Lib.hid (isName_size (s := s) (by omega))
      go_enter Tryz.func76, Tryz.ntmps76
      go_wp2_with fail
      go_ret
      exact ⟨ret_bool HE.out.symm, rfl⟩
  · have HE := Lib.hid (isName_size (s := s) (by omega))
    go_enter Tryz.func76, Tryz.ntmps76
    go_wp2_with fail
    go_ret
    exact ⟨ret_bool HE.out.symm, rfl⟩
end Go.Proofs.YtoalecalahkblaaGreatDoor

set_option linter.all false
namespace Go.Proofs.YtoalecalahkblaaGreatDoor
open Go.RowKit
structure Val where
  kind : Int
  n : Int
  s : ByteArray
deriving DecidableEq
structure Var where
  name : ByteArray
  kind : Int
  low : Int
  high : Int
  items : List ByteArray
def plainC (c : UInt8) : Bool := decide (32 ≤ c.toNat ∧ c.toNat ≤ 126)
def textB (s : ByteArray) : Bool := decide (s.size ≤ 200) && s.data.toList.all plainC
def numB (n : Int) : Bool := decide (-4503599627370496 ≤ n ∧ n ≤ 4503599627370496)
def noS (s : ByteArray) : Bool := s.toList.isEmpty
def validV (v : Val) : Bool :=
  if v.kind = 1 then decide (v.n = 0 ∨ v.n = 1) && noS v.s
  else if v.kind = 2 then numB v.n && noS v.s
  else if v.kind = 3 then decide (v.n = 0) && textB v.s
  else false
def bytesOf (l : List ByteArray) : List Bs := l.map fun s => s.data.toList
def onceB (l : List Bs) : Bool := decide l.Nodup
def formB (x : Var) : Bool :=
  if x.kind = 1 then decide (x.low = 0 ∧ x.high = 0 ∧ x.items.length = 0)
  else if x.kind = 2 then numB x.low && numB x.high && decide (x.low ≤ x.high ∧ x.high - x.low < 1000 ∧ x.items.length = 0)
  else if x.kind = 3 then decide (x.low = 0 ∧ x.high = 0 ∧ 1 ≤ x.items.length ∧ x.items.length ≤ 1000) && x.items.all textB && onceB (bytesOf x.items)
  else false
def varB (x : Var) : Bool := isNameB x.name && formB x
def varsB (l : List Var) : Bool := decide (l.length ≤ 8) && l.all varB && onceB (bytesOf (l.map Var.name))
def atS (l : List ByteArray) (s : ByteArray) : Int := match l.findIdx? (fun y => y.toList == s.toList) with | some i => (i : Int) | none => -1
def placeV (x : Var) (v : Val) : Int :=
  if v.kind ≠ x.kind then -1
  else if x.kind = 1 then v.n
  else if x.kind = 3 then atS x.items v.s
  else if v.n < x.low ∨ x.high < v.n then -1
  else v.n - x.low
def sizeV (x : Var) : Int := if x.kind = 1 then 2 else if x.kind = 2 then x.high - x.low + 1 else x.items.length
def emptyS : ByteArray := ⟨#[]⟩
def nthV (x : Var) (i : Int) : Val :=
  if x.kind = 3 then ⟨3, 0, x.items.getD i.toNat emptyS⟩ else if x.kind = 2 then ⟨2, i + x.low, emptyS⟩ else ⟨x.kind, i, emptyS⟩
def noV : Val := ⟨0, 0, emptyS⟩
end Go.Proofs.YtoalecalahkblaaGreatDoor

set_option linter.all false
namespace Go.Proofs.YtoalecalahkblaaGreatDoor
open Go.RowKit
structure Fld where
  nm : ByteArray
  v : Val
structure Ev where
  cas : ByteArray
  act : ByteArray
  res : ByteArray
  life : Int
  time : Int
  data : List Fld
def arNum (n : Nat) : List UInt8 := if n < 128 then [UInt8.ofNat n] else UInt8.ofNat (n % 128 + 128) :: arNum (n / 128)
termination_by n
def arText (s : List UInt8) : List UInt8 := arNum s.length ++ s
def zigZ (n : Int) : Nat := if n < 0 then (-2 * n - 1).toNat else (2 * n).toNat
def arVal (v : Val) : List UInt8 := arNum v.kind.toNat ++ (if v.kind = 1 then arNum v.n.toNat else if v.kind = 2 then arNum (zigZ v.n) else arText v.s.data.toList)
def arFld (f : Fld) : List UInt8 := arText f.nm.data.toList ++ arVal f.v
def arData (e : Ev) : List UInt8 := arNum e.data.length ++ e.data.flatMap arFld
def lead (x : Nat) : List Nat → Nat
  | [] => 0
  | y :: l => if y = x then lead x l + 1 else 0
def arRunsF : Nat → List Nat → List UInt8
  | 0, _ => []
  | _ + 1, [] => []
  | f + 1, x :: l => arNum x ++ arNum (lead x l + 1) ++ arRunsF f (l.drop (lead x l))
def arRuns (l : List Nat) : List UInt8 := arRunsF l.length l
def names3 (l : List Ev) : List Bs := l.map (fun e => e.cas.data.toList) ++ (l.map (fun e => e.act.data.toList) ++ l.map (fun e => e.res.data.toList))
def words (l : List Ev) : List Bs := setB (names3 l)
def arTimes : Int → List Ev → List UInt8
  | _, [] => []
  | t, e :: l => arNum (e.time - t).toNat ++ arTimes e.time l
def atW (ws : List Bs) (s : ByteArray) : Nat := ws.idxOf s.data.toList
def arBlock (l : List Ev) : List UInt8 :=
  arNum (words l).length ++ (words l).flatMap arText ++ arRuns (l.map fun e => atW (words l) e.cas) ++ arRuns (l.map fun e => atW (words l) e.act) ++ arRuns (l.map fun e => atW (words l) e.res) ++
    arRuns (l.map fun e => e.life.toNat) ++ arTimes 0 l ++ l.flatMap arData
def part (l : List Ev) (n : Nat) : List Ev := (l.drop (100 * n)).take 100
def nParts (l : List Ev) : Nat := (l.length + 99) / 100
def arParts (l : List Ev) (n : Nat) : List UInt8 := (List.range n).flatMap fun k => arBlock (part l k)
def arBody (l : List Ev) : List UInt8 := arNum l.length ++ arParts l (nParts l)
def crcBit (r : Nat) : Nat := if r % 2 = 1 then r / 2 ^^^ 3988292384 else r / 2
def crcN : Nat → Nat → Nat
  | 0, r => r
  | k + 1, r => crcN k (crcBit r)
def crcL (r : Nat) (l : List UInt8) : Nat := l.foldl (fun r c => crcN 8 (r ^^^ c.toNat)) r
def crcOf (l : List UInt8) : Nat := crcL 4294967295 l
def sumOf (l : List UInt8) : Nat := 4294967295 ^^^ crcOf l
def le4 (s : Nat) : List UInt8 := [UInt8.ofNat (s % 256), UInt8.ofNat (s / 256 % 256), UInt8.ofNat (s / 65536 % 256), UInt8.ofNat (s / 16777216 % 256)]
def arPack (l : List Ev) : List UInt8 := arBody l ++ le4 (sumOf (arBody l))
def fldB (f : Fld) : Bool := isNameB f.nm && validV f.v
def fldAt (l : List Fld) (i : Nat) : Bool := match l[i]? with
  | none => true
  | some f => fldB f && (decide (i = 0) || match l[i - 1]? with | none => true | some g => decide (g.nm.data.toList < f.nm.data.toList))
def fldsB (l : List Fld) : Bool := (List.range l.length).all (fldAt l)
def evB (e : Ev) : Bool := isNameB e.cas && isNameB e.act && (noS e.res || isNameB e.res) && decide (1 ≤ e.life ∧ e.life ≤ 6) && decide (0 ≤ e.time ∧ e.time ≤ 1099511627776) && decide (e.data.length ≤ 8) && fldsB e.data
def evAt (l : List Ev) (i : Nat) : Bool := match l[i]? with
  | none => true
  | some f => evB f && (decide (i = 0) || match l[i - 1]? with | none => true | some g => decide (g.time ≤ f.time))
def logB (l : List Ev) : Bool := decide (l.length ≤ 2000) && (List.range l.length).all (evAt l)
theorem all_no {n k : Nat} {p : Nat → Bool} (hk : k < n) (h : p k = false) : (List.range n).all p = false := by
  rw [Bool.eq_false_iff]
  intro ha
  rw [List.all_eq_true] at ha
  have := ha k (List.mem_range.2 hk)
  rw [h] at this; cases this
theorem all_yes {n : Nat} {p : Nat → Bool} (h : ∀ k, k < n → p k = true) : (List.range n).all p = true := by
  rw [List.all_eq_true]
  exact fun k hk => h k (List.mem_range.1 hk)
theorem all_at {n k : Nat} {p : Nat → Bool} (h : (List.range n).all p = true) (hk : k < n) : p k = true := List.all_eq_true.1 h k (List.mem_range.2 hk)
end Go.Proofs.YtoalecalahkblaaGreatDoor

set_option linter.all false
namespace Go.Proofs.YtoalecalahkblaaGreatDoor
open Go.RowKit
structure FitV (v : Val) : Prop where
  kind : Fit v.kind
  n : Fit v.n
  s : v.s.size ≤ maxLen
def valV (v : Val) : Value := .agg #[.int .i64 v.kind, .int .i64 v.n, .string v.s]
def RVal : ElemR Val := fun _ _ v cs => cs = [.int .i64 v.kind, .int .i64 v.n, .string v.s] ∧ FitV v
theorem RVal.kept : ElemR.Kept RVal := fun _ _ _ _ _ _ _ _ h => h
def SlV := Sl 3 RVal
def RVar : ElemR Var := fun D w x cs => ∃ iv, cs = [.string x.name, .int .i64 x.kind, .int .i64 x.low, .int .i64 x.high, iv] ∧ x.name.size ≤ maxLen ∧ Fit x.kind ∧ Fit x.low ∧ Fit x.high ∧ SlS D w iv x.items
theorem RVar.kept : ElemR.Kept RVar := by
  rintro D D' w w' x cs hd hs ⟨iv, rfl, h1, h2, h3, h4, hi⟩
  exact ⟨iv, rfl, h1, h2, h3, h4, Sl.keep hi RStr.kept hd hs⟩
def SlX := Sl 5 RVar
def IsVar (D : Nat → Prop) (w : World) (u : Value) (x : Var) : Prop := ∃ iv, u = .agg #[.string x.name, .int .i64 x.kind, .int .i64 x.low, .int .i64 x.high, iv] ∧ x.name.size ≤ maxLen ∧ Fit x.kind ∧ Fit x.low ∧ Fit x.high ∧ SlS D w iv x.items
section
variable {D D' : Nat → Prop} {w w' : World} {u : Value}
theorem IsVar.now {x : Var} (h : IsVar (Lt w.heap.size) w u x) (hb : Below w.heap.size w w') : IsVar (Lt w'.heap.size) w' u x := by
  obtain ⟨iv, e, h1, h2, h3, h4, hi⟩ := h
  exact ⟨iv, e, h1, h2, h3, h4, hi.now hb⟩
theorem IsVar.below {x : Var} {B B' : Nat} (h : IsVar (Lt B) w u x) (hb : Below B w w') (hB : B ≤ B') : IsVar (Lt B') w' u x := by
  obtain ⟨iv, e, h1, h2, h3, h4, hi⟩ := h
  exact ⟨iv, e, h1, h2, h3, h4, hi.below hb hB⟩
theorem SlV.now {zs : List Val} (h : SlV (Lt w.heap.size) w u zs) (hb : Below w.heap.size w w') : SlV (Lt w'.heap.size) w' u zs := Sl.below h RVal.kept hb hb.size
theorem SlX.now {zs : List Var} (h : SlX (Lt w.heap.size) w u zs) (hb : Below w.heap.size w w') : SlX (Lt w'.heap.size) w' u zs := Sl.below h RVar.kept hb hb.size
theorem SlV.open_ {zs : List Val} (h : SlV D w u zs) : ∃ A c, u = .slice A zs.length c ∧ zs.length ≤ c ∧ c ≤ 9223372036854775807 ∧ SlV D w (.slice A zs.length c) zs := Sl.open_ h
theorem SlX.open_ {zs : List Var} (h : SlX D w u zs) : ∃ A c, u = .slice A zs.length c ∧ zs.length ≤ c ∧ c ≤ 9223372036854775807 ∧ SlX D w (.slice A zs.length c) zs := Sl.open_ h
theorem SlV.at_ {zs : List Val} {A : Option Addr} {n c k : Nat} (h : SlV D w (.slice A n c) zs) (hk : k < n) :
    ∃ b o v, A = some ⟨b, o, none⟩ ∧ D b ∧ zs[k]? = some v ∧ FitV v ∧ w.cell? ⟨b, o + k * 3, none⟩ = some (.int .i64 v.kind) ∧ w.cell? ⟨b, o + k * 3 + 1, none⟩ = some (.int .i64 v.n) ∧ w.cell? ⟨b, o + k * 3 + 2, none⟩ = some (.string v.s) := by
  obtain ⟨b, o, x, u0, u1, u2, hA, hD, hx, ⟨hu, hf⟩, h0, h1, h2⟩ := Sl.at3 h hk
  injection hu with e0 hu; injection hu with e1 hu; injection hu with e2 hu
  subst e0 e1 e2
  exact ⟨b, o, x, hA, hD, hx, hf, h0, h1, h2⟩
theorem Sl.at5 {α : Type} {R : ElemR α} {xs : List α} {A : Option Addr} {n c k : Nat} (h : Sl 5 R D w (.slice A n c) xs) (hk : k < n) :
    ∃ b o x u0 u1 u2 u3 u4, A = some ⟨b, o, none⟩ ∧ D b ∧ xs[k]? = some x ∧ R D w x [u0, u1, u2, u3, u4] ∧ w.cell? ⟨b, o + k * 5, none⟩ = some u0 ∧ w.cell? ⟨b, o + k * 5 + 1, none⟩ = some u1 ∧ w.cell? ⟨b, o + k * 5 + 2, none⟩ = some u2 ∧ w.cell? ⟨b, o + k * 5 + 3, none⟩ = some u3 ∧ w.cell? ⟨b, o + k * 5 + 4, none⟩ = some u4 := by
  obtain ⟨A', c', hv, h1, h2, h3⟩ := h
  injection hv with hA hn hc
  subst hA hn hc
  obtain ⟨b, o, cs, hA, hD, hl, hr, hcell⟩ := h3 k xs[k] (List.getElem?_eq_getElem hk)
  match cs, hl with
  | [u0, u1, u2, u3, u4], _ => exact ⟨b, o, xs[k], u0, u1, u2, u3, u4, hA, hD, List.getElem?_eq_getElem hk, hr, hcell 0 u0 rfl, hcell 1 u1 rfl, hcell 2 u2 rfl, hcell 3 u3 rfl, hcell 4 u4 rfl⟩
theorem SlX.at_ {zs : List Var} {A : Option Addr} {n c k : Nat} (h : SlX D w (.slice A n c) zs) (hk : k < n) :
    ∃ b o x iv, A = some ⟨b, o, none⟩ ∧ D b ∧ zs[k]? = some x ∧ IsVar D w (.agg #[.string x.name, .int .i64 x.kind, .int .i64 x.low, .int .i64 x.high, iv]) x ∧ SlS D w iv x.items ∧ w.cell? ⟨b, o + k * 5, none⟩ = some (.string x.name) ∧ w.cell? ⟨b, o + k * 5 + 1, none⟩ = some (.int .i64 x.kind) ∧ w.cell? ⟨b, o + k * 5 + 2, none⟩ = some (.int .i64 x.low) ∧ w.cell? ⟨b, o + k * 5 + 3, none⟩ = some (.int .i64 x.high) ∧ w.cell? ⟨b, o + k * 5 + 4, none⟩ = some iv := by
  obtain ⟨b, o, x, u0, u1, u2, u3, u4, hA, hD, hx, ⟨iv, hu, a1, a2, a3, a4, hi⟩, h0, h1, h2, h3, h4⟩ := Sl.at5 h hk
  injection hu with e0 hu; injection hu with e1 hu; injection hu with e2 hu; injection hu with e3 hu; injection hu with e4 hu
  subst e0 e1 e2 e3 e4
  exact ⟨b, o, x, u4, hA, hD, hx, ⟨u4, rfl, a1, a2, a3, a4, hi⟩, hi, h0, h1, h2, h3, h4⟩
end
theorem numB_yes {n : Int} (h1 : -4503599627370496 ≤ n) (h2 : n ≤ 4503599627370496) : numB n = true := by unfold numB; simp [h1, h2]
theorem numB_no {n : Int} (h : ¬ (-4503599627370496 ≤ n ∧ n ≤ 4503599627370496)) : numB n = false := by unfold numB; simp only [h, decide_false]
set_option maxHeartbeats 400000 in
theorem number_any (n : Int) (w : World) : Calls Tryz.prog 166 #[.int .i64 n] w fun e w' => e = .returned (.bool (numB n)) ∧ w = w' := by
  by_cases h1 : -4503599627370496 ≤ n <;> by_cases h2 : n ≤ 4503599627370496
  all_goals
    go_enter Tryz.func166, Tryz.ntmps166
    go_wp2
    go_ret
    exact ⟨ret_bool (by first | exact (numB_yes h1 h2).symm | exact (numB_no (fun h => by omega)).symm), rfl⟩
theorem plainC_iff (c : UInt8) : plainC c = true ↔ 32 ≤ (c.toNat : Int) ∧ (c.toNat : Int) ≤ 126 := by unfold plainC; simp; omega
set_option maxHeartbeats 400000 in
theorem text1_any (c : UInt8) (w : World) : Calls Tryz.prog 205 #[.int .u8 (c.toNat : Int)] w fun e w' => e = .returned (.bool (!plainC c)) ∧ w = w' := by
  have HP := Lib.hid (plainC_iff c)
  generalize hq : plainC c = q at *
  generalize (c.toNat : Int) = z at *
  by_cases h1 : z < 32
  · have hq' : q = false := by cases q with | false => rfl | true => have := HP.out.1 rfl; omega
    subst hq'
    go_enter Tryz.func205, Tryz.ntmps205
    go_wp2
    go_ret
    exact ⟨rfl, rfl⟩
  by_cases h2 : 126 < z
  · have hq' : q = false := by cases q with | false => rfl | true => have := HP.out.1 rfl; omega
    subst hq'
    go_enter Tryz.func205, Tryz.ntmps205
    go_wp2
    go_ret
    exact ⟨rfl, rfl⟩
  · have hq' : q = true := HP.out.2 ⟨by omega, by omega⟩
    subst hq'
    go_enter Tryz.func205, Tryz.ntmps205
    go_wp2
    go_ret
    exact ⟨rfl, rfl⟩
def RowB (w : World) (g : Nat) (l : List UInt8) : Prop := ∀ k c, l[k]? = some c → w.cell? ⟨g, k, none⟩ = some (.int .u8 (c.toNat : Int))
theorem any_false_of {α : Type} (p : α → Bool) (xs : List α) (h : ∀ q y, q < xs.length → xs[q]? = some y → p y = false) : xs.any p = false := by
  rw [List.any_eq_false]
  intro x hx
  obtain ⟨q, hq, rfl⟩ := List.mem_iff_getElem.1 hx
  rw [h q _ hq (List.getElem?_eq_getElem hq)]; simp
set_option maxHeartbeats 400000 in
theorem indexTextB (g c : Nat) (l : List UInt8) (w : World) (hl : l.length ≤ 1000000) (h : RowB w g l) :
    Calls Tryz.prog 91 #[.slice (some ⟨g, 0, none⟩) l.length c, .func (.func 205) #[] #[]] w fun e w' => ∃ z : Int, e = .returned (.int .i64 z) ∧ decide (0 ≤ z) = (l.any fun x => !plainC x) ∧ w = w' := by
  have eg : ∀ args w, (callFunc 205 args).run Tryz.prog w = .ok (.enter 205 args) w := enters_of Tryz.func205 (by kernel_rfl) rfl
  have HH := Lib.hid h
  clear h
  go_enter Tryz.func91, Tryz.ntmps91
  go_wp2_with fail
  go_loopw [8] (fun i wr => ∃ j : Nat, j ≤ l.length ∧ i = .int .i64 j ∧ (∀ q t, q < j → l[q]? = some t → (!plainC t) = false) ∧ wr = w) (fun i _ => l.length - (intOf i).toNat)
  case atStart => exact ⟨0, Nat.zero_le _, rfl, fun q _ h => absurd h (by omega), rfl⟩
  case round =>
    obtain ⟨j, hj, rfl, hp, rfl⟩ := hrel
    have HP := Lib.hid hp
    clear hp
    by_cases hlt : j < l.length
    · have HX : Hid (l[j]? = some l[j]) := List.getElem?_eq_getElem hlt
      have c0 := HH.out j _ HX.out
      have HC := Lib.hid (fun W => text1_any l[j] W)
      generalize l[j] = x at *
      generalize hq : plainC x = q at *
      have HQ := Lib.hid hq
      clear hq
      cases q
      · go_wp2_with (go_at_fn 205; refine (HC.out _).mono ?_; rintro e w' ⟨rfl, rfl⟩)
        go_ret
        refine ⟨_, rfl, ?_, rfl⟩
        have : (l.any fun x => !plainC x) = true := List.any_eq_true.2 ⟨x, List.mem_of_getElem? HX.out, by rw [HQ.out]; rfl⟩
        rw [this]
        simp
      · go_wp2_with (go_at_fn 205; refine (HC.out _).mono ?_; rintro e w' ⟨rfl, rfl⟩)
        go_roundw
        case rel =>
          refine ⟨j + 1, by omega, by go_num, fun q y hq hy => ?_, trivial⟩
          by_cases e : q = j
          · subst e; rw [HX.out] at hy; injection hy with hy; subst hy; rw [HQ.out]; rfl
          · exact HP.out q y (by omega) hy
        case measure => simp [intOf]; omega
    · go_wp2_with fail
      go_ret
      refine ⟨_, rfl, ?_, rfl⟩
      rw [any_false_of _ l (fun q y hq hy => HP.out q y (by omega) hy)]
      simp
theorem containsTextB (g c : Nat) (l : List UInt8) (w : World) (hl : l.length ≤ 1000000) (h : RowB w g l) :
    Calls Tryz.prog 41 #[.slice (some ⟨g, 0, none⟩) l.length c, .func (.func 205) #[] #[]] w fun e w' => e = .returned (.bool (l.any fun x => !plainC x)) ∧ w = w' := by
  have HC := Lib.hid (indexTextB g c l w hl h)
  clear h
  go_enter Tryz.func41, Tryz.ntmps41
  go_wp2_with (go_at_call 91; refine HC.out.mono ?_; rintro e w' ⟨z, rfl, hz, rfl⟩)
  go_ret
  exact ⟨rfl, rfl⟩
end Go.Proofs.YtoalecalahkblaaGreatDoor

set_option linter.all false
namespace Go.Proofs.YtoalecalahkblaaGreatDoor
open Go.RowKit
structure FitFl (f : Fld) : Prop where
  nm : f.nm.size ≤ maxLen
  v : FitV f.v
structure FitEv (e : Ev) : Prop where
  cas : e.cas.size ≤ maxLen
  act : e.act.size ≤ maxLen
  res : e.res.size ≤ maxLen
  life : Fit e.life
  time : Fit e.time
def RFld : ElemR Fld := fun _ _ f cs => cs = [.string f.nm, .int .i64 f.v.kind, .int .i64 f.v.n, .string f.v.s] ∧ FitFl f
theorem RFld.kept : ElemR.Kept RFld := fun _ _ _ _ _ _ _ _ h => h
def SlFl := Sl 4 RFld
def REv : ElemR Ev := fun D w e cs => ∃ dv, cs = [.string e.cas, .string e.act, .string e.res, .int .i64 e.life, .int .i64 e.time, dv] ∧ FitEv e ∧ SlFl D w dv e.data
theorem REv.kept : ElemR.Kept REv := by
  rintro D D' w w' x cs hd hs ⟨dv, rfl, h1, hi⟩
  exact ⟨dv, rfl, h1, Sl.keep hi RFld.kept hd hs⟩
def SlEv := Sl 6 REv
def fldV (f : Fld) : Value := .agg #[.string f.nm, .int .i64 f.v.kind, .int .i64 f.v.n, .string f.v.s]
def evV (e : Ev) (dv : Value) : Value := .agg #[.string e.cas, .string e.act, .string e.res, .int .i64 e.life, .int .i64 e.time, dv]
def IsEv (D : Nat → Prop) (w : World) (u : Value) (e : Ev) : Prop := ∃ dv, u = evV e dv ∧ FitEv e ∧ SlFl D w dv e.data
def IsLog (D : Nat → Prop) (w : World) (u : Value) (l : List Ev) : Prop := ∃ ev, u = .agg #[ev] ∧ SlEv D w ev l
section
variable {D : Nat → Prop} {w w' : World} {u : Value}
theorem SlFl.now {zs : List Fld} (h : SlFl (Lt w.heap.size) w u zs) (hb : Below w.heap.size w w') : SlFl (Lt w'.heap.size) w' u zs := Sl.below h RFld.kept hb hb.size
theorem SlEv.now {zs : List Ev} (h : SlEv (Lt w.heap.size) w u zs) (hb : Below w.heap.size w w') : SlEv (Lt w'.heap.size) w' u zs := Sl.below h REv.kept hb hb.size
theorem SlFl.below {zs : List Fld} {B B' : Nat} (h : SlFl (Lt B) w u zs) (hb : Below B w w') (hB : B ≤ B') : SlFl (Lt B') w' u zs := Sl.below h RFld.kept hb hB
theorem SlEv.below {zs : List Ev} {B B' : Nat} (h : SlEv (Lt B) w u zs) (hb : Below B w w') (hB : B ≤ B') : SlEv (Lt B') w' u zs := Sl.below h REv.kept hb hB
theorem IsEv.now {e : Ev} (h : IsEv (Lt w.heap.size) w u e) (hb : Below w.heap.size w w') : IsEv (Lt w'.heap.size) w' u e := by
  obtain ⟨dv, h1, h2, h3⟩ := h; exact ⟨dv, h1, h2, h3.now hb⟩
theorem IsEv.below {e : Ev} {B B' : Nat} (h : IsEv (Lt B) w u e) (hb : Below B w w') (hB : B ≤ B') : IsEv (Lt B') w' u e := by
  obtain ⟨dv, h1, h2, h3⟩ := h; exact ⟨dv, h1, h2, h3.below hb hB⟩
theorem IsLog.now {l : List Ev} (h : IsLog (Lt w.heap.size) w u l) (hb : Below w.heap.size w w') : IsLog (Lt w'.heap.size) w' u l := by
  obtain ⟨ev, h1, h2⟩ := h; exact ⟨ev, h1, h2.now hb⟩
theorem SlFl.open_ {zs : List Fld} (h : SlFl D w u zs) : ∃ A c, u = .slice A zs.length c ∧ zs.length ≤ c ∧ c ≤ 9223372036854775807 ∧ SlFl D w (.slice A zs.length c) zs := Sl.open_ h
theorem SlEv.open_ {zs : List Ev} (h : SlEv D w u zs) : ∃ A c, u = .slice A zs.length c ∧ zs.length ≤ c ∧ c ≤ 9223372036854775807 ∧ SlEv D w (.slice A zs.length c) zs := Sl.open_ h
theorem Sl.at4 {α : Type} {R : ElemR α} {xs : List α} {A : Option Addr} {n c k : Nat} (h : Sl 4 R D w (.slice A n c) xs) (hk : k < n) :
    ∃ b o x u0 u1 u2 u3, A = some ⟨b, o, none⟩ ∧ D b ∧ xs[k]? = some x ∧ R D w x [u0, u1, u2, u3] ∧ w.cell? ⟨b, o + k * 4, none⟩ = some u0 ∧ w.cell? ⟨b, o + k * 4 + 1, none⟩ = some u1 ∧ w.cell? ⟨b, o + k * 4 + 2, none⟩ = some u2 ∧ w.cell? ⟨b, o + k * 4 + 3, none⟩ = some u3 := by
  obtain ⟨A', c', hv, h1, h2, h3⟩ := h
  injection hv with hA hn hc
  subst hA hn hc
  obtain ⟨b, o, cs, hA, hD, hl, hr, hcell⟩ := h3 k xs[k] (List.getElem?_eq_getElem hk)
  match cs, hl with
  | [u0, u1, u2, u3], _ => exact ⟨b, o, xs[k], u0, u1, u2, u3, hA, hD, List.getElem?_eq_getElem hk, hr, hcell 0 u0 rfl, hcell 1 u1 rfl, hcell 2 u2 rfl, hcell 3 u3 rfl⟩
theorem Sl.at6 {α : Type} {R : ElemR α} {xs : List α} {A : Option Addr} {n c k : Nat} (h : Sl 6 R D w (.slice A n c) xs) (hk : k < n) :
    ∃ b o x u0 u1 u2 u3 u4 u5, A = some ⟨b, o, none⟩ ∧ D b ∧ xs[k]? = some x ∧ R D w x [u0, u1, u2, u3, u4, u5] ∧ w.cell? ⟨b, o + k * 6, none⟩ = some u0 ∧ w.cell? ⟨b, o + k * 6 + 1, none⟩ = some u1 ∧ w.cell? ⟨b, o + k * 6 + 2, none⟩ = some u2 ∧ w.cell? ⟨b, o + k * 6 + 3, none⟩ = some u3 ∧ w.cell? ⟨b, o + k * 6 + 4, none⟩ = some u4 ∧ w.cell? ⟨b, o + k * 6 + 5, none⟩ = some u5 := by
  obtain ⟨A', c', hv, h1, h2, h3⟩ := h
  injection hv with hA hn hc
  subst hA hn hc
  obtain ⟨b, o, cs, hA, hD, hl, hr, hcell⟩ := h3 k xs[k] (List.getElem?_eq_getElem hk)
  match cs, hl with
  | [u0, u1, u2, u3, u4, u5], _ => exact ⟨b, o, xs[k], u0, u1, u2, u3, u4, u5, hA, hD, List.getElem?_eq_getElem hk, hr, hcell 0 u0 rfl, hcell 1 u1 rfl, hcell 2 u2 rfl, hcell 3 u3 rfl, hcell 4 u4 rfl, hcell 5 u5 rfl⟩
theorem SlFl.at_ {zs : List Fld} {A : Option Addr} {n c k : Nat} (h : SlFl D w (.slice A n c) zs) (hk : k < n) :
    ∃ b o f, A = some ⟨b, o, none⟩ ∧ D b ∧ zs[k]? = some f ∧ FitFl f ∧ w.cell? ⟨b, o + k * 4, none⟩ = some (.string f.nm) ∧ w.cell? ⟨b, o + k * 4 + 1, none⟩ = some (.int .i64 f.v.kind) ∧ w.cell? ⟨b, o + k * 4 + 2, none⟩ = some (.int .i64 f.v.n) ∧ w.cell? ⟨b, o + k * 4 + 3, none⟩ = some (.string f.v.s) := by
  obtain ⟨b, o, x, u0, u1, u2, u3, hA, hD, hx, ⟨hu, hf⟩, h0, h1, h2, h3⟩ := Sl.at4 h hk
  injection hu with e0 hu; injection hu with e1 hu; injection hu with e2 hu; injection hu with e3 hu
  subst e0 e1 e2 e3
  exact ⟨b, o, x, hA, hD, hx, hf, h0, h1, h2, h3⟩
theorem SlEv.at_ {zs : List Ev} {A : Option Addr} {n c k : Nat} (h : SlEv D w (.slice A n c) zs) (hk : k < n) :
    ∃ b o e dv, A = some ⟨b, o, none⟩ ∧ D b ∧ zs[k]? = some e ∧ FitEv e ∧ SlFl D w dv e.data ∧ w.cell? ⟨b, o + k * 6, none⟩ = some (.string e.cas) ∧ w.cell? ⟨b, o + k * 6 + 1, none⟩ = some (.string e.act) ∧ w.cell? ⟨b, o + k * 6 + 2, none⟩ = some (.string e.res) ∧ w.cell? ⟨b, o + k * 6 + 3, none⟩ = some (.int .i64 e.life) ∧ w.cell? ⟨b, o + k * 6 + 4, none⟩ = some (.int .i64 e.time) ∧ w.cell? ⟨b, o + k * 6 + 5, none⟩ = some dv := by
  obtain ⟨b, o, x, u0, u1, u2, u3, u4, u5, hA, hD, hx, ⟨dv, hu, hf, hd⟩, h0, h1, h2, h3, h4, h5⟩ := Sl.at6 h hk
  injection hu with e0 hu; injection hu with e1 hu; injection hu with e2 hu; injection hu with e3 hu; injection hu with e4 hu; injection hu with e5 hu
  subst e0 e1 e2 e3 e4 e5
  exact ⟨b, o, x, u5, hA, hD, hx, hf, hd, h0, h1, h2, h3, h4, h5⟩
end
theorem Sl.sub {α : Type} {R : ElemR α} {size : Nat} {D : Nat → Prop} {w : World} {b o n c : Nat} {xs : List α} (h : Sl size R D w (.slice (some ⟨b, o, none⟩) n c) xs) (i m c' : Nat) (hi : i + m ≤ n) (hm : m ≤ c') (hc : c' ≤ maxLen) :
    Sl size R D w (.slice (some ⟨b, o + i * size, none⟩) m c') ((xs.drop i).take m) := by
  obtain ⟨A', c0, hv, h1, h2, h3⟩ := h
  injection hv with hA hn hcc
  subst hn hcc
  have hl : ((xs.drop i).take m).length = m := by rw [List.length_take, List.length_drop]; omega
  refine ⟨some ⟨b, o + i * size, none⟩, c', by rw [hl], by rw [hl]; exact hm, hc, fun k x hx => ?_⟩
  have hk : k < m := by
    rcases Nat.lt_or_ge k m with h | h
    · exact h
    · rw [List.getElem?_eq_none (by rw [hl]; exact h)] at hx; cases hx
  rw [List.getElem?_take, if_pos hk, List.getElem?_drop] at hx
  obtain ⟨b', o', cs, hA', hD, hcl, hR, hcell⟩ := h3 (i + k) x hx
  rw [← hA] at hA'
  injection hA' with hA'
  injection hA' with e1 e2 _
  subst e1 e2
  refine ⟨b, o + i * size, cs, rfl, hD, hcl, hR, fun j u hu => ?_⟩
  have := hcell j u hu
  rw [show o + i * size + k * size + j = o + (i + k) * size + j by rw [Nat.add_mul]; omega]
  exact this
end Go.Proofs.YtoalecalahkblaaGreatDoor

set_option linter.all false
namespace Go.Proofs.YtoalecalahkblaaGreatDoor
open Go.RowKit
def Off (X : Nat → Prop) (w : World) (v : Value) (b : Nat) : Prop := b < w.heap.size ∧ v.ownBlock ≠ some b ∧ ¬ X b
def OwnR {α : Type} (size : Nat) (R : ElemR α) (X : Nat → Prop) (w : World) (base t : Nat) (v : Value) (xs : List α) : Prop :=
  ∃ cs, w.ownsRow base t size v xs.length cs ∧ ∀ (i : Nat) (x : α), xs[i]? = some x → ∃ es : List Value, es.length = size ∧ (∀ j u, es[j]? = some u → cs[i * size + j]? = some u) ∧ R (Off X w v) w x es
section
variable {α : Type} {size : Nat} {R : ElemR α} {X : Nat → Prop} {w w' : World} {base t : Nat} {v v' : Value} {xs : List α}
theorem OwnR.nil : OwnR size R X w base t (.slice none 0 0) ([] : List α) := ⟨[], World.ownsRow_nil _ _ _ _, fun i x hx => by simp at hx⟩
theorem OwnR.lt (h : OwnR size R X w base t v xs) : ∀ g, v.ownBlock = some g → base ≤ g ∧ g < w.heap.size := by
  obtain ⟨cs, h, _⟩ := h
  exact h.lt
theorem OwnR.sl (h : OwnR size R X w base t v xs) (hR : ElemR.Kept R) : Sl size R (Lt w.heap.size) w v xs := by
  obtain ⟨cs, h, he⟩ := h
  refine Sl.of_own h rfl (own_lt h) fun i x hx => ?_
  obtain ⟨es, h1, h2, h3⟩ := he i x hx
  exact ⟨es, h1, h2, hR _ _ _ _ _ _ (fun b hb => hb.1) (Same.refl _ _) h3⟩
theorem OwnR.open_ (h : OwnR size R X w base t v xs) : ∃ A c, v = .slice A xs.length c := by
  obtain ⟨cs, h, _⟩ := h
  rcases h.2 with ⟨rfl, h0⟩ | ⟨g, cap, cur, rfl, _⟩
  · exact ⟨none, 0, by rw [h0]⟩
  · exact ⟨_, _, rfl⟩
theorem OwnR.grown {row : Option Nat} (h : OwnR size R X w base t v xs) (hR : ElemR.Kept R) (hb : w.grownBy w' row) (hr : ∀ g, row = some g → X g ∧ v.ownBlock ≠ some g) : OwnR size R X w' base t v xs := by
  obtain ⟨cs, h, he⟩ := h
  refine ⟨cs, h.kept hb ?_, fun i x hx => ?_⟩
  · cases e : v.ownBlock with
    | none => exact .inl rfl
    | some g => exact .inr (fun h' => (hr g h'.symm).2 e)
  · obtain ⟨es, h1, h2, h3⟩ := he i x hx
    refine ⟨es, h1, h2, hR _ _ _ _ _ _ (fun b hb' => ⟨Nat.lt_of_lt_of_le hb'.1 hb.size, hb'.2⟩) (fun b hb' => hb.block b hb'.1 ?_) h3⟩
    exact fun e => hb'.2.2 (hr b e.symm).1
theorem OwnR.now (h : OwnR size R X w base t v xs) (hR : ElemR.Kept R) (hb : Below w.heap.size w w') : OwnR size R X w' base t v xs :=
  h.grown hR (grown_of_below hb none) (fun _ e => by cases e)
theorem OwnR.drewN (h : OwnR size R X w base t v xs) (hR : ElemR.Kept R) (q : Nat) : OwnR size R X (w.drewN q) base t v xs := h.now hR (bdrawn (Below.refl _ _) q)
theorem OwnR.far (h : OwnR size R X w base t v xs) (hR : ElemR.Kept R) {p : Addr} (hX : X p.block) (hv : v.ownBlock ≠ some p.block) (u : Value) : OwnR size R X (w.setCell p u) base t v xs :=
  h.grown hR (row := some p.block) ⟨rfl, rfl, rfl, by simp, fun i _ hne => Below.heap_setCell w p u i (fun e => hne (by rw [e]))⟩ (fun g e => by injection e with e; subst e; exact ⟨hX, hv⟩)
theorem OwnR.pushed {x : α} {es cs : List Value} (h : w.ownsRow base t size v xs.length cs) (he : ∀ (i : Nat) (x : α), xs[i]? = some x → ∃ es : List Value, es.length = size ∧ (∀ j u, es[j]? = some u → cs[i * size + j]? = some u) ∧ R (Off X w v) w x es)
    (hR : ElemR.Kept R) (hl : es.length = size) (hx : R (Off X w v) w x es)
    (ho : w'.ownsRow base t size v' (xs.length + 1) (cs ++ es)) (hg : w.grownBy w' v.ownBlock) (hat : v'.ownBlock = v.ownBlock ∨ v'.ownBlock = some (w.heap.size + 1)) : OwnR size R X w' base t v' (xs ++ [x]) := by
  have keep : ∀ y cs, R (Off X w v) w y cs → R (Off X w' v') w' y cs := fun y cs hy =>
    hR _ _ _ _ _ _ (fun b hb => ⟨Nat.lt_of_lt_of_le hb.1 hg.size, (by rcases hat with e | e
                                                                      · rw [e]; exact hb.2.1
                                                                      · rw [e]; intro e'; injection e' with e'; have := hb.1; omega), hb.2.2⟩)
      (fun b hb => hg.block b hb.1 (fun e => hb.2.1 e.symm)) hy
  refine ⟨cs ++ es, by simpa using ho, fun i y hy => ?_⟩
  rcases Nat.lt_or_ge i xs.length with hi | hi
  · rw [List.getElem?_append_left hi] at hy
    obtain ⟨es', h1, h2, h3⟩ := he i y hy
    refine ⟨es', h1, fun j u hu => ?_, keep _ _ h3⟩
    have := h2 j u hu
    rw [List.getElem?_append_left]
    · exact this
    · rcases Nat.lt_or_ge (i * size + j) cs.length with h' | h'
      · exact h'
      · rw [List.getElem?_eq_none h'] at this; cases this
  · rw [List.getElem?_append_right hi] at hy
    have hi0 : i - xs.length = 0 := by
      rcases Nat.eq_zero_or_pos (i - xs.length) with h' | h'
      · exact h'
      · rw [List.getElem?_eq_none (by simpa using Nat.succ_le_of_lt h')] at hy; cases hy
    rw [hi0] at hy
    injection hy with hy
    subst hy
    obtain rfl : i = xs.length := by omega
    refine ⟨es, hl, fun j u hu => ?_, keep _ _ hx⟩
    have hc : cs.length = xs.length * size := h.1
    rw [List.getElem?_append_right (by omega), hc, Nat.add_sub_cancel_left]
    exact hu
end
section
variable {P : Program} {t e size base : Nat} {α : Type} {R : ElemR α} {X : Nat → Prop}
theorem wp_pushR {o : Oper} {a : Act} {K : Act → World → Prop} {Q : Exit → Act → World → Prop} (hI : AppInfo P t e size) (hR : ElemR.Kept R) (s x : Operand)
    (ho : o.op = .call { callee := .builtin .append, args := #[s, x], argTypes := #[t, t] }) (w0 : World) (es : List Value) (hes : es.length = size) (h1 : ∀ u ∈ es, u.oneCell' = true)
    (v : Value) (xs : List α) (y : α) (hs : a.eval s = v) (hown : OwnR size R X w0 base e v xs) (hy : R (Off X w0 v) w0 y es) (hx : a.eval x = .slice (some ⟨w0.heap.size, 0, none⟩) 1 1) (hn : xs.length < 10000000) (hbase : base ≤ w0.heap.size)
    (h : ∀ v' w', OwnR size R X w' base e v' (xs ++ [y]) → w0.grownBy w' v.ownBlock → (v'.ownBlock = v.ownBlock ∨ v'.ownBlock = some (w0.heap.size + 1)) → K (a.put o.dst v') w') : o.wp P a (w0.alloc (.cells es.toArray e)) K Q := by
  obtain ⟨cs, h2, h3⟩ := hown
  exact wp_push hI s x ho w0 es hes h1 v xs.length cs hs h2 hx hn hbase fun v' w' a1 a2 a3 => h v' w' (OwnR.pushed h2 h3 hR hes hy a1 a2 a3) a2 a3
theorem wpList_pushR {ops : Array Oper} {rest : List Oper} {o : Oper} {a : Act} {Q : Exit → Act → World → Prop} (hI : AppInfo P t e size) (hR : ElemR.Kept R) (hgd : o.guard = none) (s x : Operand)
    (ho : o.op = .call { callee := .builtin .append, args := #[s, x], argTypes := #[t, t] }) (w0 : World) (es : List Value) (hes : es.length = size) (h1 : ∀ u ∈ es, u.oneCell' = true)
    (v : Value) (xs : List α) (y : α) (hs : a.eval s = v) (hown : OwnR size R X w0 base e v xs) (hy : R (Off X w0 v) w0 y es) (hx : a.eval x = .slice (some ⟨w0.heap.size, 0, none⟩) 1 1) (hn : xs.length < 10000000) (hbase : base ≤ w0.heap.size)
    (h : ∀ v' w', OwnR size R X w' base e v' (xs ++ [y]) → w0.grownBy w' v.ownBlock → (v'.ownBlock = v.ownBlock ∨ v'.ownBlock = some (w0.heap.size + 1)) → wpList P ops Q rest (a.put o.dst v') w') : wpList P ops Q (o :: rest) a (w0.alloc (.cells es.toArray e)) :=
  wpList_plain hgd fun _ hK => wp_pushR hI hR s x ho w0 es hes h1 v xs y hs hown hy hx hn hbase fun v' w' h2 h3 h4 => hK _ _ (h v' w' h2 h3 h4)
end
end Go.Proofs.YtoalecalahkblaaGreatDoor

set_option linter.all false
namespace Go.Proofs.YtoalecalahkblaaGreatDoor
open Go.RowKit
abbrev Bt := List UInt8
def isSep (c : UInt8) : Bool := c == 44 || c == 59 || c == 124 || c == 9
def printB (c : UInt8) : Bool := decide (32 ≤ c) && decide (c ≤ 126)
def quoteB : Bt → Bt
  | [] => []
  | c :: b => if c = 34 then 34 :: 34 :: quoteB b else c :: quoteB b
def special (sep : UInt8) (b : Bt) : Bool := b.any fun c => c == 34 || c == sep
def cellT (sep : UInt8) (b : Bt) : Bt := if special sep b then 34 :: (quoteB b ++ [34]) else b
def cellsT (sep : UInt8) : List Bt → Bt
  | [] => []
  | [b] => cellT sep b
  | b :: r => cellT sep b ++ sep :: cellsT sep r
def rowT (sep : UInt8) (r : List Bt) : Bt := cellsT sep r ++ [10]
def tableT (sep : UInt8) : List (List Bt) → Bt
  | [] => []
  | r :: rs => rowT sep r ++ tableT sep rs
def tableB (rows : List (List Bt)) : Bool := rows.all fun r => !r.isEmpty && r.all fun b => b.all printB
inductive CellR
  | ok (b rest : Bt)
  | bad (rest : Bt) (e : Int)
def endsB (sep : UInt8) : Bt → Bool
  | [] => true
  | c :: _ => c == 10 || c == sep
def quotedR (sep : UInt8) (acc : Bt) : Bt → CellR
  | [] => .bad [] 4
  | c :: r =>
    if printB c = false then .bad (c :: r) 3
    else if c = 34 then
      match r with
      | [] => .ok acc []
      | d :: r' => if d = 34 then quotedR sep (acc ++ [34]) r' else if endsB sep (d :: r') then .ok acc (d :: r') else .bad (d :: r') 3
    else quotedR sep (acc ++ [c]) r
def plainR (sep : UInt8) (acc : Bt) : Bt → CellR
  | [] => .ok acc []
  | c :: r => if c = 10 ∨ c = sep then .ok acc (c :: r) else if printB c = false ∨ c = 34 then .bad (c :: r) 3 else plainR sep (acc ++ [c]) r
def cellR (sep : UInt8) (t : Bt) : CellR :=
  match t with
  | 34 :: r => quotedR sep [] r
  | t => plainR sep [] t
theorem isSep_print {sep : UInt8} (h : isSep sep = true) : sep ≠ 34 ∧ sep ≠ 10 := by
  unfold isSep at h
  simp only [Bool.or_eq_true, beq_iff_eq] at h
  rcases h with ((rfl | rfl) | rfl) | rfl <;> decide
theorem print_10 {c : UInt8} (h : printB c = true) : c ≠ 10 := by
  rintro rfl; revert h; decide
theorem print_34 : printB 34 = true := by decide
theorem quotedR_quoteB {sep : UInt8} (hs : isSep sep = true) : ∀ (b acc rest : Bt), (∀ c ∈ b, printB c = true) → endsB sep rest = true → quotedR sep acc (quoteB b ++ 34 :: rest) = .ok (acc ++ b) rest
  | [], acc, rest, _, he => by
    show quotedR sep acc (34 :: rest) = _
    unfold quotedR
    rw [if_neg (by rw [print_34]; decide), if_pos rfl]
    cases rest with
    | nil => simp
    | cons d r =>
      have hd : d ≠ 34 := by
        rintro rfl
        unfold endsB at he
        have := (isSep_print hs).1
        simp only [Bool.or_eq_true, beq_iff_eq] at he
        rcases he with he | he
        · exact absurd he (by decide)
        · exact this he.symm
      simp only [if_neg hd, if_pos he, List.append_nil]
  | c :: b, acc, rest, hp, he => by
    have ih := fun acc => quotedR_quoteB hs b acc rest (fun x hx => hp x (List.mem_cons_of_mem _ hx)) he
    by_cases h : c = 34
    · subst h
      have e : quoteB (34 :: b) ++ 34 :: rest = 34 :: 34 :: (quoteB b ++ 34 :: rest) := by
        show (if (34 : UInt8) = 34 then _ else _) ++ _ = _
        rw [if_pos rfl]; rfl
      rw [e]
      unfold quotedR
      rw [if_neg (by rw [print_34]; decide), if_pos rfl]
      simp only [if_pos]
      rw [ih, List.append_assoc]; rfl
    · have e : quoteB (c :: b) ++ 34 :: rest = c :: (quoteB b ++ 34 :: rest) := by
        show (if c = 34 then _ else _) ++ _ = _
        rw [if_neg h]; rfl
      rw [e]
      unfold quotedR
      rw [if_neg (by rw [hp c List.mem_cons_self]; decide), if_neg h, ih, List.append_assoc]; rfl
theorem plainR_cell {sep : UInt8} : ∀ (b acc rest : Bt), (∀ c ∈ b, printB c = true) → special sep b = false → endsB sep rest = true → plainR sep acc (b ++ rest) = .ok (acc ++ b) rest
  | [], acc, rest, _, _, he => by
    show plainR sep acc rest = _
    cases rest with
    | nil => simp [plainR]
    | cons d r =>
      unfold plainR
      unfold endsB at he
      simp only [Bool.or_eq_true, beq_iff_eq] at he
      rw [if_pos he, List.append_nil]
  | c :: b, acc, rest, hp, hs, he => by
    unfold special at hs
    rw [List.any_cons, Bool.or_eq_false_iff] at hs
    obtain ⟨h1, h2⟩ := hs
    simp only [Bool.or_eq_false_iff, beq_eq_false_iff_ne] at h1
    have hc := hp c List.mem_cons_self
    show plainR sep acc (c :: (b ++ rest)) = _
    unfold plainR
    rw [if_neg (by rintro (e | e); exact print_10 hc e; exact h1.2 e), if_neg (by rintro (e | e); (rw [hc] at e; cases e); exact h1.1 e)]
    rw [plainR_cell b (acc ++ [c]) rest (fun x hx => hp x (List.mem_cons_of_mem _ hx)) h2 he, List.append_assoc]; rfl
theorem cellR_cellT {sep : UInt8} (hs : isSep sep = true) (b rest : Bt) (hp : ∀ c ∈ b, printB c = true) (he : endsB sep rest = true) : cellR sep (cellT sep b ++ rest) = .ok b rest := by
  unfold cellT
  by_cases h : special sep b = true
  · rw [if_pos h]
    show quotedR sep [] ((quoteB b ++ [34]) ++ rest) = _
    rw [List.append_assoc]
    exact quotedR_quoteB hs b [] rest hp he
  · have h' : special sep b = false := by simpa using h
    rw [if_neg h]
    have key := plainR_cell (sep := sep) b [] rest hp h' he
    have hne : ∀ r, b ++ rest ≠ 34 :: r := fun r e => by
      cases b with
      | nil =>
        have e : rest = 34 :: r := e
        rw [e] at he
        unfold endsB at he
        simp only [Bool.or_eq_true, beq_iff_eq] at he
        rcases he with he | he
        · exact absurd he (by decide)
        · exact (isSep_print hs).1 he.symm
      | cons c b =>
        injection e with e _
        unfold special at h'
        rw [List.any_cons, Bool.or_eq_false_iff] at h'
        simp only [Bool.or_eq_false_iff, beq_eq_false_iff_ne] at h'
        exact h'.1.1 e
    unfold cellR
    split
    · rename_i r e; exact absurd e (hne r)
    · exact key
inductive TabR
  | ok (rows : List (List Bt))
  | bad (rest : Bt) (e : Int)
inductive RowR
  | ok (r : List Bt) (rest : Bt)
  | bad (rest : Bt) (e : Int)
def rowR (sep : UInt8) : Nat → List Bt → Bt → RowR
  | 0, acc, t => match cellR sep t with
    | .bad rest e => .bad rest e
    | .ok b [] => .ok (acc ++ [b]) []
    | .ok b (_ :: rest) => .ok (acc ++ [b]) rest
  | n + 1, acc, t => match cellR sep t with
    | .bad rest e => .bad rest e
    | .ok b [] => .ok (acc ++ [b]) []
    | .ok b (c :: rest) => if c = 10 then .ok (acc ++ [b]) rest else rowR sep n (acc ++ [b]) rest
def tabR (sep : UInt8) : Nat → List (List Bt) → Bt → TabR
  | _, acc, [] => .ok acc
  | 0, _, t => .bad t 5
  | n + 1, acc, t => if acc.length = 2001 then .bad t 5 else
    match rowR sep t.length [] t with
    | .bad rest e => .bad rest e
    | .ok r rest => tabR sep n (acc ++ [r]) rest
theorem cellsT_cons {sep : UInt8} (b c : Bt) (r : List Bt) : cellsT sep (b :: c :: r) = cellT sep b ++ sep :: cellsT sep (c :: r) := rfl
theorem rowR_rowT {sep : UInt8} (hs : isSep sep = true) : ∀ (r : List Bt) (acc : List Bt) (rest : Bt) (n : Nat), r ≠ [] → r.length ≤ n + 1 → (∀ b ∈ r, ∀ c ∈ b, printB c = true) → rowR sep n acc (cellsT sep r ++ 10 :: rest) = .ok (acc ++ r) rest
  | [], _, _, _, h, _, _ => absurd rfl h
  | [b], acc, rest, n, _, _, hp => by
    have h := cellR_cellT hs b (10 :: rest) (hp b List.mem_cons_self) (by simp [endsB])
    show rowR sep n acc (cellT sep b ++ 10 :: rest) = _
    cases n with
    | zero => unfold rowR; rw [h]
    | succ n => unfold rowR; rw [h]; simp
  | b :: c :: r, acc, rest, 0, _, hl, _ => absurd hl (by simp)
  | b :: c :: r, acc, rest, n + 1, _, hl, hp => by
    rw [cellsT_cons, List.append_assoc]
    have h := cellR_cellT hs b (sep :: (cellsT sep (c :: r) ++ 10 :: rest)) (hp b List.mem_cons_self) (by simp [endsB])
    have ih := rowR_rowT hs (c :: r) (acc ++ [b]) rest n (by simp) (by simpa using hl) (fun x hx => hp x (List.mem_cons_of_mem _ hx))
    unfold rowR
    show (match cellR sep (cellT sep b ++ sep :: (cellsT sep (c :: r) ++ 10 :: rest)) with | .bad rest e => _ | .ok b [] => _ | .ok b (c :: rest) => _) = _
    rw [h]
    simp only
    rw [if_neg (isSep_print hs).2, ih, List.append_assoc]; rfl
theorem cellsT_len {sep : UInt8} : ∀ r : List Bt, r.length ≤ (cellsT sep r).length + 1
  | [] => Nat.zero_le _
  | [b] => by simp
  | b :: c :: r => by
    have := cellsT_len (sep := sep) (c :: r)
    rw [cellsT_cons, List.length_append, List.length_cons (a := b), List.length_cons (a := sep)]
    omega
theorem tabR_tableT {sep : UInt8} (hs : isSep sep = true) : ∀ (rows acc : List (List Bt)) (n : Nat), rows.length ≤ n → acc.length + rows.length ≤ 2001 → tableB rows = true → tabR sep n acc (tableT sep rows) = .ok (acc ++ rows)
  | [], acc, n, _, _, _ => by
    show tabR sep n acc [] = _
    unfold tabR; rw [List.append_nil]
  | r :: rows, acc, 0, h, _, _ => absurd h (by simp)
  | r :: rows, acc, n + 1, h, hl, ht => by
    unfold tableB at ht
    rw [List.all_cons, Bool.and_eq_true, Bool.and_eq_true] at ht
    obtain ⟨⟨h1, h2⟩, h3⟩ := ht
    have hne : r ≠ [] := by rintro rfl; simp at h1
    have hp : ∀ b ∈ r, ∀ c ∈ b, printB c = true := fun b hb c hc => List.all_eq_true.1 (List.all_eq_true.1 h2 b hb) c hc
    have e : tableT sep (r :: rows) = cellsT sep r ++ 10 :: tableT sep rows := by
      show (cellsT sep r ++ [10]) ++ tableT sep rows = _
      rw [List.append_assoc]; rfl
    have hrow := rowR_rowT hs r [] (tableT sep rows) (cellsT sep r ++ 10 :: tableT sep rows).length hne (by
      have := cellsT_len (sep := sep) r
      rw [List.length_append, List.length_cons]; omega) hp
    have hcne : cellsT sep r ++ 10 :: tableT sep rows ≠ [] := by simp
    rw [List.length_cons] at hl
    rw [e]
    generalize ht : cellsT sep r ++ 10 :: tableT sep rows = t at hrow hcne
    cases t with
    | nil => exact absurd rfl hcne
    | cons c t =>
      unfold tabR
      rw [if_neg (by omega), hrow]
      simp only [List.nil_append]
      rw [tabR_tableT hs rows (acc ++ [r]) n (by simpa using h) (by rw [List.length_append, List.length_singleton]; omega) h3, List.append_assoc]; rfl
end Go.Proofs.YtoalecalahkblaaGreatDoor

set_option linter.all false
namespace Go.Proofs.YtoalecalahkblaaGreatDoor
open Go.RowKit
def writeE (sep : UInt8) (rows : List (List Bt)) : Bt × Int :=
  if isSep sep = false ∨ tableB rows = false then ([], 1)
  else if 2001 < rows.length then ([], 5)
  else if 16384 < (tableT sep rows).length then ([], 5)
  else (tableT sep rows, 0)
theorem tableT_append {sep : UInt8} : ∀ a b : List (List Bt), tableT sep (a ++ b) = tableT sep a ++ tableT sep b
  | [], _ => rfl
  | r :: a, b => by
    show rowT sep r ++ tableT sep (a ++ b) = (rowT sep r ++ tableT sep a) ++ tableT sep b
    rw [tableT_append a b, List.append_assoc]
theorem tableT_take {sep : UInt8} (rows : List (List Bt)) (i : Nat) : (tableT sep (rows.take i)).length ≤ (tableT sep rows).length := by
  have h := tableT_append (sep := sep) (rows.take i) (rows.drop i)
  rw [List.take_append_drop] at h
  rw [h, List.length_append]; omega
def tailT (sep : UInt8) (first : Bool) : List Bt → Bt
  | [] => []
  | b :: r => (if first then [] else [sep]) ++ cellT sep b ++ tailT sep false r
theorem tailT_false {sep : UInt8} : ∀ (b : Bt) (r : List Bt), tailT sep false (b :: r) = sep :: cellsT sep (b :: r)
  | b, [] => by simp [tailT, cellsT]
  | b, c :: r => by
    have ih := tailT_false (sep := sep) c r
    show [sep] ++ cellT sep b ++ tailT sep false (c :: r) = _
    rw [ih, cellsT_cons]; simp
theorem tailT_true {sep : UInt8} : ∀ r : List Bt, tailT sep true r = cellsT sep r
  | [] => rfl
  | [b] => by simp [tailT, cellsT]
  | b :: c :: r => by
    show [] ++ cellT sep b ++ tailT sep false (c :: r) = _
    rw [tailT_false, cellsT_cons]; simp
def refCellsW (sep : UInt8) : Bool → Bt → List Bt → Option Bt
  | _, s, [] => some s
  | first, s, b :: r =>
    let t := (if first then s else s ++ [sep]) ++ cellT sep b
    if 16384 < t.length then none else refCellsW sep false t r
def refRowsW (sep : UInt8) : Bt → List (List Bt) → Option Bt
  | s, [] => some s
  | s, r :: rows => match refCellsW sep true s r with
    | none => none
    | some t => refRowsW sep (t ++ [10]) rows
end Go.Proofs.YtoalecalahkblaaGreatDoor

set_option linter.all false
namespace Go.Proofs.YtoalecalahkblaaGreatDoor
open Go.RowKit
def advP (p : Int × Int) (c : UInt8) : Int × Int := if c = 10 then (p.1 + 1, 1) else (p.1, p.2 + 1)
def placeOf (t : Bt) : Int × Int := t.foldl advP (1, 1)
theorem placeOf_snoc (t : Bt) (c : UInt8) : placeOf (t ++ [c]) = advP (placeOf t) c := by
  unfold placeOf; rw [List.foldl_append]; rfl
theorem placeOf_bound : ∀ t : Bt, 1 ≤ (placeOf t).1 ∧ (placeOf t).1 ≤ t.length + 1 ∧ 1 ≤ (placeOf t).2 ∧ (placeOf t).2 ≤ t.length + 1 := by
  intro t
  have key : ∀ (n : Nat) (t : Bt), t.length = n → 1 ≤ (placeOf t).1 ∧ (placeOf t).1 ≤ t.length + 1 ∧ 1 ≤ (placeOf t).2 ∧ (placeOf t).2 ≤ t.length + 1 := by
    intro n
    induction n with
    | zero =>
      intro t h
      have : t = [] := List.length_eq_zero_iff.1 h
      subst this
      refine ⟨?_, ?_, ?_, ?_⟩ <;> simp [placeOf]
    | succ n ih =>
      intro t h
      have hne : t ≠ [] := by rintro rfl; simp at h
      have e : t = t.dropLast ++ [t.getLast hne] := (List.dropLast_concat_getLast hne).symm
      have hl : t.dropLast.length = n := by rw [List.length_dropLast, h]; rfl
      obtain ⟨i1, i2, i3, i4⟩ := ih _ hl
      have hp : placeOf t = advP (placeOf t.dropLast) (t.getLast hne) := by rw [← placeOf_snoc, ← e]
      rw [hp]
      unfold advP
      rw [hl] at i2 i4
      by_cases hc : t.getLast hne = 10
      · rw [if_pos hc]; refine ⟨?_, ?_, ?_, ?_⟩ <;> simp only <;> omega
      · rw [if_neg hc]; refine ⟨?_, ?_, ?_, ?_⟩ <;> simp only <;> omega
  exact key _ t rfl
def plAt (s : Bt) (i : Nat) : Int × Int := placeOf (s.take i)
theorem plAt_step {s : Bt} {i : Nat} (h : i < s.length) : plAt s (i + 1) = advP (plAt s i) s[i] := by
  unfold plAt
  rw [← placeOf_snoc, List.take_succ_eq_append_getElem h]
theorem plAt_bound (s : Bt) (i : Nat) : 1 ≤ (plAt s i).1 ∧ (plAt s i).1 ≤ s.length + 1 ∧ 1 ≤ (plAt s i).2 ∧ (plAt s i).2 ≤ s.length + 1 := by
  obtain ⟨a, b, c, d⟩ := placeOf_bound (s.take i)
  have : (s.take i).length ≤ s.length := by rw [List.length_take]; omega
  unfold plAt
  omega
def tabE (s : Bt) : TabR → List (List Bt) × (Int × Int) × Int
  | .ok rows => (rows, (0, 0), 0)
  | .bad rest e => ([], plAt s (s.length - rest.length), e)
def cellsE (sep : UInt8) (s : Bt) : List (List Bt) × (Int × Int) × Int :=
  if isSep sep = false then ([], (0, 0), 1)
  else if 16384 < s.length then ([], (0, 0), 5)
  else tabE s (tabR sep s.length [] s)
theorem rows_le {sep : UInt8} : ∀ rows : List (List Bt), rows.length ≤ (tableT sep rows).length
  | [] => Nat.zero_le _
  | r :: rows => by
    have := rows_le (sep := sep) rows
    show _ ≤ (rowT sep r ++ tableT sep rows).length
    rw [List.length_append]
    unfold rowT
    rw [List.length_append, List.length_singleton, List.length_cons]
    omega
theorem cells_of_write {sep : UInt8} {rows : List (List Bt)} {s : Bt} (h : writeE sep rows = (s, 0)) : cellsE sep s = (rows, (0, 0), 0) := by
  unfold writeE at h
  by_cases h1 : isSep sep = false ∨ tableB rows = false
  · rw [if_pos h1] at h; injection h with _ h; exact absurd h (by decide)
  rw [if_neg h1] at h
  by_cases h2 : 2001 < rows.length
  · rw [if_pos h2] at h; injection h with _ h; exact absurd h (by decide)
  rw [if_neg h2] at h
  by_cases h3 : 16384 < (tableT sep rows).length
  · rw [if_pos h3] at h; injection h with _ h; exact absurd h (by decide)
  rw [if_neg h3] at h
  injection h with h _
  subst h
  have hs : isSep sep = true := by
    cases e : isSep sep with
    | true => rfl
    | false => exact absurd (Or.inl e) h1
  have ht : tableB rows = true := by
    cases e : tableB rows with
    | true => rfl
    | false => exact absurd (Or.inr e) h1
  unfold cellsE
  rw [if_neg (by rw [hs]; decide), if_neg h3, tabR_tableT hs rows [] _ (rows_le rows) (by simpa using h2) ht]
  rfl
theorem write_err {sep : UInt8} {rows : List (List Bt)} (h : (writeE sep rows).2 ≠ 0) : (writeE sep rows).1 = [] := by
  unfold writeE at h ⊢
  by_cases h1 : isSep sep = false ∨ tableB rows = false
  · rw [if_pos h1]
  rw [if_neg h1] at h ⊢
  by_cases h2 : 2001 < rows.length
  · rw [if_pos h2]
  rw [if_neg h2] at h ⊢
  by_cases h3 : 16384 < (tableT sep rows).length
  · rw [if_pos h3]
  rw [if_neg h3] at h
  exact absurd rfl h
end Go.Proofs.YtoalecalahkblaaGreatDoor
