/- Logs as plain data, and the code of an archive: numbers, texts, values, runs, blocks, the check sum. No program in sight. -/
import Derived.Test.YtjglmjdfndcmmaaSortSpec
import Derived.Test.YtjglmjdfndcmmaaNames
import Derived.Test.YtjglmjdfndcmmaaValSpec
set_option linter.all false
namespace Go.Proofs.Ytjglmjdfndcmmaa
open Go.RowKit

structure Fld where
  nm : ByteArray
  v : Val
structure Ev where
  cas : ByteArray
  act : ByteArray
  res : ByteArray
  life : Int
  time : Int
  data : List Fld

/-- The code of a number. -/
def arNum (n : Nat) : List UInt8 := if n < 128 then [UInt8.ofNat n] else UInt8.ofNat (n % 128 + 128) :: arNum (n / 128)
termination_by n
theorem arNum_one {n : Nat} (h : n < 128) : arNum n = [UInt8.ofNat n] := by rw [arNum, if_pos h]
theorem arNum_more {n : Nat} (h : ¬ n < 128) : arNum n = UInt8.ofNat (n % 128 + 128) :: arNum (n / 128) := by rw [arNum, if_neg h]
theorem arNum_pos (n : Nat) : 1 ≤ (arNum n).length := by
  by_cases h : n < 128
  · rw [arNum_one h]; simp
  · rw [arNum_more h]; simp
theorem arNum_le : ∀ (k n : Nat), n < 128 ^ k → 0 < k → (arNum n).length ≤ k := by
  intro k
  induction k with
  | zero => intro n _ h; exact absurd h (Nat.lt_irrefl 0)
  | succ k ih =>
    intro n hn _
    by_cases h : n < 128
    · rw [arNum_one h]; simp
    · rw [arNum_more h, List.length_cons]
      rcases Nat.eq_zero_or_pos k with h0 | h0
      · subst h0; simp at hn; omega
      · have := ih (n / 128) (by rw [Nat.pow_succ] at hn; omega) h0
        omega
theorem arNum_len {n : Nat} (h : n < 9223372036854775808) : (arNum n).length ≤ 9 := arNum_le 9 n (by simpa using h) (by omega)
/-- The code of a text. -/
def arText (s : List UInt8) : List UInt8 := arNum s.length ++ s
def zigZ (n : Int) : Nat := if n < 0 then (-2 * n - 1).toNat else (2 * n).toNat
/-- The code of a value. -/
def arVal (v : Val) : List UInt8 := arNum v.kind.toNat ++ (if v.kind = 1 then arNum v.n.toNat else if v.kind = 2 then arNum (zigZ v.n) else arText v.s.data.toList)
def arFld (f : Fld) : List UInt8 := arText f.nm.data.toList ++ arVal f.v
def arData (e : Ev) : List UInt8 := arNum e.data.length ++ e.data.flatMap arFld

/-- How many of the first numbers are x. -/
def lead (x : Nat) : List Nat → Nat
  | [] => 0
  | y :: l => if y = x then lead x l + 1 else 0
theorem lead_le (x : Nat) : ∀ l, lead x l ≤ l.length
  | [] => Nat.le_refl _
  | y :: l => by
    unfold lead
    have := lead_le x l
    split
    · simp; omega
    · simp
def arRunsF : Nat → List Nat → List UInt8
  | 0, _ => []
  | _ + 1, [] => []
  | f + 1, x :: l => arNum x ++ arNum (lead x l + 1) ++ arRunsF f (l.drop (lead x l))
theorem arRunsF_enough : ∀ (f g : Nat) (l : List Nat), l.length ≤ f → l.length ≤ g → arRunsF f l = arRunsF g l := by
  intro f
  induction f with
  | zero =>
    intro g l h _
    have : l = [] := List.eq_nil_of_length_eq_zero (by omega)
    subst this
    cases g <;> rfl
  | succ f ih =>
    intro g l h1 h2
    cases l with
    | nil => cases g <;> rfl
    | cons x l =>
      cases g with
      | zero => simp at h2
      | succ g =>
        unfold arRunsF
        rw [ih g (l.drop (lead x l)) (by rw [List.length_drop]; simp at h1; omega) (by rw [List.length_drop]; simp at h2; omega)]
/-- The code of a column by its runs. -/
def arRuns (l : List Nat) : List UInt8 := arRunsF l.length l
theorem arRuns_nil : arRuns [] = [] := rfl
theorem arRuns_cons (x : Nat) (l : List Nat) : arRuns (x :: l) = arNum x ++ arNum (lead x l + 1) ++ arRuns (l.drop (lead x l)) := by
  show arRunsF (l.length + 1) (x :: l) = _
  unfold arRunsF
  rw [arRunsF_enough l.length (l.drop (lead x l)).length (l.drop (lead x l)) (by rw [List.length_drop]; omega) (Nat.le_refl _)]
  rfl

/-- The texts of a block, ascending. -/
def names3 (l : List Ev) : List Bs := l.map (fun e => e.cas.data.toList) ++ (l.map (fun e => e.act.data.toList) ++ l.map (fun e => e.res.data.toList))
def words (l : List Ev) : List Bs := setB (names3 l)
def arTimes : Int → List Ev → List UInt8
  | _, [] => []
  | t, e :: l => arNum (e.time - t).toNat ++ arTimes e.time l
def atW (ws : List Bs) (s : ByteArray) : Nat := ws.idxOf s.data.toList
/-- The code of a block. -/
def arBlock (l : List Ev) : List UInt8 :=
  arNum (words l).length ++ (words l).flatMap arText ++ arRuns (l.map fun e => atW (words l) e.cas) ++ arRuns (l.map fun e => atW (words l) e.act) ++ arRuns (l.map fun e => atW (words l) e.res) ++
    arRuns (l.map fun e => e.life.toNat) ++ arTimes 0 l ++ l.flatMap arData
/-- The events of a block; the blocks. -/
def part (l : List Ev) (n : Nat) : List Ev := (l.drop (100 * n)).take 100
def nParts (l : List Ev) : Nat := (l.length + 99) / 100
def arParts (l : List Ev) (n : Nat) : List UInt8 := (List.range n).flatMap fun k => arBlock (part l k)
def arBody (l : List Ev) : List UInt8 := arNum l.length ++ arParts l (nParts l)
theorem arParts_succ (l : List Ev) (n : Nat) : arParts l (n + 1) = arParts l n ++ arBlock (part l n) := by
  unfold arParts; rw [List.range_succ, List.flatMap_append]; simp

/-- The check sum. -/
def crcBit (r : Nat) : Nat := if r % 2 = 1 then r / 2 ^^^ 3988292384 else r / 2
def crcN : Nat → Nat → Nat
  | 0, r => r
  | k + 1, r => crcN k (crcBit r)
theorem crcN_succ (k r : Nat) : crcN (k + 1) r = crcBit (crcN k r) := by
  induction k generalizing r with
  | zero => rfl
  | succ k ih => exact ih (crcBit r)
def crcL (r : Nat) (l : List UInt8) : Nat := l.foldl (fun r c => crcN 8 (r ^^^ c.toNat)) r
theorem crcL_nil (r : Nat) : crcL r [] = r := rfl
theorem crcL_snoc (r : Nat) (l : List UInt8) (c : UInt8) : crcL r (l ++ [c]) = crcN 8 (crcL r l ^^^ c.toNat) := by unfold crcL; rw [List.foldl_append]; rfl
theorem crcL_append (r : Nat) (l m : List UInt8) : crcL r (l ++ m) = crcL (crcL r l) m := by unfold crcL; rw [List.foldl_append]
theorem crcBit_lt {r : Nat} (h : r < 4294967296) : crcBit r < 4294967296 := by
  unfold crcBit
  split
  · exact Nat.xor_lt_two_pow (n := 32) (by omega) (by omega)
  · omega
theorem crcN_lt (k : Nat) {r : Nat} (h : r < 4294967296) : crcN k r < 4294967296 := by
  induction k generalizing r with
  | zero => exact h
  | succ k ih => exact ih (crcBit_lt h)
theorem crcL_lt (l : List UInt8) {r : Nat} (h : r < 4294967296) : crcL r l < 4294967296 := by
  induction l generalizing r with
  | nil => exact h
  | cons c l ih =>
    show crcL (crcN 8 (r ^^^ c.toNat)) l < _
    have := UInt8.toNat_lt c
    exact ih (crcN_lt 8 (Nat.xor_lt_two_pow (n := 32) h (by omega)))
def crcOf (l : List UInt8) : Nat := crcL 4294967295 l
theorem crcOf_lt (l : List UInt8) : crcOf l < 4294967296 := crcL_lt l (by omega)
def sumOf (l : List UInt8) : Nat := 4294967295 ^^^ crcOf l
theorem sumOf_lt (l : List UInt8) : sumOf l < 4294967296 := Nat.xor_lt_two_pow (n := 32) (by omega) (crcOf_lt l)
def le4 (s : Nat) : List UInt8 := [UInt8.ofNat (s % 256), UInt8.ofNat (s / 256 % 256), UInt8.ofNat (s / 65536 % 256), UInt8.ofNat (s / 16777216 % 256)]
def arPack (l : List Ev) : List UInt8 := arBody l ++ le4 (sumOf (arBody l))

/-- What is valid. -/
def fldB (f : Fld) : Bool := isNameB f.nm && validV f.v
def fldAt (l : List Fld) (i : Nat) : Bool := match l[i]? with
  | none => true
  | some f => fldB f && (decide (i = 0) || match l[i - 1]? with | none => true | some g => decide (g.nm.data.toList < f.nm.data.toList))
def fldsB (l : List Fld) : Bool := (List.range l.length).all (fldAt l)
def evB (e : Ev) : Bool := isNameB e.cas && isNameB e.act && (noS e.res || isNameB e.res) && decide (1 ≤ e.life ∧ e.life ≤ 6) && decide (0 ≤ e.time ∧ e.time ≤ 1099511627776) && decide (e.data.length ≤ 8) && fldsB e.data
def evAt (l : List Ev) (i : Nat) : Bool := match l[i]? with
  | none => true
  | some f => evB f && (decide (i = 0) || match l[i - 1]? with | none => true | some g => decide (g.time ≤ f.time))
def logB (l : List Ev) : Bool := decide (l.length ≤ 2000) && (List.range l.length).all (evAt l)
theorem all_no {n k : Nat} {p : Nat → Bool} (hk : k < n) (h : p k = false) : (List.range n).all p = false := by
  rw [Bool.eq_false_iff]
  intro ha
  rw [List.all_eq_true] at ha
  have := ha k (List.mem_range.2 hk)
  rw [h] at this; cases this
theorem all_yes {n : Nat} {p : Nat → Bool} (h : ∀ k, k < n → p k = true) : (List.range n).all p = true := by
  rw [List.all_eq_true]
  exact fun k hk => h k (List.mem_range.1 hk)
theorem all_at {n k : Nat} {p : Nat → Bool} (h : (List.range n).all p = true) (hk : k < n) : p k = true := List.all_eq_true.1 h k (List.mem_range.2 hk)
end Go.Proofs.Ytjglmjdfndcmmaa
