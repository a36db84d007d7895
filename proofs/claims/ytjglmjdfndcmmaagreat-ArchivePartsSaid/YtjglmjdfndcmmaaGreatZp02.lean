/- Texts of this seat, merged. -/
import Derived.Outline
import Derived.Shelf.Abstract
import Derived.Laws.IdiomStrings
import Derived.Lib.Strings
import Derived.Laws.BitsAllLaws
import Derived.Deep.QuietTactic
import Derived.WalkSmall
import Derived.BigQuiet
import Derived.Test.YtjglmjdfndcmmaaGreatZp01
set_option linter.all false
set_option linter.all false
namespace Go.Proofs.YtjglmjdfndcmmaaGreat
open Go.RowKit
structure Val where
  kind : Int
  n : Int
  s : ByteArray
deriving DecidableEq
structure Var where
  name : ByteArray
  kind : Int
  low : Int
  high : Int
  items : List ByteArray
def plainC (c : UInt8) : Bool := decide (32 ≤ c.toNat ∧ c.toNat ≤ 126)
def textB (s : ByteArray) : Bool := decide (s.size ≤ 200) && s.data.toList.all plainC
def numB (n : Int) : Bool := decide (-4503599627370496 ≤ n ∧ n ≤ 4503599627370496)
def noS (s : ByteArray) : Bool := s.toList.isEmpty
def validV (v : Val) : Bool :=
  if v.kind = 1 then decide (v.n = 0 ∨ v.n = 1) && noS v.s
  else if v.kind = 2 then numB v.n && noS v.s
  else if v.kind = 3 then decide (v.n = 0) && textB v.s
  else false
def bytesOf (l : List ByteArray) : List Bs := l.map fun s => s.data.toList
def onceB (l : List Bs) : Bool := decide l.Nodup
def formB (x : Var) : Bool :=
  if x.kind = 1 then decide (x.low = 0 ∧ x.high = 0 ∧ x.items.length = 0)
  else if x.kind = 2 then numB x.low && numB x.high && decide (x.low ≤ x.high ∧ x.high - x.low < 1000 ∧ x.items.length = 0)
  else if x.kind = 3 then decide (x.low = 0 ∧ x.high = 0 ∧ 1 ≤ x.items.length ∧ x.items.length ≤ 1000) && x.items.all textB && onceB (bytesOf x.items)
  else false
def varB (x : Var) : Bool := isNameB x.name && formB x
def varsB (l : List Var) : Bool := decide (l.length ≤ 8) && l.all varB && onceB (bytesOf (l.map Var.name))
def atS (l : List ByteArray) (s : ByteArray) : Int := match l.findIdx? (fun y => y.toList == s.toList) with | some i => (i : Int) | none => -1
def placeV (x : Var) (v : Val) : Int :=
  if v.kind ≠ x.kind then -1
  else if x.kind = 1 then v.n
  else if x.kind = 3 then atS x.items v.s
  else if v.n < x.low ∨ x.high < v.n then -1
  else v.n - x.low
def sizeV (x : Var) : Int := if x.kind = 1 then 2 else if x.kind = 2 then x.high - x.low + 1 else x.items.length
def emptyS : ByteArray := ⟨#[]⟩
def nthV (x : Var) (i : Int) : Val :=
  if x.kind = 3 then ⟨3, 0, x.items.getD i.toNat emptyS⟩ else if x.kind = 2 then ⟨2, i + x.low, emptyS⟩ else ⟨x.kind, i, emptyS⟩
def noV : Val := ⟨0, 0, emptyS⟩
end Go.Proofs.YtjglmjdfndcmmaaGreat

set_option linter.all false
namespace Go.Proofs.YtjglmjdfndcmmaaGreat
open Go.RowKit
structure Fld where
  nm : ByteArray
  v : Val
structure Ev where
  cas : ByteArray
  act : ByteArray
  res : ByteArray
  life : Int
  time : Int
  data : List Fld
def arNum (n : Nat) : List UInt8 := if n < 128 then [UInt8.ofNat n] else UInt8.ofNat (n % 128 + 128) :: arNum (n / 128)
termination_by n
theorem arNum_one {n : Nat} (h : n < 128) : arNum n = [UInt8.ofNat n] := by rw [arNum, if_pos h]
theorem arNum_more {n : Nat} (h : ¬ n < 128) : arNum n = UInt8.ofNat (n % 128 + 128) :: arNum (n / 128) := by rw [arNum, if_neg h]
theorem arNum_pos (n : Nat) : 1 ≤ (arNum n).length := by
  by_cases h : n < 128
  · rw [arNum_one h]; simp
  · rw [arNum_more h]; simp
theorem arNum_le : ∀ (k n : Nat), n < 128 ^ k → 0 < k → (arNum n).length ≤ k := by
  intro k
  induction k with
  | zero => intro n _ h; exact absurd h (Nat.lt_irrefl 0)
  | succ k ih =>
    intro n hn _
    by_cases h : n < 128
    · rw [arNum_one h]; simp
    · rw [arNum_more h, List.length_cons]
      rcases Nat.eq_zero_or_pos k with h0 | h0
      · subst h0; simp at hn; omega
      · have := ih (n / 128) (by rw [Nat.pow_succ] at hn; omega) h0
        omega
theorem arNum_len {n : Nat} (h : n < 9223372036854775808) : (arNum n).length ≤ 9 := arNum_le 9 n (by simpa using h) (by omega)
def arText (s : List UInt8) : List UInt8 := arNum s.length ++ s
def zigZ (n : Int) : Nat := if n < 0 then (-2 * n - 1).toNat else (2 * n).toNat
def arVal (v : Val) : List UInt8 := arNum v.kind.toNat ++ (if v.kind = 1 then arNum v.n.toNat else if v.kind = 2 then arNum (zigZ v.n) else arText v.s.data.toList)
def arFld (f : Fld) : List UInt8 := arText f.nm.data.toList ++ arVal f.v
def arData (e : Ev) : List UInt8 := arNum e.data.length ++ e.data.flatMap arFld
def lead (x : Nat) : List Nat → Nat
  | [] => 0
  | y :: l => if y = x then lead x l + 1 else 0
theorem lead_le (x : Nat) : ∀ l, lead x l ≤ l.length
  | [] => Nat.le_refl _
  | y :: l => by
    unfold lead
    have := lead_le x l
    split
    · simp; omega
    · simp
def arRunsF : Nat → List Nat → List UInt8
  | 0, _ => []
  | _ + 1, [] => []
  | f + 1, x :: l => arNum x ++ arNum (lead x l + 1) ++ arRunsF f (l.drop (lead x l))
theorem arRunsF_enough : ∀ (f g : Nat) (l : List Nat), l.length ≤ f → l.length ≤ g → arRunsF f l = arRunsF g l := by
  intro f
  induction f with
  | zero =>
    intro g l h _
    have : l = [] := List.eq_nil_of_length_eq_zero (by omega)
    subst this
    cases g <;> rfl
  | succ f ih =>
    intro g l h1 h2
    cases l with
    | nil => cases g <;> rfl
    | cons x l =>
      cases g with
      | zero => simp at h2
      | succ g =>
        unfold arRunsF
        rw [ih g (l.drop (lead x l)) (by rw [List.length_drop]; simp at h1; omega) (by rw [List.length_drop]; simp at h2; omega)]
def arRuns (l : List Nat) : List UInt8 := arRunsF l.length l
theorem arRuns_nil : arRuns [] = [] := rfl
theorem arRuns_cons (x : Nat) (l : List Nat) : arRuns (x :: l) = arNum x ++ arNum (lead x l + 1) ++ arRuns (l.drop (lead x l)) := by
  show arRunsF (l.length + 1) (x :: l) = _
  unfold arRunsF
  rw [arRunsF_enough l.length (l.drop (lead x l)).length (l.drop (lead x l)) (by rw [List.length_drop]; omega) (Nat.le_refl _)]
  rfl
def names3 (l : List Ev) : List Bs := l.map (fun e => e.cas.data.toList) ++ (l.map (fun e => e.act.data.toList) ++ l.map (fun e => e.res.data.toList))
def words (l : List Ev) : List Bs := setB (names3 l)
def arTimes : Int → List Ev → List UInt8
  | _, [] => []
  | t, e :: l => arNum (e.time - t).toNat ++ arTimes e.time l
def atW (ws : List Bs) (s : ByteArray) : Nat := ws.idxOf s.data.toList
def arBlock (l : List Ev) : List UInt8 :=
  arNum (words l).length ++ (words l).flatMap arText ++ arRuns (l.map fun e => atW (words l) e.cas) ++ arRuns (l.map fun e => atW (words l) e.act) ++ arRuns (l.map fun e => atW (words l) e.res) ++
    arRuns (l.map fun e => e.life.toNat) ++ arTimes 0 l ++ l.flatMap arData
def part (l : List Ev) (n : Nat) : List Ev := (l.drop (100 * n)).take 100
def nParts (l : List Ev) : Nat := (l.length + 99) / 100
def arParts (l : List Ev) (n : Nat) : List UInt8 := (List.range n).flatMap fun k => arBlock (part l k)
def arBody (l : List Ev) : List UInt8 := arNum l.length ++ arParts l (nParts l)
theorem arParts_succ (l : List Ev) (n : Nat) : arParts l (n + 1) = arParts l n ++ arBlock (part l n) := by
  unfold arParts; rw [List.range_succ, List.flatMap_append]; simp
def crcBit (r : Nat) : Nat := if r % 2 = 1 then r / 2 ^^^ 3988292384 else r / 2
def crcN : Nat → Nat → Nat
  | 0, r => r
  | k + 1, r => crcN k (crcBit r)
theorem crcN_succ (k r : Nat) : crcN (k + 1) r = crcBit (crcN k r) := by
  induction k generalizing r with
  | zero => rfl
  | succ k ih => exact ih (crcBit r)
def crcL (r : Nat) (l : List UInt8) : Nat := l.foldl (fun r c => crcN 8 (r ^^^ c.toNat)) r
theorem crcL_snoc (r : Nat) (l : List UInt8) (c : UInt8) : crcL r (l ++ [c]) = crcN 8 (crcL r l ^^^ c.toNat) := by unfold crcL; rw [List.foldl_append]; rfl
theorem crcBit_lt {r : Nat} (h : r < 4294967296) : crcBit r < 4294967296 := by
  unfold crcBit
  split
  · exact Nat.xor_lt_two_pow (n := 32) (by omega) (by omega)
  · omega
theorem crcN_lt (k : Nat) {r : Nat} (h : r < 4294967296) : crcN k r < 4294967296 := by
  induction k generalizing r with
  | zero => exact h
  | succ k ih => exact ih (crcBit_lt h)
theorem crcL_lt (l : List UInt8) {r : Nat} (h : r < 4294967296) : crcL r l < 4294967296 := by
  induction l generalizing r with
  | nil => exact h
  | cons c l ih =>
    show crcL (crcN 8 (r ^^^ c.toNat)) l < _
    have := UInt8.toNat_lt c
    exact ih (crcN_lt 8 (Nat.xor_lt_two_pow (n := 32) h (by omega)))
def crcOf (l : List UInt8) : Nat := crcL 4294967295 l
theorem crcOf_lt (l : List UInt8) : crcOf l < 4294967296 := crcL_lt l (by omega)
def sumOf (l : List UInt8) : Nat := 4294967295 ^^^ crcOf l
theorem sumOf_lt (l : List UInt8) : sumOf l < 4294967296 := Nat.xor_lt_two_pow (n := 32) (by omega) (crcOf_lt l)
def le4 (s : Nat) : List UInt8 := [UInt8.ofNat (s % 256), UInt8.ofNat (s / 256 % 256), UInt8.ofNat (s / 65536 % 256), UInt8.ofNat (s / 16777216 % 256)]
def arPack (l : List Ev) : List UInt8 := arBody l ++ le4 (sumOf (arBody l))
def fldB (f : Fld) : Bool := isNameB f.nm && validV f.v
def fldAt (l : List Fld) (i : Nat) : Bool := match l[i]? with
  | none => true
  | some f => fldB f && (decide (i = 0) || match l[i - 1]? with | none => true | some g => decide (g.nm.data.toList < f.nm.data.toList))
def fldsB (l : List Fld) : Bool := (List.range l.length).all (fldAt l)
def evB (e : Ev) : Bool := isNameB e.cas && isNameB e.act && (noS e.res || isNameB e.res) && decide (1 ≤ e.life ∧ e.life ≤ 6) && decide (0 ≤ e.time ∧ e.time ≤ 1099511627776) && decide (e.data.length ≤ 8) && fldsB e.data
def evAt (l : List Ev) (i : Nat) : Bool := match l[i]? with
  | none => true
  | some f => evB f && (decide (i = 0) || match l[i - 1]? with | none => true | some g => decide (g.time ≤ f.time))
def logB (l : List Ev) : Bool := decide (l.length ≤ 2000) && (List.range l.length).all (evAt l)
theorem all_no {n k : Nat} {p : Nat → Bool} (hk : k < n) (h : p k = false) : (List.range n).all p = false := by
  rw [Bool.eq_false_iff]
  intro ha
  rw [List.all_eq_true] at ha
  have := ha k (List.mem_range.2 hk)
  rw [h] at this; cases this
theorem all_yes {n : Nat} {p : Nat → Bool} (h : ∀ k, k < n → p k = true) : (List.range n).all p = true := by
  rw [List.all_eq_true]
  exact fun k hk => h k (List.mem_range.1 hk)
theorem all_at {n k : Nat} {p : Nat → Bool} (h : (List.range n).all p = true) (hk : k < n) : p k = true := List.all_eq_true.1 h k (List.mem_range.2 hk)
end Go.Proofs.YtjglmjdfndcmmaaGreat

set_option linter.all false
namespace Go.Proofs.YtjglmjdfndcmmaaGreat
open Go.RowKit
structure FitV (v : Val) : Prop where
  kind : Fit v.kind
  n : Fit v.n
  s : v.s.size ≤ maxLen
def valV (v : Val) : Value := .agg #[.int .i64 v.kind, .int .i64 v.n, .string v.s]
def RVal : ElemR Val := fun _ _ v cs => cs = [.int .i64 v.kind, .int .i64 v.n, .string v.s] ∧ FitV v
theorem RVal.kept : ElemR.Kept RVal := fun _ _ _ _ _ _ _ _ h => h
def SlV := Sl 3 RVal
def RVar : ElemR Var := fun D w x cs => ∃ iv, cs = [.string x.name, .int .i64 x.kind, .int .i64 x.low, .int .i64 x.high, iv] ∧ x.name.size ≤ maxLen ∧ Fit x.kind ∧ Fit x.low ∧ Fit x.high ∧ SlS D w iv x.items
theorem RVar.kept : ElemR.Kept RVar := by
  rintro D D' w w' x cs hd hs ⟨iv, rfl, h1, h2, h3, h4, hi⟩
  exact ⟨iv, rfl, h1, h2, h3, h4, Sl.keep hi RStr.kept hd hs⟩
def SlX := Sl 5 RVar
def IsVar (D : Nat → Prop) (w : World) (u : Value) (x : Var) : Prop := ∃ iv, u = .agg #[.string x.name, .int .i64 x.kind, .int .i64 x.low, .int .i64 x.high, iv] ∧ x.name.size ≤ maxLen ∧ Fit x.kind ∧ Fit x.low ∧ Fit x.high ∧ SlS D w iv x.items
section
variable {D D' : Nat → Prop} {w w' : World} {u : Value}
theorem IsVar.now {x : Var} (h : IsVar (Lt w.heap.size) w u x) (hb : Below w.heap.size w w') : IsVar (Lt w'.heap.size) w' u x := by
  obtain ⟨iv, e, h1, h2, h3, h4, hi⟩ := h
  exact ⟨iv, e, h1, h2, h3, h4, hi.now hb⟩
theorem IsVar.below {x : Var} {B B' : Nat} (h : IsVar (Lt B) w u x) (hb : Below B w w') (hB : B ≤ B') : IsVar (Lt B') w' u x := by
  obtain ⟨iv, e, h1, h2, h3, h4, hi⟩ := h
  exact ⟨iv, e, h1, h2, h3, h4, hi.below hb hB⟩
theorem SlV.now {zs : List Val} (h : SlV (Lt w.heap.size) w u zs) (hb : Below w.heap.size w w') : SlV (Lt w'.heap.size) w' u zs := Sl.below h RVal.kept hb hb.size
theorem SlX.now {zs : List Var} (h : SlX (Lt w.heap.size) w u zs) (hb : Below w.heap.size w w') : SlX (Lt w'.heap.size) w' u zs := Sl.below h RVar.kept hb hb.size
theorem SlV.open_ {zs : List Val} (h : SlV D w u zs) : ∃ A c, u = .slice A zs.length c ∧ zs.length ≤ c ∧ c ≤ 9223372036854775807 ∧ SlV D w (.slice A zs.length c) zs := Sl.open_ h
theorem SlX.open_ {zs : List Var} (h : SlX D w u zs) : ∃ A c, u = .slice A zs.length c ∧ zs.length ≤ c ∧ c ≤ 9223372036854775807 ∧ SlX D w (.slice A zs.length c) zs := Sl.open_ h
theorem SlV.at_ {zs : List Val} {A : Option Addr} {n c k : Nat} (h : SlV D w (.slice A n c) zs) (hk : k < n) :
    ∃ b o v, A = some ⟨b, o, none⟩ ∧ D b ∧ zs[k]? = some v ∧ FitV v ∧ w.cell? ⟨b, o + k * 3, none⟩ = some (.int .i64 v.kind) ∧ w.cell? ⟨b, o + k * 3 + 1, none⟩ = some (.int .i64 v.n) ∧ w.cell? ⟨b, o + k * 3 + 2, none⟩ = some (.string v.s) := by
  obtain ⟨b, o, x, u0, u1, u2, hA, hD, hx, ⟨hu, hf⟩, h0, h1, h2⟩ := Sl.at3 h hk
  injection hu with e0 hu; injection hu with e1 hu; injection hu with e2 hu
  subst e0 e1 e2
  exact ⟨b, o, x, hA, hD, hx, hf, h0, h1, h2⟩
theorem Sl.at5 {α : Type} {R : ElemR α} {xs : List α} {A : Option Addr} {n c k : Nat} (h : Sl 5 R D w (.slice A n c) xs) (hk : k < n) :
    ∃ b o x u0 u1 u2 u3 u4, A = some ⟨b, o, none⟩ ∧ D b ∧ xs[k]? = some x ∧ R D w x [u0, u1, u2, u3, u4] ∧ w.cell? ⟨b, o + k * 5, none⟩ = some u0 ∧ w.cell? ⟨b, o + k * 5 + 1, none⟩ = some u1 ∧ w.cell? ⟨b, o + k * 5 + 2, none⟩ = some u2 ∧ w.cell? ⟨b, o + k * 5 + 3, none⟩ = some u3 ∧ w.cell? ⟨b, o + k * 5 + 4, none⟩ = some u4 := by
  obtain ⟨A', c', hv, h1, h2, h3⟩ := h
  injection hv with hA hn hc
  subst hA hn hc
  obtain ⟨b, o, cs, hA, hD, hl, hr, hcell⟩ := h3 k xs[k] (List.getElem?_eq_getElem hk)
  match cs, hl with
  | [u0, u1, u2, u3, u4], _ => exact ⟨b, o, xs[k], u0, u1, u2, u3, u4, hA, hD, List.getElem?_eq_getElem hk, hr, hcell 0 u0 rfl, hcell 1 u1 rfl, hcell 2 u2 rfl, hcell 3 u3 rfl, hcell 4 u4 rfl⟩
theorem SlX.at_ {zs : List Var} {A : Option Addr} {n c k : Nat} (h : SlX D w (.slice A n c) zs) (hk : k < n) :
    ∃ b o x iv, A = some ⟨b, o, none⟩ ∧ D b ∧ zs[k]? = some x ∧ IsVar D w (.agg #[.string x.name, .int .i64 x.kind, .int .i64 x.low, .int .i64 x.high, iv]) x ∧ SlS D w iv x.items ∧ w.cell? ⟨b, o + k * 5, none⟩ = some (.string x.name) ∧ w.cell? ⟨b, o + k * 5 + 1, none⟩ = some (.int .i64 x.kind) ∧ w.cell? ⟨b, o + k * 5 + 2, none⟩ = some (.int .i64 x.low) ∧ w.cell? ⟨b, o + k * 5 + 3, none⟩ = some (.int .i64 x.high) ∧ w.cell? ⟨b, o + k * 5 + 4, none⟩ = some iv := by
  obtain ⟨b, o, x, u0, u1, u2, u3, u4, hA, hD, hx, ⟨iv, hu, a1, a2, a3, a4, hi⟩, h0, h1, h2, h3, h4⟩ := Sl.at5 h hk
  injection hu with e0 hu; injection hu with e1 hu; injection hu with e2 hu; injection hu with e3 hu; injection hu with e4 hu
  subst e0 e1 e2 e3 e4
  exact ⟨b, o, x, u4, hA, hD, hx, ⟨u4, rfl, a1, a2, a3, a4, hi⟩, hi, h0, h1, h2, h3, h4⟩
end
theorem numB_yes {n : Int} (h1 : -4503599627370496 ≤ n) (h2 : n ≤ 4503599627370496) : numB n = true := by unfold numB; simp [h1, h2]
theorem numB_no {n : Int} (h : ¬ (-4503599627370496 ≤ n ∧ n ≤ 4503599627370496)) : numB n = false := by unfold numB; simp only [h, decide_false]
set_option maxHeartbeats 400000 in
theorem number_any (n : Int) (w : World) : Calls Tryz.prog 89 #[.int .i64 n] w fun e w' => e = .returned (.bool (numB n)) ∧ w = w' := by
  by_cases h1 : -4503599627370496 ≤ n <;> by_cases h2 : n ≤ 4503599627370496
  all_goals
    go_enter Tryz.func89, Tryz.ntmps89
    go_wp2
    go_ret
    exact ⟨ret_bool (by first | exact (numB_yes h1 h2).symm | exact (numB_no (fun h => by omega)).symm), rfl⟩
set_option maxHeartbeats 400000 in
theorem number_ref (n : Int) (w : World) : Calls Tryz.prog 92 #[.int .i64 n] w fun e w' => e = .returned (.bool (numB n)) ∧ w = w' := by
  by_cases h1 : -4503599627370496 ≤ n <;> by_cases h2 : n ≤ 4503599627370496
  all_goals
    go_enter Tryz.func92, Tryz.ntmps92
    go_wp2
    go_ret
    exact ⟨ret_bool (by first | exact (numB_yes h1 h2).symm | exact (numB_no (fun h => by omega)).symm), rfl⟩
theorem plainC_iff (c : UInt8) : plainC c = true ↔ 32 ≤ (c.toNat : Int) ∧ (c.toNat : Int) ≤ 126 := by unfold plainC; simp; omega
set_option maxHeartbeats 400000 in
theorem text1_any (c : UInt8) (w : World) : Calls Tryz.prog 108 #[.int .u8 (c.toNat : Int)] w fun e w' => e = .returned (.bool (!plainC c)) ∧ w = w' := by
  have HP := Lib.hid (plainC_iff c)
  generalize hq : plainC c = q at *
  generalize (c.toNat : Int) = z at *
  by_cases h1 : z < 32
  · have hq' : q = false := by cases q with | false => rfl | true => have := HP.out.1 rfl; omega
    subst hq'
    go_enter Tryz.func108, Tryz.ntmps108
    go_wp2
    go_ret
    exact ⟨rfl, rfl⟩
  by_cases h2 : 126 < z
  · have hq' : q = false := by cases q with | false => rfl | true => have := HP.out.1 rfl; omega
    subst hq'
    go_enter Tryz.func108, Tryz.ntmps108
    go_wp2
    go_ret
    exact ⟨rfl, rfl⟩
  · have hq' : q = true := HP.out.2 ⟨by omega, by omega⟩
    subst hq'
    go_enter Tryz.func108, Tryz.ntmps108
    go_wp2
    go_ret
    exact ⟨rfl, rfl⟩
def RowB (w : World) (g : Nat) (l : List UInt8) : Prop := ∀ k c, l[k]? = some c → w.cell? ⟨g, k, none⟩ = some (.int .u8 (c.toNat : Int))
theorem any_false_of {α : Type} (p : α → Bool) (xs : List α) (h : ∀ q y, q < xs.length → xs[q]? = some y → p y = false) : xs.any p = false := by
  rw [List.any_eq_false]
  intro x hx
  obtain ⟨q, hq, rfl⟩ := List.mem_iff_getElem.1 hx
  rw [h q _ hq (List.getElem?_eq_getElem hq)]; simp
set_option maxHeartbeats 400000 in
theorem indexTextB (g c : Nat) (l : List UInt8) (w : World) (hl : l.length ≤ 1000000) (h : RowB w g l) :
    Calls Tryz.prog 116 #[.slice (some ⟨g, 0, none⟩) l.length c, .func (.func 108) #[] #[]] w fun e w' => ∃ z : Int, e = .returned (.int .i64 z) ∧ decide (0 ≤ z) = (l.any fun x => !plainC x) ∧ w = w' := by
  have eg : ∀ args w, (callFunc 108 args).run Tryz.prog w = .ok (.enter 108 args) w := enters_of Tryz.func108 (by kernel_rfl) rfl
  have HH := Lib.hid h
  clear h
  go_enter Tryz.func116, Tryz.ntmps116
  go_wp2_with fail
  go_loopw [8] (fun i wr => ∃ j : Nat, j ≤ l.length ∧ i = .int .i64 j ∧ (∀ q t, q < j → l[q]? = some t → (!plainC t) = false) ∧ wr = w) (fun i _ => l.length - (intOf i).toNat)
  case atStart => exact ⟨0, Nat.zero_le _, rfl, fun q _ h => absurd h (by omega), rfl⟩
  case round =>
    obtain ⟨j, hj, rfl, hp, rfl⟩ := hrel
    have HP := Lib.hid hp
    clear hp
    by_cases hlt : j < l.length
    · have HX : Hid (l[j]? = some l[j]) := List.getElem?_eq_getElem hlt
      have c0 := HH.out j _ HX.out
      have HC := Lib.hid (fun W => text1_any l[j] W)
      generalize l[j] = x at *
      generalize hq : plainC x = q at *
      have HQ := Lib.hid hq
      clear hq
      cases q
      · go_wp2_with (go_at_fn 108; refine (HC.out _).mono ?_; rintro e w' ⟨rfl, rfl⟩)
        go_ret
        refine ⟨_, rfl, ?_, rfl⟩
        have : (l.any fun x => !plainC x) = true := List.any_eq_true.2 ⟨x, List.mem_of_getElem? HX.out, by rw [HQ.out]; rfl⟩
        rw [this]
        simp
      · go_wp2_with (go_at_fn 108; refine (HC.out _).mono ?_; rintro e w' ⟨rfl, rfl⟩)
        go_roundw
        case rel =>
          refine ⟨j + 1, by omega, by go_num, fun q y hq hy => ?_, trivial⟩
          by_cases e : q = j
          · subst e; rw [HX.out] at hy; injection hy with hy; subst hy; rw [HQ.out]; rfl
          · exact HP.out q y (by omega) hy
        case measure => simp [intOf]; omega
    · go_wp2_with fail
      go_ret
      refine ⟨_, rfl, ?_, rfl⟩
      rw [any_false_of _ l (fun q y hq hy => HP.out q y (by omega) hy)]
      simp
theorem containsTextB (g c : Nat) (l : List UInt8) (w : World) (hl : l.length ≤ 1000000) (h : RowB w g l) :
    Calls Tryz.prog 107 #[.slice (some ⟨g, 0, none⟩) l.length c, .func (.func 108) #[] #[]] w fun e w' => e = .returned (.bool (l.any fun x => !plainC x)) ∧ w = w' := by
  have HC := Lib.hid (indexTextB g c l w hl h)
  clear h
  go_enter Tryz.func107, Tryz.ntmps107
  go_wp2_with (go_at_call 116; refine HC.out.mono ?_; rintro e w' ⟨z, rfl, hz, rfl⟩)
  go_ret
  exact ⟨rfl, rfl⟩
end Go.Proofs.YtjglmjdfndcmmaaGreat

set_option linter.all false
namespace Go.Proofs.YtjglmjdfndcmmaaGreat
open Go.RowKit
structure FitFl (f : Fld) : Prop where
  nm : f.nm.size ≤ maxLen
  v : FitV f.v
structure FitEv (e : Ev) : Prop where
  cas : e.cas.size ≤ maxLen
  act : e.act.size ≤ maxLen
  res : e.res.size ≤ maxLen
  life : Fit e.life
  time : Fit e.time
def RFld : ElemR Fld := fun _ _ f cs => cs = [.string f.nm, .int .i64 f.v.kind, .int .i64 f.v.n, .string f.v.s] ∧ FitFl f
theorem RFld.kept : ElemR.Kept RFld := fun _ _ _ _ _ _ _ _ h => h
def SlFl := Sl 4 RFld
def REv : ElemR Ev := fun D w e cs => ∃ dv, cs = [.string e.cas, .string e.act, .string e.res, .int .i64 e.life, .int .i64 e.time, dv] ∧ FitEv e ∧ SlFl D w dv e.data
theorem REv.kept : ElemR.Kept REv := by
  rintro D D' w w' x cs hd hs ⟨dv, rfl, h1, hi⟩
  exact ⟨dv, rfl, h1, Sl.keep hi RFld.kept hd hs⟩
def SlEv := Sl 6 REv
def fldV (f : Fld) : Value := .agg #[.string f.nm, .int .i64 f.v.kind, .int .i64 f.v.n, .string f.v.s]
def evV (e : Ev) (dv : Value) : Value := .agg #[.string e.cas, .string e.act, .string e.res, .int .i64 e.life, .int .i64 e.time, dv]
def IsEv (D : Nat → Prop) (w : World) (u : Value) (e : Ev) : Prop := ∃ dv, u = evV e dv ∧ FitEv e ∧ SlFl D w dv e.data
def IsLog (D : Nat → Prop) (w : World) (u : Value) (l : List Ev) : Prop := ∃ ev, u = .agg #[ev] ∧ SlEv D w ev l
section
variable {D : Nat → Prop} {w w' : World} {u : Value}
theorem SlFl.now {zs : List Fld} (h : SlFl (Lt w.heap.size) w u zs) (hb : Below w.heap.size w w') : SlFl (Lt w'.heap.size) w' u zs := Sl.below h RFld.kept hb hb.size
theorem SlEv.now {zs : List Ev} (h : SlEv (Lt w.heap.size) w u zs) (hb : Below w.heap.size w w') : SlEv (Lt w'.heap.size) w' u zs := Sl.below h REv.kept hb hb.size
theorem SlFl.below {zs : List Fld} {B B' : Nat} (h : SlFl (Lt B) w u zs) (hb : Below B w w') (hB : B ≤ B') : SlFl (Lt B') w' u zs := Sl.below h RFld.kept hb hB
theorem SlEv.below {zs : List Ev} {B B' : Nat} (h : SlEv (Lt B) w u zs) (hb : Below B w w') (hB : B ≤ B') : SlEv (Lt B') w' u zs := Sl.below h REv.kept hb hB
theorem IsEv.now {e : Ev} (h : IsEv (Lt w.heap.size) w u e) (hb : Below w.heap.size w w') : IsEv (Lt w'.heap.size) w' u e := by
  obtain ⟨dv, h1, h2, h3⟩ := h; exact ⟨dv, h1, h2, h3.now hb⟩
theorem IsEv.below {e : Ev} {B B' : Nat} (h : IsEv (Lt B) w u e) (hb : Below B w w') (hB : B ≤ B') : IsEv (Lt B') w' u e := by
  obtain ⟨dv, h1, h2, h3⟩ := h; exact ⟨dv, h1, h2, h3.below hb hB⟩
theorem IsLog.now {l : List Ev} (h : IsLog (Lt w.heap.size) w u l) (hb : Below w.heap.size w w') : IsLog (Lt w'.heap.size) w' u l := by
  obtain ⟨ev, h1, h2⟩ := h; exact ⟨ev, h1, h2.now hb⟩
theorem SlFl.open_ {zs : List Fld} (h : SlFl D w u zs) : ∃ A c, u = .slice A zs.length c ∧ zs.length ≤ c ∧ c ≤ 9223372036854775807 ∧ SlFl D w (.slice A zs.length c) zs := Sl.open_ h
theorem SlEv.open_ {zs : List Ev} (h : SlEv D w u zs) : ∃ A c, u = .slice A zs.length c ∧ zs.length ≤ c ∧ c ≤ 9223372036854775807 ∧ SlEv D w (.slice A zs.length c) zs := Sl.open_ h
theorem Sl.at4 {α : Type} {R : ElemR α} {xs : List α} {A : Option Addr} {n c k : Nat} (h : Sl 4 R D w (.slice A n c) xs) (hk : k < n) :
    ∃ b o x u0 u1 u2 u3, A = some ⟨b, o, none⟩ ∧ D b ∧ xs[k]? = some x ∧ R D w x [u0, u1, u2, u3] ∧ w.cell? ⟨b, o + k * 4, none⟩ = some u0 ∧ w.cell? ⟨b, o + k * 4 + 1, none⟩ = some u1 ∧ w.cell? ⟨b, o + k * 4 + 2, none⟩ = some u2 ∧ w.cell? ⟨b, o + k * 4 + 3, none⟩ = some u3 := by
  obtain ⟨A', c', hv, h1, h2, h3⟩ := h
  injection hv with hA hn hc
  subst hA hn hc
  obtain ⟨b, o, cs, hA, hD, hl, hr, hcell⟩ := h3 k xs[k] (List.getElem?_eq_getElem hk)
  match cs, hl with
  | [u0, u1, u2, u3], _ => exact ⟨b, o, xs[k], u0, u1, u2, u3, hA, hD, List.getElem?_eq_getElem hk, hr, hcell 0 u0 rfl, hcell 1 u1 rfl, hcell 2 u2 rfl, hcell 3 u3 rfl⟩
theorem Sl.at6 {α : Type} {R : ElemR α} {xs : List α} {A : Option Addr} {n c k : Nat} (h : Sl 6 R D w (.slice A n c) xs) (hk : k < n) :
    ∃ b o x u0 u1 u2 u3 u4 u5, A = some ⟨b, o, none⟩ ∧ D b ∧ xs[k]? = some x ∧ R D w x [u0, u1, u2, u3, u4, u5] ∧ w.cell? ⟨b, o + k * 6, none⟩ = some u0 ∧ w.cell? ⟨b, o + k * 6 + 1, none⟩ = some u1 ∧ w.cell? ⟨b, o + k * 6 + 2, none⟩ = some u2 ∧ w.cell? ⟨b, o + k * 6 + 3, none⟩ = some u3 ∧ w.cell? ⟨b, o + k * 6 + 4, none⟩ = some u4 ∧ w.cell? ⟨b, o + k * 6 + 5, none⟩ = some u5 := by
  obtain ⟨A', c', hv, h1, h2, h3⟩ := h
  injection hv with hA hn hc
  subst hA hn hc
  obtain ⟨b, o, cs, hA, hD, hl, hr, hcell⟩ := h3 k xs[k] (List.getElem?_eq_getElem hk)
  match cs, hl with
  | [u0, u1, u2, u3, u4, u5], _ => exact ⟨b, o, xs[k], u0, u1, u2, u3, u4, u5, hA, hD, List.getElem?_eq_getElem hk, hr, hcell 0 u0 rfl, hcell 1 u1 rfl, hcell 2 u2 rfl, hcell 3 u3 rfl, hcell 4 u4 rfl, hcell 5 u5 rfl⟩
theorem SlFl.at_ {zs : List Fld} {A : Option Addr} {n c k : Nat} (h : SlFl D w (.slice A n c) zs) (hk : k < n) :
    ∃ b o f, A = some ⟨b, o, none⟩ ∧ D b ∧ zs[k]? = some f ∧ FitFl f ∧ w.cell? ⟨b, o + k * 4, none⟩ = some (.string f.nm) ∧ w.cell? ⟨b, o + k * 4 + 1, none⟩ = some (.int .i64 f.v.kind) ∧ w.cell? ⟨b, o + k * 4 + 2, none⟩ = some (.int .i64 f.v.n) ∧ w.cell? ⟨b, o + k * 4 + 3, none⟩ = some (.string f.v.s) := by
  obtain ⟨b, o, x, u0, u1, u2, u3, hA, hD, hx, ⟨hu, hf⟩, h0, h1, h2, h3⟩ := Sl.at4 h hk
  injection hu with e0 hu; injection hu with e1 hu; injection hu with e2 hu; injection hu with e3 hu
  subst e0 e1 e2 e3
  exact ⟨b, o, x, hA, hD, hx, hf, h0, h1, h2, h3⟩
theorem SlEv.at_ {zs : List Ev} {A : Option Addr} {n c k : Nat} (h : SlEv D w (.slice A n c) zs) (hk : k < n) :
    ∃ b o e dv, A = some ⟨b, o, none⟩ ∧ D b ∧ zs[k]? = some e ∧ FitEv e ∧ SlFl D w dv e.data ∧ w.cell? ⟨b, o + k * 6, none⟩ = some (.string e.cas) ∧ w.cell? ⟨b, o + k * 6 + 1, none⟩ = some (.string e.act) ∧ w.cell? ⟨b, o + k * 6 + 2, none⟩ = some (.string e.res) ∧ w.cell? ⟨b, o + k * 6 + 3, none⟩ = some (.int .i64 e.life) ∧ w.cell? ⟨b, o + k * 6 + 4, none⟩ = some (.int .i64 e.time) ∧ w.cell? ⟨b, o + k * 6 + 5, none⟩ = some dv := by
  obtain ⟨b, o, x, u0, u1, u2, u3, u4, u5, hA, hD, hx, ⟨dv, hu, hf, hd⟩, h0, h1, h2, h3, h4, h5⟩ := Sl.at6 h hk
  injection hu with e0 hu; injection hu with e1 hu; injection hu with e2 hu; injection hu with e3 hu; injection hu with e4 hu; injection hu with e5 hu
  subst e0 e1 e2 e3 e4 e5
  exact ⟨b, o, x, u5, hA, hD, hx, hf, hd, h0, h1, h2, h3, h4, h5⟩
end
theorem Sl.sub {α : Type} {R : ElemR α} {size : Nat} {D : Nat → Prop} {w : World} {b o n c : Nat} {xs : List α} (h : Sl size R D w (.slice (some ⟨b, o, none⟩) n c) xs) (i m c' : Nat) (hi : i + m ≤ n) (hm : m ≤ c') (hc : c' ≤ maxLen) :
    Sl size R D w (.slice (some ⟨b, o + i * size, none⟩) m c') ((xs.drop i).take m) := by
  obtain ⟨A', c0, hv, h1, h2, h3⟩ := h
  injection hv with hA hn hcc
  subst hn hcc
  have hl : ((xs.drop i).take m).length = m := by rw [List.length_take, List.length_drop]; omega
  refine ⟨some ⟨b, o + i * size, none⟩, c', by rw [hl], by rw [hl]; exact hm, hc, fun k x hx => ?_⟩
  have hk : k < m := by
    rcases Nat.lt_or_ge k m with h | h
    · exact h
    · rw [List.getElem?_eq_none (by rw [hl]; exact h)] at hx; cases hx
  rw [List.getElem?_take, if_pos hk, List.getElem?_drop] at hx
  obtain ⟨b', o', cs, hA', hD, hcl, hR, hcell⟩ := h3 (i + k) x hx
  rw [← hA] at hA'
  injection hA' with hA'
  injection hA' with e1 e2 _
  subst e1 e2
  refine ⟨b, o + i * size, cs, rfl, hD, hcl, hR, fun j u hu => ?_⟩
  have := hcell j u hu
  rw [show o + i * size + k * size + j = o + (i + k) * size + j by rw [Nat.add_mul]; omega]
  exact this
end Go.Proofs.YtjglmjdfndcmmaaGreat

set_option linter.all false
namespace Go.Proofs.YtjglmjdfndcmmaaGreat
open Go.RowKit
theorem lead_eq {x : Nat} : ∀ (l : List Nat) (m : Nat), (∀ j, j < m → l[j]? = some x) → l[m]? ≠ some x → lead x l = m
  | [], 0, _, _ => rfl
  | [], m + 1, h, _ => by have := h 0 (by omega); simp at this
  | y :: l, 0, _, h => by
    unfold lead
    rw [if_neg (fun e => h (by simp [e]))]
  | y :: l, m + 1, h1, h2 => by
    have hy : y = x := by have := h1 0 (by omega); simpa using this
    unfold lead
    rw [if_pos hy, lead_eq l m (fun j hj => by have := h1 (j + 1) (by omega); simpa using this) (by simpa using h2)]
theorem arRuns_step {vals : List Nat} {i k x : Nat} (hik : i < k) (hk : k ≤ vals.length) (h : ∀ j, i ≤ j → j < k → vals[j]? = some x) (he : vals[k]? ≠ some x) :
    arRuns (vals.drop i) = arNum x ++ arNum (k - i) ++ arRuns (vals.drop k) := by
  have hi : i < vals.length := by omega
  have hx : vals[i] = x := by have := h i (Nat.le_refl _) hik; rw [List.getElem?_eq_getElem hi] at this; injection this
  rw [List.drop_eq_getElem_cons hi, hx, arRuns_cons]
  have hl : lead x (vals.drop (i + 1)) = k - i - 1 := by
    refine lead_eq _ _ (fun j hj => ?_) ?_
    · rw [List.getElem?_drop]; exact h _ (by omega) (by omega)
    · rw [List.getElem?_drop, show i + 1 + (k - i - 1) = k by omega]; exact he
  rw [hl, List.drop_drop, show k - i - 1 + 1 = k - i by omega, show i + 1 + (k - i - 1) = k by omega]
theorem size_eq (s : ByteArray) : s.data.toList.length = s.size := Array.length_toList
theorem arText_len {s : List UInt8} (h : s.length < 1000000) : (arText s).length ≤ s.length + 9 := by
  unfold arText
  rw [List.length_append]
  have := arNum_len (n := s.length) (by omega)
  omega
theorem name_size {s : ByteArray} (h : isNameB s = true) : 1 ≤ s.size ∧ s.size ≤ 40 := by
  unfold isNameB at h
  simp only [Bool.and_eq_true, decide_eq_true_eq] at h
  exact ⟨h.1.1.1, h.1.1.2⟩
theorem text_size {s : ByteArray} (h : textB s = true) : s.size ≤ 200 := by
  unfold textB at h
  simp only [Bool.and_eq_true, decide_eq_true_eq] at h
  exact h.1
theorem noS_size {s : ByteArray} (h : noS s = true) : s.size = 0 := by
  unfold noS at h
  have h1 : s.toList = [] := by simpa using h
  have h2 : s.data.toList = [] := by rw [← Lib.toList_data]; exact h1
  rw [← size_eq, h2]; rfl
theorem val_parts {v : Val} (h : validV v = true) : (v.kind = 1 ∧ (v.n = 0 ∨ v.n = 1) ∧ v.s.size = 0) ∨ (v.kind = 2 ∧ -4503599627370496 ≤ v.n ∧ v.n ≤ 4503599627370496 ∧ v.s.size = 0) ∨ (v.kind = 3 ∧ v.n = 0 ∧ v.s.size ≤ 200 ∧ textB v.s = true) := by
  unfold validV at h
  split at h
  · rename_i hk
    simp only [Bool.and_eq_true, decide_eq_true_eq] at h
    exact .inl ⟨hk, h.1, noS_size h.2⟩
  · split at h
    · rename_i hk
      simp only [Bool.and_eq_true] at h
      have h1 : -4503599627370496 ≤ v.n ∧ v.n ≤ 4503599627370496 := by have := h.1; unfold numB at this; simpa using this
      exact .inr (.inl ⟨hk, h1.1, h1.2, noS_size h.2⟩)
    · split at h
      · rename_i hk
        simp only [Bool.and_eq_true, decide_eq_true_eq] at h
        exact .inr (.inr ⟨hk, h.1, text_size h.2, h.2⟩)
      · cases h
theorem arVal_len {v : Val} (h : validV v = true) : (arVal v).length ≤ 218 := by
  unfold arVal
  rw [List.length_append]
  rcases val_parts h with ⟨hk, hn, _⟩ | ⟨hk, h1, h2, _⟩ | ⟨hk, _, hs, _⟩
  · have a := arNum_len (n := v.kind.toNat) (by omega)
    have b := arNum_len (n := v.n.toNat) (by omega)
    rw [if_pos hk]; omega
  · have a := arNum_len (n := v.kind.toNat) (by omega)
    have b := arNum_len (n := zigZ v.n) (by unfold zigZ; split <;> omega)
    rw [if_neg (by omega), if_pos hk]; omega
  · have a := arNum_len (n := v.kind.toNat) (by omega)
    have hz := size_eq v.s
    have b := arText_len (s := v.s.data.toList) (by omega)
    rw [if_neg (by omega), if_neg (by omega)]; omega
theorem fld_parts {f : Fld} (h : fldB f = true) : isNameB f.nm = true ∧ validV f.v = true := by
  unfold fldB at h
  simpa using h
theorem arFld_len {f : Fld} (h : fldB f = true) : (arFld f).length ≤ 267 := by
  obtain ⟨h1, h2⟩ := fld_parts h
  have a := name_size h1
  have hz := size_eq f.nm
  have b := arText_len (s := f.nm.data.toList) (by omega)
  have c := arVal_len h2
  unfold arFld
  rw [List.length_append]
  omega
theorem flat_le {α β : Type} (f : α → List β) (m : Nat) : ∀ (l : List α), (∀ x ∈ l, (f x).length ≤ m) → (l.flatMap f).length ≤ m * l.length
  | [], _ => by simp
  | x :: l, h => by
    rw [List.flatMap_cons, List.length_append, List.length_cons, Nat.mul_add]
    have h1 := h x (by simp)
    have h2 := flat_le f m l (fun y hy => h y (by simp [hy]))
    omega
theorem flds_mem {l : List Fld} (h : fldsB l = true) : ∀ f ∈ l, fldB f = true := by
  intro f hf
  obtain ⟨k, hk, rfl⟩ := List.mem_iff_getElem.1 hf
  have := all_at h hk
  unfold fldAt at this
  rw [List.getElem?_eq_getElem hk] at this
  dsimp only at this
  rw [Bool.and_eq_true] at this
  exact this.1
structure EvOk (e : Ev) : Prop where
  cas : isNameB e.cas = true
  act : isNameB e.act = true
  res : noS e.res = true ∨ isNameB e.res = true
  life : 1 ≤ e.life ∧ e.life ≤ 6
  time : 0 ≤ e.time ∧ e.time ≤ 1099511627776
  len : e.data.length ≤ 8
  flds : fldsB e.data = true
theorem ev_parts {e : Ev} (h : evB e = true) : EvOk e := by
  unfold evB at h
  simp only [Bool.and_eq_true, Bool.or_eq_true, decide_eq_true_eq] at h
  obtain ⟨⟨⟨⟨⟨⟨h1, h2⟩, h3⟩, h4⟩, h5⟩, h6⟩, h7⟩ := h
  exact ⟨h1, h2, h3, h4, h5, h6, h7⟩
theorem EvOk.res_size {e : Ev} (h : EvOk e) : e.res.size ≤ 40 := by
  rcases h.res with h | h
  · have := noS_size h; omega
  · exact (name_size h).2
theorem arData_len {e : Ev} (h : EvOk e) : (arData e).length ≤ 2145 := by
  unfold arData
  rw [List.length_append]
  have h1 := flat_le arFld 267 e.data (fun f hf => arFld_len (flds_mem h.flds f hf))
  have h2 := arNum_len (n := e.data.length) (by have := h.len; omega)
  have := h.len
  omega
theorem arRunsF_len : ∀ (f : Nat) (l : List Nat), (∀ x ∈ l, x < 1000000000) → l.length < 1000000000 → (arRunsF f l).length ≤ 18 * l.length := by
  intro f
  induction f with
  | zero => intro l _ _; simp [arRunsF]
  | succ f ih =>
    intro l h hl
    cases l with
    | nil => simp [arRunsF]
    | cons x l =>
      have hd := lead_le x l
      unfold arRunsF
      rw [List.length_append, List.length_append, List.length_cons]
      rw [List.length_cons] at hl
      have a := arNum_len (n := x) (by have := h x (by simp); omega)
      have b := arNum_len (n := lead x l + 1) (by omega)
      have c := ih (l.drop (lead x l)) (fun y hy => h y (List.mem_cons_of_mem _ (List.mem_of_mem_drop hy))) (by rw [List.length_drop]; omega)
      rw [List.length_drop] at c
      omega
theorem arRuns_len {l : List Nat} (h : ∀ x ∈ l, x < 1000000000) (hl : l.length < 1000000000) : (arRuns l).length ≤ 18 * l.length := arRunsF_len _ l h hl
theorem arTimes_len : ∀ (l : List Ev) (t : Int), (∀ e ∈ l, 0 ≤ e.time ∧ e.time ≤ 1099511627776) → 0 ≤ t → (arTimes t l).length ≤ 9 * l.length
  | [], _, _, _ => by simp [arTimes]
  | e :: l, t, h, ht => by
    have he := h e (by simp)
    have a := arNum_len (n := (e.time - t).toNat) (by omega)
    have b := arTimes_len l e.time (fun x hx => h x (by simp [hx])) he.1
    rw [arTimes, List.length_append, List.length_cons]
    omega
theorem names3_len (l : List Ev) : (names3 l).length = 3 * l.length := by unfold names3; simp; omega
theorem words_len (l : List Ev) : (words l).length ≤ 3 * l.length := by
  unfold words setB
  refine Nat.le_trans (compact_len _) ?_
  rw [sortB_len, names3_len]
  exact Nat.le_refl _
theorem words_mem {l : List Ev} {s : Bs} : s ∈ words l ↔ ∃ e ∈ l, s = e.cas.data.toList ∨ s = e.act.data.toList ∨ s = e.res.data.toList := by
  unfold words
  rw [setB_mem]
  unfold names3
  simp only [List.mem_append, List.mem_map]
  constructor
  · rintro (⟨e, he, rfl⟩ | ⟨e, he, rfl⟩ | ⟨e, he, rfl⟩)
    · exact ⟨e, he, .inl rfl⟩
    · exact ⟨e, he, .inr (.inl rfl)⟩
    · exact ⟨e, he, .inr (.inr rfl)⟩
  · rintro ⟨e, he, rfl | rfl | rfl⟩
    · exact .inl ⟨e, he, rfl⟩
    · exact .inr (.inl ⟨e, he, rfl⟩)
    · exact .inr (.inr ⟨e, he, rfl⟩)
theorem words_size {l : List Ev} (h : ∀ e ∈ l, EvOk e) : ∀ s ∈ words l, s.length ≤ 40 := by
  intro s hs
  obtain ⟨e, he, rfl | rfl | rfl⟩ := words_mem.1 hs
  · rw [size_eq]; exact (name_size (h e he).cas).2
  · rw [size_eq]; exact (name_size (h e he).act).2
  · rw [size_eq]; exact (h e he).res_size
theorem atW_lt {ws : List Bs} (s : ByteArray) : atW ws s ≤ ws.length := List.idxOf_le_length
theorem arBlock_len {l : List Ev} (h : ∀ e ∈ l, EvOk e) (hl : l.length ≤ 100) : (arBlock l).length ≤ 240000 := by
  have hw := words_len l
  have a := arNum_len (n := (words l).length) (by omega)
  have b := flat_le arText 49 (words l) (fun s hs => by have h1 := words_size h s hs; have := arText_len (s := s) (by omega); omega)
  have c := fun f : Ev → ByteArray => arRuns_len (l := l.map fun e => atW (words l) (f e)) (fun x hx => by
    obtain ⟨e, _, rfl⟩ := List.mem_map.1 hx
    have := atW_lt (ws := words l) (f e)
    omega) (by rw [List.length_map]; omega)
  have c1 := c Ev.cas
  have c2 := c Ev.act
  have c3 := c Ev.res
  have d := arRuns_len (l := l.map fun e => e.life.toNat) (fun x hx => by
    obtain ⟨e, he, rfl⟩ := List.mem_map.1 hx
    have := (h e he).life
    omega) (by rw [List.length_map]; omega)
  have t := arTimes_len l 0 (fun e he => (h e he).time) (Int.le_refl 0)
  have g := flat_le arData 2145 l (fun e he => arData_len (h e he))
  rw [List.length_map] at c1 c2 c3 d
  unfold arBlock
  simp only [List.length_append]
  omega
theorem part_mem {l : List Ev} {n : Nat} {e : Ev} (h : e ∈ part l n) : e ∈ l := List.mem_of_mem_drop (List.mem_of_mem_take h)
theorem part_len (l : List Ev) (n : Nat) : (part l n).length ≤ 100 := by unfold part; rw [List.length_take]; omega
theorem arParts_len {l : List Ev} (h : ∀ e ∈ l, EvOk e) (n : Nat) : (arParts l n).length ≤ 240000 * n := by
  have := flat_le (fun k => arBlock (part l k)) 240000 (List.range n) (fun k _ => arBlock_len (fun e he => h e (part_mem he)) (part_len l k))
  rw [List.length_range] at this
  exact this
theorem log_parts {l : List Ev} (h : logB l = true) : l.length ≤ 2000 ∧ (∀ e ∈ l, EvOk e) := by
  unfold logB at h
  rw [Bool.and_eq_true, decide_eq_true_eq] at h
  refine ⟨h.1, fun e he => ?_⟩
  obtain ⟨k, hk, rfl⟩ := List.mem_iff_getElem.1 he
  have := all_at h.2 hk
  unfold evAt at this
  rw [List.getElem?_eq_getElem hk] at this
  dsimp only at this
  rw [Bool.and_eq_true] at this
  exact ev_parts this.1
theorem log_time {l : List Ev} (h : logB l = true) : l.Pairwise fun a b => a.time ≤ b.time := by
  unfold logB at h
  rw [Bool.and_eq_true, decide_eq_true_eq] at h
  have h2 : ∀ (j : Nat) (hj : j < l.length), 0 < j → (l[j - 1]'(by omega)).time ≤ l[j].time := by
    intro j hj h0
    have := all_at h.2 hj
    unfold evAt at this
    rw [List.getElem?_eq_getElem hj, List.getElem?_eq_getElem (show j - 1 < l.length by omega)] at this
    dsimp only at this
    rw [Bool.and_eq_true, Bool.or_eq_true, decide_eq_true_eq, decide_eq_true_eq] at this
    rcases this.2 with h | h
    · omega
    · exact h
  rw [List.pairwise_iff_getElem]
  intro i j hi hj hij
  have : ∀ d, (hd : i + d < l.length) → l[i].time ≤ l[i + d].time := by
    intro d
    induction d with
    | zero => intro _; exact Int.le_refl _
    | succ d ih =>
      intro hd
      have h3 := h2 (i + (d + 1)) hd (by omega)
      have h4 := ih (by omega)
      have e : i + (d + 1) - 1 = i + d := by omega
      simp only [e] at h3
      omega
  have h5 := this (j - i) (by omega)
  have e : i + (j - i) = j := by omega
  simp only [e] at h5
  exact h5
theorem arBody_len {l : List Ev} (h : logB l = true) : (arBody l).length ≤ 4900000 := by
  obtain ⟨h1, h2⟩ := log_parts h
  have a := arNum_len (n := l.length) (by omega)
  have b := arParts_len h2 (nParts l)
  unfold arBody
  rw [List.length_append]
  unfold nParts at b ⊢
  omega
end Go.Proofs.YtjglmjdfndcmmaaGreat

set_option linter.all false
namespace Go.Proofs.YtjglmjdfndcmmaaGreat
open Go.RowKit
def RetAdd (base : Nat) (w : World) (v : Value) (l : List UInt8) (e : Ending) (w' : World) : Prop := ∃ v', e = .returned v' ∧ Adds base w v l w' v'
theorem num_low {m : Nat} (h : m < 128) : (m : Int) = ((UInt8.ofNat m).toNat : Int) := by
  rw [UInt8.toNat_ofNat']; omega
theorem or_128 {k : Nat} (h : k < 128) : k ||| 128 = k + 128 := by
  have := Nat.two_pow_add_eq_or_of_lt (i := 7) (b := k) (by simpa using h) 1
  rw [Nat.or_comm, ← this]; omega
theorem num_high (m : Nat) : bits .or .u8 ((m : Int) % 128) 128 = ((UInt8.ofNat (m % 128 + 128)).toNat : Int) := by
  have h : m % 128 < 128 := Nat.mod_lt _ (by omega)
  have e : (m : Int) % 128 = ((m % 128 : Nat) : Int) := by omega
  have h2 := u8_or_nat (m % 128) 128 (by omega) (by omega)
  rw [or_128 h] at h2
  rw [e, UInt8.toNat_ofNat']
  refine Eq.trans h2 ?_
  omega
set_option maxHeartbeats 1000000 in
set_option maxRecDepth 100000 in
theorem arNumber_any (n base : Nat) (v : Value) (l : List UInt8) (w : World) (hn : n < 9223372036854775808) (hown : OwnC w base v l) (hb : base ≤ w.heap.size) (hl : l.length + (arNum n).length ≤ 9000000) :
    Calls Tryz.prog 55 #[v, .int .i64 (n : Int)] w (RetAdd base w v (l ++ arNum n)) := by
  have HH := Lib.hid (Adds.refl hown)
  clear hown
  go_enter Tryz.func55, Tryz.ntmps55
  go_wp2_with fail
  go_loopw [0, 1] (fun sv nv wr => ∃ (m : Nat) (d : List UInt8), nv = .int .i64 (m : Int) ∧ m ≤ n ∧ arNum n = d ++ arNum m ∧ Adds base w v (l ++ d) wr sv) (fun _ nv _ => (intOf nv).toNat)
  case atStart => exact ⟨n, [], rfl, Nat.le_refl _, rfl, by simpa using HH.out⟩
  case round =>
    obtain ⟨m, d, rfl, hm, he, ha⟩ := hrel
    have HE := Lib.hid he
    have hp := arNum_pos m
    rw [he, List.length_append] at hl
    have hown := ha.own
    have hsz := ha.grown.size
    have hlen : (l ++ d).length < 10000000 := by rw [List.length_append]; omega
    have HA := Lib.hid ha
    clear he ha hl hp
    by_cases h : m < 128
    · have HZ := Lib.hid (num_low h)
      have HX := Lib.hid (arNum_one h)
      go_wp2_with (at_builtin; refine wpList_pushC rfl (.tmp 16) (.tmp 19) rfl (UInt8.ofNat m) _ HZ.out rfl hown rfl hlen (by omega) ?_; intro v' w' hA)
      go_ret
      refine ⟨_, rfl, ?_⟩
      have := HA.out.trans hA
      rw [List.append_assoc] at this
      rw [HE.out, HX.out]
      exact this
    · have HZ := Lib.hid (num_high m)
      have HX := Lib.hid (arNum_more h)
      go_wp2_with (at_builtin; refine wpList_pushC rfl (.tmp 7) (.tmp 12) rfl (UInt8.ofNat (m % 128 + 128)) _ HZ.out rfl hown rfl hlen (by omega) ?_; intro v' w' hA)
      go_roundw
      case rel =>
        refine ⟨m / 128, d ++ [UInt8.ofNat (m % 128 + 128)], by go_num, by omega, ?_, ?_⟩
        · rw [HE.out, HX.out]; simp
        · rw [← List.append_assoc]
          exact HA.out.trans hA
      case measure => simp [intOf]; omega
set_option maxHeartbeats 1000000 in
set_option maxRecDepth 100000 in
theorem arText_any (s : ByteArray) (base : Nat) (v : Value) (l : List UInt8) (w : World) (hs : s.size < 1000000) (hown : OwnC w base v l) (hb : base ≤ w.heap.size) (hl : l.length + (arText s.data.toList).length ≤ 9000000) :
    Calls Tryz.prog 80 #[v, .string s] w (RetAdd base w v (l ++ arText s.data.toList)) := by
  have hz := size_eq s
  have hX : arText s.data.toList = arNum s.size ++ s.data.toList := by unfold arText; rw [hz]
  have hle : (arText s.data.toList).length = (arNum s.size).length + s.size := by rw [hX, List.length_append, hz]
  rw [hle] at hl
  have HC := Lib.hid (arNumber_any s.size base v l w (by omega) hown hb (by omega))
  have HX := Lib.hid hX
  have hll : (l ++ arNum s.size).length + s.size ≤ 1000000000 := by rw [List.length_append]; omega
  clear hX hle hown hl hz
  go_enter Tryz.func80, Tryz.ntmps80
  go_wp2_with fail
  (with_reducible refine HC.out.mono ?_)
  rintro e w1 ⟨v1, rfl, hA⟩
  have hown1 := hA.own
  have hsz := hA.grown.size
  go_wp2_with (at_builtin; refine wpList_appendStr rfl (.tmp 8) (.tmp 9) rfl rfl hown1 s rfl hll (by omega) ?_; intro v' w' hA2)
  go_ret
  refine ⟨_, rfl, ?_⟩
  rw [HX.out, ← List.append_assoc]
  exact hA.trans hA2
theorem zigzag_any (n : Int) (w : World) (h1 : -4503599627370496 ≤ n) (h2 : n ≤ 4503599627370496) :
    Calls Tryz.prog 106 #[.int .i64 n] w fun e w' => e = .returned (.int .i64 (zigZ n : Int)) ∧ w = w' := by
  by_cases h : n < 0
  · have HZ : Hid ((zigZ n : Int) = -2 * n - 1) := by show _ = _; unfold zigZ; rw [if_pos h]; omega
    go_enter Tryz.func106, Tryz.ntmps106
    go_wp2_with fail
    go_ret
    exact ⟨by rw [HZ.out]; rfl, rfl⟩
  · have HZ : Hid ((zigZ n : Int) = 2 * n) := by show _ = _; unfold zigZ; rw [if_neg h]; omega
    go_enter Tryz.func106, Tryz.ntmps106
    go_wp2_with fail
    go_ret
    exact ⟨by rw [HZ.out]; rfl, rfl⟩
theorem arVal1 {v : Val} (h : v.kind = 1) : arVal v = arNum 1 ++ arNum v.n.toNat := by unfold arVal; rw [h, if_pos rfl]; rfl
theorem arVal2 {v : Val} (h : v.kind = 2) : arVal v = arNum 2 ++ arNum (zigZ v.n) := by unfold arVal; rw [h, if_neg (by omega), if_pos rfl]; rfl
theorem arVal3 {v : Val} (h : v.kind = 3) : arVal v = arNum 3 ++ arText v.s.data.toList := by unfold arVal; rw [h, if_neg (by omega), if_neg (by omega)]; rfl
set_option maxHeartbeats 1000000 in
set_option maxRecDepth 100000 in
theorem datum_any (x : Val) (base : Nat) (v : Value) (l : List UInt8) (w : World) (hv : validV x = true) (hown : OwnC w base v l) (hb : base ≤ w.heap.size) (hl : l.length + (arVal x).length ≤ 9000000) :
    Calls Tryz.prog 86 #[v, valV x] w (RetAdd base w v (l ++ arVal x)) := by
  have hN : ∀ c : Array Value, OwnC (w.alloc (.cells c 62)) base v l := fun c => hown.now (bone w _)
  unfold valV
  rcases val_parts hv with ⟨hk, hn, -⟩ | ⟨hk, h1, h2, -⟩ | ⟨hk, -, hs, -⟩
  · have hX := arVal1 hk
    rw [hX, List.length_append] at hl
    have HX := Lib.hid hX
    clear hX
    obtain ⟨m, hm⟩ : ∃ m : Nat, x.n = m := ⟨x.n.toNat, by omega⟩
    have hm2 : x.n.toNat = m := by omega
    have hm1 : m < 2 := by omega
    rw [hk, hm]
    rw [hm2] at HX hl
    have hc := arNumber_any 1 base v l _ (by omega) (hN #[.int .i64 1, .int .i64 m, .string x.s]) (by simp; omega) (by omega)
    rw [show ((1 : Nat) : Int) = 1 from rfl] at hc
    have HC := Lib.hid hc
    have hB := Blk.new w 62 #[.int .i64 1, .int .i64 m, .string x.s]
    have hc3 := hB.c3
    have H0 := Lib.hid (hN #[.int .i64 1, .int .i64 m, .string x.s])
    clear hc hN hown hk hm hm2 hn hv
    go_enter Tryz.func86, Tryz.ntmps86
    go_wp2_with fail
    (with_reducible refine HC.out.mono ?_)
    rintro e w1 ⟨v1, rfl, hA⟩
    have hB1 := hA.keep H0.out hB (by decide)
    have hc31 := hB1.c3
    have HC2 := Lib.hid (arNumber_any m base v1 (l ++ arNum 1) w1 (by omega) hA.own (by have := hA.grown.size; simp at this; omega) (by rw [List.length_append]; omega))
    clear hB hB1 hc3
    go_wp2_with fail
    (with_reducible refine HC2.out.mono ?_)
    rintro e w2 ⟨v2, rfl, hA2⟩
    go_wp2_with fail
    go_ret
    refine ⟨_, rfl, ?_⟩
    rw [HX.out, ← List.append_assoc]
    exact Adds.pre (bone w _) (hA.trans hA2)
  · have hX := arVal2 hk
    rw [hX, List.length_append] at hl
    have HX := Lib.hid hX
    clear hX
    rw [hk]
    have hc := arNumber_any 2 base v l _ (by omega) (hN #[.int .i64 2, .int .i64 x.n, .string x.s]) (by simp; omega) (by omega)
    rw [show ((2 : Nat) : Int) = 2 from rfl] at hc
    have HC := Lib.hid hc
    have HZ := Lib.hid (fun W => zigzag_any x.n W h1 h2)
    have hz : zigZ x.n < 9223372036854775808 := by unfold zigZ; split <;> omega
    have hB := Blk.new w 62 #[.int .i64 2, .int .i64 x.n, .string x.s]
    have hc3 := hB.c3
    have H0 := Lib.hid (hN #[.int .i64 2, .int .i64 x.n, .string x.s])
    clear hc hN hown hk hv h1 h2
    generalize zigZ x.n = z at *
    go_enter Tryz.func86, Tryz.ntmps86
    go_wp2_with fail
    (with_reducible refine HC.out.mono ?_)
    rintro e w1 ⟨v1, rfl, hA⟩
    have hB1 := hA.keep H0.out hB (by decide)
    have hc31 := hB1.c3
    have HC2 := Lib.hid (arNumber_any z base v1 (l ++ arNum 2) w1 hz hA.own (by have := hA.grown.size; simp at this; omega) (by rw [List.length_append]; omega))
    clear hB hB1 hc3
    go_wp2_with fail
    (with_reducible refine (HZ.out _).mono ?_)
    rintro e w1' ⟨rfl, rfl⟩
    go_wp2_with fail
    (with_reducible refine HC2.out.mono ?_)
    rintro e w2 ⟨v2, rfl, hA2⟩
    go_wp2_with fail
    go_ret
    refine ⟨_, rfl, ?_⟩
    rw [HX.out, ← List.append_assoc]
    exact Adds.pre (bone w _) (hA.trans hA2)
  · have hX := arVal3 hk
    rw [hX, List.length_append] at hl
    have HX := Lib.hid hX
    clear hX
    rw [hk]
    have hc := arNumber_any 3 base v l _ (by omega) (hN #[.int .i64 3, .int .i64 x.n, .string x.s]) (by simp; omega) (by omega)
    rw [show ((3 : Nat) : Int) = 3 from rfl] at hc
    have HC := Lib.hid hc
    have hB := Blk.new w 62 #[.int .i64 3, .int .i64 x.n, .string x.s]
    have hc3 := hB.c3
    have H0 := Lib.hid (hN #[.int .i64 3, .int .i64 x.n, .string x.s])
    clear hc hN hown hk hv
    go_enter Tryz.func86, Tryz.ntmps86
    go_wp2_with fail
    (with_reducible refine HC.out.mono ?_)
    rintro e w1 ⟨v1, rfl, hA⟩
    have hB1 := hA.keep H0.out hB (by decide)
    have hc31 := hB1.c3
    have HC2 := Lib.hid (arText_any x.s base v1 (l ++ arNum 3) w1 (by omega) hA.own (by have := hA.grown.size; simp at this; omega) (by rw [List.length_append]; omega))
    clear hB hB1 hc3
    go_wp2_with fail
    (with_reducible refine HC2.out.mono ?_)
    rintro e w2 ⟨v2, rfl, hA2⟩
    go_wp2_with fail
    go_ret
    refine ⟨_, rfl, ?_⟩
    rw [HX.out, ← List.append_assoc]
    exact Adds.pre (bone w _) (hA.trans hA2)
end Go.Proofs.YtjglmjdfndcmmaaGreat

set_option linter.all false
namespace Go.Proofs.YtjglmjdfndcmmaaGreat
open Go.RowKit
theorem xor_byte_lt {r : Nat} (c : UInt8) (h : r < 4294967296) : r ^^^ c.toNat < 4294967296 := by
  have := UInt8.toNat_lt c
  exact Nat.xor_lt_two_pow (n := 32) h (by omega)
def wordOf (a b c d : UInt8) : Nat := a.toNat + 256 * b.toNat + 65536 * c.toNat + 16777216 * d.toNat
end Go.Proofs.YtjglmjdfndcmmaaGreat

set_option linter.all false
namespace Go.Proofs.YtjglmjdfndcmmaaGreat
open Go.RowKit
def RByte : ElemR UInt8 := fun _ _ c cs => cs = [.int .u8 (c.toNat : Int)]
theorem RByte.kept : ElemR.Kept RByte := fun _ _ _ _ _ _ _ _ h => h
def SlC := Sl 1 RByte
section
variable {D : Nat → Prop} {w w' : World} {u : Value}
theorem SlC.now {zs : List UInt8} (h : SlC (Lt w.heap.size) w u zs) (hb : Below w.heap.size w w') : SlC (Lt w'.heap.size) w' u zs := Sl.below h RByte.kept hb hb.size
theorem SlC.below {zs : List UInt8} {B B' : Nat} (h : SlC (Lt B) w u zs) (hb : Below B w w') (hB : B ≤ B') : SlC (Lt B') w' u zs := Sl.below h RByte.kept hb hB
theorem SlC.open_ {zs : List UInt8} (h : SlC D w u zs) : ∃ A c, u = .slice A zs.length c ∧ zs.length ≤ c ∧ c ≤ 9223372036854775807 ∧ SlC D w (.slice A zs.length c) zs := Sl.open_ h
theorem SlC.at_ {zs : List UInt8} {A : Option Addr} {n c k : Nat} (h : SlC D w (.slice A n c) zs) (hk : k < n) :
    ∃ b o z, A = some ⟨b, o, none⟩ ∧ D b ∧ zs[k]? = some z ∧ w.cell? ⟨b, o + k, none⟩ = some (.int .u8 (z.toNat : Int)) := by
  obtain ⟨b, o, x, u, hA, hD, hx, hu, hc⟩ := Sl.at1 h hk
  injection hu with hu; subst hu
  exact ⟨b, o, x, hA, hD, hx, hc⟩
theorem OwnC.slC {w : World} {base : Nat} {v : Value} {l : List UInt8} (h : OwnC w base v l) : SlC (Lt w.heap.size) w v l := OwnW.sl h (fun _ => rfl) (fun _ _ _ _ => rfl)
end
theorem w64 {n : Int} (h : -9223372036854775808 ≤ n ∧ n ≤ 9223372036854775807) : wrap64 n = n := by unfold wrap64; omega
theorem take_next {α : Type} {l : List α} {k : Nat} {y : α} (hy : l[k]? = some y) : l.take (k + 1) = l.take k ++ [y] := by rw [List.take_add_one, hy]; rfl
theorem u32_xor (a b : Nat) (ha : a < 4294967296) (hb : b < 4294967296) : bits .xor .u32 (a : Int) (b : Int) = ((a ^^^ b : Nat) : Int) := u32_xor_nat a b ha hb
theorem and_one (a : Nat) : a &&& 1 = a % 2 := Nat.and_one_is_mod a
theorem u32_and1 (a : Nat) (ha : a < 4294967296) : bits .and .u32 (a : Int) 1 = ((a % 2 : Nat) : Int) := by
  have h := u32_and_nat a 1 ha (by omega)
  rw [and_one] at h
  exact h
theorem u32_xorP (a : Nat) (ha : a < 4294967296) : bits .xor .u32 (a : Int) 3988292384 = ((a ^^^ 3988292384 : Nat) : Int) := u32_xor_nat a 3988292384 ha (by omega)
set_option maxHeartbeats 2000000 in
set_option maxRecDepth 100000 in
theorem sum_any (u : Value) (l : List UInt8) (w : World) (h : SlC (Lt w.heap.size) w u l) :
    Calls Tryz.prog 40 #[u] w fun e w' => e = .returned (.int .i64 (sumOf l : Int)) ∧ w = w' := by
  obtain ⟨A, c, rfl, h1, h2, hs⟩ := h.open_
  have HS := Lib.hid hs
  clear h hs
  go_enter Tryz.func40, Tryz.ntmps40
  go_wp2_with fail
  go_loop [3, 9] (fun rv iv => ∃ k : Nat, k ≤ l.length ∧ iv = .int .i64 (k : Int) ∧ rv = .int .u32 (crcOf (l.take k) : Int)) (fun _ iv => l.length - (intOf iv).toNat)
  case atStart => exact ⟨0, Nat.zero_le _, rfl, rfl⟩
  case round =>
    obtain ⟨k, hk, rfl, rfl⟩ := hrel
    by_cases hlt : k < l.length
    · obtain ⟨b, o, x, rfl, hD, hx, hc⟩ := HS.out.at_ hlt
      have hT : l.take (k + 1) = l.take k ++ [x] := take_next hx
      have HT : Hid (crcOf (l.take (k + 1)) = crcN 8 (crcOf (l.take k) ^^^ x.toNat)) := by show _ = _; unfold crcOf; rw [hT, crcL_snoc]
      have hr := crcOf_lt (l.take k)
      generalize crcOf (l.take k) = r at *
      have hxl := UInt8.toNat_lt x
      have hX : bits .xor .u32 (r : Int) (x.toNat : Int) = ((r ^^^ x.toNat : Nat) : Int) := u32_xor r x.toNat hr (by omega)
      have hr2 := xor_byte_lt x hr
      clear hx hT
      generalize hq : r ^^^ x.toNat = q at *
      go_wp2_with fail
      go_loop [3, 17] (fun rv jv => ∃ j : Nat, j ≤ 8 ∧ jv = .int .i64 (j : Int) ∧ rv = .int .u32 (crcN j q : Int)) (fun _ jv => 8 - (intOf jv).toNat)
      case atStart => exact ⟨0, by omega, rfl, rfl⟩
      case round =>
        obtain ⟨j, hj, rfl, rfl⟩ := hrel
        have HJ := Lib.hid (crcN_succ j q)
        have hy := crcN_lt j hr2
        by_cases hj8 : j < 8
        · generalize crcN j q = y at *
          have ha := u32_and1 y hy
          have hx2 : bits .xor .u32 ((y : Int) / 2) 3988292384 = ((y / 2 ^^^ 3988292384 : Nat) : Int) := u32_xorP (y / 2) (by omega)
          rcases Nat.mod_two_eq_zero_or_one y with h0 | h0
          · have HB : Hid (crcBit y = y / 2) := by show _ = _; unfold crcBit; rw [if_neg (by omega)]
            rw [h0] at ha
            clear hx2 h0
            go_wp2_with fail
            go_round
            case rel => exact ⟨j + 1, by omega, by go_num, by rw [HJ.out, HB.out]; go_num⟩
            case measure => simp [intOf]; omega
          · have HB : Hid (crcBit y = y / 2 ^^^ 3988292384) := by show _ = _; unfold crcBit; rw [if_pos h0]
            rw [h0] at ha
            go_wp2_with fail
            go_round
            case rel => exact ⟨j + 1, by omega, by go_num, by rw [HJ.out, HB.out]⟩
            case measure => simp [intOf]; omega
        · obtain rfl : j = 8 := by omega
          go_wp2_with fail
          go_round
          case rel => exact ⟨k + 1, by omega, by go_num, by rw [HT.out]⟩
          case measure => simp [intOf]; omega
    · obtain rfl : k = l.length := by omega
      have HF : Hid ((sumOf l : Int) = ((4294967295 ^^^ crcOf l : Nat) : Int)) := Eq.refl ((sumOf l : Nat) : Int)
      have hsl := sumOf_lt l
      unfold sumOf at hsl
      rw [List.take_length]
      have hr := crcOf_lt l
      generalize crcOf l = r at *
      have hx : bits .xor .u32 IntKind.u32.max (r : Int) = ((4294967295 ^^^ r : Nat) : Int) := u32_xor_nat 4294967295 r (by omega) hr
      generalize 4294967295 ^^^ r = z at *
      go_wp2_with fail
      go_ret
      exact ⟨by rw [HF.out]; show Ending.returned (.int .i64 (wrap64 z)) = _; rw [w64 (by omega)], rfl⟩
theorem ofInt64 (a : Nat) (ha : a < 9223372036854775808) : (BitVec.ofInt 64 (a : Int)).toNat = a := by
  rw [BitVec.ofInt_natCast, BitVec.toNat_ofNat]; exact Nat.mod_eq_of_lt (by omega)
theorem wrapI64 (n : Int) : IntKind.i64.wrap n = wrap64 n := by
  simp [IntKind.wrap, IntKind.bits, IntKind.signed, wrap64]
  split <;> omega
theorem i64_xorN (a b : Nat) (ha : a < 9223372036854775808) (hb : b < 9223372036854775808) : bits .xor .i64 (a : Int) (b : Int) = ((a ^^^ b : Nat) : Int) := by
  have hx : a ^^^ b < 2 ^ 63 := Nat.xor_lt_two_pow (by omega) (by omega)
  show IntKind.i64.wrap ((BitVec.ofInt 64 (a : Int) ^^^ BitVec.ofInt 64 (b : Int)).toNat : Int) = _
  rw [BitVec.toNat_xor, ofInt64 a ha, ofInt64 b hb, wrapI64, w64 (by omega)]
theorem i64_and1 (a : Nat) (ha : a < 9223372036854775808) : bits .and .i64 (a : Int) 1 = ((a % 2 : Nat) : Int) := by
  show IntKind.i64.wrap ((BitVec.ofInt 64 (a : Int) &&& BitVec.ofInt 64 ((1 : Nat) : Int)).toNat : Int) = _
  rw [BitVec.toNat_and, ofInt64 a ha, ofInt64 1 (by omega), and_one, wrapI64, w64 (by omega)]
set_option maxHeartbeats 2000000 in
set_option maxRecDepth 100000 in
theorem sum_ref (u : Value) (l : List UInt8) (w : World) (h : SlC (Lt w.heap.size) w u l) :
    Calls Tryz.prog 32 #[u] w fun e w' => e = .returned (.int .i64 (sumOf l : Int)) ∧ w = w' := by
  obtain ⟨A, c, rfl, h1, h2, hs⟩ := h.open_
  have HS := Lib.hid hs
  clear h hs
  go_enter Tryz.func32, Tryz.ntmps32
  go_wp2_with fail
  go_loop [3, 4] (fun rv iv => ∃ k : Nat, k ≤ l.length ∧ iv = .int .i64 (k : Int) ∧ rv = .int .i64 (crcOf (l.take k) : Int)) (fun _ iv => l.length - (intOf iv).toNat)
  case atStart => exact ⟨0, Nat.zero_le _, rfl, rfl⟩
  case round =>
    obtain ⟨k, hk, rfl, rfl⟩ := hrel
    by_cases hlt : k < l.length
    · obtain ⟨b, o, x, rfl, hD, hx, hc⟩ := HS.out.at_ hlt
      have hT : l.take (k + 1) = l.take k ++ [x] := take_next hx
      have HT : Hid (crcOf (l.take (k + 1)) = crcN 8 (crcOf (l.take k) ^^^ x.toNat)) := by show _ = _; unfold crcOf; rw [hT, crcL_snoc]
      have hr := crcOf_lt (l.take k)
      generalize crcOf (l.take k) = r at *
      have hxl := UInt8.toNat_lt x
      have hX : bits .xor .i64 (r : Int) (x.toNat : Int) = ((r ^^^ x.toNat : Nat) : Int) := i64_xorN r x.toNat (by omega) (by omega)
      have hr2 := xor_byte_lt x hr
      clear hx hT
      generalize hq : r ^^^ x.toNat = q at *
      go_wp2_with fail
      go_loop [3, 5] (fun rv jv => ∃ j : Nat, j ≤ 8 ∧ jv = .int .i64 (j : Int) ∧ rv = .int .i64 (crcN j q : Int)) (fun _ jv => 8 - (intOf jv).toNat)
      case atStart => exact ⟨0, by omega, rfl, rfl⟩
      case round =>
        obtain ⟨j, hj, rfl, rfl⟩ := hrel
        have HJ := Lib.hid (crcN_succ j q)
        have hy := crcN_lt j hr2
        by_cases hj8 : j < 8
        · generalize crcN j q = y at *
          have ha := i64_and1 y (by omega)
          have hx2 : bits .xor .i64 ((y : Int) / 2) 3988292384 = ((y / 2 ^^^ 3988292384 : Nat) : Int) := i64_xorN (y / 2) 3988292384 (by omega) (by omega)
          rcases Nat.mod_two_eq_zero_or_one y with h0 | h0
          · have HB : Hid (crcBit y = y / 2) := by show _ = _; unfold crcBit; rw [if_neg (by omega)]
            rw [h0] at ha
            clear hx2 h0
            go_wp2_with fail
            go_round
            case rel => exact ⟨j + 1, by omega, by go_num, by rw [HJ.out, HB.out]; go_num⟩
            case measure => simp [intOf]; omega
          · have HB : Hid (crcBit y = y / 2 ^^^ 3988292384) := by show _ = _; unfold crcBit; rw [if_pos h0]
            rw [h0] at ha
            go_wp2_with fail
            go_round
            case rel => exact ⟨j + 1, by omega, by go_num, by rw [HJ.out, HB.out]⟩
            case measure => simp [intOf]; omega
        · obtain rfl : j = 8 := by omega
          go_wp2_with fail
          go_round
          case rel => exact ⟨k + 1, by omega, by go_num, by rw [HT.out]⟩
          case measure => simp [intOf]; omega
    · obtain rfl : k = l.length := by omega
      have HF : Hid ((sumOf l : Int) = ((4294967295 ^^^ crcOf l : Nat) : Int)) := Eq.refl ((sumOf l : Nat) : Int)
      have hsl := sumOf_lt l
      unfold sumOf at hsl
      rw [List.take_length]
      have hr := crcOf_lt l
      generalize crcOf l = r at *
      have hx : bits .xor .i64 4294967295 (r : Int) = ((4294967295 ^^^ r : Nat) : Int) := i64_xorN 4294967295 r (by omega) (by omega)
      generalize 4294967295 ^^^ r = z at *
      go_wp2_with fail
      go_ret
      exact ⟨by rw [HF.out]; rfl, rfl⟩
end Go.Proofs.YtjglmjdfndcmmaaGreat

set_option linter.all false
namespace Go.Proofs.YtjglmjdfndcmmaaGreat
open Go.RowKit
open Classical in
noncomputable def ext (w W : World) : World := if Below w.heap.size w W then W else w
theorem ext_below (w W : World) : Below w.heap.size w (ext w W) := by
  unfold ext; split
  · assumption
  · exact Below.refl _ _
theorem ext_of {w W : World} (h : Below w.heap.size w W) : ext w W = W := by unfold ext; rw [if_pos h]
theorem ext_ex {w W : World} (h : Below w.heap.size w W) : ∃ W', W = ext w W' := ⟨W, (ext_of h).symm⟩
theorem wp_region_grow {P : Program} {id : Nat} {Q : Exit → Act → World → Prop} {a : Act} {w : World} {l : List Oper} (hm : P.follows .mixedOrders = true) (hB : Region.lexB .any l.toArray = true)
    (h : wpQuiet P l.toArray (fun w' => ∃ W, w' = ext w W) (fun a' => ∀ w', (∃ W, w' = ext w W) → Q .normal a' w') l a) : (Code.region id l.toArray true).wp P Q a w :=
  wp_region_quiet (C := fun w' => ∃ W, w' = ext w W) hm hB (ext_ex ((Below.refl _ w).drew)) (by simpa using h)
theorem grow_of {P : Program} {f : FuncId} {args : Array Value} {w W : World} {v : Value}
    (h : Calls P f args (ext w W) fun e w' => e = .returned v ∧ Below (ext w W).heap.size (ext w W) w') : Calls P f args (ext w W) fun e w'' => e = .returned v ∧ ∃ W', w'' = ext w W' :=
  h.mono fun _ _ ⟨he, hb⟩ => ⟨he, ext_ex (bthen (ext_below w W) hb)⟩
theorem grow_same' {P : Program} {f : FuncId} {args : Array Value} {w W : World} {v : Value}
    (h : Calls P f args (ext w W) fun e w' => e = .returned v ∧ ext w W = w') : Calls P f args (ext w W) fun e w'' => e = .returned v ∧ ∃ W', w'' = ext w W' :=
  h.mono fun _ _ ⟨he, hb⟩ => ⟨he, W, hb.symm⟩
theorem grow_drew {P : Program} {f : FuncId} {args : Array Value} {w W : World} {v : Value}
    (h : Calls P f args (ext w W) fun e w' => e = .returned v ∧ ∃ q, w' = (ext w W).drewN q) : Calls P f args (ext w W) fun e w'' => e = .returned v ∧ ∃ W', w'' = ext w W' :=
  h.mono fun _ _ ⟨he, q, hq⟩ => ⟨he, ext_ex (by rw [hq]; exact bdrawn (ext_below w W) q)⟩
end Go.Proofs.YtjglmjdfndcmmaaGreat
