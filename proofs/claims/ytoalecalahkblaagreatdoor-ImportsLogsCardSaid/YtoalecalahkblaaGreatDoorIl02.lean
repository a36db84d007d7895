/- Texts of this seat, merged. -/
import Derived.Outline
import Derived.Shelf.Abstract
import Derived.Laws.IdiomStrings
import Derived.Shelf.Strings.Builder1
import Derived.Shelf.Strings.Builder2
import Derived.Shelf.Small.Bits
import Derived.Shelf.Small.Strs
import Derived.Shelf.Small.Wraps
import Derived.Shelf.Strings.BuilderF
import Derived.Shelf.Strings.BuilderK
import Derived.Shelf.Utf8.RuneCount
import Derived.Shelf.Strings.Builder2Cap
import Derived.Shelf.Strconv.Atoi
import Derived.Shelf.Strconv.Itoa0
import Derived.Shelf.Strconv.Itoa1
import Derived.Shelf.LaysM
import Derived.Shelf.Strconv.Itoa2
import Derived.Shelf.Strconv.Itoa3
import Derived.Shelf.Strconv.AtoiErrFast
import Derived.Shelf.Strconv.ParseIntEmpty
import Derived.Shelf.Strconv.AtoiFail
import Derived.Shelf.Strconv.Clone
import Derived.Shelf.Strconv.SyntaxError
import Derived.Shelf.LaysC
import Derived.Shelf.Strconv.ToError
import Derived.Shelf.Strconv.Lower
import Derived.Shelf.Strconv.ParseUint10
import Derived.Shelf.Strconv.ParseUint10Empty
import Derived.Shelf.Strconv.ParseUint10Any
import Derived.Shelf.Strconv.ParseInt10
import Derived.Shelf.Strconv.AtoiLong
import Derived.Shelf.Strconv.AtoiInnerAll
import Derived.Shelf.Strconv.RangeError
import Derived.Shelf.Strconv.ToErrorRange
import Derived.Shelf.Strconv.AtoiAll
import Derived.Shelf.Strconv.ErrVarAll
import Derived.Shelf.Strings.Search1
import Derived.Shelf.Strings.Search2
import Derived.Shelf.Strings.Search3
import Derived.Shelf.Strings.Count
import Derived.Shelf.Strings.Shaped
import Derived.Shelf.Sort.Plain
import Derived.Shelf.Strings.Prefix
import Derived.Shelf.Strings.Split
import Derived.Shelf.Strings.Replace
import Derived.Shelf.Strings.SplitShaped
import Derived.Shelf.Unicode.Decode
import Derived.Shelf.Strings.RuneCount
import Derived.Shelf.Unicode.DecodeSlow
import Derived.Shelf.Unicode.DecodeAny
import Derived.Shelf.Strings.BuilderCap
import Derived.Shelf.Slices.Turned
import Derived.Ground.Names2Prog
import Derived.Shelf.Slices.Clone
import Derived.Shelf.Slices.CompactS
import Derived.Shelf.Slices.SearchI
import Derived.Shelf.Slices.Cells
import Derived.Shelf.Slices.In.SortNone
import Derived.Ground.SlgnProg
import Derived.Shelf.SlicesE.Compact
import Derived.Shelf.SlicesE.Clone
import Derived.Ground.SlgfProg
import Derived.Shelf.SlicesE.IndexFunc
import Derived.Shelf.SlicesE.DeleteFunc
import Derived.Test.YtoalecalahkblaaGreatDoorProg
import Derived.Sort.OwnSorted
import Derived.Lib.Bytes
import Derived.Test.YtoalecalahkblaaGreatDoorIl01
set_option linter.all false
set_option linter.all false
namespace Go.Proofs.YtoalecalahkblaaGreatDoor
open Go.RowKit
structure Fld where
  nm : ByteArray
  v : Val
structure Ev where
  cas : ByteArray
  act : ByteArray
  res : ByteArray
  life : Int
  time : Int
  data : List Fld
def arNum (n : Nat) : List UInt8 := if n < 128 then [UInt8.ofNat n] else UInt8.ofNat (n % 128 + 128) :: arNum (n / 128)
termination_by n
def arText (s : List UInt8) : List UInt8 := arNum s.length ++ s
def zigZ (n : Int) : Nat := if n < 0 then (-2 * n - 1).toNat else (2 * n).toNat
def arVal (v : Val) : List UInt8 := arNum v.kind.toNat ++ (if v.kind = 1 then arNum v.n.toNat else if v.kind = 2 then arNum (zigZ v.n) else arText v.s.data.toList)
def arFld (f : Fld) : List UInt8 := arText f.nm.data.toList ++ arVal f.v
def arData (e : Ev) : List UInt8 := arNum e.data.length ++ e.data.flatMap arFld
def lead (x : Nat) : List Nat → Nat
  | [] => 0
  | y :: l => if y = x then lead x l + 1 else 0
def arRunsF : Nat → List Nat → List UInt8
  | 0, _ => []
  | _ + 1, [] => []
  | f + 1, x :: l => arNum x ++ arNum (lead x l + 1) ++ arRunsF f (l.drop (lead x l))
def arRuns (l : List Nat) : List UInt8 := arRunsF l.length l
def names3 (l : List Ev) : List Bs := l.map (fun e => e.cas.data.toList) ++ (l.map (fun e => e.act.data.toList) ++ l.map (fun e => e.res.data.toList))
def words (l : List Ev) : List Bs := setB (names3 l)
def arTimes : Int → List Ev → List UInt8
  | _, [] => []
  | t, e :: l => arNum (e.time - t).toNat ++ arTimes e.time l
def atW (ws : List Bs) (s : ByteArray) : Nat := ws.idxOf s.data.toList
def arBlock (l : List Ev) : List UInt8 :=
  arNum (words l).length ++ (words l).flatMap arText ++ arRuns (l.map fun e => atW (words l) e.cas) ++ arRuns (l.map fun e => atW (words l) e.act) ++ arRuns (l.map fun e => atW (words l) e.res) ++
    arRuns (l.map fun e => e.life.toNat) ++ arTimes 0 l ++ l.flatMap arData
def part (l : List Ev) (n : Nat) : List Ev := (l.drop (100 * n)).take 100
def nParts (l : List Ev) : Nat := (l.length + 99) / 100
def arParts (l : List Ev) (n : Nat) : List UInt8 := (List.range n).flatMap fun k => arBlock (part l k)
def arBody (l : List Ev) : List UInt8 := arNum l.length ++ arParts l (nParts l)
def crcBit (r : Nat) : Nat := if r % 2 = 1 then r / 2 ^^^ 3988292384 else r / 2
def crcN : Nat → Nat → Nat
  | 0, r => r
  | k + 1, r => crcN k (crcBit r)
def crcL (r : Nat) (l : List UInt8) : Nat := l.foldl (fun r c => crcN 8 (r ^^^ c.toNat)) r
def crcOf (l : List UInt8) : Nat := crcL 4294967295 l
def sumOf (l : List UInt8) : Nat := 4294967295 ^^^ crcOf l
def le4 (s : Nat) : List UInt8 := [UInt8.ofNat (s % 256), UInt8.ofNat (s / 256 % 256), UInt8.ofNat (s / 65536 % 256), UInt8.ofNat (s / 16777216 % 256)]
def arPack (l : List Ev) : List UInt8 := arBody l ++ le4 (sumOf (arBody l))
def fldB (f : Fld) : Bool := isNameB f.nm && validV f.v
def fldAt (l : List Fld) (i : Nat) : Bool := match l[i]? with
  | none => true
  | some f => fldB f && (decide (i = 0) || match l[i - 1]? with | none => true | some g => decide (g.nm.data.toList < f.nm.data.toList))
def fldsB (l : List Fld) : Bool := (List.range l.length).all (fldAt l)
def evB (e : Ev) : Bool := isNameB e.cas && isNameB e.act && (noS e.res || isNameB e.res) && decide (1 ≤ e.life ∧ e.life ≤ 6) && decide (0 ≤ e.time ∧ e.time ≤ 1099511627776) && decide (e.data.length ≤ 8) && fldsB e.data
def evAt (l : List Ev) (i : Nat) : Bool := match l[i]? with
  | none => true
  | some f => evB f && (decide (i = 0) || match l[i - 1]? with | none => true | some g => decide (g.time ≤ f.time))
def logB (l : List Ev) : Bool := decide (l.length ≤ 2000) && (List.range l.length).all (evAt l)
theorem all_no {n k : Nat} {p : Nat → Bool} (hk : k < n) (h : p k = false) : (List.range n).all p = false := by
  rw [Bool.eq_false_iff]
  intro ha
  rw [List.all_eq_true] at ha
  have := ha k (List.mem_range.2 hk)
  rw [h] at this; cases this
theorem all_yes {n : Nat} {p : Nat → Bool} (h : ∀ k, k < n → p k = true) : (List.range n).all p = true := by
  rw [List.all_eq_true]
  exact fun k hk => h k (List.mem_range.1 hk)
end Go.Proofs.YtoalecalahkblaaGreatDoor

set_option linter.all false
namespace Go.Proofs.YtoalecalahkblaaGreatDoor
open Go.RowKit
structure FitV (v : Val) : Prop where
  kind : Fit v.kind
  n : Fit v.n
  s : v.s.size ≤ maxLen
def valV (v : Val) : Value := .agg #[.int .i64 v.kind, .int .i64 v.n, .string v.s]
def RVal : ElemR Val := fun _ _ v cs => cs = [.int .i64 v.kind, .int .i64 v.n, .string v.s] ∧ FitV v
theorem RVal.kept : ElemR.Kept RVal := fun _ _ _ _ _ _ _ _ h => h
def SlV := Sl 3 RVal
def RVar : ElemR Var := fun D w x cs => ∃ iv, cs = [.string x.name, .int .i64 x.kind, .int .i64 x.low, .int .i64 x.high, iv] ∧ x.name.size ≤ maxLen ∧ Fit x.kind ∧ Fit x.low ∧ Fit x.high ∧ SlS D w iv x.items
theorem RVar.kept : ElemR.Kept RVar := by
  rintro D D' w w' x cs hd hs ⟨iv, rfl, h1, h2, h3, h4, hi⟩
  exact ⟨iv, rfl, h1, h2, h3, h4, Sl.keep hi RStr.kept hd hs⟩
def SlX := Sl 5 RVar
def IsVar (D : Nat → Prop) (w : World) (u : Value) (x : Var) : Prop := ∃ iv, u = .agg #[.string x.name, .int .i64 x.kind, .int .i64 x.low, .int .i64 x.high, iv] ∧ x.name.size ≤ maxLen ∧ Fit x.kind ∧ Fit x.low ∧ Fit x.high ∧ SlS D w iv x.items
section
variable {D D' : Nat → Prop} {w w' : World} {u : Value}
theorem IsVar.now {x : Var} (h : IsVar (Lt w.heap.size) w u x) (hb : Below w.heap.size w w') : IsVar (Lt w'.heap.size) w' u x := by
  obtain ⟨iv, e, h1, h2, h3, h4, hi⟩ := h
  exact ⟨iv, e, h1, h2, h3, h4, hi.now hb⟩
theorem IsVar.below {x : Var} {B B' : Nat} (h : IsVar (Lt B) w u x) (hb : Below B w w') (hB : B ≤ B') : IsVar (Lt B') w' u x := by
  obtain ⟨iv, e, h1, h2, h3, h4, hi⟩ := h
  exact ⟨iv, e, h1, h2, h3, h4, hi.below hb hB⟩
theorem SlV.now {zs : List Val} (h : SlV (Lt w.heap.size) w u zs) (hb : Below w.heap.size w w') : SlV (Lt w'.heap.size) w' u zs := Sl.below h RVal.kept hb hb.size
theorem SlX.now {zs : List Var} (h : SlX (Lt w.heap.size) w u zs) (hb : Below w.heap.size w w') : SlX (Lt w'.heap.size) w' u zs := Sl.below h RVar.kept hb hb.size
theorem SlV.open_ {zs : List Val} (h : SlV D w u zs) : ∃ A c, u = .slice A zs.length c ∧ zs.length ≤ c ∧ c ≤ 9223372036854775807 ∧ SlV D w (.slice A zs.length c) zs := Sl.open_ h
theorem SlX.open_ {zs : List Var} (h : SlX D w u zs) : ∃ A c, u = .slice A zs.length c ∧ zs.length ≤ c ∧ c ≤ 9223372036854775807 ∧ SlX D w (.slice A zs.length c) zs := Sl.open_ h
theorem SlV.at_ {zs : List Val} {A : Option Addr} {n c k : Nat} (h : SlV D w (.slice A n c) zs) (hk : k < n) :
    ∃ b o v, A = some ⟨b, o, none⟩ ∧ D b ∧ zs[k]? = some v ∧ FitV v ∧ w.cell? ⟨b, o + k * 3, none⟩ = some (.int .i64 v.kind) ∧ w.cell? ⟨b, o + k * 3 + 1, none⟩ = some (.int .i64 v.n) ∧ w.cell? ⟨b, o + k * 3 + 2, none⟩ = some (.string v.s) := by
  obtain ⟨b, o, x, u0, u1, u2, hA, hD, hx, ⟨hu, hf⟩, h0, h1, h2⟩ := Sl.at3 h hk
  injection hu with e0 hu; injection hu with e1 hu; injection hu with e2 hu
  subst e0 e1 e2
  exact ⟨b, o, x, hA, hD, hx, hf, h0, h1, h2⟩
theorem Sl.at5 {α : Type} {R : ElemR α} {xs : List α} {A : Option Addr} {n c k : Nat} (h : Sl 5 R D w (.slice A n c) xs) (hk : k < n) :
    ∃ b o x u0 u1 u2 u3 u4, A = some ⟨b, o, none⟩ ∧ D b ∧ xs[k]? = some x ∧ R D w x [u0, u1, u2, u3, u4] ∧ w.cell? ⟨b, o + k * 5, none⟩ = some u0 ∧ w.cell? ⟨b, o + k * 5 + 1, none⟩ = some u1 ∧ w.cell? ⟨b, o + k * 5 + 2, none⟩ = some u2 ∧ w.cell? ⟨b, o + k * 5 + 3, none⟩ = some u3 ∧ w.cell? ⟨b, o + k * 5 + 4, none⟩ = some u4 := by
  obtain ⟨A', c', hv, h1, h2, h3⟩ := h
  injection hv with hA hn hc
  subst hA hn hc
  obtain ⟨b, o, cs, hA, hD, hl, hr, hcell⟩ := h3 k xs[k] (List.getElem?_eq_getElem hk)
  match cs, hl with
  | [u0, u1, u2, u3, u4], _ => exact ⟨b, o, xs[k], u0, u1, u2, u3, u4, hA, hD, List.getElem?_eq_getElem hk, hr, hcell 0 u0 rfl, hcell 1 u1 rfl, hcell 2 u2 rfl, hcell 3 u3 rfl, hcell 4 u4 rfl⟩
theorem SlX.at_ {zs : List Var} {A : Option Addr} {n c k : Nat} (h : SlX D w (.slice A n c) zs) (hk : k < n) :
    ∃ b o x iv, A = some ⟨b, o, none⟩ ∧ D b ∧ zs[k]? = some x ∧ IsVar D w (.agg #[.string x.name, .int .i64 x.kind, .int .i64 x.low, .int .i64 x.high, iv]) x ∧ SlS D w iv x.items ∧ w.cell? ⟨b, o + k * 5, none⟩ = some (.string x.name) ∧ w.cell? ⟨b, o + k * 5 + 1, none⟩ = some (.int .i64 x.kind) ∧ w.cell? ⟨b, o + k * 5 + 2, none⟩ = some (.int .i64 x.low) ∧ w.cell? ⟨b, o + k * 5 + 3, none⟩ = some (.int .i64 x.high) ∧ w.cell? ⟨b, o + k * 5 + 4, none⟩ = some iv := by
  obtain ⟨b, o, x, u0, u1, u2, u3, u4, hA, hD, hx, ⟨iv, hu, a1, a2, a3, a4, hi⟩, h0, h1, h2, h3, h4⟩ := Sl.at5 h hk
  injection hu with e0 hu; injection hu with e1 hu; injection hu with e2 hu; injection hu with e3 hu; injection hu with e4 hu
  subst e0 e1 e2 e3 e4
  exact ⟨b, o, x, u4, hA, hD, hx, ⟨u4, rfl, a1, a2, a3, a4, hi⟩, hi, h0, h1, h2, h3, h4⟩
end
theorem numB_yes {n : Int} (h1 : -4503599627370496 ≤ n) (h2 : n ≤ 4503599627370496) : numB n = true := by unfold numB; simp [h1, h2]
theorem numB_no {n : Int} (h : ¬ (-4503599627370496 ≤ n ∧ n ≤ 4503599627370496)) : numB n = false := by unfold numB; simp only [h, decide_false]
set_option maxHeartbeats 400000 in
theorem number_any (n : Int) (w : World) : Calls Tryz.prog 166 #[.int .i64 n] w fun e w' => e = .returned (.bool (numB n)) ∧ w = w' := by
  by_cases h1 : -4503599627370496 ≤ n <;> by_cases h2 : n ≤ 4503599627370496
  all_goals
    go_enter Tryz.func166, Tryz.ntmps166
    go_wp2
    go_ret
    exact ⟨ret_bool (by first | exact (numB_yes h1 h2).symm | exact (numB_no (fun h => by omega)).symm), rfl⟩
set_option maxHeartbeats 400000 in
theorem number_ref (n : Int) (w : World) : Calls Tryz.prog 152 #[.int .i64 n] w fun e w' => e = .returned (.bool (numB n)) ∧ w = w' := by
  by_cases h1 : -4503599627370496 ≤ n <;> by_cases h2 : n ≤ 4503599627370496
  all_goals
    go_enter Tryz.func152, Tryz.ntmps152
    go_wp2
    go_ret
    exact ⟨ret_bool (by first | exact (numB_yes h1 h2).symm | exact (numB_no (fun h => by omega)).symm), rfl⟩
theorem plainC_iff (c : UInt8) : plainC c = true ↔ 32 ≤ (c.toNat : Int) ∧ (c.toNat : Int) ≤ 126 := by unfold plainC; simp; omega
set_option maxHeartbeats 400000 in
theorem text1_any (c : UInt8) (w : World) : Calls Tryz.prog 205 #[.int .u8 (c.toNat : Int)] w fun e w' => e = .returned (.bool (!plainC c)) ∧ w = w' := by
  have HP := Lib.hid (plainC_iff c)
  generalize hq : plainC c = q at *
  generalize (c.toNat : Int) = z at *
  by_cases h1 : z < 32
  · have hq' : q = false := by cases q with | false => rfl | true => have := HP.out.1 rfl; omega
    subst hq'
    go_enter Tryz.func205, Tryz.ntmps205
    go_wp2
    go_ret
    exact ⟨rfl, rfl⟩
  by_cases h2 : 126 < z
  · have hq' : q = false := by cases q with | false => rfl | true => have := HP.out.1 rfl; omega
    subst hq'
    go_enter Tryz.func205, Tryz.ntmps205
    go_wp2
    go_ret
    exact ⟨rfl, rfl⟩
  · have hq' : q = true := HP.out.2 ⟨by omega, by omega⟩
    subst hq'
    go_enter Tryz.func205, Tryz.ntmps205
    go_wp2
    go_ret
    exact ⟨rfl, rfl⟩
def RowB (w : World) (g : Nat) (l : List UInt8) : Prop := ∀ k c, l[k]? = some c → w.cell? ⟨g, k, none⟩ = some (.int .u8 (c.toNat : Int))
theorem any_false_of {α : Type} (p : α → Bool) (xs : List α) (h : ∀ q y, q < xs.length → xs[q]? = some y → p y = false) : xs.any p = false := by
  rw [List.any_eq_false]
  intro x hx
  obtain ⟨q, hq, rfl⟩ := List.mem_iff_getElem.1 hx
  rw [h q _ hq (List.getElem?_eq_getElem hq)]; simp
set_option maxHeartbeats 400000 in
theorem indexTextB (g c : Nat) (l : List UInt8) (w : World) (hl : l.length ≤ 1000000) (h : RowB w g l) :
    Calls Tryz.prog 91 #[.slice (some ⟨g, 0, none⟩) l.length c, .func (.func 205) #[] #[]] w fun e w' => ∃ z : Int, e = .returned (.int .i64 z) ∧ decide (0 ≤ z) = (l.any fun x => !plainC x) ∧ w = w' := by
  have eg : ∀ args w, (callFunc 205 args).run Tryz.prog w = .ok (.enter 205 args) w := enters_of Tryz.func205 (by kernel_rfl) rfl
  have HH := Lib.hid h
  clear h
  go_enter Tryz.func91, Tryz.ntmps91
  go_wp2_with fail
  go_loopw [8] (fun i wr => ∃ j : Nat, j ≤ l.length ∧ i = .int .i64 j ∧ (∀ q t, q < j → l[q]? = some t → (!plainC t) = false) ∧ wr = w) (fun i _ => l.length - (intOf i).toNat)
  case atStart => exact ⟨0, Nat.zero_le _, rfl, fun q _ h => absurd h (by omega), rfl⟩
  case round =>
    obtain ⟨j, hj, rfl, hp, rfl⟩ := hrel
    have HP := Lib.hid hp
    clear hp
    by_cases hlt : j < l.length
    · have HX : Hid (l[j]? = some l[j]) := List.getElem?_eq_getElem hlt
      have c0 := HH.out j _ HX.out
      have HC := Lib.hid (fun W => text1_any l[j] W)
      generalize l[j] = x at *
      generalize hq : plainC x = q at *
      have HQ := Lib.hid hq
      clear hq
      cases q
      · go_wp2_with (go_at_fn 205; refine (HC.out _).mono ?_; rintro e w' ⟨rfl, rfl⟩)
        go_ret
        refine ⟨_, rfl, ?_, rfl⟩
        have : (l.any fun x => !plainC x) = true := List.any_eq_true.2 ⟨x, List.mem_of_getElem? HX.out, by rw [HQ.out]; rfl⟩
        rw [this]
        simp
      · go_wp2_with (go_at_fn 205; refine (HC.out _).mono ?_; rintro e w' ⟨rfl, rfl⟩)
        go_roundw
        case rel =>
          refine ⟨j + 1, by omega, by go_num, fun q y hq hy => ?_, trivial⟩
          by_cases e : q = j
          · subst e; rw [HX.out] at hy; injection hy with hy; subst hy; rw [HQ.out]; rfl
          · exact HP.out q y (by omega) hy
        case measure => simp [intOf]; omega
    · go_wp2_with fail
      go_ret
      refine ⟨_, rfl, ?_, rfl⟩
      rw [any_false_of _ l (fun q y hq hy => HP.out q y (by omega) hy)]
      simp
theorem containsTextB (g c : Nat) (l : List UInt8) (w : World) (hl : l.length ≤ 1000000) (h : RowB w g l) :
    Calls Tryz.prog 41 #[.slice (some ⟨g, 0, none⟩) l.length c, .func (.func 205) #[] #[]] w fun e w' => e = .returned (.bool (l.any fun x => !plainC x)) ∧ w = w' := by
  have HC := Lib.hid (indexTextB g c l w hl h)
  clear h
  go_enter Tryz.func41, Tryz.ntmps41
  go_wp2_with (go_at_call 91; refine HC.out.mono ?_; rintro e w' ⟨z, rfl, hz, rfl⟩)
  go_ret
  exact ⟨rfl, rfl⟩
end Go.Proofs.YtoalecalahkblaaGreatDoor

set_option linter.all false
namespace Go.Proofs.YtoalecalahkblaaGreatDoor
open Go.RowKit
structure FitFl (f : Fld) : Prop where
  nm : f.nm.size ≤ maxLen
  v : FitV f.v
structure FitEv (e : Ev) : Prop where
  cas : e.cas.size ≤ maxLen
  act : e.act.size ≤ maxLen
  res : e.res.size ≤ maxLen
  life : Fit e.life
  time : Fit e.time
def RFld : ElemR Fld := fun _ _ f cs => cs = [.string f.nm, .int .i64 f.v.kind, .int .i64 f.v.n, .string f.v.s] ∧ FitFl f
theorem RFld.kept : ElemR.Kept RFld := fun _ _ _ _ _ _ _ _ h => h
def SlFl := Sl 4 RFld
def REv : ElemR Ev := fun D w e cs => ∃ dv, cs = [.string e.cas, .string e.act, .string e.res, .int .i64 e.life, .int .i64 e.time, dv] ∧ FitEv e ∧ SlFl D w dv e.data
theorem REv.kept : ElemR.Kept REv := by
  rintro D D' w w' x cs hd hs ⟨dv, rfl, h1, hi⟩
  exact ⟨dv, rfl, h1, Sl.keep hi RFld.kept hd hs⟩
def SlEv := Sl 6 REv
def fldV (f : Fld) : Value := .agg #[.string f.nm, .int .i64 f.v.kind, .int .i64 f.v.n, .string f.v.s]
def evV (e : Ev) (dv : Value) : Value := .agg #[.string e.cas, .string e.act, .string e.res, .int .i64 e.life, .int .i64 e.time, dv]
def IsEv (D : Nat → Prop) (w : World) (u : Value) (e : Ev) : Prop := ∃ dv, u = evV e dv ∧ FitEv e ∧ SlFl D w dv e.data
def IsLog (D : Nat → Prop) (w : World) (u : Value) (l : List Ev) : Prop := ∃ ev, u = .agg #[ev] ∧ SlEv D w ev l
section
variable {D : Nat → Prop} {w w' : World} {u : Value}
theorem SlFl.now {zs : List Fld} (h : SlFl (Lt w.heap.size) w u zs) (hb : Below w.heap.size w w') : SlFl (Lt w'.heap.size) w' u zs := Sl.below h RFld.kept hb hb.size
theorem SlEv.now {zs : List Ev} (h : SlEv (Lt w.heap.size) w u zs) (hb : Below w.heap.size w w') : SlEv (Lt w'.heap.size) w' u zs := Sl.below h REv.kept hb hb.size
theorem SlFl.below {zs : List Fld} {B B' : Nat} (h : SlFl (Lt B) w u zs) (hb : Below B w w') (hB : B ≤ B') : SlFl (Lt B') w' u zs := Sl.below h RFld.kept hb hB
theorem SlEv.below {zs : List Ev} {B B' : Nat} (h : SlEv (Lt B) w u zs) (hb : Below B w w') (hB : B ≤ B') : SlEv (Lt B') w' u zs := Sl.below h REv.kept hb hB
theorem IsEv.now {e : Ev} (h : IsEv (Lt w.heap.size) w u e) (hb : Below w.heap.size w w') : IsEv (Lt w'.heap.size) w' u e := by
  obtain ⟨dv, h1, h2, h3⟩ := h; exact ⟨dv, h1, h2, h3.now hb⟩
theorem IsEv.below {e : Ev} {B B' : Nat} (h : IsEv (Lt B) w u e) (hb : Below B w w') (hB : B ≤ B') : IsEv (Lt B') w' u e := by
  obtain ⟨dv, h1, h2, h3⟩ := h; exact ⟨dv, h1, h2, h3.below hb hB⟩
theorem IsLog.now {l : List Ev} (h : IsLog (Lt w.heap.size) w u l) (hb : Below w.heap.size w w') : IsLog (Lt w'.heap.size) w' u l := by
  obtain ⟨ev, h1, h2⟩ := h; exact ⟨ev, h1, h2.now hb⟩
theorem SlFl.open_ {zs : List Fld} (h : SlFl D w u zs) : ∃ A c, u = .slice A zs.length c ∧ zs.length ≤ c ∧ c ≤ 9223372036854775807 ∧ SlFl D w (.slice A zs.length c) zs := Sl.open_ h
theorem SlEv.open_ {zs : List Ev} (h : SlEv D w u zs) : ∃ A c, u = .slice A zs.length c ∧ zs.length ≤ c ∧ c ≤ 9223372036854775807 ∧ SlEv D w (.slice A zs.length c) zs := Sl.open_ h
theorem Sl.at4 {α : Type} {R : ElemR α} {xs : List α} {A : Option Addr} {n c k : Nat} (h : Sl 4 R D w (.slice A n c) xs) (hk : k < n) :
    ∃ b o x u0 u1 u2 u3, A = some ⟨b, o, none⟩ ∧ D b ∧ xs[k]? = some x ∧ R D w x [u0, u1, u2, u3] ∧ w.cell? ⟨b, o + k * 4, none⟩ = some u0 ∧ w.cell? ⟨b, o + k * 4 + 1, none⟩ = some u1 ∧ w.cell? ⟨b, o + k * 4 + 2, none⟩ = some u2 ∧ w.cell? ⟨b, o + k * 4 + 3, none⟩ = some u3 := by
  obtain ⟨A', c', hv, h1, h2, h3⟩ := h
  injection hv with hA hn hc
  subst hA hn hc
  obtain ⟨b, o, cs, hA, hD, hl, hr, hcell⟩ := h3 k xs[k] (List.getElem?_eq_getElem hk)
  match cs, hl with
  | [u0, u1, u2, u3], _ => exact ⟨b, o, xs[k], u0, u1, u2, u3, hA, hD, List.getElem?_eq_getElem hk, hr, hcell 0 u0 rfl, hcell 1 u1 rfl, hcell 2 u2 rfl, hcell 3 u3 rfl⟩
theorem Sl.at6 {α : Type} {R : ElemR α} {xs : List α} {A : Option Addr} {n c k : Nat} (h : Sl 6 R D w (.slice A n c) xs) (hk : k < n) :
    ∃ b o x u0 u1 u2 u3 u4 u5, A = some ⟨b, o, none⟩ ∧ D b ∧ xs[k]? = some x ∧ R D w x [u0, u1, u2, u3, u4, u5] ∧ w.cell? ⟨b, o + k * 6, none⟩ = some u0 ∧ w.cell? ⟨b, o + k * 6 + 1, none⟩ = some u1 ∧ w.cell? ⟨b, o + k * 6 + 2, none⟩ = some u2 ∧ w.cell? ⟨b, o + k * 6 + 3, none⟩ = some u3 ∧ w.cell? ⟨b, o + k * 6 + 4, none⟩ = some u4 ∧ w.cell? ⟨b, o + k * 6 + 5, none⟩ = some u5 := by
  obtain ⟨A', c', hv, h1, h2, h3⟩ := h
  injection hv with hA hn hc
  subst hA hn hc
  obtain ⟨b, o, cs, hA, hD, hl, hr, hcell⟩ := h3 k xs[k] (List.getElem?_eq_getElem hk)
  match cs, hl with
  | [u0, u1, u2, u3, u4, u5], _ => exact ⟨b, o, xs[k], u0, u1, u2, u3, u4, u5, hA, hD, List.getElem?_eq_getElem hk, hr, hcell 0 u0 rfl, hcell 1 u1 rfl, hcell 2 u2 rfl, hcell 3 u3 rfl, hcell 4 u4 rfl, hcell 5 u5 rfl⟩
theorem SlFl.at_ {zs : List Fld} {A : Option Addr} {n c k : Nat} (h : SlFl D w (.slice A n c) zs) (hk : k < n) :
    ∃ b o f, A = some ⟨b, o, none⟩ ∧ D b ∧ zs[k]? = some f ∧ FitFl f ∧ w.cell? ⟨b, o + k * 4, none⟩ = some (.string f.nm) ∧ w.cell? ⟨b, o + k * 4 + 1, none⟩ = some (.int .i64 f.v.kind) ∧ w.cell? ⟨b, o + k * 4 + 2, none⟩ = some (.int .i64 f.v.n) ∧ w.cell? ⟨b, o + k * 4 + 3, none⟩ = some (.string f.v.s) := by
  obtain ⟨b, o, x, u0, u1, u2, u3, hA, hD, hx, ⟨hu, hf⟩, h0, h1, h2, h3⟩ := Sl.at4 h hk
  injection hu with e0 hu; injection hu with e1 hu; injection hu with e2 hu; injection hu with e3 hu
  subst e0 e1 e2 e3
  exact ⟨b, o, x, hA, hD, hx, hf, h0, h1, h2, h3⟩
theorem SlEv.at_ {zs : List Ev} {A : Option Addr} {n c k : Nat} (h : SlEv D w (.slice A n c) zs) (hk : k < n) :
    ∃ b o e dv, A = some ⟨b, o, none⟩ ∧ D b ∧ zs[k]? = some e ∧ FitEv e ∧ SlFl D w dv e.data ∧ w.cell? ⟨b, o + k * 6, none⟩ = some (.string e.cas) ∧ w.cell? ⟨b, o + k * 6 + 1, none⟩ = some (.string e.act) ∧ w.cell? ⟨b, o + k * 6 + 2, none⟩ = some (.string e.res) ∧ w.cell? ⟨b, o + k * 6 + 3, none⟩ = some (.int .i64 e.life) ∧ w.cell? ⟨b, o + k * 6 + 4, none⟩ = some (.int .i64 e.time) ∧ w.cell? ⟨b, o + k * 6 + 5, none⟩ = some dv := by
  obtain ⟨b, o, x, u0, u1, u2, u3, u4, u5, hA, hD, hx, ⟨dv, hu, hf, hd⟩, h0, h1, h2, h3, h4, h5⟩ := Sl.at6 h hk
  injection hu with e0 hu; injection hu with e1 hu; injection hu with e2 hu; injection hu with e3 hu; injection hu with e4 hu; injection hu with e5 hu
  subst e0 e1 e2 e3 e4 e5
  exact ⟨b, o, x, u5, hA, hD, hx, hf, hd, h0, h1, h2, h3, h4, h5⟩
end
theorem Sl.sub {α : Type} {R : ElemR α} {size : Nat} {D : Nat → Prop} {w : World} {b o n c : Nat} {xs : List α} (h : Sl size R D w (.slice (some ⟨b, o, none⟩) n c) xs) (i m c' : Nat) (hi : i + m ≤ n) (hm : m ≤ c') (hc : c' ≤ maxLen) :
    Sl size R D w (.slice (some ⟨b, o + i * size, none⟩) m c') ((xs.drop i).take m) := by
  obtain ⟨A', c0, hv, h1, h2, h3⟩ := h
  injection hv with hA hn hcc
  subst hn hcc
  have hl : ((xs.drop i).take m).length = m := by rw [List.length_take, List.length_drop]; omega
  refine ⟨some ⟨b, o + i * size, none⟩, c', by rw [hl], by rw [hl]; exact hm, hc, fun k x hx => ?_⟩
  have hk : k < m := by
    rcases Nat.lt_or_ge k m with h | h
    · exact h
    · rw [List.getElem?_eq_none (by rw [hl]; exact h)] at hx; cases hx
  rw [List.getElem?_take, if_pos hk, List.getElem?_drop] at hx
  obtain ⟨b', o', cs, hA', hD, hcl, hR, hcell⟩ := h3 (i + k) x hx
  rw [← hA] at hA'
  injection hA' with hA'
  injection hA' with e1 e2 _
  subst e1 e2
  refine ⟨b, o + i * size, cs, rfl, hD, hcl, hR, fun j u hu => ?_⟩
  have := hcell j u hu
  rw [show o + i * size + k * size + j = o + (i + k) * size + j by rw [Nat.add_mul]; omega]
  exact this
end Go.Proofs.YtoalecalahkblaaGreatDoor

namespace Go.Proofs
open Go.Shelf
def Tryz.lays170_ren : Go.Shelf.Ren := ⟨fun | 170 => 48 | n => n, fun | 70 => 73 | 3 => 3 | 0 => 0 | 72 => 75 | 37 => 72 | 5 => 5 | n => n, fun | n => n⟩
theorem Tryz.lays170 : Go.Proofs.Lays.n170 Tryz.prog Tryz.lays170_ren := {
  mixed := by kernel_rfl
  f170 := Tryz.func48.trans (congrArg some (by kernel_rfl))
  t0 := Tryz.underlying0
  a0 := Tryz.isAgg0
  z0 := Tryz.sizeOf0
  v0 := Tryz.zeroValue0
  t3 := Tryz.underlying3
  a3 := Tryz.isAgg3
  z3 := Tryz.sizeOf3
  v3 := Tryz.zeroValue3
  t37 := Tryz.underlying72
  a37 := Tryz.isAgg72
  z37 := Tryz.sizeOf72
  v37 := Tryz.zeroValue72
  t70 := Tryz.underlying73
  a70 := Tryz.isAgg73
  z70 := Tryz.sizeOf73
  v70 := Tryz.zeroValue73
  t72 := Tryz.underlying75
  a72 := Tryz.isAgg75
  z72 := Tryz.sizeOf75
  v72 := Tryz.zeroValue75 }
def Tryz.lays169_ren : Go.Shelf.Ren := ⟨fun | 169 => 49 | n => n, fun | 70 => 73 | 9 => 9 | 0 => 0 | 72 => 75 | 37 => 72 | 127 => 133 | 3 => 3 | 5 => 5 | n => n, fun | n => n⟩
theorem Tryz.lays169 : Go.Proofs.Lays.n169 Tryz.prog Tryz.lays169_ren := {
  mixed := by kernel_rfl
  f169 := Tryz.func49.trans (congrArg some (by kernel_rfl))
  t0 := Tryz.underlying0
  a0 := Tryz.isAgg0
  z0 := Tryz.sizeOf0
  v0 := Tryz.zeroValue0
  t3 := Tryz.underlying3
  a3 := Tryz.isAgg3
  z3 := Tryz.sizeOf3
  v3 := Tryz.zeroValue3
  t9 := Tryz.underlying9
  a9 := Tryz.isAgg9
  z9 := Tryz.sizeOf9
  v9 := Tryz.zeroValue9
  t37 := Tryz.underlying72
  a37 := Tryz.isAgg72
  z37 := Tryz.sizeOf72
  v37 := Tryz.zeroValue72
  t70 := Tryz.underlying73
  a70 := Tryz.isAgg73
  z70 := Tryz.sizeOf73
  v70 := Tryz.zeroValue73
  t72 := Tryz.underlying75
  a72 := Tryz.isAgg75
  z72 := Tryz.sizeOf75
  v72 := Tryz.zeroValue75
  t127 := Tryz.underlying133
  a127 := Tryz.isAgg133
  z127 := Tryz.sizeOf133
  v127 := Tryz.zeroValue133 }
theorem Tryz.Builder_Extra_169 : Builder.Extra Tryz.prog Tryz.lays169_ren := {
  sizeBuilder := by kernel_rfl
  liesBuilder := by kernel_rfl
  t5 := Tryz.underlying5
  a5 := Tryz.isAgg5
  z5 := Tryz.sizeOf5
  v5 := Tryz.zeroValue5
  infoByte := by kernel_rfl
  cellsByte := by kernel_rfl
  sizeByte := by kernel_rfl
  neB5 := by decide }
def Tryz.lays241_ren : Go.Shelf.Ren := ⟨fun | 241 => 161 | 277 => 196 | n => n, fun | 70 => 73 | 3 => 3 | 0 => 0 | 72 => 75 | 37 => 72 | 5 => 5 | n => n, fun | n => n⟩
def Tryz.lays165_ren : Go.Shelf.Ren := ⟨fun | 165 => 139 | 240 => 92 | 241 => 161 | 276 => 136 | 277 => 196 | n => n, fun | 70 => 73 | 3 => 3 | 0 => 0 | 4 => 4 | 9 => 9 | 20 => 20 | 72 => 75 | 37 => 72 | 164 => 164 | 5 => 5 | n => n, fun | n => n⟩
def Tryz.lays128_ren : Go.Shelf.Ren := ⟨fun | 128 => 177 | n => n, fun | 51 => 190 | 3 => 3 | 4 => 4 | 46 => 172 | 5 => 5 | 9 => 9 | n => n, fun | n => n⟩
def Tryz.lays125_ren : Go.Shelf.Ren := ⟨fun | 125 => 146 | 128 => 177 | 129 => 178 | n => n, fun | 46 => 172 | 3 => 3 | 51 => 190 | 53 => 192 | 4 => 4 | 5 => 5 | 9 => 9 | n => n, fun | n => n⟩
def Tryz.lays137_ren : Go.Shelf.Ren := ⟨fun | 137 => 45 | 217 => 93 | 266 => 137 | n => n, fun | 9 => 9 | 5 => 5 | 3 => 3 | n => n, fun | n => n⟩
theorem Tryz.lays137 : Go.Proofs.Lays.n137 Tryz.prog Tryz.lays137_ren := {
  mixed := by kernel_rfl
  f137 := Tryz.func45.trans (congrArg some (by kernel_rfl))
  f217 := Tryz.func93.trans (congrArg some (by kernel_rfl))
  f266 := Tryz.func137.trans (congrArg some (by kernel_rfl))
  t3 := Tryz.underlying3
  a3 := Tryz.isAgg3
  z3 := Tryz.sizeOf3
  v3 := Tryz.zeroValue3
  t5 := Tryz.underlying5
  a5 := Tryz.isAgg5
  z5 := Tryz.sizeOf5
  v5 := Tryz.zeroValue5
  t9 := Tryz.underlying9
  a9 := Tryz.isAgg9
  z9 := Tryz.sizeOf9
  v9 := Tryz.zeroValue9 }
open Go.RowKit in
theorem Tryz.strings_IndexByte (s : ByteArray) (c : Int) (w : World) :
    Calls Tryz.prog 45 #[.string s, .int .u8 c] w fun e w' => e = .returned (.int .i64 (Lib.indexByte s.data.toList c.toNat.toUInt8)) ∧ w' = w := Any.strings_IndexByte Tryz.lays137 s c w
def Tryz.lays214_ren : Go.Shelf.Ren := ⟨fun | 214 => 192 | n => n, fun | 4 => 4 | 9 => 9 | n => n, fun | n => n⟩
def Tryz.lays121_ren : Go.Shelf.Ren := ⟨fun | 121 => 156 | 214 => 192 | n => n, fun | 4 => 4 | 9 => 9 | n => n, fun | n => n⟩
theorem Tryz.lays121 : Go.Proofs.Lays.n121 Tryz.prog Tryz.lays121_ren := {
  mixed := by kernel_rfl
  f121 := Tryz.func156.trans (congrArg some (by kernel_rfl))
  f214 := Tryz.func192.trans (congrArg some (by kernel_rfl))
  t4 := Tryz.underlying4
  a4 := Tryz.isAgg4
  z4 := Tryz.sizeOf4
  v4 := Tryz.zeroValue4
  t9 := Tryz.underlying9
  a9 := Tryz.isAgg9
  z9 := Tryz.sizeOf9
  v9 := Tryz.zeroValue9 }
open Go.RowKit in
theorem Tryz.strconv_FormatBool (b : Bool) (w : World) :
    Calls Tryz.prog 156 #[.bool b] w fun e w' => e = .returned (.string ⟨(Lib.formatBool b).toArray⟩) ∧ w' = w := Any.strconv_FormatBool Tryz.lays121 b w
def Tryz.lays215_ren : Go.Shelf.Ren := ⟨fun | 215 => 105 | n => n, fun | 3 => 3 | 4 => 4 | n => n, fun | n => n⟩
def Tryz.lays122_ren : Go.Shelf.Ren := ⟨fun | 122 => 57 | 215 => 105 | n => n, fun | 3 => 3 | 4 => 4 | n => n, fun | n => n⟩
theorem Tryz.lays122 : Go.Proofs.Lays.n122 Tryz.prog Tryz.lays122_ren := {
  mixed := by kernel_rfl
  f122 := Tryz.func57.trans (congrArg some (by kernel_rfl))
  f215 := Tryz.func105.trans (congrArg some (by kernel_rfl))
  t3 := Tryz.underlying3
  a3 := Tryz.isAgg3
  z3 := Tryz.sizeOf3
  v3 := Tryz.zeroValue3
  t4 := Tryz.underlying4
  a4 := Tryz.isAgg4
  z4 := Tryz.sizeOf4
  v4 := Tryz.zeroValue4 }
open Go.RowKit in
theorem Tryz.cmp_Compare_int (x y : Int) (w : World) :
    Calls Tryz.prog 57 #[.int .i64 x, .int .i64 y] w fun e w' => e = .returned (.int .i64 (Lib.compareInt x y)) ∧ w' = w := Any.cmp_Compare_int Tryz.lays122 x y w
open Go.RowKit in
theorem Tryz.Builder_Len_f (B b : Nat) (bs : List Value) (w : World) (h : Lib.IsBuilderF 75 5 B b bs w) :
    Calls Tryz.prog 48 #[.pointer (some ⟨b, 0, none⟩)] w fun e w' => e = .returned (.int .i64 bs.length) ∧ w' = w := Any.Builder_Len_f Tryz.lays170 B b bs w h
open Go.RowKit in
theorem Tryz.Builder_String_any_k (B b : Nat) (l : List UInt8) (w : World) (h : Lib.IsBuilderF 75 5 B b (Lib.byteCells l) w) (hBw : B ≤ w.heap.size) :
    Calls Tryz.prog 49 #[.pointer (some ⟨b, 0, none⟩)] w fun e w' => e = .returned (.string ⟨l.toArray⟩) ∧ (Lib.IsBuilderF 75 5 B b (Lib.byteCells l) w' ∧ Below B w w' ∧ Lib.OthersKept 5 (some b) w w') := Any.Builder_String_any_k Tryz.lays169 Tryz.Builder_Extra_169 B b l w h hBw
def Tryz.lays195_ren : Go.Shelf.Ren := ⟨fun | 195 => 159 | n => n, fun | 9 => 9 | 3 => 3 | 0 => 0 | 4 => 4 | n => n, fun | n => n⟩
def Tryz.lays244_ren : Go.Shelf.Ren := ⟨fun | 244 => 164 | 247 => 200 | 287 => 224 | 321 => 235 | 322 => 236 | n => n, fun | 9 => 9 | 3 => 3 | 75 => 77 | 4 => 4 | 5 => 5 | 167 => 206 | 37 => 72 | 0 => 0 | 85 => 207 | 2 => 2 | 53 => 192 | 175 => 231 | 46 => 172 | 21 => 21 | 80 => 84 | n => n, fun | n => n⟩
def Tryz.lays172_ren : Go.Shelf.Ren := ⟨fun | 172 => 142 | 244 => 164 | 245 => 165 | 247 => 200 | 279 => 201 | 280 => 202 | 281 => 203 | 282 => 204 | 287 => 224 | 316 => 225 | 171 => 131 | 205 => 226 | 321 => 235 | 322 => 236 | 243 => 155 | 246 => 191 | 283 => 219 | 284 => 220 | 285 => 221 | 286 => 222 | 129 => 178 | 317 => 231 | 318 => 232 | 319 => 233 | 320 => 234 | 337 => 237 | 338 => 238 | n => n, fun | 9 => 9 | 3 => 3 | 75 => 77 | 76 => 81 | 4 => 4 | 5 => 5 | 167 => 206 | 37 => 72 | 0 => 0 | 85 => 207 | 2 => 2 | 168 => 209 | 53 => 192 | 175 => 231 | 46 => 172 | 210 => 234 | 127 => 133 | 145 => 245 | 143 => 243 | 21 => 21 | 171 => 225 | 173 => 227 | 212 => 240 | 51 => 190 | 20 => 20 | 213 => 241 | 232 => 246 | 233 => 247 | 80 => 84 | n => n, fun | 15 => 3 | 16 => 4 | 17 => 5 | 18 => 6 | 19 => 7 | n => n⟩
def Tryz.lays129_ren : Go.Shelf.Ren := ⟨fun | 129 => 178 | n => n, fun | 53 => 192 | 3 => 3 | 4 => 4 | 46 => 172 | 5 => 5 | 9 => 9 | n => n, fun | n => n⟩
def Tryz.lays317_ren : Go.Shelf.Ren := ⟨fun | 317 => 231 | n => n, fun | 3 => 3 | 46 => 172 | n => n, fun | n => n⟩
def Tryz.lays318_ren : Go.Shelf.Ren := ⟨fun | 318 => 232 | n => n, fun | 3 => 3 | 4 => 4 | n => n, fun | n => n⟩
def Tryz.lays283_ren : Go.Shelf.Ren := ⟨fun | 283 => 219 | n => n, fun | 3 => 3 | 9 => 9 | 4 => 4 | n => n, fun | n => n⟩
def Tryz.laysM284_ren : Go.Shelf.Ren := ⟨fun | 284 => 220 | 129 => 178 | 317 => 231 | 318 => 232 | n => n, fun | 53 => 192 | 3 => 3 | 212 => 240 | 0 => 0 | 4 => 4 | 46 => 172 | 5 => 5 | 9 => 9 | n => n, fun | 17 => 5 | n => n⟩
def Tryz.lays285_ren : Go.Shelf.Ren := ⟨fun | 285 => 221 | n => n, fun | 37 => 72 | 53 => 192 | 3 => 3 | 4 => 4 | 51 => 190 | 9 => 9 | 5 => 5 | 0 => 0 | n => n, fun | n => n⟩
def Tryz.laysM246_ren : Go.Shelf.Ren := ⟨fun | 246 => 191 | 283 => 219 | 284 => 220 | 285 => 221 | 286 => 222 | 129 => 178 | 317 => 231 | 318 => 232 | 319 => 233 | 320 => 234 | 337 => 237 | 338 => 238 | n => n, fun | 2 => 2 | 3 => 3 | 9 => 9 | 4 => 4 | 171 => 225 | 0 => 0 | 53 => 192 | 37 => 72 | 5 => 5 | 173 => 227 | 212 => 240 | 51 => 190 | 20 => 20 | 213 => 241 | 46 => 172 | 232 => 246 | 233 => 247 | n => n, fun | 17 => 5 | 18 => 6 | 19 => 7 | n => n⟩
def Tryz.lays246_ren : Go.Shelf.Ren := ⟨fun | 246 => 191 | 283 => 219 | 284 => 220 | 285 => 221 | 286 => 222 | 129 => 178 | 317 => 231 | 318 => 232 | 319 => 233 | 320 => 234 | 337 => 237 | 338 => 238 | n => n, fun | 2 => 2 | 3 => 3 | 9 => 9 | 4 => 4 | 171 => 225 | 0 => 0 | 53 => 192 | 37 => 72 | 5 => 5 | 173 => 227 | 212 => 240 | 51 => 190 | 20 => 20 | 213 => 241 | 46 => 172 | 232 => 246 | 233 => 247 | n => n, fun | 17 => 5 | 18 => 6 | 19 => 7 | n => n⟩
def Tryz.laysM243_ren : Go.Shelf.Ren := ⟨fun | 243 => 155 | 246 => 191 | 283 => 219 | 284 => 220 | 285 => 221 | 286 => 222 | 129 => 178 | 317 => 231 | 318 => 232 | 319 => 233 | 320 => 234 | 337 => 237 | 338 => 238 | n => n, fun | 3 => 3 | 9 => 9 | 2 => 2 | 4 => 4 | 171 => 225 | 0 => 0 | 53 => 192 | 37 => 72 | 5 => 5 | 173 => 227 | 212 => 240 | 51 => 190 | 20 => 20 | 213 => 241 | 46 => 172 | 232 => 246 | 233 => 247 | n => n, fun | 17 => 5 | 18 => 6 | 19 => 7 | n => n⟩
def Tryz.lays243_ren : Go.Shelf.Ren := ⟨fun | 243 => 155 | 246 => 191 | 283 => 219 | 284 => 220 | 285 => 221 | 286 => 222 | 129 => 178 | 317 => 231 | 318 => 232 | 319 => 233 | 320 => 234 | 337 => 237 | 338 => 238 | n => n, fun | 3 => 3 | 9 => 9 | 2 => 2 | 4 => 4 | 171 => 225 | 0 => 0 | 53 => 192 | 37 => 72 | 5 => 5 | 173 => 227 | 212 => 240 | 51 => 190 | 20 => 20 | 213 => 241 | 46 => 172 | 232 => 246 | 233 => 247 | n => n, fun | 17 => 5 | 18 => 6 | 19 => 7 | n => n⟩
def Tryz.laysM171_ren : Go.Shelf.Ren := ⟨fun | 171 => 131 | 243 => 155 | 246 => 191 | 283 => 219 | 284 => 220 | 285 => 221 | 286 => 222 | 129 => 178 | 317 => 231 | 318 => 232 | 319 => 233 | 320 => 234 | 337 => 237 | 338 => 238 | n => n, fun | 3 => 3 | 9 => 9 | 2 => 2 | 4 => 4 | 171 => 225 | 0 => 0 | 53 => 192 | 37 => 72 | 5 => 5 | 173 => 227 | 212 => 240 | 51 => 190 | 20 => 20 | 213 => 241 | 46 => 172 | 232 => 246 | 233 => 247 | n => n, fun | 17 => 5 | 18 => 6 | 19 => 7 | n => n⟩
theorem Tryz.laysM171 : Go.Proofs.LaysM.n171 Tryz.prog Tryz.laysM171_ren := {
  mixed := by kernel_rfl
  f129 := Tryz.func178.trans (congrArg some (by kernel_rfl))
  f171 := Tryz.func131.trans (congrArg some (by kernel_rfl))
  f243 := Tryz.func155.trans (congrArg some (by kernel_rfl))
  f246 := Tryz.func191.trans (congrArg some (by kernel_rfl))
  f283 := Tryz.func219.trans (congrArg some (by kernel_rfl))
  f284 := Tryz.func220.trans (congrArg some (by kernel_rfl))
  f285 := Tryz.func221.trans (congrArg some (by kernel_rfl))
  f286 := Tryz.func222.trans (congrArg some (by kernel_rfl))
  f317 := Tryz.func231.trans (congrArg some (by kernel_rfl))
  f318 := Tryz.func232.trans (congrArg some (by kernel_rfl))
  f319 := Tryz.func233.trans (congrArg some (by kernel_rfl))
  f320 := Tryz.func234.trans (congrArg some (by kernel_rfl))
  f337 := Tryz.func237.trans (congrArg some (by kernel_rfl))
  f338 := Tryz.func238.trans (congrArg some (by kernel_rfl))
  t0 := Tryz.underlying0
  a0 := Tryz.isAgg0
  z0 := Tryz.sizeOf0
  v0 := Tryz.zeroValue0
  t2 := Tryz.underlying2
  a2 := Tryz.isAgg2
  z2 := Tryz.sizeOf2
  v2 := Tryz.zeroValue2
  t3 := Tryz.underlying3
  a3 := Tryz.isAgg3
  z3 := Tryz.sizeOf3
  v3 := Tryz.zeroValue3
  t4 := Tryz.underlying4
  a4 := Tryz.isAgg4
  z4 := Tryz.sizeOf4
  v4 := Tryz.zeroValue4
  t5 := Tryz.underlying5
  a5 := Tryz.isAgg5
  z5 := Tryz.sizeOf5
  v5 := Tryz.zeroValue5
  t9 := Tryz.underlying9
  a9 := Tryz.isAgg9
  z9 := Tryz.sizeOf9
  v9 := Tryz.zeroValue9
  t20 := Tryz.underlying20
  a20 := Tryz.isAgg20
  z20 := Tryz.sizeOf20
  v20 := Tryz.zeroValue20
  t37 := Tryz.underlying72
  a37 := Tryz.isAgg72
  z37 := Tryz.sizeOf72
  v37 := Tryz.zeroValue72
  t46 := Tryz.underlying172
  a46 := Tryz.isAgg172
  z46 := Tryz.sizeOf172
  v46 := Tryz.zeroValue172
  t51 := Tryz.underlying190
  a51 := Tryz.isAgg190
  z51 := Tryz.sizeOf190
  v51 := Tryz.zeroValue190
  t53 := Tryz.underlying192
  a53 := Tryz.isAgg192
  z53 := Tryz.sizeOf192
  v53 := Tryz.zeroValue192
  t171 := Tryz.underlying225
  a171 := Tryz.isAgg225
  z171 := Tryz.sizeOf225
  v171 := Tryz.zeroValue225
  t173 := Tryz.underlying227
  a173 := Tryz.isAgg227
  z173 := Tryz.sizeOf227
  v173 := Tryz.zeroValue227
  t212 := Tryz.underlying240
  a212 := Tryz.isAgg240
  z212 := Tryz.sizeOf240
  v212 := Tryz.zeroValue240
  t213 := Tryz.underlying241
  a213 := Tryz.isAgg241
  z213 := Tryz.sizeOf241
  t232 := Tryz.underlying246
  a232 := Tryz.isAgg246
  z232 := Tryz.sizeOf246
  v232 := Tryz.zeroValue246
  t233 := Tryz.underlying247
  a233 := Tryz.isAgg247
  z233 := Tryz.sizeOf247
  v233 := Tryz.zeroValue247
  g17 := by kernel_rfl
  g18 := by kernel_rfl
  g19 := by kernel_rfl
  i0 := by kernel_rfl
  i2 := by kernel_rfl
  i3 := by kernel_rfl
  i4 := by kernel_rfl
  i5 := by kernel_rfl
  i9 := by kernel_rfl
  i20 := by kernel_rfl
  i37 := by kernel_rfl
  i46 := by kernel_rfl
  i51 := by kernel_rfl
  i53 := by kernel_rfl
  i171 := by kernel_rfl
  i173 := by kernel_rfl
  i212 := by kernel_rfl
  i232 := by kernel_rfl
  i233 := by kernel_rfl
  m17 := by kernel_rfl
  m18 := by kernel_rfl
  m19 := by kernel_rfl }
open Go.RowKit Go.Sort Go.Lib in
theorem Tryz.strconv_Itoa (n : Int) (h0 : -9223372036854775808 ≤ n) (h1 : n ≤ 9223372036854775807) (w : World) (htab : Lib.TabIs Tryz.prog w "internal/strconv.uint64pow10" .u64 Lib.pow10Tab) :
    Calls Tryz.prog 131 #[.int .i64 n] w fun e w' => e = .returned (.string ⟨(Lib.itoa n).toArray⟩) ∧ ∃ k os, w' = grow (w.drewN k) os := Any.strconv_Itoa Tryz.laysM171 n h0 h1 w htab
def Tryz.lays171_ren : Go.Shelf.Ren := ⟨fun | 171 => 131 | 243 => 155 | 246 => 191 | 283 => 219 | 284 => 220 | 285 => 221 | 286 => 222 | 129 => 178 | 317 => 231 | 318 => 232 | 319 => 233 | 320 => 234 | 337 => 237 | 338 => 238 | n => n, fun | 3 => 3 | 9 => 9 | 2 => 2 | 4 => 4 | 171 => 225 | 0 => 0 | 53 => 192 | 37 => 72 | 5 => 5 | 173 => 227 | 212 => 240 | 51 => 190 | 20 => 20 | 213 => 241 | 46 => 172 | 232 => 246 | 233 => 247 | n => n, fun | 17 => 5 | 18 => 6 | 19 => 7 | n => n⟩
def Tryz.lays247_ren : Go.Shelf.Ren := ⟨fun | 247 => 200 | 287 => 224 | 321 => 235 | 322 => 236 | n => n, fun | 9 => 9 | 3 => 3 | 2 => 2 | 75 => 77 | 4 => 4 | 167 => 206 | 5 => 5 | 53 => 192 | 175 => 231 | 46 => 172 | 37 => 72 | 0 => 0 | 21 => 21 | 80 => 84 | n => n, fun | n => n⟩
def Tryz.laysM316_ren : Go.Shelf.Ren := ⟨fun | 316 => 225 | n => n, fun | 9 => 9 | 3 => 3 | 4 => 4 | 37 => 72 | 0 => 0 | 127 => 133 | 5 => 5 | n => n, fun | n => n⟩
def Tryz.laysM279_ren : Go.Shelf.Ren := ⟨fun | 279 => 201 | 316 => 225 | n => n, fun | 9 => 9 | 168 => 209 | 75 => 77 | 210 => 234 | 3 => 3 | 4 => 4 | 37 => 72 | 0 => 0 | 127 => 133 | 80 => 84 | 5 => 5 | n => n, fun | 15 => 3 | n => n⟩
def Tryz.laysC245_ren : Go.Shelf.Ren := ⟨fun | 245 => 165 | 279 => 201 | 280 => 202 | 281 => 203 | 282 => 204 | 316 => 225 | 171 => 131 | 205 => 226 | 243 => 155 | 246 => 191 | 283 => 219 | 284 => 220 | 285 => 221 | 286 => 222 | 129 => 178 | 317 => 231 | 318 => 232 | 319 => 233 | 320 => 234 | 337 => 237 | 338 => 238 | n => n, fun | 9 => 9 | 3 => 3 | 75 => 77 | 167 => 206 | 4 => 4 | 168 => 209 | 210 => 234 | 37 => 72 | 0 => 0 | 127 => 133 | 145 => 245 | 143 => 243 | 2 => 2 | 171 => 225 | 53 => 192 | 5 => 5 | 173 => 227 | 212 => 240 | 51 => 190 | 20 => 20 | 213 => 241 | 46 => 172 | 232 => 246 | 233 => 247 | 80 => 84 | n => n, fun | 15 => 3 | 16 => 4 | 17 => 5 | 18 => 6 | 19 => 7 | n => n⟩
def Tryz.lays321_ren : Go.Shelf.Ren := ⟨fun | 321 => 235 | n => n, fun | 5 => 5 | n => n, fun | n => n⟩
def Tryz.lays287_ren : Go.Shelf.Ren := ⟨fun | 287 => 224 | 321 => 235 | 322 => 236 | n => n, fun | 9 => 9 | 3 => 3 | 53 => 192 | 75 => 77 | 4 => 4 | 167 => 206 | 5 => 5 | 46 => 172 | 37 => 72 | 0 => 0 | 21 => 21 | 80 => 84 | n => n, fun | n => n⟩
def Tryz.laysC247_ren : Go.Shelf.Ren := ⟨fun | 247 => 200 | 287 => 224 | 321 => 235 | 322 => 236 | n => n, fun | 9 => 9 | 3 => 3 | 2 => 2 | 75 => 77 | 4 => 4 | 167 => 206 | 5 => 5 | 53 => 192 | 175 => 231 | 46 => 172 | 37 => 72 | 0 => 0 | 21 => 21 | 80 => 84 | n => n, fun | n => n⟩
def Tryz.laysC244_ren : Go.Shelf.Ren := ⟨fun | 244 => 164 | 247 => 200 | 287 => 224 | 321 => 235 | 322 => 236 | n => n, fun | 9 => 9 | 3 => 3 | 75 => 77 | 4 => 4 | 5 => 5 | 167 => 206 | 37 => 72 | 0 => 0 | 85 => 207 | 2 => 2 | 53 => 192 | 175 => 231 | 46 => 172 | 21 => 21 | 80 => 84 | n => n, fun | n => n⟩
def Tryz.laysM280_ren : Go.Shelf.Ren := ⟨fun | 280 => 202 | 316 => 225 | n => n, fun | 9 => 9 | 168 => 209 | 75 => 77 | 210 => 234 | 3 => 3 | 4 => 4 | 37 => 72 | 0 => 0 | 127 => 133 | 80 => 84 | 5 => 5 | n => n, fun | 16 => 4 | n => n⟩
def Tryz.laysC172_ren : Go.Shelf.Ren := ⟨fun | 172 => 142 | 244 => 164 | 245 => 165 | 247 => 200 | 279 => 201 | 280 => 202 | 281 => 203 | 282 => 204 | 287 => 224 | 316 => 225 | 171 => 131 | 205 => 226 | 321 => 235 | 322 => 236 | 243 => 155 | 246 => 191 | 283 => 219 | 284 => 220 | 285 => 221 | 286 => 222 | 129 => 178 | 317 => 231 | 318 => 232 | 319 => 233 | 320 => 234 | 337 => 237 | 338 => 238 | n => n, fun | 9 => 9 | 3 => 3 | 75 => 77 | 76 => 81 | 4 => 4 | 5 => 5 | 167 => 206 | 37 => 72 | 0 => 0 | 85 => 207 | 2 => 2 | 168 => 209 | 53 => 192 | 175 => 231 | 46 => 172 | 210 => 234 | 127 => 133 | 145 => 245 | 143 => 243 | 21 => 21 | 171 => 225 | 173 => 227 | 212 => 240 | 51 => 190 | 20 => 20 | 213 => 241 | 232 => 246 | 233 => 247 | 80 => 84 | n => n, fun | 15 => 3 | 16 => 4 | 17 => 5 | 18 => 6 | 19 => 7 | n => n⟩
theorem Tryz.laysC172 : Go.Proofs.LaysC.n172 Tryz.prog Tryz.laysC172_ren := {
  mixed := by kernel_rfl
  f129 := Tryz.func178.trans (congrArg some (by kernel_rfl))
  f171 := Tryz.func131.trans (congrArg some (by kernel_rfl))
  f172 := Tryz.func142.trans (congrArg some (by kernel_rfl))
  f205 := Tryz.func226.trans (congrArg some (by kernel_rfl))
  f243 := Tryz.func155.trans (congrArg some (by kernel_rfl))
  f244 := Tryz.func164.trans (congrArg some (by kernel_rfl))
  f245 := Tryz.func165.trans (congrArg some (by kernel_rfl))
  f246 := Tryz.func191.trans (congrArg some (by kernel_rfl))
  f247 := Tryz.func200.trans (congrArg some (by kernel_rfl))
  f279 := Tryz.func201.trans (congrArg some (by kernel_rfl))
  f280 := Tryz.func202.trans (congrArg some (by kernel_rfl))
  f281 := Tryz.func203.trans (congrArg some (by kernel_rfl))
  f282 := Tryz.func204.trans (congrArg some (by kernel_rfl))
  f283 := Tryz.func219.trans (congrArg some (by kernel_rfl))
  f284 := Tryz.func220.trans (congrArg some (by kernel_rfl))
  f285 := Tryz.func221.trans (congrArg some (by kernel_rfl))
  f286 := Tryz.func222.trans (congrArg some (by kernel_rfl))
  f287 := Tryz.func224.trans (congrArg some (by kernel_rfl))
  f316 := Tryz.func225.trans (congrArg some (by kernel_rfl))
  f317 := Tryz.func231.trans (congrArg some (by kernel_rfl))
  f318 := Tryz.func232.trans (congrArg some (by kernel_rfl))
  f319 := Tryz.func233.trans (congrArg some (by kernel_rfl))
  f320 := Tryz.func234.trans (congrArg some (by kernel_rfl))
  f321 := Tryz.func235.trans (congrArg some (by kernel_rfl))
  f322 := Tryz.func236.trans (congrArg some (by kernel_rfl))
  f337 := Tryz.func237.trans (congrArg some (by kernel_rfl))
  f338 := Tryz.func238.trans (congrArg some (by kernel_rfl))
  t0 := Tryz.underlying0
  a0 := Tryz.isAgg0
  z0 := Tryz.sizeOf0
  v0 := Tryz.zeroValue0
  t2 := Tryz.underlying2
  a2 := Tryz.isAgg2
  z2 := Tryz.sizeOf2
  v2 := Tryz.zeroValue2
  t3 := Tryz.underlying3
  a3 := Tryz.isAgg3
  z3 := Tryz.sizeOf3
  v3 := Tryz.zeroValue3
  t4 := Tryz.underlying4
  a4 := Tryz.isAgg4
  z4 := Tryz.sizeOf4
  v4 := Tryz.zeroValue4
  t5 := Tryz.underlying5
  a5 := Tryz.isAgg5
  z5 := Tryz.sizeOf5
  v5 := Tryz.zeroValue5
  t9 := Tryz.underlying9
  a9 := Tryz.isAgg9
  z9 := Tryz.sizeOf9
  v9 := Tryz.zeroValue9
  t20 := Tryz.underlying20
  a20 := Tryz.isAgg20
  z20 := Tryz.sizeOf20
  v20 := Tryz.zeroValue20
  t21 := Tryz.underlying21
  a21 := Tryz.isAgg21
  z21 := Tryz.sizeOf21
  v21 := Tryz.zeroValue21
  t37 := Tryz.underlying72
  a37 := Tryz.isAgg72
  z37 := Tryz.sizeOf72
  v37 := Tryz.zeroValue72
  t46 := Tryz.underlying172
  a46 := Tryz.isAgg172
  z46 := Tryz.sizeOf172
  v46 := Tryz.zeroValue172
  t51 := Tryz.underlying190
  a51 := Tryz.isAgg190
  z51 := Tryz.sizeOf190
  v51 := Tryz.zeroValue190
  t53 := Tryz.underlying192
  a53 := Tryz.isAgg192
  z53 := Tryz.sizeOf192
  v53 := Tryz.zeroValue192
  t75 := Tryz.underlying77
  a75 := Tryz.isAgg77
  z75 := Tryz.sizeOf77
  v75 := Tryz.zeroValue77
  t76 := Tryz.underlying81
  a76 := Tryz.isAgg81
  z76 := Tryz.sizeOf81
  v76 := Tryz.zeroValue81
  t85 := Tryz.underlying207
  a85 := Tryz.isAgg207
  z85 := Tryz.sizeOf207
  v85 := Tryz.zeroValue207
  t127 := Tryz.underlying133
  a127 := Tryz.isAgg133
  z127 := Tryz.sizeOf133
  v127 := Tryz.zeroValue133
  t143 := Tryz.underlying243
  a143 := Tryz.isAgg243
  z143 := Tryz.sizeOf243
  v143 := Tryz.zeroValue243
  t145 := Tryz.underlying245
  a145 := Tryz.isAgg245
  z145 := Tryz.sizeOf245
  v145 := Tryz.zeroValue245
  t167 := Tryz.underlying206
  a167 := Tryz.isAgg206
  z167 := Tryz.sizeOf206
  v167 := Tryz.zeroValue206
  t168 := Tryz.underlying209
  a168 := Tryz.isAgg209
  z168 := Tryz.sizeOf209
  v168 := Tryz.zeroValue209
  t171 := Tryz.underlying225
  a171 := Tryz.isAgg225
  z171 := Tryz.sizeOf225
  v171 := Tryz.zeroValue225
  t173 := Tryz.underlying227
  a173 := Tryz.isAgg227
  z173 := Tryz.sizeOf227
  v173 := Tryz.zeroValue227
  t175 := Tryz.underlying231
  a175 := Tryz.isAgg231
  z175 := Tryz.sizeOf231
  v175 := Tryz.zeroValue231
  t210 := Tryz.underlying234
  a210 := Tryz.isAgg234
  z210 := Tryz.sizeOf234
  v210 := Tryz.zeroValue234
  t212 := Tryz.underlying240
  a212 := Tryz.isAgg240
  z212 := Tryz.sizeOf240
  v212 := Tryz.zeroValue240
  t213 := Tryz.underlying241
  a213 := Tryz.isAgg241
  z213 := Tryz.sizeOf241
  t232 := Tryz.underlying246
  a232 := Tryz.isAgg246
  z232 := Tryz.sizeOf246
  v232 := Tryz.zeroValue246
  t233 := Tryz.underlying247
  a233 := Tryz.isAgg247
  z233 := Tryz.sizeOf247
  v233 := Tryz.zeroValue247
  g15 := by kernel_rfl
  g16 := by kernel_rfl
  g17 := by kernel_rfl
  g18 := by kernel_rfl
  g19 := by kernel_rfl
  t80 := Tryz.underlying84
  a80 := Tryz.isAgg84
  z80 := Tryz.sizeOf84
  v80 := Tryz.zeroValue84
  i0 := by kernel_rfl
  i2 := by kernel_rfl
  i3 := by kernel_rfl
  i4 := by kernel_rfl
  i5 := by kernel_rfl
  i9 := by kernel_rfl
  i20 := by kernel_rfl
  i21 := by kernel_rfl
  i37 := by kernel_rfl
  i46 := by kernel_rfl
  i51 := by kernel_rfl
  i53 := by kernel_rfl
  i75 := by kernel_rfl
  i76 := by kernel_rfl
  i80 := by kernel_rfl
  i85 := by kernel_rfl
  i127 := by kernel_rfl
  i143 := by kernel_rfl
  i145 := by kernel_rfl
  i167 := by kernel_rfl
  i168 := by kernel_rfl
  i171 := by kernel_rfl
  i173 := by kernel_rfl
  i175 := by kernel_rfl
  i210 := by kernel_rfl
  i212 := by kernel_rfl
  i232 := by kernel_rfl
  i233 := by kernel_rfl
  m15 := by kernel_rfl
  m16 := by kernel_rfl
  m17 := by kernel_rfl
  m18 := by kernel_rfl
  m19 := by kernel_rfl
  c0 := by kernel_rfl
  c2 := by kernel_rfl
  c3 := by kernel_rfl
  c4 := by kernel_rfl
  c5 := by kernel_rfl
  c9 := by kernel_rfl
  c20 := by kernel_rfl
  c21 := by kernel_rfl
  c37 := by kernel_rfl
  c46 := by kernel_rfl
  c51 := by kernel_rfl
  c53 := by kernel_rfl
  c75 := by kernel_rfl
  c76 := by kernel_rfl
  c80 := by kernel_rfl
  c85 := by kernel_rfl
  c127 := by kernel_rfl
  c143 := by kernel_rfl
  c145 := by kernel_rfl
  c167 := by kernel_rfl
  c168 := by kernel_rfl
  c171 := by kernel_rfl
  c173 := by kernel_rfl
  c175 := by kernel_rfl
  c210 := by kernel_rfl
  c212 := by kernel_rfl
  c213 := by kernel_rfl
  c232 := by kernel_rfl
  c233 := by kernel_rfl }
open Go.RowKit in
theorem Tryz.strconv_Atoi_ok (s : ByteArray) (hmax : s.size ≤ 9223372036854775806) (v : Int) (h : Lib.atoiAll s.data.toList = .ok v) (w : World) :
    Calls Tryz.prog 142 #[.string s] w fun e w' => e = .returned (.tuple #[.int .i64 v, .nilIface]) ∧ (w' = w ∨ ∃ t, w' = Lib.bytesWorld w 5 t) := Any.strconv_Atoi_ok Tryz.laysC172 s hmax v h w
open Go.RowKit in
open Go.RowKit in
theorem Tryz.strconv_Atoi_range_var (s : ByteArray) (hlim : s.size ≤ 281474976710656) (h : Lib.atoiAll s.data.toList = .range) (tp : TypeId) (p : Value) (w : World) (hvar : w.var? Tryz.prog "strconv.ErrRange" = some #[.iface tp p]) :
    Calls Tryz.prog 142 #[.string s] w fun e w' => ∃ N, e = .returned (.tuple #[.int .i64 (Lib.atoiSat s.data.toList), .iface 209 (.pointer (some ⟨N, 0, none⟩))]) ∧ w.heap.size ≤ N ∧ w'.heap[N]? = some (.cells #[.string ⟨#[65, 116, 111, 105]⟩, .string s, .iface tp p] 234 (0, 0)) ∧ Below w.heap.size w w' := Any.strconv_Atoi_range_var Tryz.laysC172 s hlim h tp p w hvar
def Tryz.lays217_ren : Go.Shelf.Ren := ⟨fun | 217 => 93 | 266 => 137 | n => n, fun | 9 => 9 | 5 => 5 | 3 => 3 | n => n, fun | n => n⟩
def Tryz.lays224_ren : Go.Shelf.Ren := ⟨fun | 224 => 198 | n => n, fun | 3 => 3 | n => n, fun | n => n⟩
def Tryz.lays314_ren : Go.Shelf.Ren := ⟨fun | 314 => 223 | n => n, fun | 9 => 9 | 51 => 190 | 3 => 3 | 4 => 4 | 5 => 5 | 46 => 172 | n => n, fun | n => n⟩
def Tryz.lays267_ren : Go.Shelf.Ren := ⟨fun | 267 => 199 | 314 => 223 | n => n, fun | 9 => 9 | 3 => 3 | 146 => 229 | 51 => 190 | 4 => 4 | 5 => 5 | 46 => 172 | n => n, fun | n => n⟩
def Tryz.lays219_ren : Go.Shelf.Ren := ⟨fun | 219 => 162 | 217 => 93 | 225 => 197 | 224 => 198 | 267 => 199 | 266 => 137 | 314 => 223 | n => n, fun | 9 => 9 | 3 => 3 | 4 => 4 | 5 => 5 | 46 => 172 | 146 => 229 | 51 => 190 | n => n, fun | 1 => 0 | n => n⟩
def Tryz.lays143_ren : Go.Shelf.Ren := ⟨fun | 143 => 140 | 219 => 162 | 217 => 93 | 225 => 197 | 224 => 198 | 267 => 199 | 266 => 137 | 314 => 223 | n => n, fun | 9 => 9 | 3 => 3 | 4 => 4 | 5 => 5 | 46 => 172 | 146 => 229 | 51 => 190 | n => n, fun | 1 => 0 | n => n⟩
def Tryz.lays138_ren : Go.Shelf.Ren := ⟨fun | 138 => 138 | 195 => 159 | 218 => 160 | 143 => 140 | 219 => 162 | 217 => 93 | 225 => 197 | 224 => 198 | 267 => 199 | 266 => 137 | 314 => 223 | n => n, fun | 9 => 9 | 3 => 3 | 4 => 4 | 5 => 5 | 0 => 0 | 46 => 172 | 146 => 229 | 51 => 190 | n => n, fun | 1 => 0 | n => n⟩
def Tryz.laysM219_ren : Go.Shelf.Ren := ⟨fun | 219 => 162 | 217 => 93 | 225 => 197 | 224 => 198 | 267 => 199 | 266 => 137 | 314 => 223 | n => n, fun | 9 => 9 | 3 => 3 | 4 => 4 | 5 => 5 | 46 => 172 | 146 => 229 | 51 => 190 | n => n, fun | 1 => 0 | n => n⟩
def Tryz.laysM143_ren : Go.Shelf.Ren := ⟨fun | 143 => 140 | 219 => 162 | 217 => 93 | 225 => 197 | 224 => 198 | 267 => 199 | 266 => 137 | 314 => 223 | n => n, fun | 9 => 9 | 3 => 3 | 4 => 4 | 5 => 5 | 46 => 172 | 146 => 229 | 51 => 190 | n => n, fun | 1 => 0 | n => n⟩
def Tryz.laysM138_ren : Go.Shelf.Ren := ⟨fun | 138 => 138 | 195 => 159 | 218 => 160 | 143 => 140 | 219 => 162 | 217 => 93 | 225 => 197 | 224 => 198 | 267 => 199 | 266 => 137 | 314 => 223 | n => n, fun | 9 => 9 | 3 => 3 | 4 => 4 | 5 => 5 | 0 => 0 | 46 => 172 | 146 => 229 | 51 => 190 | n => n, fun | 1 => 0 | n => n⟩
def Tryz.lays190_ren : Go.Shelf.Ren := ⟨fun | 190 => 129 | 125 => 146 | 258 => 154 | 128 => 177 | 129 => 178 | 302 => 182 | 303 => 183 | 304 => 184 | 305 => 185 | 306 => 186 | 307 => 187 | 308 => 188 | 309 => 189 | 310 => 190 | 333 => 216 | 329 => 210 | 330 => 211 | 334 => 217 | 335 => 218 | 336 => 147 | 344 => 230 | n => n, fun | 31 => 51 | 9 => 9 | 3 => 3 | 46 => 172 | 0 => 0 | 51 => 190 | 53 => 192 | 4 => 4 | 183 => 183 | 182 => 182 | 131 => 187 | 5 => 5 | 218 => 215 | 222 => 219 | 228 => 236 | 229 => 148 | n => n, fun | n => n⟩
def Tryz.lays206_ren : Go.Shelf.Ren := ⟨fun | 206 => 227 | n => n, fun | 9 => 9 | 4 => 4 | 3 => 3 | n => n, fun | n => n⟩
def Tryz.lays99_ren : Go.Shelf.Ren := ⟨fun | 99 => 206 | 206 => 227 | n => n, fun | 9 => 9 | 4 => 4 | 3 => 3 | n => n, fun | n => n⟩
theorem Tryz.lays99 : Go.Proofs.Lays.n99 Tryz.prog Tryz.lays99_ren := {
  mixed := by kernel_rfl
  f99 := Tryz.func206.trans (congrArg some (by kernel_rfl))
  f206 := Tryz.func227.trans (congrArg some (by kernel_rfl))
  t3 := Tryz.underlying3
  a3 := Tryz.isAgg3
  z3 := Tryz.sizeOf3
  v3 := Tryz.zeroValue3
  t4 := Tryz.underlying4
  a4 := Tryz.isAgg4
  z4 := Tryz.sizeOf4
  v4 := Tryz.zeroValue4
  t9 := Tryz.underlying9
  a9 := Tryz.isAgg9
  z9 := Tryz.sizeOf9
  v9 := Tryz.zeroValue9 }
open Go.RowKit Go.Lib in
theorem Tryz.strings_HasPrefix (s p : ByteArray) (w : World) :
    Calls Tryz.prog 206 #[.string s, .string p] w fun e w' => e = .returned (.bool (Lib.hasPrefix s.data.toList p.data.toList)) ∧ w' = w := Any.strings_HasPrefix Tryz.lays99 s p w
def Tryz.lays154_ren : Go.Shelf.Ren := ⟨fun | 154 => 94 | 138 => 138 | 165 => 139 | 143 => 140 | 166 => 47 | 197 => 141 | 169 => 49 | 195 => 159 | 218 => 160 | 240 => 92 | 241 => 161 | 219 => 162 | 260 => 163 | 276 => 136 | 277 => 196 | 217 => 93 | 225 => 197 | 224 => 198 | 267 => 199 | 266 => 137 | 314 => 223 | n => n, fun | 9 => 9 | 3 => 3 | 4 => 4 | 72 => 75 | 0 => 0 | 76 => 81 | 105 => 167 | 21 => 21 | 5 => 5 | 70 => 73 | 20 => 20 | 37 => 72 | 75 => 77 | 127 => 133 | 164 => 164 | 46 => 172 | 119 => 202 | 139 => 205 | 138 => 204 | 146 => 229 | 51 => 190 | 80 => 84 | n => n, fun | 1 => 0 | 3 => 1 | 4 => 2 | n => n⟩
def Tryz.lays155_ren : Go.Shelf.Ren := ⟨fun | 155 => 46 | 154 => 94 | 138 => 138 | 165 => 139 | 143 => 140 | 166 => 47 | 197 => 141 | 169 => 49 | 195 => 159 | 218 => 160 | 240 => 92 | 241 => 161 | 219 => 162 | 260 => 163 | 276 => 136 | 277 => 196 | 217 => 93 | 225 => 197 | 224 => 198 | 267 => 199 | 266 => 137 | 314 => 223 | n => n, fun | 9 => 9 | 3 => 3 | 4 => 4 | 72 => 75 | 0 => 0 | 76 => 81 | 105 => 167 | 21 => 21 | 5 => 5 | 70 => 73 | 20 => 20 | 37 => 72 | 75 => 77 | 127 => 133 | 164 => 164 | 46 => 172 | 119 => 202 | 139 => 205 | 138 => 204 | 146 => 229 | 51 => 190 | 80 => 84 | n => n, fun | 1 => 0 | 3 => 1 | 4 => 2 | n => n⟩
theorem Tryz.lays155 : Go.Proofs.Lays.n155 Tryz.prog Tryz.lays155_ren := {
  mixed := by kernel_rfl
  f138 := Tryz.func138.trans (congrArg some (by kernel_rfl))
  f143 := Tryz.func140.trans (congrArg some (by kernel_rfl))
  f154 := Tryz.func94.trans (congrArg some (by kernel_rfl))
  f155 := Tryz.func46.trans (congrArg some (by kernel_rfl))
  f165 := Tryz.func139.trans (congrArg some (by kernel_rfl))
  f166 := Tryz.func47.trans (congrArg some (by kernel_rfl))
  f169 := Tryz.func49.trans (congrArg some (by kernel_rfl))
  f195 := Tryz.func159.trans (congrArg some (by kernel_rfl))
  f197 := Tryz.func141.trans (congrArg some (by kernel_rfl))
  f217 := Tryz.func93.trans (congrArg some (by kernel_rfl))
  f218 := Tryz.func160.trans (congrArg some (by kernel_rfl))
  f219 := Tryz.func162.trans (congrArg some (by kernel_rfl))
  f224 := Tryz.func198.trans (congrArg some (by kernel_rfl))
  f225 := Tryz.func197.trans (congrArg some (by kernel_rfl))
  f240 := Tryz.func92.trans (congrArg some (by kernel_rfl))
  f241 := Tryz.func161.trans (congrArg some (by kernel_rfl))
  f260 := Tryz.func163.trans (congrArg some (by kernel_rfl))
  f266 := Tryz.func137.trans (congrArg some (by kernel_rfl))
  f267 := Tryz.func199.trans (congrArg some (by kernel_rfl))
  f276 := Tryz.func136.trans (congrArg some (by kernel_rfl))
  f277 := Tryz.func196.trans (congrArg some (by kernel_rfl))
  f314 := Tryz.func223.trans (congrArg some (by kernel_rfl))
  t0 := Tryz.underlying0
  a0 := Tryz.isAgg0
  z0 := Tryz.sizeOf0
  v0 := Tryz.zeroValue0
  t3 := Tryz.underlying3
  a3 := Tryz.isAgg3
  z3 := Tryz.sizeOf3
  v3 := Tryz.zeroValue3
  t4 := Tryz.underlying4
  a4 := Tryz.isAgg4
  z4 := Tryz.sizeOf4
  v4 := Tryz.zeroValue4
  t5 := Tryz.underlying5
  a5 := Tryz.isAgg5
  z5 := Tryz.sizeOf5
  v5 := Tryz.zeroValue5
  t9 := Tryz.underlying9
  a9 := Tryz.isAgg9
  z9 := Tryz.sizeOf9
  v9 := Tryz.zeroValue9
  t20 := Tryz.underlying20
  a20 := Tryz.isAgg20
  z20 := Tryz.sizeOf20
  v20 := Tryz.zeroValue20
  t21 := Tryz.underlying21
  a21 := Tryz.isAgg21
  z21 := Tryz.sizeOf21
  v21 := Tryz.zeroValue21
  t37 := Tryz.underlying72
  a37 := Tryz.isAgg72
  z37 := Tryz.sizeOf72
  v37 := Tryz.zeroValue72
  t46 := Tryz.underlying172
  a46 := Tryz.isAgg172
  z46 := Tryz.sizeOf172
  v46 := Tryz.zeroValue172
  t51 := Tryz.underlying190
  a51 := Tryz.isAgg190
  z51 := Tryz.sizeOf190
  v51 := Tryz.zeroValue190
  t70 := Tryz.underlying73
  a70 := Tryz.isAgg73
  z70 := Tryz.sizeOf73
  v70 := Tryz.zeroValue73
  t72 := Tryz.underlying75
  a72 := Tryz.isAgg75
  z72 := Tryz.sizeOf75
  v72 := Tryz.zeroValue75
  t75 := Tryz.underlying77
  a75 := Tryz.isAgg77
  z75 := Tryz.sizeOf77
  v75 := Tryz.zeroValue77
  t76 := Tryz.underlying81
  a76 := Tryz.isAgg81
  z76 := Tryz.sizeOf81
  v76 := Tryz.zeroValue81
  t105 := Tryz.underlying167
  a105 := Tryz.isAgg167
  z105 := Tryz.sizeOf167
  v105 := Tryz.zeroValue167
  t119 := Tryz.underlying202
  a119 := Tryz.isAgg202
  z119 := Tryz.sizeOf202
  t127 := Tryz.underlying133
  a127 := Tryz.isAgg133
  z127 := Tryz.sizeOf133
  v127 := Tryz.zeroValue133
  t138 := Tryz.underlying204
  a138 := Tryz.isAgg204
  z138 := Tryz.sizeOf204
  v138 := Tryz.zeroValue204
  t139 := Tryz.underlying205
  a139 := Tryz.isAgg205
  z139 := Tryz.sizeOf205
  v139 := Tryz.zeroValue205
  t146 := Tryz.underlying229
  a146 := Tryz.isAgg229
  z146 := Tryz.sizeOf229
  v146 := Tryz.zeroValue229
  t164 := Tryz.underlying164
  a164 := Tryz.isAgg164
  z164 := Tryz.sizeOf164
  v164 := Tryz.zeroValue164
  g1 := by kernel_rfl
  g3 := by kernel_rfl
  g4 := by kernel_rfl }
theorem Tryz.Builder_Extra_155 : Builder.Extra Tryz.prog Tryz.lays155_ren := {
  sizeBuilder := by kernel_rfl
  liesBuilder := by kernel_rfl
  t5 := Tryz.underlying5
  a5 := Tryz.isAgg5
  z5 := Tryz.sizeOf5
  v5 := Tryz.zeroValue5
  infoByte := by kernel_rfl
  cellsByte := by kernel_rfl
  sizeByte := by kernel_rfl
  neB5 := by decide }
open Go.RowKit Go.Lib in
theorem Tryz.strings_ReplaceAll (s old new : ByteArray) (m : Int) (w : World) (hs : s.size < 4294967281) (hm : w.cell? ⟨0, 0, none⟩ = some (.int .i64 m)) (h1 : 1 ≤ old.size) (hlen : s.size + Lib.countB s old * new.size ≤ 140737488355328) :
    Calls Tryz.prog 46 #[.string s, .string old, .string new] w fun e w' =>
      e = .returned (.string ⟨(Lib.replaceAll s.data.toList old.data.toList new.data.toList).toArray⟩) ∧ Below w.heap.size w w' := Any.strings_ReplaceAll Tryz.lays155 Tryz.Builder_Extra_155 s old new m w hs hm h1 hlen
def Tryz.laysM154_ren : Go.Shelf.Ren := ⟨fun | 154 => 94 | 138 => 138 | 165 => 139 | 143 => 140 | 166 => 47 | 197 => 141 | 169 => 49 | 195 => 159 | 218 => 160 | 240 => 92 | 241 => 161 | 219 => 162 | 260 => 163 | 276 => 136 | 277 => 196 | 217 => 93 | 225 => 197 | 224 => 198 | 267 => 199 | 266 => 137 | 314 => 223 | n => n, fun | 9 => 9 | 3 => 3 | 4 => 4 | 72 => 75 | 0 => 0 | 76 => 81 | 105 => 167 | 21 => 21 | 5 => 5 | 70 => 73 | 20 => 20 | 37 => 72 | 75 => 77 | 127 => 133 | 164 => 164 | 46 => 172 | 119 => 202 | 139 => 205 | 138 => 204 | 146 => 229 | 51 => 190 | 80 => 84 | n => n, fun | 1 => 0 | 3 => 1 | 4 => 2 | n => n⟩
def Tryz.laysM155_ren : Go.Shelf.Ren := ⟨fun | 155 => 46 | 154 => 94 | 138 => 138 | 165 => 139 | 143 => 140 | 166 => 47 | 197 => 141 | 169 => 49 | 195 => 159 | 218 => 160 | 240 => 92 | 241 => 161 | 219 => 162 | 260 => 163 | 276 => 136 | 277 => 196 | 217 => 93 | 225 => 197 | 224 => 198 | 267 => 199 | 266 => 137 | 314 => 223 | n => n, fun | 9 => 9 | 3 => 3 | 4 => 4 | 72 => 75 | 0 => 0 | 76 => 81 | 105 => 167 | 21 => 21 | 5 => 5 | 70 => 73 | 20 => 20 | 37 => 72 | 75 => 77 | 127 => 133 | 164 => 164 | 46 => 172 | 119 => 202 | 139 => 205 | 138 => 204 | 146 => 229 | 51 => 190 | 80 => 84 | n => n, fun | 1 => 0 | 3 => 1 | 4 => 2 | n => n⟩
def Tryz.lays197_ren : Go.Shelf.Ren := ⟨fun | 197 => 141 | 260 => 163 | n => n, fun | 9 => 9 | 21 => 21 | 3 => 3 | 4 => 4 | 5 => 5 | 105 => 167 | 119 => 202 | 0 => 0 | 46 => 172 | 139 => 205 | 138 => 204 | n => n, fun | 3 => 1 | 4 => 2 | n => n⟩
def Tryz.lays260_ren : Go.Shelf.Ren := ⟨fun | 260 => 163 | n => n, fun | 9 => 9 | 21 => 21 | 3 => 3 | 4 => 4 | 5 => 5 | 119 => 202 | 0 => 0 | 46 => 172 | 139 => 205 | 138 => 204 | n => n, fun | 3 => 1 | 4 => 2 | n => n⟩
def Tryz.lays108_ren : Go.Shelf.Ren := ⟨fun | 108 => 113 | n => n, fun | 28 => 31 | 3 => 3 | 0 => 0 | 4 => 4 | n => n, fun | n => n⟩
def Tryz.lays107_ren : Go.Shelf.Ren := ⟨fun | 107 => 61 | 108 => 113 | n => n, fun | 28 => 31 | 3 => 3 | 4 => 4 | 0 => 0 | n => n, fun | n => n⟩
theorem Tryz.lays107 : Go.Proofs.Lays.n107 Tryz.prog Tryz.lays107_ren := {
  mixed := by kernel_rfl
  f107 := Tryz.func61.trans (congrArg some (by kernel_rfl))
  f108 := Tryz.func113.trans (congrArg some (by kernel_rfl))
  t0 := Tryz.underlying0
  a0 := Tryz.isAgg0
  z0 := Tryz.sizeOf0
  v0 := Tryz.zeroValue0
  t3 := Tryz.underlying3
  a3 := Tryz.isAgg3
  z3 := Tryz.sizeOf3
  v3 := Tryz.zeroValue3
  t4 := Tryz.underlying4
  a4 := Tryz.isAgg4
  z4 := Tryz.sizeOf4
  v4 := Tryz.zeroValue4
  t28 := Tryz.underlying31
  a28 := Tryz.isAgg31
  z28 := Tryz.sizeOf31
  v28 := Tryz.zeroValue31 }
open Go.Lib in
theorem Tryz.slices_Contains_int (b off n c : Nat) (zs : List Int) (x : Int) (w : World) (hz : n ≤ zs.length) (hbig : n ≤ 9223372036854775807) (hc : ∀ j, j < zs.length → w.cell? ⟨b, off + j, none⟩ = some (.int .i64 (zs.getD j 0))) :
    Calls Tryz.prog 61 #[.slice (some ⟨b, off, none⟩) n c, .int .i64 x] w fun e w' => e = .returned (.bool ((zs.take n).contains x)) ∧ w' = w := Any.slices_Contains_int Tryz.lays107 b off n c zs x w hz hbig hc
def Tryz.lays109_ren : Go.Shelf.Ren := ⟨fun | 109 => 97 | n => n, fun | 31 => 51 | 9 => 9 | 3 => 3 | 0 => 0 | 4 => 4 | n => n, fun | n => n⟩
theorem Tryz.lays109 : Go.Proofs.Lays.n109 Tryz.prog Tryz.lays109_ren := {
  mixed := by kernel_rfl
  f109 := Tryz.func97.trans (congrArg some (by kernel_rfl))
  t0 := Tryz.underlying0
  a0 := Tryz.isAgg0
  z0 := Tryz.sizeOf0
  v0 := Tryz.zeroValue0
  t3 := Tryz.underlying3
  a3 := Tryz.isAgg3
  z3 := Tryz.sizeOf3
  v3 := Tryz.zeroValue3
  t4 := Tryz.underlying4
  a4 := Tryz.isAgg4
  z4 := Tryz.sizeOf4
  v4 := Tryz.zeroValue4
  t9 := Tryz.underlying9
  a9 := Tryz.isAgg9
  z9 := Tryz.sizeOf9
  v9 := Tryz.zeroValue9
  t31 := Tryz.underlying51
  a31 := Tryz.isAgg51
  z31 := Tryz.sizeOf51
  v31 := Tryz.zeroValue51 }
open Go.Lib in
theorem Tryz.slices_Index_string (b off n c : Nat) (zs : List ByteArray) (x : ByteArray) (w : World) (hz : n ≤ zs.length) (hbig : n ≤ 9223372036854775807) (hc : ∀ j, j < zs.length → w.cell? ⟨b, off + j, none⟩ = some (.string (zs.getD j ByteArray.empty))) :
    Calls Tryz.prog 97 #[.slice (some ⟨b, off, none⟩) n c, .string x] w fun e w' => e = .returned (.int .i64 (Lib.idxOfS (zs.take n) x)) ∧ w' = w := Any.slices_Index_string Tryz.lays109 b off n c zs x w hz hbig hc
def Tryz.lays110_ren : Go.Shelf.Ren := ⟨fun | 110 => 77 | 109 => 97 | n => n, fun | 31 => 51 | 9 => 9 | 4 => 4 | 3 => 3 | 0 => 0 | n => n, fun | n => n⟩
def Tryz.lays113_ren : Go.Shelf.Ren := ⟨fun | 113 => 87 | n => n, fun | 28 => 31 | 3 => 3 | 4 => 4 | 9 => 9 | 20 => 20 | 0 => 0 | n => n, fun | n => n⟩
def Tryz.laysNm216_ren : Go.Shelf.Ren := ⟨fun | 16 => 26 | n => n, fun | 24 => 51 | 9 => 9 | 4 => 4 | n => n, fun | n => n⟩
def Tryz.lays194_ren : Go.Shelf.Ren := ⟨fun | 194 => 130 | n => n, fun | 31 => 51 | 9 => 9 | 3 => 3 | 4 => 4 | 0 => 0 | n => n, fun | n => n⟩
def Tryz.laysNm237_ren : Go.Shelf.Ren := ⟨fun | 37 => 105 | n => n, fun | 3 => 3 | 4 => 4 | n => n, fun | n => n⟩
def Tryz.laysSlE43_f130_ren : Go.Shelf.Ren := ⟨fun | 43 => 130 | n => n, fun | 22 => 51 | 23 => 9 | 3 => 3 | 4 => 4 | 0 => 0 | n => n, fun | n => n⟩
def Tryz.laysSlE041_f26_ren : Go.Shelf.Ren := ⟨fun | 41 => 26 | n => n, fun | 22 => 51 | 23 => 9 | 4 => 4 | n => n, fun | n => n⟩
def Tryz.laysSlH6_f72_ren : Go.Shelf.Ren := ⟨fun | 6 => 72 | n => n, fun | 22 => 22 | 23 => 51 | 25 => 53 | 3 => 3 | 0 => 0 | 4 => 4 | n => n, fun | n => n⟩
def Tryz.laysSlH6_f73_ren : Go.Shelf.Ren := ⟨fun | 6 => 73 | n => n, fun | 22 => 51 | 23 => 9 | 25 => 34 | 3 => 3 | 0 => 0 | 4 => 4 | n => n, fun | n => n⟩
def Tryz.laysSlH6_f114_ren : Go.Shelf.Ren := ⟨fun | 6 => 114 | n => n, fun | 22 => 31 | 23 => 3 | 25 => 101 | 3 => 3 | 0 => 0 | 4 => 4 | n => n, fun | n => n⟩
def Tryz.laysSlH8_f24_ren : Go.Shelf.Ren := ⟨fun | 8 => 24 | 6 => 72 | n => n, fun | 22 => 22 | 23 => 51 | 25 => 53 | 4 => 4 | 3 => 3 | 0 => 0 | n => n, fun | n => n⟩
def Tryz.laysSlH8_f28_ren : Go.Shelf.Ren := ⟨fun | 8 => 28 | 6 => 73 | n => n, fun | 22 => 51 | 23 => 9 | 25 => 34 | 4 => 4 | 3 => 3 | 0 => 0 | n => n, fun | n => n⟩
def Tryz.laysSlH8_f62_ren : Go.Shelf.Ren := ⟨fun | 8 => 62 | 6 => 114 | n => n, fun | 22 => 31 | 23 => 3 | 25 => 101 | 4 => 4 | 3 => 3 | 0 => 0 | n => n, fun | n => n⟩
def Tryz.laysSlH10_f121_ren : Go.Shelf.Ren := ⟨fun | 10 => 121 | 6 => 114 | n => n, fun | 22 => 31 | 23 => 3 | 25 => 101 | 3 => 3 | 4 => 4 | 0 => 0 | n => n, fun | n => n⟩
theorem Tryz.laysSlH10_f121 : Go.Proofs.SlLaysH.n10 Tryz.prog Tryz.laysSlH10_f121_ren := {
  mixed := by kernel_rfl
  f6 := ⟨Tryz.f114.name, by decide, Tryz.func114.trans (congrArg some (by kernel_rfl))⟩
  f10 := ⟨Tryz.f121.name, by decide, Tryz.func121.trans (congrArg some (by kernel_rfl))⟩
  t0 := Tryz.underlying0
  a0 := Tryz.isAgg0
  z0 := Tryz.sizeOf0
  v0 := Tryz.zeroValue0
  t3 := Tryz.underlying3
  a3 := Tryz.isAgg3
  z3 := Tryz.sizeOf3
  v3 := Tryz.zeroValue3
  t4 := Tryz.underlying4
  a4 := Tryz.isAgg4
  z4 := Tryz.sizeOf4
  v4 := Tryz.zeroValue4
  t22 := Tryz.underlying31
  a22 := Tryz.isAgg31
  z22 := Tryz.sizeOf31
  v22 := Tryz.zeroValue31
  a23 := Tryz.isAgg3
  z23 := Tryz.sizeOf3
  t25 := Tryz.underlying101
  a25 := Tryz.isAgg101
  z25 := Tryz.sizeOf101
  v25 := Tryz.zeroValue101 }
open Go.RowKit Go.Lib Go.Sort in
theorem Tryz.slices_DeleteFunc {α : Type} [Inhabited α] (enc : α → Value) (hO : OneCell enc) (p : α → Bool) (g : Nat) (lb : Array Value) (eg : ∀ args w, (callFunc g args).run Tryz.prog w = .ok (.enter g args) w) (zr : α) (v23 : ∀ w, (zeroValue 3).run Tryz.prog w = .ok (enc zr) w) (blk off cap : Nat) (d : Array α) (w : World) (hp : PredAt Tryz.prog g lb enc p w) (hpo : PredOver Tryz.prog g lb enc p blk off d.size w) (hH : Holds enc w blk off d) (hsz : d.size ≤ 9223372036854775807) (hcap : d.size ≤ cap) :
    Calls Tryz.prog 121 #[.slice (some ⟨blk, off, none⟩) d.size cap, .func (.func g) #[] lb] w fun e w' => e = .returned (.slice (some ⟨blk, off, none⟩) (d.toList.filter fun x => !p x).length cap) ∧ ∃ q, w' = putRow enc (Sort.ahead w q) blk off ((d.toList.filter fun x => !p x) ++ List.replicate (d.size - (d.toList.filter fun x => !p x).length) zr).toArray := AnyE.slices_DeleteFunc Tryz.laysSlH10_f121 enc hO p g lb eg zr v23 blk off cap d w hp hpo hH hsz hcap
end Go.Proofs

set_option linter.all false
namespace Go.Proofs.YtoalecalahkblaaGreatDoor
open Go.RowKit
theorem flatK_eq {α β : Type} [Inhabited α] {k : Nat} (enc : α → List Value) (fc : β → List Value) (val : α → β) (he : ∀ x, enc x = fc (val x)) (hk : ∀ x, (enc x).length = k) (d : Array α) : (Go.Sort.flatK enc k d).toList = flat fc (d.toList.map val) := by
  have hfe : flat fc (d.toList.map val) = flat enc d.toList := by
    unfold flat
    rw [List.flatMap_map]
    congr 1
    funext x; exact (he x).symm
  rw [hfe]
  have hl : (flat enc d.toList).length = d.size * k := by rw [flat_len hk, Array.length_toList]
  apply List.ext_getElem
  · rw [Array.length_toList, Go.Sort.size_flatK, hl]
  · intro i h1 h2
    have hi : i < d.size * k := by rw [← hl]; exact h2
    have hk0 : 0 < k := by
      rcases Nat.eq_zero_or_pos k with h | h
      · rw [h] at hi; omega
      · exact h
    have h3 := Go.Sort.get_flatK enc k d i hi
    have h1' : i < (Go.Sort.flatK enc k d).size := by simpa using h1
    rw [getElem!_pos _ i h1'] at h3
    have hid : i / k < d.size := Nat.div_lt_of_lt_mul (by rw [Nat.mul_comm]; exact hi)
    have him : i % k < k := Nat.mod_lt _ hk0
    rw [getElem!_pos d (i / k) hid, getElem!_pos _ (i % k) (by rw [hk]; exact him)] at h3
    have h4 := flat_get hk d.toList (i / k) (i % k) d[i / k] (by rw [Array.getElem?_toList, Array.getElem?_eq_getElem hid]) him
    have e : i / k * k + i % k = i := by rw [Nat.mul_comm]; exact Nat.div_add_mod i k
    rw [e, List.getElem?_eq_getElem h2, List.getElem?_eq_getElem (by rw [hk]; exact him)] at h4
    injection h4 with h4
    rw [Array.getElem_toList, h3, h4]
theorem grown_sorted {α : Type} [Inhabited α] (enc : α → List Value) (k : Nat) (w : World) (g n : Nat) (d : Array α) (os : Array Obj) : w.grownBy (Go.Proofs.sortWorldK enc k w g 0 n d os) (some g) := by
  refine ⟨rfl, rfl, rfl, by simp [Go.Proofs.sortWorldK, Go.Sort.putRowK], fun j hj hne => ?_⟩
  unfold Go.Proofs.sortWorldK Go.Sort.putRowK
  rw [Go.Sort.heap_grow_old _ _ (by simpa using hj)]
  have : g ≠ j := fun e => hne (by rw [e])
  simp [Go.Sort.putRow, Go.Sort.mapBlock, Go.Sort.ahead, Array.getElem?_modify, this]
theorem heap_sortedK {α : Type} [Inhabited α] (enc : α → List Value) (k : Nat) (w : World) (g n : Nat) (d : Array α) (os : Array Obj) {cur : Array Value} {e : TypeId} {fr : Nat × Nat} (hb : w.heap[g]? = some (.cells cur e fr)) :
    (Go.Proofs.sortWorldK enc k w g 0 n d os).heap[g]? = some (.cells (Go.Sort.putCells id 0 (Go.Sort.flatK enc k d) cur) e fr) := by
  have hg : g < w.heap.size := (Array.getElem?_eq_some_iff.1 hb).1
  unfold Go.Proofs.sortWorldK Go.Sort.putRowK
  rw [Go.Sort.heap_grow_old _ _ (by simpa using hg)]
  simp [Go.Sort.putRow, Go.Sort.mapBlock, Go.Sort.ahead, Array.getElem?_modify, hb, Go.Sort.onCells]
theorem take_put (cur F : Array Value) (h : F.size ≤ cur.size) : (Go.Sort.putCells id 0 F cur).toList.take F.size = F.toList := by
  apply List.ext_getElem?
  intro j
  by_cases hj : j < F.size
  · rw [List.getElem?_take_of_lt hj, Array.getElem?_toList]
    simp [Go.Sort.putCells, hj, show j < cur.size by omega]
  · rw [List.getElem?_take_eq_none (by omega), List.getElem?_eq_none (by simp; omega)]
def evC (e : Ev) : List Value := [.string e.cas, .string e.act, .string e.res, .int .i64 e.life, .int .i64 e.time, .slice none 0 0]
def tlt (x y : Ev) : Bool := decide (x.time < y.time)
theorem swo_tlt : Go.Sort.SWO tlt := by
  refine ⟨fun x => ?_, fun x y z => ?_, fun x y z => ?_⟩ <;> unfold tlt
  · simp
  · simp only [decide_eq_true_eq]; omega
  · simp only [decide_eq_false_iff_not]; omega
theorem ltOf_time : (Go.Proofs.ltOf fun x y : Ev => Lib.compareInt x.time y.time) = tlt := by
  funext x y
  unfold tlt
  show decide ((if x.time < y.time then (-1 : Int) else if x.time > y.time then 1 else 0) < 0) = _
  by_cases h : x.time < y.time
  · rw [if_pos h, decide_eq_true h]; rfl
  · rw [if_neg h, decide_eq_false h]
    by_cases h2 : x.time > y.time
    · rw [if_pos h2]; rfl
    · rw [if_neg h2]; rfl
theorem evCmp_any (x y : Ev) (W : World) :
    Calls Tryz.prog 56 #[.agg (evC x).toArray, .agg (evC y).toArray] W fun e w' => e = .returned (.int .i64 (Lib.compareInt x.time y.time)) ∧ ∃ q os', w' = Go.Sort.grow (W.drewN q) os' := by
  have hb1 := bone W (.cells (evC x).toArray 69)
  have hb2 := bone (W.alloc (.cells (evC x).toArray 69)) (.cells (evC y).toArray 69)
  unfold evC at hb1 hb2 ⊢
  have HX := Lib.hid ((Blk.new W 69 #[.string x.cas, .string x.act, .string x.res, .int .i64 x.life, .int .i64 x.time, .slice none 0 0]).now hb2)
  have HY := Lib.hid (Blk.new (W.alloc (.cells #[.string x.cas, .string x.act, .string x.res, .int .i64 x.life, .int .i64 x.time, .slice none 0 0] 69)) 69 #[.string y.cas, .string y.act, .string y.res, .int .i64 y.life, .int .i64 y.time, .slice none 0 0])
  have hsz1 : (W.alloc (.cells #[.string x.cas, .string x.act, .string x.res, .int .i64 x.life, .int .i64 x.time, .slice none 0 0] 69)).heap.size = W.heap.size + 1 := by simp
  rw [hsz1] at HY
  have HG : Hid (∃ q os', (W.alloc (.cells #[.string x.cas, .string x.act, .string x.res, .int .i64 x.life, .int .i64 x.time, .slice none 0 0] 69)).alloc (.cells #[.string y.cas, .string y.act, .string y.res, .int .i64 y.life, .int .i64 y.time, .slice none 0 0] 69) = Go.Sort.grow (W.drewN q) os') := Lib.hid ⟨0, _, by rw [Go.Sort.alloc_eq_grow, Go.Sort.alloc_eq_grow, Go.Sort.grow_grow]; rfl⟩
  have HC := Lib.hid (Tryz.cmp_Compare_int x.time y.time)
  clear hb1 hb2 hsz1
  go_enter Tryz.func56, Tryz.ntmps56
  go_upto_region 1 with fail
  obtain ⟨w2, hw2⟩ : ∃ w2, (W.alloc (.cells #[.string x.cas, .string x.act, .string x.res, .int .i64 x.life, .int .i64 x.time, .slice none 0 0] 69)).alloc (.cells #[.string y.cas, .string y.act, .string y.res, .int .i64 y.life, .int .i64 y.time, .slice none 0 0] 69) = w2 := ⟨_, rfl⟩
  rw [hw2] at HX HY HG ⊢
  clear hw2
  obtain ⟨a0, a1, a2, a3, a4, a5⟩ := HX.out.c6
  obtain ⟨b0, b1, b2, b3, b4, b5⟩ := HY.out.c6
  go_wp2_with fail
  (with_reducible refine (HC.out _).mono ?_)
  rintro e w' ⟨rfl, rfl⟩
  go_wp2_with fail
  go_ret
  exact ⟨rfl, HG.out⟩
theorem enters_evCmp : ∀ args w, (callFunc 56 args).run Tryz.prog w = .ok (.enter 56 args) w := enters_of Tryz.func56 (by kernel_rfl) rfl
theorem evC_one (e : Ev) : ∀ v ∈ evC e, v.oneCell' = true := fun v hv => by
  simp [evC] at hv
  rcases hv with rfl | rfl | rfl | rfl | rfl | rfl <;> rfl
def OwnE0 (w : World) (base : Nat) (v : Value) (L : List Ev) : Prop := OwnW 6 evC w base 69 v L
theorem insE_any {w : World} {base g cap : Nat} {L : List Ev} (ho : OwnE0 w base (.slice (some ⟨g, 0, none⟩) L.length cap) L) (h0 : 0 < L.length) (hl : L.length ≤ 1000000) :
    Calls Tryz.prog 148 #[.slice (some ⟨g, 0, none⟩) L.length cap, .int .i64 0, .int .i64 L.length, .func (.func 56) #[] #[]] w fun e w' => e = .returned (.tuple #[]) ∧ OwnE0 w' base (.slice (some ⟨g, 0, none⟩) L.length cap) (sortS tlt L) ∧ w.grownBy w' (some g) := by
  rcases ho.2 with ⟨_, h1⟩ | ⟨g', cap', cur, he, hb, hg, hc1, hc2, hc3, htk⟩
  · omega
  injection he with he1 _ he2
  injection he1 with he1
  injection he1 with he1 _ _
  subst he1 he2
  have hgl : g < w.heap.size := (Array.getElem?_eq_some_iff.1 hg).1
  haveI : Inhabited Ev := ⟨L[0]'h0⟩
  have hF : (Go.Sort.flatK evC 6 L.toArray).toList = flat evC L := by
    have := flatK_eq (k := 6) evC evC (fun x : Ev => x) (fun _ => rfl) (fun _ => rfl) L.toArray
    rw [this, List.map_id']
  have hfl : (flat evC L).length = L.length * 6 := flat_len (size := 6) (fun _ => rfl) L
  have hH : Go.Sort.HoldsK evC 6 w g 0 L.toArray := by
    intro j hj
    have hjs : j < L.length * 6 := by rw [← hfl, ← hF, Array.length_toList]; exact hj
    refine ⟨?_, by simp [World.frozen?, hg]⟩
    have h1 : (cur.toList.take (L.length * 6))[j]? = (flat evC L)[j]? := by rw [htk]
    rw [List.getElem?_take_of_lt (by omega), ← hF] at h1
    simp only [World.cell?, hg, Nat.zero_add, Option.isSome_none, Bool.false_eq_true, if_false]
    rw [← Array.getElem?_toList, h1, Array.getElem?_toList, Array.getElem?_eq_getElem hj, getElem!_pos _ j hj]; rfl
  have hcmp : Go.Proofs.CmpLays Tryz.prog 56 #[] evC 6 (fun x y : Ev => Lib.compareInt x.time y.time) g 0 L.toArray.size w := fun m os dk hdk x y => evCmp_any x y _
  have h := Go.Proofs.AnyQ.insertionSortCmpFunc Tryz.insE 6 Tryz.isAgg69 Tryz.sizeOf69 evC (fun _ => rfl) (fun x => evC_one x) (fun x y : Ev => Lib.compareInt x.time y.time) 56 #[] g 0 cap 0 L.length L.toArray w enters_evCmp hcmp hH hgl (Nat.zero_le _) (Nat.le_refl _) (by show L.length < _; omega)
  have hins : Go.Sort.insertionSort (Go.Proofs.ltOf fun x y : Ev => Lib.compareInt x.time y.time) L.toArray 0 L.length = (sortS tlt L).toArray := by
    rw [ltOf_time]
    have := insertionSort_list swo_tlt [] L []
    simpa using this
  rw [hins] at h
  have hsl : (sortS tlt L).length = L.length := (perm_sortS (lt := tlt) L).length_eq
  refine Calls.mono (show Calls Tryz.prog 148 #[.slice (some ⟨g, 0, none⟩) L.length cap, .int .i64 0, .int .i64 L.length, .func (.func 56) #[] #[]] w _ from h) fun e w' ⟨he, n, os, hw⟩ => ⟨he, ?_, by rw [hw]; exact grown_sorted evC 6 w g n _ os⟩
  obtain ⟨S, hS⟩ : ∃ S, sortS tlt L = S := ⟨_, rfl⟩
  rw [hS] at hsl hw ⊢
  have hF2 : (Go.Sort.flatK evC 6 S.toArray).toList = flat evC S := by
    have := flatK_eq (k := 6) evC evC (fun x : Ev => x) (fun _ => rfl) (fun _ => rfl) S.toArray
    rw [this, List.map_id']
  have hfl2 : (flat evC S).length = S.length * 6 := flat_len (size := 6) (fun _ => rfl) S
  rw [← hsl]
  refine ⟨hfl2, .inr ⟨g, cap, _, rfl, hb, by rw [hw]; exact heap_sortedK evC 6 w g n S.toArray os hg, by rw [hsl]; exact hc1, hc2, by simp [Go.Sort.putCells, hc3], ?_⟩⟩
  have e1 : S.length * 6 = (Go.Sort.flatK evC 6 S.toArray).size := by rw [Go.Sort.size_flatK]; rfl
  rw [e1, take_put cur _ (by rw [Go.Sort.size_flatK, hc3]; show S.length * 6 ≤ _; omega), hF2]
set_option maxHeartbeats 2000000 in
theorem stable_small {w : World} {base g cap : Nat} {L : List Ev} (ho : OwnE0 w base (.slice (some ⟨g, 0, none⟩) L.length cap) L) (h0 : 0 < L.length) (hl : L.length < 20) :
    Calls Tryz.prog 55 #[.slice (some ⟨g, 0, none⟩) L.length cap, .func (.func 56) #[] #[]] w fun e w' => e = .returned (.tuple #[]) ∧ OwnE0 w' base (.slice (some ⟨g, 0, none⟩) L.length cap) (sortS tlt L) ∧ w.grownBy w' (some g) := by
  have HI := Lib.hid (insE_any ho h0 (by omega))
  have i1 : ¬ (20 : Int) ≤ (L.length : Int) := by omega
  have i2 : ¬ (20 : Int) < (L.length : Int) := by omega
  obtain ⟨N, hN⟩ : ∃ N, L.length = N := ⟨_, rfl⟩
  rw [hN] at HI i1 i2 ⊢
  have HST : Hid (Calls Tryz.prog 104 #[.slice (some ⟨g, 0, none⟩) N cap, .int .i64 N, .func (.func 56) #[] #[]] w fun e w' => e = .returned (.tuple #[]) ∧ OwnE0 w' base (.slice (some ⟨g, 0, none⟩) N cap) (sortS tlt L) ∧ w.grownBy w' (some g)) := by
    show Calls _ _ _ _ _
    clear ho h0 hl hN
    go_enter Tryz.func104, Tryz.ntmps104
    go_wp2_with fail
    go_loopw [7, 8] (fun a b wr => a = .int .i64 0 ∧ b = .int .i64 20 ∧ w = wr) (fun _ _ _ => 0)
    case atStart => exact ⟨rfl, rfl, rfl⟩
    case round =>
      obtain ⟨rfl, rfl, rfl⟩ := hrel
      go_wp2_with fail
      (with_reducible refine HI.out.mono ?_)
      rintro e w1 ⟨rfl, ho1, hg1⟩
      have HO1 := Lib.hid ho1
      have HG1 := Lib.hid hg1
      clear ho1 hg1
      go_wp2_with fail
      go_loopw [6] (fun a wr => a = .int .i64 20 ∧ w1 = wr) (fun _ _ => 0)
      case atStart => exact ⟨rfl, rfl⟩
      case round =>
        obtain ⟨rfl, rfl⟩ := hrel
        go_wp2_with fail
        go_end0
        exact ⟨rfl, HO1.out, HG1.out⟩
  clear ho h0 hl hN HI i1 i2
  go_enter Tryz.func55, Tryz.ntmps55
  go_wp2_with fail
  (with_reducible refine HST.out.mono ?_)
  rintro e w1 ⟨rfl, ho1, hg1⟩
  have HO1 := Lib.hid ho1
  have HG1 := Lib.hid hg1
  clear ho1 hg1
  go_wp2_with fail
  go_end0
  exact ⟨rfl, HO1.out, HG1.out⟩
end Go.Proofs.YtoalecalahkblaaGreatDoor

set_option linter.all false
namespace Go.Proofs.YtoalecalahkblaaGreatDoor
open Go.RowKit
def mkS (l : Bs) : ByteArray := ⟨l.toArray⟩
theorem less_eq : ∀ (x y : Bs), Op.bytesLess x y = decide (x < y)
  | [], [] => by simp [Op.bytesLess]
  | _ :: _, [] => by simp [Op.bytesLess]
  | [], _ :: _ => by simp [Op.bytesLess]
  | a :: x, b :: y => by
    rw [Op.bytesLess, less_eq x y]
    simp only [List.cons_lt_cons_iff]
    by_cases h1 : a < b <;> by_cases h2 : a = b <;> by_cases h3 : x < y <;> simp [h1, h2, h3]
theorem Sl.take_ {α : Type} {size : Nat} {R : ElemR α} {D : Nat → Prop} {w : World} {A : Option Addr} {n c k : Nat} {xs : List α} (h : Sl size R D w (.slice A n c) xs) (hk : k ≤ xs.length) : Sl size R D w (.slice A k c) (xs.take k) := by
  obtain ⟨A', c', hv, h1, h2, h3⟩ := h
  injection hv with e1 e2 e3
  subst e1 e3
  refine ⟨A, c, by rw [List.length_take, Nat.min_eq_left hk], by rw [List.length_take]; omega, h2, fun i x hx => h3 i x ?_⟩
  rw [List.getElem?_take] at hx
  split at hx
  · exact hx
  · cases hx
abbrev OwnS (w : World) (base : Nat) (v : Value) (ss : List Bs) : Prop := w.ownsRow base 9 1 v ss.length (ss.map encStr)
end Go.Proofs.YtoalecalahkblaaGreatDoor

set_option linter.all false
namespace Go.Proofs.YtoalecalahkblaaGreatDoor
open Go.RowKit
def Off (X : Nat → Prop) (w : World) (v : Value) (b : Nat) : Prop := b < w.heap.size ∧ v.ownBlock ≠ some b ∧ ¬ X b
def OwnR {α : Type} (size : Nat) (R : ElemR α) (X : Nat → Prop) (w : World) (base t : Nat) (v : Value) (xs : List α) : Prop :=
  ∃ cs, w.ownsRow base t size v xs.length cs ∧ ∀ (i : Nat) (x : α), xs[i]? = some x → ∃ es : List Value, es.length = size ∧ (∀ j u, es[j]? = some u → cs[i * size + j]? = some u) ∧ R (Off X w v) w x es
section
variable {α : Type} {size : Nat} {R : ElemR α} {X : Nat → Prop} {w w' : World} {base t : Nat} {v v' : Value} {xs : List α}
theorem OwnR.nil : OwnR size R X w base t (.slice none 0 0) ([] : List α) := ⟨[], World.ownsRow_nil _ _ _ _, fun i x hx => by simp at hx⟩
theorem OwnR.lt (h : OwnR size R X w base t v xs) : ∀ g, v.ownBlock = some g → base ≤ g ∧ g < w.heap.size := by
  obtain ⟨cs, h, _⟩ := h
  exact h.lt
theorem OwnR.sl (h : OwnR size R X w base t v xs) (hR : ElemR.Kept R) : Sl size R (Lt w.heap.size) w v xs := by
  obtain ⟨cs, h, he⟩ := h
  refine Sl.of_own h rfl (own_lt h) fun i x hx => ?_
  obtain ⟨es, h1, h2, h3⟩ := he i x hx
  exact ⟨es, h1, h2, hR _ _ _ _ _ _ (fun b hb => hb.1) (Same.refl _ _) h3⟩
theorem OwnR.open_ (h : OwnR size R X w base t v xs) : ∃ A c, v = .slice A xs.length c := by
  obtain ⟨cs, h, _⟩ := h
  rcases h.2 with ⟨rfl, h0⟩ | ⟨g, cap, cur, rfl, _⟩
  · exact ⟨none, 0, by rw [h0]⟩
  · exact ⟨_, _, rfl⟩
theorem OwnR.grown {row : Option Nat} (h : OwnR size R X w base t v xs) (hR : ElemR.Kept R) (hb : w.grownBy w' row) (hr : ∀ g, row = some g → X g ∧ v.ownBlock ≠ some g) : OwnR size R X w' base t v xs := by
  obtain ⟨cs, h, he⟩ := h
  refine ⟨cs, h.kept hb ?_, fun i x hx => ?_⟩
  · cases e : v.ownBlock with
    | none => exact .inl rfl
    | some g => exact .inr (fun h' => (hr g h'.symm).2 e)
  · obtain ⟨es, h1, h2, h3⟩ := he i x hx
    refine ⟨es, h1, h2, hR _ _ _ _ _ _ (fun b hb' => ⟨Nat.lt_of_lt_of_le hb'.1 hb.size, hb'.2⟩) (fun b hb' => hb.block b hb'.1 ?_) h3⟩
    exact fun e => hb'.2.2 (hr b e.symm).1
theorem OwnR.now (h : OwnR size R X w base t v xs) (hR : ElemR.Kept R) (hb : Below w.heap.size w w') : OwnR size R X w' base t v xs :=
  h.grown hR (grown_of_below hb none) (fun _ e => by cases e)
theorem OwnR.drewN (h : OwnR size R X w base t v xs) (hR : ElemR.Kept R) (q : Nat) : OwnR size R X (w.drewN q) base t v xs := h.now hR (bdrawn (Below.refl _ _) q)
theorem OwnR.far (h : OwnR size R X w base t v xs) (hR : ElemR.Kept R) {p : Addr} (hX : X p.block) (hv : v.ownBlock ≠ some p.block) (u : Value) : OwnR size R X (w.setCell p u) base t v xs :=
  h.grown hR (row := some p.block) ⟨rfl, rfl, rfl, by simp, fun i _ hne => Below.heap_setCell w p u i (fun e => hne (by rw [e]))⟩ (fun g e => by injection e with e; subst e; exact ⟨hX, hv⟩)
theorem OwnR.pushed {x : α} {es cs : List Value} (h : w.ownsRow base t size v xs.length cs) (he : ∀ (i : Nat) (x : α), xs[i]? = some x → ∃ es : List Value, es.length = size ∧ (∀ j u, es[j]? = some u → cs[i * size + j]? = some u) ∧ R (Off X w v) w x es)
    (hR : ElemR.Kept R) (hl : es.length = size) (hx : R (Off X w v) w x es)
    (ho : w'.ownsRow base t size v' (xs.length + 1) (cs ++ es)) (hg : w.grownBy w' v.ownBlock) (hat : v'.ownBlock = v.ownBlock ∨ v'.ownBlock = some (w.heap.size + 1)) : OwnR size R X w' base t v' (xs ++ [x]) := by
  have keep : ∀ y cs, R (Off X w v) w y cs → R (Off X w' v') w' y cs := fun y cs hy =>
    hR _ _ _ _ _ _ (fun b hb => ⟨Nat.lt_of_lt_of_le hb.1 hg.size, (by rcases hat with e | e
                                                                      · rw [e]; exact hb.2.1
                                                                      · rw [e]; intro e'; injection e' with e'; have := hb.1; omega), hb.2.2⟩)
      (fun b hb => hg.block b hb.1 (fun e => hb.2.1 e.symm)) hy
  refine ⟨cs ++ es, by simpa using ho, fun i y hy => ?_⟩
  rcases Nat.lt_or_ge i xs.length with hi | hi
  · rw [List.getElem?_append_left hi] at hy
    obtain ⟨es', h1, h2, h3⟩ := he i y hy
    refine ⟨es', h1, fun j u hu => ?_, keep _ _ h3⟩
    have := h2 j u hu
    rw [List.getElem?_append_left]
    · exact this
    · rcases Nat.lt_or_ge (i * size + j) cs.length with h' | h'
      · exact h'
      · rw [List.getElem?_eq_none h'] at this; cases this
  · rw [List.getElem?_append_right hi] at hy
    have hi0 : i - xs.length = 0 := by
      rcases Nat.eq_zero_or_pos (i - xs.length) with h' | h'
      · exact h'
      · rw [List.getElem?_eq_none (by simpa using Nat.succ_le_of_lt h')] at hy; cases hy
    rw [hi0] at hy
    injection hy with hy
    subst hy
    obtain rfl : i = xs.length := by omega
    refine ⟨es, hl, fun j u hu => ?_, keep _ _ hx⟩
    have hc : cs.length = xs.length * size := h.1
    rw [List.getElem?_append_right (by omega), hc, Nat.add_sub_cancel_left]
    exact hu
end
section
variable {P : Program} {t e size base : Nat} {α : Type} {R : ElemR α} {X : Nat → Prop}
theorem wp_pushR {o : Oper} {a : Act} {K : Act → World → Prop} {Q : Exit → Act → World → Prop} (hI : AppInfo P t e size) (hR : ElemR.Kept R) (s x : Operand)
    (ho : o.op = .call { callee := .builtin .append, args := #[s, x], argTypes := #[t, t] }) (w0 : World) (es : List Value) (hes : es.length = size) (h1 : ∀ u ∈ es, u.oneCell' = true)
    (v : Value) (xs : List α) (y : α) (hs : a.eval s = v) (hown : OwnR size R X w0 base e v xs) (hy : R (Off X w0 v) w0 y es) (hx : a.eval x = .slice (some ⟨w0.heap.size, 0, none⟩) 1 1) (hn : xs.length < 10000000) (hbase : base ≤ w0.heap.size)
    (h : ∀ v' w', OwnR size R X w' base e v' (xs ++ [y]) → w0.grownBy w' v.ownBlock → (v'.ownBlock = v.ownBlock ∨ v'.ownBlock = some (w0.heap.size + 1)) → K (a.put o.dst v') w') : o.wp P a (w0.alloc (.cells es.toArray e)) K Q := by
  obtain ⟨cs, h2, h3⟩ := hown
  exact wp_push hI s x ho w0 es hes h1 v xs.length cs hs h2 hx hn hbase fun v' w' a1 a2 a3 => h v' w' (OwnR.pushed h2 h3 hR hes hy a1 a2 a3) a2 a3
theorem wpList_pushR {ops : Array Oper} {rest : List Oper} {o : Oper} {a : Act} {Q : Exit → Act → World → Prop} (hI : AppInfo P t e size) (hR : ElemR.Kept R) (hgd : o.guard = none) (s x : Operand)
    (ho : o.op = .call { callee := .builtin .append, args := #[s, x], argTypes := #[t, t] }) (w0 : World) (es : List Value) (hes : es.length = size) (h1 : ∀ u ∈ es, u.oneCell' = true)
    (v : Value) (xs : List α) (y : α) (hs : a.eval s = v) (hown : OwnR size R X w0 base e v xs) (hy : R (Off X w0 v) w0 y es) (hx : a.eval x = .slice (some ⟨w0.heap.size, 0, none⟩) 1 1) (hn : xs.length < 10000000) (hbase : base ≤ w0.heap.size)
    (h : ∀ v' w', OwnR size R X w' base e v' (xs ++ [y]) → w0.grownBy w' v.ownBlock → (v'.ownBlock = v.ownBlock ∨ v'.ownBlock = some (w0.heap.size + 1)) → wpList P ops Q rest (a.put o.dst v') w') : wpList P ops Q (o :: rest) a (w0.alloc (.cells es.toArray e)) :=
  wpList_plain hgd fun _ hK => wp_pushR hI hR s x ho w0 es hes h1 v xs y hs hown hy hx hn hbase fun v' w' h2 h3 h4 => hK _ _ (h v' w' h2 h3 h4)
end
end Go.Proofs.YtoalecalahkblaaGreatDoor

set_option linter.all false
namespace Go.Proofs.YtoalecalahkblaaGreatDoor
open Go.RowKit
abbrev Bt := List UInt8
def isSep (c : UInt8) : Bool := c == 44 || c == 59 || c == 124 || c == 9
def printB (c : UInt8) : Bool := decide (32 ≤ c) && decide (c ≤ 126)
def quoteB : Bt → Bt
  | [] => []
  | c :: b => if c = 34 then 34 :: 34 :: quoteB b else c :: quoteB b
def special (sep : UInt8) (b : Bt) : Bool := b.any fun c => c == 34 || c == sep
def cellT (sep : UInt8) (b : Bt) : Bt := if special sep b then 34 :: (quoteB b ++ [34]) else b
def cellsT (sep : UInt8) : List Bt → Bt
  | [] => []
  | [b] => cellT sep b
  | b :: r => cellT sep b ++ sep :: cellsT sep r
def rowT (sep : UInt8) (r : List Bt) : Bt := cellsT sep r ++ [10]
def tableT (sep : UInt8) : List (List Bt) → Bt
  | [] => []
  | r :: rs => rowT sep r ++ tableT sep rs
def tableB (rows : List (List Bt)) : Bool := rows.all fun r => !r.isEmpty && r.all fun b => b.all printB
inductive CellR
  | ok (b rest : Bt)
  | bad (rest : Bt) (e : Int)
def endsB (sep : UInt8) : Bt → Bool
  | [] => true
  | c :: _ => c == 10 || c == sep
def quotedR (sep : UInt8) (acc : Bt) : Bt → CellR
  | [] => .bad [] 4
  | c :: r =>
    if printB c = false then .bad (c :: r) 3
    else if c = 34 then
      match r with
      | [] => .ok acc []
      | d :: r' => if d = 34 then quotedR sep (acc ++ [34]) r' else if endsB sep (d :: r') then .ok acc (d :: r') else .bad (d :: r') 3
    else quotedR sep (acc ++ [c]) r
def plainR (sep : UInt8) (acc : Bt) : Bt → CellR
  | [] => .ok acc []
  | c :: r => if c = 10 ∨ c = sep then .ok acc (c :: r) else if printB c = false ∨ c = 34 then .bad (c :: r) 3 else plainR sep (acc ++ [c]) r
def cellR (sep : UInt8) (t : Bt) : CellR :=
  match t with
  | 34 :: r => quotedR sep [] r
  | t => plainR sep [] t
theorem isSep_print {sep : UInt8} (h : isSep sep = true) : sep ≠ 34 ∧ sep ≠ 10 := by
  unfold isSep at h
  simp only [Bool.or_eq_true, beq_iff_eq] at h
  rcases h with ((rfl | rfl) | rfl) | rfl <;> decide
inductive TabR
  | ok (rows : List (List Bt))
  | bad (rest : Bt) (e : Int)
inductive RowR
  | ok (r : List Bt) (rest : Bt)
  | bad (rest : Bt) (e : Int)
def rowR (sep : UInt8) : Nat → List Bt → Bt → RowR
  | 0, acc, t => match cellR sep t with
    | .bad rest e => .bad rest e
    | .ok b [] => .ok (acc ++ [b]) []
    | .ok b (_ :: rest) => .ok (acc ++ [b]) rest
  | n + 1, acc, t => match cellR sep t with
    | .bad rest e => .bad rest e
    | .ok b [] => .ok (acc ++ [b]) []
    | .ok b (c :: rest) => if c = 10 then .ok (acc ++ [b]) rest else rowR sep n (acc ++ [b]) rest
def tabR (sep : UInt8) : Nat → List (List Bt) → Bt → TabR
  | _, acc, [] => .ok acc
  | 0, _, t => .bad t 5
  | n + 1, acc, t => if acc.length = 2001 then .bad t 5 else
    match rowR sep t.length [] t with
    | .bad rest e => .bad rest e
    | .ok r rest => tabR sep n (acc ++ [r]) rest
theorem cellsT_cons {sep : UInt8} (b c : Bt) (r : List Bt) : cellsT sep (b :: c :: r) = cellT sep b ++ sep :: cellsT sep (c :: r) := rfl
end Go.Proofs.YtoalecalahkblaaGreatDoor
