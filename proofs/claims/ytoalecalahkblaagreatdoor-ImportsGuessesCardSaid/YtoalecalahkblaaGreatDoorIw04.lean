/- Texts of this seat, merged. -/
import Derived.Lib.SlicesCompact
import Derived.Outline
import Derived.Shelf.Abstract
import Derived.Laws.IdiomStrings
import Derived.Deep.QuietTactic
import Derived.BigQuiet
import Derived.Test.YtoalecalahkblaaGreatDoorIw01
import Derived.Test.YtoalecalahkblaaGreatDoorIw02
import Derived.Test.YtoalecalahkblaaGreatDoorIw03
set_option linter.all false
set_option linter.all false
namespace Go.Proofs.YtoalecalahkblaaGreatDoor
open Go.RowKit
section
variable {α : Type} {fc : α → List Value} {size : Nat}
def flat (fc : α → List Value) (xs : List α) : List Value := xs.flatMap fc
theorem flat_len (hfc : ∀ x, (fc x).length = size) (xs : List α) : (flat fc xs).length = xs.length * size := by
  induction xs with
  | nil => simp [flat]
  | cons x xs ih =>
    have : flat fc (x :: xs) = fc x ++ flat fc xs := rfl
    rw [this, List.length_append, hfc, ih, List.length_cons, Nat.succ_mul]; omega
theorem flat_get (hfc : ∀ x, (fc x).length = size) (xs : List α) : ∀ (i j : Nat) (x : α), xs[i]? = some x → j < size → (flat fc xs)[i * size + j]? = (fc x)[j]? := by
  induction xs with
  | nil => intro i j x hx; simp at hx
  | cons y xs ih =>
    intro i j x hx hj
    have e : flat fc (y :: xs) = fc y ++ flat fc xs := rfl
    rw [e]
    cases i with
    | zero =>
      injection hx with hx; subst hx
      rw [Nat.zero_mul, Nat.zero_add, List.getElem?_append_left (by rw [hfc]; exact hj)]
    | succ i =>
      rw [List.getElem?_append_right (by rw [hfc, Nat.succ_mul]; omega), hfc]
      have : (i + 1) * size + j - size = i * size + j := by rw [Nat.succ_mul]; omega
      rw [this]
      exact ih i j x (by simpa using hx) hj
theorem flat_append (xs ys : List α) : flat fc (xs ++ ys) = flat fc xs ++ flat fc ys := by simp [flat]
def OwnW (size : Nat) (fc : α → List Value) (w : World) (base t : Nat) (v : Value) (xs : List α) : Prop := w.ownsRow base t size v xs.length (flat fc xs)
variable {R : ElemR α} {w w' : World} {base t : Nat} {v : Value} {xs : List α}
theorem OwnW.nil : OwnW size fc w base t (.slice none 0 0) ([] : List α) := World.ownsRow_nil _ _ _ _
theorem OwnW.now (h : OwnW size fc w base t v xs) (hb : Below w.heap.size w w') : OwnW size fc w' base t v xs := own_now h hb
theorem OwnW.sl (h : OwnW size fc w base t v xs) (hfc : ∀ x, (fc x).length = size) (hR : ∀ D w x, x ∈ xs → R D w x (fc x)) : Sl size R (Lt w.heap.size) w v xs :=
  Sl.of_own h rfl (own_lt h) fun i x hx => ⟨fc x, hfc x, fun j u hu => by
    have hj : j < size := by
      rw [← hfc x]
      rcases Nat.lt_or_ge j (fc x).length with h' | h'
      · exact h'
      · rw [List.getElem?_eq_none h'] at hu; cases hu
    rw [flat_get hfc xs i j x hx hj]; exact hu, hR _ _ x (List.mem_of_getElem? hx)⟩
theorem OwnW.form (h : OwnW size fc w base t v xs) (hn : 0 < xs.length) : ∃ g cap, v = .slice (some ⟨g, 0, none⟩) xs.length cap ∧ xs.length ≤ cap ∧ base ≤ g ∧ g < w.heap.size := by
  have hl := World.ownsRow.lt h
  rcases h.2 with ⟨_, h0⟩ | ⟨g, cap, cur, rfl, hb, hg, hc, hm, hs, htake⟩
  · omega
  · exact ⟨g, cap, rfl, hc, hb, (hl g rfl).2⟩
theorem wpList_pushW {P : Program} {e : Nat} {ops : Array Oper} {rest : List Oper} {o : Oper} {a : Act} {Q : Exit → Act → World → Prop} (hI : AppInfo P t e size) (hgd : o.guard = none) (s x : Operand)
    (ho : o.op = .call { callee := .builtin .append, args := #[s, x], argTypes := #[t, t] }) (w0 : World) (y : α) (xs : List α) (hfc : (fc y).length = size) (h1 : ∀ u ∈ fc y, u.oneCell' = true)
    (v : Value) (hs : a.eval s = v) (hown : OwnW size fc w0 base e v xs) (hx : a.eval x = .slice (some ⟨w0.heap.size, 0, none⟩) 1 1) (hn : xs.length < 10000000) (hbase : base ≤ w0.heap.size)
    (h : ∀ v' w', OwnW size fc w' base e v' (xs ++ [y]) → w0.grownBy w' v.ownBlock → (v'.ownBlock = v.ownBlock ∨ v'.ownBlock = some (w0.heap.size + 1)) → wpList P ops Q rest (a.put o.dst v') w') : wpList P ops Q (o :: rest) a (w0.alloc (.cells (fc y).toArray e)) :=
  wpList_push hI hgd s x ho w0 (fc y) hfc h1 v xs.length (flat fc xs) hs hown hx hn hbase fun v' w' h2 h3 h4 => h v' w' (by
    unfold OwnW
    rw [flat_append, List.length_append]
    simpa [flat] using h2) h3 h4
end
end Go.Proofs.YtoalecalahkblaaGreatDoor

set_option linter.all false
namespace Go.Proofs.YtoalecalahkblaaGreatDoor
open Go.RowKit
abbrev Bs := List UInt8
def Asc (l : List Bs) : Prop := l.Pairwise (· < ·)
theorem asc_push {l : List Bs} {s : Bs} (h : Asc l) (hs : ∀ x ∈ l, x < s) : Asc (l ++ [s]) := by
  unfold Asc
  rw [List.pairwise_append]
  exact ⟨h, by simp, fun x hx y hy => by simp at hy; rw [hy]; exact hs x hx⟩
theorem asc_get {l : List Bs} (h : Asc l) {k : Nat} {x y : Bs} (hx : x ∈ l.take k) (hy : l[k]? = some y) : x < y := by
  have hk : k < l.length := by
    rcases Nat.lt_or_ge k l.length with h' | h'
    · exact h'
    · rw [List.getElem?_eq_none h'] at hy; cases hy
  have e : l = l.take k ++ l.drop k := (List.take_append_drop k l).symm
  unfold Asc at h
  rw [e, List.pairwise_append] at h
  refine h.2.2 x hx y ?_
  rw [List.getElem?_eq_getElem hk] at hy
  injection hy with hy
  rw [List.drop_eq_getElem_cons hk, hy]
  simp
def sortB (ls : List Bs) : List Bs := ls.mergeSort fun x y => decide (x ≤ y)
def setB (ls : List Bs) : List Bs := Lib.compact (sortB ls)
structure InsInv (l : List Bs) (s : Bs) (k : Nat) (d : Bool) (out : List Bs) : Prop where
  asc : Asc out
  mem : ∀ x, x ∈ out ↔ x ∈ l.take k ∨ (d = true ∧ x = s)
  big : d = true → ∃ y ∈ l.take k, s < y
  small : d = false → ∀ x ∈ l.take k, x < s
  len : out.length ≤ k + (if d then 1 else 0)
theorem InsInv.start (l : List Bs) (s : Bs) : InsInv l s 0 false [] := ⟨by simp [Asc], by simp, by simp, by simp, by simp⟩
theorem take_snoc {l : List Bs} {k : Nat} {y : Bs} (hy : l[k]? = some y) : l.take (k + 1) = l.take k ++ [y] := by
  rw [List.take_add_one, hy]; rfl
theorem InsInv.after {l : List Bs} {s : Bs} {k : Nat} {out : List Bs} {y : Bs} (h : InsInv l s k true out) (hl : Asc l) (hy : l[k]? = some y) : InsInv l s (k + 1) true (out ++ [y]) := by
  obtain ⟨z, hz, hsz⟩ := h.big rfl
  refine ⟨asc_push h.asc fun x hx => ?_, fun x => ?_, fun _ => ⟨z, by rw [take_snoc hy]; simp [hz], hsz⟩, by simp, by have := h.len; simp at this ⊢; omega⟩
  · rcases (h.mem x).1 hx with h' | ⟨_, h'⟩
    · exact asc_get hl h' hy
    · rw [h']; exact List.lt_trans hsz (asc_get hl hz hy)
  · rw [take_snoc hy]
    simp only [List.mem_append, List.mem_singleton, h.mem]
    constructor
    · rintro ((h | h) | h)
      · exact .inl (.inl h)
      · exact .inr h
      · exact .inl (.inr h)
    · rintro ((h | h) | h)
      · exact .inl (.inl h)
      · exact .inr h
      · exact .inl (.inr h)
def InsRes (l : List Bs) (s : Bs) (r : List Bs) : Prop := Asc r ∧ (∀ x, x ∈ r ↔ x ∈ l ∨ x = s) ∧ r.length ≤ l.length + 1
theorem InsRes.same {l : List Bs} {s : Bs} (h : Asc l) (hs : s ∈ l) : InsRes l s l := ⟨h, fun x => ⟨Or.inl, fun h' => by rcases h' with h' | h'; exact h'; rw [h']; exact hs⟩, by omega⟩
end Go.Proofs.YtoalecalahkblaaGreatDoor

set_option linter.all false
namespace Go.Proofs.YtoalecalahkblaaGreatDoor
open Go.RowKit
structure Val where
  kind : Int
  n : Int
  s : ByteArray
deriving DecidableEq
structure Var where
  name : ByteArray
  kind : Int
  low : Int
  high : Int
  items : List ByteArray
def plainC (c : UInt8) : Bool := decide (32 ≤ c.toNat ∧ c.toNat ≤ 126)
def textB (s : ByteArray) : Bool := decide (s.size ≤ 200) && s.data.toList.all plainC
def numB (n : Int) : Bool := decide (-4503599627370496 ≤ n ∧ n ≤ 4503599627370496)
def noS (s : ByteArray) : Bool := s.toList.isEmpty
def validV (v : Val) : Bool :=
  if v.kind = 1 then decide (v.n = 0 ∨ v.n = 1) && noS v.s
  else if v.kind = 2 then numB v.n && noS v.s
  else if v.kind = 3 then decide (v.n = 0) && textB v.s
  else false
def bytesOf (l : List ByteArray) : List Bs := l.map fun s => s.data.toList
def onceB (l : List Bs) : Bool := decide l.Nodup
def formB (x : Var) : Bool :=
  if x.kind = 1 then decide (x.low = 0 ∧ x.high = 0 ∧ x.items.length = 0)
  else if x.kind = 2 then numB x.low && numB x.high && decide (x.low ≤ x.high ∧ x.high - x.low < 1000 ∧ x.items.length = 0)
  else if x.kind = 3 then decide (x.low = 0 ∧ x.high = 0 ∧ 1 ≤ x.items.length ∧ x.items.length ≤ 1000) && x.items.all textB && onceB (bytesOf x.items)
  else false
def varB (x : Var) : Bool := isNameB x.name && formB x
def varsB (l : List Var) : Bool := decide (l.length ≤ 8) && l.all varB && onceB (bytesOf (l.map Var.name))
def atS (l : List ByteArray) (s : ByteArray) : Int := match l.findIdx? (fun y => y.toList == s.toList) with | some i => (i : Int) | none => -1
def placeV (x : Var) (v : Val) : Int :=
  if v.kind ≠ x.kind then -1
  else if x.kind = 1 then v.n
  else if x.kind = 3 then atS x.items v.s
  else if v.n < x.low ∨ x.high < v.n then -1
  else v.n - x.low
def sizeV (x : Var) : Int := if x.kind = 1 then 2 else if x.kind = 2 then x.high - x.low + 1 else x.items.length
def emptyS : ByteArray := ⟨#[]⟩
def nthV (x : Var) (i : Int) : Val :=
  if x.kind = 3 then ⟨3, 0, x.items.getD i.toNat emptyS⟩ else if x.kind = 2 then ⟨2, i + x.low, emptyS⟩ else ⟨x.kind, i, emptyS⟩
def noV : Val := ⟨0, 0, emptyS⟩
end Go.Proofs.YtoalecalahkblaaGreatDoor

set_option linter.all false
namespace Go.Proofs.YtoalecalahkblaaGreatDoor
open Go.RowKit
structure Fld where
  nm : ByteArray
  v : Val
structure Ev where
  cas : ByteArray
  act : ByteArray
  res : ByteArray
  life : Int
  time : Int
  data : List Fld
def arNum (n : Nat) : List UInt8 := if n < 128 then [UInt8.ofNat n] else UInt8.ofNat (n % 128 + 128) :: arNum (n / 128)
termination_by n
def arText (s : List UInt8) : List UInt8 := arNum s.length ++ s
def zigZ (n : Int) : Nat := if n < 0 then (-2 * n - 1).toNat else (2 * n).toNat
def arVal (v : Val) : List UInt8 := arNum v.kind.toNat ++ (if v.kind = 1 then arNum v.n.toNat else if v.kind = 2 then arNum (zigZ v.n) else arText v.s.data.toList)
def arFld (f : Fld) : List UInt8 := arText f.nm.data.toList ++ arVal f.v
def arData (e : Ev) : List UInt8 := arNum e.data.length ++ e.data.flatMap arFld
def lead (x : Nat) : List Nat → Nat
  | [] => 0
  | y :: l => if y = x then lead x l + 1 else 0
def arRunsF : Nat → List Nat → List UInt8
  | 0, _ => []
  | _ + 1, [] => []
  | f + 1, x :: l => arNum x ++ arNum (lead x l + 1) ++ arRunsF f (l.drop (lead x l))
def arRuns (l : List Nat) : List UInt8 := arRunsF l.length l
def names3 (l : List Ev) : List Bs := l.map (fun e => e.cas.data.toList) ++ (l.map (fun e => e.act.data.toList) ++ l.map (fun e => e.res.data.toList))
def words (l : List Ev) : List Bs := setB (names3 l)
def arTimes : Int → List Ev → List UInt8
  | _, [] => []
  | t, e :: l => arNum (e.time - t).toNat ++ arTimes e.time l
def atW (ws : List Bs) (s : ByteArray) : Nat := ws.idxOf s.data.toList
def arBlock (l : List Ev) : List UInt8 :=
  arNum (words l).length ++ (words l).flatMap arText ++ arRuns (l.map fun e => atW (words l) e.cas) ++ arRuns (l.map fun e => atW (words l) e.act) ++ arRuns (l.map fun e => atW (words l) e.res) ++
    arRuns (l.map fun e => e.life.toNat) ++ arTimes 0 l ++ l.flatMap arData
def part (l : List Ev) (n : Nat) : List Ev := (l.drop (100 * n)).take 100
def nParts (l : List Ev) : Nat := (l.length + 99) / 100
def arParts (l : List Ev) (n : Nat) : List UInt8 := (List.range n).flatMap fun k => arBlock (part l k)
def arBody (l : List Ev) : List UInt8 := arNum l.length ++ arParts l (nParts l)
def crcBit (r : Nat) : Nat := if r % 2 = 1 then r / 2 ^^^ 3988292384 else r / 2
def crcN : Nat → Nat → Nat
  | 0, r => r
  | k + 1, r => crcN k (crcBit r)
def crcL (r : Nat) (l : List UInt8) : Nat := l.foldl (fun r c => crcN 8 (r ^^^ c.toNat)) r
def crcOf (l : List UInt8) : Nat := crcL 4294967295 l
def sumOf (l : List UInt8) : Nat := 4294967295 ^^^ crcOf l
def le4 (s : Nat) : List UInt8 := [UInt8.ofNat (s % 256), UInt8.ofNat (s / 256 % 256), UInt8.ofNat (s / 65536 % 256), UInt8.ofNat (s / 16777216 % 256)]
def arPack (l : List Ev) : List UInt8 := arBody l ++ le4 (sumOf (arBody l))
def fldB (f : Fld) : Bool := isNameB f.nm && validV f.v
def fldAt (l : List Fld) (i : Nat) : Bool := match l[i]? with
  | none => true
  | some f => fldB f && (decide (i = 0) || match l[i - 1]? with | none => true | some g => decide (g.nm.data.toList < f.nm.data.toList))
def fldsB (l : List Fld) : Bool := (List.range l.length).all (fldAt l)
def evB (e : Ev) : Bool := isNameB e.cas && isNameB e.act && (noS e.res || isNameB e.res) && decide (1 ≤ e.life ∧ e.life ≤ 6) && decide (0 ≤ e.time ∧ e.time ≤ 1099511627776) && decide (e.data.length ≤ 8) && fldsB e.data
def evAt (l : List Ev) (i : Nat) : Bool := match l[i]? with
  | none => true
  | some f => evB f && (decide (i = 0) || match l[i - 1]? with | none => true | some g => decide (g.time ≤ f.time))
def logB (l : List Ev) : Bool := decide (l.length ≤ 2000) && (List.range l.length).all (evAt l)
end Go.Proofs.YtoalecalahkblaaGreatDoor

set_option linter.all false
namespace Go.Proofs.YtoalecalahkblaaGreatDoor
open Go.RowKit
structure FitV (v : Val) : Prop where
  kind : Fit v.kind
  n : Fit v.n
  s : v.s.size ≤ maxLen
def valV (v : Val) : Value := .agg #[.int .i64 v.kind, .int .i64 v.n, .string v.s]
def RVal : ElemR Val := fun _ _ v cs => cs = [.int .i64 v.kind, .int .i64 v.n, .string v.s] ∧ FitV v
theorem RVal.kept : ElemR.Kept RVal := fun _ _ _ _ _ _ _ _ h => h
def SlV := Sl 3 RVal
def RVar : ElemR Var := fun D w x cs => ∃ iv, cs = [.string x.name, .int .i64 x.kind, .int .i64 x.low, .int .i64 x.high, iv] ∧ x.name.size ≤ maxLen ∧ Fit x.kind ∧ Fit x.low ∧ Fit x.high ∧ SlS D w iv x.items
theorem RVar.kept : ElemR.Kept RVar := by
  rintro D D' w w' x cs hd hs ⟨iv, rfl, h1, h2, h3, h4, hi⟩
  exact ⟨iv, rfl, h1, h2, h3, h4, Sl.keep hi RStr.kept hd hs⟩
def SlX := Sl 5 RVar
def IsVar (D : Nat → Prop) (w : World) (u : Value) (x : Var) : Prop := ∃ iv, u = .agg #[.string x.name, .int .i64 x.kind, .int .i64 x.low, .int .i64 x.high, iv] ∧ x.name.size ≤ maxLen ∧ Fit x.kind ∧ Fit x.low ∧ Fit x.high ∧ SlS D w iv x.items
section
variable {D D' : Nat → Prop} {w w' : World} {u : Value}
theorem IsVar.now {x : Var} (h : IsVar (Lt w.heap.size) w u x) (hb : Below w.heap.size w w') : IsVar (Lt w'.heap.size) w' u x := by
  obtain ⟨iv, e, h1, h2, h3, h4, hi⟩ := h
  exact ⟨iv, e, h1, h2, h3, h4, hi.now hb⟩
theorem IsVar.below {x : Var} {B B' : Nat} (h : IsVar (Lt B) w u x) (hb : Below B w w') (hB : B ≤ B') : IsVar (Lt B') w' u x := by
  obtain ⟨iv, e, h1, h2, h3, h4, hi⟩ := h
  exact ⟨iv, e, h1, h2, h3, h4, hi.below hb hB⟩
theorem SlV.now {zs : List Val} (h : SlV (Lt w.heap.size) w u zs) (hb : Below w.heap.size w w') : SlV (Lt w'.heap.size) w' u zs := Sl.below h RVal.kept hb hb.size
theorem SlX.now {zs : List Var} (h : SlX (Lt w.heap.size) w u zs) (hb : Below w.heap.size w w') : SlX (Lt w'.heap.size) w' u zs := Sl.below h RVar.kept hb hb.size
theorem SlV.open_ {zs : List Val} (h : SlV D w u zs) : ∃ A c, u = .slice A zs.length c ∧ zs.length ≤ c ∧ c ≤ 9223372036854775807 ∧ SlV D w (.slice A zs.length c) zs := Sl.open_ h
theorem SlX.open_ {zs : List Var} (h : SlX D w u zs) : ∃ A c, u = .slice A zs.length c ∧ zs.length ≤ c ∧ c ≤ 9223372036854775807 ∧ SlX D w (.slice A zs.length c) zs := Sl.open_ h
theorem SlV.at_ {zs : List Val} {A : Option Addr} {n c k : Nat} (h : SlV D w (.slice A n c) zs) (hk : k < n) :
    ∃ b o v, A = some ⟨b, o, none⟩ ∧ D b ∧ zs[k]? = some v ∧ FitV v ∧ w.cell? ⟨b, o + k * 3, none⟩ = some (.int .i64 v.kind) ∧ w.cell? ⟨b, o + k * 3 + 1, none⟩ = some (.int .i64 v.n) ∧ w.cell? ⟨b, o + k * 3 + 2, none⟩ = some (.string v.s) := by
  obtain ⟨b, o, x, u0, u1, u2, hA, hD, hx, ⟨hu, hf⟩, h0, h1, h2⟩ := Sl.at3 h hk
  injection hu with e0 hu; injection hu with e1 hu; injection hu with e2 hu
  subst e0 e1 e2
  exact ⟨b, o, x, hA, hD, hx, hf, h0, h1, h2⟩
theorem Sl.at5 {α : Type} {R : ElemR α} {xs : List α} {A : Option Addr} {n c k : Nat} (h : Sl 5 R D w (.slice A n c) xs) (hk : k < n) :
    ∃ b o x u0 u1 u2 u3 u4, A = some ⟨b, o, none⟩ ∧ D b ∧ xs[k]? = some x ∧ R D w x [u0, u1, u2, u3, u4] ∧ w.cell? ⟨b, o + k * 5, none⟩ = some u0 ∧ w.cell? ⟨b, o + k * 5 + 1, none⟩ = some u1 ∧ w.cell? ⟨b, o + k * 5 + 2, none⟩ = some u2 ∧ w.cell? ⟨b, o + k * 5 + 3, none⟩ = some u3 ∧ w.cell? ⟨b, o + k * 5 + 4, none⟩ = some u4 := by
  obtain ⟨A', c', hv, h1, h2, h3⟩ := h
  injection hv with hA hn hc
  subst hA hn hc
  obtain ⟨b, o, cs, hA, hD, hl, hr, hcell⟩ := h3 k xs[k] (List.getElem?_eq_getElem hk)
  match cs, hl with
  | [u0, u1, u2, u3, u4], _ => exact ⟨b, o, xs[k], u0, u1, u2, u3, u4, hA, hD, List.getElem?_eq_getElem hk, hr, hcell 0 u0 rfl, hcell 1 u1 rfl, hcell 2 u2 rfl, hcell 3 u3 rfl, hcell 4 u4 rfl⟩
theorem SlX.at_ {zs : List Var} {A : Option Addr} {n c k : Nat} (h : SlX D w (.slice A n c) zs) (hk : k < n) :
    ∃ b o x iv, A = some ⟨b, o, none⟩ ∧ D b ∧ zs[k]? = some x ∧ IsVar D w (.agg #[.string x.name, .int .i64 x.kind, .int .i64 x.low, .int .i64 x.high, iv]) x ∧ SlS D w iv x.items ∧ w.cell? ⟨b, o + k * 5, none⟩ = some (.string x.name) ∧ w.cell? ⟨b, o + k * 5 + 1, none⟩ = some (.int .i64 x.kind) ∧ w.cell? ⟨b, o + k * 5 + 2, none⟩ = some (.int .i64 x.low) ∧ w.cell? ⟨b, o + k * 5 + 3, none⟩ = some (.int .i64 x.high) ∧ w.cell? ⟨b, o + k * 5 + 4, none⟩ = some iv := by
  obtain ⟨b, o, x, u0, u1, u2, u3, u4, hA, hD, hx, ⟨iv, hu, a1, a2, a3, a4, hi⟩, h0, h1, h2, h3, h4⟩ := Sl.at5 h hk
  injection hu with e0 hu; injection hu with e1 hu; injection hu with e2 hu; injection hu with e3 hu; injection hu with e4 hu
  subst e0 e1 e2 e3 e4
  exact ⟨b, o, x, u4, hA, hD, hx, ⟨u4, rfl, a1, a2, a3, a4, hi⟩, hi, h0, h1, h2, h3, h4⟩
end
def RowB (w : World) (g : Nat) (l : List UInt8) : Prop := ∀ k c, l[k]? = some c → w.cell? ⟨g, k, none⟩ = some (.int .u8 (c.toNat : Int))
end Go.Proofs.YtoalecalahkblaaGreatDoor

set_option linter.all false
namespace Go.Proofs.YtoalecalahkblaaGreatDoor
open Go.RowKit
structure FitFl (f : Fld) : Prop where
  nm : f.nm.size ≤ maxLen
  v : FitV f.v
structure FitEv (e : Ev) : Prop where
  cas : e.cas.size ≤ maxLen
  act : e.act.size ≤ maxLen
  res : e.res.size ≤ maxLen
  life : Fit e.life
  time : Fit e.time
def RFld : ElemR Fld := fun _ _ f cs => cs = [.string f.nm, .int .i64 f.v.kind, .int .i64 f.v.n, .string f.v.s] ∧ FitFl f
theorem RFld.kept : ElemR.Kept RFld := fun _ _ _ _ _ _ _ _ h => h
def SlFl := Sl 4 RFld
def REv : ElemR Ev := fun D w e cs => ∃ dv, cs = [.string e.cas, .string e.act, .string e.res, .int .i64 e.life, .int .i64 e.time, dv] ∧ FitEv e ∧ SlFl D w dv e.data
theorem REv.kept : ElemR.Kept REv := by
  rintro D D' w w' x cs hd hs ⟨dv, rfl, h1, hi⟩
  exact ⟨dv, rfl, h1, Sl.keep hi RFld.kept hd hs⟩
def SlEv := Sl 6 REv
def fldV (f : Fld) : Value := .agg #[.string f.nm, .int .i64 f.v.kind, .int .i64 f.v.n, .string f.v.s]
def evV (e : Ev) (dv : Value) : Value := .agg #[.string e.cas, .string e.act, .string e.res, .int .i64 e.life, .int .i64 e.time, dv]
def IsEv (D : Nat → Prop) (w : World) (u : Value) (e : Ev) : Prop := ∃ dv, u = evV e dv ∧ FitEv e ∧ SlFl D w dv e.data
def IsLog (D : Nat → Prop) (w : World) (u : Value) (l : List Ev) : Prop := ∃ ev, u = .agg #[ev] ∧ SlEv D w ev l
section
variable {D : Nat → Prop} {w w' : World} {u : Value}
theorem SlFl.now {zs : List Fld} (h : SlFl (Lt w.heap.size) w u zs) (hb : Below w.heap.size w w') : SlFl (Lt w'.heap.size) w' u zs := Sl.below h RFld.kept hb hb.size
theorem SlEv.now {zs : List Ev} (h : SlEv (Lt w.heap.size) w u zs) (hb : Below w.heap.size w w') : SlEv (Lt w'.heap.size) w' u zs := Sl.below h REv.kept hb hb.size
theorem SlFl.below {zs : List Fld} {B B' : Nat} (h : SlFl (Lt B) w u zs) (hb : Below B w w') (hB : B ≤ B') : SlFl (Lt B') w' u zs := Sl.below h RFld.kept hb hB
theorem SlEv.below {zs : List Ev} {B B' : Nat} (h : SlEv (Lt B) w u zs) (hb : Below B w w') (hB : B ≤ B') : SlEv (Lt B') w' u zs := Sl.below h REv.kept hb hB
theorem IsEv.now {e : Ev} (h : IsEv (Lt w.heap.size) w u e) (hb : Below w.heap.size w w') : IsEv (Lt w'.heap.size) w' u e := by
  obtain ⟨dv, h1, h2, h3⟩ := h; exact ⟨dv, h1, h2, h3.now hb⟩
theorem IsEv.below {e : Ev} {B B' : Nat} (h : IsEv (Lt B) w u e) (hb : Below B w w') (hB : B ≤ B') : IsEv (Lt B') w' u e := by
  obtain ⟨dv, h1, h2, h3⟩ := h; exact ⟨dv, h1, h2, h3.below hb hB⟩
theorem IsLog.now {l : List Ev} (h : IsLog (Lt w.heap.size) w u l) (hb : Below w.heap.size w w') : IsLog (Lt w'.heap.size) w' u l := by
  obtain ⟨ev, h1, h2⟩ := h; exact ⟨ev, h1, h2.now hb⟩
theorem SlFl.open_ {zs : List Fld} (h : SlFl D w u zs) : ∃ A c, u = .slice A zs.length c ∧ zs.length ≤ c ∧ c ≤ 9223372036854775807 ∧ SlFl D w (.slice A zs.length c) zs := Sl.open_ h
theorem SlEv.open_ {zs : List Ev} (h : SlEv D w u zs) : ∃ A c, u = .slice A zs.length c ∧ zs.length ≤ c ∧ c ≤ 9223372036854775807 ∧ SlEv D w (.slice A zs.length c) zs := Sl.open_ h
theorem Sl.at4 {α : Type} {R : ElemR α} {xs : List α} {A : Option Addr} {n c k : Nat} (h : Sl 4 R D w (.slice A n c) xs) (hk : k < n) :
    ∃ b o x u0 u1 u2 u3, A = some ⟨b, o, none⟩ ∧ D b ∧ xs[k]? = some x ∧ R D w x [u0, u1, u2, u3] ∧ w.cell? ⟨b, o + k * 4, none⟩ = some u0 ∧ w.cell? ⟨b, o + k * 4 + 1, none⟩ = some u1 ∧ w.cell? ⟨b, o + k * 4 + 2, none⟩ = some u2 ∧ w.cell? ⟨b, o + k * 4 + 3, none⟩ = some u3 := by
  obtain ⟨A', c', hv, h1, h2, h3⟩ := h
  injection hv with hA hn hc
  subst hA hn hc
  obtain ⟨b, o, cs, hA, hD, hl, hr, hcell⟩ := h3 k xs[k] (List.getElem?_eq_getElem hk)
  match cs, hl with
  | [u0, u1, u2, u3], _ => exact ⟨b, o, xs[k], u0, u1, u2, u3, hA, hD, List.getElem?_eq_getElem hk, hr, hcell 0 u0 rfl, hcell 1 u1 rfl, hcell 2 u2 rfl, hcell 3 u3 rfl⟩
theorem Sl.at6 {α : Type} {R : ElemR α} {xs : List α} {A : Option Addr} {n c k : Nat} (h : Sl 6 R D w (.slice A n c) xs) (hk : k < n) :
    ∃ b o x u0 u1 u2 u3 u4 u5, A = some ⟨b, o, none⟩ ∧ D b ∧ xs[k]? = some x ∧ R D w x [u0, u1, u2, u3, u4, u5] ∧ w.cell? ⟨b, o + k * 6, none⟩ = some u0 ∧ w.cell? ⟨b, o + k * 6 + 1, none⟩ = some u1 ∧ w.cell? ⟨b, o + k * 6 + 2, none⟩ = some u2 ∧ w.cell? ⟨b, o + k * 6 + 3, none⟩ = some u3 ∧ w.cell? ⟨b, o + k * 6 + 4, none⟩ = some u4 ∧ w.cell? ⟨b, o + k * 6 + 5, none⟩ = some u5 := by
  obtain ⟨A', c', hv, h1, h2, h3⟩ := h
  injection hv with hA hn hc
  subst hA hn hc
  obtain ⟨b, o, cs, hA, hD, hl, hr, hcell⟩ := h3 k xs[k] (List.getElem?_eq_getElem hk)
  match cs, hl with
  | [u0, u1, u2, u3, u4, u5], _ => exact ⟨b, o, xs[k], u0, u1, u2, u3, u4, u5, hA, hD, List.getElem?_eq_getElem hk, hr, hcell 0 u0 rfl, hcell 1 u1 rfl, hcell 2 u2 rfl, hcell 3 u3 rfl, hcell 4 u4 rfl, hcell 5 u5 rfl⟩
theorem SlFl.at_ {zs : List Fld} {A : Option Addr} {n c k : Nat} (h : SlFl D w (.slice A n c) zs) (hk : k < n) :
    ∃ b o f, A = some ⟨b, o, none⟩ ∧ D b ∧ zs[k]? = some f ∧ FitFl f ∧ w.cell? ⟨b, o + k * 4, none⟩ = some (.string f.nm) ∧ w.cell? ⟨b, o + k * 4 + 1, none⟩ = some (.int .i64 f.v.kind) ∧ w.cell? ⟨b, o + k * 4 + 2, none⟩ = some (.int .i64 f.v.n) ∧ w.cell? ⟨b, o + k * 4 + 3, none⟩ = some (.string f.v.s) := by
  obtain ⟨b, o, x, u0, u1, u2, u3, hA, hD, hx, ⟨hu, hf⟩, h0, h1, h2, h3⟩ := Sl.at4 h hk
  injection hu with e0 hu; injection hu with e1 hu; injection hu with e2 hu; injection hu with e3 hu
  subst e0 e1 e2 e3
  exact ⟨b, o, x, hA, hD, hx, hf, h0, h1, h2, h3⟩
theorem SlEv.at_ {zs : List Ev} {A : Option Addr} {n c k : Nat} (h : SlEv D w (.slice A n c) zs) (hk : k < n) :
    ∃ b o e dv, A = some ⟨b, o, none⟩ ∧ D b ∧ zs[k]? = some e ∧ FitEv e ∧ SlFl D w dv e.data ∧ w.cell? ⟨b, o + k * 6, none⟩ = some (.string e.cas) ∧ w.cell? ⟨b, o + k * 6 + 1, none⟩ = some (.string e.act) ∧ w.cell? ⟨b, o + k * 6 + 2, none⟩ = some (.string e.res) ∧ w.cell? ⟨b, o + k * 6 + 3, none⟩ = some (.int .i64 e.life) ∧ w.cell? ⟨b, o + k * 6 + 4, none⟩ = some (.int .i64 e.time) ∧ w.cell? ⟨b, o + k * 6 + 5, none⟩ = some dv := by
  obtain ⟨b, o, x, u0, u1, u2, u3, u4, u5, hA, hD, hx, ⟨dv, hu, hf, hd⟩, h0, h1, h2, h3, h4, h5⟩ := Sl.at6 h hk
  injection hu with e0 hu; injection hu with e1 hu; injection hu with e2 hu; injection hu with e3 hu; injection hu with e4 hu; injection hu with e5 hu
  subst e0 e1 e2 e3 e4 e5
  exact ⟨b, o, x, u5, hA, hD, hx, hf, hd, h0, h1, h2, h3, h4, h5⟩
end
end Go.Proofs.YtoalecalahkblaaGreatDoor

set_option linter.all false
namespace Go.Proofs.YtoalecalahkblaaGreatDoor
open Go.RowKit
theorem flatK_eq {α β : Type} [Inhabited α] {k : Nat} (enc : α → List Value) (fc : β → List Value) (val : α → β) (he : ∀ x, enc x = fc (val x)) (hk : ∀ x, (enc x).length = k) (d : Array α) : (Go.Sort.flatK enc k d).toList = flat fc (d.toList.map val) := by
  have hfe : flat fc (d.toList.map val) = flat enc d.toList := by
    unfold flat
    rw [List.flatMap_map]
    congr 1
    funext x; exact (he x).symm
  rw [hfe]
  have hl : (flat enc d.toList).length = d.size * k := by rw [flat_len hk, Array.length_toList]
  apply List.ext_getElem
  · rw [Array.length_toList, Go.Sort.size_flatK, hl]
  · intro i h1 h2
    have hi : i < d.size * k := by rw [← hl]; exact h2
    have hk0 : 0 < k := by
      rcases Nat.eq_zero_or_pos k with h | h
      · rw [h] at hi; omega
      · exact h
    have h3 := Go.Sort.get_flatK enc k d i hi
    have h1' : i < (Go.Sort.flatK enc k d).size := by simpa using h1
    rw [getElem!_pos _ i h1'] at h3
    have hid : i / k < d.size := Nat.div_lt_of_lt_mul (by rw [Nat.mul_comm]; exact hi)
    have him : i % k < k := Nat.mod_lt _ hk0
    rw [getElem!_pos d (i / k) hid, getElem!_pos _ (i % k) (by rw [hk]; exact him)] at h3
    have h4 := flat_get hk d.toList (i / k) (i % k) d[i / k] (by rw [Array.getElem?_toList, Array.getElem?_eq_getElem hid]) him
    have e : i / k * k + i % k = i := by rw [Nat.mul_comm]; exact Nat.div_add_mod i k
    rw [e, List.getElem?_eq_getElem h2, List.getElem?_eq_getElem (by rw [hk]; exact him)] at h4
    injection h4 with h4
    rw [Array.getElem_toList, h3, h4]
theorem grown_sorted {α : Type} [Inhabited α] (enc : α → List Value) (k : Nat) (w : World) (g n : Nat) (d : Array α) (os : Array Obj) : w.grownBy (Go.Proofs.sortWorldK enc k w g 0 n d os) (some g) := by
  refine ⟨rfl, rfl, rfl, by simp [Go.Proofs.sortWorldK, Go.Sort.putRowK], fun j hj hne => ?_⟩
  unfold Go.Proofs.sortWorldK Go.Sort.putRowK
  rw [Go.Sort.heap_grow_old _ _ (by simpa using hj)]
  have : g ≠ j := fun e => hne (by rw [e])
  simp [Go.Sort.putRow, Go.Sort.mapBlock, Go.Sort.ahead, Array.getElem?_modify, this]
theorem heap_sortedK {α : Type} [Inhabited α] (enc : α → List Value) (k : Nat) (w : World) (g n : Nat) (d : Array α) (os : Array Obj) {cur : Array Value} {e : TypeId} {fr : Nat × Nat} (hb : w.heap[g]? = some (.cells cur e fr)) :
    (Go.Proofs.sortWorldK enc k w g 0 n d os).heap[g]? = some (.cells (Go.Sort.putCells id 0 (Go.Sort.flatK enc k d) cur) e fr) := by
  have hg : g < w.heap.size := (Array.getElem?_eq_some_iff.1 hb).1
  unfold Go.Proofs.sortWorldK Go.Sort.putRowK
  rw [Go.Sort.heap_grow_old _ _ (by simpa using hg)]
  simp [Go.Sort.putRow, Go.Sort.mapBlock, Go.Sort.ahead, Array.getElem?_modify, hb, Go.Sort.onCells]
theorem take_put (cur F : Array Value) (h : F.size ≤ cur.size) : (Go.Sort.putCells id 0 F cur).toList.take F.size = F.toList := by
  apply List.ext_getElem?
  intro j
  by_cases hj : j < F.size
  · rw [List.getElem?_take_of_lt hj, Array.getElem?_toList]
    simp [Go.Sort.putCells, hj, show j < cur.size by omega]
  · rw [List.getElem?_take_eq_none (by omega), List.getElem?_eq_none (by simp; omega)]
def evC (e : Ev) : List Value := [.string e.cas, .string e.act, .string e.res, .int .i64 e.life, .int .i64 e.time, .slice none 0 0]
def tlt (x y : Ev) : Bool := decide (x.time < y.time)
theorem swo_tlt : Go.Sort.SWO tlt := by
  refine ⟨fun x => ?_, fun x y z => ?_, fun x y z => ?_⟩ <;> unfold tlt
  · simp
  · simp only [decide_eq_true_eq]; omega
  · simp only [decide_eq_false_iff_not]; omega
theorem ltOf_time : (Go.Proofs.ltOf fun x y : Ev => Lib.compareInt x.time y.time) = tlt := by
  funext x y
  unfold tlt
  show decide ((if x.time < y.time then (-1 : Int) else if x.time > y.time then 1 else 0) < 0) = _
  by_cases h : x.time < y.time
  · rw [if_pos h, decide_eq_true h]; rfl
  · rw [if_neg h, decide_eq_false h]
    by_cases h2 : x.time > y.time
    · rw [if_pos h2]; rfl
    · rw [if_neg h2]; rfl
theorem evCmp_any (x y : Ev) (W : World) :
    Calls Tryz.prog 56 #[.agg (evC x).toArray, .agg (evC y).toArray] W fun e w' => e = .returned (.int .i64 (Lib.compareInt x.time y.time)) ∧ ∃ q os', w' = Go.Sort.grow (W.drewN q) os' := by
  have hb1 := bone W (.cells (evC x).toArray 69)
  have hb2 := bone (W.alloc (.cells (evC x).toArray 69)) (.cells (evC y).toArray 69)
  unfold evC at hb1 hb2 ⊢
  have HX := Lib.hid ((Blk.new W 69 #[.string x.cas, .string x.act, .string x.res, .int .i64 x.life, .int .i64 x.time, .slice none 0 0]).now hb2)
  have HY := Lib.hid (Blk.new (W.alloc (.cells #[.string x.cas, .string x.act, .string x.res, .int .i64 x.life, .int .i64 x.time, .slice none 0 0] 69)) 69 #[.string y.cas, .string y.act, .string y.res, .int .i64 y.life, .int .i64 y.time, .slice none 0 0])
  have hsz1 : (W.alloc (.cells #[.string x.cas, .string x.act, .string x.res, .int .i64 x.life, .int .i64 x.time, .slice none 0 0] 69)).heap.size = W.heap.size + 1 := by simp
  rw [hsz1] at HY
  have HG : Hid (∃ q os', (W.alloc (.cells #[.string x.cas, .string x.act, .string x.res, .int .i64 x.life, .int .i64 x.time, .slice none 0 0] 69)).alloc (.cells #[.string y.cas, .string y.act, .string y.res, .int .i64 y.life, .int .i64 y.time, .slice none 0 0] 69) = Go.Sort.grow (W.drewN q) os') := Lib.hid ⟨0, _, by rw [Go.Sort.alloc_eq_grow, Go.Sort.alloc_eq_grow, Go.Sort.grow_grow]; rfl⟩
  have HC := Lib.hid (Tryz.cmp_Compare_int x.time y.time)
  clear hb1 hb2 hsz1
  go_enter Tryz.func56, Tryz.ntmps56
  go_upto_region 1 with fail
  obtain ⟨w2, hw2⟩ : ∃ w2, (W.alloc (.cells #[.string x.cas, .string x.act, .string x.res, .int .i64 x.life, .int .i64 x.time, .slice none 0 0] 69)).alloc (.cells #[.string y.cas, .string y.act, .string y.res, .int .i64 y.life, .int .i64 y.time, .slice none 0 0] 69) = w2 := ⟨_, rfl⟩
  rw [hw2] at HX HY HG ⊢
  clear hw2
  obtain ⟨a0, a1, a2, a3, a4, a5⟩ := HX.out.c6
  obtain ⟨b0, b1, b2, b3, b4, b5⟩ := HY.out.c6
  go_wp2_with fail
  (with_reducible refine (HC.out _).mono ?_)
  rintro e w' ⟨rfl, rfl⟩
  go_wp2_with fail
  go_ret
  exact ⟨rfl, HG.out⟩
theorem enters_evCmp : ∀ args w, (callFunc 56 args).run Tryz.prog w = .ok (.enter 56 args) w := enters_of Tryz.func56 (by kernel_rfl) rfl
theorem evC_one (e : Ev) : ∀ v ∈ evC e, v.oneCell' = true := fun v hv => by
  simp [evC] at hv
  rcases hv with rfl | rfl | rfl | rfl | rfl | rfl <;> rfl
def OwnE0 (w : World) (base : Nat) (v : Value) (L : List Ev) : Prop := OwnW 6 evC w base 69 v L
theorem insE_any {w : World} {base g cap : Nat} {L : List Ev} (ho : OwnE0 w base (.slice (some ⟨g, 0, none⟩) L.length cap) L) (h0 : 0 < L.length) (hl : L.length ≤ 1000000) :
    Calls Tryz.prog 148 #[.slice (some ⟨g, 0, none⟩) L.length cap, .int .i64 0, .int .i64 L.length, .func (.func 56) #[] #[]] w fun e w' => e = .returned (.tuple #[]) ∧ OwnE0 w' base (.slice (some ⟨g, 0, none⟩) L.length cap) (sortS tlt L) ∧ w.grownBy w' (some g) := by
  rcases ho.2 with ⟨_, h1⟩ | ⟨g', cap', cur, he, hb, hg, hc1, hc2, hc3, htk⟩
  · omega
  injection he with he1 _ he2
  injection he1 with he1
  injection he1 with he1 _ _
  subst he1 he2
  have hgl : g < w.heap.size := (Array.getElem?_eq_some_iff.1 hg).1
  haveI : Inhabited Ev := ⟨L[0]'h0⟩
  have hF : (Go.Sort.flatK evC 6 L.toArray).toList = flat evC L := by
    have := flatK_eq (k := 6) evC evC (fun x : Ev => x) (fun _ => rfl) (fun _ => rfl) L.toArray
    rw [this, List.map_id']
  have hfl : (flat evC L).length = L.length * 6 := flat_len (size := 6) (fun _ => rfl) L
  have hH : Go.Sort.HoldsK evC 6 w g 0 L.toArray := by
    intro j hj
    have hjs : j < L.length * 6 := by rw [← hfl, ← hF, Array.length_toList]; exact hj
    refine ⟨?_, by simp [World.frozen?, hg]⟩
    have h1 : (cur.toList.take (L.length * 6))[j]? = (flat evC L)[j]? := by rw [htk]
    rw [List.getElem?_take_of_lt (by omega), ← hF] at h1
    simp only [World.cell?, hg, Nat.zero_add, Option.isSome_none, Bool.false_eq_true, if_false]
    rw [← Array.getElem?_toList, h1, Array.getElem?_toList, Array.getElem?_eq_getElem hj, getElem!_pos _ j hj]; rfl
  have hcmp : Go.Proofs.CmpLays Tryz.prog 56 #[] evC 6 (fun x y : Ev => Lib.compareInt x.time y.time) g 0 L.toArray.size w := fun m os dk hdk x y => evCmp_any x y _
  have h := Go.Proofs.AnyQ.insertionSortCmpFunc Tryz.insE 6 Tryz.isAgg69 Tryz.sizeOf69 evC (fun _ => rfl) (fun x => evC_one x) (fun x y : Ev => Lib.compareInt x.time y.time) 56 #[] g 0 cap 0 L.length L.toArray w enters_evCmp hcmp hH hgl (Nat.zero_le _) (Nat.le_refl _) (by show L.length < _; omega)
  have hins : Go.Sort.insertionSort (Go.Proofs.ltOf fun x y : Ev => Lib.compareInt x.time y.time) L.toArray 0 L.length = (sortS tlt L).toArray := by
    rw [ltOf_time]
    have := insertionSort_list swo_tlt [] L []
    simpa using this
  rw [hins] at h
  have hsl : (sortS tlt L).length = L.length := (perm_sortS (lt := tlt) L).length_eq
  refine Calls.mono (show Calls Tryz.prog 148 #[.slice (some ⟨g, 0, none⟩) L.length cap, .int .i64 0, .int .i64 L.length, .func (.func 56) #[] #[]] w _ from h) fun e w' ⟨he, n, os, hw⟩ => ⟨he, ?_, by rw [hw]; exact grown_sorted evC 6 w g n _ os⟩
  obtain ⟨S, hS⟩ : ∃ S, sortS tlt L = S := ⟨_, rfl⟩
  rw [hS] at hsl hw ⊢
  have hF2 : (Go.Sort.flatK evC 6 S.toArray).toList = flat evC S := by
    have := flatK_eq (k := 6) evC evC (fun x : Ev => x) (fun _ => rfl) (fun _ => rfl) S.toArray
    rw [this, List.map_id']
  have hfl2 : (flat evC S).length = S.length * 6 := flat_len (size := 6) (fun _ => rfl) S
  rw [← hsl]
  refine ⟨hfl2, .inr ⟨g, cap, _, rfl, hb, by rw [hw]; exact heap_sortedK evC 6 w g n S.toArray os hg, by rw [hsl]; exact hc1, hc2, by simp [Go.Sort.putCells, hc3], ?_⟩⟩
  have e1 : S.length * 6 = (Go.Sort.flatK evC 6 S.toArray).size := by rw [Go.Sort.size_flatK]; rfl
  rw [e1, take_put cur _ (by rw [Go.Sort.size_flatK, hc3]; show S.length * 6 ≤ _; omega), hF2]
set_option maxHeartbeats 2000000 in
theorem stable_small {w : World} {base g cap : Nat} {L : List Ev} (ho : OwnE0 w base (.slice (some ⟨g, 0, none⟩) L.length cap) L) (h0 : 0 < L.length) (hl : L.length < 20) :
    Calls Tryz.prog 55 #[.slice (some ⟨g, 0, none⟩) L.length cap, .func (.func 56) #[] #[]] w fun e w' => e = .returned (.tuple #[]) ∧ OwnE0 w' base (.slice (some ⟨g, 0, none⟩) L.length cap) (sortS tlt L) ∧ w.grownBy w' (some g) := by
  have HI := Lib.hid (insE_any ho h0 (by omega))
  have i1 : ¬ (20 : Int) ≤ (L.length : Int) := by omega
  have i2 : ¬ (20 : Int) < (L.length : Int) := by omega
  obtain ⟨N, hN⟩ : ∃ N, L.length = N := ⟨_, rfl⟩
  rw [hN] at HI i1 i2 ⊢
  have HST : Hid (Calls Tryz.prog 104 #[.slice (some ⟨g, 0, none⟩) N cap, .int .i64 N, .func (.func 56) #[] #[]] w fun e w' => e = .returned (.tuple #[]) ∧ OwnE0 w' base (.slice (some ⟨g, 0, none⟩) N cap) (sortS tlt L) ∧ w.grownBy w' (some g)) := by
    show Calls _ _ _ _ _
    clear ho h0 hl hN
    go_enter Tryz.func104, Tryz.ntmps104
    go_wp2_with fail
    go_loopw [7, 8] (fun a b wr => a = .int .i64 0 ∧ b = .int .i64 20 ∧ w = wr) (fun _ _ _ => 0)
    case atStart => exact ⟨rfl, rfl, rfl⟩
    case round =>
      obtain ⟨rfl, rfl, rfl⟩ := hrel
      go_wp2_with fail
      (with_reducible refine HI.out.mono ?_)
      rintro e w1 ⟨rfl, ho1, hg1⟩
      have HO1 := Lib.hid ho1
      have HG1 := Lib.hid hg1
      clear ho1 hg1
      go_wp2_with fail
      go_loopw [6] (fun a wr => a = .int .i64 20 ∧ w1 = wr) (fun _ _ => 0)
      case atStart => exact ⟨rfl, rfl⟩
      case round =>
        obtain ⟨rfl, rfl⟩ := hrel
        go_wp2_with fail
        go_end0
        exact ⟨rfl, HO1.out, HG1.out⟩
  clear ho h0 hl hN HI i1 i2
  go_enter Tryz.func55, Tryz.ntmps55
  go_wp2_with fail
  (with_reducible refine HST.out.mono ?_)
  rintro e w1 ⟨rfl, ho1, hg1⟩
  have HO1 := Lib.hid ho1
  have HG1 := Lib.hid hg1
  clear ho1 hg1
  go_wp2_with fail
  go_end0
  exact ⟨rfl, HO1.out, HG1.out⟩
end Go.Proofs.YtoalecalahkblaaGreatDoor

set_option linter.all false
namespace Go.Proofs.YtoalecalahkblaaGreatDoor
open Go.RowKit
theorem SlP.cellAt {D : Nat → Prop} {w : World} {ls : List Bt} {A : Option Addr} {n c k : Nat} {l : Bt} (h : SlP D w (.slice A n c) ls) (hk : ls[k]? = some l) (hn : ls.length = n) :
    ∃ b o, A = some ⟨b, o, none⟩ ∧ D b ∧ l.length ≤ maxLen ∧ w.cell? ⟨b, o + k, none⟩ = some (.string (bsOf l)) := by
  obtain ⟨b, o, x, h1, h2, h3, h4, h5⟩ := SlP.at_ h (k := k) (by rw [← hn]; exact (List.getElem?_eq_some_iff.1 hk).1)
  rw [hk] at h3
  injection h3 with h3
  subst h3
  exact ⟨b, o, h1, h2, h4, h5⟩
abbrev ev0C : Array Value := #[.string ⟨#[]⟩, .string ⟨#[]⟩, .string ⟨#[]⟩, .int .i64 0, .int .i64 0, .slice none 0 0]
set_option maxHeartbeats 8000000 in
set_option maxRecDepth 100000 in
theorem event_plain (r hd : List Bt) (rv hv u : Value) (m : Mp) (w : World) (hr : SlP (Lt w.heap.size) w rv r) (h : IsMp (Lt w.heap.size) w u m) (hres : m.res = -1) (hlife : m.life = -1) (hdat : m.data = []) (i j k : Nat) (hci : m.cas = (i : Int)) (hcj : m.act = (j : Int)) (hck : m.time = (k : Int)) (a b t : Bt)
    (hri : r[i]? = some a) (hrj : r[j]? = some b) (hrk : r[k]? = some t) (hna : isNameB (bsOf a) = true) (hnb : isNameB (bsOf b) = true) (n : Int) (hnt : natE t = (n, 0)) (htl : t.length ≤ 1000000) (ha : AmbP w) :
    Calls Tryz.prog 54 #[rv, hv, u] w fun e w' => e = .returned (.tuple #[.agg #[.string (bsOf a), .string (bsOf b), .string ⟨#[]⟩, .int .i64 5, .int .i64 n, .slice none 0 0], .int .i64 0, .int .i64 0]) ∧ Below w.heap.size w w' := by
  obtain ⟨Ar, cr, rfl, _, _, hr⟩ := hr.open_
  obtain ⟨b0, o0, hA, hD0, hla, ca⟩ := hr.cellAt hri rfl
  obtain ⟨b1, o1, hA1, _, hlb, cb⟩ := hr.cellAt hrj rfl
  obtain ⟨b2, o2, hA2, _, hlt, ct⟩ := hr.cellAt hrk rfl
  subst hA
  injection hA1 with hA1
  injection hA1 with e1 e2 _
  subst e1 e2
  injection hA2 with hA2
  injection hA2 with e1 e2 _
  subst e1 e2
  have hil : i < r.length := (List.getElem?_eq_some_iff.1 hri).1
  have hjl : j < r.length := (List.getElem?_eq_some_iff.1 hrj).1
  have hkl : k < r.length := (List.getElem?_eq_some_iff.1 hrk).1
  have HIA : Hid (∀ W, Calls Tryz.prog 76 #[.string (bsOf a)] W fun e w' => e = .returned (.bool true) ∧ W = w') := fun W => by have := isName_any (bsOf a) W (by rw [bs_size]; exact hla); rwa [hna] at this
  have HIB : Hid (∀ W, Calls Tryz.prog 76 #[.string (bsOf b)] W fun e w' => e = .returned (.bool true) ∧ W = w') := fun W => by have := isName_any (bsOf b) W (by rw [bs_size]; exact hlb); rwa [hnb] at this
  have HN : Hid (∀ W, AmbP W → Calls Tryz.prog 99 #[.string (bsOf t)] W fun e w' => e = .returned (.tuple #[.int .i64 n, .int .i64 0]) ∧ Below W.heap.size W w') := fun W hW => by
    have := natural_any (bsOf t) W (by rw [bs_size]; exact htl) hW
    rw [show (bsOf t).data.toList = t from rfl, hnt] at this
    exact this
  have HAM := Lib.hid ha
  have HD0 : Hid (b0 < w.heap.size) := hD0
  obtain ⟨dv, kv, rfl, hfm, hd, hk⟩ := h
  obtain ⟨Ad, cd, rfl, _, _, hd⟩ := hd.open_
  obtain ⟨Ak, ck, rfl, _, _, hk⟩ := hk.open_
  have hdl : m.data.length = 0 := by rw [hdat]; rfl
  unfold mpV
  rw [hres, hlife, hci, hcj, hck, hdl]
  obtain ⟨z, hz⟩ : ∃ z, (m.sep.toNat : Int) = z := ⟨_, rfl⟩
  rw [hz]
  generalize m.kinds.length = kn
  generalize bsOf a = sa at *
  generalize bsOf b = sb at *
  generalize bsOf t = st at *
  clear hfm hd hk hz hdl hdat hres hlife hci hcj hck hr hri hrj hrk hna hnb hnt htl ha hla hlb hlt hD0
  -- the boxes
  have hb1 := bone w (.cells #[.int .i64 (i : Int), .int .i64 (j : Int), .int .i64 (-1), .int .i64 (-1), .int .i64 (k : Int), .slice Ad 0 cd, .slice Ak kn ck, .int .u8 z] 33)
  have hB1 := Blk.new w 33 #[.int .i64 (i : Int), .int .i64 (j : Int), .int .i64 (-1), .int .i64 (-1), .int .i64 (k : Int), .slice Ad 0 cd, .slice Ak kn ck, .int .u8 z]
  have hs1 : (w.alloc (.cells #[.int .i64 (i : Int), .int .i64 (j : Int), .int .i64 (-1), .int .i64 (-1), .int .i64 (k : Int), .slice Ad 0 cd, .slice Ak kn ck, .int .u8 z] 33)).heap.size = w.heap.size + 1 := by simp
  obtain ⟨w1, hw1⟩ : ∃ w1, w.alloc (.cells #[.int .i64 (i : Int), .int .i64 (j : Int), .int .i64 (-1), .int .i64 (-1), .int .i64 (k : Int), .slice Ad 0 cd, .slice Ak kn ck, .int .u8 z] 33) = w1 := ⟨_, rfl⟩
  rw [hw1] at hb1 hB1 hs1
  have hb2 := bone w1 (.cells ev0C 69)
  have hB2 := Blk.new w1 69 ev0C
  have hs2 : (w1.alloc (.cells ev0C 69)).heap.size = w.heap.size + 2 := by simp [hs1]
  rw [hs1] at hB2
  obtain ⟨w2, hw2⟩ : ∃ w2, w1.alloc (.cells ev0C 69) = w2 := ⟨_, rfl⟩
  rw [hw2] at hB2 hs2 hb2
  have HW : Hid ((w.alloc (.cells #[.int .i64 (i : Int), .int .i64 (j : Int), .int .i64 (-1), .int .i64 (-1), .int .i64 (k : Int), .slice Ad 0 cd, .slice Ak kn ck, .int .u8 z] 33)).alloc (.cells ev0C 69) = w2) := by show _ = _; rw [hw1, hw2]
  have HM2 := Lib.hid (hB1.now hb2)
  have HE2 := Lib.hid hB2
  have HBW2 := Lib.hid (bthen hb1 hb2)
  have HS2 := Lib.hid hs2
  clear hb1 hB1 hs1 hw1 hb2 hB2 hs2 hw2
  go_enter Tryz.func54, Tryz.ntmps54
  go_upto_region 1 with fail
  rw [HW.out]
  clear HW
  have HBA := Lib.hid (bone w2 (.cells ev0C 69))
  obtain ⟨c0, c1, c2, c3, c4, c5, c6, c7⟩ := HM2.out.c8m
  obtain ⟨d0, d1, d2, d3, d4, d5, d6, d7⟩ := (HM2.out.now HBA.out).c8m
  have x0 := (HBW2.out.cell (p := ⟨b0, o0 + i, none⟩) HD0.out).trans ca
  have x1 := (HBW2.out.cell (p := ⟨b0, o0 + j, none⟩) HD0.out).trans cb
  have hbl : b0 < w2.heap.size := by have := HD0.out; have := HBW2.out.size; omega
  have y0 := (HBA.out.cell (p := ⟨b0, o0 + i, none⟩) hbl).trans x0
  have y1 := (HBA.out.cell (p := ⟨b0, o0 + j, none⟩) hbl).trans x1
  have ii0 : (0 : Int) ≤ (i : Int) := by omega
  have ii1 : (i : Int) < (r.length : Int) := by omega
  have jj0 : (0 : Int) ≤ (j : Int) := by omega
  have jj1 : (j : Int) < (r.length : Int) := by omega
  unfold ev0C at d0 d1 d2 d3 d4 d5 d6 d7 y0 y1
  clear hbl
  go_region
  have HB3 : Hid (Below w2.heap.size w2 (w2.alloc (.cells #[.string sa, .string sb, .string ⟨#[]⟩, .int .i64 5, .int .i64 0, .slice none 0 0] 69)).drew) := (bone w2 _).drew
  have HE3 : Hid (Blk (w2.alloc (.cells #[.string sa, .string sb, .string ⟨#[]⟩, .int .i64 5, .int .i64 0, .slice none 0 0] 69)).drew w2.heap.size 69 #[.string sa, .string sb, .string ⟨#[]⟩, .int .i64 5, .int .i64 0, .slice none 0 0]) := (Blk.new w2 _ _).drew
  obtain ⟨w3, hw3⟩ : ∃ w3, (w2.alloc (.cells #[.string sa, .string sb, .string ⟨#[]⟩, .int .i64 5, .int .i64 0, .slice none 0 0] 69)).drew = w3 := ⟨_, rfl⟩
  rw [hw3] at HB3 HE3 ⊢
  have HM3 := Lib.hid (HM2.out.now HB3.out)
  have HR3 := Lib.hid (HE2.out.now HB3.out)
  have HBW3 := Lib.hid (bthen HBW2.out HB3.out)
  obtain ⟨E, hE⟩ : ∃ E, w2.heap.size = E := ⟨_, rfl⟩
  rw [hE] at HE3 HS2 ⊢
  rw [HS2.out] at hE
  have HEE := Lib.hid HS2.out
  have hEw : w.heap.size + 1 < E := by have := HS2.out; omega
  have HEW := Lib.hid hEw
  clear c0 c1 c2 c3 c4 c5 c6 c7 d0 d1 d2 d3 d4 d5 d6 d7 x0 x1 y0 y1 hw3 hE hEw HBA HM2 HE2 HBW2 HS2
  obtain ⟨c0, c1, c2, c3, c4, c5, c6, c7⟩ := HM3.out.c8m
  obtain ⟨e0, e1, e2, e3, e4, e5⟩ := HE3.out.c6
  have xt := (HBW3.out.cell (p := ⟨b0, o0 + k, none⟩) HD0.out).trans ct
  have kk0 : (0 : Int) ≤ (k : Int) := by omega
  have kk1 : (k : Int) < (r.length : Int) := by omega
  have HNW := Lib.hid (HN.out w3 (HAM.out.now HBW3.out))
  go_wp2_with (first
    | (go_at_call 76; (with_reducible refine (HIA.out _).mono ?_); rintro x w' ⟨rfl, rfl⟩)
    | (go_at_call 76; (with_reducible refine (HIB.out _).mono ?_); rintro x w' ⟨rfl, rfl⟩))
  (with_reducible refine HNW.out.mono ?_)
  rintro _ w4 ⟨rfl, hb4⟩
  have HM4 := Lib.hid (HM3.out.now hb4)
  have HE4 := Lib.hid (HE3.out.now hb4)
  have HR4 := Lib.hid (HR3.out.now hb4)
  have HBW4 := Lib.hid (bthen HBW3.out hb4)
  clear c0 c1 c2 c3 c4 c5 c6 c7 e0 e1 e2 e3 e4 e5 xt HM3 HE3 HR3 HBW3 HNW hb4
  obtain ⟨c0, c1, c2, c3, c4, c5, c6, c7⟩ := HM4.out.c8m
  obtain ⟨e0, e1, e2, e3, e4, e5⟩ := HE4.out.c6
  have f4 := HE4.out.frozen 4
  go_upto_region 19 with fail
  have HE5 : Hid (Blk (w4.setCell ⟨E, 4, none⟩ (.int .i64 n)) E 69 #[.string sa, .string sb, .string ⟨#[]⟩, .int .i64 5, .int .i64 n, .slice none 0 0]) := HE4.out.set_ 4 (.int .i64 n)
  have HM5 := Lib.hid (HM4.out.far (p := ⟨E, 4, none⟩) (show w.heap.size ≠ E by have := HEW.out; omega) (.int .i64 n))
  have HR5 := Lib.hid (HR4.out.far (p := ⟨E, 4, none⟩) (show w.heap.size + 1 ≠ E by have := HEW.out; omega) (.int .i64 n))
  have HBW5 := Lib.hid (HBW4.out.setCell (p := ⟨E, 4, none⟩) (show w.heap.size ≤ E by have := HEW.out; omega) (.int .i64 n))
  obtain ⟨w5, hw5⟩ : ∃ w5, w4.setCell ⟨E, 4, none⟩ (.int .i64 n) = w5 := ⟨_, rfl⟩
  rw [hw5] at HE5 HM5 HR5 HBW5 ⊢
  clear c0 c1 c2 c3 c4 c5 c6 c7 e0 e1 e2 e3 e4 e5 f4 hw5 HM4 HE4 HR4 HBW4
  obtain ⟨c0, c1, c2, c3, c4, c5, c6, c7⟩ := HM5.out.c8m
  obtain ⟨e0, e1, e2, e3, e4, e5⟩ := HE5.out.c6
  obtain ⟨r0, r1, r2, r3, r4, r5⟩ := HR5.out.c6
  have f0 := HR5.out.frozen 0
  have f1 := HR5.out.frozen 1
  have f2 := HR5.out.frozen 2
  have f3 := HR5.out.frozen 3
  have f4 := HR5.out.frozen 4
  have f5 := HR5.out.frozen 5
  have HSF := Lib.hid (show Calls Tryz.prog 101 #[.slice none 0 0, .func (.func 102) #[] #[]] w5 fun e w' => e = .returned (.tuple #[]) ∧ w' = w5 from Go.Proofs.AnyF.slices_SortFunc_none Tryz.sortE none 0 _ w5)
  go_wp2_with fail
  go_loopw [103] (fun iv wr => iv = .int .i64 0 ∧ w5 = wr) (fun _ _ => 0)
  case atStart => exact ⟨rfl, rfl⟩
  case round =>
    obtain ⟨rfl, rfl⟩ := hrel
    go_wp2_with fail
    (with_reducible refine HSF.out.mono ?_)
    rintro _ w6 ⟨rfl, rfl⟩
    go_wp2_with fail
    have hz : Blk ((((((w6.setCell ⟨w.heap.size + 1, 0, none⟩ (.string sa)).setCell ⟨w.heap.size + 1, 1, none⟩ (.string sb)).setCell ⟨w.heap.size + 1, 2, none⟩ (.string ⟨#[]⟩)).setCell ⟨w.heap.size + 1, 3, none⟩ (.int .i64 5)).setCell ⟨w.heap.size + 1, 4, none⟩ (.int .i64 n)).setCell ⟨w.heap.size + 1, 5, none⟩ (.slice none 0 0)) (w.heap.size + 1) 69 #[.string sa, .string sb, .string ⟨#[]⟩, .int .i64 5, .int .i64 n, .slice none 0 0] :=
      (((((HR5.out.set_ 0 (.string sa)).set_ 1 (.string sb)).set_ 2 (.string ⟨#[]⟩)).set_ 3 (.int .i64 5)).set_ 4 (.int .i64 n)).set_ 5 (.slice none 0 0)
    have hle : w.heap.size ≤ w.heap.size + 1 := by omega
    have hbz := (((((HBW5.out.setCell (p := ⟨w.heap.size + 1, 0, none⟩) hle (.string sa)).setCell (p := ⟨w.heap.size + 1, 1, none⟩) hle (.string sb)).setCell (p := ⟨w.heap.size + 1, 2, none⟩) hle (.string ⟨#[]⟩)).setCell (p := ⟨w.heap.size + 1, 3, none⟩) hle (.int .i64 5)).setCell (p := ⟨w.heap.size + 1, 4, none⟩) hle (.int .i64 n)).setCell (p := ⟨w.heap.size + 1, 5, none⟩) hle (.slice none 0 0)
    generalize (((((w6.setCell ⟨w.heap.size + 1, 0, none⟩ (.string sa)).setCell ⟨w.heap.size + 1, 1, none⟩ (.string sb)).setCell ⟨w.heap.size + 1, 2, none⟩ (.string ⟨#[]⟩)).setCell ⟨w.heap.size + 1, 3, none⟩ (.int .i64 5)).setCell ⟨w.heap.size + 1, 4, none⟩ (.int .i64 n)).setCell ⟨w.heap.size + 1, 5, none⟩ (.slice none 0 0) = wz at hz hbz ⊢
    obtain ⟨q0, q1, q2, q3, q4, q5⟩ := hz.c6
    refine bodyPost_ret (v := .tuple #[.agg #[.string sa, .string sb, .string ⟨#[]⟩, .int .i64 5, .int .i64 n, .slice none 0 0], .int .i64 0, .int .i64 0]) (by simp [results, Tryz.results54, go_sem, q0, q1, q2, q3, q4, q5]) rfl ?_
    exact ⟨rfl, hbz⟩
end Go.Proofs.YtoalecalahkblaaGreatDoor

set_option linter.all false
namespace Go.Proofs.YtoalecalahkblaaGreatDoor
open Go.RowKit
open Classical in
noncomputable def ext (w W : World) : World := if Below w.heap.size w W then W else w
theorem ext_below (w W : World) : Below w.heap.size w (ext w W) := by
  unfold ext; split
  · assumption
  · exact Below.refl _ _
theorem ext_of {w W : World} (h : Below w.heap.size w W) : ext w W = W := by unfold ext; rw [if_pos h]
theorem ext_ex {w W : World} (h : Below w.heap.size w W) : ∃ W', W = ext w W' := ⟨W, (ext_of h).symm⟩
theorem wp_region_grow {P : Program} {id : Nat} {Q : Exit → Act → World → Prop} {a : Act} {w : World} {l : List Oper} (hm : P.follows .mixedOrders = true) (hB : Region.lexB .any l.toArray = true)
    (h : wpQuiet P l.toArray (fun w' => ∃ W, w' = ext w W) (fun a' => ∀ w', (∃ W, w' = ext w W) → Q .normal a' w') l a) : (Code.region id l.toArray true).wp P Q a w :=
  wp_region_quiet (C := fun w' => ∃ W, w' = ext w W) hm hB (ext_ex ((Below.refl _ w).drew)) (by simpa using h)
theorem grow_of {P : Program} {f : FuncId} {args : Array Value} {w W : World} {v : Value}
    (h : Calls P f args (ext w W) fun e w' => e = .returned v ∧ Below (ext w W).heap.size (ext w W) w') : Calls P f args (ext w W) fun e w'' => e = .returned v ∧ ∃ W', w'' = ext w W' :=
  h.mono fun _ _ ⟨he, hb⟩ => ⟨he, ext_ex (bthen (ext_below w W) hb)⟩
end Go.Proofs.YtoalecalahkblaaGreatDoor

set_option linter.all false
namespace Go.Proofs.YtoalecalahkblaaGreatDoor
open Go.RowKit
structure Veil (p : Prop) : Prop where
  out : p
theorem veil_step {P : Program} {ops : Array Oper} {C : World → Prop} {Q : Act → Prop} {a : Act} {o : Oper} {rest : List Oper}
    (h : ∀ K : Act → Prop, (∀ a, Veil (wpQuiet P ops C Q rest a) → K a) → if Region.wanted o (yielded ops a.tmps) then o.quiet P a C K else K (a.put o.dst undef)) : Veil (wpQuiet P ops C Q (o :: rest) a) :=
  ⟨wpQuiet_step fun K hK => h K fun a ha => hK a ha.out⟩
theorem veil_nil {P : Program} {ops : Array Oper} {C : World → Prop} {Q : Act → Prop} {a : Act} (h : Q a) : Veil (wpQuiet P ops C Q [] a) := ⟨wpQuiet_nil h⟩
theorem wp_region_growV {P : Program} {id : Nat} {Q : Exit → Act → World → Prop} {a : Act} {w : World} {l : List Oper} (hm : P.follows .mixedOrders = true) (hB : Region.lexB .any l.toArray = true)
    (h : Veil (wpQuiet P l.toArray (fun w' => ∃ W, w' = ext w W) (fun a' => ∀ w', (∃ W, w' = ext w W) → Q .normal a' w') l a)) : (Code.region id l.toArray true).wp P Q a w :=
  wp_region_grow hm hB h.out
end Go.Proofs.YtoalecalahkblaaGreatDoor
