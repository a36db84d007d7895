/- Texts of this seat, merged. -/
import Derived.Maps.AppendAt
import Derived.Deep.AppendLies
import Derived.RegionTactic
import Derived.OwnWalk
import Derived.Outline
import Derived.Shelf.Abstract
import Derived.Laws.IdiomStrings
import Derived.Sort.OwnSorted
import Derived.Lib.Bytes
import Derived.Deep.QuietTactic
import Derived.BigQuiet
import Derived.WalkKit
import Derived.WalkSpells
import Derived.WalkLawsBesides
import Derived.Lib.Hide
import Derived.Deep.Draws
import Derived.Deep.OwnRows
import Derived.Test.YtijmnenojbfdnaaGreatDoorEm01
set_option linter.unusedSimpArgs false
set_option linter.unusedVariables false
namespace Go.Proofs.YtijmnenojbfdnaaGreatDoor
open Go.RowKit
structure Val where
  kind : Int
  n : Int
  s : ByteArray
deriving DecidableEq
structure Var where
  name : ByteArray
  kind : Int
  low : Int
  high : Int
  items : List ByteArray
def plainC (c : UInt8) : Bool := decide (32 ≤ c.toNat ∧ c.toNat ≤ 126)
def textB (s : ByteArray) : Bool := decide (s.size ≤ 200) && s.data.toList.all plainC
def numB (n : Int) : Bool := decide (-4503599627370496 ≤ n ∧ n ≤ 4503599627370496)
def noS (s : ByteArray) : Bool := s.toList.isEmpty
def validV (v : Val) : Bool :=
  if v.kind = 1 then decide (v.n = 0 ∨ v.n = 1) && noS v.s
  else if v.kind = 2 then numB v.n && noS v.s
  else if v.kind = 3 then decide (v.n = 0) && textB v.s
  else false
def bytesOf (l : List ByteArray) : List Bs := l.map fun s => s.data.toList
def onceB (l : List Bs) : Bool := decide l.Nodup
def formB (x : Var) : Bool :=
  if x.kind = 1 then decide (x.low = 0 ∧ x.high = 0 ∧ x.items.length = 0)
  else if x.kind = 2 then numB x.low && numB x.high && decide (x.low ≤ x.high ∧ x.high - x.low < 1000 ∧ x.items.length = 0)
  else if x.kind = 3 then decide (x.low = 0 ∧ x.high = 0 ∧ 1 ≤ x.items.length ∧ x.items.length ≤ 1000) && x.items.all textB && onceB (bytesOf x.items)
  else false
def varB (x : Var) : Bool := isNameB x.name && formB x
def varsB (l : List Var) : Bool := decide (l.length ≤ 8) && l.all varB && onceB (bytesOf (l.map Var.name))
def atS (l : List ByteArray) (s : ByteArray) : Int := match l.findIdx? (fun y => y.toList == s.toList) with | some i => (i : Int) | none => -1
def placeV (x : Var) (v : Val) : Int :=
  if v.kind ≠ x.kind then -1
  else if x.kind = 1 then v.n
  else if x.kind = 3 then atS x.items v.s
  else if v.n < x.low ∨ x.high < v.n then -1
  else v.n - x.low
def sizeV (x : Var) : Int := if x.kind = 1 then 2 else if x.kind = 2 then x.high - x.low + 1 else x.items.length
def emptyS : ByteArray := ⟨#[]⟩
def nthV (x : Var) (i : Int) : Val :=
  if x.kind = 3 then ⟨3, 0, x.items.getD i.toNat emptyS⟩ else if x.kind = 2 then ⟨2, i + x.low, emptyS⟩ else ⟨x.kind, i, emptyS⟩
def noV : Val := ⟨0, 0, emptyS⟩
end Go.Proofs.YtijmnenojbfdnaaGreatDoor

namespace Go.Proofs.YtijmnenojbfdnaaGreatDoor
open Go.RowKit
theorem grown_of_below {w w' : World} (h : Below w.heap.size w w') (row : Option Nat) : w.grownBy w' row := ⟨h.os, h.tape, h.output, h.size, fun i hi _ => h.block i hi⟩
theorem below_of_grown {w w' : World} {B : Nat} {row : Option Nat} (h : w.grownBy w' row) (hB : B ≤ w.heap.size) (hr : ∀ g, row = some g → B ≤ g) : Below B w w' :=
  ⟨h.os, h.tape, h.output, h.size, fun i hi => h.block i (by omega) (fun e => by have := hr i e.symm; omega)⟩
theorem own_now {w w' : World} {base e size n : Nat} {v : Value} {xs : List Value} (h : w.ownsRow base e size v n xs) (hb : Below w.heap.size w w') : w'.ownsRow base e size v n xs := by
  refine h.kept (grown_of_below hb none) ?_
  cases e : v.ownBlock with
  | none => exact .inl rfl
  | some g => exact .inr (by simp)
theorem own_len {w : World} {base e n : Nat} {v : Value} {xs : List Value} (h : w.ownsRow base e 1 v n xs) : xs.length = n := by simpa using h.1
section
variable {α : Type} {R : ElemR α} {D : Nat → Prop} {w : World} {base t size n : Nat} {v : Value} {cs : List Value} {xs : List α}
theorem Sl.of_own (h : w.ownsRow base t size v n cs) (hn : xs.length = n) (hD : ∀ g, v.ownBlock = some g → D g)
    (hr : ∀ i x, xs[i]? = some x → ∃ es : List Value, es.length = size ∧ (∀ j u, es[j]? = some u → cs[i * size + j]? = some u) ∧ R D w x es) : Sl size R D w v xs := by
  subst hn
  rcases h.2 with ⟨rfl, h0⟩ | ⟨g, cap, cur, rfl, hb, hg, hc, hm, hs, htake⟩
  · have : xs = [] := List.eq_nil_of_length_eq_zero h0
    subst this
    exact Sl.none_
  · refine ⟨some ⟨g, 0, none⟩, cap, rfl, hc, hm, fun i x hx => ?_⟩
    obtain ⟨es, hl, hes, hR⟩ := hr i x hx
    refine ⟨g, 0, es, rfl, hD g rfl, hl, hR, fun j u hu => ?_⟩
    have hj := hes j u hu
    have hlt : i * size + j < xs.length * size := by
      rw [← h.1]
      rcases Nat.lt_or_ge (i * size + j) cs.length with h | h
      · exact h
      · rw [List.getElem?_eq_none h] at hj; cases hj
    have := World.ownsRow.cellAt h (i * size + j) hlt
    rw [Nat.zero_add, this]
    exact hj
theorem own_lt (h : w.ownsRow base t size v n cs) : ∀ g, v.ownBlock = some g → Lt w.heap.size g := fun g hg => (h.lt g hg).2
theorem Sl.of_own1 (h : w.ownsRow base t 1 v n cs) (hn : xs.length = n) (hD : ∀ g, v.ownBlock = some g → D g)
    (hr : ∀ (i : Nat) (x : α), xs[i]? = some x → ∃ u, cs[i]? = some u ∧ R D w x [u]) : Sl 1 R D w v xs :=
  Sl.of_own h hn hD fun i x hx => by
    obtain ⟨u, hu, hR⟩ := hr i x hx
    refine ⟨[u], rfl, fun j y hy => ?_, hR⟩
    match j, hy with
    | 0, hy => injection hy with hy; subst hy; simpa using hu
    | j + 1, hy => simp at hy
end
section
variable {w : World} {base t n : Nat} {v : Value}
theorem SlI.of_own {zs : List Int} (h : w.ownsRow base t 1 v n (zs.map (Value.int .i64))) (hf : ∀ z ∈ zs, Fit z) : SlI (Lt w.heap.size) w v zs :=
  Sl.of_own1 h (by simpa using own_len h) (own_lt h) fun i x hx => ⟨.int .i64 x, by simp [hx], rfl, hf x (List.mem_of_getElem? hx)⟩
theorem SlS.of_own {zs : List ByteArray} (h : w.ownsRow base t 1 v n (zs.map Value.string)) (hf : ∀ z ∈ zs, z.size ≤ maxLen) : SlS (Lt w.heap.size) w v zs :=
  Sl.of_own1 h (by simpa using own_len h) (own_lt h) fun i x hx => ⟨.string x, by simp [hx], rfl, hf x (List.mem_of_getElem? hx)⟩
theorem SlB.of_own {zs : List Bool} (h : w.ownsRow base t 1 v n (zs.map Value.bool)) : SlB (Lt w.heap.size) w v zs :=
  Sl.of_own1 h (by simpa using own_len h) (own_lt h) fun i x hx => ⟨.bool x, by simp [hx], rfl⟩
def OwnI (w : World) (base t g cap : Nat) (zs : List Int) : Prop := w.ownsRow base t 1 (.slice (some ⟨g, 0, none⟩) zs.length cap) zs.length (zs.map (Value.int .i64)) ∧ g < w.heap.size ∧ base ≤ g
theorem OwnI.of {zs : List Int} (h : w.ownsRow base t 1 v n (zs.map (Value.int .i64))) (hn : 0 < zs.length) : ∃ g cap, v = .slice (some ⟨g, 0, none⟩) zs.length cap ∧ zs.length ≤ cap ∧ OwnI w base t g cap zs := by
  have hl : zs.length = n := by simpa using own_len h
  subst hl
  obtain ⟨g, cap, rfl, h1, h2⟩ := h.form hn
  refine ⟨g, cap, rfl, ?_, h, h2, h1⟩
  rcases h.2 with ⟨h', _⟩ | ⟨g', cap', cur, h', _, _, hc, _⟩
  · simp at h'
  · injection h' with _ _ e; omega
end
section
variable {w w' : World} {base t g cap : Nat} {zs : List Int}
theorem OwnI.cell (h : OwnI w base t g cap zs) {k : Nat} {z : Int} (hz : zs[k]? = some z) : w.cell? ⟨g, k, none⟩ = some (.int .i64 z) := by
  have hk : k < zs.length := by
    rcases Nat.lt_or_ge k zs.length with h | h
    · exact h
    · rw [List.getElem?_eq_none h] at hz; cases hz
  rw [h.1.cellAt k (by omega)]; simp [hz]
theorem OwnI.frozen (h : OwnI w base t g cap zs) (k : Nat) : w.frozen? ⟨g, k, none⟩ = false := h.1.frozenAt k
theorem OwnI.set_ (h : OwnI w base t g cap zs) (k : Nat) (z : Int) : OwnI (w.setCell ⟨g, k, none⟩ (.int .i64 z)) base t g cap (zs.set k z) := by
  refine ⟨?_, by simpa using h.2.1, h.2.2⟩
  have := (h.1.stored k (.int .i64 z)).1
  rw [List.length_set, List.map_set]
  exact this
theorem OwnI.now (h : OwnI w base t g cap zs) (hb : Below w.heap.size w w') : OwnI w' base t g cap zs := ⟨own_now h.1 hb, Nat.lt_of_lt_of_le h.2.1 hb.size, h.2.2⟩
theorem OwnI.drew (h : OwnI w base t g cap zs) : OwnI w.drew base t g cap zs := h
theorem OwnI.drewN (h : OwnI w base t g cap zs) (n : Nat) : OwnI (w.drewN n) base t g cap zs := h
theorem OwnI.sl (h : OwnI w base t g cap zs) (hf : ∀ z ∈ zs, Fit z) : SlI (Lt w.heap.size) w (.slice (some ⟨g, 0, none⟩) zs.length cap) zs := SlI.of_own h.1 hf
theorem OwnI.lt (h : OwnI w base t g cap zs) : g < w.heap.size := h.2.1
end
theorem Sl.cells1 {α : Type} {R : ElemR α} {D : Nat → Prop} {w : World} {A : Option Addr} {n c : Nat} {xs : List α} (h : Sl 1 R D w (.slice A n c) xs) (f : α → Value) (hf : ∀ x u, R D w x [u] → u = f x) :
    n = xs.length ∧ (0 < n → ∃ b o, A = some ⟨b, o, none⟩ ∧ D b ∧ ∀ k x, xs[k]? = some x → w.cell? ⟨b, o + k, none⟩ = some (f x)) := by
  refine ⟨?_, fun hn => ?_⟩
  · obtain ⟨A', c', hv, _⟩ := h
    injection hv
  · obtain ⟨b, o, hA, hD, _, hc⟩ := h.row1 hn
    refine ⟨b, o, hA, hD, fun k x hx => ?_⟩
    obtain ⟨u, hR, hu⟩ := hc k x hx
    rw [hu, hf x u hR]
theorem SlI.cells {D : Nat → Prop} {w : World} {A : Option Addr} {n c : Nat} {zs : List Int} (h : SlI D w (.slice A n c) zs) (hn : 0 < n) :
    ∃ b o, A = some ⟨b, o, none⟩ ∧ D b ∧ n = zs.length ∧ ∀ j, j < zs.length → w.cell? ⟨b, o + j, none⟩ = some (.int .i64 (zs.getD j 0)) := by
  obtain ⟨h1, h2⟩ := Sl.cells1 h (Value.int .i64) (fun x u h => by injection h.1)
  obtain ⟨b, o, hA, hD, hc⟩ := h2 hn
  refine ⟨b, o, hA, hD, h1, fun j hj => ?_⟩
  rw [hc j zs[j] (List.getElem?_eq_getElem hj), List.getD_eq_getElem?_getD, List.getElem?_eq_getElem hj]; rfl
theorem SlS.cells {D : Nat → Prop} {w : World} {A : Option Addr} {n c : Nat} {zs : List ByteArray} (h : SlS D w (.slice A n c) zs) (hn : 0 < n) :
    ∃ b o, A = some ⟨b, o, none⟩ ∧ D b ∧ n = zs.length ∧ ∀ j, j < zs.length → w.cell? ⟨b, o + j, none⟩ = some (.string (zs.getD j ByteArray.empty)) := by
  obtain ⟨h1, h2⟩ := Sl.cells1 h Value.string (fun x u h => by injection h.1)
  obtain ⟨b, o, hA, hD, hc⟩ := h2 hn
  refine ⟨b, o, hA, hD, h1, fun j hj => ?_⟩
  rw [hc j zs[j] (List.getElem?_eq_getElem hj), List.getD_eq_getElem?_getD, List.getElem?_eq_getElem hj]; rfl
theorem SlI.fits {D : Nat → Prop} {w : World} {v : Value} {zs : List Int} (h : SlI D w v zs) : ∀ z ∈ zs, Fit z := by
  intro z hz
  obtain ⟨q, hq, rfl⟩ := List.mem_iff_getElem.1 hz
  obtain ⟨A, c, rfl, _, _, h⟩ := h.open_
  obtain ⟨_, _, z', _, _, hx, hf, _⟩ := h.at_ hq
  rw [List.getElem?_eq_getElem hq] at hx
  injection hx with hx
  rw [hx]; exact hf
theorem Blk.new_at {w : World} {t s : Nat} {cs : Array Value} (hs : w.heap.size = s) : Blk (w.alloc (.cells cs t)) s t cs := by subst hs; exact Blk.new w t cs
theorem Sl.ofBlk {α : Type} {R : ElemR α} {w : World} {g t size : Nat} {cs : List Value} {xs : List α} (h : Blk w g t cs.toArray) (hm : xs.length ≤ maxLen)
    (hr : ∀ (i : Nat) (x : α), xs[i]? = some x → ∃ es : List Value, es.length = size ∧ (∀ j u, es[j]? = some u → cs[i * size + j]? = some u) ∧ R (Lt w.heap.size) w x es) :
    Sl size R (Lt w.heap.size) w (.slice (some ⟨g, 0, none⟩) xs.length xs.length) xs := by
  refine ⟨some ⟨g, 0, none⟩, xs.length, rfl, Nat.le_refl _, hm, fun i x hx => ?_⟩
  obtain ⟨es, hl, hes, hR⟩ := hr i x hx
  refine ⟨g, 0, es, rfl, h.lt, hl, hR, fun j u hu => ?_⟩
  rw [Nat.zero_add, h.cell]
  simpa using hes j u hu
theorem SlI.ofBlk {w : World} {g t : Nat} {zs : List Int} (h : Blk w g t (zs.map (Value.int .i64)).toArray) (hm : zs.length ≤ maxLen) (hf : ∀ z ∈ zs, Fit z) : SlI (Lt w.heap.size) w (.slice (some ⟨g, 0, none⟩) zs.length zs.length) zs :=
  Sl.ofBlk h hm fun i x hx => ⟨[.int .i64 x], rfl, fun j u hu => by
    match j, hu with
    | 0, hu => injection hu with hu; subst hu; simp [hx]
    | j + 1, hu => simp at hu, rfl, hf x (List.mem_of_getElem? hx)⟩
theorem SlS.ofBlk {w : World} {g t : Nat} {zs : List ByteArray} (h : Blk w g t (zs.map Value.string).toArray) (hm : zs.length ≤ maxLen) (hf : ∀ z ∈ zs, z.size ≤ maxLen) : SlS (Lt w.heap.size) w (.slice (some ⟨g, 0, none⟩) zs.length zs.length) zs :=
  Sl.ofBlk h hm fun i x hx => ⟨[.string x], rfl, fun j u hu => by
    match j, hu with
    | 0, hu => injection hu with hu; subst hu; simp [hx]
    | j + 1, hu => simp at hu, rfl, hf x (List.mem_of_getElem? hx)⟩
def AppInfo (P : Program) (t e : TypeId) (size : Nat) : Prop :=
  ∃ (i : TypeInfo) (z : Value), P.underlying t = some (.slice e) ∧ P.info? e = some i ∧ i.zero = some z ∧ i.size = size ∧ i.bytes ≤ 4096 ∧ z.cells.size = size ∧ 0 < size
theorem AppInfo.mk' {P : Program} {t e : TypeId} {size bytes : Nat} {z : Value} (h1 : P.underlying t = some (.slice e)) (h2 : (P.info? e).map (fun i => (i.zero, i.size, i.bytes)) = some (some z, size, bytes)) (h3 : bytes ≤ 4096) (h4 : z.cells.size = size) (h5 : 0 < size) : AppInfo P t e size := by
  obtain ⟨i, hi, hz, hs, hb⟩ := info_parts h2
  exact ⟨i, z, h1, hi, hz, hs, by omega, h4, h5⟩
section
variable {P : Program} {t e size base : Nat}
theorem wp_push {o : Oper} {a : Act} {K : Act → World → Prop} {Q : Exit → Act → World → Prop} (hI : AppInfo P t e size) (s x : Operand)
    (ho : o.op = .call { callee := .builtin .append, args := #[s, x], argTypes := #[t, t] }) (w0 : World) (cs : List Value) (hcs : cs.length = size) (h1 : ∀ u ∈ cs, u.oneCell' = true)
    (v : Value) (n : Nat) (xs : List Value) (hs : a.eval s = v) (hown : w0.ownsRow base e size v n xs) (hx : a.eval x = .slice (some ⟨w0.heap.size, 0, none⟩) 1 1) (hn : n < 10000000) (hbase : base ≤ w0.heap.size)
    (h : ∀ v' w', w'.ownsRow base e size v' (n + 1) (xs ++ cs) → w0.grownBy w' v.ownBlock → (v'.ownBlock = v.ownBlock ∨ v'.ownBlock = some (w0.heap.size + 1)) → K (a.put o.dst v') w') : o.wp P a (w0.alloc (.cells cs.toArray e)) K Q := by
  obtain ⟨i, z, ht, hi, hz, hsz, hby, hzs, hp⟩ := hI
  have hcells : ∀ j u, cs[j]? = some u → (w0.alloc (.cells cs.toArray e)).cell? ((⟨w0.heap.size, 0, none⟩ : Addr).add j) = some u := by
    intro j u hu
    have : ((⟨w0.heap.size, 0, none⟩ : Addr).add j) = ⟨w0.heap.size, j, none⟩ := by unfold Addr.add; by_cases hj : j = 0 <;> simp [hj]
    rw [this, (Blk.new w0 e cs.toArray).cell j]
    simpa using hu
  obtain ⟨v', w', hrun, h2, h3, _, h5⟩ := run_append_own_at (P := P) (w0.alloc (.cells cs.toArray e)) base t o.type e i z size i.bytes ht hi hz hsz rfl hzs hp v n xs (hown.alloc _) ⟨w0.heap.size, 0, none⟩ 1 1 cs (by omega) hcells h1 (by unfold maxLen; omega) (by
    have : (n + 1) * i.bytes ≤ 10000000 * 4096 := Nat.mul_le_mul (by omega) hby
    omega) (by simp; omega)
  unfold Oper.wp execOp
  simp only [ho, resolve, invoke, builtin, Sem.run_bind, Sem.run_pure, Result.andThen_ok, List.map_toArray, List.map_cons, List.map_nil, hs, hx, hrun]
  refine h v' w' h2 ⟨h3.os, h3.tape, h3.output, Nat.le_trans (by simp) h3.size, fun k hk hne => (h3.block k (by simp; omega) hne).trans (Below.heap_alloc _ _ _ hk)⟩ ?_
  rcases h5 with h5 | h5
  · exact .inl h5
  · exact .inr (by rw [h5]; simp)
theorem wpList_push {ops : Array Oper} {rest : List Oper} {o : Oper} {a : Act} {Q : Exit → Act → World → Prop} (hI : AppInfo P t e size) (hgd : o.guard = none) (s x : Operand)
    (ho : o.op = .call { callee := .builtin .append, args := #[s, x], argTypes := #[t, t] }) (w0 : World) (cs : List Value) (hcs : cs.length = size) (h1 : ∀ u ∈ cs, u.oneCell' = true)
    (v : Value) (n : Nat) (xs : List Value) (hs : a.eval s = v) (hown : w0.ownsRow base e size v n xs) (hx : a.eval x = .slice (some ⟨w0.heap.size, 0, none⟩) 1 1) (hn : n < 10000000) (hbase : base ≤ w0.heap.size)
    (h : ∀ v' w', w'.ownsRow base e size v' (n + 1) (xs ++ cs) → w0.grownBy w' v.ownBlock → (v'.ownBlock = v.ownBlock ∨ v'.ownBlock = some (w0.heap.size + 1)) → wpList P ops Q rest (a.put o.dst v') w') : wpList P ops Q (o :: rest) a (w0.alloc (.cells cs.toArray e)) :=
  wpList_plain hgd fun _ hK => wp_push hI s x ho w0 cs hcs h1 v n xs hs hown hx hn hbase fun v' w' h2 h3 h4 => hK _ _ (h v' w' h2 h3 h4)
end
end Go.Proofs.YtijmnenojbfdnaaGreatDoor

namespace Go.Proofs.YtijmnenojbfdnaaGreatDoor
open Go.RowKit
structure FitV (v : Val) : Prop where
  kind : Fit v.kind
  n : Fit v.n
  s : v.s.size ≤ maxLen
def valV (v : Val) : Value := .agg #[.int .i64 v.kind, .int .i64 v.n, .string v.s]
def RVal : ElemR Val := fun _ _ v cs => cs = [.int .i64 v.kind, .int .i64 v.n, .string v.s] ∧ FitV v
theorem RVal.kept : ElemR.Kept RVal := fun _ _ _ _ _ _ _ _ h => h
def SlV := Sl 3 RVal
def RVar : ElemR Var := fun D w x cs => ∃ iv, cs = [.string x.name, .int .i64 x.kind, .int .i64 x.low, .int .i64 x.high, iv] ∧ x.name.size ≤ maxLen ∧ Fit x.kind ∧ Fit x.low ∧ Fit x.high ∧ SlS D w iv x.items
theorem RVar.kept : ElemR.Kept RVar := by
  rintro D D' w w' x cs hd hs ⟨iv, rfl, h1, h2, h3, h4, hi⟩
  exact ⟨iv, rfl, h1, h2, h3, h4, Sl.keep hi RStr.kept hd hs⟩
def SlX := Sl 5 RVar
def IsVar (D : Nat → Prop) (w : World) (u : Value) (x : Var) : Prop := ∃ iv, u = .agg #[.string x.name, .int .i64 x.kind, .int .i64 x.low, .int .i64 x.high, iv] ∧ x.name.size ≤ maxLen ∧ Fit x.kind ∧ Fit x.low ∧ Fit x.high ∧ SlS D w iv x.items
section
variable {D D' : Nat → Prop} {w w' : World} {u : Value}
theorem IsVar.now {x : Var} (h : IsVar (Lt w.heap.size) w u x) (hb : Below w.heap.size w w') : IsVar (Lt w'.heap.size) w' u x := by
  obtain ⟨iv, e, h1, h2, h3, h4, hi⟩ := h
  exact ⟨iv, e, h1, h2, h3, h4, hi.now hb⟩
theorem IsVar.below {x : Var} {B B' : Nat} (h : IsVar (Lt B) w u x) (hb : Below B w w') (hB : B ≤ B') : IsVar (Lt B') w' u x := by
  obtain ⟨iv, e, h1, h2, h3, h4, hi⟩ := h
  exact ⟨iv, e, h1, h2, h3, h4, hi.below hb hB⟩
theorem SlV.now {zs : List Val} (h : SlV (Lt w.heap.size) w u zs) (hb : Below w.heap.size w w') : SlV (Lt w'.heap.size) w' u zs := Sl.below h RVal.kept hb hb.size
theorem SlX.now {zs : List Var} (h : SlX (Lt w.heap.size) w u zs) (hb : Below w.heap.size w w') : SlX (Lt w'.heap.size) w' u zs := Sl.below h RVar.kept hb hb.size
theorem SlV.open_ {zs : List Val} (h : SlV D w u zs) : ∃ A c, u = .slice A zs.length c ∧ zs.length ≤ c ∧ c ≤ 9223372036854775807 ∧ SlV D w (.slice A zs.length c) zs := Sl.open_ h
theorem SlX.open_ {zs : List Var} (h : SlX D w u zs) : ∃ A c, u = .slice A zs.length c ∧ zs.length ≤ c ∧ c ≤ 9223372036854775807 ∧ SlX D w (.slice A zs.length c) zs := Sl.open_ h
theorem SlV.at_ {zs : List Val} {A : Option Addr} {n c k : Nat} (h : SlV D w (.slice A n c) zs) (hk : k < n) :
    ∃ b o v, A = some ⟨b, o, none⟩ ∧ D b ∧ zs[k]? = some v ∧ FitV v ∧ w.cell? ⟨b, o + k * 3, none⟩ = some (.int .i64 v.kind) ∧ w.cell? ⟨b, o + k * 3 + 1, none⟩ = some (.int .i64 v.n) ∧ w.cell? ⟨b, o + k * 3 + 2, none⟩ = some (.string v.s) := by
  obtain ⟨b, o, x, u0, u1, u2, hA, hD, hx, ⟨hu, hf⟩, h0, h1, h2⟩ := Sl.at3 h hk
  injection hu with e0 hu; injection hu with e1 hu; injection hu with e2 hu
  subst e0 e1 e2
  exact ⟨b, o, x, hA, hD, hx, hf, h0, h1, h2⟩
theorem Sl.at5 {α : Type} {R : ElemR α} {xs : List α} {A : Option Addr} {n c k : Nat} (h : Sl 5 R D w (.slice A n c) xs) (hk : k < n) :
    ∃ b o x u0 u1 u2 u3 u4, A = some ⟨b, o, none⟩ ∧ D b ∧ xs[k]? = some x ∧ R D w x [u0, u1, u2, u3, u4] ∧ w.cell? ⟨b, o + k * 5, none⟩ = some u0 ∧ w.cell? ⟨b, o + k * 5 + 1, none⟩ = some u1 ∧ w.cell? ⟨b, o + k * 5 + 2, none⟩ = some u2 ∧ w.cell? ⟨b, o + k * 5 + 3, none⟩ = some u3 ∧ w.cell? ⟨b, o + k * 5 + 4, none⟩ = some u4 := by
  obtain ⟨A', c', hv, h1, h2, h3⟩ := h
  injection hv with hA hn hc
  subst hA hn hc
  obtain ⟨b, o, cs, hA, hD, hl, hr, hcell⟩ := h3 k xs[k] (List.getElem?_eq_getElem hk)
  match cs, hl with
  | [u0, u1, u2, u3, u4], _ => exact ⟨b, o, xs[k], u0, u1, u2, u3, u4, hA, hD, List.getElem?_eq_getElem hk, hr, hcell 0 u0 rfl, hcell 1 u1 rfl, hcell 2 u2 rfl, hcell 3 u3 rfl, hcell 4 u4 rfl⟩
theorem SlX.at_ {zs : List Var} {A : Option Addr} {n c k : Nat} (h : SlX D w (.slice A n c) zs) (hk : k < n) :
    ∃ b o x iv, A = some ⟨b, o, none⟩ ∧ D b ∧ zs[k]? = some x ∧ IsVar D w (.agg #[.string x.name, .int .i64 x.kind, .int .i64 x.low, .int .i64 x.high, iv]) x ∧ SlS D w iv x.items ∧ w.cell? ⟨b, o + k * 5, none⟩ = some (.string x.name) ∧ w.cell? ⟨b, o + k * 5 + 1, none⟩ = some (.int .i64 x.kind) ∧ w.cell? ⟨b, o + k * 5 + 2, none⟩ = some (.int .i64 x.low) ∧ w.cell? ⟨b, o + k * 5 + 3, none⟩ = some (.int .i64 x.high) ∧ w.cell? ⟨b, o + k * 5 + 4, none⟩ = some iv := by
  obtain ⟨b, o, x, u0, u1, u2, u3, u4, hA, hD, hx, ⟨iv, hu, a1, a2, a3, a4, hi⟩, h0, h1, h2, h3, h4⟩ := Sl.at5 h hk
  injection hu with e0 hu; injection hu with e1 hu; injection hu with e2 hu; injection hu with e3 hu; injection hu with e4 hu
  subst e0 e1 e2 e3 e4
  exact ⟨b, o, x, u4, hA, hD, hx, ⟨u4, rfl, a1, a2, a3, a4, hi⟩, hi, h0, h1, h2, h3, h4⟩
end
theorem numB_yes {n : Int} (h1 : -4503599627370496 ≤ n) (h2 : n ≤ 4503599627370496) : numB n = true := by unfold numB; simp [h1, h2]
theorem numB_no {n : Int} (h : ¬ (-4503599627370496 ≤ n ∧ n ≤ 4503599627370496)) : numB n = false := by unfold numB; simp only [h, decide_false]
set_option maxHeartbeats 400000 in
theorem number_any (n : Int) (w : World) : Calls Tryz.prog 153 #[.int .i64 n] w fun e w' => e = .returned (.bool (numB n)) ∧ w = w' := by
  by_cases h1 : -4503599627370496 ≤ n <;> by_cases h2 : n ≤ 4503599627370496
  all_goals
    go_enter Tryz.func153, Tryz.ntmps153
    go_wp2
    go_ret
    exact ⟨ret_bool (by first | exact (numB_yes h1 h2).symm | exact (numB_no (fun h => by omega)).symm), rfl⟩
set_option maxHeartbeats 400000 in
theorem number_ref (n : Int) (w : World) : Calls Tryz.prog 113 #[.int .i64 n] w fun e w' => e = .returned (.bool (numB n)) ∧ w = w' := by
  by_cases h1 : -4503599627370496 ≤ n <;> by_cases h2 : n ≤ 4503599627370496
  all_goals
    go_enter Tryz.func113, Tryz.ntmps113
    go_wp2
    go_ret
    exact ⟨ret_bool (by first | exact (numB_yes h1 h2).symm | exact (numB_no (fun h => by omega)).symm), rfl⟩
theorem plainC_iff (c : UInt8) : plainC c = true ↔ 32 ≤ (c.toNat : Int) ∧ (c.toNat : Int) ≤ 126 := by unfold plainC; simp; omega
set_option maxHeartbeats 400000 in
theorem text1_any (c : UInt8) (w : World) : Calls Tryz.prog 187 #[.int .u8 (c.toNat : Int)] w fun e w' => e = .returned (.bool (!plainC c)) ∧ w = w' := by
  have HP := Lib.hid (plainC_iff c)
  generalize hq : plainC c = q at *
  generalize (c.toNat : Int) = z at *
  by_cases h1 : z < 32
  · have hq' : q = false := by cases q with | false => rfl | true => have := HP.out.1 rfl; omega
    subst hq'
    go_enter Tryz.func187, Tryz.ntmps187
    go_wp2
    go_ret
    exact ⟨rfl, rfl⟩
  by_cases h2 : 126 < z
  · have hq' : q = false := by cases q with | false => rfl | true => have := HP.out.1 rfl; omega
    subst hq'
    go_enter Tryz.func187, Tryz.ntmps187
    go_wp2
    go_ret
    exact ⟨rfl, rfl⟩
  · have hq' : q = true := HP.out.2 ⟨by omega, by omega⟩
    subst hq'
    go_enter Tryz.func187, Tryz.ntmps187
    go_wp2
    go_ret
    exact ⟨rfl, rfl⟩
def RowB (w : World) (g : Nat) (l : List UInt8) : Prop := ∀ k c, l[k]? = some c → w.cell? ⟨g, k, none⟩ = some (.int .u8 (c.toNat : Int))
theorem any_false_of {α : Type} (p : α → Bool) (xs : List α) (h : ∀ q y, q < xs.length → xs[q]? = some y → p y = false) : xs.any p = false := by
  rw [List.any_eq_false]
  intro x hx
  obtain ⟨q, hq, rfl⟩ := List.mem_iff_getElem.1 hx
  rw [h q _ hq (List.getElem?_eq_getElem hq)]; simp
set_option maxHeartbeats 400000 in
theorem indexTextB (g c : Nat) (l : List UInt8) (w : World) (hl : l.length ≤ 1000000) (h : RowB w g l) :
    Calls Tryz.prog 197 #[.slice (some ⟨g, 0, none⟩) l.length c, .func (.func 187) #[] #[]] w fun e w' => ∃ z : Int, e = .returned (.int .i64 z) ∧ decide (0 ≤ z) = (l.any fun x => !plainC x) ∧ w = w' := by
  have eg : ∀ args w, (callFunc 187 args).run Tryz.prog w = .ok (.enter 187 args) w := enters_of Tryz.func187 (by kernel_rfl) rfl
  have HH := Lib.hid h
  clear h
  go_enter Tryz.func197, Tryz.ntmps197
  go_wp2_with fail
  go_loopw [8] (fun i wr => ∃ j : Nat, j ≤ l.length ∧ i = .int .i64 j ∧ (∀ q t, q < j → l[q]? = some t → (!plainC t) = false) ∧ wr = w) (fun i _ => l.length - (intOf i).toNat)
  case atStart => exact ⟨0, Nat.zero_le _, rfl, fun q _ h => absurd h (by omega), rfl⟩
  case round =>
    obtain ⟨j, hj, rfl, hp, rfl⟩ := hrel
    have HP := Lib.hid hp
    clear hp
    by_cases hlt : j < l.length
    · have HX : Hid (l[j]? = some l[j]) := List.getElem?_eq_getElem hlt
      have c0 := HH.out j _ HX.out
      have HC := Lib.hid (fun W => text1_any l[j] W)
      generalize l[j] = x at *
      generalize hq : plainC x = q at *
      have HQ := Lib.hid hq
      clear hq
      cases q
      · go_wp2_with (go_at_fn 187; refine (HC.out _).mono ?_; rintro e w' ⟨rfl, rfl⟩)
        go_ret
        refine ⟨_, rfl, ?_, rfl⟩
        have : (l.any fun x => !plainC x) = true := List.any_eq_true.2 ⟨x, List.mem_of_getElem? HX.out, by rw [HQ.out]; rfl⟩
        rw [this]
        simp
      · go_wp2_with (go_at_fn 187; refine (HC.out _).mono ?_; rintro e w' ⟨rfl, rfl⟩)
        go_roundw
        case rel =>
          refine ⟨j + 1, by omega, by go_num, fun q y hq hy => ?_, trivial⟩
          by_cases e : q = j
          · subst e; rw [HX.out] at hy; injection hy with hy; subst hy; rw [HQ.out]; rfl
          · exact HP.out q y (by omega) hy
        case measure => simp [intOf]; omega
    · go_wp2_with fail
      go_ret
      refine ⟨_, rfl, ?_, rfl⟩
      rw [any_false_of _ l (fun q y hq hy => HP.out q y (by omega) hy)]
      simp
theorem containsTextB (g c : Nat) (l : List UInt8) (w : World) (hl : l.length ≤ 1000000) (h : RowB w g l) :
    Calls Tryz.prog 186 #[.slice (some ⟨g, 0, none⟩) l.length c, .func (.func 187) #[] #[]] w fun e w' => e = .returned (.bool (l.any fun x => !plainC x)) ∧ w = w' := by
  have HC := Lib.hid (indexTextB g c l w hl h)
  clear h
  go_enter Tryz.func186, Tryz.ntmps186
  go_wp2_with (go_at_call 197; refine HC.out.mono ?_; rintro e w' ⟨z, rfl, hz, rfl⟩)
  go_ret
  exact ⟨rfl, rfl⟩
end Go.Proofs.YtijmnenojbfdnaaGreatDoor

namespace Go.Proofs.YtijmnenojbfdnaaGreatDoor
open Go.RowKit
def plainS (s : ByteArray) : Bool := s.data.toList.all plainC
theorem any_not_allC (l : List UInt8) : (l.any fun x => !plainC x) = !l.all plainC := by
  induction l with
  | nil => rfl
  | cons a m ih => simp [List.any_cons, List.all_cons, ih]
theorem textB_long {s : ByteArray} (h : 200 < s.size) : textB s = false := by
  unfold textB
  have h' : ¬ s.size ≤ 200 := by omega
  simp [h']
theorem textB_short {s : ByteArray} (h : s.size ≤ 200) : textB s = plainS s := by unfold textB plainS; simp [h]
theorem rowB_new (w : World) (s : ByteArray) (cap t : Nat) (fr : Nat × Nat) : RowB (w.alloc (.cells (bytesRow s cap) t fr)).drew w.heap.size s.data.toList := by
  intro k c hk
  rw [Array.getElem?_toList] at hk
  have hkl : k < s.data.size := by
    rcases Nat.lt_or_ge k s.data.size with h | h
    · exact h
    · rw [Array.getElem?_eq_none h] at hk; cases hk
  have h1 : (w.alloc (.cells (bytesRow s cap) t fr)).drew.heap[w.heap.size]? = some (.cells (bytesRow s cap) t fr) := by
    show (w.heap.push _)[w.heap.size]? = _
    simp
  simp only [World.cell?, h1]
  simp only [Option.isSome_none, Bool.false_eq_true, if_false]
  unfold bytesRow
  rw [Array.getElem?_append_left (by simpa using hkl), Array.getElem?_map, hk]
  rfl
set_option maxHeartbeats 400000 in
theorem text_any (s : ByteArray) (w : World) (hs : s.size ≤ maxLen) : Calls Tryz.prog 154 #[.string s] w fun e w' => e = .returned (.bool (textB s)) ∧ Below w.heap.size w w' := by
  unfold maxLen at hs
  by_cases h1 : 200 < s.size
  · have HE := Lib.hid (textB_long h1)
    go_enter Tryz.func154, Tryz.ntmps154
    go_wp2
    go_ret
    exact ⟨ret_bool HE.out.symm, Below.refl _ _⟩
  · have h2 : s.size ≤ 200 := by omega
    have HE : Hid (textB s = !(s.data.toList.any fun x => !plainC x)) := by show textB s = _; rw [textB_short h2, any_not_allC]; unfold plainS; simp
    have hconv := fun w => run_bytes_of_string (P := Tryz.prog) w 9 90 5 s Tryz.underlying9 Tryz.underlying90 Tryz.underlying5
    go_enter Tryz.func154, Tryz.ntmps154
    go_wp2_with fail
    refine (containsTextB w.heap.size _ s.data.toList _ (by rw [Array.length_toList]; show s.size ≤ _; omega) (rowB_new w s _ _ _)).mono ?_
    rintro e w1 ⟨rfl, rfl⟩
    generalize (s.data.toList.any fun x => !plainC x) = q at *
    go_wp2_with fail
    go_ret
    exact ⟨ret_bool HE.out.symm, (bone w _).drew⟩
theorem byte_plain {s : ByteArray} {k : Nat} (h : k < s.size) : plainC (s.data.toList[k]'(by simpa using h)) = true ↔ 32 ≤ (s[k].toNat : Int) ∧ (s[k].toNat : Int) ≤ 126 := plainC_iff _
theorem all_plain {s : ByteArray} (h : ∀ j (hj : j < s.size), plainC (s.data.toList[j]'(by simpa using hj)) = true) : plainS s = true := by
  unfold plainS
  rw [List.all_eq_true]
  intro c hc
  obtain ⟨j, hj, rfl⟩ := List.mem_iff_getElem.1 hc
  exact h j (by simpa using hj)
theorem not_plain {s : ByteArray} {j : Nat} (hj : j < s.size) (h : ¬ plainC (s.data.toList[j]'(by simpa using hj)) = true) : plainS s = false := by
  unfold plainS
  rw [Bool.eq_false_iff]
  intro h'
  exact h (List.all_eq_true.1 h' _ (List.getElem_mem _))
set_option maxHeartbeats 400000 in
theorem printable_ref (s : ByteArray) (w : World) (hs : s.size ≤ maxLen) : Calls Tryz.prog 156 #[.string s] w fun e w' => e = .returned (.bool (plainS s)) ∧ w = w' := by
  unfold maxLen at hs
  go_enter Tryz.func156, Tryz.ntmps156
  go_wp2_with fail
  go_loop [3] (fun i => ∃ k : Nat, k ≤ s.size ∧ i = .int .i64 k ∧ ∀ j (hj : j < s.size), j < k → plainC (s.data.toList[j]'(by simpa using hj)) = true) (fun i => s.size - (intOf i).toNat)
  case atStart => exact ⟨0, Nat.zero_le _, rfl, fun j _ hj => absurd hj (by omega)⟩
  case round =>
    obtain ⟨k, hk, rfl, hp⟩ := hrel
    have HP := Lib.hid hp
    clear hp
    by_cases hlt : k < s.size
    · have HY := Lib.hid (byte_plain hlt)
      by_cases h1 : (s[k].toNat : Int) < 32
      · have HE := Lib.hid (not_plain hlt (fun h => by have := HY.out.1 h; omega))
        go_wp2_with fail
        go_ret
        exact ⟨ret_bool HE.out.symm, rfl⟩
      by_cases h2 : 126 < (s[k].toNat : Int)
      · have HE := Lib.hid (not_plain hlt (fun h => by have := HY.out.1 h; omega))
        go_wp2_with fail
        go_ret
        exact ⟨ret_bool HE.out.symm, rfl⟩
      have HQ := Lib.hid (HY.out.2 ⟨by omega, by omega⟩)
      go_wp2_with fail
      go_round
      case rel => exact ⟨k + 1, by omega, by go_num, fun j hj hjk => by
        by_cases e : j = k
        · subst e; exact HQ.out
        · exact HP.out j hj (by omega)⟩
      case measure => simp [intOf]; omega
    · have HE := Lib.hid (all_plain (s := s) (fun j hj => HP.out j hj (by omega)))
      go_wp2_with fail
      go_ret
      exact ⟨ret_bool HE.out.symm, rfl⟩
set_option maxHeartbeats 400000 in
theorem text_ref (s : ByteArray) (w : World) (hs : s.size ≤ maxLen) : Calls Tryz.prog 114 #[.string s] w fun e w' => e = .returned (.bool (textB s)) ∧ w = w' := by
  have HC := Lib.hid (fun w => printable_ref s w hs)
  unfold maxLen at hs
  by_cases h1 : 200 < s.size
  · have HE := Lib.hid (textB_long h1)
    go_enter Tryz.func114, Tryz.ntmps114
    go_wp2
    go_ret
    exact ⟨ret_bool HE.out.symm, rfl⟩
  · have h2 : s.size ≤ 200 := by omega
    have HE := Lib.hid (textB_short h2)
    generalize plainS s = q at *
    go_enter Tryz.func114, Tryz.ntmps114
    go_wp2_with (go_at_call 156; refine (HC.out _).mono ?_; rintro e w' ⟨rfl, rfl⟩)
    go_ret
    exact ⟨ret_bool HE.out.symm, rfl⟩
set_option maxHeartbeats 1000000 in
theorem validV_any (v : Val) (w : World) (h : FitV v) : Calls Tryz.prog 110 #[valV v] w fun e w' => e = .returned (.bool (validV v)) ∧ Below w.heap.size w w' := by
  obtain ⟨k, n, s⟩ := v
  obtain ⟨h1, h2, h3⟩ := h
  have HT := Lib.hid (fun w => text_any s w h3)
  have HN := Lib.hid (fun w => number_any n w)
  unfold validV valV noS
  dsimp only at h1 h2 h3 ⊢
  clear h1 h2 h3
  have hb := bone w (.cells #[.int .i64 k, .int .i64 n, .string s] 25)
  by_cases k1 : k = 1
  · subst k1
    by_cases hS : s.toList = []
    · have hS2 : s.toList.isEmpty = true := by simpa using hS
      by_cases n0 : n = 0
      · subst n0
        go_enter Tryz.func110, Tryz.ntmps110
        go_wp2_with fail
        go_ret
        exact ⟨ret_bool (by first | (simp; done) | simp [hS]), hb⟩
      · by_cases n1 : n = 1
        · subst n1
          go_enter Tryz.func110, Tryz.ntmps110
          go_wp2_with fail
          go_ret
          exact ⟨ret_bool (by first | (simp; done) | simp [hS]), hb⟩
        · go_enter Tryz.func110, Tryz.ntmps110
          go_wp2_with fail
          go_ret
          exact ⟨ret_bool (by first | (simp; done) | simp [n0, n1]), hb⟩
    · have hS2 : s.toList.isEmpty = false := by simpa using hS
      by_cases n0 : n = 0
      · subst n0
        go_enter Tryz.func110, Tryz.ntmps110
        go_wp2_with fail
        go_ret
        exact ⟨ret_bool (by first | (simp; done) | simp [hS]), hb⟩
      · by_cases n1 : n = 1
        · subst n1
          go_enter Tryz.func110, Tryz.ntmps110
          go_wp2_with fail
          go_ret
          exact ⟨ret_bool (by first | (simp; done) | simp [hS]), hb⟩
        · go_enter Tryz.func110, Tryz.ntmps110
          go_wp2_with fail
          go_ret
          exact ⟨ret_bool (by first | (simp; done) | simp [n0, n1]), hb⟩
  by_cases k2 : k = 2
  · subst k2
    generalize numB n = q at *
    by_cases hS : s.toList = []
    · have hS2 : s.toList.isEmpty = true := by simpa using hS
      cases q
      all_goals
        go_enter Tryz.func110, Tryz.ntmps110
        go_wp2_with (go_at_call 153; refine (HN.out _).mono ?_; rintro e w' ⟨rfl, rfl⟩)
        go_ret
        exact ⟨ret_bool (by first | (simp; done) | simp [hS]), hb⟩
    · have hS2 : s.toList.isEmpty = false := by simpa using hS
      cases q
      all_goals
        go_enter Tryz.func110, Tryz.ntmps110
        go_wp2_with (go_at_call 153; refine (HN.out _).mono ?_; rintro e w' ⟨rfl, rfl⟩)
        go_ret
        exact ⟨ret_bool (by first | (simp; done) | simp [hS]), hb⟩
  by_cases k3 : k = 3
  · subst k3
    by_cases n0 : n = 0
    · subst n0
      generalize textB s = q at *
      go_enter Tryz.func110, Tryz.ntmps110
      go_wp2_with (go_at_call 154; refine (HT.out _).mono ?_; rintro e w' ⟨rfl, hb1⟩)
      go_ret
      exact ⟨ret_bool (by simp), bthen hb hb1⟩
    · go_enter Tryz.func110, Tryz.ntmps110
      go_wp2_with fail
      go_ret
      exact ⟨ret_bool (by first | (simp; done) | simp [n0]), hb⟩
  · go_enter Tryz.func110, Tryz.ntmps110
    go_wp2_with fail
    go_ret
    exact ⟨ret_bool (by first | (simp; done) | simp [k1, k2, k3]), hb⟩
set_option maxHeartbeats 1000000 in
theorem validV_ref (v : Val) (w : World) (h : FitV v) : Calls Tryz.prog 85 #[valV v] w fun e w' => e = .returned (.bool (validV v)) ∧ Below w.heap.size w w' := by
  obtain ⟨k, n, s⟩ := v
  obtain ⟨h1, h2, h3⟩ := h
  have HT := Lib.hid (fun w => text_ref s w h3)
  have HN := Lib.hid (fun w => number_ref n w)
  unfold validV valV noS
  dsimp only at h1 h2 h3 ⊢
  clear h1 h2 h3
  have hb := bone w (.cells #[.int .i64 k, .int .i64 n, .string s] 25)
  by_cases k1 : k = 1
  · subst k1
    by_cases hS : s.toList = []
    · have hS2 : s.toList.isEmpty = true := by simpa using hS
      by_cases n0 : n = 0
      · subst n0
        go_enter Tryz.func85, Tryz.ntmps85
        go_wp2_with fail
        go_ret
        exact ⟨ret_bool (by first | (simp; done) | simp [hS]), hb⟩
      · by_cases n1 : n = 1
        · subst n1
          go_enter Tryz.func85, Tryz.ntmps85
          go_wp2_with fail
          go_ret
          exact ⟨ret_bool (by first | (simp; done) | simp [hS]), hb⟩
        · go_enter Tryz.func85, Tryz.ntmps85
          go_wp2_with fail
          go_ret
          exact ⟨ret_bool (by first | (simp; done) | simp [n0, n1]), hb⟩
    · have hS2 : s.toList.isEmpty = false := by simpa using hS
      by_cases n0 : n = 0
      · subst n0
        go_enter Tryz.func85, Tryz.ntmps85
        go_wp2_with fail
        go_ret
        exact ⟨ret_bool (by first | (simp; done) | simp [hS]), hb⟩
      · by_cases n1 : n = 1
        · subst n1
          go_enter Tryz.func85, Tryz.ntmps85
          go_wp2_with fail
          go_ret
          exact ⟨ret_bool (by first | (simp; done) | simp [hS]), hb⟩
        · go_enter Tryz.func85, Tryz.ntmps85
          go_wp2_with fail
          go_ret
          exact ⟨ret_bool (by first | (simp; done) | simp [n0, n1]), hb⟩
  by_cases k2 : k = 2
  · subst k2
    generalize numB n = q at *
    by_cases hS : s.toList = []
    · have hS2 : s.toList.isEmpty = true := by simpa using hS
      cases q
      all_goals
        go_enter Tryz.func85, Tryz.ntmps85
        go_wp2_with (go_at_call 113; refine (HN.out _).mono ?_; rintro e w' ⟨rfl, rfl⟩)
        go_ret
        exact ⟨ret_bool (by first | (simp; done) | simp [hS]), hb⟩
    · have hS2 : s.toList.isEmpty = false := by simpa using hS
      cases q
      all_goals
        go_enter Tryz.func85, Tryz.ntmps85
        go_wp2_with (go_at_call 113; refine (HN.out _).mono ?_; rintro e w' ⟨rfl, rfl⟩)
        go_ret
        exact ⟨ret_bool (by first | (simp; done) | simp [hS]), hb⟩
  by_cases k3 : k = 3
  · subst k3
    by_cases n0 : n = 0
    · subst n0
      generalize textB s = q at *
      go_enter Tryz.func85, Tryz.ntmps85
      go_wp2_with (go_at_call 114; refine (HT.out _).mono ?_; rintro e w' ⟨rfl, rfl⟩)
      go_ret
      exact ⟨ret_bool (by simp), hb⟩
    · go_enter Tryz.func85, Tryz.ntmps85
      go_wp2_with fail
      go_ret
      exact ⟨ret_bool (by first | (simp; done) | simp [n0]), hb⟩
  · go_enter Tryz.func85, Tryz.ntmps85
    go_wp2_with fail
    go_ret
    exact ⟨ret_bool (by first | (simp; done) | simp [k1, k2, k3]), hb⟩
end Go.Proofs.YtijmnenojbfdnaaGreatDoor

namespace Go.Proofs.YtijmnenojbfdnaaGreatDoor
open Go.RowKit
def mkS (l : Bs) : ByteArray := ⟨l.toArray⟩
theorem mkS_of (s : ByteArray) : mkS s.data.toList = s := by cases s; rfl
theorem Sl.take_ {α : Type} {size : Nat} {R : ElemR α} {D : Nat → Prop} {w : World} {A : Option Addr} {n c k : Nat} {xs : List α} (h : Sl size R D w (.slice A n c) xs) (hk : k ≤ xs.length) : Sl size R D w (.slice A k c) (xs.take k) := by
  obtain ⟨A', c', hv, h1, h2, h3⟩ := h
  injection hv with e1 e2 e3
  subst e1 e3
  refine ⟨A, c, by rw [List.length_take, Nat.min_eq_left hk], by rw [List.length_take]; omega, h2, fun i x hx => h3 i x ?_⟩
  rw [List.getElem?_take] at hx
  split at hx
  · exact hx
  · cases hx
abbrev OwnS (w : World) (base : Nat) (v : Value) (ss : List Bs) : Prop := w.ownsRow base 9 1 v ss.length (ss.map encStr)
theorem OwnS.slS {w : World} {base : Nat} {v : Value} {ss : List Bs} (h : OwnS w base v ss) (hf : ∀ s ∈ ss, s.length ≤ maxLen) : SlS (Lt w.heap.size) w v (ss.map mkS) :=
  SlS.of_own (zs := ss.map mkS) (by rw [List.map_map]; exact h) (fun z hz => by obtain ⟨s, hs, rfl⟩ := List.mem_map.1 hz; exact hf s hs)
theorem sortS (v : Value) (ss : List Bs) (base : Nat) (w : World) (h : OwnS w base v ss) (hl : ss.length ≤ 1000) :
    Calls Tryz.prog 54 #[v] w fun e w' => e = .returned (.tuple #[]) ∧ OwnS w' base v (sortB ss) ∧ Below base w w' := by
  by_cases hn : 0 < ss.length
  · rcases h.2 with ⟨_, h0⟩ | ⟨g, cap, cur, rfl, hbase, hb, h1, h2, h3, h4⟩
    · omega
    · have hg : g < w.heap.size := (Array.getElem?_eq_some_iff.1 hb).1
      refine (Tryz.slices_Sort_string g 0 cap ss w (holds_of_block hb (by simpa using h4)) hg (by omega)).mono ?_
      rintro e w' ⟨rfl, m, os, rfl⟩
      refine ⟨rfl, ?_, ?_⟩
      · have := ownsRow_sorted (n := m) (os := os) (ts := sortB ss) (sortB_len ss) hbase hb h1 h2 h3
        unfold OwnS
        rw [sortB_len]
        exact this
      · have hgr := grownBy_sorted (w := w) (g := g) (n := m) (os := os) (sortB ss).toArray
        exact below_of_grown hgr (by omega) (fun g' e => by injection e with e; omega)
  · have : ss = [] := List.eq_nil_of_length_eq_zero (by omega)
    subst this
    rcases h.2 with ⟨rfl, _⟩ | ⟨g, cap, cur, rfl, hb, hg, hc, hm, hs, htake⟩
    · refine (Tryz.slices_Sort_string_none none 0 w).mono ?_
      rintro e w' ⟨rfl, rfl⟩
      exact ⟨rfl, by rw [show sortB [] = [] by simp [sortB]]; exact h, Below.refl _ _⟩
    · refine (Tryz.slices_Sort_string_none (some ⟨g, 0, none⟩) cap w).mono ?_
      rintro e w' ⟨rfl, rfl⟩
      exact ⟨rfl, by rw [show sortB [] = [] by simp [sortB]]; exact h, Below.refl _ _⟩
theorem compactS (v : Value) (ss : List Bs) (base : Nat) (w : World) (h : OwnS w base v ss) (hl : ss.length ≤ 1000) (hf : ∀ s ∈ Lib.compact ss, s.length ≤ maxLen) :
    Calls Tryz.prog 55 #[v] w fun e w' => ∃ v', e = .returned v' ∧ SlS (Lt w'.heap.size) w' v' ((Lib.compact ss).map mkS) ∧ Below base w w' := by
  by_cases hn : 0 < ss.length
  · rcases h.2 with ⟨_, h0⟩ | ⟨g, cap, cur, rfl, hbase, hb, h1, h2, h3, h4⟩
    · omega
    · have hg : g < w.heap.size := (Array.getElem?_eq_some_iff.1 hb).1
      refine (Tryz.slices_Compact_string g 0 cap ss w (holds_of_block hb (by simpa using h4)) (by omega) h1).mono ?_
      rintro e w' ⟨rfl, m, rfl⟩
      have hcl := compact_len ss
      have hlen : (Lib.compact ss ++ List.replicate (ss.length - (Lib.compact ss).length) ([] : Bs)).length = ss.length := by simp; omega
      have ho := ownsRow_sorted (n := m) (os := #[]) (ss := ss) (ts := Lib.compact ss ++ List.replicate (ss.length - (Lib.compact ss).length) ([] : Bs)) hlen hbase hb h1 h2 h3
      have hgr := grownBy_sorted (w := w) (g := g) (n := m) (os := #[]) (Lib.compact ss ++ List.replicate (ss.length - (Lib.compact ss).length) ([] : Bs)).toArray
      rw [Go.Sort.grow_empty] at ho hgr
      generalize Go.Sort.putRow encStr (Go.Sort.ahead w m) g 0 (Lib.compact ss ++ List.replicate (ss.length - (Lib.compact ss).length) ([] : Bs)).toArray = W at *
      refine ⟨_, rfl, ?_, below_of_grown hgr (by omega) (fun g' e => by injection e with e; omega)⟩
      have ho' : OwnS W base (.slice (some ⟨g, 0, none⟩) ss.length cap) (Lib.compact ss ++ List.replicate (ss.length - (Lib.compact ss).length) ([] : Bs)) := by
        unfold OwnS
        rw [hlen]
        exact ho
      have hsl := ho'.slS (fun s hs => by
        rcases List.mem_append.1 hs with hs | hs
        · exact hf s hs
        · rw [(List.mem_replicate.1 hs).2]; exact Nat.zero_le _)
      have := Sl.take_ (k := (Lib.compact ss).length) hsl (by simp)
      rw [List.map_append, List.take_left' (by simp)] at this
      exact this
  · have : ss = [] := List.eq_nil_of_length_eq_zero (by omega)
    subst this
    rcases h.2 with ⟨rfl, _⟩ | ⟨g, cap, cur, rfl, hb, hg, hc, hm, hs, htake⟩
    · refine (Tryz.slices_Compact_string_empty none 0 w).mono ?_
      rintro e w' ⟨rfl, rfl⟩
      exact ⟨_, rfl, Sl.none_, Below.refl _ _⟩
    · refine (Tryz.slices_Compact_string_empty (some ⟨g, 0, none⟩) cap w).mono ?_
      rintro e w' ⟨rfl, rfl⟩
      exact ⟨_, rfl, ⟨_, cap, rfl, hc, hm, fun i x hx => by simp [Lib.compact, Lib.compactUpTo] at hx⟩, Below.refl _ _⟩
end Go.Proofs.YtijmnenojbfdnaaGreatDoor

namespace Go.Proofs.YtijmnenojbfdnaaGreatDoor
open Go.RowKit
theorem perm_of_subset : ∀ (A ls : List Bs), A.Nodup → (∀ x ∈ A, x ∈ ls) → ls.length = A.length → ls.Perm A := by
  intro A
  induction A with
  | nil => intro ls _ _ h; have : ls = [] := List.eq_nil_of_length_eq_zero h; rw [this]
  | cons a A ih =>
    intro ls hn hs hl
    rw [List.nodup_cons] at hn
    have ha := hs a (by simp)
    have h1 : ls.Perm (a :: ls.erase a) := List.perm_cons_erase ha
    have h2 := ih (ls.erase a) hn.2 (fun x hx => by
      rw [List.mem_erase_of_ne (fun e => by subst e; exact hn.1 hx)]
      exact hs x (by simp [hx])) (by rw [List.length_erase_of_mem ha, hl]; simp)
    exact h1.trans (h2.cons a)
theorem once_iff (ls : List Bs) : onceB ls = decide ((setB ls).length = ls.length) := by
  unfold onceB
  rw [decide_eq_decide]
  constructor
  · intro h
    exact ((List.perm_ext_iff_of_nodup (asc_nodup (setB_asc ls)) h).2 (fun x => setB_mem ls x)).length_eq
  · intro h
    have := perm_of_subset (setB ls) ls (asc_nodup (setB_asc ls)) (fun x hx => (setB_mem ls x).1 hx) h.symm
    exact this.nodup_iff.2 (asc_nodup (setB_asc ls))
def AsksS (k : FuncId) (w : World) (xs : List ByteArray) (p : ByteArray → Bool) : Prop :=
  ∀ (x : ByteArray) (w1 : World), x ∈ xs → x.size ≤ maxLen → Below w.heap.size w w1 → Calls Tryz.prog k #[.string x] w1 fun e w2 => e = .returned (.bool (p x)) ∧ Below w1.heap.size w1 w2
set_option maxHeartbeats 400000 in
theorem indexFuncS (k : FuncId) (eg : ∀ args w, (callFunc k args).run Tryz.prog w = .ok (.enter k args) w) (tv : Value) (ts : List ByteArray) (p : ByteArray → Bool) (w : World) (ht : SlS (Lt w.heap.size) w tv ts) (hf : AsksS k w ts p) :
    Calls Tryz.prog 77 #[tv, .func (.func k) #[] #[]] w fun e w' => ∃ z : Int, e = .returned (.int .i64 z) ∧ decide (0 ≤ z) = ts.any p ∧ Below w.heap.size w w' := by
  obtain ⟨A, c, rfl, h1, h2, ht⟩ := ht.open_
  have HF := Lib.hid hf
  clear hf
  go_enter Tryz.func77, Tryz.ntmps77
  go_wp2_with fail
  go_loopw [8] (fun i wr => ∃ j : Nat, j ≤ ts.length ∧ i = .int .i64 j ∧ (∀ q t, q < j → ts[q]? = some t → p t = false) ∧ Below w.heap.size w wr) (fun i _ => ts.length - (intOf i).toNat)
  case atStart => exact ⟨0, Nat.zero_le _, rfl, fun q _ h => absurd h (by omega), Below.refl _ _⟩
  case round =>
    obtain ⟨j, hj, rfl, hp, hb⟩ := hrel
    have HP := Lib.hid hp
    clear hp
    by_cases hlt : j < ts.length
    · obtain ⟨b, o, t, rfl, hD, hx, hf, c0⟩ := (ht.now hb).at_ hlt
      have hcall := HF.out t wr (List.mem_of_getElem? hx) hf hb
      have HX := Lib.hid hx
      clear hx
      generalize hq : p t = q at *
      have HQ := Lib.hid hq
      have HC := Lib.hid hcall
      clear hcall hq
      cases q
      · go_wp2_with (go_at_fn k; refine HC.out.mono ?_; rintro e w' ⟨rfl, hb'⟩)
        go_roundw
        case rel =>
          refine ⟨j + 1, by omega, by go_num, fun q y hq hy => ?_, bthen hb hb'⟩
          by_cases e : q = j
          · subst e; rw [HX.out] at hy; injection hy with hy; subst hy; exact HQ.out
          · exact HP.out q y (by omega) hy
        case measure => simp [intOf]; omega
      · go_wp2_with (go_at_fn k; refine HC.out.mono ?_; rintro e w' ⟨rfl, hb'⟩)
        go_ret
        refine ⟨_, rfl, ?_, bthen hb hb'⟩
        rw [List.any_eq_true.2 ⟨t, List.mem_of_getElem? HX.out, HQ.out⟩]
        simp
    · go_wp2_with fail
      go_ret
      refine ⟨_, rfl, ?_, hb⟩
      rw [any_false_of _ ts (fun q y hq hy => HP.out q y (by omega) hy)]
      simp
theorem containsFuncS (k : FuncId) (eg : ∀ args w, (callFunc k args).run Tryz.prog w = .ok (.enter k args) w) (tv : Value) (ts : List ByteArray) (p : ByteArray → Bool) (w : World) (ht : SlS (Lt w.heap.size) w tv ts) (hf : AsksS k w ts p) :
    Calls Tryz.prog 41 #[tv, .func (.func k) #[] #[]] w fun e w' => e = .returned (.bool (ts.any p)) ∧ Below w.heap.size w w' := by
  have HC := Lib.hid (indexFuncS k eg tv ts p w ht hf)
  clear hf ht
  go_enter Tryz.func41, Tryz.ntmps41
  go_wp2_with (go_at_call 77; refine HC.out.mono ?_; rintro e w' ⟨z, rfl, hz, hb'⟩)
  go_ret
  exact ⟨rfl, hb'⟩
set_option maxHeartbeats 400000 in
theorem validVar1_any (s : ByteArray) (w : World) (hs : s.size ≤ maxLen) : Calls Tryz.prog 168 #[.string s] w fun e w' => e = .returned (.bool (!textB s)) ∧ Below w.heap.size w w' := by
  have HT := Lib.hid (text_any s w hs)
  clear hs
  generalize textB s = q at *
  go_enter Tryz.func168, Tryz.ntmps168
  go_wp2_with (go_at_call 154; refine HT.out.mono ?_; rintro e w' ⟨rfl, hb⟩)
  go_ret
  exact ⟨rfl, hb⟩
theorem cloneS (v : Value) (zs : List ByteArray) (w : World) (h : SlS (Lt w.heap.size) w v zs) (hz : zs.length ≤ 1000000) :
    Calls Tryz.prog 169 #[v] w fun e w' => ∃ v', e = .returned v' ∧ w'.ownsRow w.heap.size 9 1 v' zs.length (zs.map Value.string) ∧ Below w.heap.size w w' := by
  obtain ⟨A, c, rfl, h1, h2, h⟩ := h.open_
  by_cases hn : 0 < zs.length
  · obtain ⟨b, o, rfl, hD, _, hc⟩ := h.cells hn
    refine (Tryz.slices_Clone_string b o zs.length c zs w (Nat.le_refl _) (by omega) hc).mono ?_
    rintro e w' ⟨v', rfl, ho, _, hb⟩
    rw [List.take_of_length_le (Nat.le_refl _)] at ho
    exact ⟨v', rfl, ho, hb⟩
  · have : zs = [] := List.eq_nil_of_length_eq_zero (by omega)
    subst this
    rcases A with _ | a
    · refine (Tryz.slices_Clone_string_nil _ _ w).mono ?_
      rintro e w' ⟨rfl, rfl⟩
      exact ⟨_, rfl, World.ownsRow_nil _ _ _ _, Below.refl _ _⟩
    · refine (Tryz.slices_Clone_string_zero a c w).mono ?_
      rintro e w' ⟨v', rfl, ho, _, hb⟩
      exact ⟨v', rfl, ho, hb⟩
theorem own_bytes {w : World} {base : Nat} {v : Value} {zs : List ByteArray} (h : w.ownsRow base 9 1 v zs.length (zs.map Value.string)) : OwnS w base v (bytesOf zs) := by
  unfold OwnS bytesOf
  rw [List.length_map, List.map_map]
  have : (encStr ∘ fun s : ByteArray => s.data.toList) = Value.string := by
    funext s
    show Value.string (mkS s.data.toList) = _
    rw [mkS_of]
  rw [this]
  exact h
end Go.Proofs.YtijmnenojbfdnaaGreatDoor
