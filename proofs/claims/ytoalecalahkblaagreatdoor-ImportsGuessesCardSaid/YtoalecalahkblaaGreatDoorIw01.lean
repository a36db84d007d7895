/- Texts of this seat, merged. -/
import Derived.WalkKit
import Derived.WalkSpells
import Derived.WalkLawsBesides
import Derived.Lib.Hide
import Derived.Deep.Draws
import Derived.Deep.OwnRows
import Derived.Maps.AppendAt
import Derived.Deep.AppendLies
import Derived.RegionTactic
import Derived.OwnWalk
import Derived.Test.YtoalecalahkblaaGreatDoorProg
import Derived.Outline
import Derived.Shelf.Abstract
set_option linter.all false
set_option linter.all false
namespace Go.Proofs.YtoalecalahkblaaGreatDoor
open Go.RowKit
def Fit (z : Int) : Prop := -9223372036854775808 ≤ z ∧ z ≤ 9223372036854775807
theorem add_add' (a : Addr) (i j : Nat) : (a.add i).add j = a.add (i + j) := by
  unfold Addr.add
  by_cases hi : i = 0 <;> by_cases hj : j = 0 <;> simp [hi, hj, Nat.add_assoc]
def Same (D : Nat → Prop) (w w' : World) : Prop := ∀ b, D b → w'.heap[b]? = w.heap[b]?
def Lt (B b : Nat) : Prop := b < B
theorem Same.refl (D : Nat → Prop) (w : World) : Same D w w := fun _ _ => rfl
theorem Same.trans {D : Nat → Prop} {a b c : World} (h : Same D a b) (k : Same D b c) : Same D a c := fun x hx => (k x hx).trans (h x hx)
theorem Same.mono {D D' : Nat → Prop} {a b : World} (h : Same D a b) (hd : ∀ x, D' x → D x) : Same D' a b := fun x hx => h x (hd x hx)
theorem Same.of_below {B : Nat} {w w' : World} (h : Below B w w') : Same (Lt B) w w' := fun b hb => h.block b hb
theorem Same.cell {D : Nat → Prop} {w w' : World} (h : Same D w w') {p : Addr} (hp : D p.block) : w'.cell? p = w.cell? p :=
  World.cell?_of_block (h p.block hp)
abbrev ElemR (α : Type) := (Nat → Prop) → World → α → List Value → Prop
def ElemR.Kept {α : Type} (R : ElemR α) : Prop := ∀ (D D' : Nat → Prop) (w w' : World) (x : α) (cs : List Value), (∀ b, D b → D' b) → Same D w w' → R D w x cs → R D' w' x cs
def Sl {α : Type} (size : Nat) (R : ElemR α) (D : Nat → Prop) (w : World) (v : Value) (xs : List α) : Prop :=
  ∃ (A : Option Addr) (c : Nat), v = .slice A xs.length c ∧ xs.length ≤ c ∧ c ≤ maxLen ∧
    ∀ i x, xs[i]? = some x → ∃ b o cs, A = some ⟨b, o, none⟩ ∧ D b ∧ cs.length = size ∧ R D w x cs ∧ ∀ j u, cs[j]? = some u → w.cell? ⟨b, o + i * size + j, none⟩ = some u
section
variable {α : Type} {size : Nat} {R : ElemR α} {D D' : Nat → Prop} {w w' : World} {v : Value} {xs : List α}
theorem Sl.keep (h : Sl size R D w v xs) (hR : ElemR.Kept R) (hd : ∀ b, D b → D' b) (hs : Same D w w') : Sl size R D' w' v xs := by
  obtain ⟨A, c, hv, h1, h2, h3⟩ := h
  refine ⟨A, c, hv, h1, h2, fun i x hx => ?_⟩
  obtain ⟨b, o, cs, hA, hD, hl, hr, hc⟩ := h3 i x hx
  exact ⟨b, o, cs, hA, hd _ hD, hl, hR _ _ _ _ _ _ hd hs hr, fun j u hu => (hs.cell hD).trans (hc j u hu)⟩
theorem Sl.below {B B' : Nat} (h : Sl size R (Lt B) w v xs) (hR : ElemR.Kept R) (hb : Below B w w') (hB : B ≤ B') : Sl size R (Lt B') w' v xs :=
  h.keep hR (fun _ hx => Nat.lt_of_lt_of_le hx hB) (Same.of_below hb)
theorem Sl.at1 {A : Option Addr} {n c k : Nat} (h : Sl 1 R D w (.slice A n c) xs) (hk : k < n) :
    ∃ b o x u, A = some ⟨b, o, none⟩ ∧ D b ∧ xs[k]? = some x ∧ R D w x [u] ∧ w.cell? ⟨b, o + k, none⟩ = some u := by
  obtain ⟨A', c', hv, h1, h2, h3⟩ := h
  injection hv with hA hn hc
  subst hA hn hc
  obtain ⟨b, o, cs, hA, hD, hl, hr, hcell⟩ := h3 k xs[k] (List.getElem?_eq_getElem hk)
  match cs, hl with
  | [u], _ => exact ⟨b, o, xs[k], u, hA, hD, List.getElem?_eq_getElem hk, hr, by simpa using hcell 0 u rfl⟩
theorem Sl.at3 {A : Option Addr} {n c k : Nat} (h : Sl 3 R D w (.slice A n c) xs) (hk : k < n) :
    ∃ b o x u0 u1 u2, A = some ⟨b, o, none⟩ ∧ D b ∧ xs[k]? = some x ∧ R D w x [u0, u1, u2] ∧ w.cell? ⟨b, o + k * 3, none⟩ = some u0 ∧ w.cell? ⟨b, o + k * 3 + 1, none⟩ = some u1 ∧ w.cell? ⟨b, o + k * 3 + 2, none⟩ = some u2 := by
  obtain ⟨A', c', hv, h1, h2, h3⟩ := h
  injection hv with hA hn hc
  subst hA hn hc
  obtain ⟨b, o, cs, hA, hD, hl, hr, hcell⟩ := h3 k xs[k] (List.getElem?_eq_getElem hk)
  match cs, hl with
  | [u0, u1, u2], _ => exact ⟨b, o, xs[k], u0, u1, u2, hA, hD, List.getElem?_eq_getElem hk, hr, hcell 0 u0 rfl, hcell 1 u1 rfl, hcell 2 u2 rfl⟩
theorem Sl.row1 {A : Option Addr} {n c : Nat} (h : Sl 1 R D w (.slice A n c) xs) (hn : 0 < n) :
    ∃ b o, A = some ⟨b, o, none⟩ ∧ D b ∧ n = xs.length ∧ ∀ k x, xs[k]? = some x → ∃ u, R D w x [u] ∧ w.cell? ⟨b, o + k, none⟩ = some u := by
  obtain ⟨b, o, x, u, hA, hD, _, _, _⟩ := h.at1 hn
  obtain ⟨A', c', hv, h1, h2, h3⟩ := h
  injection hv with hA' hn' hc
  refine ⟨b, o, hA, hD, hn', fun k y hy => ?_⟩
  obtain ⟨b', o', cs, hA'', hD', hl, hr, hcell⟩ := h3 k y hy
  have e : (⟨b, o, none⟩ : Addr) = ⟨b', o', none⟩ := by
    have : some (⟨b, o, none⟩ : Addr) = some ⟨b', o', none⟩ := by rw [← hA, hA', hA'']
    injection this
  injection e with e1 e2 _
  subst e1 e2
  match cs, hl with
  | [u], _ => exact ⟨u, hr, by simpa using hcell 0 u rfl⟩
theorem Sl.open_ (h : Sl size R D w v xs) : ∃ A c, v = .slice A xs.length c ∧ xs.length ≤ c ∧ c ≤ 9223372036854775807 ∧ Sl size R D w (.slice A xs.length c) xs := by
  obtain ⟨A, c, hv, h1, h2, h3⟩ := h
  unfold maxLen at h2
  exact ⟨A, c, hv, h1, h2, A, c, rfl, h1, by unfold maxLen; exact h2, h3⟩
theorem Sl.none_ : Sl size R D w (.slice none 0 0) ([] : List α) := ⟨none, 0, rfl, Nat.le_refl _, Nat.zero_le _, fun i x hx => by simp at hx⟩
end
def RInt : ElemR Int := fun _ _ z cs => cs = [.int .i64 z] ∧ Fit z
def RStr : ElemR ByteArray := fun _ _ s cs => cs = [.string s] ∧ s.size ≤ maxLen
def RBool : ElemR Bool := fun _ _ b cs => cs = [.bool b]
theorem RInt.kept : ElemR.Kept RInt := fun _ _ _ _ _ _ _ _ h => h
theorem RStr.kept : ElemR.Kept RStr := fun _ _ _ _ _ _ _ _ h => h
theorem RBool.kept : ElemR.Kept RBool := fun _ _ _ _ _ _ _ _ h => h
def SlI := Sl 1 RInt
def SlS := Sl 1 RStr
def SlB := Sl 1 RBool
def RRow : ElemR (List Int) := fun D w r cs => ∃ v, cs = [v] ∧ SlI D w v r
theorem RRow.kept : ElemR.Kept RRow := by
  rintro D D' w w' x cs hd hs ⟨v, rfl, h⟩
  exact ⟨v, rfl, Sl.keep h RInt.kept hd hs⟩
def SlII := Sl 1 RRow
section
variable {D D' : Nat → Prop} {w w' : World} {v : Value}
theorem SlI.below {zs : List Int} {B B' : Nat} (h : SlI (Lt B) w v zs) (hb : Below B w w') (hB : B ≤ B') : SlI (Lt B') w' v zs := Sl.below h RInt.kept hb hB
theorem SlS.below {zs : List ByteArray} {B B' : Nat} (h : SlS (Lt B) w v zs) (hb : Below B w w') (hB : B ≤ B') : SlS (Lt B') w' v zs := Sl.below h RStr.kept hb hB
theorem SlB.below {zs : List Bool} {B B' : Nat} (h : SlB (Lt B) w v zs) (hb : Below B w w') (hB : B ≤ B') : SlB (Lt B') w' v zs := Sl.below h RBool.kept hb hB
theorem SlII.below {zs : List (List Int)} {B B' : Nat} (h : SlII (Lt B) w v zs) (hb : Below B w w') (hB : B ≤ B') : SlII (Lt B') w' v zs := Sl.below h RRow.kept hb hB
theorem SlI.open_ {zs : List Int} (h : SlI D w v zs) : ∃ A c, v = .slice A zs.length c ∧ zs.length ≤ c ∧ c ≤ 9223372036854775807 ∧ SlI D w (.slice A zs.length c) zs := Sl.open_ h
theorem SlS.open_ {zs : List ByteArray} (h : SlS D w v zs) : ∃ A c, v = .slice A zs.length c ∧ zs.length ≤ c ∧ c ≤ 9223372036854775807 ∧ SlS D w (.slice A zs.length c) zs := Sl.open_ h
theorem SlB.open_ {zs : List Bool} (h : SlB D w v zs) : ∃ A c, v = .slice A zs.length c ∧ zs.length ≤ c ∧ c ≤ 9223372036854775807 ∧ SlB D w (.slice A zs.length c) zs := Sl.open_ h
theorem SlII.open_ {zs : List (List Int)} (h : SlII D w v zs) : ∃ A c, v = .slice A zs.length c ∧ zs.length ≤ c ∧ c ≤ 9223372036854775807 ∧ SlII D w (.slice A zs.length c) zs := Sl.open_ h
theorem SlI.at_ {zs : List Int} {A : Option Addr} {n c k : Nat} (h : SlI D w (.slice A n c) zs) (hk : k < n) :
    ∃ b o z, A = some ⟨b, o, none⟩ ∧ D b ∧ zs[k]? = some z ∧ Fit z ∧ w.cell? ⟨b, o + k, none⟩ = some (.int .i64 z) := by
  obtain ⟨b, o, x, u, hA, hD, hx, ⟨hu, hf⟩, hc⟩ := Sl.at1 h hk
  injection hu with hu; subst hu
  exact ⟨b, o, x, hA, hD, hx, hf, hc⟩
theorem SlB.at_ {zs : List Bool} {A : Option Addr} {n c k : Nat} (h : SlB D w (.slice A n c) zs) (hk : k < n) :
    ∃ b o z, A = some ⟨b, o, none⟩ ∧ D b ∧ zs[k]? = some z ∧ w.cell? ⟨b, o + k, none⟩ = some (.bool z) := by
  obtain ⟨b, o, x, u, hA, hD, hx, hu, hc⟩ := Sl.at1 h hk
  injection hu with hu; subst hu
  exact ⟨b, o, x, hA, hD, hx, hc⟩
theorem SlS.at_ {zs : List ByteArray} {A : Option Addr} {n c k : Nat} (h : SlS D w (.slice A n c) zs) (hk : k < n) :
    ∃ b o z, A = some ⟨b, o, none⟩ ∧ D b ∧ zs[k]? = some z ∧ z.size ≤ maxLen ∧ w.cell? ⟨b, o + k, none⟩ = some (.string z) := by
  obtain ⟨b, o, x, u, hA, hD, hx, ⟨hu, hf⟩, hc⟩ := Sl.at1 h hk
  injection hu with hu; subst hu
  exact ⟨b, o, x, hA, hD, hx, hf, hc⟩
theorem SlII.at_ {zs : List (List Int)} {A : Option Addr} {n c k : Nat} (h : SlII D w (.slice A n c) zs) (hk : k < n) :
    ∃ b o r u, A = some ⟨b, o, none⟩ ∧ D b ∧ zs[k]? = some r ∧ SlI D w u r ∧ w.cell? ⟨b, o + k, none⟩ = some u := by
  obtain ⟨b, o, x, u, hA, hD, hx, ⟨u', hu, hf⟩, hc⟩ := Sl.at1 h hk
  injection hu with hu; subst hu
  exact ⟨b, o, x, u, hA, hD, hx, hf, hc⟩
end
def Blk (w : World) (g : Nat) (t : TypeId) (cs : Array Value) : Prop := w.heap[g]? = some (.cells cs t (0, 0))
section
variable {w w' : World} {g : Nat} {t : TypeId} {cs : Array Value}
theorem Blk.lt (h : Blk w g t cs) : g < w.heap.size := by
  rcases Nat.lt_or_ge g w.heap.size with hlt | hge
  · exact hlt
  · unfold Blk at h; rw [Array.getElem?_eq_none hge] at h; cases h
theorem Blk.cell (h : Blk w g t cs) (i : Nat) : w.cell? ⟨g, i, none⟩ = cs[i]? := cell_of_row w g i cs t (0, 0) h
theorem Blk.frozen (h : Blk w g t cs) (i : Nat) : w.frozen? ⟨g, i, none⟩ = false := by
  unfold Blk at h
  simp [World.frozen?, h]
theorem Blk.new (w : World) (t : TypeId) (cs : Array Value) : Blk (w.alloc (.cells cs t)) w.heap.size t cs := heap_alloc_new w _
theorem Blk.drew (h : Blk w g t cs) : Blk w.drew g t cs := h
theorem Blk.drewN (h : Blk w g t cs) (n : Nat) : Blk (w.drewN n) g t cs := h
theorem Blk.alloc (h : Blk w g t cs) (o : Obj) : Blk (w.alloc o) g t cs := (Below.heap_alloc w o g h.lt).trans h
theorem Blk.set_ (h : Blk w g t cs) (i : Nat) (u : Value) : Blk (w.setCell ⟨g, i, none⟩ u) g t (cs.setIfInBounds i u) := by
  unfold Blk at h ⊢
  simp [World.setCell, Array.getElem?_modify, h]
theorem Blk.far (h : Blk w g t cs) {p : Addr} (hp : g ≠ p.block) (u : Value) : Blk (w.setCell p u) g t cs := (Below.heap_setCell w p u g hp).trans h
theorem Blk.below {B : Nat} (h : Blk w g t cs) (hb : Below B w w') (hg : g < B) : Blk w' g t cs := (hb.block g hg).trans h
theorem Blk.grown {row : Option Nat} (h : Blk w g t cs) (hb : w.grownBy w' row) (hg : some g ≠ row) : Blk w' g t cs := (hb.block g h.lt hg).trans h
end
theorem below_drewN {B : Nat} {a w : World} (h : Below B a w) (n : Nat) : Below B a (w.drewN n) := ⟨h.os, h.tape, h.output, h.size, h.block⟩
theorem bthen {w b c : World} (h : Below w.heap.size w b) (k : Below b.heap.size b c) : Below w.heap.size w c := h.trans (k.mono h.size)
theorem bbox {w b : World} (h : Below w.heap.size w b) (o : Obj) : Below w.heap.size w (b.alloc o) := h.alloc h.size o
theorem bdrawn {B : Nat} {w b : World} (h : Below B w b) (n : Nat) : Below B w (b.drewN n) := below_drewN h n
theorem bone (w : World) (o : Obj) : Below w.heap.size w (w.alloc o) := (Below.refl _ _).alloc (Nat.le_refl _) o
section
variable {w w' : World} {v : Value}
theorem SlI.now {zs : List Int} (h : SlI (Lt w.heap.size) w v zs) (hb : Below w.heap.size w w') : SlI (Lt w'.heap.size) w' v zs := h.below hb hb.size
theorem SlS.now {zs : List ByteArray} (h : SlS (Lt w.heap.size) w v zs) (hb : Below w.heap.size w w') : SlS (Lt w'.heap.size) w' v zs := h.below hb hb.size
theorem SlB.now {zs : List Bool} (h : SlB (Lt w.heap.size) w v zs) (hb : Below w.heap.size w w') : SlB (Lt w'.heap.size) w' v zs := h.below hb hb.size
theorem SlII.now {zs : List (List Int)} (h : SlII (Lt w.heap.size) w v zs) (hb : Below w.heap.size w w') : SlII (Lt w'.heap.size) w' v zs := h.below hb hb.size
end
theorem Blk.now {w w' : World} {g : Nat} {t : TypeId} {cs : Array Value} (h : Blk w g t cs) (hb : Below w.heap.size w w') : Blk w' g t cs := h.below hb h.lt
section
variable {w : World} {g : Nat} {t : TypeId} {a b c d e f : Value}
theorem Blk.c1 (h : Blk w g t #[a]) : w.cell? ⟨g, 0, none⟩ = some a := h.cell 0
theorem Blk.c2 (h : Blk w g t #[a, b]) : w.cell? ⟨g, 0, none⟩ = some a ∧ w.cell? ⟨g, 1, none⟩ = some b := ⟨h.cell 0, h.cell 1⟩
theorem Blk.c3 (h : Blk w g t #[a, b, c]) : w.cell? ⟨g, 0, none⟩ = some a ∧ w.cell? ⟨g, 1, none⟩ = some b ∧ w.cell? ⟨g, 2, none⟩ = some c := ⟨h.cell 0, h.cell 1, h.cell 2⟩
theorem Blk.c4 (h : Blk w g t #[a, b, c, d]) : w.cell? ⟨g, 0, none⟩ = some a ∧ w.cell? ⟨g, 1, none⟩ = some b ∧ w.cell? ⟨g, 2, none⟩ = some c ∧ w.cell? ⟨g, 3, none⟩ = some d := ⟨h.cell 0, h.cell 1, h.cell 2, h.cell 3⟩
theorem Blk.c5 (h : Blk w g t #[a, b, c, d, e]) : w.cell? ⟨g, 0, none⟩ = some a ∧ w.cell? ⟨g, 1, none⟩ = some b ∧ w.cell? ⟨g, 2, none⟩ = some c ∧ w.cell? ⟨g, 3, none⟩ = some d ∧ w.cell? ⟨g, 4, none⟩ = some e := ⟨h.cell 0, h.cell 1, h.cell 2, h.cell 3, h.cell 4⟩
theorem Blk.c6 (h : Blk w g t #[a, b, c, d, e, f]) : w.cell? ⟨g, 0, none⟩ = some a ∧ w.cell? ⟨g, 1, none⟩ = some b ∧ w.cell? ⟨g, 2, none⟩ = some c ∧ w.cell? ⟨g, 3, none⟩ = some d ∧ w.cell? ⟨g, 4, none⟩ = some e ∧ w.cell? ⟨g, 5, none⟩ = some f := ⟨h.cell 0, h.cell 1, h.cell 2, h.cell 3, h.cell 4, h.cell 5⟩
end
theorem ret_int {k : IntKind} {a b : Int} (h : a = b) : Ending.returned (.int k a) = .returned (.int k b) := by rw [h]
theorem ret_bool {a b : Bool} (h : a = b) : Ending.returned (.bool a) = .returned (.bool b) := by rw [h]
end Go.Proofs.YtoalecalahkblaaGreatDoor

set_option linter.all false
namespace Go.Proofs.YtoalecalahkblaaGreatDoor
open Go.RowKit
theorem grown_of_below {w w' : World} (h : Below w.heap.size w w') (row : Option Nat) : w.grownBy w' row := ⟨h.os, h.tape, h.output, h.size, fun i hi _ => h.block i hi⟩
theorem below_of_grown {w w' : World} {B : Nat} {row : Option Nat} (h : w.grownBy w' row) (hB : B ≤ w.heap.size) (hr : ∀ g, row = some g → B ≤ g) : Below B w w' :=
  ⟨h.os, h.tape, h.output, h.size, fun i hi => h.block i (by omega) (fun e => by have := hr i e.symm; omega)⟩
theorem own_now {w w' : World} {base e size n : Nat} {v : Value} {xs : List Value} (h : w.ownsRow base e size v n xs) (hb : Below w.heap.size w w') : w'.ownsRow base e size v n xs := by
  refine h.kept (grown_of_below hb none) ?_
  cases e : v.ownBlock with
  | none => exact .inl rfl
  | some g => exact .inr (by simp)
theorem own_len {w : World} {base e n : Nat} {v : Value} {xs : List Value} (h : w.ownsRow base e 1 v n xs) : xs.length = n := by simpa using h.1
section
variable {α : Type} {R : ElemR α} {D : Nat → Prop} {w : World} {base t size n : Nat} {v : Value} {cs : List Value} {xs : List α}
theorem Sl.of_own (h : w.ownsRow base t size v n cs) (hn : xs.length = n) (hD : ∀ g, v.ownBlock = some g → D g)
    (hr : ∀ i x, xs[i]? = some x → ∃ es : List Value, es.length = size ∧ (∀ j u, es[j]? = some u → cs[i * size + j]? = some u) ∧ R D w x es) : Sl size R D w v xs := by
  subst hn
  rcases h.2 with ⟨rfl, h0⟩ | ⟨g, cap, cur, rfl, hb, hg, hc, hm, hs, htake⟩
  · have : xs = [] := List.eq_nil_of_length_eq_zero h0
    subst this
    exact Sl.none_
  · refine ⟨some ⟨g, 0, none⟩, cap, rfl, hc, hm, fun i x hx => ?_⟩
    obtain ⟨es, hl, hes, hR⟩ := hr i x hx
    refine ⟨g, 0, es, rfl, hD g rfl, hl, hR, fun j u hu => ?_⟩
    have hj := hes j u hu
    have hlt : i * size + j < xs.length * size := by
      rw [← h.1]
      rcases Nat.lt_or_ge (i * size + j) cs.length with h | h
      · exact h
      · rw [List.getElem?_eq_none h] at hj; cases hj
    have := World.ownsRow.cellAt h (i * size + j) hlt
    rw [Nat.zero_add, this]
    exact hj
theorem own_lt (h : w.ownsRow base t size v n cs) : ∀ g, v.ownBlock = some g → Lt w.heap.size g := fun g hg => (h.lt g hg).2
theorem Sl.of_own1 (h : w.ownsRow base t 1 v n cs) (hn : xs.length = n) (hD : ∀ g, v.ownBlock = some g → D g)
    (hr : ∀ (i : Nat) (x : α), xs[i]? = some x → ∃ u, cs[i]? = some u ∧ R D w x [u]) : Sl 1 R D w v xs :=
  Sl.of_own h hn hD fun i x hx => by
    obtain ⟨u, hu, hR⟩ := hr i x hx
    refine ⟨[u], rfl, fun j y hy => ?_, hR⟩
    match j, hy with
    | 0, hy => injection hy with hy; subst hy; simpa using hu
    | j + 1, hy => simp at hy
end
section
variable {w : World} {base t n : Nat} {v : Value}
theorem SlI.of_own {zs : List Int} (h : w.ownsRow base t 1 v n (zs.map (Value.int .i64))) (hf : ∀ z ∈ zs, Fit z) : SlI (Lt w.heap.size) w v zs :=
  Sl.of_own1 h (by simpa using own_len h) (own_lt h) fun i x hx => ⟨.int .i64 x, by simp [hx], rfl, hf x (List.mem_of_getElem? hx)⟩
theorem SlS.of_own {zs : List ByteArray} (h : w.ownsRow base t 1 v n (zs.map Value.string)) (hf : ∀ z ∈ zs, z.size ≤ maxLen) : SlS (Lt w.heap.size) w v zs :=
  Sl.of_own1 h (by simpa using own_len h) (own_lt h) fun i x hx => ⟨.string x, by simp [hx], rfl, hf x (List.mem_of_getElem? hx)⟩
theorem SlB.of_own {zs : List Bool} (h : w.ownsRow base t 1 v n (zs.map Value.bool)) : SlB (Lt w.heap.size) w v zs :=
  Sl.of_own1 h (by simpa using own_len h) (own_lt h) fun i x hx => ⟨.bool x, by simp [hx], rfl⟩
def OwnI (w : World) (base t g cap : Nat) (zs : List Int) : Prop := w.ownsRow base t 1 (.slice (some ⟨g, 0, none⟩) zs.length cap) zs.length (zs.map (Value.int .i64)) ∧ g < w.heap.size ∧ base ≤ g
theorem OwnI.of {zs : List Int} (h : w.ownsRow base t 1 v n (zs.map (Value.int .i64))) (hn : 0 < zs.length) : ∃ g cap, v = .slice (some ⟨g, 0, none⟩) zs.length cap ∧ zs.length ≤ cap ∧ OwnI w base t g cap zs := by
  have hl : zs.length = n := by simpa using own_len h
  subst hl
  obtain ⟨g, cap, rfl, h1, h2⟩ := h.form hn
  refine ⟨g, cap, rfl, ?_, h, h2, h1⟩
  rcases h.2 with ⟨h', _⟩ | ⟨g', cap', cur, h', _, _, hc, _⟩
  · simp at h'
  · injection h' with _ _ e; omega
end
section
variable {w w' : World} {base t g cap : Nat} {zs : List Int}
theorem OwnI.cell (h : OwnI w base t g cap zs) {k : Nat} {z : Int} (hz : zs[k]? = some z) : w.cell? ⟨g, k, none⟩ = some (.int .i64 z) := by
  have hk : k < zs.length := by
    rcases Nat.lt_or_ge k zs.length with h | h
    · exact h
    · rw [List.getElem?_eq_none h] at hz; cases hz
  rw [h.1.cellAt k (by omega)]; simp [hz]
theorem OwnI.frozen (h : OwnI w base t g cap zs) (k : Nat) : w.frozen? ⟨g, k, none⟩ = false := h.1.frozenAt k
theorem OwnI.set_ (h : OwnI w base t g cap zs) (k : Nat) (z : Int) : OwnI (w.setCell ⟨g, k, none⟩ (.int .i64 z)) base t g cap (zs.set k z) := by
  refine ⟨?_, by simpa using h.2.1, h.2.2⟩
  have := (h.1.stored k (.int .i64 z)).1
  rw [List.length_set, List.map_set]
  exact this
theorem OwnI.now (h : OwnI w base t g cap zs) (hb : Below w.heap.size w w') : OwnI w' base t g cap zs := ⟨own_now h.1 hb, Nat.lt_of_lt_of_le h.2.1 hb.size, h.2.2⟩
theorem OwnI.drew (h : OwnI w base t g cap zs) : OwnI w.drew base t g cap zs := h
theorem OwnI.drewN (h : OwnI w base t g cap zs) (n : Nat) : OwnI (w.drewN n) base t g cap zs := h
theorem OwnI.sl (h : OwnI w base t g cap zs) (hf : ∀ z ∈ zs, Fit z) : SlI (Lt w.heap.size) w (.slice (some ⟨g, 0, none⟩) zs.length cap) zs := SlI.of_own h.1 hf
theorem OwnI.lt (h : OwnI w base t g cap zs) : g < w.heap.size := h.2.1
end
theorem Sl.cells1 {α : Type} {R : ElemR α} {D : Nat → Prop} {w : World} {A : Option Addr} {n c : Nat} {xs : List α} (h : Sl 1 R D w (.slice A n c) xs) (f : α → Value) (hf : ∀ x u, R D w x [u] → u = f x) :
    n = xs.length ∧ (0 < n → ∃ b o, A = some ⟨b, o, none⟩ ∧ D b ∧ ∀ k x, xs[k]? = some x → w.cell? ⟨b, o + k, none⟩ = some (f x)) := by
  refine ⟨?_, fun hn => ?_⟩
  · obtain ⟨A', c', hv, _⟩ := h
    injection hv
  · obtain ⟨b, o, hA, hD, _, hc⟩ := h.row1 hn
    refine ⟨b, o, hA, hD, fun k x hx => ?_⟩
    obtain ⟨u, hR, hu⟩ := hc k x hx
    rw [hu, hf x u hR]
theorem SlI.cells {D : Nat → Prop} {w : World} {A : Option Addr} {n c : Nat} {zs : List Int} (h : SlI D w (.slice A n c) zs) (hn : 0 < n) :
    ∃ b o, A = some ⟨b, o, none⟩ ∧ D b ∧ n = zs.length ∧ ∀ j, j < zs.length → w.cell? ⟨b, o + j, none⟩ = some (.int .i64 (zs.getD j 0)) := by
  obtain ⟨h1, h2⟩ := Sl.cells1 h (Value.int .i64) (fun x u h => by injection h.1)
  obtain ⟨b, o, hA, hD, hc⟩ := h2 hn
  refine ⟨b, o, hA, hD, h1, fun j hj => ?_⟩
  rw [hc j zs[j] (List.getElem?_eq_getElem hj), List.getD_eq_getElem?_getD, List.getElem?_eq_getElem hj]; rfl
theorem SlS.cells {D : Nat → Prop} {w : World} {A : Option Addr} {n c : Nat} {zs : List ByteArray} (h : SlS D w (.slice A n c) zs) (hn : 0 < n) :
    ∃ b o, A = some ⟨b, o, none⟩ ∧ D b ∧ n = zs.length ∧ ∀ j, j < zs.length → w.cell? ⟨b, o + j, none⟩ = some (.string (zs.getD j ByteArray.empty)) := by
  obtain ⟨h1, h2⟩ := Sl.cells1 h Value.string (fun x u h => by injection h.1)
  obtain ⟨b, o, hA, hD, hc⟩ := h2 hn
  refine ⟨b, o, hA, hD, h1, fun j hj => ?_⟩
  rw [hc j zs[j] (List.getElem?_eq_getElem hj), List.getD_eq_getElem?_getD, List.getElem?_eq_getElem hj]; rfl
theorem Sl.ofBlk {α : Type} {R : ElemR α} {w : World} {g t size : Nat} {cs : List Value} {xs : List α} (h : Blk w g t cs.toArray) (hm : xs.length ≤ maxLen)
    (hr : ∀ (i : Nat) (x : α), xs[i]? = some x → ∃ es : List Value, es.length = size ∧ (∀ j u, es[j]? = some u → cs[i * size + j]? = some u) ∧ R (Lt w.heap.size) w x es) :
    Sl size R (Lt w.heap.size) w (.slice (some ⟨g, 0, none⟩) xs.length xs.length) xs := by
  refine ⟨some ⟨g, 0, none⟩, xs.length, rfl, Nat.le_refl _, hm, fun i x hx => ?_⟩
  obtain ⟨es, hl, hes, hR⟩ := hr i x hx
  refine ⟨g, 0, es, rfl, h.lt, hl, hR, fun j u hu => ?_⟩
  rw [Nat.zero_add, h.cell]
  simpa using hes j u hu
theorem SlI.ofBlk {w : World} {g t : Nat} {zs : List Int} (h : Blk w g t (zs.map (Value.int .i64)).toArray) (hm : zs.length ≤ maxLen) (hf : ∀ z ∈ zs, Fit z) : SlI (Lt w.heap.size) w (.slice (some ⟨g, 0, none⟩) zs.length zs.length) zs :=
  Sl.ofBlk h hm fun i x hx => ⟨[.int .i64 x], rfl, fun j u hu => by
    match j, hu with
    | 0, hu => injection hu with hu; subst hu; simp [hx]
    | j + 1, hu => simp at hu, rfl, hf x (List.mem_of_getElem? hx)⟩
theorem SlS.ofBlk {w : World} {g t : Nat} {zs : List ByteArray} (h : Blk w g t (zs.map Value.string).toArray) (hm : zs.length ≤ maxLen) (hf : ∀ z ∈ zs, z.size ≤ maxLen) : SlS (Lt w.heap.size) w (.slice (some ⟨g, 0, none⟩) zs.length zs.length) zs :=
  Sl.ofBlk h hm fun i x hx => ⟨[.string x], rfl, fun j u hu => by
    match j, hu with
    | 0, hu => injection hu with hu; subst hu; simp [hx]
    | j + 1, hu => simp at hu, rfl, hf x (List.mem_of_getElem? hx)⟩
def AppInfo (P : Program) (t e : TypeId) (size : Nat) : Prop :=
  ∃ (i : TypeInfo) (z : Value), P.underlying t = some (.slice e) ∧ P.info? e = some i ∧ i.zero = some z ∧ i.size = size ∧ i.bytes ≤ 4096 ∧ z.cells.size = size ∧ 0 < size
theorem AppInfo.mk' {P : Program} {t e : TypeId} {size bytes : Nat} {z : Value} (h1 : P.underlying t = some (.slice e)) (h2 : (P.info? e).map (fun i => (i.zero, i.size, i.bytes)) = some (some z, size, bytes)) (h3 : bytes ≤ 4096) (h4 : z.cells.size = size) (h5 : 0 < size) : AppInfo P t e size := by
  obtain ⟨i, hi, hz, hs, hb⟩ := info_parts h2
  exact ⟨i, z, h1, hi, hz, hs, by omega, h4, h5⟩
section
variable {P : Program} {t e size base : Nat}
theorem wp_push {o : Oper} {a : Act} {K : Act → World → Prop} {Q : Exit → Act → World → Prop} (hI : AppInfo P t e size) (s x : Operand)
    (ho : o.op = .call { callee := .builtin .append, args := #[s, x], argTypes := #[t, t] }) (w0 : World) (cs : List Value) (hcs : cs.length = size) (h1 : ∀ u ∈ cs, u.oneCell' = true)
    (v : Value) (n : Nat) (xs : List Value) (hs : a.eval s = v) (hown : w0.ownsRow base e size v n xs) (hx : a.eval x = .slice (some ⟨w0.heap.size, 0, none⟩) 1 1) (hn : n < 10000000) (hbase : base ≤ w0.heap.size)
    (h : ∀ v' w', w'.ownsRow base e size v' (n + 1) (xs ++ cs) → w0.grownBy w' v.ownBlock → (v'.ownBlock = v.ownBlock ∨ v'.ownBlock = some (w0.heap.size + 1)) → K (a.put o.dst v') w') : o.wp P a (w0.alloc (.cells cs.toArray e)) K Q := by
  obtain ⟨i, z, ht, hi, hz, hsz, hby, hzs, hp⟩ := hI
  have hcells : ∀ j u, cs[j]? = some u → (w0.alloc (.cells cs.toArray e)).cell? ((⟨w0.heap.size, 0, none⟩ : Addr).add j) = some u := by
    intro j u hu
    have : ((⟨w0.heap.size, 0, none⟩ : Addr).add j) = ⟨w0.heap.size, j, none⟩ := by unfold Addr.add; by_cases hj : j = 0 <;> simp [hj]
    rw [this, (Blk.new w0 e cs.toArray).cell j]
    simpa using hu
  obtain ⟨v', w', hrun, h2, h3, _, h5⟩ := run_append_own_at (P := P) (w0.alloc (.cells cs.toArray e)) base t o.type e i z size i.bytes ht hi hz hsz rfl hzs hp v n xs (hown.alloc _) ⟨w0.heap.size, 0, none⟩ 1 1 cs (by omega) hcells h1 (by unfold maxLen; omega) (by
    have : (n + 1) * i.bytes ≤ 10000000 * 4096 := Nat.mul_le_mul (by omega) hby
    omega) (by simp; omega)
  unfold Oper.wp execOp
  simp only [ho, resolve, invoke, builtin, Sem.run_bind, Sem.run_pure, Result.andThen_ok, List.map_toArray, List.map_cons, List.map_nil, hs, hx, hrun]
  refine h v' w' h2 ⟨h3.os, h3.tape, h3.output, Nat.le_trans (by simp) h3.size, fun k hk hne => (h3.block k (by simp; omega) hne).trans (Below.heap_alloc _ _ _ hk)⟩ ?_
  rcases h5 with h5 | h5
  · exact .inl h5
  · exact .inr (by rw [h5]; simp)
theorem wpList_push {ops : Array Oper} {rest : List Oper} {o : Oper} {a : Act} {Q : Exit → Act → World → Prop} (hI : AppInfo P t e size) (hgd : o.guard = none) (s x : Operand)
    (ho : o.op = .call { callee := .builtin .append, args := #[s, x], argTypes := #[t, t] }) (w0 : World) (cs : List Value) (hcs : cs.length = size) (h1 : ∀ u ∈ cs, u.oneCell' = true)
    (v : Value) (n : Nat) (xs : List Value) (hs : a.eval s = v) (hown : w0.ownsRow base e size v n xs) (hx : a.eval x = .slice (some ⟨w0.heap.size, 0, none⟩) 1 1) (hn : n < 10000000) (hbase : base ≤ w0.heap.size)
    (h : ∀ v' w', w'.ownsRow base e size v' (n + 1) (xs ++ cs) → w0.grownBy w' v.ownBlock → (v'.ownBlock = v.ownBlock ∨ v'.ownBlock = some (w0.heap.size + 1)) → wpList P ops Q rest (a.put o.dst v') w') : wpList P ops Q (o :: rest) a (w0.alloc (.cells cs.toArray e)) :=
  wpList_plain hgd fun _ hK => wp_push hI s x ho w0 cs hcs h1 v n xs hs hown hx hn hbase fun v' w' h2 h3 h4 => hK _ _ (h v' w' h2 h3 h4)
theorem wp_appendAll {α : Type} {R : ElemR α} {D : Nat → Prop} {o : Oper} {a : Act} {K : Act → World → Prop} {Q : Exit → Act → World → Prop} (hI : AppInfo P t e 1) (s x : Operand)
    (ho : o.op = .call { callee := .builtin .append, args := #[s, x], argTypes := #[t, t] }) (w : World)
    (v : Value) (n : Nat) (xs : List Value) (hs : a.eval s = v) (hown : w.ownsRow base e 1 v n xs) (u : Value) (ys : List α) (f : α → Value) (hx : a.eval x = u) (hu : Sl 1 R D w u ys) (hf : ∀ y c, R D w y [c] → c = f y) (h1 : ∀ y, (f y).oneCell' = true) (hn : n + ys.length < 10000000) (hbase : base ≤ w.heap.size)
    (h : ∀ v' w', w'.ownsRow base e 1 v' (n + ys.length) (xs ++ ys.map f) → w.grownBy w' v.ownBlock → (v'.ownBlock = v.ownBlock ∨ v'.ownBlock = some w.heap.size) → K (a.put o.dst v') w') : o.wp P a w K Q := by
  obtain ⟨i, z, ht, hi, hz, hsz, hby, hzs, hp⟩ := hI
  obtain ⟨A, c, rfl, hc1, hc2, hu⟩ := hu.open_
  have key : ∃ v' w', (Builtin.append_ #[t, t] o.type #[v, .slice A ys.length c]).run P w = .ok v' w' ∧ w'.ownsRow base e 1 v' (n + ys.length) (xs ++ ys.map f) ∧ w.grownBy w' v.ownBlock ∧ (v'.ownBlock = v.ownBlock ∨ v'.ownBlock = some w.heap.size) := by
    rcases Nat.eq_zero_or_pos ys.length with h0 | h0
    · have : ys = [] := List.eq_nil_of_length_eq_zero h0
      subst this
      rcases A with _ | ad
      · refine ⟨v, w, ?_, by simpa using hown, World.grownBy.refl w _, .inl rfl⟩
        rcases hown.2 with ⟨rfl, rfl⟩ | ⟨g, cap, cur, rfl, _, _, hnc, _⟩
        · simp [Builtin.append_, run_underlying ht, sizeOf, typeInfo, hi, Builtin.lenOf, Builtin.firstCells]
        · simp [Builtin.append_, run_underlying ht, sizeOf, typeInfo, hi, Builtin.lenOf, Builtin.firstCells, hnc, storeCells]
      · obtain ⟨v', w', hrun, h2, h3, _, h5⟩ := run_append_own_at (P := P) w base t o.type e i z 1 i.bytes ht hi hz hsz rfl hzs hp v n xs hown ad 0 c [] (by simp) (fun j u hj => by simp at hj) (by simp) (by unfold maxLen; omega) (by
          have : (n + 0) * i.bytes ≤ 10000000 * 4096 := Nat.mul_le_mul (by simp at hn; omega) hby
          omega) hbase
        exact ⟨v', w', hrun, h2, h3, h5⟩
    · obtain ⟨_, hcell⟩ := Sl.cells1 hu f hf
      obtain ⟨b, off, rfl, _, hc⟩ := hcell h0
      obtain ⟨v', w', hrun, h2, h3, _, h5⟩ := run_append_own_at (P := P) w base t o.type e i z 1 i.bytes ht hi hz hsz rfl hzs hp v n xs hown ⟨b, off, none⟩ ys.length c (ys.map f) (by simp) (fun j u hj => by
          rw [List.getElem?_map, Option.map_eq_some_iff] at hj
          obtain ⟨y, hy, rfl⟩ := hj
          have : ((⟨b, off, none⟩ : Addr).add j) = ⟨b, off + j, none⟩ := by unfold Addr.add; by_cases hj : j = 0 <;> simp [hj]
          rw [this]; exact hc j y hy) (by intro u hu; obtain ⟨y, _, rfl⟩ := List.mem_map.1 hu; exact h1 y) (by unfold maxLen; omega) (by
          have : (n + ys.length) * i.bytes ≤ 10000000 * 4096 := Nat.mul_le_mul (by omega) hby
          omega) hbase
      exact ⟨v', w', hrun, h2, h3, h5⟩
  obtain ⟨v', w', hrun, h2, h3, h5⟩ := key
  unfold Oper.wp execOp
  simp only [ho, resolve, invoke, builtin, Sem.run_bind, Sem.run_pure, Result.andThen_ok, List.map_toArray, List.map_cons, List.map_nil, hs, hx, hrun]
  exact h v' w' h2 h3 h5
theorem wpList_appendAll {α : Type} {R : ElemR α} {D : Nat → Prop} {ops : Array Oper} {rest : List Oper} {o : Oper} {a : Act} {Q : Exit → Act → World → Prop} (hI : AppInfo P t e 1) (hgd : o.guard = none) (s x : Operand)
    (ho : o.op = .call { callee := .builtin .append, args := #[s, x], argTypes := #[t, t] }) (w : World)
    (v : Value) (n : Nat) (xs : List Value) (hs : a.eval s = v) (hown : w.ownsRow base e 1 v n xs) (u : Value) (ys : List α) (f : α → Value) (hx : a.eval x = u) (hu : Sl 1 R D w u ys) (hf : ∀ y c, R D w y [c] → c = f y) (h1 : ∀ y, (f y).oneCell' = true) (hn : n + ys.length < 10000000) (hbase : base ≤ w.heap.size)
    (h : ∀ v' w', w'.ownsRow base e 1 v' (n + ys.length) (xs ++ ys.map f) → w.grownBy w' v.ownBlock → (v'.ownBlock = v.ownBlock ∨ v'.ownBlock = some w.heap.size) → wpList P ops Q rest (a.put o.dst v') w') : wpList P ops Q (o :: rest) a w :=
  wpList_plain hgd fun _ hK => wp_appendAll hI s x ho w v n xs hs hown u ys f hx hu hf h1 hn hbase fun v' w' h2 h3 h4 => hK _ _ (h v' w' h2 h3 h4)
end
end Go.Proofs.YtoalecalahkblaaGreatDoor

set_option linter.all false
namespace Go.Proofs.YtoalecalahkblaaGreatDoor
open Go.RowKit
def Off (X : Nat → Prop) (w : World) (v : Value) (b : Nat) : Prop := b < w.heap.size ∧ v.ownBlock ≠ some b ∧ ¬ X b
def OwnR {α : Type} (size : Nat) (R : ElemR α) (X : Nat → Prop) (w : World) (base t : Nat) (v : Value) (xs : List α) : Prop :=
  ∃ cs, w.ownsRow base t size v xs.length cs ∧ ∀ (i : Nat) (x : α), xs[i]? = some x → ∃ es : List Value, es.length = size ∧ (∀ j u, es[j]? = some u → cs[i * size + j]? = some u) ∧ R (Off X w v) w x es
section
variable {α : Type} {size : Nat} {R : ElemR α} {X : Nat → Prop} {w w' : World} {base t : Nat} {v v' : Value} {xs : List α}
theorem OwnR.nil : OwnR size R X w base t (.slice none 0 0) ([] : List α) := ⟨[], World.ownsRow_nil _ _ _ _, fun i x hx => by simp at hx⟩
theorem OwnR.lt (h : OwnR size R X w base t v xs) : ∀ g, v.ownBlock = some g → base ≤ g ∧ g < w.heap.size := by
  obtain ⟨cs, h, _⟩ := h
  exact h.lt
theorem OwnR.sl (h : OwnR size R X w base t v xs) (hR : ElemR.Kept R) : Sl size R (Lt w.heap.size) w v xs := by
  obtain ⟨cs, h, he⟩ := h
  refine Sl.of_own h rfl (own_lt h) fun i x hx => ?_
  obtain ⟨es, h1, h2, h3⟩ := he i x hx
  exact ⟨es, h1, h2, hR _ _ _ _ _ _ (fun b hb => hb.1) (Same.refl _ _) h3⟩
theorem OwnR.open_ (h : OwnR size R X w base t v xs) : ∃ A c, v = .slice A xs.length c := by
  obtain ⟨cs, h, _⟩ := h
  rcases h.2 with ⟨rfl, h0⟩ | ⟨g, cap, cur, rfl, _⟩
  · exact ⟨none, 0, by rw [h0]⟩
  · exact ⟨_, _, rfl⟩
theorem OwnR.grown {row : Option Nat} (h : OwnR size R X w base t v xs) (hR : ElemR.Kept R) (hb : w.grownBy w' row) (hr : ∀ g, row = some g → X g ∧ v.ownBlock ≠ some g) : OwnR size R X w' base t v xs := by
  obtain ⟨cs, h, he⟩ := h
  refine ⟨cs, h.kept hb ?_, fun i x hx => ?_⟩
  · cases e : v.ownBlock with
    | none => exact .inl rfl
    | some g => exact .inr (fun h' => (hr g h'.symm).2 e)
  · obtain ⟨es, h1, h2, h3⟩ := he i x hx
    refine ⟨es, h1, h2, hR _ _ _ _ _ _ (fun b hb' => ⟨Nat.lt_of_lt_of_le hb'.1 hb.size, hb'.2⟩) (fun b hb' => hb.block b hb'.1 ?_) h3⟩
    exact fun e => hb'.2.2 (hr b e.symm).1
theorem OwnR.now (h : OwnR size R X w base t v xs) (hR : ElemR.Kept R) (hb : Below w.heap.size w w') : OwnR size R X w' base t v xs :=
  h.grown hR (grown_of_below hb none) (fun _ e => by cases e)
theorem OwnR.drewN (h : OwnR size R X w base t v xs) (hR : ElemR.Kept R) (q : Nat) : OwnR size R X (w.drewN q) base t v xs := h.now hR (bdrawn (Below.refl _ _) q)
theorem OwnR.far (h : OwnR size R X w base t v xs) (hR : ElemR.Kept R) {p : Addr} (hX : X p.block) (hv : v.ownBlock ≠ some p.block) (u : Value) : OwnR size R X (w.setCell p u) base t v xs :=
  h.grown hR (row := some p.block) ⟨rfl, rfl, rfl, by simp, fun i _ hne => Below.heap_setCell w p u i (fun e => hne (by rw [e]))⟩ (fun g e => by injection e with e; subst e; exact ⟨hX, hv⟩)
theorem OwnR.pushed {x : α} {es cs : List Value} (h : w.ownsRow base t size v xs.length cs) (he : ∀ (i : Nat) (x : α), xs[i]? = some x → ∃ es : List Value, es.length = size ∧ (∀ j u, es[j]? = some u → cs[i * size + j]? = some u) ∧ R (Off X w v) w x es)
    (hR : ElemR.Kept R) (hl : es.length = size) (hx : R (Off X w v) w x es)
    (ho : w'.ownsRow base t size v' (xs.length + 1) (cs ++ es)) (hg : w.grownBy w' v.ownBlock) (hat : v'.ownBlock = v.ownBlock ∨ v'.ownBlock = some (w.heap.size + 1)) : OwnR size R X w' base t v' (xs ++ [x]) := by
  have keep : ∀ y cs, R (Off X w v) w y cs → R (Off X w' v') w' y cs := fun y cs hy =>
    hR _ _ _ _ _ _ (fun b hb => ⟨Nat.lt_of_lt_of_le hb.1 hg.size, (by rcases hat with e | e
                                                                      · rw [e]; exact hb.2.1
                                                                      · rw [e]; intro e'; injection e' with e'; have := hb.1; omega), hb.2.2⟩)
      (fun b hb => hg.block b hb.1 (fun e => hb.2.1 e.symm)) hy
  refine ⟨cs ++ es, by simpa using ho, fun i y hy => ?_⟩
  rcases Nat.lt_or_ge i xs.length with hi | hi
  · rw [List.getElem?_append_left hi] at hy
    obtain ⟨es', h1, h2, h3⟩ := he i y hy
    refine ⟨es', h1, fun j u hu => ?_, keep _ _ h3⟩
    have := h2 j u hu
    rw [List.getElem?_append_left]
    · exact this
    · rcases Nat.lt_or_ge (i * size + j) cs.length with h' | h'
      · exact h'
      · rw [List.getElem?_eq_none h'] at this; cases this
  · rw [List.getElem?_append_right hi] at hy
    have hi0 : i - xs.length = 0 := by
      rcases Nat.eq_zero_or_pos (i - xs.length) with h' | h'
      · exact h'
      · rw [List.getElem?_eq_none (by simpa using Nat.succ_le_of_lt h')] at hy; cases hy
    rw [hi0] at hy
    injection hy with hy
    subst hy
    obtain rfl : i = xs.length := by omega
    refine ⟨es, hl, fun j u hu => ?_, keep _ _ hx⟩
    have hc : cs.length = xs.length * size := h.1
    rw [List.getElem?_append_right (by omega), hc, Nat.add_sub_cancel_left]
    exact hu
end
section
variable {P : Program} {t e size base : Nat} {α : Type} {R : ElemR α} {X : Nat → Prop}
theorem wp_pushR {o : Oper} {a : Act} {K : Act → World → Prop} {Q : Exit → Act → World → Prop} (hI : AppInfo P t e size) (hR : ElemR.Kept R) (s x : Operand)
    (ho : o.op = .call { callee := .builtin .append, args := #[s, x], argTypes := #[t, t] }) (w0 : World) (es : List Value) (hes : es.length = size) (h1 : ∀ u ∈ es, u.oneCell' = true)
    (v : Value) (xs : List α) (y : α) (hs : a.eval s = v) (hown : OwnR size R X w0 base e v xs) (hy : R (Off X w0 v) w0 y es) (hx : a.eval x = .slice (some ⟨w0.heap.size, 0, none⟩) 1 1) (hn : xs.length < 10000000) (hbase : base ≤ w0.heap.size)
    (h : ∀ v' w', OwnR size R X w' base e v' (xs ++ [y]) → w0.grownBy w' v.ownBlock → (v'.ownBlock = v.ownBlock ∨ v'.ownBlock = some (w0.heap.size + 1)) → K (a.put o.dst v') w') : o.wp P a (w0.alloc (.cells es.toArray e)) K Q := by
  obtain ⟨cs, h2, h3⟩ := hown
  exact wp_push hI s x ho w0 es hes h1 v xs.length cs hs h2 hx hn hbase fun v' w' a1 a2 a3 => h v' w' (OwnR.pushed h2 h3 hR hes hy a1 a2 a3) a2 a3
theorem wpList_pushR {ops : Array Oper} {rest : List Oper} {o : Oper} {a : Act} {Q : Exit → Act → World → Prop} (hI : AppInfo P t e size) (hR : ElemR.Kept R) (hgd : o.guard = none) (s x : Operand)
    (ho : o.op = .call { callee := .builtin .append, args := #[s, x], argTypes := #[t, t] }) (w0 : World) (es : List Value) (hes : es.length = size) (h1 : ∀ u ∈ es, u.oneCell' = true)
    (v : Value) (xs : List α) (y : α) (hs : a.eval s = v) (hown : OwnR size R X w0 base e v xs) (hy : R (Off X w0 v) w0 y es) (hx : a.eval x = .slice (some ⟨w0.heap.size, 0, none⟩) 1 1) (hn : xs.length < 10000000) (hbase : base ≤ w0.heap.size)
    (h : ∀ v' w', OwnR size R X w' base e v' (xs ++ [y]) → w0.grownBy w' v.ownBlock → (v'.ownBlock = v.ownBlock ∨ v'.ownBlock = some (w0.heap.size + 1)) → wpList P ops Q rest (a.put o.dst v') w') : wpList P ops Q (o :: rest) a (w0.alloc (.cells es.toArray e)) :=
  wpList_plain hgd fun _ hK => wp_pushR hI hR s x ho w0 es hes h1 v xs y hs hown hy hx hn hbase fun v' w' h2 h3 h4 => hK _ _ (h v' w' h2 h3 h4)
end
end Go.Proofs.YtoalecalahkblaaGreatDoor

set_option linter.all false
namespace Go.Proofs.YtoalecalahkblaaGreatDoor
open Go.RowKit
abbrev Bt := List UInt8
def isSep (c : UInt8) : Bool := c == 44 || c == 59 || c == 124 || c == 9
def printB (c : UInt8) : Bool := decide (32 ≤ c) && decide (c ≤ 126)
def quoteB : Bt → Bt
  | [] => []
  | c :: b => if c = 34 then 34 :: 34 :: quoteB b else c :: quoteB b
def special (sep : UInt8) (b : Bt) : Bool := b.any fun c => c == 34 || c == sep
def cellT (sep : UInt8) (b : Bt) : Bt := if special sep b then 34 :: (quoteB b ++ [34]) else b
def cellsT (sep : UInt8) : List Bt → Bt
  | [] => []
  | [b] => cellT sep b
  | b :: r => cellT sep b ++ sep :: cellsT sep r
def rowT (sep : UInt8) (r : List Bt) : Bt := cellsT sep r ++ [10]
def tableT (sep : UInt8) : List (List Bt) → Bt
  | [] => []
  | r :: rs => rowT sep r ++ tableT sep rs
def tableB (rows : List (List Bt)) : Bool := rows.all fun r => !r.isEmpty && r.all fun b => b.all printB
inductive CellR
  | ok (b rest : Bt)
  | bad (rest : Bt) (e : Int)
def endsB (sep : UInt8) : Bt → Bool
  | [] => true
  | c :: _ => c == 10 || c == sep
def quotedR (sep : UInt8) (acc : Bt) : Bt → CellR
  | [] => .bad [] 4
  | c :: r =>
    if printB c = false then .bad (c :: r) 3
    else if c = 34 then
      match r with
      | [] => .ok acc []
      | d :: r' => if d = 34 then quotedR sep (acc ++ [34]) r' else if endsB sep (d :: r') then .ok acc (d :: r') else .bad (d :: r') 3
    else quotedR sep (acc ++ [c]) r
def plainR (sep : UInt8) (acc : Bt) : Bt → CellR
  | [] => .ok acc []
  | c :: r => if c = 10 ∨ c = sep then .ok acc (c :: r) else if printB c = false ∨ c = 34 then .bad (c :: r) 3 else plainR sep (acc ++ [c]) r
def cellR (sep : UInt8) (t : Bt) : CellR :=
  match t with
  | 34 :: r => quotedR sep [] r
  | t => plainR sep [] t
inductive TabR
  | ok (rows : List (List Bt))
  | bad (rest : Bt) (e : Int)
inductive RowR
  | ok (r : List Bt) (rest : Bt)
  | bad (rest : Bt) (e : Int)
def rowR (sep : UInt8) : Nat → List Bt → Bt → RowR
  | 0, acc, t => match cellR sep t with
    | .bad rest e => .bad rest e
    | .ok b [] => .ok (acc ++ [b]) []
    | .ok b (_ :: rest) => .ok (acc ++ [b]) rest
  | n + 1, acc, t => match cellR sep t with
    | .bad rest e => .bad rest e
    | .ok b [] => .ok (acc ++ [b]) []
    | .ok b (c :: rest) => if c = 10 then .ok (acc ++ [b]) rest else rowR sep n (acc ++ [b]) rest
def tabR (sep : UInt8) : Nat → List (List Bt) → Bt → TabR
  | _, acc, [] => .ok acc
  | 0, _, t => .bad t 5
  | n + 1, acc, t => if acc.length = 2001 then .bad t 5 else
    match rowR sep t.length [] t with
    | .bad rest e => .bad rest e
    | .ok r rest => tabR sep n (acc ++ [r]) rest
theorem cellsT_cons {sep : UInt8} (b c : Bt) (r : List Bt) : cellsT sep (b :: c :: r) = cellT sep b ++ sep :: cellsT sep (c :: r) := rfl
end Go.Proofs.YtoalecalahkblaaGreatDoor

set_option linter.all false
namespace Go.Proofs.YtoalecalahkblaaGreatDoor
open Go.RowKit
def writeE (sep : UInt8) (rows : List (List Bt)) : Bt × Int :=
  if isSep sep = false ∨ tableB rows = false then ([], 1)
  else if 2001 < rows.length then ([], 5)
  else if 16384 < (tableT sep rows).length then ([], 5)
  else (tableT sep rows, 0)
theorem tableT_append {sep : UInt8} : ∀ a b : List (List Bt), tableT sep (a ++ b) = tableT sep a ++ tableT sep b
  | [], _ => rfl
  | r :: a, b => by
    show rowT sep r ++ tableT sep (a ++ b) = (rowT sep r ++ tableT sep a) ++ tableT sep b
    rw [tableT_append a b, List.append_assoc]
theorem tableT_take {sep : UInt8} (rows : List (List Bt)) (i : Nat) : (tableT sep (rows.take i)).length ≤ (tableT sep rows).length := by
  have h := tableT_append (sep := sep) (rows.take i) (rows.drop i)
  rw [List.take_append_drop] at h
  rw [h, List.length_append]; omega
def tailT (sep : UInt8) (first : Bool) : List Bt → Bt
  | [] => []
  | b :: r => (if first then [] else [sep]) ++ cellT sep b ++ tailT sep false r
theorem tailT_false {sep : UInt8} : ∀ (b : Bt) (r : List Bt), tailT sep false (b :: r) = sep :: cellsT sep (b :: r)
  | b, [] => by simp [tailT, cellsT]
  | b, c :: r => by
    have ih := tailT_false (sep := sep) c r
    show [sep] ++ cellT sep b ++ tailT sep false (c :: r) = _
    rw [ih, cellsT_cons]; simp
theorem tailT_true {sep : UInt8} : ∀ r : List Bt, tailT sep true r = cellsT sep r
  | [] => rfl
  | [b] => by simp [tailT, cellsT]
  | b :: c :: r => by
    show [] ++ cellT sep b ++ tailT sep false (c :: r) = _
    rw [tailT_false, cellsT_cons]; simp
def refCellsW (sep : UInt8) : Bool → Bt → List Bt → Option Bt
  | _, s, [] => some s
  | first, s, b :: r =>
    let t := (if first then s else s ++ [sep]) ++ cellT sep b
    if 16384 < t.length then none else refCellsW sep false t r
def refRowsW (sep : UInt8) : Bt → List (List Bt) → Option Bt
  | s, [] => some s
  | s, r :: rows => match refCellsW sep true s r with
    | none => none
    | some t => refRowsW sep (t ++ [10]) rows
end Go.Proofs.YtoalecalahkblaaGreatDoor

set_option linter.all false
namespace Go.Proofs.YtoalecalahkblaaGreatDoor
open Go.RowKit
def advP (p : Int × Int) (c : UInt8) : Int × Int := if c = 10 then (p.1 + 1, 1) else (p.1, p.2 + 1)
def placeOf (t : Bt) : Int × Int := t.foldl advP (1, 1)
theorem placeOf_snoc (t : Bt) (c : UInt8) : placeOf (t ++ [c]) = advP (placeOf t) c := by
  unfold placeOf; rw [List.foldl_append]; rfl
theorem placeOf_bound : ∀ t : Bt, 1 ≤ (placeOf t).1 ∧ (placeOf t).1 ≤ t.length + 1 ∧ 1 ≤ (placeOf t).2 ∧ (placeOf t).2 ≤ t.length + 1 := by
  intro t
  have key : ∀ (n : Nat) (t : Bt), t.length = n → 1 ≤ (placeOf t).1 ∧ (placeOf t).1 ≤ t.length + 1 ∧ 1 ≤ (placeOf t).2 ∧ (placeOf t).2 ≤ t.length + 1 := by
    intro n
    induction n with
    | zero =>
      intro t h
      have : t = [] := List.length_eq_zero_iff.1 h
      subst this
      refine ⟨?_, ?_, ?_, ?_⟩ <;> simp [placeOf]
    | succ n ih =>
      intro t h
      have hne : t ≠ [] := by rintro rfl; simp at h
      have e : t = t.dropLast ++ [t.getLast hne] := (List.dropLast_concat_getLast hne).symm
      have hl : t.dropLast.length = n := by rw [List.length_dropLast, h]; rfl
      obtain ⟨i1, i2, i3, i4⟩ := ih _ hl
      have hp : placeOf t = advP (placeOf t.dropLast) (t.getLast hne) := by rw [← placeOf_snoc, ← e]
      rw [hp]
      unfold advP
      rw [hl] at i2 i4
      by_cases hc : t.getLast hne = 10
      · rw [if_pos hc]; refine ⟨?_, ?_, ?_, ?_⟩ <;> simp only <;> omega
      · rw [if_neg hc]; refine ⟨?_, ?_, ?_, ?_⟩ <;> simp only <;> omega
  exact key _ t rfl
def plAt (s : Bt) (i : Nat) : Int × Int := placeOf (s.take i)
theorem plAt_step {s : Bt} {i : Nat} (h : i < s.length) : plAt s (i + 1) = advP (plAt s i) s[i] := by
  unfold plAt
  rw [← placeOf_snoc, List.take_succ_eq_append_getElem h]
theorem plAt_bound (s : Bt) (i : Nat) : 1 ≤ (plAt s i).1 ∧ (plAt s i).1 ≤ s.length + 1 ∧ 1 ≤ (plAt s i).2 ∧ (plAt s i).2 ≤ s.length + 1 := by
  obtain ⟨a, b, c, d⟩ := placeOf_bound (s.take i)
  have : (s.take i).length ≤ s.length := by rw [List.length_take]; omega
  unfold plAt
  omega
def tabE (s : Bt) : TabR → List (List Bt) × (Int × Int) × Int
  | .ok rows => (rows, (0, 0), 0)
  | .bad rest e => ([], plAt s (s.length - rest.length), e)
def cellsE (sep : UInt8) (s : Bt) : List (List Bt) × (Int × Int) × Int :=
  if isSep sep = false then ([], (0, 0), 1)
  else if 16384 < s.length then ([], (0, 0), 5)
  else tabE s (tabR sep s.length [] s)
end Go.Proofs.YtoalecalahkblaaGreatDoor

set_option linter.all false
namespace Go.Proofs.YtoalecalahkblaaGreatDoor
open Go.RowKit
def bsOf (l : List UInt8) : ByteArray := ⟨l.toArray⟩
theorem bs_size (l : List UInt8) : (bsOf l).size = l.length := by unfold bsOf ByteArray.size; simp
theorem bs_of (s : ByteArray) : bsOf s.data.toList = s := by unfold bsOf; rfl
def SlP (D : Nat → Prop) (w : World) (v : Value) (ls : List Bt) : Prop := SlS D w v (ls.map bsOf)
theorem SlP.keep {D D' : Nat → Prop} {w w' : World} {v : Value} {ls : List Bt} (h : SlP D w v ls) (hd : ∀ b, D b → D' b) (hs : Same D w w') : SlP D' w' v ls := Sl.keep h RStr.kept hd hs
theorem SlP.now {w w' : World} {v : Value} {ls : List Bt} (h : SlP (Lt w.heap.size) w v ls) (hb : Below w.heap.size w w') : SlP (Lt w'.heap.size) w' v ls := SlS.below h hb hb.size
theorem SlP.open_ {D : Nat → Prop} {w : World} {v : Value} {ls : List Bt} (h : SlP D w v ls) : ∃ A c, v = .slice A ls.length c ∧ ls.length ≤ c ∧ c ≤ 9223372036854775807 ∧ SlP D w (.slice A ls.length c) ls := by
  have := SlS.open_ h
  rw [List.length_map] at this
  exact this
theorem SlP.at_ {D : Nat → Prop} {w : World} {ls : List Bt} {A : Option Addr} {n c k : Nat} (h : SlP D w (.slice A n c) ls) (hk : k < n) :
    ∃ b o l, A = some ⟨b, o, none⟩ ∧ D b ∧ ls[k]? = some l ∧ l.length ≤ maxLen ∧ w.cell? ⟨b, o + k, none⟩ = some (.string (bsOf l)) := by
  obtain ⟨b, o, s, hA, hD, hx, hm, hc⟩ := SlS.at_ h hk
  rw [List.getElem?_map] at hx
  cases hl : ls[k]? with
  | none => rw [hl] at hx; cases hx
  | some l =>
    rw [hl] at hx
    injection hx with hx
    subst hx
    exact ⟨b, o, l, hA, hD, rfl, by rw [bs_size] at hm; exact hm, hc⟩
def RStrs : ElemR (List Bt) := fun D w r cs => ∃ v, cs = [v] ∧ SlP D w v r
theorem RStrs.kept : ElemR.Kept RStrs := by
  rintro D D' w w' x cs hd hs ⟨v, rfl, h⟩
  exact ⟨v, rfl, h.keep hd hs⟩
def SlSS := Sl 1 RStrs
theorem SlSS.at_ {D : Nat → Prop} {w : World} {rs : List (List Bt)} {A : Option Addr} {n c k : Nat} (h : SlSS D w (.slice A n c) rs) (hk : k < n) :
    ∃ b o r u, A = some ⟨b, o, none⟩ ∧ D b ∧ rs[k]? = some r ∧ SlP D w u r ∧ w.cell? ⟨b, o + k, none⟩ = some u := by
  obtain ⟨b, o, x, u, hA, hD, hx, ⟨u', hu, hf⟩, hc⟩ := Sl.at1 h hk
  injection hu with hu; subst hu
  exact ⟨b, o, x, u, hA, hD, hx, hf, hc⟩
theorem SlSS.now {w w' : World} {v : Value} {rs : List (List Bt)} (h : SlSS (Lt w.heap.size) w v rs) (hb : Below w.heap.size w w') : SlSS (Lt w'.heap.size) w' v rs := Sl.below h RStrs.kept hb hb.size
theorem SlSS.open_ {D : Nat → Prop} {w : World} {v : Value} {rs : List (List Bt)} (h : SlSS D w v rs) : ∃ A c, v = .slice A rs.length c ∧ rs.length ≤ c ∧ c ≤ 9223372036854775807 ∧ SlSS D w (.slice A rs.length c) rs := Sl.open_ h
theorem sepI (c : UInt8) : isSep c = (decide ((c.toNat : Int) = 44) || decide ((c.toNat : Int) = 59) || decide ((c.toNat : Int) = 124) || decide ((c.toNat : Int) = 9)) := by
  have h : ∀ k : UInt8, (c == k) = decide ((c.toNat : Int) = (k.toNat : Int)) := fun k => by
    by_cases e : c = k
    · rw [e, decide_eq_true rfl]; exact beq_self_eq_true k
    · have : c.toNat ≠ k.toNat := fun h => e (UInt8.toNat_inj.1 h)
      rw [decide_eq_false (by omega)]; exact beq_false_of_ne e
  unfold isSep
  rw [h 44, h 59, h 124, h 9]; rfl
theorem printI (c : UInt8) : printB c = (decide (32 ≤ (c.toNat : Int)) && decide ((c.toNat : Int) ≤ 126)) := by
  unfold printB
  have h1 : decide ((32 : UInt8) ≤ c) = decide (32 ≤ (c.toNat : Int)) := decide_eq_decide.2 (by rw [UInt8.le_iff_toNat_le]; show 32 ≤ c.toNat ↔ _; omega)
  have h2 : decide (c ≤ (126 : UInt8)) = decide ((c.toNat : Int) ≤ 126) := decide_eq_decide.2 (by rw [UInt8.le_iff_toNat_le]; show c.toNat ≤ 126 ↔ _; omega)
  rw [h1, h2]
theorem u8_ne {c k : UInt8} (h : c ≠ k) : ¬ (c.toNat : Int) = (k.toNat : Int) := fun e => h (UInt8.toNat_inj.1 (by omega))
theorem beqI (c k : UInt8) (n : Int) (hn : (k.toNat : Int) = n) : ((c.toNat : Int) == n) = (c == k) := by
  by_cases e : c = k
  · have h1 : (c == k) = true := by rw [e]; exact beq_self_eq_true k
    rw [h1, ← hn, e]; exact beq_self_eq_true _
  · have h1 : (c == k) = false := beq_false_of_ne e
    rw [h1, ← hn]
    exact beq_false_of_ne (u8_ne e)
end Go.Proofs.YtoalecalahkblaaGreatDoor

set_option linter.all false
namespace Go.Proofs.YtoalecalahkblaaGreatDoor
open Go.RowKit
def firstF {α : Type} (p : α → Bool) (xs : List α) : Int := match xs.findIdx? p with
  | some i => (i : Int)
  | none => -1
theorem firstF_hit {α : Type} {p : α → Bool} {xs : List α} {j : Nat} {x : α} (hx : xs[j]? = some x) (hp : p x = true) (hb : ∀ (q : Nat) t, q < j → xs[q]? = some t → p t = false) : firstF p xs = (j : Int) := by
  obtain ⟨hj, e⟩ := List.getElem?_eq_some_iff.1 hx
  have : xs.findIdx? p = some j := List.findIdx?_eq_some_iff_getElem.2 ⟨hj, by rw [e]; exact hp, fun q hq => by
    have := hb q xs[q] hq (List.getElem?_eq_getElem (by omega))
    rw [this]; decide⟩
  unfold firstF; rw [this]
theorem firstF_miss {α : Type} {p : α → Bool} {xs : List α} (hb : ∀ (q : Nat) y, q < xs.length → xs[q]? = some y → p y = false) : firstF p xs = -1 := by
  have : xs.findIdx? p = none := List.findIdx?_eq_none_iff.2 fun x hx => by
    obtain ⟨q, hq, rfl⟩ := List.mem_iff_getElem.1 hx
    exact hb q _ hq (List.getElem?_eq_getElem hq)
  unfold firstF; rw [this]
theorem firstF_any {α : Type} (p : α → Bool) (xs : List α) : decide (0 ≤ firstF p xs) = xs.any p := by
  unfold firstF
  cases h : xs.findIdx? p with
  | none =>
    have := List.findIdx?_eq_none_iff.1 h
    rw [List.any_eq_false.2 fun x hx => by rw [this x hx]; decide]
    rfl
  | some i =>
    obtain ⟨hi, hp, _⟩ := List.findIdx?_eq_some_iff_getElem.1 h
    rw [List.any_eq_true.2 ⟨_, List.getElem_mem hi, hp⟩]
    exact decide_eq_true (by simp only; omega)
def AsksF {α : Type} (k : FuncId) (cb : Array Value) (R : ElemR α) (w : World) (ts : List α) (p : α → Bool) : Prop := ∀ (x : α) (u : Value) (W : World), x ∈ ts → R (Lt w.heap.size) w x [u] → Below w.heap.size w W → Calls Tryz.prog k (#[u] ++ cb) W fun e w' => e = .returned (.bool (p x)) ∧ Below W.heap.size W w'
def RByte : ElemR UInt8 := fun _ _ c cs => cs = [.int .u8 (c.toNat : Int)]
theorem RByte.kept : ElemR.Kept RByte := fun _ _ _ _ _ _ _ _ h => h
set_option maxHeartbeats 1000000 in
theorem idxFS (k : FuncId) (cb : Array Value) (eg : ∀ args w, (callFunc k args).run Tryz.prog w = .ok (.enter k args) w) (tv : Value) (ts : List (ByteArray)) (p : ByteArray → Bool) (w : World) (ht : Sl 1 RStr (Lt w.heap.size) w tv ts) (hf : AsksF k cb RStr w ts p) :
    Calls Tryz.prog 73 #[tv, .func (.func k) #[] cb] w fun e w' => e = .returned (.int .i64 (firstF p ts)) ∧ Below w.heap.size w w' := by
  obtain ⟨A, c, rfl, h1, h2, ht⟩ := ht.open_
  have HF := Lib.hid hf
  have HT := Lib.hid ht
  clear hf ht
  go_enter Tryz.func73, Tryz.ntmps73
  go_wp2_with fail
  go_loopw [8] (fun i wr => ∃ j : Nat, j ≤ ts.length ∧ i = .int .i64 j ∧ Hid (∀ (q : Nat) t, q < j → ts[q]? = some t → p t = false) ∧ Hid (Below w.heap.size w wr)) (fun i _ => ts.length - (intOf i).toNat)
  case atStart => exact ⟨0, Nat.zero_le _, rfl, Lib.hid (fun q _ h => absurd h (by omega)), Lib.hid (Below.refl _ _)⟩
  case round =>
    obtain ⟨j, hj, rfl, HP, HB⟩ := hrel
    by_cases hlt : j < ts.length
    · obtain ⟨b, o, t, u, rfl, hD, hx, hr, hc⟩ := HT.out.at1 hlt
      have c0 := (HB.out.cell (p := ⟨b, o + j, none⟩) hD).trans hc
      have hcall := HF.out t u wr (List.mem_of_getElem? hx) hr HB.out
      have HX := Lib.hid hx
      clear hx hr hc
      generalize hq : p t = q' at *
      have HQ := Lib.hid hq
      have HC := Lib.hid hcall
      clear hcall hq
      cases q'
      · go_wp2_with (go_at_fn k; (with_reducible refine HC.out.mono ?_); rintro e w' ⟨rfl, hb'⟩; have HB' := Lib.hid (bthen HB.out hb'); clear hb')
        go_roundw
        case rel =>
          refine ⟨j + 1, by omega, by go_num, Lib.hid (fun q y hq hy => ?_), HB'⟩
          by_cases e : q = j
          · subst e; rw [HX.out] at hy; injection hy with hy; subst hy; exact HQ.out
          · exact HP.out q y (by omega) hy
        case measure => simp [intOf]; omega
      · go_wp2_with (go_at_fn k; (with_reducible refine HC.out.mono ?_); rintro e w' ⟨rfl, hb'⟩; have HB' := Lib.hid (bthen HB.out hb'); clear hb')
        go_ret
        exact ⟨ret_int (firstF_hit HX.out HQ.out HP.out).symm, HB'.out⟩
    · go_wp2_with fail
      go_ret
      exact ⟨ret_int (firstF_miss (fun q y hq hy => HP.out q y (by omega) hy)).symm, HB.out⟩
theorem contFS (k : FuncId) (cb : Array Value) (eg : ∀ args w, (callFunc k args).run Tryz.prog w = .ok (.enter k args) w) (tv : Value) (ts : List (ByteArray)) (p : ByteArray → Bool) (w : World) (ht : Sl 1 RStr (Lt w.heap.size) w tv ts) (hf : AsksF k cb RStr w ts p) :
    Calls Tryz.prog 28 #[tv, .func (.func k) #[] cb] w fun e w' => e = .returned (.bool (ts.any p)) ∧ Below w.heap.size w w' := by
  have HC := Lib.hid (idxFS k cb eg tv ts p w ht hf)
  have HZ := Lib.hid (firstF_any p ts)
  generalize firstF p ts = z at *
  obtain ⟨A, c, rfl, h1, h2, _⟩ := ht.open_
  clear hf ht
  go_enter Tryz.func28, Tryz.ntmps28
  go_wp2_with fail
  (with_reducible refine HC.out.mono ?_)
  rintro e w' ⟨rfl, hb'⟩
  go_wp2_with fail
  go_ret
  exact ⟨by rw [← HZ.out]; rfl, hb'⟩
set_option maxHeartbeats 1000000 in
theorem idxFR (k : FuncId) (cb : Array Value) (eg : ∀ args w, (callFunc k args).run Tryz.prog w = .ok (.enter k args) w) (tv : Value) (ts : List (List Bt)) (p : List Bt → Bool) (w : World) (ht : Sl 1 RStrs (Lt w.heap.size) w tv ts) (hf : AsksF k cb RStrs w ts p) :
    Calls Tryz.prog 72 #[tv, .func (.func k) #[] cb] w fun e w' => e = .returned (.int .i64 (firstF p ts)) ∧ Below w.heap.size w w' := by
  obtain ⟨A, c, rfl, h1, h2, ht⟩ := ht.open_
  have HF := Lib.hid hf
  have HT := Lib.hid ht
  clear hf ht
  go_enter Tryz.func72, Tryz.ntmps72
  go_wp2_with fail
  go_loopw [8] (fun i wr => ∃ j : Nat, j ≤ ts.length ∧ i = .int .i64 j ∧ Hid (∀ (q : Nat) t, q < j → ts[q]? = some t → p t = false) ∧ Hid (Below w.heap.size w wr)) (fun i _ => ts.length - (intOf i).toNat)
  case atStart => exact ⟨0, Nat.zero_le _, rfl, Lib.hid (fun q _ h => absurd h (by omega)), Lib.hid (Below.refl _ _)⟩
  case round =>
    obtain ⟨j, hj, rfl, HP, HB⟩ := hrel
    by_cases hlt : j < ts.length
    · obtain ⟨b, o, t, u, rfl, hD, hx, hr, hc⟩ := HT.out.at1 hlt
      have c0 := (HB.out.cell (p := ⟨b, o + j, none⟩) hD).trans hc
      have hcall := HF.out t u wr (List.mem_of_getElem? hx) hr HB.out
      have HX := Lib.hid hx
      clear hx hr hc
      generalize hq : p t = q' at *
      have HQ := Lib.hid hq
      have HC := Lib.hid hcall
      clear hcall hq
      cases q'
      · go_wp2_with (go_at_fn k; (with_reducible refine HC.out.mono ?_); rintro e w' ⟨rfl, hb'⟩; have HB' := Lib.hid (bthen HB.out hb'); clear hb')
        go_roundw
        case rel =>
          refine ⟨j + 1, by omega, by go_num, Lib.hid (fun q y hq hy => ?_), HB'⟩
          by_cases e : q = j
          · subst e; rw [HX.out] at hy; injection hy with hy; subst hy; exact HQ.out
          · exact HP.out q y (by omega) hy
        case measure => simp [intOf]; omega
      · go_wp2_with (go_at_fn k; (with_reducible refine HC.out.mono ?_); rintro e w' ⟨rfl, hb'⟩; have HB' := Lib.hid (bthen HB.out hb'); clear hb')
        go_ret
        exact ⟨ret_int (firstF_hit HX.out HQ.out HP.out).symm, HB'.out⟩
    · go_wp2_with fail
      go_ret
      exact ⟨ret_int (firstF_miss (fun q y hq hy => HP.out q y (by omega) hy)).symm, HB.out⟩
theorem contFR (k : FuncId) (cb : Array Value) (eg : ∀ args w, (callFunc k args).run Tryz.prog w = .ok (.enter k args) w) (tv : Value) (ts : List (List Bt)) (p : List Bt → Bool) (w : World) (ht : Sl 1 RStrs (Lt w.heap.size) w tv ts) (hf : AsksF k cb RStrs w ts p) :
    Calls Tryz.prog 24 #[tv, .func (.func k) #[] cb] w fun e w' => e = .returned (.bool (ts.any p)) ∧ Below w.heap.size w w' := by
  have HC := Lib.hid (idxFR k cb eg tv ts p w ht hf)
  have HZ := Lib.hid (firstF_any p ts)
  generalize firstF p ts = z at *
  obtain ⟨A, c, rfl, h1, h2, _⟩ := ht.open_
  clear hf ht
  go_enter Tryz.func24, Tryz.ntmps24
  go_wp2_with fail
  (with_reducible refine HC.out.mono ?_)
  rintro e w' ⟨rfl, hb'⟩
  go_wp2_with fail
  go_ret
  exact ⟨by rw [← HZ.out]; rfl, hb'⟩
set_option maxHeartbeats 1000000 in
theorem idxFI (k : FuncId) (cb : Array Value) (eg : ∀ args w, (callFunc k args).run Tryz.prog w = .ok (.enter k args) w) (tv : Value) (ts : List (Int)) (p : Int → Bool) (w : World) (ht : Sl 1 RInt (Lt w.heap.size) w tv ts) (hf : AsksF k cb RInt w ts p) :
    Calls Tryz.prog 114 #[tv, .func (.func k) #[] cb] w fun e w' => e = .returned (.int .i64 (firstF p ts)) ∧ Below w.heap.size w w' := by
  obtain ⟨A, c, rfl, h1, h2, ht⟩ := ht.open_
  have HF := Lib.hid hf
  have HT := Lib.hid ht
  clear hf ht
  go_enter Tryz.func114, Tryz.ntmps114
  go_wp2_with fail
  go_loopw [8] (fun i wr => ∃ j : Nat, j ≤ ts.length ∧ i = .int .i64 j ∧ Hid (∀ (q : Nat) t, q < j → ts[q]? = some t → p t = false) ∧ Hid (Below w.heap.size w wr)) (fun i _ => ts.length - (intOf i).toNat)
  case atStart => exact ⟨0, Nat.zero_le _, rfl, Lib.hid (fun q _ h => absurd h (by omega)), Lib.hid (Below.refl _ _)⟩
  case round =>
    obtain ⟨j, hj, rfl, HP, HB⟩ := hrel
    by_cases hlt : j < ts.length
    · obtain ⟨b, o, t, u, rfl, hD, hx, hr, hc⟩ := HT.out.at1 hlt
      have c0 := (HB.out.cell (p := ⟨b, o + j, none⟩) hD).trans hc
      have hcall := HF.out t u wr (List.mem_of_getElem? hx) hr HB.out
      have HX := Lib.hid hx
      clear hx hr hc
      generalize hq : p t = q' at *
      have HQ := Lib.hid hq
      have HC := Lib.hid hcall
      clear hcall hq
      cases q'
      · go_wp2_with (go_at_fn k; (with_reducible refine HC.out.mono ?_); rintro e w' ⟨rfl, hb'⟩; have HB' := Lib.hid (bthen HB.out hb'); clear hb')
        go_roundw
        case rel =>
          refine ⟨j + 1, by omega, by go_num, Lib.hid (fun q y hq hy => ?_), HB'⟩
          by_cases e : q = j
          · subst e; rw [HX.out] at hy; injection hy with hy; subst hy; exact HQ.out
          · exact HP.out q y (by omega) hy
        case measure => simp [intOf]; omega
      · go_wp2_with (go_at_fn k; (with_reducible refine HC.out.mono ?_); rintro e w' ⟨rfl, hb'⟩; have HB' := Lib.hid (bthen HB.out hb'); clear hb')
        go_ret
        exact ⟨ret_int (firstF_hit HX.out HQ.out HP.out).symm, HB'.out⟩
    · go_wp2_with fail
      go_ret
      exact ⟨ret_int (firstF_miss (fun q y hq hy => HP.out q y (by omega) hy)).symm, HB.out⟩
theorem contFI (k : FuncId) (cb : Array Value) (eg : ∀ args w, (callFunc k args).run Tryz.prog w = .ok (.enter k args) w) (tv : Value) (ts : List (Int)) (p : Int → Bool) (w : World) (ht : Sl 1 RInt (Lt w.heap.size) w tv ts) (hf : AsksF k cb RInt w ts p) :
    Calls Tryz.prog 62 #[tv, .func (.func k) #[] cb] w fun e w' => e = .returned (.bool (ts.any p)) ∧ Below w.heap.size w w' := by
  have HC := Lib.hid (idxFI k cb eg tv ts p w ht hf)
  have HZ := Lib.hid (firstF_any p ts)
  generalize firstF p ts = z at *
  obtain ⟨A, c, rfl, h1, h2, _⟩ := ht.open_
  clear hf ht
  go_enter Tryz.func62, Tryz.ntmps62
  go_wp2_with fail
  (with_reducible refine HC.out.mono ?_)
  rintro e w' ⟨rfl, hb'⟩
  go_wp2_with fail
  go_ret
  exact ⟨by rw [← HZ.out]; rfl, hb'⟩
end Go.Proofs.YtoalecalahkblaaGreatDoor
