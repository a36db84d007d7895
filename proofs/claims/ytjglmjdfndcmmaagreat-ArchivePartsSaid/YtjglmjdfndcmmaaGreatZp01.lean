/- Texts of this seat, merged. -/
import Derived.WalkKit
import Derived.WalkSpells
import Derived.WalkLawsBesides
import Derived.Lib.Hide
import Derived.Deep.Draws
import Derived.Deep.OwnRows
import Derived.Maps.AppendAt
import Derived.Deep.AppendLies
import Derived.RegionTactic
import Derived.OwnWalk
import Derived.Laws.IdiomStrings
import Derived.Laws.BytesString
import Derived.Test.YtjglmjdfndcmmaaGreatProg
import Derived.Lib.AppendStr
import Derived.Lib.OwnKind
import Derived.Lib.OthersKept
import Derived.Lib.UnsafeStr
import Derived.Lib.SlicesCompact
import Derived.Outline
import Derived.Deep.Light
set_option linter.all false
set_option linter.all false
namespace Go.Proofs.YtjglmjdfndcmmaaGreat
open Go.RowKit
def Fit (z : Int) : Prop := -9223372036854775808 ≤ z ∧ z ≤ 9223372036854775807
theorem add_add' (a : Addr) (i j : Nat) : (a.add i).add j = a.add (i + j) := by
  unfold Addr.add
  by_cases hi : i = 0 <;> by_cases hj : j = 0 <;> simp [hi, hj, Nat.add_assoc]
def Same (D : Nat → Prop) (w w' : World) : Prop := ∀ b, D b → w'.heap[b]? = w.heap[b]?
def Lt (B b : Nat) : Prop := b < B
theorem Same.refl (D : Nat → Prop) (w : World) : Same D w w := fun _ _ => rfl
theorem Same.trans {D : Nat → Prop} {a b c : World} (h : Same D a b) (k : Same D b c) : Same D a c := fun x hx => (k x hx).trans (h x hx)
theorem Same.mono {D D' : Nat → Prop} {a b : World} (h : Same D a b) (hd : ∀ x, D' x → D x) : Same D' a b := fun x hx => h x (hd x hx)
theorem Same.of_below {B : Nat} {w w' : World} (h : Below B w w') : Same (Lt B) w w' := fun b hb => h.block b hb
theorem Same.cell {D : Nat → Prop} {w w' : World} (h : Same D w w') {p : Addr} (hp : D p.block) : w'.cell? p = w.cell? p :=
  World.cell?_of_block (h p.block hp)
abbrev ElemR (α : Type) := (Nat → Prop) → World → α → List Value → Prop
def ElemR.Kept {α : Type} (R : ElemR α) : Prop := ∀ (D D' : Nat → Prop) (w w' : World) (x : α) (cs : List Value), (∀ b, D b → D' b) → Same D w w' → R D w x cs → R D' w' x cs
def Sl {α : Type} (size : Nat) (R : ElemR α) (D : Nat → Prop) (w : World) (v : Value) (xs : List α) : Prop :=
  ∃ (A : Option Addr) (c : Nat), v = .slice A xs.length c ∧ xs.length ≤ c ∧ c ≤ maxLen ∧
    ∀ i x, xs[i]? = some x → ∃ b o cs, A = some ⟨b, o, none⟩ ∧ D b ∧ cs.length = size ∧ R D w x cs ∧ ∀ j u, cs[j]? = some u → w.cell? ⟨b, o + i * size + j, none⟩ = some u
section
variable {α : Type} {size : Nat} {R : ElemR α} {D D' : Nat → Prop} {w w' : World} {v : Value} {xs : List α}
theorem Sl.keep (h : Sl size R D w v xs) (hR : ElemR.Kept R) (hd : ∀ b, D b → D' b) (hs : Same D w w') : Sl size R D' w' v xs := by
  obtain ⟨A, c, hv, h1, h2, h3⟩ := h
  refine ⟨A, c, hv, h1, h2, fun i x hx => ?_⟩
  obtain ⟨b, o, cs, hA, hD, hl, hr, hc⟩ := h3 i x hx
  exact ⟨b, o, cs, hA, hd _ hD, hl, hR _ _ _ _ _ _ hd hs hr, fun j u hu => (hs.cell hD).trans (hc j u hu)⟩
theorem Sl.below {B B' : Nat} (h : Sl size R (Lt B) w v xs) (hR : ElemR.Kept R) (hb : Below B w w') (hB : B ≤ B') : Sl size R (Lt B') w' v xs :=
  h.keep hR (fun _ hx => Nat.lt_of_lt_of_le hx hB) (Same.of_below hb)
theorem Sl.at1 {A : Option Addr} {n c k : Nat} (h : Sl 1 R D w (.slice A n c) xs) (hk : k < n) :
    ∃ b o x u, A = some ⟨b, o, none⟩ ∧ D b ∧ xs[k]? = some x ∧ R D w x [u] ∧ w.cell? ⟨b, o + k, none⟩ = some u := by
  obtain ⟨A', c', hv, h1, h2, h3⟩ := h
  injection hv with hA hn hc
  subst hA hn hc
  obtain ⟨b, o, cs, hA, hD, hl, hr, hcell⟩ := h3 k xs[k] (List.getElem?_eq_getElem hk)
  match cs, hl with
  | [u], _ => exact ⟨b, o, xs[k], u, hA, hD, List.getElem?_eq_getElem hk, hr, by simpa using hcell 0 u rfl⟩
theorem Sl.at3 {A : Option Addr} {n c k : Nat} (h : Sl 3 R D w (.slice A n c) xs) (hk : k < n) :
    ∃ b o x u0 u1 u2, A = some ⟨b, o, none⟩ ∧ D b ∧ xs[k]? = some x ∧ R D w x [u0, u1, u2] ∧ w.cell? ⟨b, o + k * 3, none⟩ = some u0 ∧ w.cell? ⟨b, o + k * 3 + 1, none⟩ = some u1 ∧ w.cell? ⟨b, o + k * 3 + 2, none⟩ = some u2 := by
  obtain ⟨A', c', hv, h1, h2, h3⟩ := h
  injection hv with hA hn hc
  subst hA hn hc
  obtain ⟨b, o, cs, hA, hD, hl, hr, hcell⟩ := h3 k xs[k] (List.getElem?_eq_getElem hk)
  match cs, hl with
  | [u0, u1, u2], _ => exact ⟨b, o, xs[k], u0, u1, u2, hA, hD, List.getElem?_eq_getElem hk, hr, hcell 0 u0 rfl, hcell 1 u1 rfl, hcell 2 u2 rfl⟩
theorem Sl.row1 {A : Option Addr} {n c : Nat} (h : Sl 1 R D w (.slice A n c) xs) (hn : 0 < n) :
    ∃ b o, A = some ⟨b, o, none⟩ ∧ D b ∧ n = xs.length ∧ ∀ k x, xs[k]? = some x → ∃ u, R D w x [u] ∧ w.cell? ⟨b, o + k, none⟩ = some u := by
  obtain ⟨b, o, x, u, hA, hD, _, _, _⟩ := h.at1 hn
  obtain ⟨A', c', hv, h1, h2, h3⟩ := h
  injection hv with hA' hn' hc
  refine ⟨b, o, hA, hD, hn', fun k y hy => ?_⟩
  obtain ⟨b', o', cs, hA'', hD', hl, hr, hcell⟩ := h3 k y hy
  have e : (⟨b, o, none⟩ : Addr) = ⟨b', o', none⟩ := by
    have : some (⟨b, o, none⟩ : Addr) = some ⟨b', o', none⟩ := by rw [← hA, hA', hA'']
    injection this
  injection e with e1 e2 _
  subst e1 e2
  match cs, hl with
  | [u], _ => exact ⟨u, hr, by simpa using hcell 0 u rfl⟩
theorem Sl.open_ (h : Sl size R D w v xs) : ∃ A c, v = .slice A xs.length c ∧ xs.length ≤ c ∧ c ≤ 9223372036854775807 ∧ Sl size R D w (.slice A xs.length c) xs := by
  obtain ⟨A, c, hv, h1, h2, h3⟩ := h
  unfold maxLen at h2
  exact ⟨A, c, hv, h1, h2, A, c, rfl, h1, by unfold maxLen; exact h2, h3⟩
theorem Sl.none_ : Sl size R D w (.slice none 0 0) ([] : List α) := ⟨none, 0, rfl, Nat.le_refl _, Nat.zero_le _, fun i x hx => by simp at hx⟩
end
def RInt : ElemR Int := fun _ _ z cs => cs = [.int .i64 z] ∧ Fit z
def RStr : ElemR ByteArray := fun _ _ s cs => cs = [.string s] ∧ s.size ≤ maxLen
def RBool : ElemR Bool := fun _ _ b cs => cs = [.bool b]
theorem RInt.kept : ElemR.Kept RInt := fun _ _ _ _ _ _ _ _ h => h
theorem RStr.kept : ElemR.Kept RStr := fun _ _ _ _ _ _ _ _ h => h
theorem RBool.kept : ElemR.Kept RBool := fun _ _ _ _ _ _ _ _ h => h
def SlI := Sl 1 RInt
def SlS := Sl 1 RStr
def SlB := Sl 1 RBool
def RRow : ElemR (List Int) := fun D w r cs => ∃ v, cs = [v] ∧ SlI D w v r
theorem RRow.kept : ElemR.Kept RRow := by
  rintro D D' w w' x cs hd hs ⟨v, rfl, h⟩
  exact ⟨v, rfl, Sl.keep h RInt.kept hd hs⟩
def SlII := Sl 1 RRow
section
variable {D D' : Nat → Prop} {w w' : World} {v : Value}
theorem SlI.below {zs : List Int} {B B' : Nat} (h : SlI (Lt B) w v zs) (hb : Below B w w') (hB : B ≤ B') : SlI (Lt B') w' v zs := Sl.below h RInt.kept hb hB
theorem SlS.below {zs : List ByteArray} {B B' : Nat} (h : SlS (Lt B) w v zs) (hb : Below B w w') (hB : B ≤ B') : SlS (Lt B') w' v zs := Sl.below h RStr.kept hb hB
theorem SlB.below {zs : List Bool} {B B' : Nat} (h : SlB (Lt B) w v zs) (hb : Below B w w') (hB : B ≤ B') : SlB (Lt B') w' v zs := Sl.below h RBool.kept hb hB
theorem SlII.below {zs : List (List Int)} {B B' : Nat} (h : SlII (Lt B) w v zs) (hb : Below B w w') (hB : B ≤ B') : SlII (Lt B') w' v zs := Sl.below h RRow.kept hb hB
theorem SlI.open_ {zs : List Int} (h : SlI D w v zs) : ∃ A c, v = .slice A zs.length c ∧ zs.length ≤ c ∧ c ≤ 9223372036854775807 ∧ SlI D w (.slice A zs.length c) zs := Sl.open_ h
theorem SlS.open_ {zs : List ByteArray} (h : SlS D w v zs) : ∃ A c, v = .slice A zs.length c ∧ zs.length ≤ c ∧ c ≤ 9223372036854775807 ∧ SlS D w (.slice A zs.length c) zs := Sl.open_ h
theorem SlB.open_ {zs : List Bool} (h : SlB D w v zs) : ∃ A c, v = .slice A zs.length c ∧ zs.length ≤ c ∧ c ≤ 9223372036854775807 ∧ SlB D w (.slice A zs.length c) zs := Sl.open_ h
theorem SlII.open_ {zs : List (List Int)} (h : SlII D w v zs) : ∃ A c, v = .slice A zs.length c ∧ zs.length ≤ c ∧ c ≤ 9223372036854775807 ∧ SlII D w (.slice A zs.length c) zs := Sl.open_ h
theorem SlI.at_ {zs : List Int} {A : Option Addr} {n c k : Nat} (h : SlI D w (.slice A n c) zs) (hk : k < n) :
    ∃ b o z, A = some ⟨b, o, none⟩ ∧ D b ∧ zs[k]? = some z ∧ Fit z ∧ w.cell? ⟨b, o + k, none⟩ = some (.int .i64 z) := by
  obtain ⟨b, o, x, u, hA, hD, hx, ⟨hu, hf⟩, hc⟩ := Sl.at1 h hk
  injection hu with hu; subst hu
  exact ⟨b, o, x, hA, hD, hx, hf, hc⟩
theorem SlB.at_ {zs : List Bool} {A : Option Addr} {n c k : Nat} (h : SlB D w (.slice A n c) zs) (hk : k < n) :
    ∃ b o z, A = some ⟨b, o, none⟩ ∧ D b ∧ zs[k]? = some z ∧ w.cell? ⟨b, o + k, none⟩ = some (.bool z) := by
  obtain ⟨b, o, x, u, hA, hD, hx, hu, hc⟩ := Sl.at1 h hk
  injection hu with hu; subst hu
  exact ⟨b, o, x, hA, hD, hx, hc⟩
theorem SlS.at_ {zs : List ByteArray} {A : Option Addr} {n c k : Nat} (h : SlS D w (.slice A n c) zs) (hk : k < n) :
    ∃ b o z, A = some ⟨b, o, none⟩ ∧ D b ∧ zs[k]? = some z ∧ z.size ≤ maxLen ∧ w.cell? ⟨b, o + k, none⟩ = some (.string z) := by
  obtain ⟨b, o, x, u, hA, hD, hx, ⟨hu, hf⟩, hc⟩ := Sl.at1 h hk
  injection hu with hu; subst hu
  exact ⟨b, o, x, hA, hD, hx, hf, hc⟩
theorem SlII.at_ {zs : List (List Int)} {A : Option Addr} {n c k : Nat} (h : SlII D w (.slice A n c) zs) (hk : k < n) :
    ∃ b o r u, A = some ⟨b, o, none⟩ ∧ D b ∧ zs[k]? = some r ∧ SlI D w u r ∧ w.cell? ⟨b, o + k, none⟩ = some u := by
  obtain ⟨b, o, x, u, hA, hD, hx, ⟨u', hu, hf⟩, hc⟩ := Sl.at1 h hk
  injection hu with hu; subst hu
  exact ⟨b, o, x, u, hA, hD, hx, hf, hc⟩
end
def Blk (w : World) (g : Nat) (t : TypeId) (cs : Array Value) : Prop := w.heap[g]? = some (.cells cs t (0, 0))
section
variable {w w' : World} {g : Nat} {t : TypeId} {cs : Array Value}
theorem Blk.lt (h : Blk w g t cs) : g < w.heap.size := by
  rcases Nat.lt_or_ge g w.heap.size with hlt | hge
  · exact hlt
  · unfold Blk at h; rw [Array.getElem?_eq_none hge] at h; cases h
theorem Blk.cell (h : Blk w g t cs) (i : Nat) : w.cell? ⟨g, i, none⟩ = cs[i]? := cell_of_row w g i cs t (0, 0) h
theorem Blk.frozen (h : Blk w g t cs) (i : Nat) : w.frozen? ⟨g, i, none⟩ = false := by
  unfold Blk at h
  simp [World.frozen?, h]
theorem Blk.new (w : World) (t : TypeId) (cs : Array Value) : Blk (w.alloc (.cells cs t)) w.heap.size t cs := heap_alloc_new w _
theorem Blk.drew (h : Blk w g t cs) : Blk w.drew g t cs := h
theorem Blk.drewN (h : Blk w g t cs) (n : Nat) : Blk (w.drewN n) g t cs := h
theorem Blk.alloc (h : Blk w g t cs) (o : Obj) : Blk (w.alloc o) g t cs := (Below.heap_alloc w o g h.lt).trans h
theorem Blk.set_ (h : Blk w g t cs) (i : Nat) (u : Value) : Blk (w.setCell ⟨g, i, none⟩ u) g t (cs.setIfInBounds i u) := by
  unfold Blk at h ⊢
  simp [World.setCell, Array.getElem?_modify, h]
theorem Blk.far (h : Blk w g t cs) {p : Addr} (hp : g ≠ p.block) (u : Value) : Blk (w.setCell p u) g t cs := (Below.heap_setCell w p u g hp).trans h
theorem Blk.below {B : Nat} (h : Blk w g t cs) (hb : Below B w w') (hg : g < B) : Blk w' g t cs := (hb.block g hg).trans h
theorem Blk.grown {row : Option Nat} (h : Blk w g t cs) (hb : w.grownBy w' row) (hg : some g ≠ row) : Blk w' g t cs := (hb.block g h.lt hg).trans h
end
theorem below_drewN {B : Nat} {a w : World} (h : Below B a w) (n : Nat) : Below B a (w.drewN n) := ⟨h.os, h.tape, h.output, h.size, h.block⟩
theorem bthen {w b c : World} (h : Below w.heap.size w b) (k : Below b.heap.size b c) : Below w.heap.size w c := h.trans (k.mono h.size)
theorem bbox {w b : World} (h : Below w.heap.size w b) (o : Obj) : Below w.heap.size w (b.alloc o) := h.alloc h.size o
theorem bdrawn {B : Nat} {w b : World} (h : Below B w b) (n : Nat) : Below B w (b.drewN n) := below_drewN h n
theorem bone (w : World) (o : Obj) : Below w.heap.size w (w.alloc o) := (Below.refl _ _).alloc (Nat.le_refl _) o
section
variable {w w' : World} {v : Value}
theorem SlI.now {zs : List Int} (h : SlI (Lt w.heap.size) w v zs) (hb : Below w.heap.size w w') : SlI (Lt w'.heap.size) w' v zs := h.below hb hb.size
theorem SlS.now {zs : List ByteArray} (h : SlS (Lt w.heap.size) w v zs) (hb : Below w.heap.size w w') : SlS (Lt w'.heap.size) w' v zs := h.below hb hb.size
theorem SlB.now {zs : List Bool} (h : SlB (Lt w.heap.size) w v zs) (hb : Below w.heap.size w w') : SlB (Lt w'.heap.size) w' v zs := h.below hb hb.size
theorem SlII.now {zs : List (List Int)} (h : SlII (Lt w.heap.size) w v zs) (hb : Below w.heap.size w w') : SlII (Lt w'.heap.size) w' v zs := h.below hb hb.size
end
theorem Blk.now {w w' : World} {g : Nat} {t : TypeId} {cs : Array Value} (h : Blk w g t cs) (hb : Below w.heap.size w w') : Blk w' g t cs := h.below hb h.lt
section
variable {w : World} {g : Nat} {t : TypeId} {a b c d e f : Value}
theorem Blk.c1 (h : Blk w g t #[a]) : w.cell? ⟨g, 0, none⟩ = some a := h.cell 0
theorem Blk.c2 (h : Blk w g t #[a, b]) : w.cell? ⟨g, 0, none⟩ = some a ∧ w.cell? ⟨g, 1, none⟩ = some b := ⟨h.cell 0, h.cell 1⟩
theorem Blk.c3 (h : Blk w g t #[a, b, c]) : w.cell? ⟨g, 0, none⟩ = some a ∧ w.cell? ⟨g, 1, none⟩ = some b ∧ w.cell? ⟨g, 2, none⟩ = some c := ⟨h.cell 0, h.cell 1, h.cell 2⟩
theorem Blk.c4 (h : Blk w g t #[a, b, c, d]) : w.cell? ⟨g, 0, none⟩ = some a ∧ w.cell? ⟨g, 1, none⟩ = some b ∧ w.cell? ⟨g, 2, none⟩ = some c ∧ w.cell? ⟨g, 3, none⟩ = some d := ⟨h.cell 0, h.cell 1, h.cell 2, h.cell 3⟩
theorem Blk.c5 (h : Blk w g t #[a, b, c, d, e]) : w.cell? ⟨g, 0, none⟩ = some a ∧ w.cell? ⟨g, 1, none⟩ = some b ∧ w.cell? ⟨g, 2, none⟩ = some c ∧ w.cell? ⟨g, 3, none⟩ = some d ∧ w.cell? ⟨g, 4, none⟩ = some e := ⟨h.cell 0, h.cell 1, h.cell 2, h.cell 3, h.cell 4⟩
theorem Blk.c6 (h : Blk w g t #[a, b, c, d, e, f]) : w.cell? ⟨g, 0, none⟩ = some a ∧ w.cell? ⟨g, 1, none⟩ = some b ∧ w.cell? ⟨g, 2, none⟩ = some c ∧ w.cell? ⟨g, 3, none⟩ = some d ∧ w.cell? ⟨g, 4, none⟩ = some e ∧ w.cell? ⟨g, 5, none⟩ = some f := ⟨h.cell 0, h.cell 1, h.cell 2, h.cell 3, h.cell 4, h.cell 5⟩
end
theorem ret_int {k : IntKind} {a b : Int} (h : a = b) : Ending.returned (.int k a) = .returned (.int k b) := by rw [h]
theorem ret_bool {a b : Bool} (h : a = b) : Ending.returned (.bool a) = .returned (.bool b) := by rw [h]
end Go.Proofs.YtjglmjdfndcmmaaGreat

set_option linter.all false
namespace Go.Proofs.YtjglmjdfndcmmaaGreat
open Go.RowKit
theorem grown_of_below {w w' : World} (h : Below w.heap.size w w') (row : Option Nat) : w.grownBy w' row := ⟨h.os, h.tape, h.output, h.size, fun i hi _ => h.block i hi⟩
theorem below_of_grown {w w' : World} {B : Nat} {row : Option Nat} (h : w.grownBy w' row) (hB : B ≤ w.heap.size) (hr : ∀ g, row = some g → B ≤ g) : Below B w w' :=
  ⟨h.os, h.tape, h.output, h.size, fun i hi => h.block i (by omega) (fun e => by have := hr i e.symm; omega)⟩
theorem own_now {w w' : World} {base e size n : Nat} {v : Value} {xs : List Value} (h : w.ownsRow base e size v n xs) (hb : Below w.heap.size w w') : w'.ownsRow base e size v n xs := by
  refine h.kept (grown_of_below hb none) ?_
  cases e : v.ownBlock with
  | none => exact .inl rfl
  | some g => exact .inr (by simp)
theorem own_len {w : World} {base e n : Nat} {v : Value} {xs : List Value} (h : w.ownsRow base e 1 v n xs) : xs.length = n := by simpa using h.1
section
variable {α : Type} {R : ElemR α} {D : Nat → Prop} {w : World} {base t size n : Nat} {v : Value} {cs : List Value} {xs : List α}
theorem Sl.of_own (h : w.ownsRow base t size v n cs) (hn : xs.length = n) (hD : ∀ g, v.ownBlock = some g → D g)
    (hr : ∀ i x, xs[i]? = some x → ∃ es : List Value, es.length = size ∧ (∀ j u, es[j]? = some u → cs[i * size + j]? = some u) ∧ R D w x es) : Sl size R D w v xs := by
  subst hn
  rcases h.2 with ⟨rfl, h0⟩ | ⟨g, cap, cur, rfl, hb, hg, hc, hm, hs, htake⟩
  · have : xs = [] := List.eq_nil_of_length_eq_zero h0
    subst this
    exact Sl.none_
  · refine ⟨some ⟨g, 0, none⟩, cap, rfl, hc, hm, fun i x hx => ?_⟩
    obtain ⟨es, hl, hes, hR⟩ := hr i x hx
    refine ⟨g, 0, es, rfl, hD g rfl, hl, hR, fun j u hu => ?_⟩
    have hj := hes j u hu
    have hlt : i * size + j < xs.length * size := by
      rw [← h.1]
      rcases Nat.lt_or_ge (i * size + j) cs.length with h | h
      · exact h
      · rw [List.getElem?_eq_none h] at hj; cases hj
    have := World.ownsRow.cellAt h (i * size + j) hlt
    rw [Nat.zero_add, this]
    exact hj
theorem own_lt (h : w.ownsRow base t size v n cs) : ∀ g, v.ownBlock = some g → Lt w.heap.size g := fun g hg => (h.lt g hg).2
theorem Sl.of_own1 (h : w.ownsRow base t 1 v n cs) (hn : xs.length = n) (hD : ∀ g, v.ownBlock = some g → D g)
    (hr : ∀ (i : Nat) (x : α), xs[i]? = some x → ∃ u, cs[i]? = some u ∧ R D w x [u]) : Sl 1 R D w v xs :=
  Sl.of_own h hn hD fun i x hx => by
    obtain ⟨u, hu, hR⟩ := hr i x hx
    refine ⟨[u], rfl, fun j y hy => ?_, hR⟩
    match j, hy with
    | 0, hy => injection hy with hy; subst hy; simpa using hu
    | j + 1, hy => simp at hy
end
section
variable {w : World} {base t n : Nat} {v : Value}
theorem SlI.of_own {zs : List Int} (h : w.ownsRow base t 1 v n (zs.map (Value.int .i64))) (hf : ∀ z ∈ zs, Fit z) : SlI (Lt w.heap.size) w v zs :=
  Sl.of_own1 h (by simpa using own_len h) (own_lt h) fun i x hx => ⟨.int .i64 x, by simp [hx], rfl, hf x (List.mem_of_getElem? hx)⟩
theorem SlS.of_own {zs : List ByteArray} (h : w.ownsRow base t 1 v n (zs.map Value.string)) (hf : ∀ z ∈ zs, z.size ≤ maxLen) : SlS (Lt w.heap.size) w v zs :=
  Sl.of_own1 h (by simpa using own_len h) (own_lt h) fun i x hx => ⟨.string x, by simp [hx], rfl, hf x (List.mem_of_getElem? hx)⟩
theorem SlB.of_own {zs : List Bool} (h : w.ownsRow base t 1 v n (zs.map Value.bool)) : SlB (Lt w.heap.size) w v zs :=
  Sl.of_own1 h (by simpa using own_len h) (own_lt h) fun i x hx => ⟨.bool x, by simp [hx], rfl⟩
def OwnI (w : World) (base t g cap : Nat) (zs : List Int) : Prop := w.ownsRow base t 1 (.slice (some ⟨g, 0, none⟩) zs.length cap) zs.length (zs.map (Value.int .i64)) ∧ g < w.heap.size ∧ base ≤ g
end
section
variable {w w' : World} {base t g cap : Nat} {zs : List Int}
theorem OwnI.cell (h : OwnI w base t g cap zs) {k : Nat} {z : Int} (hz : zs[k]? = some z) : w.cell? ⟨g, k, none⟩ = some (.int .i64 z) := by
  have hk : k < zs.length := by
    rcases Nat.lt_or_ge k zs.length with h | h
    · exact h
    · rw [List.getElem?_eq_none h] at hz; cases hz
  rw [h.1.cellAt k (by omega)]; simp [hz]
theorem OwnI.frozen (h : OwnI w base t g cap zs) (k : Nat) : w.frozen? ⟨g, k, none⟩ = false := h.1.frozenAt k
theorem OwnI.set_ (h : OwnI w base t g cap zs) (k : Nat) (z : Int) : OwnI (w.setCell ⟨g, k, none⟩ (.int .i64 z)) base t g cap (zs.set k z) := by
  refine ⟨?_, by simpa using h.2.1, h.2.2⟩
  have := (h.1.stored k (.int .i64 z)).1
  rw [List.length_set, List.map_set]
  exact this
theorem OwnI.now (h : OwnI w base t g cap zs) (hb : Below w.heap.size w w') : OwnI w' base t g cap zs := ⟨own_now h.1 hb, Nat.lt_of_lt_of_le h.2.1 hb.size, h.2.2⟩
theorem OwnI.drew (h : OwnI w base t g cap zs) : OwnI w.drew base t g cap zs := h
theorem OwnI.drewN (h : OwnI w base t g cap zs) (n : Nat) : OwnI (w.drewN n) base t g cap zs := h
theorem OwnI.sl (h : OwnI w base t g cap zs) (hf : ∀ z ∈ zs, Fit z) : SlI (Lt w.heap.size) w (.slice (some ⟨g, 0, none⟩) zs.length cap) zs := SlI.of_own h.1 hf
theorem OwnI.lt (h : OwnI w base t g cap zs) : g < w.heap.size := h.2.1
end
theorem Sl.cells1 {α : Type} {R : ElemR α} {D : Nat → Prop} {w : World} {A : Option Addr} {n c : Nat} {xs : List α} (h : Sl 1 R D w (.slice A n c) xs) (f : α → Value) (hf : ∀ x u, R D w x [u] → u = f x) :
    n = xs.length ∧ (0 < n → ∃ b o, A = some ⟨b, o, none⟩ ∧ D b ∧ ∀ k x, xs[k]? = some x → w.cell? ⟨b, o + k, none⟩ = some (f x)) := by
  refine ⟨?_, fun hn => ?_⟩
  · obtain ⟨A', c', hv, _⟩ := h
    injection hv
  · obtain ⟨b, o, hA, hD, _, hc⟩ := h.row1 hn
    refine ⟨b, o, hA, hD, fun k x hx => ?_⟩
    obtain ⟨u, hR, hu⟩ := hc k x hx
    rw [hu, hf x u hR]
theorem SlI.cells {D : Nat → Prop} {w : World} {A : Option Addr} {n c : Nat} {zs : List Int} (h : SlI D w (.slice A n c) zs) (hn : 0 < n) :
    ∃ b o, A = some ⟨b, o, none⟩ ∧ D b ∧ n = zs.length ∧ ∀ j, j < zs.length → w.cell? ⟨b, o + j, none⟩ = some (.int .i64 (zs.getD j 0)) := by
  obtain ⟨h1, h2⟩ := Sl.cells1 h (Value.int .i64) (fun x u h => by injection h.1)
  obtain ⟨b, o, hA, hD, hc⟩ := h2 hn
  refine ⟨b, o, hA, hD, h1, fun j hj => ?_⟩
  rw [hc j zs[j] (List.getElem?_eq_getElem hj), List.getD_eq_getElem?_getD, List.getElem?_eq_getElem hj]; rfl
theorem SlS.cells {D : Nat → Prop} {w : World} {A : Option Addr} {n c : Nat} {zs : List ByteArray} (h : SlS D w (.slice A n c) zs) (hn : 0 < n) :
    ∃ b o, A = some ⟨b, o, none⟩ ∧ D b ∧ n = zs.length ∧ ∀ j, j < zs.length → w.cell? ⟨b, o + j, none⟩ = some (.string (zs.getD j ByteArray.empty)) := by
  obtain ⟨h1, h2⟩ := Sl.cells1 h Value.string (fun x u h => by injection h.1)
  obtain ⟨b, o, hA, hD, hc⟩ := h2 hn
  refine ⟨b, o, hA, hD, h1, fun j hj => ?_⟩
  rw [hc j zs[j] (List.getElem?_eq_getElem hj), List.getD_eq_getElem?_getD, List.getElem?_eq_getElem hj]; rfl
theorem Sl.ofBlk {α : Type} {R : ElemR α} {w : World} {g t size : Nat} {cs : List Value} {xs : List α} (h : Blk w g t cs.toArray) (hm : xs.length ≤ maxLen)
    (hr : ∀ (i : Nat) (x : α), xs[i]? = some x → ∃ es : List Value, es.length = size ∧ (∀ j u, es[j]? = some u → cs[i * size + j]? = some u) ∧ R (Lt w.heap.size) w x es) :
    Sl size R (Lt w.heap.size) w (.slice (some ⟨g, 0, none⟩) xs.length xs.length) xs := by
  refine ⟨some ⟨g, 0, none⟩, xs.length, rfl, Nat.le_refl _, hm, fun i x hx => ?_⟩
  obtain ⟨es, hl, hes, hR⟩ := hr i x hx
  refine ⟨g, 0, es, rfl, h.lt, hl, hR, fun j u hu => ?_⟩
  rw [Nat.zero_add, h.cell]
  simpa using hes j u hu
theorem SlI.ofBlk {w : World} {g t : Nat} {zs : List Int} (h : Blk w g t (zs.map (Value.int .i64)).toArray) (hm : zs.length ≤ maxLen) (hf : ∀ z ∈ zs, Fit z) : SlI (Lt w.heap.size) w (.slice (some ⟨g, 0, none⟩) zs.length zs.length) zs :=
  Sl.ofBlk h hm fun i x hx => ⟨[.int .i64 x], rfl, fun j u hu => by
    match j, hu with
    | 0, hu => injection hu with hu; subst hu; simp [hx]
    | j + 1, hu => simp at hu, rfl, hf x (List.mem_of_getElem? hx)⟩
theorem SlS.ofBlk {w : World} {g t : Nat} {zs : List ByteArray} (h : Blk w g t (zs.map Value.string).toArray) (hm : zs.length ≤ maxLen) (hf : ∀ z ∈ zs, z.size ≤ maxLen) : SlS (Lt w.heap.size) w (.slice (some ⟨g, 0, none⟩) zs.length zs.length) zs :=
  Sl.ofBlk h hm fun i x hx => ⟨[.string x], rfl, fun j u hu => by
    match j, hu with
    | 0, hu => injection hu with hu; subst hu; simp [hx]
    | j + 1, hu => simp at hu, rfl, hf x (List.mem_of_getElem? hx)⟩
def AppInfo (P : Program) (t e : TypeId) (size : Nat) : Prop :=
  ∃ (i : TypeInfo) (z : Value), P.underlying t = some (.slice e) ∧ P.info? e = some i ∧ i.zero = some z ∧ i.size = size ∧ i.bytes ≤ 4096 ∧ z.cells.size = size ∧ 0 < size
theorem AppInfo.mk' {P : Program} {t e : TypeId} {size bytes : Nat} {z : Value} (h1 : P.underlying t = some (.slice e)) (h2 : (P.info? e).map (fun i => (i.zero, i.size, i.bytes)) = some (some z, size, bytes)) (h3 : bytes ≤ 4096) (h4 : z.cells.size = size) (h5 : 0 < size) : AppInfo P t e size := by
  obtain ⟨i, hi, hz, hs, hb⟩ := info_parts h2
  exact ⟨i, z, h1, hi, hz, hs, by omega, h4, h5⟩
section
variable {P : Program} {t e size base : Nat}
theorem wp_push {o : Oper} {a : Act} {K : Act → World → Prop} {Q : Exit → Act → World → Prop} (hI : AppInfo P t e size) (s x : Operand)
    (ho : o.op = .call { callee := .builtin .append, args := #[s, x], argTypes := #[t, t] }) (w0 : World) (cs : List Value) (hcs : cs.length = size) (h1 : ∀ u ∈ cs, u.oneCell' = true)
    (v : Value) (n : Nat) (xs : List Value) (hs : a.eval s = v) (hown : w0.ownsRow base e size v n xs) (hx : a.eval x = .slice (some ⟨w0.heap.size, 0, none⟩) 1 1) (hn : n < 10000000) (hbase : base ≤ w0.heap.size)
    (h : ∀ v' w', w'.ownsRow base e size v' (n + 1) (xs ++ cs) → w0.grownBy w' v.ownBlock → (v'.ownBlock = v.ownBlock ∨ v'.ownBlock = some (w0.heap.size + 1)) → K (a.put o.dst v') w') : o.wp P a (w0.alloc (.cells cs.toArray e)) K Q := by
  obtain ⟨i, z, ht, hi, hz, hsz, hby, hzs, hp⟩ := hI
  have hcells : ∀ j u, cs[j]? = some u → (w0.alloc (.cells cs.toArray e)).cell? ((⟨w0.heap.size, 0, none⟩ : Addr).add j) = some u := by
    intro j u hu
    have : ((⟨w0.heap.size, 0, none⟩ : Addr).add j) = ⟨w0.heap.size, j, none⟩ := by unfold Addr.add; by_cases hj : j = 0 <;> simp [hj]
    rw [this, (Blk.new w0 e cs.toArray).cell j]
    simpa using hu
  obtain ⟨v', w', hrun, h2, h3, _, h5⟩ := run_append_own_at (P := P) (w0.alloc (.cells cs.toArray e)) base t o.type e i z size i.bytes ht hi hz hsz rfl hzs hp v n xs (hown.alloc _) ⟨w0.heap.size, 0, none⟩ 1 1 cs (by omega) hcells h1 (by unfold maxLen; omega) (by
    have : (n + 1) * i.bytes ≤ 10000000 * 4096 := Nat.mul_le_mul (by omega) hby
    omega) (by simp; omega)
  unfold Oper.wp execOp
  simp only [ho, resolve, invoke, builtin, Sem.run_bind, Sem.run_pure, Result.andThen_ok, List.map_toArray, List.map_cons, List.map_nil, hs, hx, hrun]
  refine h v' w' h2 ⟨h3.os, h3.tape, h3.output, Nat.le_trans (by simp) h3.size, fun k hk hne => (h3.block k (by simp; omega) hne).trans (Below.heap_alloc _ _ _ hk)⟩ ?_
  rcases h5 with h5 | h5
  · exact .inl h5
  · exact .inr (by rw [h5]; simp)
theorem wpList_push {ops : Array Oper} {rest : List Oper} {o : Oper} {a : Act} {Q : Exit → Act → World → Prop} (hI : AppInfo P t e size) (hgd : o.guard = none) (s x : Operand)
    (ho : o.op = .call { callee := .builtin .append, args := #[s, x], argTypes := #[t, t] }) (w0 : World) (cs : List Value) (hcs : cs.length = size) (h1 : ∀ u ∈ cs, u.oneCell' = true)
    (v : Value) (n : Nat) (xs : List Value) (hs : a.eval s = v) (hown : w0.ownsRow base e size v n xs) (hx : a.eval x = .slice (some ⟨w0.heap.size, 0, none⟩) 1 1) (hn : n < 10000000) (hbase : base ≤ w0.heap.size)
    (h : ∀ v' w', w'.ownsRow base e size v' (n + 1) (xs ++ cs) → w0.grownBy w' v.ownBlock → (v'.ownBlock = v.ownBlock ∨ v'.ownBlock = some (w0.heap.size + 1)) → wpList P ops Q rest (a.put o.dst v') w') : wpList P ops Q (o :: rest) a (w0.alloc (.cells cs.toArray e)) :=
  wpList_plain hgd fun _ hK => wp_push hI s x ho w0 cs hcs h1 v n xs hs hown hx hn hbase fun v' w' h2 h3 h4 => hK _ _ (h v' w' h2 h3 h4)
theorem step_push {ops : Array Oper} {o : Oper} {a : Act} {K : Act → World → Prop} {Q : Exit → Act → World → Prop} {E : Prop} (hI : AppInfo P t e size) (hgd : o.guard = none) (s x : Operand)
    (ho : o.op = .call { callee := .builtin .append, args := #[s, x], argTypes := #[t, t] }) (w0 : World) (cs : List Value) (hcs : cs.length = size) (h1 : ∀ u ∈ cs, u.oneCell' = true)
    (v : Value) (n : Nat) (xs : List Value) (hs : a.eval s = v) (hown : w0.ownsRow base e size v n xs) (hx : a.eval x = .slice (some ⟨w0.heap.size, 0, none⟩) 1 1) (hn : n < 10000000) (hbase : base ≤ w0.heap.size)
    (h : ∀ v' w', w'.ownsRow base e size v' (n + 1) (xs ++ cs) → w0.grownBy w' v.ownBlock → (v'.ownBlock = v.ownBlock ∨ v'.ownBlock = some (w0.heap.size + 1)) → K (a.put o.dst v') w') :
    if Region.wanted o (yielded ops a.tmps) = true then Oper.wp P o a (w0.alloc (.cells cs.toArray e)) K Q else E := by
  have hw : Region.wanted o (yielded ops a.tmps) = true := by simp [Region.wanted, hgd]
  rw [if_pos hw]
  exact wp_push hI s x ho w0 cs hcs h1 v n xs hs hown hx hn hbase h
end
end Go.Proofs.YtjglmjdfndcmmaaGreat

set_option linter.all false
namespace Go.Proofs.YtjglmjdfndcmmaaGreat
open Go.RowKit
section
variable {α : Type} {fc : α → List Value} {size : Nat}
def flat (fc : α → List Value) (xs : List α) : List Value := xs.flatMap fc
theorem flat_len (hfc : ∀ x, (fc x).length = size) (xs : List α) : (flat fc xs).length = xs.length * size := by
  induction xs with
  | nil => simp [flat]
  | cons x xs ih =>
    have : flat fc (x :: xs) = fc x ++ flat fc xs := rfl
    rw [this, List.length_append, hfc, ih, List.length_cons, Nat.succ_mul]; omega
theorem flat_get (hfc : ∀ x, (fc x).length = size) (xs : List α) : ∀ (i j : Nat) (x : α), xs[i]? = some x → j < size → (flat fc xs)[i * size + j]? = (fc x)[j]? := by
  induction xs with
  | nil => intro i j x hx; simp at hx
  | cons y xs ih =>
    intro i j x hx hj
    have e : flat fc (y :: xs) = fc y ++ flat fc xs := rfl
    rw [e]
    cases i with
    | zero =>
      injection hx with hx; subst hx
      rw [Nat.zero_mul, Nat.zero_add, List.getElem?_append_left (by rw [hfc]; exact hj)]
    | succ i =>
      rw [List.getElem?_append_right (by rw [hfc, Nat.succ_mul]; omega), hfc]
      have : (i + 1) * size + j - size = i * size + j := by rw [Nat.succ_mul]; omega
      rw [this]
      exact ih i j x (by simpa using hx) hj
theorem flat_at (hfc : ∀ x, (fc x).length = size) (hs : 0 < size) (xs : List α) {j : Nat} {u : Value} (h : (flat fc xs)[j]? = some u) : ∃ i r x, j = i * size + r ∧ r < size ∧ xs[i]? = some x ∧ (fc x)[r]? = some u := by
  have hj : j < xs.length * size := by
    rw [← flat_len hfc]
    rcases Nat.lt_or_ge j (flat fc xs).length with h' | h'
    · exact h'
    · rw [List.getElem?_eq_none h'] at h; cases h
  have hi : j / size < xs.length := Nat.div_lt_of_lt_mul (by rw [Nat.mul_comm]; exact hj)
  have hr : j % size < size := Nat.mod_lt _ hs
  have e : j = j / size * size + j % size := by rw [Nat.mul_comm]; exact (Nat.div_add_mod j size).symm
  refine ⟨j / size, j % size, xs[j / size], e, hr, List.getElem?_eq_getElem hi, ?_⟩
  rw [← flat_get hfc xs (j / size) (j % size) _ (List.getElem?_eq_getElem hi) hr, ← e]
  exact h
theorem flat_append (xs ys : List α) : flat fc (xs ++ ys) = flat fc xs ++ flat fc ys := by simp [flat]
def OwnW (size : Nat) (fc : α → List Value) (w : World) (base t : Nat) (v : Value) (xs : List α) : Prop := w.ownsRow base t size v xs.length (flat fc xs)
variable {R : ElemR α} {w w' : World} {base t : Nat} {v : Value} {xs : List α}
theorem OwnW.nil : OwnW size fc w base t (.slice none 0 0) ([] : List α) := World.ownsRow_nil _ _ _ _
theorem OwnW.now (h : OwnW size fc w base t v xs) (hb : Below w.heap.size w w') : OwnW size fc w' base t v xs := own_now h hb
theorem OwnW.sl (h : OwnW size fc w base t v xs) (hfc : ∀ x, (fc x).length = size) (hR : ∀ D w x, x ∈ xs → R D w x (fc x)) : Sl size R (Lt w.heap.size) w v xs :=
  Sl.of_own h rfl (own_lt h) fun i x hx => ⟨fc x, hfc x, fun j u hu => by
    have hj : j < size := by
      rw [← hfc x]
      rcases Nat.lt_or_ge j (fc x).length with h' | h'
      · exact h'
      · rw [List.getElem?_eq_none h'] at hu; cases hu
    rw [flat_get hfc xs i j x hx hj]; exact hu, hR _ _ x (List.mem_of_getElem? hx)⟩
theorem OwnW.form (h : OwnW size fc w base t v xs) (hn : 0 < xs.length) : ∃ g cap, v = .slice (some ⟨g, 0, none⟩) xs.length cap ∧ xs.length ≤ cap ∧ base ≤ g ∧ g < w.heap.size := by
  have hl := World.ownsRow.lt h
  rcases h.2 with ⟨_, h0⟩ | ⟨g, cap, cur, rfl, hb, hg, hc, hm, hs, htake⟩
  · omega
  · exact ⟨g, cap, rfl, hc, hb, (hl g rfl).2⟩
theorem wp_appendAllW {P : Program} {e : Nat} {D : Nat → Prop} {o : Oper} {a : Act} {K : Act → World → Prop} {Q : Exit → Act → World → Prop} (hI : AppInfo P t e size) (s x : Operand)
    (ho : o.op = .call { callee := .builtin .append, args := #[s, x], argTypes := #[t, t] }) (w : World) (hfc : ∀ x, (fc x).length = size) (xs : List α)
    (v : Value) (hs : a.eval s = v) (hown : OwnW size fc w base e v xs) (u : Value) (ys : List α) (hx : a.eval x = u) (hu : Sl size R D w u ys) (hf : ∀ y c, R D w y c → c = fc y) (h1 : ∀ y, ∀ u ∈ fc y, u.oneCell' = true) (hn : xs.length + ys.length < 10000000) (hbase : base ≤ w.heap.size)
    (h : ∀ v' w', OwnW size fc w' base e v' (xs ++ ys) → w.grownBy w' v.ownBlock → (v'.ownBlock = v.ownBlock ∨ v'.ownBlock = some w.heap.size) → K (a.put o.dst v') w') : o.wp P a w K Q := by
  obtain ⟨i, z, ht, hi, hz, hsz, hby, hzs, hp⟩ := hI
  obtain ⟨A, c, rfl, hc1, hc2, hu⟩ := hu.open_
  unfold OwnW at hown
  have key : ∃ v' w', (Builtin.append_ #[t, t] o.type #[v, .slice A ys.length c]).run P w = .ok v' w' ∧ OwnW size fc w' base e v' (xs ++ ys) ∧ w.grownBy w' v.ownBlock ∧ (v'.ownBlock = v.ownBlock ∨ v'.ownBlock = some w.heap.size) := by
    unfold OwnW
    rw [flat_append, List.length_append]
    rcases Nat.eq_zero_or_pos ys.length with h0 | h0
    · have : ys = [] := List.eq_nil_of_length_eq_zero h0
      subst this
      rcases A with _ | ad
      · refine ⟨v, w, ?_, by simpa [flat] using hown, World.grownBy.refl w _, .inl rfl⟩
        rcases hown.2 with ⟨rfl, h0⟩ | ⟨g, cap, cur, rfl, _, _, hnc, _⟩
        · simp [Builtin.append_, run_underlying ht, sizeOf, typeInfo, hi, Builtin.lenOf, Builtin.firstCells]
        · simp [Builtin.append_, run_underlying ht, sizeOf, typeInfo, hi, Builtin.lenOf, Builtin.firstCells, hnc, storeCells]
      · obtain ⟨v', w', hrun, h2, h3, _, h5⟩ := run_append_own_at (P := P) w base t o.type e i z size i.bytes ht hi hz hsz rfl hzs hp v _ _ hown ad 0 c [] (by simp) (fun j u hj => by simp at hj) (by simp) (by unfold maxLen; simp at hn; omega) (by
          have : (xs.length + 0) * i.bytes ≤ 10000000 * 4096 := Nat.mul_le_mul (by simp at hn; omega) hby
          omega) hbase
        exact ⟨v', w', hrun, h2, h3, h5⟩
    · obtain ⟨_, _, _, h3⟩ := hu
      have hrow : ∃ b off, A = some ⟨b, off, none⟩ ∧ ∀ j u, (flat fc ys)[j]? = some u → w.cell? ⟨b, off + j, none⟩ = some u := by
        obtain ⟨A', c', hv, _, _, h3⟩ := (show Sl size R D w (.slice A ys.length c) ys from ‹_›)
        injection hv with hA _ _
        subst hA
        obtain ⟨b, off, _, hA, _⟩ := h3 0 ys[0] (List.getElem?_eq_getElem h0)
        refine ⟨b, off, hA, fun j u hj => ?_⟩
        obtain ⟨i, r, y, rfl, hr, hy, hfu⟩ := flat_at hfc (by omega) ys hj
        obtain ⟨b', off', cs, hA', _, _, hR, hcell⟩ := h3 i y hy
        rw [hA] at hA'
        injection hA' with hA'
        injection hA' with e1 e2 _
        subst e1 e2
        rw [hf y cs hR] at hcell
        have := hcell r u hfu
        rwa [Nat.add_assoc] at this
      obtain ⟨b, off, rfl, hc⟩ := hrow
      obtain ⟨v', w', hrun, h2, h3, _, h5⟩ := run_append_own_at (P := P) w base t o.type e i z size i.bytes ht hi hz hsz rfl hzs hp v _ _ hown ⟨b, off, none⟩ ys.length c (flat fc ys) (flat_len hfc ys) (fun j u hj => by
          have : ((⟨b, off, none⟩ : Addr).add j) = ⟨b, off + j, none⟩ := by unfold Addr.add; by_cases hj : j = 0 <;> simp [hj]
          rw [this]; exact hc j u hj) (by intro u hu; obtain ⟨y, _, hy⟩ := List.mem_flatMap.1 hu; exact h1 y u hy) (by unfold maxLen; omega) (by
          have : (xs.length + ys.length) * i.bytes ≤ 10000000 * 4096 := Nat.mul_le_mul (by omega) hby
          omega) hbase
      exact ⟨v', w', hrun, h2, h3, h5⟩
  obtain ⟨v', w', hrun, h2, h3, h5⟩ := key
  unfold Oper.wp execOp
  simp only [ho, resolve, invoke, builtin, Sem.run_bind, Sem.run_pure, Result.andThen_ok, List.map_toArray, List.map_cons, List.map_nil, hs, hx, hrun]
  exact h v' w' h2 h3 h5
theorem wpList_pushW {P : Program} {e : Nat} {ops : Array Oper} {rest : List Oper} {o : Oper} {a : Act} {Q : Exit → Act → World → Prop} (hI : AppInfo P t e size) (hgd : o.guard = none) (s x : Operand)
    (ho : o.op = .call { callee := .builtin .append, args := #[s, x], argTypes := #[t, t] }) (w0 : World) (y : α) (xs : List α) (hfc : (fc y).length = size) (h1 : ∀ u ∈ fc y, u.oneCell' = true)
    (v : Value) (hs : a.eval s = v) (hown : OwnW size fc w0 base e v xs) (hx : a.eval x = .slice (some ⟨w0.heap.size, 0, none⟩) 1 1) (hn : xs.length < 10000000) (hbase : base ≤ w0.heap.size)
    (h : ∀ v' w', OwnW size fc w' base e v' (xs ++ [y]) → w0.grownBy w' v.ownBlock → (v'.ownBlock = v.ownBlock ∨ v'.ownBlock = some (w0.heap.size + 1)) → wpList P ops Q rest (a.put o.dst v') w') : wpList P ops Q (o :: rest) a (w0.alloc (.cells (fc y).toArray e)) :=
  wpList_push hI hgd s x ho w0 (fc y) hfc h1 v xs.length (flat fc xs) hs hown hx hn hbase fun v' w' h2 h3 h4 => h v' w' (by
    unfold OwnW
    rw [flat_append, List.length_append]
    simpa [flat] using h2) h3 h4
end
end Go.Proofs.YtjglmjdfndcmmaaGreat

set_option linter.all false
namespace Go.Proofs.YtjglmjdfndcmmaaGreat
open Go.RowKit
theorem conv_nil {P : Program} (w : World) (src dst e : TypeId) (c : Nat) (hs : P.underlying src = some (.slice e)) (he : P.underlying e = some (.int .u8)) (hd : P.underlying dst = some .string) :
    (convert src dst (.slice none 0 c)).run P w = .ok (.string ⟨#[]⟩) w := by
  rw [run_convert_bytes_string w src dst e none 0 c hs he hd]
  simp [Conv.bytesToString]
  rfl
def cellC (c : UInt8) : List Value := [.int .u8 (c.toNat : Int)]
theorem cellC_one (c : UInt8) : ∀ u ∈ cellC c, u.oneCell' = true := by intro u hu; simp [cellC] at hu; subst hu; rfl
def OwnC (w : World) (base : Nat) (v : Value) (l : List UInt8) : Prop := OwnW 1 cellC w base 5 v l
theorem appBytes : AppInfo Tryz.prog 22 5 1 := AppInfo.mk' (z := .int .u8 0) (bytes := 1) Tryz.underlying22 (by kernel_rfl) (by decide) rfl (by decide)
theorem flatC (l : List UInt8) : flat cellC l = l.map fun c => .int .u8 (c.toNat : Int) := by
  unfold flat cellC
  induction l with
  | nil => rfl
  | cons a l ih => rw [List.flatMap_cons, ih]; rfl
theorem OwnC.now {w w' : World} {base : Nat} {v : Value} {l : List UInt8} (h : OwnC w base v l) (hb : Below w.heap.size w w') : OwnC w' base v l := OwnW.now h hb
theorem OwnC.conv {w : World} {base : Nat} {v : Value} {l : List UInt8} (h : OwnC w base v l) : (convert 22 9 v).run Tryz.prog w = .ok (.string ⟨l.toArray⟩) w := by
  rcases Nat.eq_zero_or_pos l.length with h0 | h0
  · have : l = [] := List.eq_nil_of_length_eq_zero h0
    subst this
    rcases h.2 with ⟨rfl, _⟩ | ⟨g, cap, cur, rfl, _⟩
    · exact conv_nil w _ _ _ 0 Tryz.underlying22 Tryz.underlying5 Tryz.underlying9
    · exact run_convert_bytes_back w _ _ _ ⟨g, 0, none⟩ cap [] Tryz.underlying22 Tryz.underlying5 Tryz.underlying9 (fun j hj => absurd hj (by simp))
  · obtain ⟨g, cap, rfl, _, _, _⟩ := OwnW.form h h0
    refine run_convert_bytes_back w _ _ _ ⟨g, 0, none⟩ cap l Tryz.underlying22 Tryz.underlying5 Tryz.underlying9 (fun j hj => ?_)
    have hc := World.ownsRow.cellAt h j (by omega)
    have e : ((⟨g, 0, none⟩ : Addr).add j) = ⟨g, j, none⟩ := by unfold Addr.add; by_cases hj : j = 0 <;> simp [hj]
    rw [e, hc, flatC]
    simp [List.getElem?_eq_getElem hj]
theorem OwnC.one (w : World) (c : UInt8) : OwnC (w.alloc (.cells #[.int .u8 (c.toNat : Int)] 5)) w.heap.size (.slice (some ⟨w.heap.size, 0, none⟩) 1 1) [c] := by
  have := World.ownsRow_lit (base := w.heap.size) (e := 5) (size := 1) w #[.int .u8 (c.toNat : Int)] 1 (Nat.le_refl _) (by unfold maxLen; omega) rfl
  exact this
end Go.Proofs.YtjglmjdfndcmmaaGreat

set_option linter.all false
namespace Go.Proofs.YtjglmjdfndcmmaaGreat
open Go.RowKit
def Hat (w : World) (v v' : Value) : Prop := ∀ g, v'.ownBlock = some g → v.ownBlock = some g ∨ w.heap.size ≤ g
structure Adds (base : Nat) (w : World) (v : Value) (l : List UInt8) (w' : World) (v' : Value) : Prop where
  own : OwnC w' base v' l
  grown : w.grownBy w' v.ownBlock
  hat : Hat w v v'
theorem Adds.trans {base : Nat} {w w1 w2 : World} {v v1 v2 : Value} {l1 l2 : List UInt8} (h : Adds base w v l1 w1 v1) (k : Adds base w1 v1 l2 w2 v2) : Adds base w v l2 w2 v2 :=
  ⟨k.own, ⟨k.grown.os.trans h.grown.os, k.grown.tape.trans h.grown.tape, k.grown.output.trans h.grown.output, Nat.le_trans h.grown.size k.grown.size, fun i hi hne => by
    have h1 := h.grown.block i hi hne
    refine (k.grown.block i (Nat.lt_of_lt_of_le hi h.grown.size) (fun e => ?_)).trans h1
    rcases h.hat i e.symm with e2 | e2
    · exact hne e2.symm
    · omega⟩, fun g hg => by
    rcases k.hat g hg with e | e
    · exact h.hat g e
    · exact .inr (Nat.le_trans h.grown.size e)⟩
theorem Adds.pre {base : Nat} {w w1 w2 : World} {v v2 : Value} {l2 : List UInt8} (hb : Below w.heap.size w w1) (k : Adds base w1 v l2 w2 v2) : Adds base w v l2 w2 v2 :=
  ⟨k.own, ⟨k.grown.os.trans hb.os, k.grown.tape.trans hb.tape, k.grown.output.trans hb.output, Nat.le_trans hb.size k.grown.size, fun i hi hne => (k.grown.block i (Nat.lt_of_lt_of_le hi hb.size) hne).trans (hb.block i hi)⟩, fun g hg => by
    rcases k.hat g hg with e | e
    · exact .inl e
    · exact .inr (Nat.le_trans hb.size e)⟩
theorem Adds.post {base : Nat} {w w1 w2 : World} {v v1 : Value} {l : List UInt8} (h : Adds base w v l w1 v1) (hb : Below w1.heap.size w1 w2) : Adds base w v l w2 v1 :=
  ⟨h.own.now hb, ⟨hb.os.trans h.grown.os, hb.tape.trans h.grown.tape, hb.output.trans h.grown.output, Nat.le_trans h.grown.size hb.size, fun i hi hne => (hb.block i (Nat.lt_of_lt_of_le hi h.grown.size)).trans (h.grown.block i hi hne)⟩, h.hat⟩
theorem Adds.below {base : Nat} {w w' : World} {v v' : Value} {l l0 : List UInt8} (h : Adds base w v l w' v') (h0 : OwnC w base v l0) (hb : base ≤ w.heap.size) : Below base w w' :=
  below_of_grown h.grown hb fun g hg => (World.ownsRow.lt h0 g hg).1
theorem Adds.refl {base : Nat} {w : World} {v : Value} {l : List UInt8} (h : OwnC w base v l) : Adds base w v l w v := ⟨h, World.grownBy.refl _ _, fun _ hg => .inl hg⟩
theorem Adds.keep {base : Nat} {w w' : World} {v v' : Value} {l l0 : List UInt8} {g t : Nat} {cs : Array Value} (h : Adds base w v l w' v') (h0 : OwnC w base v l0) (hB : Blk w g t cs) (ht : t ≠ 5) : Blk w' g t cs := by
  refine hB.grown h.grown fun e => ?_
  obtain ⟨c, fz, hc⟩ := Lib.ownsRow_kind h0 g e.symm
  have := hB.symm.trans hc
  injection this with this
  injection this with _ e2 _
  exact ht e2
theorem strC (s : ByteArray) : Lib.strCells s = flat cellC s.data.toList := by rw [flatC]; rfl
theorem byteInfo' : (Tryz.prog.info? 5).map (fun i => (i.zero, i.size, i.bytes)) = some (some (.int .u8 0), 1, 1) := by kernel_rfl
theorem run_appendStr (w : World) (base : Nat) (ty : TypeId) (v : Value) (l : List UInt8) (hown : OwnC w base v l) (s : ByteArray) (hn : l.length + s.size ≤ 1000000000) (hbase : base ≤ w.heap.size) :
    ∃ v' w', (Builtin.append_ #[22, 9] ty #[v, .string s]).run Tryz.prog w = .ok v' w' ∧ Adds base w v (l ++ s.data.toList) w' v' := by
  obtain ⟨i, hi, hz0, hz1, hz2⟩ := info_parts byteInfo'
  have hss : s.data.toList.length = s.size := Array.length_toList
  obtain ⟨v', w', hr, h2, h3, _⟩ := Lib.run_append_own_string (P := Tryz.prog) w base 22 9 ty 5 i Tryz.underlying22 Tryz.underlying9 hi hz0 hz1 hz2 v l.length (flat cellC l) hown s (by unfold maxLen; omega) (by omega) hbase
  refine ⟨v', w', hr, ?_, h3, ?_⟩
  · unfold OwnC OwnW
    rw [flat_append, ← strC, List.length_append, hss]
    exact h2
  · intro g hg
    rcases hown.2 with ⟨rfl, hl0⟩ | ⟨g', cap, cur, rfl, hbg, hgc, hnc, hcm, hcs, htake⟩
    · by_cases hm : s.size = 0
      · rcases h2.2 with ⟨rfl, _⟩ | ⟨g2, c2, cur2, rfl, _, _, _⟩
        · cases hg
        · exfalso
          have hl : l = [] := List.eq_nil_of_length_eq_zero hl0
          subst hl
          have hf := Lib.run_firstCells_string (P := Tryz.prog) w 1 s
          rw [hm] at hf
          simp [Builtin.append_, run_underlying Tryz.underlying22, run_underlying Tryz.underlying9, sizeOf, typeInfo, hi, hz1, Builtin.lenOf, hm, hf] at hr
      · have hr2 := run_append_nil_string (P := Tryz.prog) w 22 9 ty 5 i (.int .u8 0) Tryz.underlying22 Tryz.underlying9 hi hz0 s (by omega) (by omega) (by rw [hz2]; omega)
        have e := hr.symm.trans hr2
        injection e with e1 e2
        rw [e1] at hg
        have hg : some w.heap.size = some g := hg
        injection hg with hg
        exact .inr (by omega)
    · by_cases hroom : l.length + s.size ≤ cap
      · have hcs' : cur.size = cap := by simpa using hcs
        have hr2 := Lib.run_append_room_string (P := Tryz.prog) w 22 9 ty 5 i Tryz.underlying22 Tryz.underlying9 hi hz1 g' l.length cap cur hgc s hroom (by omega)
        have e := hr.symm.trans hr2
        injection e with e1 e2
        rw [e1] at hg
        exact .inl hg
      · have hxl : (flat cellC l).length = l.length := by rw [flatC, List.length_map]
        have hr2 := Lib.run_append_grow_string (P := Tryz.prog) w 22 9 ty 5 i (.int .u8 0) Tryz.underlying22 Tryz.underlying9 hi hz0 ⟨g', 0, none⟩ l.length cap (flat cellC l) (by rw [hz1]; omega) (fun j u hj => World.ownsRow.cells hown (g := g') rfl j u hj) s (by omega) (by omega) (by rw [hz2]; exact growslice_fits (by omega) (by omega))
        have e := hr.symm.trans hr2
        injection e with e1 e2
        rw [e1] at hg
        have hg : some w.heap.size = some g := hg
        injection hg with hg
        exact .inr (by omega)
section
variable {base : Nat} {w : World} {v : Value} {l : List UInt8} {o : Oper} {a : Act} {K : Act → World → Prop} {Q : Exit → Act → World → Prop}
theorem wp_appendStr (sl x : Operand) (ho : o.op = .call { callee := .builtin .append, args := #[sl, x], argTypes := #[22, 9] }) (hs : a.eval sl = v) (hown : OwnC w base v l) (s : ByteArray) (hx : a.eval x = .string s) (hn : l.length + s.size ≤ 1000000000) (hbase : base ≤ w.heap.size)
    (h : ∀ v' w', Adds base w v (l ++ s.data.toList) w' v' → K (a.put o.dst v') w') : o.wp Tryz.prog a w K Q := by
  obtain ⟨v', w', hr, h2⟩ := run_appendStr w base o.type v l hown s hn hbase
  unfold Oper.wp execOp
  simp only [ho, resolve, invoke, builtin, Sem.run_bind, Sem.run_pure, Result.andThen_ok, List.map_toArray, List.map_cons, List.map_nil, hs, hx, hr]
  exact h v' w' h2
theorem wpList_appendStr {ops : Array Oper} {rest : List Oper} (hgd : o.guard = none) (sl x : Operand) (ho : o.op = .call { callee := .builtin .append, args := #[sl, x], argTypes := #[22, 9] }) (hs : a.eval sl = v) (hown : OwnC w base v l) (s : ByteArray) (hx : a.eval x = .string s) (hn : l.length + s.size ≤ 1000000000) (hbase : base ≤ w.heap.size)
    (h : ∀ v' w', Adds base w v (l ++ s.data.toList) w' v' → wpList Tryz.prog ops Q rest (a.put o.dst v') w') : wpList Tryz.prog ops Q (o :: rest) a w :=
  wpList_plain hgd fun _ hK => wp_appendStr sl x ho hs hown s hx hn hbase fun v' w' h2 => hK _ _ (h v' w' h2)
theorem wpList_pushC {ops : Array Oper} {rest : List Oper} (hgd : o.guard = none) (sl x : Operand) (ho : o.op = .call { callee := .builtin .append, args := #[sl, x], argTypes := #[22, 22] }) (c : UInt8) (z : Int) (hz : z = (c.toNat : Int)) (hs : a.eval sl = v) (hown : OwnC w base v l) (hx : a.eval x = .slice (some ⟨w.heap.size, 0, none⟩) 1 1) (hn : l.length < 10000000) (hbase : base ≤ w.heap.size)
    (h : ∀ v' w', Adds base w v (l ++ [c]) w' v' → wpList Tryz.prog ops Q rest (a.put o.dst v') w') : wpList Tryz.prog ops Q (o :: rest) a (w.alloc (.cells #[.int .u8 z] 5)) := by
  subst hz
  refine wpList_pushW (fc := cellC) appBytes hgd sl x ho w c l rfl (cellC_one c) v hs hown hx hn hbase fun v' w' h2 h3 h4 => h v' w' ⟨h2, h3, fun g hg => ?_⟩
  rcases h4 with e | e
  · exact .inl (e ▸ hg)
  · rw [e] at hg; injection hg with hg; exact .inr (by omega)
end
end Go.Proofs.YtjglmjdfndcmmaaGreat

set_option linter.all false
namespace Go.Proofs.YtjglmjdfndcmmaaGreat
open Go.RowKit
abbrev Bs := List UInt8
def Asc (l : List Bs) : Prop := l.Pairwise (· < ·)
theorem bs_total {a b : Bs} (h : ¬ a < b) (h2 : a ≠ b) : b < a := by
  apply Classical.byContradiction
  intro h3
  exact h2 (List.le_antisymm (List.not_lt.1 h3) (List.not_lt.1 h))
theorem bs_lt {a b : Bs} (h : a ≤ b) (h2 : a ≠ b) : a < b := by
  apply Classical.byContradiction
  intro h3
  exact h2 (List.le_antisymm h (List.not_lt.1 h3))
theorem asc_nodup {l : List Bs} (h : Asc l) : l.Nodup := List.Pairwise.imp (fun {a b} (h : a < b) => fun e => by subst e; exact List.lt_irrefl _ h) h
theorem asc_ext {a b : List Bs} (ha : Asc a) (hb : Asc b) (h : ∀ x, x ∈ a ↔ x ∈ b) : a = b := by
  refine List.Perm.eq_of_pairwise (le := (· < ·)) (fun x y _ _ h1 h2 => absurd h2 (List.lt_asymm h1)) ha hb ?_
  exact (List.perm_ext_iff_of_nodup (asc_nodup ha) (asc_nodup hb)).2 h
theorem asc_push {l : List Bs} {s : Bs} (h : Asc l) (hs : ∀ x ∈ l, x < s) : Asc (l ++ [s]) := by
  unfold Asc
  rw [List.pairwise_append]
  exact ⟨h, by simp, fun x hx y hy => by simp at hy; rw [hy]; exact hs x hx⟩
theorem asc_get {l : List Bs} (h : Asc l) {k : Nat} {x y : Bs} (hx : x ∈ l.take k) (hy : l[k]? = some y) : x < y := by
  have hk : k < l.length := by
    rcases Nat.lt_or_ge k l.length with h' | h'
    · exact h'
    · rw [List.getElem?_eq_none h'] at hy; cases hy
  have e : l = l.take k ++ l.drop k := (List.take_append_drop k l).symm
  unfold Asc at h
  rw [e, List.pairwise_append] at h
  refine h.2.2 x hx y ?_
  rw [List.getElem?_eq_getElem hk] at hy
  injection hy with hy
  rw [List.drop_eq_getElem_cons hk, hy]
  simp
theorem mem_compactUpTo (d : Array Bs) (hd : d.toList.Pairwise (· ≤ ·)) : ∀ m, m ≤ d.size →
    Asc (Lib.compactUpTo d m) ∧ (∀ x, x ∈ Lib.compactUpTo d m ↔ x ∈ d.toList.take m) ∧ (∀ x ∈ Lib.compactUpTo d m, ∀ j, j + 1 = m → x ≤ d[j]!) := by
  intro m
  induction m with
  | zero => intro _; exact ⟨by simp [Asc, Lib.compactUpTo], by simp [Lib.compactUpTo], fun x hx => by simp [Lib.compactUpTo] at hx⟩
  | succ m ih =>
    intro hm
    obtain ⟨h1, h2, h3⟩ := ih (by omega)
    have hmd : m < d.size := by omega
    have hget : d[m]! = d[m] := by simp [hmd]
    have htake : d.toList.take (m + 1) = d.toList.take m ++ [d[m]!] := by
      rw [List.take_succ_eq_append_getElem (by simpa using hmd), hget]
      simp
    have hle : ∀ x ∈ Lib.compactUpTo d m, x ≤ d[m]! := by
      intro x hx
      have hx' := (h2 x).1 hx
      have hp := hd
      rw [← List.take_append_drop m d.toList, List.pairwise_append] at hp
      refine hp.2.2 x hx' _ ?_
      rw [List.drop_eq_getElem_cons (by simpa using hmd), hget]
      simp
    rw [Lib.compactUpTo_succ]
    by_cases hk : Lib.keeps d m = true
    · rw [if_pos hk]
      have hlt : ∀ x ∈ Lib.compactUpTo d m, x < d[m]! := by
        intro x hx
        rcases Nat.eq_zero_or_pos m with h0 | h0
        · subst h0; simp [Lib.compactUpTo] at hx
        · have hne : d[m]! ≠ d[m - 1]! := by
            intro e
            rw [Lib.keeps_neg h0 e] at hk
            cases hk
          have hxj := h3 x hx (m - 1) (by omega)
          refine bs_lt (hle x hx) ?_
          intro e
          have hm1 : d[m - 1]! ≤ d[m]! := by
            have hmem : d[m - 1]! ∈ d.toList.take m := by
              have : m - 1 < d.size := by omega
              rw [show d[m - 1]! = d[m - 1] by simp [this], List.mem_take_iff_getElem]
              exact ⟨m - 1, by simp; omega, by simp⟩
            have hp := hd
            rw [← List.take_append_drop m d.toList, List.pairwise_append] at hp
            refine hp.2.2 _ hmem _ ?_
            rw [List.drop_eq_getElem_cons (by simpa using hmd), hget]
            simp
          rw [e] at hxj
          exact hne (List.le_antisymm hxj hm1)
      refine ⟨asc_push h1 hlt, fun x => ?_, fun x hx j hj => ?_⟩
      · rw [htake, List.mem_append, List.mem_append, h2]
      · obtain rfl : j = m := by omega
        rcases List.mem_append.1 hx with h | h
        · exact hle x h
        · simp only [List.mem_singleton] at h; rw [h]; exact List.le_refl _
    · have hk' : Lib.keeps d m = false := by simpa using hk
      rw [if_neg hk, List.append_nil]
      have h0 : 0 < m := by
        rcases Nat.eq_zero_or_pos m with h0 | h0
        · subst h0; rw [Lib.keeps_lt_one d 0 (by omega)] at hk'; cases hk'
        · exact h0
      have he : d[m]! = d[m - 1]! := by
        apply Classical.byContradiction
        intro hne
        rw [Lib.keeps_pos hne] at hk'
        cases hk'
      refine ⟨h1, fun x => ?_, fun x hx j hj => ?_⟩
      · rw [htake, List.mem_append, h2]
        constructor
        · exact Or.inl
        · rintro (h | h)
          · exact h
          · simp only [List.mem_singleton] at h
            rw [h, he]
            have : m - 1 < d.size := by omega
            rw [show d[m - 1]! = d[m - 1] by simp [this], List.mem_take_iff_getElem]
            exact ⟨m - 1, by simp; omega, by simp⟩
      · obtain rfl : j = m := by omega
        exact hle x hx
def sortB (ls : List Bs) : List Bs := ls.mergeSort fun x y => decide (x ≤ y)
def setB (ls : List Bs) : List Bs := Lib.compact (sortB ls)
theorem sortB_le (ls : List Bs) : (sortB ls).Pairwise (· ≤ ·) := by
  have := List.pairwise_mergeSort (le := fun (x y : Bs) => decide (x ≤ y)) (fun a b c h1 h2 => by simp at *; exact List.le_trans h1 h2) (fun a b => by simp; exact List.le_total a b) ls
  unfold sortB
  simpa using this
theorem sortB_mem (ls : List Bs) (x : Bs) : x ∈ sortB ls ↔ x ∈ ls := (List.mergeSort_perm ls _).mem_iff
theorem sortB_len (ls : List Bs) : (sortB ls).length = ls.length := (List.mergeSort_perm ls _).length_eq
theorem setB_asc (ls : List Bs) : Asc (setB ls) := (mem_compactUpTo (sortB ls).toArray (by simpa using sortB_le ls) _ (by simp)).1
theorem setB_mem (ls : List Bs) (x : Bs) : x ∈ setB ls ↔ x ∈ ls := by
  have := (mem_compactUpTo (sortB ls).toArray (by simpa using sortB_le ls) (sortB ls).length (by simp)).2.1 x
  rw [show setB ls = Lib.compactUpTo (sortB ls).toArray (sortB ls).length from rfl, this]
  simp [sortB_mem]
theorem compact_len (zs : List Bs) : (Lib.compact zs).length ≤ zs.length := by
  show (((List.range zs.length).filter _).map _).length ≤ _
  rw [List.length_map]
  exact Nat.le_trans (List.length_filter_le _ _) (by simp)
theorem setB_unique {ls r : List Bs} (ha : Asc r) (hm : ∀ x, x ∈ r ↔ x ∈ ls) : r = setB ls := asc_ext ha (setB_asc ls) fun x => by rw [hm, setB_mem]
structure InsInv (l : List Bs) (s : Bs) (k : Nat) (d : Bool) (out : List Bs) : Prop where
  asc : Asc out
  mem : ∀ x, x ∈ out ↔ x ∈ l.take k ∨ (d = true ∧ x = s)
  big : d = true → ∃ y ∈ l.take k, s < y
  small : d = false → ∀ x ∈ l.take k, x < s
  len : out.length ≤ k + (if d then 1 else 0)
theorem InsInv.start (l : List Bs) (s : Bs) : InsInv l s 0 false [] := ⟨by simp [Asc], by simp, by simp, by simp, by simp⟩
theorem take_snoc {l : List Bs} {k : Nat} {y : Bs} (hy : l[k]? = some y) : l.take (k + 1) = l.take k ++ [y] := by
  rw [List.take_add_one, hy]; rfl
theorem InsInv.plain {l : List Bs} {s : Bs} {k : Nat} {out : List Bs} {y : Bs} (h : InsInv l s k false out) (hl : Asc l) (hy : l[k]? = some y) (hs : y < s) : InsInv l s (k + 1) false (out ++ [y]) := by
  refine ⟨asc_push h.asc fun x hx => ?_, fun x => ?_, by simp, fun _ x hx => ?_, by have := h.len; simp at this ⊢; omega⟩
  · rcases (h.mem x).1 hx with h' | h'
    · exact asc_get hl h' hy
    · simp at h'
  · rw [take_snoc hy]; simp [h.mem]
  · rw [take_snoc hy] at hx
    rcases List.mem_append.1 hx with h' | h'
    · exact h.small rfl x h'
    · simp at h'; rw [h']; exact hs
theorem InsInv.ins {l : List Bs} {s : Bs} {k : Nat} {out : List Bs} {y : Bs} (h : InsInv l s k false out) (hy : l[k]? = some y) (hs : s < y) : InsInv l s (k + 1) true (out ++ [s] ++ [y]) := by
  have h1 : Asc (out ++ [s]) := asc_push h.asc fun x hx => by
    rcases (h.mem x).1 hx with h' | h'
    · exact h.small rfl x h'
    · simp at h'
  refine ⟨asc_push h1 fun x hx => ?_, fun x => ?_, fun _ => ⟨y, by rw [take_snoc hy]; simp, hs⟩, by simp, by have := h.len; simp at this ⊢; omega⟩
  · rcases List.mem_append.1 hx with h' | h'
    · rcases (h.mem x).1 h' with h' | h'
      · exact List.lt_trans (h.small rfl x h') hs
      · simp at h'
    · simp at h'; rw [h']; exact hs
  · rw [take_snoc hy]
    simp only [List.mem_append, List.mem_singleton, h.mem]
    constructor
    · rintro ((h | h) | h)
      · rcases h with h | ⟨h, _⟩
        · exact .inl (.inl h)
        · cases h
      · exact .inr ⟨trivial, h⟩
      · exact .inl (.inr h)
    · rintro ((h | h) | ⟨_, h⟩)
      · exact .inl (.inl (.inl h))
      · exact .inr h
      · exact .inl (.inr h)
theorem InsInv.after {l : List Bs} {s : Bs} {k : Nat} {out : List Bs} {y : Bs} (h : InsInv l s k true out) (hl : Asc l) (hy : l[k]? = some y) : InsInv l s (k + 1) true (out ++ [y]) := by
  obtain ⟨z, hz, hsz⟩ := h.big rfl
  refine ⟨asc_push h.asc fun x hx => ?_, fun x => ?_, fun _ => ⟨z, by rw [take_snoc hy]; simp [hz], hsz⟩, by simp, by have := h.len; simp at this ⊢; omega⟩
  · rcases (h.mem x).1 hx with h' | ⟨_, h'⟩
    · exact asc_get hl h' hy
    · rw [h']; exact List.lt_trans hsz (asc_get hl hz hy)
  · rw [take_snoc hy]
    simp only [List.mem_append, List.mem_singleton, h.mem]
    constructor
    · rintro ((h | h) | h)
      · exact .inl (.inl h)
      · exact .inr h
      · exact .inl (.inr h)
    · rintro ((h | h) | h)
      · exact .inl (.inl h)
      · exact .inr h
      · exact .inl (.inr h)
def InsRes (l : List Bs) (s : Bs) (r : List Bs) : Prop := Asc r ∧ (∀ x, x ∈ r ↔ x ∈ l ∨ x = s) ∧ r.length ≤ l.length + 1
theorem InsInv.doneT {l : List Bs} {s : Bs} {k : Nat} {out : List Bs} (h : InsInv l s k true out) (hk : k = l.length) : InsRes l s out := by
  subst hk
  refine ⟨h.asc, fun x => ?_, by have := h.len; simp at this; omega⟩
  rw [h.mem, List.take_of_length_le (Nat.le_refl _)]; simp
theorem InsInv.doneF {l : List Bs} {s : Bs} {k : Nat} {out : List Bs} (h : InsInv l s k false out) (hk : k = l.length) : InsRes l s (out ++ [s]) := by
  subst hk
  refine ⟨asc_push h.asc fun x hx => ?_, fun x => ?_, by have := h.len; simp at this ⊢; omega⟩
  · rcases (h.mem x).1 hx with h' | h'
    · exact h.small rfl x h'
    · simp at h'
  · rw [List.mem_append, h.mem, List.take_of_length_le (Nat.le_refl _)]; simp
theorem InsRes.same {l : List Bs} {s : Bs} (h : Asc l) (hs : s ∈ l) : InsRes l s l := ⟨h, fun x => ⟨Or.inl, fun h' => by rcases h' with h' | h'; exact h'; rw [h']; exact hs⟩, by omega⟩
end Go.Proofs.YtjglmjdfndcmmaaGreat

set_option linter.all false
namespace Go.Proofs.YtjglmjdfndcmmaaGreat
open Go.RowKit
def letterB (c : Int) : Bool := decide (65 ≤ c ∧ c ≤ 90) || decide (97 ≤ c ∧ c ≤ 122)
def partB (c : Int) : Bool := letterB c || decide (48 ≤ c ∧ c ≤ 57) || decide (c = 95) || decide (c = 45) || decide (c = 46)
def byteAt (s : ByteArray) (i : Nat) : Int := (((s.data.toList[i]?).getD 0).toNat : Int)
def isNameB (s : ByteArray) : Bool := decide (1 ≤ s.size) && decide (s.size ≤ 40) && letterB (byteAt s 0) && (List.range s.size).all fun i => partB (byteAt s i)
theorem letter_yes {c : Int} (h : (65 ≤ c ∧ c ≤ 90) ∨ (97 ≤ c ∧ c ≤ 122)) : letterB c = true := by unfold letterB; simp; omega
theorem letter_no {c : Int} (h : ¬ ((65 ≤ c ∧ c ≤ 90) ∨ (97 ≤ c ∧ c ≤ 122))) : letterB c = false := by unfold letterB; simp; omega
theorem part_letter {c : Int} (h : letterB c = true) : partB c = true := by unfold partB; simp [h]
theorem part_other {c : Int} (h : letterB c = false) : partB c = (decide (48 ≤ c ∧ c ≤ 57) || decide (c = 95) || decide (c = 45) || decide (c = 46)) := by unfold partB; simp [h]
theorem byteAt_eq (s : ByteArray) (i : Nat) (h : i < s.size) : byteAt s i = (s[i].toNat : Int) := by
  unfold byteAt
  rw [List.getElem?_eq_getElem (by simpa using h)]
  rfl
set_option maxHeartbeats 400000 in
theorem letter_any (c : Int) (w : World) : Calls Tryz.prog 87 #[.int .u8 c] w fun e w' => e = .returned (.bool (letterB c)) ∧ w = w' := by
  by_cases h1 : 65 ≤ c <;> by_cases h2 : c ≤ 90 <;> by_cases h3 : 97 ≤ c <;> by_cases h4 : c ≤ 122
  all_goals first
    | (exfalso; omega)
    | (go_enter Tryz.func87, Tryz.ntmps87
       go_wp2
       go_ret
       exact ⟨ret_bool (by first | exact (letter_yes (by omega)).symm | exact (letter_no (by omega)).symm), rfl⟩)
set_option maxHeartbeats 400000 in
theorem letter_ref (c : Int) (w : World) : Calls Tryz.prog 91 #[.int .u8 c] w fun e w' => e = .returned (.bool (letterB c)) ∧ w = w' := by
  by_cases h1 : 65 ≤ c <;> by_cases h2 : c ≤ 90 <;> by_cases h3 : 97 ≤ c <;> by_cases h4 : c ≤ 122
  all_goals first
    | (exfalso; omega)
    | (go_enter Tryz.func91, Tryz.ntmps91
       go_wp2
       go_ret
       exact ⟨ret_bool (by first | exact (letter_yes (by omega)).symm | exact (letter_no (by omega)).symm), rfl⟩)
set_option maxHeartbeats 400000 in
theorem part_any (c : Int) (w : World) : Calls Tryz.prog 88 #[.int .u8 c] w fun e w' => e = .returned (.bool (partB c)) ∧ w = w' := by
  have HC := Lib.hid (letter_any c)
  cases hl : letterB c with
  | true =>
    have hp := Lib.hid (part_letter hl)
    have HC' : Hid (∀ w, Calls Tryz.prog 87 #[.int .u8 c] w fun e w' => e = .returned (.bool true) ∧ w = w') := fun w => by have := HC.out w; rwa [hl] at this
    clear hl HC
    go_enter Tryz.func88, Tryz.ntmps88
    go_wp2_with (go_at_call 87; refine (HC'.out _).mono ?_; rintro e w' ⟨rfl, rfl⟩)
    go_ret
    exact ⟨ret_bool hp.out.symm, rfl⟩
  | false =>
    have hp := Lib.hid (part_other hl)
    have HC' : Hid (∀ w, Calls Tryz.prog 87 #[.int .u8 c] w fun e w' => e = .returned (.bool false) ∧ w = w') := fun w => by have := HC.out w; rwa [hl] at this
    clear hl HC
    generalize partB c = pb at *
    by_cases h1 : 48 ≤ c <;> by_cases h2 : c ≤ 57
    all_goals first
      | (exfalso; omega)
      | (go_enter Tryz.func88, Tryz.ntmps88
         go_wp2_with (go_at_call 87; refine (HC'.out _).mono ?_; rintro e w' ⟨rfl, rfl⟩)
         all_goals
           go_ret
           refine ⟨ret_bool ?_, rfl⟩
           rw [hp.out, Bool.eq_iff_iff]
           simp
           omega)
theorem isName_size {s : ByteArray} (h : ¬ (1 ≤ s.size ∧ s.size ≤ 40)) : isNameB s = false := by
  unfold isNameB
  by_cases h1 : 1 ≤ s.size
  · have : ¬ s.size ≤ 40 := fun h2 => h ⟨h1, h2⟩
    simp [this]
  · simp [h1]
theorem isName_first {s : ByteArray} (h : letterB (byteAt s 0) = false) : isNameB s = false := by
  unfold isNameB; simp [h]
theorem isName_bad {s : ByteArray} {k : Nat} (hk : k < s.size) (h : partB (byteAt s k) = false) : isNameB s = false := by
  unfold isNameB
  have : (List.range s.size).all (fun i => partB (byteAt s i)) = false := by
    rw [List.all_eq_false]; exact ⟨k, List.mem_range.2 hk, by simp [h]⟩
  simp [this]
theorem isName_ok {s : ByteArray} (h1 : 1 ≤ s.size) (h2 : s.size ≤ 40) (h3 : letterB (byteAt s 0) = true) (h : ∀ j, j < s.size → partB (byteAt s j) = true) : isNameB s = true := by
  unfold isNameB
  have : (List.range s.size).all (fun i => partB (byteAt s i)) = true := by
    rw [List.all_eq_true]; exact fun j hj => h j (List.mem_range.1 hj)
  simp [this, h1, h2, h3]
set_option maxHeartbeats 400000 in
theorem isName_any (s : ByteArray) (w : World) (hs : s.size ≤ maxLen) : Calls Tryz.prog 66 #[.string s] w fun e w' => e = .returned (.bool (isNameB s)) ∧ w = w' := by
  unfold maxLen at hs
  by_cases h1 : 1 ≤ s.size
  · by_cases h2 : s.size ≤ 40
    · cases hl : letterB (byteAt s 0) with
      | false =>
        have HE := Lib.hid (isName_first hl)
        have HC : Hid (∀ w, Calls Tryz.prog 87 #[.int .u8 (s[0].toNat : Int)] w fun e w' => e = .returned (.bool false) ∧ w = w') := fun w => by
          have := letter_any (byteAt s 0) w; rwa [hl, byteAt_eq s 0 (by omega)] at this
        clear hl
        go_enter Tryz.func66, Tryz.ntmps66
        go_wp2_with (go_at_call 87; refine (HC.out _).mono ?_; rintro e w' ⟨rfl, rfl⟩)
        go_ret
        exact ⟨ret_bool HE.out.symm, rfl⟩
      | true =>
        have HL := Lib.hid hl
        have HC : Hid (∀ w, Calls Tryz.prog 87 #[.int .u8 (s[0].toNat : Int)] w fun e w' => e = .returned (.bool true) ∧ w = w') := fun w => by
          have := letter_any (byteAt s 0) w; rwa [hl, byteAt_eq s 0 (by omega)] at this
        clear hl
        go_enter Tryz.func66, Tryz.ntmps66
        go_wp2_with (go_at_call 87; refine (HC.out _).mono ?_; rintro e w' ⟨rfl, rfl⟩)
        go_loop [20] (fun i => ∃ k : Nat, 0 ≤ k ∧ k ≤ s.size ∧ i = .int .i64 k ∧ ∀ j, j < k → partB (byteAt s j) = true) (fun i => s.size - (intOf i).toNat)
        case atStart => exact ⟨0, Nat.le_refl _, by omega, rfl, fun j hj => absurd hj (by omega)⟩
        case round =>
          obtain ⟨k, hk0, hk, rfl, hp⟩ := hrel
          have HP := Lib.hid hp
          clear hp
          by_cases hlt : k < s.size
          · have hby := byteAt_eq s k hlt
            cases hq : partB (byteAt s k) with
            | true =>
              have HQ := Lib.hid hq
              have HD : Hid (∀ w, Calls Tryz.prog 88 #[.int .u8 (s[k].toNat : Int)] w fun e w' => e = .returned (.bool true) ∧ w = w') := fun w => by
                have := part_any (byteAt s k) w; rwa [hq, hby] at this
              clear hq hby
              go_wp2_with (go_at_call 88; refine (HD.out _).mono ?_; rintro e w' ⟨rfl, rfl⟩)
              go_round
              case rel => exact ⟨k + 1, by omega, by omega, by go_num, fun j hj => by
                by_cases e : j = k
                · subst e; exact HQ.out
                · exact HP.out j (by omega)⟩
              case measure => simp [intOf]; omega
            | false =>
              have HE := Lib.hid (isName_bad hlt hq)
              have HD : Hid (∀ w, Calls Tryz.prog 88 #[.int .u8 (s[k].toNat : Int)] w fun e w' => e = .returned (.bool false) ∧ w = w') := fun w => by
                have := part_any (byteAt s k) w; rwa [hq, hby] at this
              clear hq hby
              go_wp2_with (go_at_call 88; refine (HD.out _).mono ?_; rintro e w' ⟨rfl, rfl⟩)
              go_ret
              exact ⟨ret_bool HE.out.symm, rfl⟩
          · go_wp2_with fail
            go_ret
            exact ⟨ret_bool (isName_ok h1 h2 HL.out (fun j hj => HP.out j (by omega))).symm, rfl⟩
    · have HE := Lib.hid (isName_size (s := s) (by omega))
      go_enter Tryz.func66, Tryz.ntmps66
      go_wp2_with fail
      go_ret
      exact ⟨ret_bool HE.out.symm, rfl⟩
  · have HE := Lib.hid (isName_size (s := s) (by omega))
    go_enter Tryz.func66, Tryz.ntmps66
    go_wp2_with fail
    go_ret
    exact ⟨ret_bool HE.out.symm, rfl⟩
set_option maxHeartbeats 400000 in
theorem isName_ref (s : ByteArray) (w : World) (hs : s.size ≤ maxLen) : Calls Tryz.prog 68 #[.string s] w fun e w' => e = .returned (.bool (isNameB s)) ∧ w = w' := by
  unfold maxLen at hs
  by_cases h1 : 1 ≤ s.size
  · by_cases h2 : s.size ≤ 40
    · cases hl : letterB (byteAt s 0) with
      | false =>
        have HE := Lib.hid (isName_first hl)
        have HC : Hid (∀ w, Calls Tryz.prog 91 #[.int .u8 (s[0].toNat : Int)] w fun e w' => e = .returned (.bool false) ∧ w = w') := fun w => by
          have := letter_ref (byteAt s 0) w; rwa [hl, byteAt_eq s 0 (by omega)] at this
        clear hl
        go_enter Tryz.func68, Tryz.ntmps68
        go_wp2_with (go_at_call 91; refine (HC.out _).mono ?_; rintro e w' ⟨rfl, rfl⟩)
        go_ret
        exact ⟨ret_bool HE.out.symm, rfl⟩
      | true =>
        have HL := Lib.hid hl
        have HC : Hid (∀ w, Calls Tryz.prog 91 #[.int .u8 (s[0].toNat : Int)] w fun e w' => e = .returned (.bool true) ∧ w = w') := fun w => by
          have := letter_ref (byteAt s 0) w; rwa [hl, byteAt_eq s 0 (by omega)] at this
        clear hl
        go_enter Tryz.func68, Tryz.ntmps68
        go_wp2_with (go_at_call 91; refine (HC.out _).mono ?_; rintro e w' ⟨rfl, rfl⟩)
        go_loop [3] (fun i => ∃ k : Nat, 1 ≤ k ∧ k ≤ s.size ∧ i = .int .i64 k ∧ ∀ j, j < k → partB (byteAt s j) = true) (fun i => s.size - (intOf i).toNat)
        case atStart => exact ⟨1, Nat.le_refl _, by omega, rfl, fun j hj => by rw [show j = 0 from by omega]; exact part_letter HL.out⟩
        case round =>
          obtain ⟨k, hk0, hk, rfl, hp⟩ := hrel
          have HP := Lib.hid hp
          clear hp
          by_cases hlt : k < s.size
          · have hby := byteAt_eq s k hlt
            cases hq : letterB (byteAt s k) with
            | true =>
              have HQ := Lib.hid (part_letter hq)
              have HD : Hid (∀ w, Calls Tryz.prog 91 #[.int .u8 (s[k].toNat : Int)] w fun e w' => e = .returned (.bool true) ∧ w = w') := fun w => by
                have := letter_ref (byteAt s k) w; rwa [hq, hby] at this
              clear hq hby
              go_wp2_with (go_at_call 91; refine (HD.out _).mono ?_; rintro e w' ⟨rfl, rfl⟩)
              go_round
              case rel => exact ⟨k + 1, by omega, by omega, by go_num, fun j hj => by
                by_cases e : j = k
                · subst e; exact HQ.out
                · exact HP.out j (by omega)⟩
              case measure => simp [intOf]; omega
            | false =>
              have HQ := Lib.hid (part_other hq)
              have HD : Hid (∀ w, Calls Tryz.prog 91 #[.int .u8 (s[k].toNat : Int)] w fun e w' => e = .returned (.bool false) ∧ w = w') := fun w => by
                have := letter_ref (byteAt s k) w; rwa [hq, hby] at this
              have HY : Hid (partB (byteAt s k) = (decide (48 ≤ (s[k].toNat : Int) ∧ (s[k].toNat : Int) ≤ 57) || decide ((s[k].toNat : Int) = 95) || decide ((s[k].toNat : Int) = 45) || decide ((s[k].toNat : Int) = 46))) := by rw [← hby]; exact HQ.out
              clear hq hby HQ
              go_wp2_with (go_at_call 91; refine (HD.out _).mono ?_; rintro e w' ⟨rfl, rfl⟩)
              all_goals first
                | (go_ret
                   exact ⟨ret_bool (isName_bad hlt (by rw [HY.out]; go_light; simp at *; omega)).symm, rfl⟩)
                | (go_round
                   case rel => exact ⟨k + 1, by omega, by omega, by go_num, fun j hj => by
                     by_cases e : j = k
                     · subst e; rw [HY.out]; go_light; simp at *; omega
                     · exact HP.out j (by omega)⟩
                   case measure => simp [intOf]; omega)
          · go_wp2_with fail
            go_ret
            exact ⟨ret_bool (isName_ok h1 h2 HL.out (fun j hj => HP.out j (by omega))).symm, rfl⟩
    · have HE := Lib.hid (isName_size (s := s) (by omega))
      go_enter Tryz.func68, Tryz.ntmps68
      go_wp2_with fail
      go_ret
      exact ⟨ret_bool HE.out.symm, rfl⟩
  · have HE := Lib.hid (isName_size (s := s) (by omega))
    go_enter Tryz.func68, Tryz.ntmps68
    go_wp2_with fail
    go_ret
    exact ⟨ret_bool HE.out.symm, rfl⟩
end Go.Proofs.YtjglmjdfndcmmaaGreat
