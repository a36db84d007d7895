/- Words for memory: a slice value that reads as a list, whatever the number of cells of an element; what keeps such a reading. No program in sight. -/
import Derived.WalkKit
import Derived.WalkSpells
import Derived.WalkLawsBesides
import Derived.Lib.Hide
import Derived.Deep.Draws
import Derived.Deep.OwnRows
set_option linter.all false
namespace Go.Proofs.Ytilmdlkfmkbfmaa
open Go.RowKit

def Fit (z : Int) : Prop := -9223372036854775808 ≤ z ∧ z ≤ 9223372036854775807

theorem block_add (a : Addr) (n : Nat) : (a.add n).block = a.block := by unfold Addr.add; split <;> rfl
theorem add_add' (a : Addr) (i j : Nat) : (a.add i).add j = a.add (i + j) := by
  unfold Addr.add
  by_cases hi : i = 0 <;> by_cases hj : j = 0 <;> simp [hi, hj, Nat.add_assoc]

/-- The blocks of D are the same in both worlds. -/
def Same (D : Nat → Prop) (w w' : World) : Prop := ∀ b, D b → w'.heap[b]? = w.heap[b]?
def Lt (B b : Nat) : Prop := b < B

theorem Same.refl (D : Nat → Prop) (w : World) : Same D w w := fun _ _ => rfl
theorem Same.trans {D : Nat → Prop} {a b c : World} (h : Same D a b) (k : Same D b c) : Same D a c := fun x hx => (k x hx).trans (h x hx)
theorem Same.mono {D D' : Nat → Prop} {a b : World} (h : Same D a b) (hd : ∀ x, D' x → D x) : Same D' a b := fun x hx => h x (hd x hx)
theorem Same.of_below {B : Nat} {w w' : World} (h : Below B w w') : Same (Lt B) w w' := fun b hb => h.block b hb
theorem Same.cell {D : Nat → Prop} {w w' : World} (h : Same D w w') {p : Addr} (hp : D p.block) : w'.cell? p = w.cell? p :=
  World.cell?_of_block (h p.block hp)

/-- How the cells of one element read. -/
abbrev ElemR (α : Type) := (Nat → Prop) → World → α → List Value → Prop
def ElemR.Kept {α : Type} (R : ElemR α) : Prop := ∀ (D D' : Nat → Prop) (w w' : World) (x : α) (cs : List Value), (∀ b, D b → D' b) → Same D w w' → R D w x cs → R D' w' x cs

def Sl {α : Type} (size : Nat) (R : ElemR α) (D : Nat → Prop) (w : World) (v : Value) (xs : List α) : Prop :=
  ∃ (A : Option Addr) (c : Nat), v = .slice A xs.length c ∧ xs.length ≤ c ∧ c ≤ maxLen ∧
    ∀ i x, xs[i]? = some x → ∃ b o cs, A = some ⟨b, o, none⟩ ∧ D b ∧ cs.length = size ∧ R D w x cs ∧ ∀ j u, cs[j]? = some u → w.cell? ⟨b, o + i * size + j, none⟩ = some u

section
variable {α : Type} {size : Nat} {R : ElemR α} {D D' : Nat → Prop} {w w' : World} {v : Value} {xs : List α}

theorem Sl.keep (h : Sl size R D w v xs) (hR : ElemR.Kept R) (hd : ∀ b, D b → D' b) (hs : Same D w w') : Sl size R D' w' v xs := by
  obtain ⟨A, c, hv, h1, h2, h3⟩ := h
  refine ⟨A, c, hv, h1, h2, fun i x hx => ?_⟩
  obtain ⟨b, o, cs, hA, hD, hl, hr, hc⟩ := h3 i x hx
  exact ⟨b, o, cs, hA, hd _ hD, hl, hR _ _ _ _ _ _ hd hs hr, fun j u hu => (hs.cell hD).trans (hc j u hu)⟩

theorem Sl.below {B B' : Nat} (h : Sl size R (Lt B) w v xs) (hR : ElemR.Kept R) (hb : Below B w w') (hB : B ≤ B') : Sl size R (Lt B') w' v xs :=
  h.keep hR (fun _ hx => Nat.lt_of_lt_of_le hx hB) (Same.of_below hb)

/-- One cell an element: what the walk asks at index k. -/
theorem Sl.at1 {A : Option Addr} {n c k : Nat} (h : Sl 1 R D w (.slice A n c) xs) (hk : k < n) :
    ∃ b o x u, A = some ⟨b, o, none⟩ ∧ D b ∧ xs[k]? = some x ∧ R D w x [u] ∧ w.cell? ⟨b, o + k, none⟩ = some u := by
  obtain ⟨A', c', hv, h1, h2, h3⟩ := h
  injection hv with hA hn hc
  subst hA hn hc
  obtain ⟨b, o, cs, hA, hD, hl, hr, hcell⟩ := h3 k xs[k] (List.getElem?_eq_getElem hk)
  match cs, hl with
  | [u], _ => exact ⟨b, o, xs[k], u, hA, hD, List.getElem?_eq_getElem hk, hr, by simpa using hcell 0 u rfl⟩

theorem Sl.at2 {A : Option Addr} {n c k : Nat} (h : Sl 2 R D w (.slice A n c) xs) (hk : k < n) :
    ∃ b o x u0 u1, A = some ⟨b, o, none⟩ ∧ D b ∧ xs[k]? = some x ∧ R D w x [u0, u1] ∧ w.cell? ⟨b, o + k * 2, none⟩ = some u0 ∧ w.cell? ⟨b, o + k * 2 + 1, none⟩ = some u1 := by
  obtain ⟨A', c', hv, h1, h2, h3⟩ := h
  injection hv with hA hn hc
  subst hA hn hc
  obtain ⟨b, o, cs, hA, hD, hl, hr, hcell⟩ := h3 k xs[k] (List.getElem?_eq_getElem hk)
  match cs, hl with
  | [u0, u1], _ => exact ⟨b, o, xs[k], u0, u1, hA, hD, List.getElem?_eq_getElem hk, hr, hcell 0 u0 rfl, hcell 1 u1 rfl⟩

theorem Sl.at3 {A : Option Addr} {n c k : Nat} (h : Sl 3 R D w (.slice A n c) xs) (hk : k < n) :
    ∃ b o x u0 u1 u2, A = some ⟨b, o, none⟩ ∧ D b ∧ xs[k]? = some x ∧ R D w x [u0, u1, u2] ∧ w.cell? ⟨b, o + k * 3, none⟩ = some u0 ∧ w.cell? ⟨b, o + k * 3 + 1, none⟩ = some u1 ∧ w.cell? ⟨b, o + k * 3 + 2, none⟩ = some u2 := by
  obtain ⟨A', c', hv, h1, h2, h3⟩ := h
  injection hv with hA hn hc
  subst hA hn hc
  obtain ⟨b, o, cs, hA, hD, hl, hr, hcell⟩ := h3 k xs[k] (List.getElem?_eq_getElem hk)
  match cs, hl with
  | [u0, u1, u2], _ => exact ⟨b, o, xs[k], u0, u1, u2, hA, hD, List.getElem?_eq_getElem hk, hr, hcell 0 u0 rfl, hcell 1 u1 rfl, hcell 2 u2 rfl⟩

/-- All of a row of one cell an element, at one address: for the shelf's contracts. -/
theorem Sl.row1 {A : Option Addr} {n c : Nat} (h : Sl 1 R D w (.slice A n c) xs) (hn : 0 < n) :
    ∃ b o, A = some ⟨b, o, none⟩ ∧ D b ∧ n = xs.length ∧ ∀ k x, xs[k]? = some x → ∃ u, R D w x [u] ∧ w.cell? ⟨b, o + k, none⟩ = some u := by
  obtain ⟨b, o, x, u, hA, hD, _, _, _⟩ := h.at1 hn
  obtain ⟨A', c', hv, h1, h2, h3⟩ := h
  injection hv with hA' hn' hc
  refine ⟨b, o, hA, hD, hn', fun k y hy => ?_⟩
  obtain ⟨b', o', cs, hA'', hD', hl, hr, hcell⟩ := h3 k y hy
  have e : (⟨b, o, none⟩ : Addr) = ⟨b', o', none⟩ := by
    have : some (⟨b, o, none⟩ : Addr) = some ⟨b', o', none⟩ := by rw [← hA, hA', hA'']
    injection this
  injection e with e1 e2 _
  subst e1 e2
  match cs, hl with
  | [u], _ => exact ⟨u, hr, by simpa using hcell 0 u rfl⟩

theorem Sl.open_ (h : Sl size R D w v xs) : ∃ A c, v = .slice A xs.length c ∧ xs.length ≤ c ∧ c ≤ 9223372036854775807 ∧ Sl size R D w (.slice A xs.length c) xs := by
  obtain ⟨A, c, hv, h1, h2, h3⟩ := h
  unfold maxLen at h2
  exact ⟨A, c, hv, h1, h2, A, c, rfl, h1, by unfold maxLen; exact h2, h3⟩

theorem Sl.none_ : Sl size R D w (.slice none 0 0) ([] : List α) := ⟨none, 0, rfl, Nat.le_refl _, Nat.zero_le _, fun i x hx => by simp at hx⟩
end

def RInt : ElemR Int := fun _ _ z cs => cs = [.int .i64 z] ∧ Fit z
def RStr : ElemR ByteArray := fun _ _ s cs => cs = [.string s] ∧ s.size ≤ maxLen
def RBool : ElemR Bool := fun _ _ b cs => cs = [.bool b]
theorem RInt.kept : ElemR.Kept RInt := fun _ _ _ _ _ _ _ _ h => h
theorem RStr.kept : ElemR.Kept RStr := fun _ _ _ _ _ _ _ _ h => h
theorem RBool.kept : ElemR.Kept RBool := fun _ _ _ _ _ _ _ _ h => h
def SlI := Sl 1 RInt
def SlS := Sl 1 RStr
def SlB := Sl 1 RBool
def RRow : ElemR (List Int) := fun D w r cs => ∃ v, cs = [v] ∧ SlI D w v r
theorem RRow.kept : ElemR.Kept RRow := by
  rintro D D' w w' x cs hd hs ⟨v, rfl, h⟩
  exact ⟨v, rfl, Sl.keep h RInt.kept hd hs⟩
def SlII := Sl 1 RRow

section
variable {D D' : Nat → Prop} {w w' : World} {v : Value}
theorem SlI.below {zs : List Int} {B B' : Nat} (h : SlI (Lt B) w v zs) (hb : Below B w w') (hB : B ≤ B') : SlI (Lt B') w' v zs := Sl.below h RInt.kept hb hB
theorem SlS.below {zs : List ByteArray} {B B' : Nat} (h : SlS (Lt B) w v zs) (hb : Below B w w') (hB : B ≤ B') : SlS (Lt B') w' v zs := Sl.below h RStr.kept hb hB
theorem SlB.below {zs : List Bool} {B B' : Nat} (h : SlB (Lt B) w v zs) (hb : Below B w w') (hB : B ≤ B') : SlB (Lt B') w' v zs := Sl.below h RBool.kept hb hB
theorem SlII.below {zs : List (List Int)} {B B' : Nat} (h : SlII (Lt B) w v zs) (hb : Below B w w') (hB : B ≤ B') : SlII (Lt B') w' v zs := Sl.below h RRow.kept hb hB
theorem SlI.open_ {zs : List Int} (h : SlI D w v zs) : ∃ A c, v = .slice A zs.length c ∧ zs.length ≤ c ∧ c ≤ 9223372036854775807 ∧ SlI D w (.slice A zs.length c) zs := Sl.open_ h
theorem SlS.open_ {zs : List ByteArray} (h : SlS D w v zs) : ∃ A c, v = .slice A zs.length c ∧ zs.length ≤ c ∧ c ≤ 9223372036854775807 ∧ SlS D w (.slice A zs.length c) zs := Sl.open_ h
theorem SlB.open_ {zs : List Bool} (h : SlB D w v zs) : ∃ A c, v = .slice A zs.length c ∧ zs.length ≤ c ∧ c ≤ 9223372036854775807 ∧ SlB D w (.slice A zs.length c) zs := Sl.open_ h
theorem SlII.open_ {zs : List (List Int)} (h : SlII D w v zs) : ∃ A c, v = .slice A zs.length c ∧ zs.length ≤ c ∧ c ≤ 9223372036854775807 ∧ SlII D w (.slice A zs.length c) zs := Sl.open_ h
theorem SlI.at_ {zs : List Int} {A : Option Addr} {n c k : Nat} (h : SlI D w (.slice A n c) zs) (hk : k < n) :
    ∃ b o z, A = some ⟨b, o, none⟩ ∧ D b ∧ zs[k]? = some z ∧ Fit z ∧ w.cell? ⟨b, o + k, none⟩ = some (.int .i64 z) := by
  obtain ⟨b, o, x, u, hA, hD, hx, ⟨hu, hf⟩, hc⟩ := Sl.at1 h hk
  injection hu with hu; subst hu
  exact ⟨b, o, x, hA, hD, hx, hf, hc⟩
theorem SlB.at_ {zs : List Bool} {A : Option Addr} {n c k : Nat} (h : SlB D w (.slice A n c) zs) (hk : k < n) :
    ∃ b o z, A = some ⟨b, o, none⟩ ∧ D b ∧ zs[k]? = some z ∧ w.cell? ⟨b, o + k, none⟩ = some (.bool z) := by
  obtain ⟨b, o, x, u, hA, hD, hx, hu, hc⟩ := Sl.at1 h hk
  injection hu with hu; subst hu
  exact ⟨b, o, x, hA, hD, hx, hc⟩
theorem SlS.at_ {zs : List ByteArray} {A : Option Addr} {n c k : Nat} (h : SlS D w (.slice A n c) zs) (hk : k < n) :
    ∃ b o z, A = some ⟨b, o, none⟩ ∧ D b ∧ zs[k]? = some z ∧ z.size ≤ maxLen ∧ w.cell? ⟨b, o + k, none⟩ = some (.string z) := by
  obtain ⟨b, o, x, u, hA, hD, hx, ⟨hu, hf⟩, hc⟩ := Sl.at1 h hk
  injection hu with hu; subst hu
  exact ⟨b, o, x, hA, hD, hx, hf, hc⟩
theorem SlII.at_ {zs : List (List Int)} {A : Option Addr} {n c k : Nat} (h : SlII D w (.slice A n c) zs) (hk : k < n) :
    ∃ b o r u, A = some ⟨b, o, none⟩ ∧ D b ∧ zs[k]? = some r ∧ SlI D w u r ∧ w.cell? ⟨b, o + k, none⟩ = some u := by
  obtain ⟨b, o, x, u, hA, hD, hx, ⟨u', hu, hf⟩, hc⟩ := Sl.at1 h hk
  injection hu with hu; subst hu
  exact ⟨b, o, x, u, hA, hD, hx, hf, hc⟩
end

/-- A block known whole. -/
def Blk (w : World) (g : Nat) (t : TypeId) (cs : Array Value) : Prop := w.heap[g]? = some (.cells cs t (0, 0))
section
variable {w w' : World} {g : Nat} {t : TypeId} {cs : Array Value}
theorem Blk.lt (h : Blk w g t cs) : g < w.heap.size := by
  rcases Nat.lt_or_ge g w.heap.size with hlt | hge
  · exact hlt
  · unfold Blk at h; rw [Array.getElem?_eq_none hge] at h; cases h
theorem Blk.cell (h : Blk w g t cs) (i : Nat) : w.cell? ⟨g, i, none⟩ = cs[i]? := cell_of_row w g i cs t (0, 0) h
theorem Blk.frozen (h : Blk w g t cs) (i : Nat) : w.frozen? ⟨g, i, none⟩ = false := by
  unfold Blk at h
  simp [World.frozen?, h]
theorem Blk.new (w : World) (t : TypeId) (cs : Array Value) : Blk (w.alloc (.cells cs t)) w.heap.size t cs := heap_alloc_new w _
theorem Blk.drew (h : Blk w g t cs) : Blk w.drew g t cs := h
theorem Blk.drewN (h : Blk w g t cs) (n : Nat) : Blk (w.drewN n) g t cs := h
theorem Blk.alloc (h : Blk w g t cs) (o : Obj) : Blk (w.alloc o) g t cs := (Below.heap_alloc w o g h.lt).trans h
theorem Blk.set_ (h : Blk w g t cs) (i : Nat) (u : Value) : Blk (w.setCell ⟨g, i, none⟩ u) g t (cs.setIfInBounds i u) := by
  unfold Blk at h ⊢
  simp [World.setCell, Array.getElem?_modify, h]
theorem Blk.far (h : Blk w g t cs) {p : Addr} (hp : g ≠ p.block) (u : Value) : Blk (w.setCell p u) g t cs := (Below.heap_setCell w p u g hp).trans h
theorem Blk.below {B : Nat} (h : Blk w g t cs) (hb : Below B w w') (hg : g < B) : Blk w' g t cs := (hb.block g hg).trans h
theorem Blk.grown {row : Option Nat} (h : Blk w g t cs) (hb : w.grownBy w' row) (hg : some g ≠ row) : Blk w' g t cs := (hb.block g h.lt hg).trans h
end

theorem below_drewN {B : Nat} {a w : World} (h : Below B a w) (n : Nat) : Below B a (w.drewN n) := ⟨h.os, h.tape, h.output, h.size, h.block⟩
theorem below_drewN_left {B : Nat} {a w : World} (n : Nat) (h : Below B (a.drewN n) w) : Below B a w := ⟨h.os, h.tape, h.output, h.size, h.block⟩
theorem below_drew_left {B : Nat} {a w : World} (h : Below B a.drew w) : Below B a w := ⟨h.os, h.tape, h.output, h.size, h.block⟩
theorem below_step {B : Nat} {a b c : World} (h : Below B a b) (k : Below b.heap.size b c) (hB : B ≤ b.heap.size) : Below B a c := h.trans (k.mono hB)

theorem bthen {w b c : World} (h : Below w.heap.size w b) (k : Below b.heap.size b c) : Below w.heap.size w c := h.trans (k.mono h.size)
theorem bbox {w b : World} (h : Below w.heap.size w b) (o : Obj) : Below w.heap.size w (b.alloc o) := h.alloc h.size o
theorem bdrawn {B : Nat} {w b : World} (h : Below B w b) (n : Nat) : Below B w (b.drewN n) := below_drewN h n
theorem bone (w : World) (o : Obj) : Below w.heap.size w (w.alloc o) := (Below.refl _ _).alloc (Nat.le_refl _) o
section
variable {w w' : World} {v : Value}
theorem SlI.now {zs : List Int} (h : SlI (Lt w.heap.size) w v zs) (hb : Below w.heap.size w w') : SlI (Lt w'.heap.size) w' v zs := h.below hb hb.size
theorem SlS.now {zs : List ByteArray} (h : SlS (Lt w.heap.size) w v zs) (hb : Below w.heap.size w w') : SlS (Lt w'.heap.size) w' v zs := h.below hb hb.size
theorem SlB.now {zs : List Bool} (h : SlB (Lt w.heap.size) w v zs) (hb : Below w.heap.size w w') : SlB (Lt w'.heap.size) w' v zs := h.below hb hb.size
theorem SlII.now {zs : List (List Int)} (h : SlII (Lt w.heap.size) w v zs) (hb : Below w.heap.size w w') : SlII (Lt w'.heap.size) w' v zs := h.below hb hb.size
end
theorem Blk.now {w w' : World} {g : Nat} {t : TypeId} {cs : Array Value} (h : Blk w g t cs) (hb : Below w.heap.size w w') : Blk w' g t cs := h.below hb h.lt
section
variable {w : World} {g : Nat} {t : TypeId} {a b c d e f : Value}
theorem Blk.c1 (h : Blk w g t #[a]) : w.cell? ⟨g, 0, none⟩ = some a := h.cell 0
theorem Blk.c2 (h : Blk w g t #[a, b]) : w.cell? ⟨g, 0, none⟩ = some a ∧ w.cell? ⟨g, 1, none⟩ = some b := ⟨h.cell 0, h.cell 1⟩
theorem Blk.c3 (h : Blk w g t #[a, b, c]) : w.cell? ⟨g, 0, none⟩ = some a ∧ w.cell? ⟨g, 1, none⟩ = some b ∧ w.cell? ⟨g, 2, none⟩ = some c := ⟨h.cell 0, h.cell 1, h.cell 2⟩
theorem Blk.c4 (h : Blk w g t #[a, b, c, d]) : w.cell? ⟨g, 0, none⟩ = some a ∧ w.cell? ⟨g, 1, none⟩ = some b ∧ w.cell? ⟨g, 2, none⟩ = some c ∧ w.cell? ⟨g, 3, none⟩ = some d := ⟨h.cell 0, h.cell 1, h.cell 2, h.cell 3⟩
theorem Blk.c5 (h : Blk w g t #[a, b, c, d, e]) : w.cell? ⟨g, 0, none⟩ = some a ∧ w.cell? ⟨g, 1, none⟩ = some b ∧ w.cell? ⟨g, 2, none⟩ = some c ∧ w.cell? ⟨g, 3, none⟩ = some d ∧ w.cell? ⟨g, 4, none⟩ = some e := ⟨h.cell 0, h.cell 1, h.cell 2, h.cell 3, h.cell 4⟩
theorem Blk.c6 (h : Blk w g t #[a, b, c, d, e, f]) : w.cell? ⟨g, 0, none⟩ = some a ∧ w.cell? ⟨g, 1, none⟩ = some b ∧ w.cell? ⟨g, 2, none⟩ = some c ∧ w.cell? ⟨g, 3, none⟩ = some d ∧ w.cell? ⟨g, 4, none⟩ = some e ∧ w.cell? ⟨g, 5, none⟩ = some f := ⟨h.cell 0, h.cell 1, h.cell 2, h.cell 3, h.cell 4, h.cell 5⟩
end

/-- A slice built of one number. -/
theorem SlI.single {w : World} {t : TypeId} {z : Int} (hz : Fit z) : SlI (Lt (w.alloc (.cells #[.int .i64 z] t)).heap.size) (w.alloc (.cells #[.int .i64 z] t)) (.slice (some ⟨w.heap.size, 0, none⟩) 1 1) [z] := by
  refine ⟨_, 1, rfl, Nat.le_refl _, by unfold maxLen; omega, fun i x hx => ?_⟩
  match i, hx with
  | 0, hx =>
    injection hx with hx; subst hx
    refine ⟨w.heap.size, 0, [.int .i64 z], rfl, by simp [Lt], rfl, ⟨rfl, hz⟩, fun j u hu => ?_⟩
    match j, hu with
    | 0, hu => injection hu with hu; subst hu; exact (Blk.new w t #[.int .i64 z]).c1
    | j + 1, hu => simp at hu
  | i + 1, hx => simp at hx

theorem bcell {W w1 : World} (hb : Below W.heap.size W w1) : (∀ b o, b < W.heap.size → w1.cell? ⟨b, o, none⟩ = W.cell? ⟨b, o, none⟩) ∧ (∀ b o, b < W.heap.size → w1.frozen? ⟨b, o, none⟩ = W.frozen? ⟨b, o, none⟩) :=
  ⟨fun b o h => hb.cell (p := ⟨b, o, none⟩) h, fun b o h => hb.frozen (p := ⟨b, o, none⟩) h⟩

theorem ret_int {k : IntKind} {a b : Int} (h : a = b) : Ending.returned (.int k a) = .returned (.int k b) := by rw [h]
theorem ret_bool {a b : Bool} (h : a = b) : Ending.returned (.bool a) = .returned (.bool b) := by rw [h]
end Go.Proofs.Ytilmdlkfmkbfmaa
