/- Texts of this seat, merged. -/
import Derived.Shelf.SlSortCmp.WholeK
import Derived.Shelf.SlSortCmp.NoneTotal
import Derived.Shelf.SlSortCmp.InsertionK
import Derived.Ground.SlsfProg
import Derived.Test.YtoalecalahkblaaGreatDoorProg
import Derived.WalkKit
import Derived.WalkSpells
import Derived.WalkLawsBesides
import Derived.Lib.Hide
import Derived.Deep.Draws
import Derived.Deep.OwnRows
import Derived.Maps.AppendAt
import Derived.Deep.AppendLies
import Derived.RegionTactic
import Derived.OwnWalk
import Derived.Sort.LotA
import Derived.Sort.WalkA
import Derived.Lib.SlicesCompact
import Derived.Outline
import Derived.Deep.Light
set_option linter.all false
set_option linter.all false
namespace Go.Proofs
open Go.Shelf
def Tryz.sortE_ren : Go.Shelf.Ren := ⟨fun | 6 => 101 | 15 => 146 | 14 => 145 | 28 => 177 | 29 => 178 | 20 => 169 | 21 => 170 | 22 => 171 | 23 => 172 | 24 => 173 | 25 => 174 | 26 => 175 | 27 => 176 | 46 => 209 | 47 => 210 | 48 => 211 | 49 => 212 | 50 => 213 | 57 => 229 | n => n, fun | 22 => 67 | 24 => 123 | 25 => 141 | 3 => 3 | 39 => 172 | 0 => 0 | 53 => 190 | 55 => 192 | 4 => 4 | 46 => 183 | 45 => 182 | 50 => 187 | 5 => 5 | 9 => 9 | 66 => 215 | 70 => 219 | 76 => 236 | 77 => 148 | n => n, fun | n => n⟩
theorem Tryz.sortE : Go.Proofs.SlLaysF0.n6 Tryz.prog Tryz.sortE_ren := {
  mixed := by kernel_rfl
  f6 := ⟨Tryz.f101.name, by decide, Tryz.func101.trans (congrArg some (by kernel_rfl))⟩
  f14 := ⟨Tryz.f145.name, by decide, Tryz.func145.trans (congrArg some (by kernel_rfl))⟩
  f15 := Tryz.func146.trans (congrArg some (by kernel_rfl))
  f20 := ⟨Tryz.f169.name, by decide, Tryz.func169.trans (congrArg some (by kernel_rfl))⟩
  f21 := ⟨Tryz.f170.name, by decide, Tryz.func170.trans (congrArg some (by kernel_rfl))⟩
  f22 := ⟨Tryz.f171.name, by decide, Tryz.func171.trans (congrArg some (by kernel_rfl))⟩
  f23 := ⟨Tryz.f172.name, by decide, Tryz.func172.trans (congrArg some (by kernel_rfl))⟩
  f24 := ⟨Tryz.f173.name, by decide, Tryz.func173.trans (congrArg some (by kernel_rfl))⟩
  f25 := ⟨Tryz.f174.name, by decide, Tryz.func174.trans (congrArg some (by kernel_rfl))⟩
  f26 := ⟨Tryz.f175.name, by decide, Tryz.func175.trans (congrArg some (by kernel_rfl))⟩
  f27 := ⟨Tryz.f176.name, by decide, Tryz.func176.trans (congrArg some (by kernel_rfl))⟩
  f28 := Tryz.func177.trans (congrArg some (by kernel_rfl))
  f29 := Tryz.func178.trans (congrArg some (by kernel_rfl))
  f46 := ⟨Tryz.f209.name, by decide, Tryz.func209.trans (congrArg some (by kernel_rfl))⟩
  f47 := Tryz.func210.trans (congrArg some (by kernel_rfl))
  f48 := Tryz.func211.trans (congrArg some (by kernel_rfl))
  f49 := ⟨Tryz.f212.name, by decide, Tryz.func212.trans (congrArg some (by kernel_rfl))⟩
  f50 := ⟨Tryz.f213.name, by decide, Tryz.func213.trans (congrArg some (by kernel_rfl))⟩
  f57 := ⟨Tryz.f229.name, by decide, Tryz.func229.trans (congrArg some (by kernel_rfl))⟩
  t0 := Tryz.underlying0
  a0 := Tryz.isAgg0
  z0 := Tryz.sizeOf0
  v0 := Tryz.zeroValue0
  t3 := Tryz.underlying3
  a3 := Tryz.isAgg3
  z3 := Tryz.sizeOf3
  v3 := Tryz.zeroValue3
  t4 := Tryz.underlying4
  a4 := Tryz.isAgg4
  z4 := Tryz.sizeOf4
  v4 := Tryz.zeroValue4
  t5 := Tryz.underlying5
  a5 := Tryz.isAgg5
  z5 := Tryz.sizeOf5
  v5 := Tryz.zeroValue5
  t9 := Tryz.underlying9
  a9 := Tryz.isAgg9
  z9 := Tryz.sizeOf9
  v9 := Tryz.zeroValue9
  t22 := Tryz.underlying67
  a22 := Tryz.isAgg67
  z22 := Tryz.sizeOf67
  v22 := Tryz.zeroValue67
  t25 := Tryz.underlying141
  a25 := Tryz.isAgg141
  z25 := Tryz.sizeOf141
  v25 := Tryz.zeroValue141
  t39 := Tryz.underlying172
  a39 := Tryz.isAgg172
  z39 := Tryz.sizeOf172
  v39 := Tryz.zeroValue172
  t45 := Tryz.underlying182
  a45 := Tryz.isAgg182
  z45 := Tryz.sizeOf182
  v45 := Tryz.zeroValue182
  t46 := Tryz.underlying183
  a46 := Tryz.isAgg183
  z46 := Tryz.sizeOf183
  v46 := Tryz.zeroValue183
  t50 := Tryz.underlying187
  a50 := Tryz.isAgg187
  z50 := Tryz.sizeOf187
  v50 := Tryz.zeroValue187
  t53 := Tryz.underlying190
  a53 := Tryz.isAgg190
  z53 := Tryz.sizeOf190
  v53 := Tryz.zeroValue190
  t55 := Tryz.underlying192
  a55 := Tryz.isAgg192
  z55 := Tryz.sizeOf192
  v55 := Tryz.zeroValue192
  t66 := Tryz.underlying215
  a66 := Tryz.isAgg215
  z66 := Tryz.sizeOf215
  v66 := Tryz.zeroValue215
  t70 := Tryz.underlying219
  a70 := Tryz.isAgg219
  z70 := Tryz.sizeOf219
  v70 := Tryz.zeroValue219
  t76 := Tryz.underlying236
  a76 := Tryz.isAgg236
  z76 := Tryz.sizeOf236
  v76 := Tryz.zeroValue236
  t77 := Tryz.underlying148
  a77 := Tryz.isAgg148
  z77 := Tryz.sizeOf148
  v77 := Tryz.zeroValue148 }
def Tryz.insE_ren : Go.Shelf.Ren := ⟨fun | 20 => 148 | n => n, fun | 24 => 69 | 22 => 36 | 3 => 3 | 25 => 92 | 4 => 4 | 0 => 0 | n => n, fun | n => n⟩
theorem Tryz.insE : Go.Proofs.SlLaysF0.n20 Tryz.prog Tryz.insE_ren := {
  mixed := by kernel_rfl
  f20 := ⟨Tryz.f148.name, by decide, Tryz.func148.trans (congrArg some (by kernel_rfl))⟩
  t0 := Tryz.underlying0
  a0 := Tryz.isAgg0
  z0 := Tryz.sizeOf0
  v0 := Tryz.zeroValue0
  t3 := Tryz.underlying3
  a3 := Tryz.isAgg3
  z3 := Tryz.sizeOf3
  v3 := Tryz.zeroValue3
  t4 := Tryz.underlying4
  a4 := Tryz.isAgg4
  z4 := Tryz.sizeOf4
  v4 := Tryz.zeroValue4
  t22 := Tryz.underlying36
  a22 := Tryz.isAgg36
  z22 := Tryz.sizeOf36
  v22 := Tryz.zeroValue36
  t25 := Tryz.underlying92
  a25 := Tryz.isAgg92
  z25 := Tryz.sizeOf92
  v25 := Tryz.zeroValue92 }
end Go.Proofs

set_option linter.all false
namespace Go.Proofs.YtoalecalahkblaaGreatDoor
open Go.RowKit
def Fit (z : Int) : Prop := -9223372036854775808 ≤ z ∧ z ≤ 9223372036854775807
theorem add_add' (a : Addr) (i j : Nat) : (a.add i).add j = a.add (i + j) := by
  unfold Addr.add
  by_cases hi : i = 0 <;> by_cases hj : j = 0 <;> simp [hi, hj, Nat.add_assoc]
def Same (D : Nat → Prop) (w w' : World) : Prop := ∀ b, D b → w'.heap[b]? = w.heap[b]?
def Lt (B b : Nat) : Prop := b < B
theorem Same.refl (D : Nat → Prop) (w : World) : Same D w w := fun _ _ => rfl
theorem Same.trans {D : Nat → Prop} {a b c : World} (h : Same D a b) (k : Same D b c) : Same D a c := fun x hx => (k x hx).trans (h x hx)
theorem Same.mono {D D' : Nat → Prop} {a b : World} (h : Same D a b) (hd : ∀ x, D' x → D x) : Same D' a b := fun x hx => h x (hd x hx)
theorem Same.of_below {B : Nat} {w w' : World} (h : Below B w w') : Same (Lt B) w w' := fun b hb => h.block b hb
theorem Same.cell {D : Nat → Prop} {w w' : World} (h : Same D w w') {p : Addr} (hp : D p.block) : w'.cell? p = w.cell? p :=
  World.cell?_of_block (h p.block hp)
abbrev ElemR (α : Type) := (Nat → Prop) → World → α → List Value → Prop
def ElemR.Kept {α : Type} (R : ElemR α) : Prop := ∀ (D D' : Nat → Prop) (w w' : World) (x : α) (cs : List Value), (∀ b, D b → D' b) → Same D w w' → R D w x cs → R D' w' x cs
def Sl {α : Type} (size : Nat) (R : ElemR α) (D : Nat → Prop) (w : World) (v : Value) (xs : List α) : Prop :=
  ∃ (A : Option Addr) (c : Nat), v = .slice A xs.length c ∧ xs.length ≤ c ∧ c ≤ maxLen ∧
    ∀ i x, xs[i]? = some x → ∃ b o cs, A = some ⟨b, o, none⟩ ∧ D b ∧ cs.length = size ∧ R D w x cs ∧ ∀ j u, cs[j]? = some u → w.cell? ⟨b, o + i * size + j, none⟩ = some u
section
variable {α : Type} {size : Nat} {R : ElemR α} {D D' : Nat → Prop} {w w' : World} {v : Value} {xs : List α}
theorem Sl.keep (h : Sl size R D w v xs) (hR : ElemR.Kept R) (hd : ∀ b, D b → D' b) (hs : Same D w w') : Sl size R D' w' v xs := by
  obtain ⟨A, c, hv, h1, h2, h3⟩ := h
  refine ⟨A, c, hv, h1, h2, fun i x hx => ?_⟩
  obtain ⟨b, o, cs, hA, hD, hl, hr, hc⟩ := h3 i x hx
  exact ⟨b, o, cs, hA, hd _ hD, hl, hR _ _ _ _ _ _ hd hs hr, fun j u hu => (hs.cell hD).trans (hc j u hu)⟩
theorem Sl.below {B B' : Nat} (h : Sl size R (Lt B) w v xs) (hR : ElemR.Kept R) (hb : Below B w w') (hB : B ≤ B') : Sl size R (Lt B') w' v xs :=
  h.keep hR (fun _ hx => Nat.lt_of_lt_of_le hx hB) (Same.of_below hb)
theorem Sl.at1 {A : Option Addr} {n c k : Nat} (h : Sl 1 R D w (.slice A n c) xs) (hk : k < n) :
    ∃ b o x u, A = some ⟨b, o, none⟩ ∧ D b ∧ xs[k]? = some x ∧ R D w x [u] ∧ w.cell? ⟨b, o + k, none⟩ = some u := by
  obtain ⟨A', c', hv, h1, h2, h3⟩ := h
  injection hv with hA hn hc
  subst hA hn hc
  obtain ⟨b, o, cs, hA, hD, hl, hr, hcell⟩ := h3 k xs[k] (List.getElem?_eq_getElem hk)
  match cs, hl with
  | [u], _ => exact ⟨b, o, xs[k], u, hA, hD, List.getElem?_eq_getElem hk, hr, by simpa using hcell 0 u rfl⟩
theorem Sl.at3 {A : Option Addr} {n c k : Nat} (h : Sl 3 R D w (.slice A n c) xs) (hk : k < n) :
    ∃ b o x u0 u1 u2, A = some ⟨b, o, none⟩ ∧ D b ∧ xs[k]? = some x ∧ R D w x [u0, u1, u2] ∧ w.cell? ⟨b, o + k * 3, none⟩ = some u0 ∧ w.cell? ⟨b, o + k * 3 + 1, none⟩ = some u1 ∧ w.cell? ⟨b, o + k * 3 + 2, none⟩ = some u2 := by
  obtain ⟨A', c', hv, h1, h2, h3⟩ := h
  injection hv with hA hn hc
  subst hA hn hc
  obtain ⟨b, o, cs, hA, hD, hl, hr, hcell⟩ := h3 k xs[k] (List.getElem?_eq_getElem hk)
  match cs, hl with
  | [u0, u1, u2], _ => exact ⟨b, o, xs[k], u0, u1, u2, hA, hD, List.getElem?_eq_getElem hk, hr, hcell 0 u0 rfl, hcell 1 u1 rfl, hcell 2 u2 rfl⟩
theorem Sl.row1 {A : Option Addr} {n c : Nat} (h : Sl 1 R D w (.slice A n c) xs) (hn : 0 < n) :
    ∃ b o, A = some ⟨b, o, none⟩ ∧ D b ∧ n = xs.length ∧ ∀ k x, xs[k]? = some x → ∃ u, R D w x [u] ∧ w.cell? ⟨b, o + k, none⟩ = some u := by
  obtain ⟨b, o, x, u, hA, hD, _, _, _⟩ := h.at1 hn
  obtain ⟨A', c', hv, h1, h2, h3⟩ := h
  injection hv with hA' hn' hc
  refine ⟨b, o, hA, hD, hn', fun k y hy => ?_⟩
  obtain ⟨b', o', cs, hA'', hD', hl, hr, hcell⟩ := h3 k y hy
  have e : (⟨b, o, none⟩ : Addr) = ⟨b', o', none⟩ := by
    have : some (⟨b, o, none⟩ : Addr) = some ⟨b', o', none⟩ := by rw [← hA, hA', hA'']
    injection this
  injection e with e1 e2 _
  subst e1 e2
  match cs, hl with
  | [u], _ => exact ⟨u, hr, by simpa using hcell 0 u rfl⟩
theorem Sl.open_ (h : Sl size R D w v xs) : ∃ A c, v = .slice A xs.length c ∧ xs.length ≤ c ∧ c ≤ 9223372036854775807 ∧ Sl size R D w (.slice A xs.length c) xs := by
  obtain ⟨A, c, hv, h1, h2, h3⟩ := h
  unfold maxLen at h2
  exact ⟨A, c, hv, h1, h2, A, c, rfl, h1, by unfold maxLen; exact h2, h3⟩
theorem Sl.none_ : Sl size R D w (.slice none 0 0) ([] : List α) := ⟨none, 0, rfl, Nat.le_refl _, Nat.zero_le _, fun i x hx => by simp at hx⟩
end
def RInt : ElemR Int := fun _ _ z cs => cs = [.int .i64 z] ∧ Fit z
def RStr : ElemR ByteArray := fun _ _ s cs => cs = [.string s] ∧ s.size ≤ maxLen
def RBool : ElemR Bool := fun _ _ b cs => cs = [.bool b]
theorem RInt.kept : ElemR.Kept RInt := fun _ _ _ _ _ _ _ _ h => h
theorem RStr.kept : ElemR.Kept RStr := fun _ _ _ _ _ _ _ _ h => h
theorem RBool.kept : ElemR.Kept RBool := fun _ _ _ _ _ _ _ _ h => h
def SlI := Sl 1 RInt
def SlS := Sl 1 RStr
def SlB := Sl 1 RBool
def RRow : ElemR (List Int) := fun D w r cs => ∃ v, cs = [v] ∧ SlI D w v r
theorem RRow.kept : ElemR.Kept RRow := by
  rintro D D' w w' x cs hd hs ⟨v, rfl, h⟩
  exact ⟨v, rfl, Sl.keep h RInt.kept hd hs⟩
def SlII := Sl 1 RRow
section
variable {D D' : Nat → Prop} {w w' : World} {v : Value}
theorem SlI.below {zs : List Int} {B B' : Nat} (h : SlI (Lt B) w v zs) (hb : Below B w w') (hB : B ≤ B') : SlI (Lt B') w' v zs := Sl.below h RInt.kept hb hB
theorem SlS.below {zs : List ByteArray} {B B' : Nat} (h : SlS (Lt B) w v zs) (hb : Below B w w') (hB : B ≤ B') : SlS (Lt B') w' v zs := Sl.below h RStr.kept hb hB
theorem SlB.below {zs : List Bool} {B B' : Nat} (h : SlB (Lt B) w v zs) (hb : Below B w w') (hB : B ≤ B') : SlB (Lt B') w' v zs := Sl.below h RBool.kept hb hB
theorem SlII.below {zs : List (List Int)} {B B' : Nat} (h : SlII (Lt B) w v zs) (hb : Below B w w') (hB : B ≤ B') : SlII (Lt B') w' v zs := Sl.below h RRow.kept hb hB
theorem SlI.open_ {zs : List Int} (h : SlI D w v zs) : ∃ A c, v = .slice A zs.length c ∧ zs.length ≤ c ∧ c ≤ 9223372036854775807 ∧ SlI D w (.slice A zs.length c) zs := Sl.open_ h
theorem SlS.open_ {zs : List ByteArray} (h : SlS D w v zs) : ∃ A c, v = .slice A zs.length c ∧ zs.length ≤ c ∧ c ≤ 9223372036854775807 ∧ SlS D w (.slice A zs.length c) zs := Sl.open_ h
theorem SlB.open_ {zs : List Bool} (h : SlB D w v zs) : ∃ A c, v = .slice A zs.length c ∧ zs.length ≤ c ∧ c ≤ 9223372036854775807 ∧ SlB D w (.slice A zs.length c) zs := Sl.open_ h
theorem SlII.open_ {zs : List (List Int)} (h : SlII D w v zs) : ∃ A c, v = .slice A zs.length c ∧ zs.length ≤ c ∧ c ≤ 9223372036854775807 ∧ SlII D w (.slice A zs.length c) zs := Sl.open_ h
theorem SlI.at_ {zs : List Int} {A : Option Addr} {n c k : Nat} (h : SlI D w (.slice A n c) zs) (hk : k < n) :
    ∃ b o z, A = some ⟨b, o, none⟩ ∧ D b ∧ zs[k]? = some z ∧ Fit z ∧ w.cell? ⟨b, o + k, none⟩ = some (.int .i64 z) := by
  obtain ⟨b, o, x, u, hA, hD, hx, ⟨hu, hf⟩, hc⟩ := Sl.at1 h hk
  injection hu with hu; subst hu
  exact ⟨b, o, x, hA, hD, hx, hf, hc⟩
theorem SlB.at_ {zs : List Bool} {A : Option Addr} {n c k : Nat} (h : SlB D w (.slice A n c) zs) (hk : k < n) :
    ∃ b o z, A = some ⟨b, o, none⟩ ∧ D b ∧ zs[k]? = some z ∧ w.cell? ⟨b, o + k, none⟩ = some (.bool z) := by
  obtain ⟨b, o, x, u, hA, hD, hx, hu, hc⟩ := Sl.at1 h hk
  injection hu with hu; subst hu
  exact ⟨b, o, x, hA, hD, hx, hc⟩
theorem SlS.at_ {zs : List ByteArray} {A : Option Addr} {n c k : Nat} (h : SlS D w (.slice A n c) zs) (hk : k < n) :
    ∃ b o z, A = some ⟨b, o, none⟩ ∧ D b ∧ zs[k]? = some z ∧ z.size ≤ maxLen ∧ w.cell? ⟨b, o + k, none⟩ = some (.string z) := by
  obtain ⟨b, o, x, u, hA, hD, hx, ⟨hu, hf⟩, hc⟩ := Sl.at1 h hk
  injection hu with hu; subst hu
  exact ⟨b, o, x, hA, hD, hx, hf, hc⟩
theorem SlII.at_ {zs : List (List Int)} {A : Option Addr} {n c k : Nat} (h : SlII D w (.slice A n c) zs) (hk : k < n) :
    ∃ b o r u, A = some ⟨b, o, none⟩ ∧ D b ∧ zs[k]? = some r ∧ SlI D w u r ∧ w.cell? ⟨b, o + k, none⟩ = some u := by
  obtain ⟨b, o, x, u, hA, hD, hx, ⟨u', hu, hf⟩, hc⟩ := Sl.at1 h hk
  injection hu with hu; subst hu
  exact ⟨b, o, x, u, hA, hD, hx, hf, hc⟩
end
def Blk (w : World) (g : Nat) (t : TypeId) (cs : Array Value) : Prop := w.heap[g]? = some (.cells cs t (0, 0))
section
variable {w w' : World} {g : Nat} {t : TypeId} {cs : Array Value}
theorem Blk.lt (h : Blk w g t cs) : g < w.heap.size := by
  rcases Nat.lt_or_ge g w.heap.size with hlt | hge
  · exact hlt
  · unfold Blk at h; rw [Array.getElem?_eq_none hge] at h; cases h
theorem Blk.cell (h : Blk w g t cs) (i : Nat) : w.cell? ⟨g, i, none⟩ = cs[i]? := cell_of_row w g i cs t (0, 0) h
theorem Blk.frozen (h : Blk w g t cs) (i : Nat) : w.frozen? ⟨g, i, none⟩ = false := by
  unfold Blk at h
  simp [World.frozen?, h]
theorem Blk.new (w : World) (t : TypeId) (cs : Array Value) : Blk (w.alloc (.cells cs t)) w.heap.size t cs := heap_alloc_new w _
theorem Blk.drew (h : Blk w g t cs) : Blk w.drew g t cs := h
theorem Blk.drewN (h : Blk w g t cs) (n : Nat) : Blk (w.drewN n) g t cs := h
theorem Blk.alloc (h : Blk w g t cs) (o : Obj) : Blk (w.alloc o) g t cs := (Below.heap_alloc w o g h.lt).trans h
theorem Blk.set_ (h : Blk w g t cs) (i : Nat) (u : Value) : Blk (w.setCell ⟨g, i, none⟩ u) g t (cs.setIfInBounds i u) := by
  unfold Blk at h ⊢
  simp [World.setCell, Array.getElem?_modify, h]
theorem Blk.far (h : Blk w g t cs) {p : Addr} (hp : g ≠ p.block) (u : Value) : Blk (w.setCell p u) g t cs := (Below.heap_setCell w p u g hp).trans h
theorem Blk.below {B : Nat} (h : Blk w g t cs) (hb : Below B w w') (hg : g < B) : Blk w' g t cs := (hb.block g hg).trans h
theorem Blk.grown {row : Option Nat} (h : Blk w g t cs) (hb : w.grownBy w' row) (hg : some g ≠ row) : Blk w' g t cs := (hb.block g h.lt hg).trans h
end
theorem below_drewN {B : Nat} {a w : World} (h : Below B a w) (n : Nat) : Below B a (w.drewN n) := ⟨h.os, h.tape, h.output, h.size, h.block⟩
theorem bthen {w b c : World} (h : Below w.heap.size w b) (k : Below b.heap.size b c) : Below w.heap.size w c := h.trans (k.mono h.size)
theorem bbox {w b : World} (h : Below w.heap.size w b) (o : Obj) : Below w.heap.size w (b.alloc o) := h.alloc h.size o
theorem bdrawn {B : Nat} {w b : World} (h : Below B w b) (n : Nat) : Below B w (b.drewN n) := below_drewN h n
theorem bone (w : World) (o : Obj) : Below w.heap.size w (w.alloc o) := (Below.refl _ _).alloc (Nat.le_refl _) o
section
variable {w w' : World} {v : Value}
theorem SlI.now {zs : List Int} (h : SlI (Lt w.heap.size) w v zs) (hb : Below w.heap.size w w') : SlI (Lt w'.heap.size) w' v zs := h.below hb hb.size
theorem SlS.now {zs : List ByteArray} (h : SlS (Lt w.heap.size) w v zs) (hb : Below w.heap.size w w') : SlS (Lt w'.heap.size) w' v zs := h.below hb hb.size
theorem SlB.now {zs : List Bool} (h : SlB (Lt w.heap.size) w v zs) (hb : Below w.heap.size w w') : SlB (Lt w'.heap.size) w' v zs := h.below hb hb.size
theorem SlII.now {zs : List (List Int)} (h : SlII (Lt w.heap.size) w v zs) (hb : Below w.heap.size w w') : SlII (Lt w'.heap.size) w' v zs := h.below hb hb.size
end
theorem Blk.now {w w' : World} {g : Nat} {t : TypeId} {cs : Array Value} (h : Blk w g t cs) (hb : Below w.heap.size w w') : Blk w' g t cs := h.below hb h.lt
section
variable {w : World} {g : Nat} {t : TypeId} {a b c d e f : Value}
theorem Blk.c1 (h : Blk w g t #[a]) : w.cell? ⟨g, 0, none⟩ = some a := h.cell 0
theorem Blk.c2 (h : Blk w g t #[a, b]) : w.cell? ⟨g, 0, none⟩ = some a ∧ w.cell? ⟨g, 1, none⟩ = some b := ⟨h.cell 0, h.cell 1⟩
theorem Blk.c3 (h : Blk w g t #[a, b, c]) : w.cell? ⟨g, 0, none⟩ = some a ∧ w.cell? ⟨g, 1, none⟩ = some b ∧ w.cell? ⟨g, 2, none⟩ = some c := ⟨h.cell 0, h.cell 1, h.cell 2⟩
theorem Blk.c4 (h : Blk w g t #[a, b, c, d]) : w.cell? ⟨g, 0, none⟩ = some a ∧ w.cell? ⟨g, 1, none⟩ = some b ∧ w.cell? ⟨g, 2, none⟩ = some c ∧ w.cell? ⟨g, 3, none⟩ = some d := ⟨h.cell 0, h.cell 1, h.cell 2, h.cell 3⟩
theorem Blk.c5 (h : Blk w g t #[a, b, c, d, e]) : w.cell? ⟨g, 0, none⟩ = some a ∧ w.cell? ⟨g, 1, none⟩ = some b ∧ w.cell? ⟨g, 2, none⟩ = some c ∧ w.cell? ⟨g, 3, none⟩ = some d ∧ w.cell? ⟨g, 4, none⟩ = some e := ⟨h.cell 0, h.cell 1, h.cell 2, h.cell 3, h.cell 4⟩
theorem Blk.c6 (h : Blk w g t #[a, b, c, d, e, f]) : w.cell? ⟨g, 0, none⟩ = some a ∧ w.cell? ⟨g, 1, none⟩ = some b ∧ w.cell? ⟨g, 2, none⟩ = some c ∧ w.cell? ⟨g, 3, none⟩ = some d ∧ w.cell? ⟨g, 4, none⟩ = some e ∧ w.cell? ⟨g, 5, none⟩ = some f := ⟨h.cell 0, h.cell 1, h.cell 2, h.cell 3, h.cell 4, h.cell 5⟩
end
theorem ret_int {k : IntKind} {a b : Int} (h : a = b) : Ending.returned (.int k a) = .returned (.int k b) := by rw [h]
theorem ret_bool {a b : Bool} (h : a = b) : Ending.returned (.bool a) = .returned (.bool b) := by rw [h]
end Go.Proofs.YtoalecalahkblaaGreatDoor

set_option linter.all false
namespace Go.Proofs.YtoalecalahkblaaGreatDoor
open Go.RowKit
theorem grown_of_below {w w' : World} (h : Below w.heap.size w w') (row : Option Nat) : w.grownBy w' row := ⟨h.os, h.tape, h.output, h.size, fun i hi _ => h.block i hi⟩
theorem below_of_grown {w w' : World} {B : Nat} {row : Option Nat} (h : w.grownBy w' row) (hB : B ≤ w.heap.size) (hr : ∀ g, row = some g → B ≤ g) : Below B w w' :=
  ⟨h.os, h.tape, h.output, h.size, fun i hi => h.block i (by omega) (fun e => by have := hr i e.symm; omega)⟩
theorem own_now {w w' : World} {base e size n : Nat} {v : Value} {xs : List Value} (h : w.ownsRow base e size v n xs) (hb : Below w.heap.size w w') : w'.ownsRow base e size v n xs := by
  refine h.kept (grown_of_below hb none) ?_
  cases e : v.ownBlock with
  | none => exact .inl rfl
  | some g => exact .inr (by simp)
theorem own_len {w : World} {base e n : Nat} {v : Value} {xs : List Value} (h : w.ownsRow base e 1 v n xs) : xs.length = n := by simpa using h.1
section
variable {α : Type} {R : ElemR α} {D : Nat → Prop} {w : World} {base t size n : Nat} {v : Value} {cs : List Value} {xs : List α}
theorem Sl.of_own (h : w.ownsRow base t size v n cs) (hn : xs.length = n) (hD : ∀ g, v.ownBlock = some g → D g)
    (hr : ∀ i x, xs[i]? = some x → ∃ es : List Value, es.length = size ∧ (∀ j u, es[j]? = some u → cs[i * size + j]? = some u) ∧ R D w x es) : Sl size R D w v xs := by
  subst hn
  rcases h.2 with ⟨rfl, h0⟩ | ⟨g, cap, cur, rfl, hb, hg, hc, hm, hs, htake⟩
  · have : xs = [] := List.eq_nil_of_length_eq_zero h0
    subst this
    exact Sl.none_
  · refine ⟨some ⟨g, 0, none⟩, cap, rfl, hc, hm, fun i x hx => ?_⟩
    obtain ⟨es, hl, hes, hR⟩ := hr i x hx
    refine ⟨g, 0, es, rfl, hD g rfl, hl, hR, fun j u hu => ?_⟩
    have hj := hes j u hu
    have hlt : i * size + j < xs.length * size := by
      rw [← h.1]
      rcases Nat.lt_or_ge (i * size + j) cs.length with h | h
      · exact h
      · rw [List.getElem?_eq_none h] at hj; cases hj
    have := World.ownsRow.cellAt h (i * size + j) hlt
    rw [Nat.zero_add, this]
    exact hj
theorem own_lt (h : w.ownsRow base t size v n cs) : ∀ g, v.ownBlock = some g → Lt w.heap.size g := fun g hg => (h.lt g hg).2
theorem Sl.of_own1 (h : w.ownsRow base t 1 v n cs) (hn : xs.length = n) (hD : ∀ g, v.ownBlock = some g → D g)
    (hr : ∀ (i : Nat) (x : α), xs[i]? = some x → ∃ u, cs[i]? = some u ∧ R D w x [u]) : Sl 1 R D w v xs :=
  Sl.of_own h hn hD fun i x hx => by
    obtain ⟨u, hu, hR⟩ := hr i x hx
    refine ⟨[u], rfl, fun j y hy => ?_, hR⟩
    match j, hy with
    | 0, hy => injection hy with hy; subst hy; simpa using hu
    | j + 1, hy => simp at hy
end
section
variable {w : World} {base t n : Nat} {v : Value}
theorem SlI.of_own {zs : List Int} (h : w.ownsRow base t 1 v n (zs.map (Value.int .i64))) (hf : ∀ z ∈ zs, Fit z) : SlI (Lt w.heap.size) w v zs :=
  Sl.of_own1 h (by simpa using own_len h) (own_lt h) fun i x hx => ⟨.int .i64 x, by simp [hx], rfl, hf x (List.mem_of_getElem? hx)⟩
theorem SlS.of_own {zs : List ByteArray} (h : w.ownsRow base t 1 v n (zs.map Value.string)) (hf : ∀ z ∈ zs, z.size ≤ maxLen) : SlS (Lt w.heap.size) w v zs :=
  Sl.of_own1 h (by simpa using own_len h) (own_lt h) fun i x hx => ⟨.string x, by simp [hx], rfl, hf x (List.mem_of_getElem? hx)⟩
theorem SlB.of_own {zs : List Bool} (h : w.ownsRow base t 1 v n (zs.map Value.bool)) : SlB (Lt w.heap.size) w v zs :=
  Sl.of_own1 h (by simpa using own_len h) (own_lt h) fun i x hx => ⟨.bool x, by simp [hx], rfl⟩
def OwnI (w : World) (base t g cap : Nat) (zs : List Int) : Prop := w.ownsRow base t 1 (.slice (some ⟨g, 0, none⟩) zs.length cap) zs.length (zs.map (Value.int .i64)) ∧ g < w.heap.size ∧ base ≤ g
theorem OwnI.of {zs : List Int} (h : w.ownsRow base t 1 v n (zs.map (Value.int .i64))) (hn : 0 < zs.length) : ∃ g cap, v = .slice (some ⟨g, 0, none⟩) zs.length cap ∧ zs.length ≤ cap ∧ OwnI w base t g cap zs := by
  have hl : zs.length = n := by simpa using own_len h
  subst hl
  obtain ⟨g, cap, rfl, h1, h2⟩ := h.form hn
  refine ⟨g, cap, rfl, ?_, h, h2, h1⟩
  rcases h.2 with ⟨h', _⟩ | ⟨g', cap', cur, h', _, _, hc, _⟩
  · simp at h'
  · injection h' with _ _ e; omega
end
section
variable {w w' : World} {base t g cap : Nat} {zs : List Int}
theorem OwnI.cell (h : OwnI w base t g cap zs) {k : Nat} {z : Int} (hz : zs[k]? = some z) : w.cell? ⟨g, k, none⟩ = some (.int .i64 z) := by
  have hk : k < zs.length := by
    rcases Nat.lt_or_ge k zs.length with h | h
    · exact h
    · rw [List.getElem?_eq_none h] at hz; cases hz
  rw [h.1.cellAt k (by omega)]; simp [hz]
theorem OwnI.frozen (h : OwnI w base t g cap zs) (k : Nat) : w.frozen? ⟨g, k, none⟩ = false := h.1.frozenAt k
theorem OwnI.set_ (h : OwnI w base t g cap zs) (k : Nat) (z : Int) : OwnI (w.setCell ⟨g, k, none⟩ (.int .i64 z)) base t g cap (zs.set k z) := by
  refine ⟨?_, by simpa using h.2.1, h.2.2⟩
  have := (h.1.stored k (.int .i64 z)).1
  rw [List.length_set, List.map_set]
  exact this
theorem OwnI.now (h : OwnI w base t g cap zs) (hb : Below w.heap.size w w') : OwnI w' base t g cap zs := ⟨own_now h.1 hb, Nat.lt_of_lt_of_le h.2.1 hb.size, h.2.2⟩
theorem OwnI.drew (h : OwnI w base t g cap zs) : OwnI w.drew base t g cap zs := h
theorem OwnI.drewN (h : OwnI w base t g cap zs) (n : Nat) : OwnI (w.drewN n) base t g cap zs := h
theorem OwnI.sl (h : OwnI w base t g cap zs) (hf : ∀ z ∈ zs, Fit z) : SlI (Lt w.heap.size) w (.slice (some ⟨g, 0, none⟩) zs.length cap) zs := SlI.of_own h.1 hf
theorem OwnI.lt (h : OwnI w base t g cap zs) : g < w.heap.size := h.2.1
theorem OwnI.from_ (h : OwnI w base t g cap zs) : base ≤ g := h.2.2
end
theorem Sl.cells1 {α : Type} {R : ElemR α} {D : Nat → Prop} {w : World} {A : Option Addr} {n c : Nat} {xs : List α} (h : Sl 1 R D w (.slice A n c) xs) (f : α → Value) (hf : ∀ x u, R D w x [u] → u = f x) :
    n = xs.length ∧ (0 < n → ∃ b o, A = some ⟨b, o, none⟩ ∧ D b ∧ ∀ k x, xs[k]? = some x → w.cell? ⟨b, o + k, none⟩ = some (f x)) := by
  refine ⟨?_, fun hn => ?_⟩
  · obtain ⟨A', c', hv, _⟩ := h
    injection hv
  · obtain ⟨b, o, hA, hD, _, hc⟩ := h.row1 hn
    refine ⟨b, o, hA, hD, fun k x hx => ?_⟩
    obtain ⟨u, hR, hu⟩ := hc k x hx
    rw [hu, hf x u hR]
theorem SlI.cells {D : Nat → Prop} {w : World} {A : Option Addr} {n c : Nat} {zs : List Int} (h : SlI D w (.slice A n c) zs) (hn : 0 < n) :
    ∃ b o, A = some ⟨b, o, none⟩ ∧ D b ∧ n = zs.length ∧ ∀ j, j < zs.length → w.cell? ⟨b, o + j, none⟩ = some (.int .i64 (zs.getD j 0)) := by
  obtain ⟨h1, h2⟩ := Sl.cells1 h (Value.int .i64) (fun x u h => by injection h.1)
  obtain ⟨b, o, hA, hD, hc⟩ := h2 hn
  refine ⟨b, o, hA, hD, h1, fun j hj => ?_⟩
  rw [hc j zs[j] (List.getElem?_eq_getElem hj), List.getD_eq_getElem?_getD, List.getElem?_eq_getElem hj]; rfl
theorem SlS.cells {D : Nat → Prop} {w : World} {A : Option Addr} {n c : Nat} {zs : List ByteArray} (h : SlS D w (.slice A n c) zs) (hn : 0 < n) :
    ∃ b o, A = some ⟨b, o, none⟩ ∧ D b ∧ n = zs.length ∧ ∀ j, j < zs.length → w.cell? ⟨b, o + j, none⟩ = some (.string (zs.getD j ByteArray.empty)) := by
  obtain ⟨h1, h2⟩ := Sl.cells1 h Value.string (fun x u h => by injection h.1)
  obtain ⟨b, o, hA, hD, hc⟩ := h2 hn
  refine ⟨b, o, hA, hD, h1, fun j hj => ?_⟩
  rw [hc j zs[j] (List.getElem?_eq_getElem hj), List.getD_eq_getElem?_getD, List.getElem?_eq_getElem hj]; rfl
theorem Blk.new_at {w : World} {t s : Nat} {cs : Array Value} (hs : w.heap.size = s) : Blk (w.alloc (.cells cs t)) s t cs := by subst hs; exact Blk.new w t cs
theorem Sl.ofBlk {α : Type} {R : ElemR α} {w : World} {g t size : Nat} {cs : List Value} {xs : List α} (h : Blk w g t cs.toArray) (hm : xs.length ≤ maxLen)
    (hr : ∀ (i : Nat) (x : α), xs[i]? = some x → ∃ es : List Value, es.length = size ∧ (∀ j u, es[j]? = some u → cs[i * size + j]? = some u) ∧ R (Lt w.heap.size) w x es) :
    Sl size R (Lt w.heap.size) w (.slice (some ⟨g, 0, none⟩) xs.length xs.length) xs := by
  refine ⟨some ⟨g, 0, none⟩, xs.length, rfl, Nat.le_refl _, hm, fun i x hx => ?_⟩
  obtain ⟨es, hl, hes, hR⟩ := hr i x hx
  refine ⟨g, 0, es, rfl, h.lt, hl, hR, fun j u hu => ?_⟩
  rw [Nat.zero_add, h.cell]
  simpa using hes j u hu
theorem SlI.ofBlk {w : World} {g t : Nat} {zs : List Int} (h : Blk w g t (zs.map (Value.int .i64)).toArray) (hm : zs.length ≤ maxLen) (hf : ∀ z ∈ zs, Fit z) : SlI (Lt w.heap.size) w (.slice (some ⟨g, 0, none⟩) zs.length zs.length) zs :=
  Sl.ofBlk h hm fun i x hx => ⟨[.int .i64 x], rfl, fun j u hu => by
    match j, hu with
    | 0, hu => injection hu with hu; subst hu; simp [hx]
    | j + 1, hu => simp at hu, rfl, hf x (List.mem_of_getElem? hx)⟩
theorem SlS.ofBlk {w : World} {g t : Nat} {zs : List ByteArray} (h : Blk w g t (zs.map Value.string).toArray) (hm : zs.length ≤ maxLen) (hf : ∀ z ∈ zs, z.size ≤ maxLen) : SlS (Lt w.heap.size) w (.slice (some ⟨g, 0, none⟩) zs.length zs.length) zs :=
  Sl.ofBlk h hm fun i x hx => ⟨[.string x], rfl, fun j u hu => by
    match j, hu with
    | 0, hu => injection hu with hu; subst hu; simp [hx]
    | j + 1, hu => simp at hu, rfl, hf x (List.mem_of_getElem? hx)⟩
def AppInfo (P : Program) (t e : TypeId) (size : Nat) : Prop :=
  ∃ (i : TypeInfo) (z : Value), P.underlying t = some (.slice e) ∧ P.info? e = some i ∧ i.zero = some z ∧ i.size = size ∧ i.bytes ≤ 4096 ∧ z.cells.size = size ∧ 0 < size
theorem AppInfo.mk' {P : Program} {t e : TypeId} {size bytes : Nat} {z : Value} (h1 : P.underlying t = some (.slice e)) (h2 : (P.info? e).map (fun i => (i.zero, i.size, i.bytes)) = some (some z, size, bytes)) (h3 : bytes ≤ 4096) (h4 : z.cells.size = size) (h5 : 0 < size) : AppInfo P t e size := by
  obtain ⟨i, hi, hz, hs, hb⟩ := info_parts h2
  exact ⟨i, z, h1, hi, hz, hs, by omega, h4, h5⟩
section
variable {P : Program} {t e size base : Nat}
theorem wp_push {o : Oper} {a : Act} {K : Act → World → Prop} {Q : Exit → Act → World → Prop} (hI : AppInfo P t e size) (s x : Operand)
    (ho : o.op = .call { callee := .builtin .append, args := #[s, x], argTypes := #[t, t] }) (w0 : World) (cs : List Value) (hcs : cs.length = size) (h1 : ∀ u ∈ cs, u.oneCell' = true)
    (v : Value) (n : Nat) (xs : List Value) (hs : a.eval s = v) (hown : w0.ownsRow base e size v n xs) (hx : a.eval x = .slice (some ⟨w0.heap.size, 0, none⟩) 1 1) (hn : n < 10000000) (hbase : base ≤ w0.heap.size)
    (h : ∀ v' w', w'.ownsRow base e size v' (n + 1) (xs ++ cs) → w0.grownBy w' v.ownBlock → (v'.ownBlock = v.ownBlock ∨ v'.ownBlock = some (w0.heap.size + 1)) → K (a.put o.dst v') w') : o.wp P a (w0.alloc (.cells cs.toArray e)) K Q := by
  obtain ⟨i, z, ht, hi, hz, hsz, hby, hzs, hp⟩ := hI
  have hcells : ∀ j u, cs[j]? = some u → (w0.alloc (.cells cs.toArray e)).cell? ((⟨w0.heap.size, 0, none⟩ : Addr).add j) = some u := by
    intro j u hu
    have : ((⟨w0.heap.size, 0, none⟩ : Addr).add j) = ⟨w0.heap.size, j, none⟩ := by unfold Addr.add; by_cases hj : j = 0 <;> simp [hj]
    rw [this, (Blk.new w0 e cs.toArray).cell j]
    simpa using hu
  obtain ⟨v', w', hrun, h2, h3, _, h5⟩ := run_append_own_at (P := P) (w0.alloc (.cells cs.toArray e)) base t o.type e i z size i.bytes ht hi hz hsz rfl hzs hp v n xs (hown.alloc _) ⟨w0.heap.size, 0, none⟩ 1 1 cs (by omega) hcells h1 (by unfold maxLen; omega) (by
    have : (n + 1) * i.bytes ≤ 10000000 * 4096 := Nat.mul_le_mul (by omega) hby
    omega) (by simp; omega)
  unfold Oper.wp execOp
  simp only [ho, resolve, invoke, builtin, Sem.run_bind, Sem.run_pure, Result.andThen_ok, List.map_toArray, List.map_cons, List.map_nil, hs, hx, hrun]
  refine h v' w' h2 ⟨h3.os, h3.tape, h3.output, Nat.le_trans (by simp) h3.size, fun k hk hne => (h3.block k (by simp; omega) hne).trans (Below.heap_alloc _ _ _ hk)⟩ ?_
  rcases h5 with h5 | h5
  · exact .inl h5
  · exact .inr (by rw [h5]; simp)
theorem wpList_push {ops : Array Oper} {rest : List Oper} {o : Oper} {a : Act} {Q : Exit → Act → World → Prop} (hI : AppInfo P t e size) (hgd : o.guard = none) (s x : Operand)
    (ho : o.op = .call { callee := .builtin .append, args := #[s, x], argTypes := #[t, t] }) (w0 : World) (cs : List Value) (hcs : cs.length = size) (h1 : ∀ u ∈ cs, u.oneCell' = true)
    (v : Value) (n : Nat) (xs : List Value) (hs : a.eval s = v) (hown : w0.ownsRow base e size v n xs) (hx : a.eval x = .slice (some ⟨w0.heap.size, 0, none⟩) 1 1) (hn : n < 10000000) (hbase : base ≤ w0.heap.size)
    (h : ∀ v' w', w'.ownsRow base e size v' (n + 1) (xs ++ cs) → w0.grownBy w' v.ownBlock → (v'.ownBlock = v.ownBlock ∨ v'.ownBlock = some (w0.heap.size + 1)) → wpList P ops Q rest (a.put o.dst v') w') : wpList P ops Q (o :: rest) a (w0.alloc (.cells cs.toArray e)) :=
  wpList_plain hgd fun _ hK => wp_push hI s x ho w0 cs hcs h1 v n xs hs hown hx hn hbase fun v' w' h2 h3 h4 => hK _ _ (h v' w' h2 h3 h4)
theorem wp_appendAll {α : Type} {R : ElemR α} {D : Nat → Prop} {o : Oper} {a : Act} {K : Act → World → Prop} {Q : Exit → Act → World → Prop} (hI : AppInfo P t e 1) (s x : Operand)
    (ho : o.op = .call { callee := .builtin .append, args := #[s, x], argTypes := #[t, t] }) (w : World)
    (v : Value) (n : Nat) (xs : List Value) (hs : a.eval s = v) (hown : w.ownsRow base e 1 v n xs) (u : Value) (ys : List α) (f : α → Value) (hx : a.eval x = u) (hu : Sl 1 R D w u ys) (hf : ∀ y c, R D w y [c] → c = f y) (h1 : ∀ y, (f y).oneCell' = true) (hn : n + ys.length < 10000000) (hbase : base ≤ w.heap.size)
    (h : ∀ v' w', w'.ownsRow base e 1 v' (n + ys.length) (xs ++ ys.map f) → w.grownBy w' v.ownBlock → (v'.ownBlock = v.ownBlock ∨ v'.ownBlock = some w.heap.size) → K (a.put o.dst v') w') : o.wp P a w K Q := by
  obtain ⟨i, z, ht, hi, hz, hsz, hby, hzs, hp⟩ := hI
  obtain ⟨A, c, rfl, hc1, hc2, hu⟩ := hu.open_
  have key : ∃ v' w', (Builtin.append_ #[t, t] o.type #[v, .slice A ys.length c]).run P w = .ok v' w' ∧ w'.ownsRow base e 1 v' (n + ys.length) (xs ++ ys.map f) ∧ w.grownBy w' v.ownBlock ∧ (v'.ownBlock = v.ownBlock ∨ v'.ownBlock = some w.heap.size) := by
    rcases Nat.eq_zero_or_pos ys.length with h0 | h0
    · have : ys = [] := List.eq_nil_of_length_eq_zero h0
      subst this
      rcases A with _ | ad
      · refine ⟨v, w, ?_, by simpa using hown, World.grownBy.refl w _, .inl rfl⟩
        rcases hown.2 with ⟨rfl, rfl⟩ | ⟨g, cap, cur, rfl, _, _, hnc, _⟩
        · simp [Builtin.append_, run_underlying ht, sizeOf, typeInfo, hi, Builtin.lenOf, Builtin.firstCells]
        · simp [Builtin.append_, run_underlying ht, sizeOf, typeInfo, hi, Builtin.lenOf, Builtin.firstCells, hnc, storeCells]
      · obtain ⟨v', w', hrun, h2, h3, _, h5⟩ := run_append_own_at (P := P) w base t o.type e i z 1 i.bytes ht hi hz hsz rfl hzs hp v n xs hown ad 0 c [] (by simp) (fun j u hj => by simp at hj) (by simp) (by unfold maxLen; omega) (by
          have : (n + 0) * i.bytes ≤ 10000000 * 4096 := Nat.mul_le_mul (by simp at hn; omega) hby
          omega) hbase
        exact ⟨v', w', hrun, h2, h3, h5⟩
    · obtain ⟨_, hcell⟩ := Sl.cells1 hu f hf
      obtain ⟨b, off, rfl, _, hc⟩ := hcell h0
      obtain ⟨v', w', hrun, h2, h3, _, h5⟩ := run_append_own_at (P := P) w base t o.type e i z 1 i.bytes ht hi hz hsz rfl hzs hp v n xs hown ⟨b, off, none⟩ ys.length c (ys.map f) (by simp) (fun j u hj => by
          rw [List.getElem?_map, Option.map_eq_some_iff] at hj
          obtain ⟨y, hy, rfl⟩ := hj
          have : ((⟨b, off, none⟩ : Addr).add j) = ⟨b, off + j, none⟩ := by unfold Addr.add; by_cases hj : j = 0 <;> simp [hj]
          rw [this]; exact hc j y hy) (by intro u hu; obtain ⟨y, _, rfl⟩ := List.mem_map.1 hu; exact h1 y) (by unfold maxLen; omega) (by
          have : (n + ys.length) * i.bytes ≤ 10000000 * 4096 := Nat.mul_le_mul (by omega) hby
          omega) hbase
      exact ⟨v', w', hrun, h2, h3, h5⟩
  obtain ⟨v', w', hrun, h2, h3, h5⟩ := key
  unfold Oper.wp execOp
  simp only [ho, resolve, invoke, builtin, Sem.run_bind, Sem.run_pure, Result.andThen_ok, List.map_toArray, List.map_cons, List.map_nil, hs, hx, hrun]
  exact h v' w' h2 h3 h5
theorem wpList_appendAll {α : Type} {R : ElemR α} {D : Nat → Prop} {ops : Array Oper} {rest : List Oper} {o : Oper} {a : Act} {Q : Exit → Act → World → Prop} (hI : AppInfo P t e 1) (hgd : o.guard = none) (s x : Operand)
    (ho : o.op = .call { callee := .builtin .append, args := #[s, x], argTypes := #[t, t] }) (w : World)
    (v : Value) (n : Nat) (xs : List Value) (hs : a.eval s = v) (hown : w.ownsRow base e 1 v n xs) (u : Value) (ys : List α) (f : α → Value) (hx : a.eval x = u) (hu : Sl 1 R D w u ys) (hf : ∀ y c, R D w y [c] → c = f y) (h1 : ∀ y, (f y).oneCell' = true) (hn : n + ys.length < 10000000) (hbase : base ≤ w.heap.size)
    (h : ∀ v' w', w'.ownsRow base e 1 v' (n + ys.length) (xs ++ ys.map f) → w.grownBy w' v.ownBlock → (v'.ownBlock = v.ownBlock ∨ v'.ownBlock = some w.heap.size) → wpList P ops Q rest (a.put o.dst v') w') : wpList P ops Q (o :: rest) a w :=
  wpList_plain hgd fun _ hK => wp_appendAll hI s x ho w v n xs hs hown u ys f hx hu hf h1 hn hbase fun v' w' h2 h3 h4 => hK _ _ (h v' w' h2 h3 h4)
end
end Go.Proofs.YtoalecalahkblaaGreatDoor

set_option linter.all false
namespace Go.Proofs.YtoalecalahkblaaGreatDoor
open Go.RowKit
section
variable {α : Type} (lt : α → α → Bool)
def mg : List α → List α → List α
  | [], Y => Y
  | x :: X, [] => x :: X
  | x :: X, y :: Y => if lt y x = true then y :: mg (x :: X) Y else x :: mg X (y :: Y)
termination_by X Y => X.length + Y.length
theorem mg_nil (Y : List α) : mg lt [] Y = Y := by rw [mg]
theorem mg_none (X : List α) : mg lt X [] = X := by cases X <;> rw [mg]
theorem mg_cons (x y : α) (X Y : List α) : mg lt (x :: X) (y :: Y) = if lt y x = true then y :: mg lt (x :: X) Y else x :: mg lt X (y :: Y) := by rw [mg]
theorem mg_perm : ∀ (n : Nat) (X Y : List α), X.length + Y.length = n → (mg lt X Y).Perm (X ++ Y)
  | n, [], Y, _ => by rw [mg_nil]; exact List.Perm.refl _
  | n, x :: X, [], _ => by rw [mg_none, List.append_nil]
  | 0, x :: X, y :: Y, h => by simp at h
  | n + 1, x :: X, y :: Y, h => by
    rw [mg_cons]
    split
    · have ih := mg_perm n (x :: X) Y (by simp only [List.length_cons] at h ⊢; omega)
      exact (ih.cons y).trans List.perm_middle.symm
    · have ih := mg_perm n X (y :: Y) (by simp only [List.length_cons] at h ⊢; omega)
      exact ih.cons x
theorem mg_split : ∀ (n : Nat) (X1 X2 Y1 Y2 : List α), X1.length + Y1.length = n → (∀ x ∈ X1, ∀ y ∈ Y2, lt y x = false) → (∀ y ∈ Y1, ∀ x ∈ X2, lt y x = true) → mg lt (X1 ++ X2) (Y1 ++ Y2) = mg lt X1 Y1 ++ mg lt X2 Y2
  | n, [], X2, [], Y2, _, _, _ => by rw [mg_nil, List.nil_append, List.nil_append, List.nil_append]
  | 0, x :: X1, _, _, _, h, _, _ => by simp at h
  | 0, [], _, y :: Y1, _, h, _, _ => by simp at h
  | n + 1, [], X2, y :: Y1, Y2, h, h1, h2 => by
    have ih := mg_split n [] X2 Y1 Y2 (by simp only [List.length_cons] at h; simpa using h) (by simp) (fun z hz => h2 z (List.mem_cons_of_mem _ hz))
    rw [mg_nil] at ih ⊢
    rw [List.nil_append] at ih ⊢
    cases X2 with
    | nil => rw [mg_nil, mg_nil]
    | cons x X2 =>
      rw [List.cons_append, mg_cons, if_pos (h2 y List.mem_cons_self x List.mem_cons_self), ih]; rfl
  | n + 1, x :: X1, X2, [], Y2, h, h1, h2 => by
    have ih := mg_split n X1 X2 [] Y2 (by simp only [List.length_cons, List.length_nil] at h ⊢; omega) (fun z hz => h1 z (List.mem_cons_of_mem _ hz)) (by simp)
    rw [mg_none] at ih ⊢
    rw [List.nil_append] at ih ⊢
    cases Y2 with
    | nil => rw [mg_none, mg_none]
    | cons y Y2 =>
      rw [List.cons_append, mg_cons, if_neg (by rw [h1 x List.mem_cons_self y List.mem_cons_self]; decide), ih]; rfl
  | n + 1, x :: X1, X2, y :: Y1, Y2, h, h1, h2 => by
    rw [List.cons_append, List.cons_append, mg_cons, mg_cons]
    by_cases hl : lt y x = true
    · rw [if_pos hl, if_pos hl]
      have ih := mg_split n (x :: X1) X2 Y1 Y2 (by simp only [List.length_cons] at h ⊢; omega) h1 (fun z hz => h2 z (List.mem_cons_of_mem _ hz))
      rw [List.cons_append] at ih
      rw [ih]; rfl
    · rw [if_neg hl, if_neg hl]
      have ih := mg_split n X1 X2 (y :: Y1) Y2 (by simp only [List.length_cons] at h ⊢; omega) (fun z hz => h1 z (List.mem_cons_of_mem _ hz)) h2
      rw [List.cons_append] at ih
      rw [ih]; rfl
theorem mg_last {y : α} {X1 X2 : List α} (h1 : ∀ x ∈ X1, lt y x = false) (h2 : ∀ x ∈ X2, lt y x = true) : mg lt (X1 ++ X2) [y] = X1 ++ y :: X2 := by
  have h := mg_split lt _ X1 X2 [] [y] rfl (fun x hx z hz => by simp at hz; subst hz; exact h1 x hx) (by simp)
  rw [List.nil_append, mg_none] at h
  rw [h]
  congr 1
  cases X2 with
  | nil => rw [mg_nil]
  | cons x X2 => rw [mg_cons, if_pos (h2 x List.mem_cons_self), mg_none]
end
end Go.Proofs.YtoalecalahkblaaGreatDoor

set_option linter.all false
namespace Go.Proofs.YtoalecalahkblaaGreatDoor
open Go.RowKit
section
variable {α : Type} {lt : α → α → Bool} (hO : Go.Sort.SWO lt)
include hO
theorem mg_assoc : ∀ (n : Nat) (X Y Z : List α), X.length + Y.length + Z.length = n → mg lt (mg lt X Y) Z = mg lt X (mg lt Y Z)
  | n, [], Y, Z, _ => by rw [mg_nil, mg_nil]
  | n, x :: X, [], Z, _ => by rw [mg_none, mg_nil]
  | n, x :: X, y :: Y, [], _ => by rw [mg_none, mg_none]
  | 0, x :: X, y :: Y, z :: Z, h => by simp at h
  | n + 1, x :: X, y :: Y, z :: Z, h => by
    simp only [List.length_cons] at h
    have i1 := mg_assoc n X (y :: Y) (z :: Z) (by simp only [List.length_cons]; omega)
    have i2 := mg_assoc n (x :: X) Y (z :: Z) (by simp only [List.length_cons]; omega)
    have i3 := mg_assoc n (x :: X) (y :: Y) Z (by simp only [List.length_cons]; omega)
    by_cases a : lt y x = true
    · rw [mg_cons (lt := lt) x y X Y, if_pos a, mg_cons]
      by_cases b : lt z y = true
      · have c : lt z x = true := hO.trans _ _ _ b a
        rw [if_pos b, mg_cons (lt := lt) y z Y Z, if_pos b, mg_cons, if_pos c, ← i3, mg_cons (lt := lt) x y X Y, if_pos a]
      · rw [if_neg b, mg_cons (lt := lt) y z Y Z, if_neg b, mg_cons, if_pos a, ← i2]
    · rw [mg_cons (lt := lt) x y X Y, if_neg a, mg_cons]
      by_cases c : lt z x = true
      · have b : lt z y = true := by
          by_cases b : lt z y = true
          · exact b
          · have := hO.ntrans z y x (by simpa using b) (by simpa using a)
            rw [c] at this; cases this
        rw [if_pos c, mg_cons (lt := lt) y z Y Z, if_pos b, mg_cons, if_pos c, ← i3, mg_cons (lt := lt) x y X Y, if_neg a]
      · rw [if_neg c]
        by_cases b : lt z y = true
        · rw [mg_cons (lt := lt) y z Y Z, if_pos b, mg_cons, if_neg c, i1, mg_cons (lt := lt) y z Y Z, if_pos b]
        · rw [mg_cons (lt := lt) y z Y Z, if_neg b, mg_cons, if_neg a, i1, mg_cons (lt := lt) y z Y Z, if_neg b]
end
section
variable {α : Type} (lt : α → α → Bool)
def insL (X : List α) (y : α) : List α := mg lt X [y]
def sortS (l : List α) : List α := l.foldl (insL lt) []
theorem sortS_from {lt : α → α → Bool} (hO : Go.Sort.SWO lt) : ∀ (l X : List α), l.foldl (insL lt) X = mg lt X (l.foldl (insL lt) [])
  | [], X => by rw [List.foldl_nil, List.foldl_nil, mg_none]
  | y :: l, X => by
    rw [List.foldl_cons, List.foldl_cons, sortS_from hO l (insL lt X y), sortS_from hO l (insL lt [] y)]
    unfold insL
    rw [mg_nil, mg_assoc hO _ X [y] _ rfl]
theorem sortS_append {lt : α → α → Bool} (hO : Go.Sort.SWO lt) (a b : List α) : sortS lt (a ++ b) = mg lt (sortS lt a) (sortS lt b) := by
  unfold sortS
  rw [List.foldl_append, sortS_from hO b]
def AscM (l : List α) : Prop := l.Pairwise fun x y => lt y x = false
theorem sm_split {lt : α → α → Bool} (hO : Go.Sort.SWO lt) {X1 X2 Y1 Y2 : List α} (hX : AscM lt (X1 ++ X2)) (hY : AscM lt (Y1 ++ Y2))
    (h1 : ∀ x y, X1.getLast? = some x → Y2.head? = some y → lt y x = false) (h2 : ∀ x y, Y1.getLast? = some y → X2.head? = some x → lt y x = true) :
    mg lt (X1 ++ X2) (Y1 ++ Y2) = mg lt X1 Y1 ++ mg lt X2 Y2 := by
  have last : ∀ (A : List α) (z : α), AscM lt A → z ∈ A → ∃ l, A.getLast? = some l ∧ lt l z = false := fun A z hA hz => by
    have hne : A ≠ [] := by rintro rfl; simp at hz
    refine ⟨A.getLast hne, List.getLast?_eq_some_getLast hne, ?_⟩
    obtain ⟨i, hi, rfl⟩ := List.mem_iff_getElem.1 hz
    rw [List.getLast_eq_getElem]
    by_cases e : i = A.length - 1
    · subst e; exact hO.irrefl _
    · exact List.pairwise_iff_getElem.1 hA i (A.length - 1) hi (by omega) (by omega)
  have first : ∀ (A : List α) (z : α), AscM lt A → z ∈ A → ∃ f, A.head? = some f ∧ lt z f = false := fun A z hA hz => by
    cases A with
    | nil => simp at hz
    | cons f A =>
      refine ⟨f, rfl, ?_⟩
      rcases List.mem_cons.1 hz with rfl | hz
      · exact hO.irrefl _
      · exact List.rel_of_pairwise_cons hA hz
  have aX1 : AscM lt X1 := (List.pairwise_append.1 hX).1
  have aX2 : AscM lt X2 := (List.pairwise_append.1 hX).2.1
  have aY1 : AscM lt Y1 := (List.pairwise_append.1 hY).1
  have aY2 : AscM lt Y2 := (List.pairwise_append.1 hY).2.1
  refine mg_split lt _ X1 X2 Y1 Y2 rfl (fun x hx y hy => ?_) (fun y hy x hx => ?_)
  · obtain ⟨l, hl, e1⟩ := last X1 x aX1 hx
    obtain ⟨f, hf, e2⟩ := first Y2 y aY2 hy
    exact hO.ntrans _ _ _ (hO.ntrans _ _ _ e2 (h1 l f hl hf)) e1
  · obtain ⟨l, hl, e1⟩ := last Y1 y aY1 hy
    obtain ⟨f, hf, e2⟩ := first X2 x aX2 hx
    have h := h2 f l hl hf
    by_cases e : lt y x = true
    · exact e
    · have := hO.ntrans _ _ _ (hO.ntrans _ _ _ e1 (by simpa using e)) e2
      rw [h] at this; cases this
end
end Go.Proofs.YtoalecalahkblaaGreatDoor

set_option linter.all false
namespace Go.Proofs.YtoalecalahkblaaGreatDoor
open Go.RowKit
section
variable {α : Type} [Inhabited α]
theorem at_mid (A B : List α) (x : α) : ((A ++ x :: B).toArray)[A.length]! = x := by
  rw [getElem!_pos _ _ (by simp)]
  simp
theorem swp_adj (A B : List α) (x y : α) : Go.Sort.swp (A ++ x :: y :: B).toArray (A.length + 1) A.length = (A ++ y :: x :: B).toArray := by
  have h1 := at_mid A (y :: B) x
  have h2 := at_mid (A ++ [x]) B y
  rw [List.length_append, List.length_singleton, List.append_assoc] at h2
  have h2 : ((A ++ x :: y :: B).toArray)[A.length + 1]! = y := h2
  unfold Go.Sort.swp
  rw [h1, h2]
  apply Array.ext'
  simp [List.set_append]
variable {lt : α → α → Bool}
theorem insInner_list (hO : Go.Sort.SWO lt) (P : List α) (y : α) (S : List α) : ∀ (n : Nat) (X : List α), X.length = n → AscM lt X → Go.Sort.insInner lt P.length (P.length + X.length) (P ++ X ++ y :: S).toArray = (P ++ mg lt X [y] ++ S).toArray
  | 0, X, hn, _ => by
    have : X = [] := List.eq_nil_of_length_eq_zero hn
    subst this
    rw [Go.Proofs.insInner_stop lt _ _ _ (.inl (by simp)), mg_nil]; simp
  | n + 1, X, hn, hX => by
    obtain ⟨X', x, rfl⟩ : ∃ X' x, X = X' ++ [x] := ⟨X.dropLast, X.getLast (by rintro rfl; simp at hn), (List.dropLast_concat_getLast _).symm⟩
    rw [List.length_append, List.length_singleton] at hn
    have e : P ++ (X' ++ [x]) ++ y :: S = (P ++ X') ++ x :: y :: S := by simp
    have hx := at_mid (P ++ X') (y :: S) x
    have hy := at_mid (P ++ X' ++ [x]) S y
    rw [List.length_append] at hx
    rw [List.length_append, List.length_append, List.length_singleton, List.append_assoc (P ++ X')] at hy
    have hy : ((P ++ X') ++ x :: y :: S).toArray[P.length + X'.length + 1]! = y := hy
    have hj : P.length + (X' ++ [x]).length = P.length + X'.length + 1 := by rw [List.length_append, List.length_singleton]; omega
    rw [e, hj]
    by_cases hl : lt y x = true
    · rw [Go.Proofs.insInner_go lt _ _ _ (by omega) (by rw [hy, Nat.add_sub_cancel, hx]; exact hl), Nat.add_sub_cancel]
      have hs := swp_adj (P ++ X') S x y
      rw [List.length_append] at hs
      rw [hs, insInner_list hO P y (x :: S) n X' (by omega) (List.pairwise_append.1 hX).1]
      have hm := mg_split lt _ X' [x] [y] [] rfl (by simp) (fun z hz w hw => by simp at hz hw; subst hz hw; exact hl)
      rw [List.append_nil] at hm
      rw [hm, mg_none]; simp
    · have hl' : lt y x = false := by simpa using hl
      rw [Go.Proofs.insInner_stop lt _ _ _ (.inr (by rw [hy, Nat.add_sub_cancel, hx]; exact hl'))]
      have hall : ∀ z ∈ X' ++ [x], lt y z = false := fun z hz => by
        rcases List.mem_append.1 hz with hz | hz
        · exact hO.ntrans _ _ _ hl' ((List.pairwise_append.1 hX).2.2 z hz x (by simp))
        · simp at hz; subst hz; exact hl'
      have hm := mg_split lt _ (X' ++ [x]) [] [] [y] rfl (fun z hz w hw => by simp at hw; subst hw; exact hall z hz) (by simp)
      rw [List.append_nil, List.nil_append] at hm
      rw [hm, mg_none, mg_nil]; simp
theorem asc_mg (hO : Go.Sort.SWO lt) : ∀ (n : Nat) (X Y : List α), X.length + Y.length = n → AscM lt X → AscM lt Y → AscM lt (mg lt X Y)
  | n, [], Y, _, _, hY => by rw [mg_nil]; exact hY
  | n, x :: X, [], _, hX, _ => by rw [mg_none]; exact hX
  | 0, x :: X, y :: Y, h, _, _ => by simp at h
  | n + 1, x :: X, y :: Y, h, hX, hY => by
    simp only [List.length_cons] at h
    rw [mg_cons]
    by_cases hl : lt y x = true
    · rw [if_pos hl]
      have hxy : lt x y = false := by
        by_cases e : lt x y = true
        · have := hO.trans _ _ _ hl e
          rw [hO.irrefl] at this; cases this
        · simpa using e
      refine List.Pairwise.cons (fun z hz => ?_) (asc_mg hO n (x :: X) Y (by simp only [List.length_cons]; omega) hX (List.Pairwise.of_cons hY))
      rcases List.mem_append.1 ((mg_perm lt _ (x :: X) Y rfl).mem_iff.1 hz) with hz | hz
      · rcases List.mem_cons.1 hz with rfl | hz
        · exact hxy
        · exact hO.ntrans _ _ _ (List.rel_of_pairwise_cons hX hz) hxy
      · exact List.rel_of_pairwise_cons hY hz
    · rw [if_neg hl]
      refine List.Pairwise.cons (fun z hz => ?_) (asc_mg hO n X (y :: Y) (by simp only [List.length_cons]; omega) (List.Pairwise.of_cons hX) hY)
      rcases List.mem_append.1 ((mg_perm lt _ X (y :: Y) rfl).mem_iff.1 hz) with hz | hz
      · exact List.rel_of_pairwise_cons hX hz
      · have hl' : lt y x = false := by simpa using hl
        rcases List.mem_cons.1 hz with rfl | hz
        · exact hl'
        · exact hO.ntrans _ _ _ (List.rel_of_pairwise_cons hY hz) hl'
theorem insOuter_list (hO : Go.Sort.SWO lt) (P S : List α) : ∀ (B A : List α), AscM lt A → Go.Sort.insOuter lt P.length (P.length + A.length + B.length) (P.length + A.length) (P ++ A ++ B ++ S).toArray = (P ++ B.foldl (insL lt) A ++ S).toArray
  | [], A, _ => by rw [Go.Proofs.insOuter_stop lt _ _ _ _ (by simp)]; simp
  | y :: B, A, hA => by
    rw [Go.Proofs.insOuter_go lt _ _ _ _ (by rw [List.length_cons]; omega)]
    have e : P ++ A ++ (y :: B) ++ S = P ++ A ++ y :: (B ++ S) := by simp
    rw [e, insInner_list hO P y (B ++ S) _ A rfl hA]
    have hl : (mg lt A [y]).length = A.length + 1 := by rw [(mg_perm lt _ A [y] rfl).length_eq]; simp
    have ih := insOuter_list hO P S B (mg lt A [y]) (asc_mg hO _ A [y] rfl hA (by unfold AscM; simp))
    rw [hl] at ih
    rw [List.length_cons, show P.length + A.length + (B.length + 1) = P.length + (A.length + 1) + B.length by omega, show P.length + A.length + 1 = P.length + (A.length + 1) by omega]
    have e2 : P ++ mg lt A [y] ++ (B ++ S) = P ++ mg lt A [y] ++ B ++ S := by simp
    rw [e2, ih]; rfl
theorem asc_fold (hO : Go.Sort.SWO lt) : ∀ (B A : List α), AscM lt A → AscM lt (B.foldl (insL lt) A)
  | [], A, h => h
  | y :: B, A, h => asc_fold hO B (insL lt A y) (asc_mg hO _ A [y] rfl h (by unfold AscM; simp))
theorem asc_sortS (hO : Go.Sort.SWO lt) (l : List α) : AscM lt (sortS lt l) := asc_fold hO l [] List.Pairwise.nil
theorem perm_fold : ∀ (B A : List α), (B.foldl (insL lt) A).Perm (A ++ B)
  | [], A => by rw [List.append_nil]; exact List.Perm.refl _
  | y :: B, A => by
    refine (perm_fold B (insL lt A y)).trans ?_
    have h := (mg_perm lt _ A [y] rfl).append_right B
    rw [List.append_assoc] at h
    exact h
theorem perm_sortS (l : List α) : (sortS lt l).Perm l := perm_fold l []
theorem insertionSort_list (hO : Go.Sort.SWO lt) (P L S : List α) : Go.Sort.insertionSort lt (P ++ L ++ S).toArray P.length (P.length + L.length) = (P ++ sortS lt L ++ S).toArray := by
  unfold Go.Sort.insertionSort sortS
  cases L with
  | nil => rw [Go.Proofs.insOuter_stop lt _ _ _ _ (by simp)]; simp
  | cons x L =>
    have h := insOuter_list hO P S L [x] (by unfold AscM; simp)
    have e : P ++ [x] ++ L ++ S = P ++ (x :: L) ++ S := by simp
    rw [e, List.length_singleton] at h
    rw [List.length_cons, show P.length + (L.length + 1) = P.length + 1 + L.length by omega, h, List.foldl_cons]
    unfold insL
    rw [mg_nil]
end
end Go.Proofs.YtoalecalahkblaaGreatDoor

set_option linter.all false
namespace Go.Proofs.YtoalecalahkblaaGreatDoor
open Go.RowKit
section
variable {α : Type} {fc : α → List Value} {size : Nat}
def flat (fc : α → List Value) (xs : List α) : List Value := xs.flatMap fc
theorem flat_len (hfc : ∀ x, (fc x).length = size) (xs : List α) : (flat fc xs).length = xs.length * size := by
  induction xs with
  | nil => simp [flat]
  | cons x xs ih =>
    have : flat fc (x :: xs) = fc x ++ flat fc xs := rfl
    rw [this, List.length_append, hfc, ih, List.length_cons, Nat.succ_mul]; omega
theorem flat_get (hfc : ∀ x, (fc x).length = size) (xs : List α) : ∀ (i j : Nat) (x : α), xs[i]? = some x → j < size → (flat fc xs)[i * size + j]? = (fc x)[j]? := by
  induction xs with
  | nil => intro i j x hx; simp at hx
  | cons y xs ih =>
    intro i j x hx hj
    have e : flat fc (y :: xs) = fc y ++ flat fc xs := rfl
    rw [e]
    cases i with
    | zero =>
      injection hx with hx; subst hx
      rw [Nat.zero_mul, Nat.zero_add, List.getElem?_append_left (by rw [hfc]; exact hj)]
    | succ i =>
      rw [List.getElem?_append_right (by rw [hfc, Nat.succ_mul]; omega), hfc]
      have : (i + 1) * size + j - size = i * size + j := by rw [Nat.succ_mul]; omega
      rw [this]
      exact ih i j x (by simpa using hx) hj
theorem flat_at (hfc : ∀ x, (fc x).length = size) (hs : 0 < size) (xs : List α) {j : Nat} {u : Value} (h : (flat fc xs)[j]? = some u) : ∃ i r x, j = i * size + r ∧ r < size ∧ xs[i]? = some x ∧ (fc x)[r]? = some u := by
  have hj : j < xs.length * size := by
    rw [← flat_len hfc]
    rcases Nat.lt_or_ge j (flat fc xs).length with h' | h'
    · exact h'
    · rw [List.getElem?_eq_none h'] at h; cases h
  have hi : j / size < xs.length := Nat.div_lt_of_lt_mul (by rw [Nat.mul_comm]; exact hj)
  have hr : j % size < size := Nat.mod_lt _ hs
  have e : j = j / size * size + j % size := by rw [Nat.mul_comm]; exact (Nat.div_add_mod j size).symm
  refine ⟨j / size, j % size, xs[j / size], e, hr, List.getElem?_eq_getElem hi, ?_⟩
  rw [← flat_get hfc xs (j / size) (j % size) _ (List.getElem?_eq_getElem hi) hr, ← e]
  exact h
theorem flat_append (xs ys : List α) : flat fc (xs ++ ys) = flat fc xs ++ flat fc ys := by simp [flat]
def OwnW (size : Nat) (fc : α → List Value) (w : World) (base t : Nat) (v : Value) (xs : List α) : Prop := w.ownsRow base t size v xs.length (flat fc xs)
variable {R : ElemR α} {w w' : World} {base t : Nat} {v : Value} {xs : List α}
theorem OwnW.nil : OwnW size fc w base t (.slice none 0 0) ([] : List α) := World.ownsRow_nil _ _ _ _
theorem OwnW.now (h : OwnW size fc w base t v xs) (hb : Below w.heap.size w w') : OwnW size fc w' base t v xs := own_now h hb
theorem OwnW.sl (h : OwnW size fc w base t v xs) (hfc : ∀ x, (fc x).length = size) (hR : ∀ D w x, x ∈ xs → R D w x (fc x)) : Sl size R (Lt w.heap.size) w v xs :=
  Sl.of_own h rfl (own_lt h) fun i x hx => ⟨fc x, hfc x, fun j u hu => by
    have hj : j < size := by
      rw [← hfc x]
      rcases Nat.lt_or_ge j (fc x).length with h' | h'
      · exact h'
      · rw [List.getElem?_eq_none h'] at hu; cases hu
    rw [flat_get hfc xs i j x hx hj]; exact hu, hR _ _ x (List.mem_of_getElem? hx)⟩
theorem OwnW.form (h : OwnW size fc w base t v xs) (hn : 0 < xs.length) : ∃ g cap, v = .slice (some ⟨g, 0, none⟩) xs.length cap ∧ xs.length ≤ cap ∧ base ≤ g ∧ g < w.heap.size := by
  have hl := World.ownsRow.lt h
  rcases h.2 with ⟨_, h0⟩ | ⟨g, cap, cur, rfl, hb, hg, hc, hm, hs, htake⟩
  · omega
  · exact ⟨g, cap, rfl, hc, hb, (hl g rfl).2⟩
theorem wp_appendAllW {P : Program} {e : Nat} {D : Nat → Prop} {o : Oper} {a : Act} {K : Act → World → Prop} {Q : Exit → Act → World → Prop} (hI : AppInfo P t e size) (s x : Operand)
    (ho : o.op = .call { callee := .builtin .append, args := #[s, x], argTypes := #[t, t] }) (w : World) (hfc : ∀ x, (fc x).length = size) (xs : List α)
    (v : Value) (hs : a.eval s = v) (hown : OwnW size fc w base e v xs) (u : Value) (ys : List α) (hx : a.eval x = u) (hu : Sl size R D w u ys) (hf : ∀ y c, R D w y c → c = fc y) (h1 : ∀ y, ∀ u ∈ fc y, u.oneCell' = true) (hn : xs.length + ys.length < 10000000) (hbase : base ≤ w.heap.size)
    (h : ∀ v' w', OwnW size fc w' base e v' (xs ++ ys) → w.grownBy w' v.ownBlock → (v'.ownBlock = v.ownBlock ∨ v'.ownBlock = some w.heap.size) → K (a.put o.dst v') w') : o.wp P a w K Q := by
  obtain ⟨i, z, ht, hi, hz, hsz, hby, hzs, hp⟩ := hI
  obtain ⟨A, c, rfl, hc1, hc2, hu⟩ := hu.open_
  unfold OwnW at hown
  have key : ∃ v' w', (Builtin.append_ #[t, t] o.type #[v, .slice A ys.length c]).run P w = .ok v' w' ∧ OwnW size fc w' base e v' (xs ++ ys) ∧ w.grownBy w' v.ownBlock ∧ (v'.ownBlock = v.ownBlock ∨ v'.ownBlock = some w.heap.size) := by
    unfold OwnW
    rw [flat_append, List.length_append]
    rcases Nat.eq_zero_or_pos ys.length with h0 | h0
    · have : ys = [] := List.eq_nil_of_length_eq_zero h0
      subst this
      rcases A with _ | ad
      · refine ⟨v, w, ?_, by simpa [flat] using hown, World.grownBy.refl w _, .inl rfl⟩
        rcases hown.2 with ⟨rfl, h0⟩ | ⟨g, cap, cur, rfl, _, _, hnc, _⟩
        · simp [Builtin.append_, run_underlying ht, sizeOf, typeInfo, hi, Builtin.lenOf, Builtin.firstCells]
        · simp [Builtin.append_, run_underlying ht, sizeOf, typeInfo, hi, Builtin.lenOf, Builtin.firstCells, hnc, storeCells]
      · obtain ⟨v', w', hrun, h2, h3, _, h5⟩ := run_append_own_at (P := P) w base t o.type e i z size i.bytes ht hi hz hsz rfl hzs hp v _ _ hown ad 0 c [] (by simp) (fun j u hj => by simp at hj) (by simp) (by unfold maxLen; simp at hn; omega) (by
          have : (xs.length + 0) * i.bytes ≤ 10000000 * 4096 := Nat.mul_le_mul (by simp at hn; omega) hby
          omega) hbase
        exact ⟨v', w', hrun, h2, h3, h5⟩
    · obtain ⟨_, _, _, h3⟩ := hu
      have hrow : ∃ b off, A = some ⟨b, off, none⟩ ∧ ∀ j u, (flat fc ys)[j]? = some u → w.cell? ⟨b, off + j, none⟩ = some u := by
        obtain ⟨A', c', hv, _, _, h3⟩ := (show Sl size R D w (.slice A ys.length c) ys from ‹_›)
        injection hv with hA _ _
        subst hA
        obtain ⟨b, off, _, hA, _⟩ := h3 0 ys[0] (List.getElem?_eq_getElem h0)
        refine ⟨b, off, hA, fun j u hj => ?_⟩
        obtain ⟨i, r, y, rfl, hr, hy, hfu⟩ := flat_at hfc (by omega) ys hj
        obtain ⟨b', off', cs, hA', _, _, hR, hcell⟩ := h3 i y hy
        rw [hA] at hA'
        injection hA' with hA'
        injection hA' with e1 e2 _
        subst e1 e2
        rw [hf y cs hR] at hcell
        have := hcell r u hfu
        rwa [Nat.add_assoc] at this
      obtain ⟨b, off, rfl, hc⟩ := hrow
      obtain ⟨v', w', hrun, h2, h3, _, h5⟩ := run_append_own_at (P := P) w base t o.type e i z size i.bytes ht hi hz hsz rfl hzs hp v _ _ hown ⟨b, off, none⟩ ys.length c (flat fc ys) (flat_len hfc ys) (fun j u hj => by
          have : ((⟨b, off, none⟩ : Addr).add j) = ⟨b, off + j, none⟩ := by unfold Addr.add; by_cases hj : j = 0 <;> simp [hj]
          rw [this]; exact hc j u hj) (by intro u hu; obtain ⟨y, _, hy⟩ := List.mem_flatMap.1 hu; exact h1 y u hy) (by unfold maxLen; omega) (by
          have : (xs.length + ys.length) * i.bytes ≤ 10000000 * 4096 := Nat.mul_le_mul (by omega) hby
          omega) hbase
      exact ⟨v', w', hrun, h2, h3, h5⟩
  obtain ⟨v', w', hrun, h2, h3, h5⟩ := key
  unfold Oper.wp execOp
  simp only [ho, resolve, invoke, builtin, Sem.run_bind, Sem.run_pure, Result.andThen_ok, List.map_toArray, List.map_cons, List.map_nil, hs, hx, hrun]
  exact h v' w' h2 h3 h5
theorem wpList_appendAllW {P : Program} {e : Nat} {D : Nat → Prop} {ops : Array Oper} {rest : List Oper} {o : Oper} {a : Act} {Q : Exit → Act → World → Prop} (hI : AppInfo P t e size) (hgd : o.guard = none) (s x : Operand)
    (ho : o.op = .call { callee := .builtin .append, args := #[s, x], argTypes := #[t, t] }) (w : World) (hfc : ∀ x, (fc x).length = size) (xs : List α)
    (v : Value) (hs : a.eval s = v) (hown : OwnW size fc w base e v xs) (u : Value) (ys : List α) (hx : a.eval x = u) (hu : Sl size R D w u ys) (hf : ∀ y c, R D w y c → c = fc y) (h1 : ∀ y, ∀ u ∈ fc y, u.oneCell' = true) (hn : xs.length + ys.length < 10000000) (hbase : base ≤ w.heap.size)
    (h : ∀ v' w', OwnW size fc w' base e v' (xs ++ ys) → w.grownBy w' v.ownBlock → (v'.ownBlock = v.ownBlock ∨ v'.ownBlock = some w.heap.size) → wpList P ops Q rest (a.put o.dst v') w') : wpList P ops Q (o :: rest) a w :=
  wpList_plain hgd fun _ hK => wp_appendAllW hI s x ho w hfc xs v hs hown u ys hx hu hf h1 hn hbase fun v' w' h2 h3 h4 => hK _ _ (h v' w' h2 h3 h4)
theorem wpList_pushW {P : Program} {e : Nat} {ops : Array Oper} {rest : List Oper} {o : Oper} {a : Act} {Q : Exit → Act → World → Prop} (hI : AppInfo P t e size) (hgd : o.guard = none) (s x : Operand)
    (ho : o.op = .call { callee := .builtin .append, args := #[s, x], argTypes := #[t, t] }) (w0 : World) (y : α) (xs : List α) (hfc : (fc y).length = size) (h1 : ∀ u ∈ fc y, u.oneCell' = true)
    (v : Value) (hs : a.eval s = v) (hown : OwnW size fc w0 base e v xs) (hx : a.eval x = .slice (some ⟨w0.heap.size, 0, none⟩) 1 1) (hn : xs.length < 10000000) (hbase : base ≤ w0.heap.size)
    (h : ∀ v' w', OwnW size fc w' base e v' (xs ++ [y]) → w0.grownBy w' v.ownBlock → (v'.ownBlock = v.ownBlock ∨ v'.ownBlock = some (w0.heap.size + 1)) → wpList P ops Q rest (a.put o.dst v') w') : wpList P ops Q (o :: rest) a (w0.alloc (.cells (fc y).toArray e)) :=
  wpList_push hI hgd s x ho w0 (fc y) hfc h1 v xs.length (flat fc xs) hs hown hx hn hbase fun v' w' h2 h3 h4 => h v' w' (by
    unfold OwnW
    rw [flat_append, List.length_append]
    simpa [flat] using h2) h3 h4
end
end Go.Proofs.YtoalecalahkblaaGreatDoor

set_option linter.all false
namespace Go.Proofs.YtoalecalahkblaaGreatDoor
open Go.RowKit
abbrev Bs := List UInt8
def Asc (l : List Bs) : Prop := l.Pairwise (· < ·)
theorem bs_total {a b : Bs} (h : ¬ a < b) (h2 : a ≠ b) : b < a := by
  apply Classical.byContradiction
  intro h3
  exact h2 (List.le_antisymm (List.not_lt.1 h3) (List.not_lt.1 h))
theorem asc_push {l : List Bs} {s : Bs} (h : Asc l) (hs : ∀ x ∈ l, x < s) : Asc (l ++ [s]) := by
  unfold Asc
  rw [List.pairwise_append]
  exact ⟨h, by simp, fun x hx y hy => by simp at hy; rw [hy]; exact hs x hx⟩
theorem asc_get {l : List Bs} (h : Asc l) {k : Nat} {x y : Bs} (hx : x ∈ l.take k) (hy : l[k]? = some y) : x < y := by
  have hk : k < l.length := by
    rcases Nat.lt_or_ge k l.length with h' | h'
    · exact h'
    · rw [List.getElem?_eq_none h'] at hy; cases hy
  have e : l = l.take k ++ l.drop k := (List.take_append_drop k l).symm
  unfold Asc at h
  rw [e, List.pairwise_append] at h
  refine h.2.2 x hx y ?_
  rw [List.getElem?_eq_getElem hk] at hy
  injection hy with hy
  rw [List.drop_eq_getElem_cons hk, hy]
  simp
def sortB (ls : List Bs) : List Bs := ls.mergeSort fun x y => decide (x ≤ y)
def setB (ls : List Bs) : List Bs := Lib.compact (sortB ls)
structure InsInv (l : List Bs) (s : Bs) (k : Nat) (d : Bool) (out : List Bs) : Prop where
  asc : Asc out
  mem : ∀ x, x ∈ out ↔ x ∈ l.take k ∨ (d = true ∧ x = s)
  big : d = true → ∃ y ∈ l.take k, s < y
  small : d = false → ∀ x ∈ l.take k, x < s
  len : out.length ≤ k + (if d then 1 else 0)
theorem InsInv.start (l : List Bs) (s : Bs) : InsInv l s 0 false [] := ⟨by simp [Asc], by simp, by simp, by simp, by simp⟩
theorem take_snoc {l : List Bs} {k : Nat} {y : Bs} (hy : l[k]? = some y) : l.take (k + 1) = l.take k ++ [y] := by
  rw [List.take_add_one, hy]; rfl
theorem InsInv.after {l : List Bs} {s : Bs} {k : Nat} {out : List Bs} {y : Bs} (h : InsInv l s k true out) (hl : Asc l) (hy : l[k]? = some y) : InsInv l s (k + 1) true (out ++ [y]) := by
  obtain ⟨z, hz, hsz⟩ := h.big rfl
  refine ⟨asc_push h.asc fun x hx => ?_, fun x => ?_, fun _ => ⟨z, by rw [take_snoc hy]; simp [hz], hsz⟩, by simp, by have := h.len; simp at this ⊢; omega⟩
  · rcases (h.mem x).1 hx with h' | ⟨_, h'⟩
    · exact asc_get hl h' hy
    · rw [h']; exact List.lt_trans hsz (asc_get hl hz hy)
  · rw [take_snoc hy]
    simp only [List.mem_append, List.mem_singleton, h.mem]
    constructor
    · rintro ((h | h) | h)
      · exact .inl (.inl h)
      · exact .inr h
      · exact .inl (.inr h)
    · rintro ((h | h) | h)
      · exact .inl (.inl h)
      · exact .inr h
      · exact .inl (.inr h)
def InsRes (l : List Bs) (s : Bs) (r : List Bs) : Prop := Asc r ∧ (∀ x, x ∈ r ↔ x ∈ l ∨ x = s) ∧ r.length ≤ l.length + 1
theorem InsRes.same {l : List Bs} {s : Bs} (h : Asc l) (hs : s ∈ l) : InsRes l s l := ⟨h, fun x => ⟨Or.inl, fun h' => by rcases h' with h' | h'; exact h'; rw [h']; exact hs⟩, by omega⟩
end Go.Proofs.YtoalecalahkblaaGreatDoor

set_option linter.all false
namespace Go.Proofs.YtoalecalahkblaaGreatDoor
open Go.RowKit
def letterB (c : Int) : Bool := decide (65 ≤ c ∧ c ≤ 90) || decide (97 ≤ c ∧ c ≤ 122)
def partB (c : Int) : Bool := letterB c || decide (48 ≤ c ∧ c ≤ 57) || decide (c = 95) || decide (c = 45) || decide (c = 46)
def byteAt (s : ByteArray) (i : Nat) : Int := (((s.data.toList[i]?).getD 0).toNat : Int)
def isNameB (s : ByteArray) : Bool := decide (1 ≤ s.size) && decide (s.size ≤ 40) && letterB (byteAt s 0) && (List.range s.size).all fun i => partB (byteAt s i)
theorem letter_yes {c : Int} (h : (65 ≤ c ∧ c ≤ 90) ∨ (97 ≤ c ∧ c ≤ 122)) : letterB c = true := by unfold letterB; simp; omega
theorem letter_no {c : Int} (h : ¬ ((65 ≤ c ∧ c ≤ 90) ∨ (97 ≤ c ∧ c ≤ 122))) : letterB c = false := by unfold letterB; simp; omega
theorem part_letter {c : Int} (h : letterB c = true) : partB c = true := by unfold partB; simp [h]
theorem part_other {c : Int} (h : letterB c = false) : partB c = (decide (48 ≤ c ∧ c ≤ 57) || decide (c = 95) || decide (c = 45) || decide (c = 46)) := by unfold partB; simp [h]
theorem byteAt_eq (s : ByteArray) (i : Nat) (h : i < s.size) : byteAt s i = (s[i].toNat : Int) := by
  unfold byteAt
  rw [List.getElem?_eq_getElem (by simpa using h)]
  rfl
set_option maxHeartbeats 400000 in
theorem letter_any (c : Int) (w : World) : Calls Tryz.prog 123 #[.int .u8 c] w fun e w' => e = .returned (.bool (letterB c)) ∧ w = w' := by
  by_cases h1 : 65 ≤ c <;> by_cases h2 : c ≤ 90 <;> by_cases h3 : 97 ≤ c <;> by_cases h4 : c ≤ 122
  all_goals first
    | (exfalso; omega)
    | (go_enter Tryz.func123, Tryz.ntmps123
       go_wp2
       go_ret
       exact ⟨ret_bool (by first | exact (letter_yes (by omega)).symm | exact (letter_no (by omega)).symm), rfl⟩)
set_option maxHeartbeats 400000 in
theorem letter_ref (c : Int) (w : World) : Calls Tryz.prog 125 #[.int .u8 c] w fun e w' => e = .returned (.bool (letterB c)) ∧ w = w' := by
  by_cases h1 : 65 ≤ c <;> by_cases h2 : c ≤ 90 <;> by_cases h3 : 97 ≤ c <;> by_cases h4 : c ≤ 122
  all_goals first
    | (exfalso; omega)
    | (go_enter Tryz.func125, Tryz.ntmps125
       go_wp2
       go_ret
       exact ⟨ret_bool (by first | exact (letter_yes (by omega)).symm | exact (letter_no (by omega)).symm), rfl⟩)
set_option maxHeartbeats 400000 in
theorem part_any (c : Int) (w : World) : Calls Tryz.prog 124 #[.int .u8 c] w fun e w' => e = .returned (.bool (partB c)) ∧ w = w' := by
  have HC := Lib.hid (letter_any c)
  cases hl : letterB c with
  | true =>
    have hp := Lib.hid (part_letter hl)
    have HC' : Hid (∀ w, Calls Tryz.prog 123 #[.int .u8 c] w fun e w' => e = .returned (.bool true) ∧ w = w') := fun w => by have := HC.out w; rwa [hl] at this
    clear hl HC
    go_enter Tryz.func124, Tryz.ntmps124
    go_wp2_with (go_at_call 123; refine (HC'.out _).mono ?_; rintro e w' ⟨rfl, rfl⟩)
    go_ret
    exact ⟨ret_bool hp.out.symm, rfl⟩
  | false =>
    have hp := Lib.hid (part_other hl)
    have HC' : Hid (∀ w, Calls Tryz.prog 123 #[.int .u8 c] w fun e w' => e = .returned (.bool false) ∧ w = w') := fun w => by have := HC.out w; rwa [hl] at this
    clear hl HC
    generalize partB c = pb at *
    by_cases h1 : 48 ≤ c <;> by_cases h2 : c ≤ 57
    all_goals first
      | (exfalso; omega)
      | (go_enter Tryz.func124, Tryz.ntmps124
         go_wp2_with (go_at_call 123; refine (HC'.out _).mono ?_; rintro e w' ⟨rfl, rfl⟩)
         all_goals
           go_ret
           refine ⟨ret_bool ?_, rfl⟩
           rw [hp.out, Bool.eq_iff_iff]
           simp
           omega)
theorem isName_size {s : ByteArray} (h : ¬ (1 ≤ s.size ∧ s.size ≤ 40)) : isNameB s = false := by
  unfold isNameB
  by_cases h1 : 1 ≤ s.size
  · have : ¬ s.size ≤ 40 := fun h2 => h ⟨h1, h2⟩
    simp [this]
  · simp [h1]
theorem isName_first {s : ByteArray} (h : letterB (byteAt s 0) = false) : isNameB s = false := by
  unfold isNameB; simp [h]
theorem isName_bad {s : ByteArray} {k : Nat} (hk : k < s.size) (h : partB (byteAt s k) = false) : isNameB s = false := by
  unfold isNameB
  have : (List.range s.size).all (fun i => partB (byteAt s i)) = false := by
    rw [List.all_eq_false]; exact ⟨k, List.mem_range.2 hk, by simp [h]⟩
  simp [this]
theorem isName_ok {s : ByteArray} (h1 : 1 ≤ s.size) (h2 : s.size ≤ 40) (h3 : letterB (byteAt s 0) = true) (h : ∀ j, j < s.size → partB (byteAt s j) = true) : isNameB s = true := by
  unfold isNameB
  have : (List.range s.size).all (fun i => partB (byteAt s i)) = true := by
    rw [List.all_eq_true]; exact fun j hj => h j (List.mem_range.1 hj)
  simp [this, h1, h2, h3]
set_option maxHeartbeats 400000 in
theorem isName_any (s : ByteArray) (w : World) (hs : s.size ≤ maxLen) : Calls Tryz.prog 76 #[.string s] w fun e w' => e = .returned (.bool (isNameB s)) ∧ w = w' := by
  unfold maxLen at hs
  by_cases h1 : 1 ≤ s.size
  · by_cases h2 : s.size ≤ 40
    · cases hl : letterB (byteAt s 0) with
      | false =>
        have HE := Lib.hid (isName_first hl)
        have HC : Hid (∀ w, Calls Tryz.prog 123 #[.int .u8 (s[0].toNat : Int)] w fun e w' => e = .returned (.bool false) ∧ w = w') := fun w => by
          have := letter_any (byteAt s 0) w; rwa [hl, byteAt_eq s 0 (by omega)] at this
        clear hl
        go_enter Tryz.func76, Tryz.ntmps76
        go_wp2_with (go_at_call 123; refine (HC.out _).mono ?_; rintro e w' ⟨rfl, rfl⟩)
        go_ret
        exact ⟨ret_bool HE.out.symm, rfl⟩
      | true =>
        have HL := Lib.hid hl
        have HC : Hid (∀ w, Calls Tryz.prog 123 #[.int .u8 (s[0].toNat : Int)] w fun e w' => e = .returned (.bool true) ∧ w = w') := fun w => by
          have := letter_any (byteAt s 0) w; rwa [hl, byteAt_eq s 0 (by omega)] at this
        clear hl
        go_enter Tryz.func76, Tryz.ntmps76
        go_wp2_with (go_at_call 123; refine (HC.out _).mono ?_; rintro e w' ⟨rfl, rfl⟩)
        go_loop [20] (fun i => ∃ k : Nat, 0 ≤ k ∧ k ≤ s.size ∧ i = .int .i64 k ∧ ∀ j, j < k → partB (byteAt s j) = true) (fun i => s.size - (intOf i).toNat)
        case atStart => exact ⟨0, Nat.le_refl _, by omega, rfl, fun j hj => absurd hj (by omega)⟩
        case round =>
          obtain ⟨k, hk0, hk, rfl, hp⟩ := hrel
          have HP := Lib.hid hp
          clear hp
          by_cases hlt : k < s.size
          · have hby := byteAt_eq s k hlt
            cases hq : partB (byteAt s k) with
            | true =>
              have HQ := Lib.hid hq
              have HD : Hid (∀ w, Calls Tryz.prog 124 #[.int .u8 (s[k].toNat : Int)] w fun e w' => e = .returned (.bool true) ∧ w = w') := fun w => by
                have := part_any (byteAt s k) w; rwa [hq, hby] at this
              clear hq hby
              go_wp2_with (go_at_call 124; refine (HD.out _).mono ?_; rintro e w' ⟨rfl, rfl⟩)
              go_round
              case rel => exact ⟨k + 1, by omega, by omega, by go_num, fun j hj => by
                by_cases e : j = k
                · subst e; exact HQ.out
                · exact HP.out j (by omega)⟩
              case measure => simp [intOf]; omega
            | false =>
              have HE := Lib.hid (isName_bad hlt hq)
              have HD : Hid (∀ w, Calls Tryz.prog 124 #[.int .u8 (s[k].toNat : Int)] w fun e w' => e = .returned (.bool false) ∧ w = w') := fun w => by
                have := part_any (byteAt s k) w; rwa [hq, hby] at this
              clear hq hby
              go_wp2_with (go_at_call 124; refine (HD.out _).mono ?_; rintro e w' ⟨rfl, rfl⟩)
              go_ret
              exact ⟨ret_bool HE.out.symm, rfl⟩
          · go_wp2_with fail
            go_ret
            exact ⟨ret_bool (isName_ok h1 h2 HL.out (fun j hj => HP.out j (by omega))).symm, rfl⟩
    · have HE := Lib.hid (isName_size (s := s) (by omega))
      go_enter Tryz.func76, Tryz.ntmps76
      go_wp2_with fail
      go_ret
      exact ⟨ret_bool HE.out.symm, rfl⟩
  · have HE := Lib.hid (isName_size (s := s) (by omega))
    go_enter Tryz.func76, Tryz.ntmps76
    go_wp2_with fail
    go_ret
    exact ⟨ret_bool HE.out.symm, rfl⟩
set_option maxHeartbeats 400000 in
theorem isName_ref (s : ByteArray) (w : World) (hs : s.size ≤ maxLen) : Calls Tryz.prog 80 #[.string s] w fun e w' => e = .returned (.bool (isNameB s)) ∧ w = w' := by
  unfold maxLen at hs
  by_cases h1 : 1 ≤ s.size
  · by_cases h2 : s.size ≤ 40
    · cases hl : letterB (byteAt s 0) with
      | false =>
        have HE := Lib.hid (isName_first hl)
        have HC : Hid (∀ w, Calls Tryz.prog 125 #[.int .u8 (s[0].toNat : Int)] w fun e w' => e = .returned (.bool false) ∧ w = w') := fun w => by
          have := letter_ref (byteAt s 0) w; rwa [hl, byteAt_eq s 0 (by omega)] at this
        clear hl
        go_enter Tryz.func80, Tryz.ntmps80
        go_wp2_with (go_at_call 125; refine (HC.out _).mono ?_; rintro e w' ⟨rfl, rfl⟩)
        go_ret
        exact ⟨ret_bool HE.out.symm, rfl⟩
      | true =>
        have HL := Lib.hid hl
        have HC : Hid (∀ w, Calls Tryz.prog 125 #[.int .u8 (s[0].toNat : Int)] w fun e w' => e = .returned (.bool true) ∧ w = w') := fun w => by
          have := letter_ref (byteAt s 0) w; rwa [hl, byteAt_eq s 0 (by omega)] at this
        clear hl
        go_enter Tryz.func80, Tryz.ntmps80
        go_wp2_with (go_at_call 125; refine (HC.out _).mono ?_; rintro e w' ⟨rfl, rfl⟩)
        go_loop [3] (fun i => ∃ k : Nat, 1 ≤ k ∧ k ≤ s.size ∧ i = .int .i64 k ∧ ∀ j, j < k → partB (byteAt s j) = true) (fun i => s.size - (intOf i).toNat)
        case atStart => exact ⟨1, Nat.le_refl _, by omega, rfl, fun j hj => by rw [show j = 0 from by omega]; exact part_letter HL.out⟩
        case round =>
          obtain ⟨k, hk0, hk, rfl, hp⟩ := hrel
          have HP := Lib.hid hp
          clear hp
          by_cases hlt : k < s.size
          · have hby := byteAt_eq s k hlt
            cases hq : letterB (byteAt s k) with
            | true =>
              have HQ := Lib.hid (part_letter hq)
              have HD : Hid (∀ w, Calls Tryz.prog 125 #[.int .u8 (s[k].toNat : Int)] w fun e w' => e = .returned (.bool true) ∧ w = w') := fun w => by
                have := letter_ref (byteAt s k) w; rwa [hq, hby] at this
              clear hq hby
              go_wp2_with (go_at_call 125; refine (HD.out _).mono ?_; rintro e w' ⟨rfl, rfl⟩)
              go_round
              case rel => exact ⟨k + 1, by omega, by omega, by go_num, fun j hj => by
                by_cases e : j = k
                · subst e; exact HQ.out
                · exact HP.out j (by omega)⟩
              case measure => simp [intOf]; omega
            | false =>
              have HQ := Lib.hid (part_other hq)
              have HD : Hid (∀ w, Calls Tryz.prog 125 #[.int .u8 (s[k].toNat : Int)] w fun e w' => e = .returned (.bool false) ∧ w = w') := fun w => by
                have := letter_ref (byteAt s k) w; rwa [hq, hby] at this
              have HY : Hid (partB (byteAt s k) = (decide (48 ≤ (s[k].toNat : Int) ∧ (s[k].toNat : Int) ≤ 57) || decide ((s[k].toNat : Int) = 95) || decide ((s[k].toNat : Int) = 45) || decide ((s[k].toNat : Int) = 46))) := by rw [← hby]; exact HQ.out
              clear hq hby HQ
              go_wp2_with (go_at_call 125; refine (HD.out _).mono ?_; rintro e w' ⟨rfl, rfl⟩)
              all_goals first
                | (go_ret
                   exact ⟨ret_bool (isName_bad hlt (by rw [HY.out]; go_light; simp at *; omega)).symm, rfl⟩)
                | (go_round
                   case rel => exact ⟨k + 1, by omega, by omega, by go_num, fun j hj => by
                     by_cases e : j = k
                     · subst e; rw [HY.out]; go_light; simp at *; omega
                     · exact HP.out j (by omega)⟩
                   case measure => simp [intOf]; omega)
          · go_wp2_with fail
            go_ret
            exact ⟨ret_bool (isName_ok h1 h2 HL.out (fun j hj => HP.out j (by omega))).symm, rfl⟩
    · have HE := Lib.hid (isName_size (s := s) (by omega))
      go_enter Tryz.func80, Tryz.ntmps80
      go_wp2_with fail
      go_ret
      exact ⟨ret_bool HE.out.symm, rfl⟩
  · have HE := Lib.hid (isName_size (s := s) (by omega))
    go_enter Tryz.func80, Tryz.ntmps80
    go_wp2_with fail
    go_ret
    exact ⟨ret_bool HE.out.symm, rfl⟩
end Go.Proofs.YtoalecalahkblaaGreatDoor

set_option linter.all false
namespace Go.Proofs.YtoalecalahkblaaGreatDoor
open Go.RowKit
structure Val where
  kind : Int
  n : Int
  s : ByteArray
deriving DecidableEq
structure Var where
  name : ByteArray
  kind : Int
  low : Int
  high : Int
  items : List ByteArray
def plainC (c : UInt8) : Bool := decide (32 ≤ c.toNat ∧ c.toNat ≤ 126)
def textB (s : ByteArray) : Bool := decide (s.size ≤ 200) && s.data.toList.all plainC
def numB (n : Int) : Bool := decide (-4503599627370496 ≤ n ∧ n ≤ 4503599627370496)
def noS (s : ByteArray) : Bool := s.toList.isEmpty
def validV (v : Val) : Bool :=
  if v.kind = 1 then decide (v.n = 0 ∨ v.n = 1) && noS v.s
  else if v.kind = 2 then numB v.n && noS v.s
  else if v.kind = 3 then decide (v.n = 0) && textB v.s
  else false
def bytesOf (l : List ByteArray) : List Bs := l.map fun s => s.data.toList
def onceB (l : List Bs) : Bool := decide l.Nodup
def formB (x : Var) : Bool :=
  if x.kind = 1 then decide (x.low = 0 ∧ x.high = 0 ∧ x.items.length = 0)
  else if x.kind = 2 then numB x.low && numB x.high && decide (x.low ≤ x.high ∧ x.high - x.low < 1000 ∧ x.items.length = 0)
  else if x.kind = 3 then decide (x.low = 0 ∧ x.high = 0 ∧ 1 ≤ x.items.length ∧ x.items.length ≤ 1000) && x.items.all textB && onceB (bytesOf x.items)
  else false
def varB (x : Var) : Bool := isNameB x.name && formB x
def varsB (l : List Var) : Bool := decide (l.length ≤ 8) && l.all varB && onceB (bytesOf (l.map Var.name))
def atS (l : List ByteArray) (s : ByteArray) : Int := match l.findIdx? (fun y => y.toList == s.toList) with | some i => (i : Int) | none => -1
def placeV (x : Var) (v : Val) : Int :=
  if v.kind ≠ x.kind then -1
  else if x.kind = 1 then v.n
  else if x.kind = 3 then atS x.items v.s
  else if v.n < x.low ∨ x.high < v.n then -1
  else v.n - x.low
def sizeV (x : Var) : Int := if x.kind = 1 then 2 else if x.kind = 2 then x.high - x.low + 1 else x.items.length
def emptyS : ByteArray := ⟨#[]⟩
def nthV (x : Var) (i : Int) : Val :=
  if x.kind = 3 then ⟨3, 0, x.items.getD i.toNat emptyS⟩ else if x.kind = 2 then ⟨2, i + x.low, emptyS⟩ else ⟨x.kind, i, emptyS⟩
def noV : Val := ⟨0, 0, emptyS⟩
end Go.Proofs.YtoalecalahkblaaGreatDoor
