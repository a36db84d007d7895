/- Rows of the call's own, and slices that read as lists. No program in sight. -/
import Derived.Test.YtilmdlkfmkbfmaaWords
import Derived.Maps.AppendAt
import Derived.Deep.AppendLies
import Derived.RegionTactic
import Derived.OwnWalk
set_option linter.all false
namespace Go.Proofs.Ytilmdlkfmkbfmaa
open Go.RowKit

theorem grown_of_below {w w' : World} (h : Below w.heap.size w w') (row : Option Nat) : w.grownBy w' row := ⟨h.os, h.tape, h.output, h.size, fun i hi _ => h.block i hi⟩
theorem below_of_grown {w w' : World} {B : Nat} {row : Option Nat} (h : w.grownBy w' row) (hB : B ≤ w.heap.size) (hr : ∀ g, row = some g → B ≤ g) : Below B w w' :=
  ⟨h.os, h.tape, h.output, h.size, fun i hi => h.block i (by omega) (fun e => by have := hr i e.symm; omega)⟩
theorem own_now {w w' : World} {base e size n : Nat} {v : Value} {xs : List Value} (h : w.ownsRow base e size v n xs) (hb : Below w.heap.size w w') : w'.ownsRow base e size v n xs := by
  refine h.kept (grown_of_below hb none) ?_
  cases e : v.ownBlock with
  | none => exact .inl rfl
  | some g => exact .inr (by simp)
theorem own_len {w : World} {base e n : Nat} {v : Value} {xs : List Value} (h : w.ownsRow base e 1 v n xs) : xs.length = n := by simpa using h.1

section
variable {α : Type} {R : ElemR α} {D : Nat → Prop} {w : World} {base t size n : Nat} {v : Value} {cs : List Value} {xs : List α}
theorem Sl.of_own (h : w.ownsRow base t size v n cs) (hn : xs.length = n) (hD : ∀ g, v.ownBlock = some g → D g)
    (hr : ∀ i x, xs[i]? = some x → ∃ es : List Value, es.length = size ∧ (∀ j u, es[j]? = some u → cs[i * size + j]? = some u) ∧ R D w x es) : Sl size R D w v xs := by
  subst hn
  rcases h.2 with ⟨rfl, h0⟩ | ⟨g, cap, cur, rfl, hb, hg, hc, hm, hs, htake⟩
  · have : xs = [] := List.eq_nil_of_length_eq_zero h0
    subst this
    exact Sl.none_
  · refine ⟨some ⟨g, 0, none⟩, cap, rfl, hc, hm, fun i x hx => ?_⟩
    obtain ⟨es, hl, hes, hR⟩ := hr i x hx
    refine ⟨g, 0, es, rfl, hD g rfl, hl, hR, fun j u hu => ?_⟩
    have hj := hes j u hu
    have hlt : i * size + j < xs.length * size := by
      rw [← h.1]
      rcases Nat.lt_or_ge (i * size + j) cs.length with h | h
      · exact h
      · rw [List.getElem?_eq_none h] at hj; cases hj
    have := World.ownsRow.cellAt h (i * size + j) hlt
    rw [Nat.zero_add, this]
    exact hj
theorem own_lt (h : w.ownsRow base t size v n cs) : ∀ g, v.ownBlock = some g → Lt w.heap.size g := fun g hg => (h.lt g hg).2
theorem Sl.of_own1 (h : w.ownsRow base t 1 v n cs) (hn : xs.length = n) (hD : ∀ g, v.ownBlock = some g → D g)
    (hr : ∀ (i : Nat) (x : α), xs[i]? = some x → ∃ u, cs[i]? = some u ∧ R D w x [u]) : Sl 1 R D w v xs :=
  Sl.of_own h hn hD fun i x hx => by
    obtain ⟨u, hu, hR⟩ := hr i x hx
    refine ⟨[u], rfl, fun j y hy => ?_, hR⟩
    match j, hy with
    | 0, hy => injection hy with hy; subst hy; simpa using hu
    | j + 1, hy => simp at hy
end

section
variable {w : World} {base t n : Nat} {v : Value}
theorem SlI.of_own {zs : List Int} (h : w.ownsRow base t 1 v n (zs.map (Value.int .i64))) (hf : ∀ z ∈ zs, Fit z) : SlI (Lt w.heap.size) w v zs :=
  Sl.of_own1 h (by simpa using own_len h) (own_lt h) fun i x hx => ⟨.int .i64 x, by simp [hx], rfl, hf x (List.mem_of_getElem? hx)⟩
theorem SlS.of_own {zs : List ByteArray} (h : w.ownsRow base t 1 v n (zs.map Value.string)) (hf : ∀ z ∈ zs, z.size ≤ maxLen) : SlS (Lt w.heap.size) w v zs :=
  Sl.of_own1 h (by simpa using own_len h) (own_lt h) fun i x hx => ⟨.string x, by simp [hx], rfl, hf x (List.mem_of_getElem? hx)⟩
theorem SlB.of_own {zs : List Bool} (h : w.ownsRow base t 1 v n (zs.map Value.bool)) : SlB (Lt w.heap.size) w v zs :=
  Sl.of_own1 h (by simpa using own_len h) (own_lt h) fun i x hx => ⟨.bool x, by simp [hx], rfl⟩

/-- A row of the call's own, its block and capacity named; it holds the numbers zs. -/
def OwnI (w : World) (base t g cap : Nat) (zs : List Int) : Prop := w.ownsRow base t 1 (.slice (some ⟨g, 0, none⟩) zs.length cap) zs.length (zs.map (Value.int .i64)) ∧ g < w.heap.size ∧ base ≤ g
theorem OwnI.of {zs : List Int} (h : w.ownsRow base t 1 v n (zs.map (Value.int .i64))) (hn : 0 < zs.length) : ∃ g cap, v = .slice (some ⟨g, 0, none⟩) zs.length cap ∧ zs.length ≤ cap ∧ OwnI w base t g cap zs := by
  have hl : zs.length = n := by simpa using own_len h
  subst hl
  obtain ⟨g, cap, rfl, h1, h2⟩ := h.form hn
  refine ⟨g, cap, rfl, ?_, h, h2, h1⟩
  rcases h.2 with ⟨h', _⟩ | ⟨g', cap', cur, h', _, _, hc, _⟩
  · simp at h'
  · injection h' with _ _ e; omega
end
section
variable {w w' : World} {base t g cap : Nat} {zs : List Int}
theorem OwnI.cell (h : OwnI w base t g cap zs) {k : Nat} {z : Int} (hz : zs[k]? = some z) : w.cell? ⟨g, k, none⟩ = some (.int .i64 z) := by
  have hk : k < zs.length := by
    rcases Nat.lt_or_ge k zs.length with h | h
    · exact h
    · rw [List.getElem?_eq_none h] at hz; cases hz
  rw [h.1.cellAt k (by omega)]; simp [hz]
theorem OwnI.frozen (h : OwnI w base t g cap zs) (k : Nat) : w.frozen? ⟨g, k, none⟩ = false := h.1.frozenAt k
theorem OwnI.set_ (h : OwnI w base t g cap zs) (k : Nat) (z : Int) : OwnI (w.setCell ⟨g, k, none⟩ (.int .i64 z)) base t g cap (zs.set k z) := by
  refine ⟨?_, by simpa using h.2.1, h.2.2⟩
  have := (h.1.stored k (.int .i64 z)).1
  rw [List.length_set, List.map_set]
  exact this
theorem OwnI.now (h : OwnI w base t g cap zs) (hb : Below w.heap.size w w') : OwnI w' base t g cap zs := ⟨own_now h.1 hb, Nat.lt_of_lt_of_le h.2.1 hb.size, h.2.2⟩
theorem OwnI.drew (h : OwnI w base t g cap zs) : OwnI w.drew base t g cap zs := h
theorem OwnI.drewN (h : OwnI w base t g cap zs) (n : Nat) : OwnI (w.drewN n) base t g cap zs := h
theorem OwnI.sl (h : OwnI w base t g cap zs) (hf : ∀ z ∈ zs, Fit z) : SlI (Lt w.heap.size) w (.slice (some ⟨g, 0, none⟩) zs.length cap) zs := SlI.of_own h.1 hf
theorem OwnI.lt (h : OwnI w base t g cap zs) : g < w.heap.size := h.2.1
theorem OwnI.from_ (h : OwnI w base t g cap zs) : base ≤ g := h.2.2
end

/-- The cells of a slice's elements, one after another. -/
theorem Sl.cells1 {α : Type} {R : ElemR α} {D : Nat → Prop} {w : World} {A : Option Addr} {n c : Nat} {xs : List α} (h : Sl 1 R D w (.slice A n c) xs) (f : α → Value) (hf : ∀ x u, R D w x [u] → u = f x) :
    n = xs.length ∧ (0 < n → ∃ b o, A = some ⟨b, o, none⟩ ∧ D b ∧ ∀ k x, xs[k]? = some x → w.cell? ⟨b, o + k, none⟩ = some (f x)) := by
  refine ⟨?_, fun hn => ?_⟩
  · obtain ⟨A', c', hv, _⟩ := h
    injection hv
  · obtain ⟨b, o, hA, hD, _, hc⟩ := h.row1 hn
    refine ⟨b, o, hA, hD, fun k x hx => ?_⟩
    obtain ⟨u, hR, hu⟩ := hc k x hx
    rw [hu, hf x u hR]
theorem SlI.cells {D : Nat → Prop} {w : World} {A : Option Addr} {n c : Nat} {zs : List Int} (h : SlI D w (.slice A n c) zs) (hn : 0 < n) :
    ∃ b o, A = some ⟨b, o, none⟩ ∧ D b ∧ n = zs.length ∧ ∀ j, j < zs.length → w.cell? ⟨b, o + j, none⟩ = some (.int .i64 (zs.getD j 0)) := by
  obtain ⟨h1, h2⟩ := Sl.cells1 h (Value.int .i64) (fun x u h => by injection h.1)
  obtain ⟨b, o, hA, hD, hc⟩ := h2 hn
  refine ⟨b, o, hA, hD, h1, fun j hj => ?_⟩
  rw [hc j zs[j] (List.getElem?_eq_getElem hj), List.getD_eq_getElem?_getD, List.getElem?_eq_getElem hj]; rfl
theorem SlS.cells {D : Nat → Prop} {w : World} {A : Option Addr} {n c : Nat} {zs : List ByteArray} (h : SlS D w (.slice A n c) zs) (hn : 0 < n) :
    ∃ b o, A = some ⟨b, o, none⟩ ∧ D b ∧ n = zs.length ∧ ∀ j, j < zs.length → w.cell? ⟨b, o + j, none⟩ = some (.string (zs.getD j ByteArray.empty)) := by
  obtain ⟨h1, h2⟩ := Sl.cells1 h Value.string (fun x u h => by injection h.1)
  obtain ⟨b, o, hA, hD, hc⟩ := h2 hn
  refine ⟨b, o, hA, hD, h1, fun j hj => ?_⟩
  rw [hc j zs[j] (List.getElem?_eq_getElem hj), List.getD_eq_getElem?_getD, List.getElem?_eq_getElem hj]; rfl
theorem SlI.fits {D : Nat → Prop} {w : World} {v : Value} {zs : List Int} (h : SlI D w v zs) : ∀ z ∈ zs, Fit z := by
  intro z hz
  obtain ⟨q, hq, rfl⟩ := List.mem_iff_getElem.1 hz
  obtain ⟨A, c, rfl, _, _, h⟩ := h.open_
  obtain ⟨_, _, z', _, _, hx, hf, _⟩ := h.at_ hq
  rw [List.getElem?_eq_getElem hq] at hx
  injection hx with hx
  rw [hx]; exact hf
theorem Blk.new_at {w : World} {t s : Nat} {cs : Array Value} (hs : w.heap.size = s) : Blk (w.alloc (.cells cs t)) s t cs := by subst hs; exact Blk.new w t cs
/-- A slice over the whole of a block. -/
theorem Sl.ofBlk {α : Type} {R : ElemR α} {w : World} {g t size : Nat} {cs : List Value} {xs : List α} (h : Blk w g t cs.toArray) (hm : xs.length ≤ maxLen)
    (hr : ∀ (i : Nat) (x : α), xs[i]? = some x → ∃ es : List Value, es.length = size ∧ (∀ j u, es[j]? = some u → cs[i * size + j]? = some u) ∧ R (Lt w.heap.size) w x es) :
    Sl size R (Lt w.heap.size) w (.slice (some ⟨g, 0, none⟩) xs.length xs.length) xs := by
  refine ⟨some ⟨g, 0, none⟩, xs.length, rfl, Nat.le_refl _, hm, fun i x hx => ?_⟩
  obtain ⟨es, hl, hes, hR⟩ := hr i x hx
  refine ⟨g, 0, es, rfl, h.lt, hl, hR, fun j u hu => ?_⟩
  rw [Nat.zero_add, h.cell]
  simpa using hes j u hu
theorem SlI.ofBlk {w : World} {g t : Nat} {zs : List Int} (h : Blk w g t (zs.map (Value.int .i64)).toArray) (hm : zs.length ≤ maxLen) (hf : ∀ z ∈ zs, Fit z) : SlI (Lt w.heap.size) w (.slice (some ⟨g, 0, none⟩) zs.length zs.length) zs :=
  Sl.ofBlk h hm fun i x hx => ⟨[.int .i64 x], rfl, fun j u hu => by
    match j, hu with
    | 0, hu => injection hu with hu; subst hu; simp [hx]
    | j + 1, hu => simp at hu, rfl, hf x (List.mem_of_getElem? hx)⟩
theorem SlS.ofBlk {w : World} {g t : Nat} {zs : List ByteArray} (h : Blk w g t (zs.map Value.string).toArray) (hm : zs.length ≤ maxLen) (hf : ∀ z ∈ zs, z.size ≤ maxLen) : SlS (Lt w.heap.size) w (.slice (some ⟨g, 0, none⟩) zs.length zs.length) zs :=
  Sl.ofBlk h hm fun i x hx => ⟨[.string x], rfl, fun j u hu => by
    match j, hu with
    | 0, hu => injection hu with hu; subst hu; simp [hx]
    | j + 1, hu => simp at hu, rfl, hf x (List.mem_of_getElem? hx)⟩

/-- What the append's law asks of a slice type and its element type. -/
def AppInfo (P : Program) (t e : TypeId) (size : Nat) : Prop :=
  ∃ (i : TypeInfo) (z : Value), P.underlying t = some (.slice e) ∧ P.info? e = some i ∧ i.zero = some z ∧ i.size = size ∧ i.bytes ≤ 4096 ∧ z.cells.size = size ∧ 0 < size
theorem AppInfo.mk' {P : Program} {t e : TypeId} {size bytes : Nat} {z : Value} (h1 : P.underlying t = some (.slice e)) (h2 : (P.info? e).map (fun i => (i.zero, i.size, i.bytes)) = some (some z, size, bytes)) (h3 : bytes ≤ 4096) (h4 : z.cells.size = size) (h5 : 0 < size) : AppInfo P t e size := by
  obtain ⟨i, hi, hz, hs, hb⟩ := info_parts h2
  exact ⟨i, z, h1, hi, hz, hs, by omega, h4, h5⟩

section
variable {P : Program} {t e size base : Nat}
theorem wp_push {o : Oper} {a : Act} {K : Act → World → Prop} {Q : Exit → Act → World → Prop} (hI : AppInfo P t e size) (s x : Operand)
    (ho : o.op = .call { callee := .builtin .append, args := #[s, x], argTypes := #[t, t] }) (w0 : World) (cs : List Value) (hcs : cs.length = size) (h1 : ∀ u ∈ cs, u.oneCell' = true)
    (v : Value) (n : Nat) (xs : List Value) (hs : a.eval s = v) (hown : w0.ownsRow base e size v n xs) (hx : a.eval x = .slice (some ⟨w0.heap.size, 0, none⟩) 1 1) (hn : n < 10000000) (hbase : base ≤ w0.heap.size)
    (h : ∀ v' w', w'.ownsRow base e size v' (n + 1) (xs ++ cs) → w0.grownBy w' v.ownBlock → (v'.ownBlock = v.ownBlock ∨ v'.ownBlock = some (w0.heap.size + 1)) → K (a.put o.dst v') w') : o.wp P a (w0.alloc (.cells cs.toArray e)) K Q := by
  obtain ⟨i, z, ht, hi, hz, hsz, hby, hzs, hp⟩ := hI
  have hcells : ∀ j u, cs[j]? = some u → (w0.alloc (.cells cs.toArray e)).cell? ((⟨w0.heap.size, 0, none⟩ : Addr).add j) = some u := by
    intro j u hu
    have : ((⟨w0.heap.size, 0, none⟩ : Addr).add j) = ⟨w0.heap.size, j, none⟩ := by unfold Addr.add; by_cases hj : j = 0 <;> simp [hj]
    rw [this, (Blk.new w0 e cs.toArray).cell j]
    simpa using hu
  obtain ⟨v', w', hrun, h2, h3, _, h5⟩ := run_append_own_at (P := P) (w0.alloc (.cells cs.toArray e)) base t o.type e i z size i.bytes ht hi hz hsz rfl hzs hp v n xs (hown.alloc _) ⟨w0.heap.size, 0, none⟩ 1 1 cs (by omega) hcells h1 (by unfold maxLen; omega) (by
    have : (n + 1) * i.bytes ≤ 10000000 * 4096 := Nat.mul_le_mul (by omega) hby
    omega) (by simp; omega)
  unfold Oper.wp execOp
  simp only [ho, resolve, invoke, builtin, Sem.run_bind, Sem.run_pure, Result.andThen_ok, List.map_toArray, List.map_cons, List.map_nil, hs, hx, hrun]
  refine h v' w' h2 ⟨h3.os, h3.tape, h3.output, Nat.le_trans (by simp) h3.size, fun k hk hne => (h3.block k (by simp; omega) hne).trans (Below.heap_alloc _ _ _ hk)⟩ ?_
  rcases h5 with h5 | h5
  · exact .inl h5
  · exact .inr (by rw [h5]; simp)
theorem wpList_push {ops : Array Oper} {rest : List Oper} {o : Oper} {a : Act} {Q : Exit → Act → World → Prop} (hI : AppInfo P t e size) (hgd : o.guard = none) (s x : Operand)
    (ho : o.op = .call { callee := .builtin .append, args := #[s, x], argTypes := #[t, t] }) (w0 : World) (cs : List Value) (hcs : cs.length = size) (h1 : ∀ u ∈ cs, u.oneCell' = true)
    (v : Value) (n : Nat) (xs : List Value) (hs : a.eval s = v) (hown : w0.ownsRow base e size v n xs) (hx : a.eval x = .slice (some ⟨w0.heap.size, 0, none⟩) 1 1) (hn : n < 10000000) (hbase : base ≤ w0.heap.size)
    (h : ∀ v' w', w'.ownsRow base e size v' (n + 1) (xs ++ cs) → w0.grownBy w' v.ownBlock → (v'.ownBlock = v.ownBlock ∨ v'.ownBlock = some (w0.heap.size + 1)) → wpList P ops Q rest (a.put o.dst v') w') : wpList P ops Q (o :: rest) a (w0.alloc (.cells cs.toArray e)) :=
  wpList_plain hgd fun _ hK => wp_push hI s x ho w0 cs hcs h1 v n xs hs hown hx hn hbase fun v' w' h2 h3 h4 => hK _ _ (h v' w' h2 h3 h4)

theorem step_push {ops : Array Oper} {o : Oper} {a : Act} {K : Act → World → Prop} {Q : Exit → Act → World → Prop} {E : Prop} (hI : AppInfo P t e size) (hgd : o.guard = none) (s x : Operand)
    (ho : o.op = .call { callee := .builtin .append, args := #[s, x], argTypes := #[t, t] }) (w0 : World) (cs : List Value) (hcs : cs.length = size) (h1 : ∀ u ∈ cs, u.oneCell' = true)
    (v : Value) (n : Nat) (xs : List Value) (hs : a.eval s = v) (hown : w0.ownsRow base e size v n xs) (hx : a.eval x = .slice (some ⟨w0.heap.size, 0, none⟩) 1 1) (hn : n < 10000000) (hbase : base ≤ w0.heap.size)
    (h : ∀ v' w', w'.ownsRow base e size v' (n + 1) (xs ++ cs) → w0.grownBy w' v.ownBlock → (v'.ownBlock = v.ownBlock ∨ v'.ownBlock = some (w0.heap.size + 1)) → K (a.put o.dst v') w') :
    if Region.wanted o (yielded ops a.tmps) = true then Oper.wp P o a (w0.alloc (.cells cs.toArray e)) K Q else E := by
  have hw : Region.wanted o (yielded ops a.tmps) = true := by simp [Region.wanted, hgd]
  rw [if_pos hw]
  exact wp_push hI s x ho w0 cs hcs h1 v n xs hs hown hx hn hbase h

theorem step_push_drew {ops : Array Oper} {o : Oper} {a : Act} {K : Act → World → Prop} {Q : Exit → Act → World → Prop} {E : Prop} (hI : AppInfo P t e size) (hgd : o.guard = none) (s x : Operand)
    (ho : o.op = .call { callee := .builtin .append, args := #[s, x], argTypes := #[t, t] }) (w0 : World) (cs : List Value) (hcs : cs.length = size) (h1 : ∀ u ∈ cs, u.oneCell' = true)
    (v : Value) (n : Nat) (xs : List Value) (hs : a.eval s = v) (hown : w0.ownsRow base e size v n xs) (hx : a.eval x = .slice (some ⟨w0.heap.size, 0, none⟩) 1 1) (hn : n < 10000000) (hbase : base ≤ w0.heap.size)
    (h : ∀ v' w', w'.ownsRow base e size v' (n + 1) (xs ++ cs) → w0.grownBy w' v.ownBlock → (v'.ownBlock = v.ownBlock ∨ v'.ownBlock = some (w0.heap.size + 1)) → K (a.put o.dst v') w') :
    if Region.wanted o (yielded ops a.tmps) = true then Oper.wp P o a (w0.alloc (.cells cs.toArray e)).drew K Q else E :=
  step_push (w0 := w0.drew) hI hgd s x ho cs hcs h1 v n xs hs hown hx hn hbase fun v' w' h2 h3 h4 => h v' w' h2 ⟨h3.os, h3.tape, h3.output, h3.size, h3.block⟩ h4

/-- append(out, xs...): xs reads as a list. -/
theorem wp_appendAll {α : Type} {R : ElemR α} {D : Nat → Prop} {o : Oper} {a : Act} {K : Act → World → Prop} {Q : Exit → Act → World → Prop} (hI : AppInfo P t e 1) (s x : Operand)
    (ho : o.op = .call { callee := .builtin .append, args := #[s, x], argTypes := #[t, t] }) (w : World)
    (v : Value) (n : Nat) (xs : List Value) (hs : a.eval s = v) (hown : w.ownsRow base e 1 v n xs) (u : Value) (ys : List α) (f : α → Value) (hx : a.eval x = u) (hu : Sl 1 R D w u ys) (hf : ∀ y c, R D w y [c] → c = f y) (h1 : ∀ y, (f y).oneCell' = true) (hn : n + ys.length < 10000000) (hbase : base ≤ w.heap.size)
    (h : ∀ v' w', w'.ownsRow base e 1 v' (n + ys.length) (xs ++ ys.map f) → w.grownBy w' v.ownBlock → (v'.ownBlock = v.ownBlock ∨ v'.ownBlock = some w.heap.size) → K (a.put o.dst v') w') : o.wp P a w K Q := by
  obtain ⟨i, z, ht, hi, hz, hsz, hby, hzs, hp⟩ := hI
  obtain ⟨A, c, rfl, hc1, hc2, hu⟩ := hu.open_
  have key : ∃ v' w', (Builtin.append_ #[t, t] o.type #[v, .slice A ys.length c]).run P w = .ok v' w' ∧ w'.ownsRow base e 1 v' (n + ys.length) (xs ++ ys.map f) ∧ w.grownBy w' v.ownBlock ∧ (v'.ownBlock = v.ownBlock ∨ v'.ownBlock = some w.heap.size) := by
    rcases Nat.eq_zero_or_pos ys.length with h0 | h0
    · have : ys = [] := List.eq_nil_of_length_eq_zero h0
      subst this
      rcases A with _ | ad
      · refine ⟨v, w, ?_, by simpa using hown, World.grownBy.refl w _, .inl rfl⟩
        rcases hown.2 with ⟨rfl, rfl⟩ | ⟨g, cap, cur, rfl, _, _, hnc, _⟩
        · simp [Builtin.append_, run_underlying ht, sizeOf, typeInfo, hi, Builtin.lenOf, Builtin.firstCells]
        · simp [Builtin.append_, run_underlying ht, sizeOf, typeInfo, hi, Builtin.lenOf, Builtin.firstCells, hnc, storeCells]
      · obtain ⟨v', w', hrun, h2, h3, _, h5⟩ := run_append_own_at (P := P) w base t o.type e i z 1 i.bytes ht hi hz hsz rfl hzs hp v n xs hown ad 0 c [] (by simp) (fun j u hj => by simp at hj) (by simp) (by unfold maxLen; omega) (by
          have : (n + 0) * i.bytes ≤ 10000000 * 4096 := Nat.mul_le_mul (by simp at hn; omega) hby
          omega) hbase
        exact ⟨v', w', hrun, h2, h3, h5⟩
    · obtain ⟨_, hcell⟩ := Sl.cells1 hu f hf
      obtain ⟨b, off, rfl, _, hc⟩ := hcell h0
      obtain ⟨v', w', hrun, h2, h3, _, h5⟩ := run_append_own_at (P := P) w base t o.type e i z 1 i.bytes ht hi hz hsz rfl hzs hp v n xs hown ⟨b, off, none⟩ ys.length c (ys.map f) (by simp) (fun j u hj => by
          rw [List.getElem?_map, Option.map_eq_some_iff] at hj
          obtain ⟨y, hy, rfl⟩ := hj
          have : ((⟨b, off, none⟩ : Addr).add j) = ⟨b, off + j, none⟩ := by unfold Addr.add; by_cases hj : j = 0 <;> simp [hj]
          rw [this]; exact hc j y hy) (by intro u hu; obtain ⟨y, _, rfl⟩ := List.mem_map.1 hu; exact h1 y) (by unfold maxLen; omega) (by
          have : (n + ys.length) * i.bytes ≤ 10000000 * 4096 := Nat.mul_le_mul (by omega) hby
          omega) hbase
      exact ⟨v', w', hrun, h2, h3, h5⟩
  obtain ⟨v', w', hrun, h2, h3, h5⟩ := key
  unfold Oper.wp execOp
  simp only [ho, resolve, invoke, builtin, Sem.run_bind, Sem.run_pure, Result.andThen_ok, List.map_toArray, List.map_cons, List.map_nil, hs, hx, hrun]
  exact h v' w' h2 h3 h5
theorem wpList_appendAll {α : Type} {R : ElemR α} {D : Nat → Prop} {ops : Array Oper} {rest : List Oper} {o : Oper} {a : Act} {Q : Exit → Act → World → Prop} (hI : AppInfo P t e 1) (hgd : o.guard = none) (s x : Operand)
    (ho : o.op = .call { callee := .builtin .append, args := #[s, x], argTypes := #[t, t] }) (w : World)
    (v : Value) (n : Nat) (xs : List Value) (hs : a.eval s = v) (hown : w.ownsRow base e 1 v n xs) (u : Value) (ys : List α) (f : α → Value) (hx : a.eval x = u) (hu : Sl 1 R D w u ys) (hf : ∀ y c, R D w y [c] → c = f y) (h1 : ∀ y, (f y).oneCell' = true) (hn : n + ys.length < 10000000) (hbase : base ≤ w.heap.size)
    (h : ∀ v' w', w'.ownsRow base e 1 v' (n + ys.length) (xs ++ ys.map f) → w.grownBy w' v.ownBlock → (v'.ownBlock = v.ownBlock ∨ v'.ownBlock = some w.heap.size) → wpList P ops Q rest (a.put o.dst v') w') : wpList P ops Q (o :: rest) a w :=
  wpList_plain hgd fun _ hK => wp_appendAll hI s x ho w v n xs hs hown u ys f hx hu hf h1 hn hbase fun v' w' h2 h3 h4 => hK _ _ (h v' w' h2 h3 h4)
end

end Go.Proofs.Ytilmdlkfmkbfmaa
