/- Rows of bytes that a call makes: a string appended. -/
import Derived.Test.YtjglmjdfndcmmaaBytesOwn
import Derived.Lib.AppendStr
import Derived.Lib.OwnKind
import Derived.Lib.OthersKept
import Derived.Lib.UnsafeStr
set_option linter.all false
namespace Go.Proofs.Ytjglmjdfndcmmaa
open Go.RowKit

/-- The row's block is the same, or new. -/
def Hat (w : World) (v v' : Value) : Prop := ∀ g, v'.ownBlock = some g → v.ownBlock = some g ∨ w.heap.size ≤ g
/-- What a call does that appends to a row. -/
structure Adds (base : Nat) (w : World) (v : Value) (l : List UInt8) (w' : World) (v' : Value) : Prop where
  own : OwnC w' base v' l
  grown : w.grownBy w' v.ownBlock
  hat : Hat w v v'
theorem Adds.trans {base : Nat} {w w1 w2 : World} {v v1 v2 : Value} {l1 l2 : List UInt8} (h : Adds base w v l1 w1 v1) (k : Adds base w1 v1 l2 w2 v2) : Adds base w v l2 w2 v2 :=
  ⟨k.own, ⟨k.grown.os.trans h.grown.os, k.grown.tape.trans h.grown.tape, k.grown.output.trans h.grown.output, Nat.le_trans h.grown.size k.grown.size, fun i hi hne => by
    have h1 := h.grown.block i hi hne
    refine (k.grown.block i (Nat.lt_of_lt_of_le hi h.grown.size) (fun e => ?_)).trans h1
    rcases h.hat i e.symm with e2 | e2
    · exact hne e2.symm
    · omega⟩, fun g hg => by
    rcases k.hat g hg with e | e
    · exact h.hat g e
    · exact .inr (Nat.le_trans h.grown.size e)⟩
theorem Adds.pre {base : Nat} {w w1 w2 : World} {v v2 : Value} {l2 : List UInt8} (hb : Below w.heap.size w w1) (k : Adds base w1 v l2 w2 v2) : Adds base w v l2 w2 v2 :=
  ⟨k.own, ⟨k.grown.os.trans hb.os, k.grown.tape.trans hb.tape, k.grown.output.trans hb.output, Nat.le_trans hb.size k.grown.size, fun i hi hne => (k.grown.block i (Nat.lt_of_lt_of_le hi hb.size) hne).trans (hb.block i hi)⟩, fun g hg => by
    rcases k.hat g hg with e | e
    · exact .inl e
    · exact .inr (Nat.le_trans hb.size e)⟩
theorem Adds.post {base : Nat} {w w1 w2 : World} {v v1 : Value} {l : List UInt8} (h : Adds base w v l w1 v1) (hb : Below w1.heap.size w1 w2) : Adds base w v l w2 v1 :=
  ⟨h.own.now hb, ⟨hb.os.trans h.grown.os, hb.tape.trans h.grown.tape, hb.output.trans h.grown.output, Nat.le_trans h.grown.size hb.size, fun i hi hne => (hb.block i (Nat.lt_of_lt_of_le hi h.grown.size)).trans (h.grown.block i hi hne)⟩, h.hat⟩
theorem Adds.below {base : Nat} {w w' : World} {v v' : Value} {l l0 : List UInt8} (h : Adds base w v l w' v') (h0 : OwnC w base v l0) (hb : base ≤ w.heap.size) : Below base w w' :=
  below_of_grown h.grown hb fun g hg => (World.ownsRow.lt h0 g hg).1
theorem Adds.refl {base : Nat} {w : World} {v : Value} {l : List UInt8} (h : OwnC w base v l) : Adds base w v l w v := ⟨h, World.grownBy.refl _ _, fun _ hg => .inl hg⟩
/-- A block that is no row of bytes is kept. -/
theorem Adds.keep {base : Nat} {w w' : World} {v v' : Value} {l l0 : List UInt8} {g t : Nat} {cs : Array Value} (h : Adds base w v l w' v') (h0 : OwnC w base v l0) (hB : Blk w g t cs) (ht : t ≠ 5) : Blk w' g t cs := by
  refine hB.grown h.grown fun e => ?_
  obtain ⟨c, fz, hc⟩ := Lib.ownsRow_kind h0 g e.symm
  have := hB.symm.trans hc
  injection this with this
  injection this with _ e2 _
  exact ht e2
theorem strC (s : ByteArray) : Lib.strCells s = flat cellC s.data.toList := by rw [flatC]; rfl
theorem byteInfo' : (Try.prog.info? 5).map (fun i => (i.zero, i.size, i.bytes)) = some (some (.int .u8 0), 1, 1) := by kernel_rfl
theorem run_appendStr (w : World) (base : Nat) (ty : TypeId) (v : Value) (l : List UInt8) (hown : OwnC w base v l) (s : ByteArray) (hn : l.length + s.size ≤ 1000000000) (hbase : base ≤ w.heap.size) :
    ∃ v' w', (Builtin.append_ #[25, 9] ty #[v, .string s]).run Try.prog w = .ok v' w' ∧ Adds base w v (l ++ s.data.toList) w' v' := by
  obtain ⟨i, hi, hz0, hz1, hz2⟩ := info_parts byteInfo'
  have hss : s.data.toList.length = s.size := Array.length_toList
  obtain ⟨v', w', hr, h2, h3, _⟩ := Lib.run_append_own_string (P := Try.prog) w base 25 9 ty 5 i Try.underlying25 Try.underlying9 hi hz0 hz1 hz2 v l.length (flat cellC l) hown s (by unfold maxLen; omega) (by omega) hbase
  refine ⟨v', w', hr, ?_, h3, ?_⟩
  · unfold OwnC OwnW
    rw [flat_append, ← strC, List.length_append, hss]
    exact h2
  · intro g hg
    rcases hown.2 with ⟨rfl, hl0⟩ | ⟨g', cap, cur, rfl, hbg, hgc, hnc, hcm, hcs, htake⟩
    · by_cases hm : s.size = 0
      · rcases h2.2 with ⟨rfl, _⟩ | ⟨g2, c2, cur2, rfl, _, _, _⟩
        · cases hg
        · exfalso
          have hl : l = [] := List.eq_nil_of_length_eq_zero hl0
          subst hl
          have hf := Lib.run_firstCells_string (P := Try.prog) w 1 s
          rw [hm] at hf
          simp [Builtin.append_, run_underlying Try.underlying25, run_underlying Try.underlying9, sizeOf, typeInfo, hi, hz1, Builtin.lenOf, hm, hf] at hr
      · have hr2 := run_append_nil_string (P := Try.prog) w 25 9 ty 5 i (.int .u8 0) Try.underlying25 Try.underlying9 hi hz0 s (by omega) (by omega) (by rw [hz2]; omega)
        have e := hr.symm.trans hr2
        injection e with e1 e2
        rw [e1] at hg
        have hg : some w.heap.size = some g := hg
        injection hg with hg
        exact .inr (by omega)
    · by_cases hroom : l.length + s.size ≤ cap
      · have hcs' : cur.size = cap := by simpa using hcs
        have hr2 := Lib.run_append_room_string (P := Try.prog) w 25 9 ty 5 i Try.underlying25 Try.underlying9 hi hz1 g' l.length cap cur hgc s hroom (by omega)
        have e := hr.symm.trans hr2
        injection e with e1 e2
        rw [e1] at hg
        exact .inl hg
      · have hxl : (flat cellC l).length = l.length := by rw [flatC, List.length_map]
        have hr2 := Lib.run_append_grow_string (P := Try.prog) w 25 9 ty 5 i (.int .u8 0) Try.underlying25 Try.underlying9 hi hz0 ⟨g', 0, none⟩ l.length cap (flat cellC l) (by rw [hz1]; omega) (fun j u hj => World.ownsRow.cells hown (g := g') rfl j u hj) s (by omega) (by omega) (by rw [hz2]; exact growslice_fits (by omega) (by omega))
        have e := hr.symm.trans hr2
        injection e with e1 e2
        rw [e1] at hg
        have hg : some w.heap.size = some g := hg
        injection hg with hg
        exact .inr (by omega)
section
variable {base : Nat} {w : World} {v : Value} {l : List UInt8} {o : Oper} {a : Act} {K : Act → World → Prop} {Q : Exit → Act → World → Prop}
theorem wp_appendStr (sl x : Operand) (ho : o.op = .call { callee := .builtin .append, args := #[sl, x], argTypes := #[25, 9] }) (hs : a.eval sl = v) (hown : OwnC w base v l) (s : ByteArray) (hx : a.eval x = .string s) (hn : l.length + s.size ≤ 1000000000) (hbase : base ≤ w.heap.size)
    (h : ∀ v' w', Adds base w v (l ++ s.data.toList) w' v' → K (a.put o.dst v') w') : o.wp Try.prog a w K Q := by
  obtain ⟨v', w', hr, h2⟩ := run_appendStr w base o.type v l hown s hn hbase
  unfold Oper.wp execOp
  simp only [ho, resolve, invoke, builtin, Sem.run_bind, Sem.run_pure, Result.andThen_ok, List.map_toArray, List.map_cons, List.map_nil, hs, hx, hr]
  exact h v' w' h2
theorem wpList_appendStr {ops : Array Oper} {rest : List Oper} (hgd : o.guard = none) (sl x : Operand) (ho : o.op = .call { callee := .builtin .append, args := #[sl, x], argTypes := #[25, 9] }) (hs : a.eval sl = v) (hown : OwnC w base v l) (s : ByteArray) (hx : a.eval x = .string s) (hn : l.length + s.size ≤ 1000000000) (hbase : base ≤ w.heap.size)
    (h : ∀ v' w', Adds base w v (l ++ s.data.toList) w' v' → wpList Try.prog ops Q rest (a.put o.dst v') w') : wpList Try.prog ops Q (o :: rest) a w :=
  wpList_plain hgd fun _ hK => wp_appendStr sl x ho hs hown s hx hn hbase fun v' w' h2 => hK _ _ (h v' w' h2)
/-- append(b, c): one byte, which lies new in the heap's last block. -/
theorem wpList_pushC {ops : Array Oper} {rest : List Oper} (hgd : o.guard = none) (sl x : Operand) (ho : o.op = .call { callee := .builtin .append, args := #[sl, x], argTypes := #[25, 25] }) (c : UInt8) (z : Int) (hz : z = (c.toNat : Int)) (hs : a.eval sl = v) (hown : OwnC w base v l) (hx : a.eval x = .slice (some ⟨w.heap.size, 0, none⟩) 1 1) (hn : l.length < 10000000) (hbase : base ≤ w.heap.size)
    (h : ∀ v' w', Adds base w v (l ++ [c]) w' v' → wpList Try.prog ops Q rest (a.put o.dst v') w') : wpList Try.prog ops Q (o :: rest) a (w.alloc (.cells #[.int .u8 z] 5)) := by
  subst hz
  refine wpList_pushW (fc := cellC) appBytes hgd sl x ho w c l rfl (cellC_one c) v hs hown hx hn hbase fun v' w' h2 h3 h4 => h v' w' ⟨h2, h3, fun g hg => ?_⟩
  rcases h4 with e | e
  · exact .inl (e ▸ hg)
  · rw [e] at hg; injection hg with hg; exact .inr (by omega)
/-- append(b, bs...): a row of bytes. -/
theorem wp_appendC (sl x : Operand) (ho : o.op = .call { callee := .builtin .append, args := #[sl, x], argTypes := #[25, 25] }) (hs : a.eval sl = v) (hown : OwnC w base v l) {base' : Nat} {u : Value} {m : List UInt8} (hx : a.eval x = u) (hu : OwnC w base' u m) (hn : l.length + m.length < 10000000) (hbase : base ≤ w.heap.size)
    (h : ∀ v' w', Adds base w v (l ++ m) w' v' → K (a.put o.dst v') w') : o.wp Try.prog a w K Q := by
  refine wp_appendAllW (fc := cellC) (size := 1) (R := fun _ _ c cs => cs = cellC c) (D := Lt w.heap.size) appBytes sl x ho w (fun _ => rfl) l v hs hown u m hx (OwnW.sl hu (fun _ => rfl) (fun _ _ _ _ => rfl)) (fun _ _ h => h) cellC_one hn hbase fun v' w' h2 h3 h4 => h v' w' ⟨h2, h3, fun g hg => ?_⟩
  rcases h4 with e | e
  · exact .inl (e ▸ hg)
  · rw [e] at hg; injection hg with hg; exact .inr (by omega)
end
end Go.Proofs.Ytjglmjdfndcmmaa
