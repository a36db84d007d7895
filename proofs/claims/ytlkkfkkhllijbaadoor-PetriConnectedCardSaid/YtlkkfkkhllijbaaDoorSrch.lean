/- What the search for strong components keeps in memory. No program in sight. (printed by wip/gen/srch.py) -/
import Derived.Test.YtlkkfkkhllijbaaDoorOwnF
import Derived.Test.YtlkkfkkhllijbaaDoorTarjan
namespace Go.Proofs.YtlkkfkkhllijbaaDoor
open Go.RowKit

theorem own_pop {w : World} {base e n : Nat} {v x : Value} {xs : List Value} (h : w.ownsRow base e 1 v (n + 1) (xs ++ [x])) :
    ∃ g cap, v = .slice (some ⟨g, 0, none⟩) (n + 1) cap ∧ n + 1 ≤ cap ∧ cap ≤ maxLen ∧ w.ownsRow base e 1 (.slice (some ⟨g, 0, none⟩) n cap) n xs ∧ w.cell? ⟨g, n, none⟩ = some x := by
  have hl : xs.length = n := by have := h.1; simp at this; exact this
  obtain ⟨h1, h2⟩ := h
  have h12 : w.ownsRow base e 1 v (n + 1) (xs ++ [x]) := ⟨h1, h2⟩
  rcases h2 with ⟨_, h2⟩ | ⟨g, cap, cur, rfl, hg, hc, hn, hm, hs, ht⟩
  · omega
  · refine ⟨g, cap, rfl, hn, hm, ⟨by omega, .inr ⟨g, cap, cur, rfl, hg, hc, by omega, hm, hs, ?_⟩⟩, ?_⟩
    · have := congrArg (List.take (n * 1)) ht
      rw [List.take_take, Nat.min_eq_left (by omega)] at this
      rw [this, List.take_append_of_le_length (by omega), List.take_of_length_le (by omega)]
    · rw [h12.cellAt n (by omega), List.getElem?_append_right (by omega), hl, Nat.sub_self]; rfl
theorem OwnF.grown {α : Type} {f : α → Value} {w w' : World} {base t g cap : Nat} {xs : List α} {row : Option Nat} (h : OwnF f w base t g cap xs) (hb : w.grownBy w' row) (hg : some g ≠ row) : OwnF f w' base t g cap xs :=
  ⟨h.1.kept hb (.inr fun e => hg (by rw [← e]; rfl)), Nat.lt_of_lt_of_le h.2.1 hb.size, h.2.2⟩
def natV (n : Nat) : Value := .int .i64 (n : Int)
/-- The blocks: nx lo ix cl gl gi gc st ct cc vi. -/
structure SB where
  at_ : Nat → Nat
  top : Nat
@[reducible] def SB.nx (B : SB) : Nat := B.at_ 0
@[reducible] def SB.lo (B : SB) : Nat := B.at_ 1
@[reducible] def SB.ix (B : SB) : Nat := B.at_ 2
@[reducible] def SB.cl (B : SB) : Nat := B.at_ 3
@[reducible] def SB.gl (B : SB) : Nat := B.at_ 4
@[reducible] def SB.gi (B : SB) : Nat := B.at_ 5
@[reducible] def SB.gc (B : SB) : Nat := B.at_ 6
@[reducible] def SB.st (B : SB) : Nat := B.at_ 7
@[reducible] def SB.ct (B : SB) : Nat := B.at_ 8
@[reducible] def SB.cc (B : SB) : Nat := B.at_ 9
@[reducible] def SB.vi (B : SB) : Nat := B.at_ 10
structure SB.ok (B : SB) : Prop where
  inj : ∀ i j, i < 11 → j < 11 → i ≠ j → B.at_ i ≠ B.at_ j
  le : ∀ i, i < 11 → B.at_ i ≤ B.top
  last : B.top = B.at_ 10
structure Mem (w : World) (B : SB) (base N : Nat) (ti tsl tss tf : TypeId) (nv fv sv : Value) (s : TS) : Prop where
  ok : B.ok
  nx : Blk w B.nx tss #[nv]
  lo : Blk w B.lo tsl #[.slice (some ⟨B.gl, 0, none⟩) N N]
  ix : Blk w B.ix tsl #[.slice (some ⟨B.gi, 0, none⟩) N N]
  cl : Blk w B.cl tsl #[.slice (some ⟨B.gc, 0, none⟩) N N]
  vi : Blk w B.vi tf #[fv]
  st : Blk w B.st tsl #[sv]
  ct : Blk w B.ct ti #[.int .i64 (s.count : Int)]
  cc : Blk w B.cc ti #[.int .i64 (s.cc : Int)]
  gl : OwnF natV w base ti B.gl N s.low
  gi : OwnF natV w base ti B.gi N s.index
  gc : OwnF (Value.int .i64) w base ti B.gc N s.cls
  row : w.ownsRow base ti 1 sv s.stack.length (s.stack.map natV)
  far : ∀ g, sv.ownBlock = some g → B.top < g
section
variable {w w' : World} {B : SB} {base N : Nat} {ti tsl tss tf : TypeId} {nv fv sv : Value} {s : TS}
theorem Mem.now (h : Mem w B base N ti tsl tss tf nv fv sv s) (hb : Below w.heap.size w w') : Mem w' B base N ti tsl tss tf nv fv sv s :=
  ⟨h.ok, h.nx.now hb, h.lo.now hb, h.ix.now hb, h.cl.now hb, h.vi.now hb, h.st.now hb, h.ct.now hb, h.cc.now hb, h.gl.now hb, h.gi.now hb, h.gc.now hb, own_now h.row hb, h.far⟩
theorem Mem.setLow (h : Mem w B base N ti tsl tss tf nv fv sv s) (v k : Nat) : Mem (w.setCell ⟨B.gl, v, none⟩ (natV k)) B base N ti tsl tss tf nv fv sv (s.setLow v k) := by
  have hk := h.ok
  exact ⟨h.ok, h.nx.far (p := ⟨B.gl, v, none⟩) (hk.inj 0 4 (by decide) (by decide) (by decide)) _, h.lo.far (p := ⟨B.gl, v, none⟩) (hk.inj 1 4 (by decide) (by decide) (by decide)) _, h.ix.far (p := ⟨B.gl, v, none⟩) (hk.inj 2 4 (by decide) (by decide) (by decide)) _, h.cl.far (p := ⟨B.gl, v, none⟩) (hk.inj 3 4 (by decide) (by decide) (by decide)) _, h.vi.far (p := ⟨B.gl, v, none⟩) (hk.inj 10 4 (by decide) (by decide) (by decide)) _, h.st.far (p := ⟨B.gl, v, none⟩) (hk.inj 7 4 (by decide) (by decide) (by decide)) _, h.ct.far (p := ⟨B.gl, v, none⟩) (hk.inj 8 4 (by decide) (by decide) (by decide)) _, h.cc.far (p := ⟨B.gl, v, none⟩) (hk.inj 9 4 (by decide) (by decide) (by decide)) _, h.gl.set_ v k, h.gi.far (p := ⟨B.gl, v, none⟩) (hk.inj 4 5 (by decide) (by decide) (by decide)) _, h.gc.far (p := ⟨B.gl, v, none⟩) (hk.inj 4 6 (by decide) (by decide) (by decide)) _, ownsRow_setCell_other (a := ⟨B.gl, v, none⟩) h.row (fun e => by have h1 := h.far _ e; have h2 := hk.le 4 (by decide); exact absurd h1 (Nat.not_lt.2 h2)) _, h.far⟩
theorem Mem.setIx (h : Mem w B base N ti tsl tss tf nv fv sv s) (v k : Nat) : Mem (w.setCell ⟨B.gi, v, none⟩ (natV k)) B base N ti tsl tss tf nv fv sv { s with index := s.index.set v k } := by
  have hk := h.ok
  exact ⟨h.ok, h.nx.far (p := ⟨B.gi, v, none⟩) (hk.inj 0 5 (by decide) (by decide) (by decide)) _, h.lo.far (p := ⟨B.gi, v, none⟩) (hk.inj 1 5 (by decide) (by decide) (by decide)) _, h.ix.far (p := ⟨B.gi, v, none⟩) (hk.inj 2 5 (by decide) (by decide) (by decide)) _, h.cl.far (p := ⟨B.gi, v, none⟩) (hk.inj 3 5 (by decide) (by decide) (by decide)) _, h.vi.far (p := ⟨B.gi, v, none⟩) (hk.inj 10 5 (by decide) (by decide) (by decide)) _, h.st.far (p := ⟨B.gi, v, none⟩) (hk.inj 7 5 (by decide) (by decide) (by decide)) _, h.ct.far (p := ⟨B.gi, v, none⟩) (hk.inj 8 5 (by decide) (by decide) (by decide)) _, h.cc.far (p := ⟨B.gi, v, none⟩) (hk.inj 9 5 (by decide) (by decide) (by decide)) _, h.gl.far (p := ⟨B.gi, v, none⟩) (hk.inj 5 4 (by decide) (by decide) (by decide)) _, h.gi.set_ v k, h.gc.far (p := ⟨B.gi, v, none⟩) (hk.inj 5 6 (by decide) (by decide) (by decide)) _, ownsRow_setCell_other (a := ⟨B.gi, v, none⟩) h.row (fun e => by have h1 := h.far _ e; have h2 := hk.le 5 (by decide); exact absurd h1 (Nat.not_lt.2 h2)) _, h.far⟩
theorem Mem.setCls (h : Mem w B base N ti tsl tss tf nv fv sv s) (v : Nat) (k : Int) : Mem (w.setCell ⟨B.gc, v, none⟩ (.int .i64 k)) B base N ti tsl tss tf nv fv sv { s with cls := s.cls.set v k } := by
  have hk := h.ok
  exact ⟨h.ok, h.nx.far (p := ⟨B.gc, v, none⟩) (hk.inj 0 6 (by decide) (by decide) (by decide)) _, h.lo.far (p := ⟨B.gc, v, none⟩) (hk.inj 1 6 (by decide) (by decide) (by decide)) _, h.ix.far (p := ⟨B.gc, v, none⟩) (hk.inj 2 6 (by decide) (by decide) (by decide)) _, h.cl.far (p := ⟨B.gc, v, none⟩) (hk.inj 3 6 (by decide) (by decide) (by decide)) _, h.vi.far (p := ⟨B.gc, v, none⟩) (hk.inj 10 6 (by decide) (by decide) (by decide)) _, h.st.far (p := ⟨B.gc, v, none⟩) (hk.inj 7 6 (by decide) (by decide) (by decide)) _, h.ct.far (p := ⟨B.gc, v, none⟩) (hk.inj 8 6 (by decide) (by decide) (by decide)) _, h.cc.far (p := ⟨B.gc, v, none⟩) (hk.inj 9 6 (by decide) (by decide) (by decide)) _, h.gl.far (p := ⟨B.gc, v, none⟩) (hk.inj 6 4 (by decide) (by decide) (by decide)) _, h.gi.far (p := ⟨B.gc, v, none⟩) (hk.inj 6 5 (by decide) (by decide) (by decide)) _, h.gc.set_ v k, ownsRow_setCell_other (a := ⟨B.gc, v, none⟩) h.row (fun e => by have h1 := h.far _ e; have h2 := hk.le 6 (by decide); exact absurd h1 (Nat.not_lt.2 h2)) _, h.far⟩
theorem Mem.setCt (h : Mem w B base N ti tsl tss tf nv fv sv s) (k : Nat) : Mem (w.setCell ⟨B.ct, 0, none⟩ (natV k)) B base N ti tsl tss tf nv fv sv { s with count := k } := by
  have hk := h.ok
  exact ⟨h.ok, h.nx.far (p := ⟨B.ct, 0, none⟩) (hk.inj 0 8 (by decide) (by decide) (by decide)) _, h.lo.far (p := ⟨B.ct, 0, none⟩) (hk.inj 1 8 (by decide) (by decide) (by decide)) _, h.ix.far (p := ⟨B.ct, 0, none⟩) (hk.inj 2 8 (by decide) (by decide) (by decide)) _, h.cl.far (p := ⟨B.ct, 0, none⟩) (hk.inj 3 8 (by decide) (by decide) (by decide)) _, h.vi.far (p := ⟨B.ct, 0, none⟩) (hk.inj 10 8 (by decide) (by decide) (by decide)) _, h.st.far (p := ⟨B.ct, 0, none⟩) (hk.inj 7 8 (by decide) (by decide) (by decide)) _, h.ct.set_ 0 _, h.cc.far (p := ⟨B.ct, 0, none⟩) (hk.inj 9 8 (by decide) (by decide) (by decide)) _, h.gl.far (p := ⟨B.ct, 0, none⟩) (hk.inj 8 4 (by decide) (by decide) (by decide)) _, h.gi.far (p := ⟨B.ct, 0, none⟩) (hk.inj 8 5 (by decide) (by decide) (by decide)) _, h.gc.far (p := ⟨B.ct, 0, none⟩) (hk.inj 8 6 (by decide) (by decide) (by decide)) _, ownsRow_setCell_other (a := ⟨B.ct, 0, none⟩) h.row (fun e => by have h1 := h.far _ e; have h2 := hk.le 8 (by decide); exact absurd h1 (Nat.not_lt.2 h2)) _, h.far⟩
theorem Mem.setCc (h : Mem w B base N ti tsl tss tf nv fv sv s) (k : Nat) : Mem (w.setCell ⟨B.cc, 0, none⟩ (natV k)) B base N ti tsl tss tf nv fv sv { s with cc := k } := by
  have hk := h.ok
  exact ⟨h.ok, h.nx.far (p := ⟨B.cc, 0, none⟩) (hk.inj 0 9 (by decide) (by decide) (by decide)) _, h.lo.far (p := ⟨B.cc, 0, none⟩) (hk.inj 1 9 (by decide) (by decide) (by decide)) _, h.ix.far (p := ⟨B.cc, 0, none⟩) (hk.inj 2 9 (by decide) (by decide) (by decide)) _, h.cl.far (p := ⟨B.cc, 0, none⟩) (hk.inj 3 9 (by decide) (by decide) (by decide)) _, h.vi.far (p := ⟨B.cc, 0, none⟩) (hk.inj 10 9 (by decide) (by decide) (by decide)) _, h.st.far (p := ⟨B.cc, 0, none⟩) (hk.inj 7 9 (by decide) (by decide) (by decide)) _, h.ct.far (p := ⟨B.cc, 0, none⟩) (hk.inj 8 9 (by decide) (by decide) (by decide)) _, h.cc.set_ 0 _, h.gl.far (p := ⟨B.cc, 0, none⟩) (hk.inj 9 4 (by decide) (by decide) (by decide)) _, h.gi.far (p := ⟨B.cc, 0, none⟩) (hk.inj 9 5 (by decide) (by decide) (by decide)) _, h.gc.far (p := ⟨B.cc, 0, none⟩) (hk.inj 9 6 (by decide) (by decide) (by decide)) _, ownsRow_setCell_other (a := ⟨B.cc, 0, none⟩) h.row (fun e => by have h1 := h.far _ e; have h2 := hk.le 9 (by decide); exact absurd h1 (Nat.not_lt.2 h2)) _, h.far⟩
theorem Mem.setSt (h : Mem w B base N ti tsl tss tf nv fv sv s) {sv' : Value} {l : List Nat} (hr : w.ownsRow base ti 1 sv' l.length (l.map natV)) (hf : ∀ g, sv'.ownBlock = some g → B.top < g) : Mem (w.setCell ⟨B.st, 0, none⟩ sv') B base N ti tsl tss tf nv fv sv' { s with stack := l } := by
  have hk := h.ok
  exact ⟨h.ok, h.nx.far (p := ⟨B.st, 0, none⟩) (hk.inj 0 7 (by decide) (by decide) (by decide)) _, h.lo.far (p := ⟨B.st, 0, none⟩) (hk.inj 1 7 (by decide) (by decide) (by decide)) _, h.ix.far (p := ⟨B.st, 0, none⟩) (hk.inj 2 7 (by decide) (by decide) (by decide)) _, h.cl.far (p := ⟨B.st, 0, none⟩) (hk.inj 3 7 (by decide) (by decide) (by decide)) _, h.vi.far (p := ⟨B.st, 0, none⟩) (hk.inj 10 7 (by decide) (by decide) (by decide)) _, h.st.set_ 0 _, h.ct.far (p := ⟨B.st, 0, none⟩) (hk.inj 8 7 (by decide) (by decide) (by decide)) _, h.cc.far (p := ⟨B.st, 0, none⟩) (hk.inj 9 7 (by decide) (by decide) (by decide)) _, h.gl.far (p := ⟨B.st, 0, none⟩) (hk.inj 7 4 (by decide) (by decide) (by decide)) _, h.gi.far (p := ⟨B.st, 0, none⟩) (hk.inj 7 5 (by decide) (by decide) (by decide)) _, h.gc.far (p := ⟨B.st, 0, none⟩) (hk.inj 7 6 (by decide) (by decide) (by decide)) _, ownsRow_setCell_other (a := ⟨B.st, 0, none⟩) hr (fun e => by have h1 := hf _ e; have h2 := hk.le 7 (by decide); exact absurd h1 (Nat.not_lt.2 h2)) _, hf⟩
/-- The stack's row has grown, and its slice has been stored. -/
theorem Mem.push (h : Mem w B base N ti tsl tss tf nv fv sv s) {sv' : Value} {v : Nat} (hr : w'.ownsRow base ti 1 sv' (s.stack.length + 1) (s.stack.map natV ++ [natV v])) (hg : w.grownBy w' sv.ownBlock) (hat : sv'.ownBlock = sv.ownBlock ∨ sv'.ownBlock = some (w.heap.size + 1)) :
    Mem (w'.setCell ⟨B.st, 0, none⟩ sv') B base N ti tsl tss tf nv fv sv' { s with stack := s.stack ++ [v] } := by
  have hk := h.ok
  have hlt := h.vi.lt
  have hne : ∀ i, i < 11 → some (B.at_ i) ≠ sv.ownBlock := fun i hi e => by have h1 := h.far _ e.symm; have h2 := hk.le i hi; exact absurd h1 (Nat.not_lt.2 h2)
  have hf : ∀ g, sv'.ownBlock = some g → B.top < g := fun g hg => by
    rcases hat with e | e
    · exact h.far g (e ▸ hg)
    · rw [e] at hg; injection hg with hg; have := hk.last; show B.top < g; unfold SB.vi at hlt; omega
  have hr' : w'.ownsRow base ti 1 sv' (s.stack ++ [v]).length ((s.stack ++ [v]).map natV) := by simpa using hr
  exact ⟨h.ok, (h.nx.grown hg (hne 0 (by decide))).far (p := ⟨B.st, 0, none⟩) (hk.inj 0 7 (by decide) (by decide) (by decide)) _, (h.lo.grown hg (hne 1 (by decide))).far (p := ⟨B.st, 0, none⟩) (hk.inj 1 7 (by decide) (by decide) (by decide)) _, (h.ix.grown hg (hne 2 (by decide))).far (p := ⟨B.st, 0, none⟩) (hk.inj 2 7 (by decide) (by decide) (by decide)) _, (h.cl.grown hg (hne 3 (by decide))).far (p := ⟨B.st, 0, none⟩) (hk.inj 3 7 (by decide) (by decide) (by decide)) _, (h.vi.grown hg (hne 10 (by decide))).far (p := ⟨B.st, 0, none⟩) (hk.inj 10 7 (by decide) (by decide) (by decide)) _, (h.st.grown hg (hne 7 (by decide))).set_ 0 _, (h.ct.grown hg (hne 8 (by decide))).far (p := ⟨B.st, 0, none⟩) (hk.inj 8 7 (by decide) (by decide) (by decide)) _, (h.cc.grown hg (hne 9 (by decide))).far (p := ⟨B.st, 0, none⟩) (hk.inj 9 7 (by decide) (by decide) (by decide)) _, (h.gl.grown hg (hne 4 (by decide))).far (p := ⟨B.st, 0, none⟩) (hk.inj 7 4 (by decide) (by decide) (by decide)) _, (h.gi.grown hg (hne 5 (by decide))).far (p := ⟨B.st, 0, none⟩) (hk.inj 7 5 (by decide) (by decide) (by decide)) _, (h.gc.grown hg (hne 6 (by decide))).far (p := ⟨B.st, 0, none⟩) (hk.inj 7 6 (by decide) (by decide) (by decide)) _, ownsRow_setCell_other (a := ⟨B.st, 0, none⟩) hr' (fun e => by have h1 := hf _ e; have h2 := hk.le 7 (by decide); exact absurd h1 (Nat.not_lt.2 h2)) _, hf⟩
end
end Go.Proofs.YtlkkfkkhllijbaaDoor
