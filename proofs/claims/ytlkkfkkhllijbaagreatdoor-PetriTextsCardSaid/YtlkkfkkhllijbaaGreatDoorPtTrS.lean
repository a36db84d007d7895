/- The line of a transition: plain laws, the struct that is filled. -/
import Derived.Test.YtlkkfkkhllijbaaGreatDoorPtSplit
import Derived.Test.YtlkkfkkhllijbaaGreatDoorFormsA
namespace Go.Proofs.YtlkkfkkhllijbaaGreatDoor
open Go.RowKit

def trOf (lab : List UInt8) (ts : List (List UInt8)) (a : Nat) (i o : List Int) : Option Tr := match toksB ts a i o with
  | some (1, i, o) => some ⟨outB lab, i, o⟩
  | _ => none
theorem trOf_start (lab : List UInt8) (ts : List (List UInt8)) : transOf lab ts = trOf lab ts 0 [] [] := rfl
theorem trOf_nil (lab : List UInt8) (a : Nat) (i o : List Int) : trOf lab [] a i o = if a = 1 then some ⟨outB lab, i, o⟩ else none := by
  unfold trOf toksB
  by_cases h : a = 1
  · subst h; rfl
  · rw [if_neg h]
    split
    · rename_i e; injection e with e; injection e with e; exact absurd e h
    · rfl
theorem trOf_arrow (lab : List UInt8) (ts : List (List UInt8)) (a : Nat) (i o : List Int) : trOf lab (arrowB :: ts) a i o = trOf lab ts (a + 1) i o := by
  unfold trOf
  rw [toksB, if_pos rfl]
theorem trOf_bad (lab : List UInt8) {t : List UInt8} (ts : List (List UInt8)) (a : Nat) (i o : List Int) (h : t ≠ arrowB) (hn : num9 t = none) : trOf lab (t :: ts) a i o = none := by
  unfold trOf
  rw [toksB, if_neg h, hn]
theorem trOf_in (lab : List UInt8) {t : List UInt8} (ts : List (List UInt8)) (i o : List Int) {z : Int} (h : t ≠ arrowB) (hn : num9 t = some z) : trOf lab (t :: ts) 0 i o = trOf lab ts 0 (i ++ [z]) o := by
  unfold trOf
  rw [toksB, if_neg h, hn]
  dsimp only
  rw [if_pos rfl]
theorem trOf_out (lab : List UInt8) {t : List UInt8} (ts : List (List UInt8)) {a : Nat} (i o : List Int) {z : Int} (h : t ≠ arrowB) (hn : num9 t = some z) (ha : a ≠ 0) : trOf lab (t :: ts) a i o = trOf lab ts a i (o ++ [z]) := by
  unfold trOf
  rw [toksB, if_neg h, hn]
  dsimp only
  rw [if_neg ha]
theorem trOf_two (lab : List UInt8) (ts : List (List UInt8)) {a : Nat} (i o : List Int) (ha : 2 ≤ a) : trOf lab ts a i o = none := by
  unfold trOf
  split
  · rename_i e; have := toks_ge _ _ _ _ _ _ _ e; omega
  · rfl
theorem num9_arrow : num9 arrowB = none := num9_bad (b := 45) (by simp [arrowB]) rfl
theorem trans_some {l lab rest : List UInt8} {ts : List (List UInt8)} (h : cutB 58 l = some (lab, rest)) (hl : labB lab = true) (hp : partsB 32 rest = [] :: ts) : transB l = trOf lab ts 0 [] [] := by
  unfold transB
  rw [h]
  dsimp only
  rw [if_pos hl, hp]; rfl
theorem trans_first {l lab rest p : List UInt8} {ts : List (List UInt8)} (h : cutB 58 l = some (lab, rest)) (hp : partsB 32 rest = p :: ts) (h0 : p ≠ []) : transB l = none := by
  unfold transB
  rw [h]
  dsimp only
  split
  · rw [hp]
    cases p with
    | nil => exact absurd rfl h0
    | cons a b => rfl
  · rfl
theorem trans_lab {l lab rest : List UInt8} (h : cutB 58 l = some (lab, rest)) (hl : labB lab = false) : transB l = none := by
  unfold transB
  rw [h]
  dsimp only
  rw [hl, if_neg (by simp)]
theorem trans_nocut {l : List UInt8} (h : cutB 58 l = none) : transB l = none := by
  unfold transB
  rw [h]
theorem trans_refs {l p : List UInt8} {ts : List (List UInt8)} (hp : partsB 32 l = p :: ts) : transB l = if 2 ≤ p.length ∧ p.getLast? = some 58 ∧ labB p.dropLast = true then trOf p.dropLast ts 0 [] [] else none := by
  rw [← trans_ref, transR, hp]; rfl

/-- Blocks that were made since B. -/
def FrB (B : Nat) (w : World) (b : Nat) : Prop := B ≤ b ∧ b < w.heap.size
def RetTr (l : List UInt8) (w : World) (e : Ending) (w' : World) : Prop :=
  ∃ (lab : ByteArray) (iv ov : Value) (t : Tr) (ok : Bool), e = .returned (.tuple #[.agg #[.string lab, iv, ov], .bool ok]) ∧ IsTr (FrB w.heap.size w') w' (.agg #[.string lab, iv, ov]) t ∧ transB l = (if ok then some t else none) ∧ Below w.heap.size w w'
theorem zero_tr {D : Nat → Prop} {w : World} : IsTr D w (.agg #[.string ⟨#[]⟩, .slice none 0 0, .slice none 0 0]) ⟨⟨#[]⟩, [], []⟩ := ⟨_, _, rfl, Nat.zero_le _, Sl.none_, Sl.none_⟩

theorem appInts' : AppInfo Tryz.prog 40 3 1 := AppInfo.mk' (z := .int .i64 0) (bytes := 8) Tryz.underlying40 (by kernel_rfl) (by omega) rfl (by omega)
theorem grown_then {w w1 w2 : World} {row : Option Nat} (h : w.grownBy w1 row) (hb : Below w1.heap.size w1 w2) : w.grownBy w2 row :=
  ⟨hb.os.trans h.os, hb.tape.trans h.tape, hb.output.trans h.output, Nat.le_trans h.size hb.size, fun b hlt hne => (hb.block b (Nat.lt_of_lt_of_le hlt h.size)).trans (h.block b hlt hne)⟩
theorem grown_step {w w1 w2 : World} {tb : Nat} {row : Option Nat} (h : w.grownBy w1 (some tb)) (hg : w1.grownBy w2 row) (hr : ∀ g, row = some g → w.heap.size ≤ g) (i : Nat) (v : Value) : w.grownBy (w2.setCell ⟨tb, i, none⟩ v) (some tb) :=
  ⟨hg.os.trans h.os, hg.tape.trans h.tape, hg.output.trans h.output, by rw [World.size_setCell]; exact Nat.le_trans h.size hg.size, fun b hlt hne => by
    rw [Below.heap_setCell w2 ⟨tb, i, none⟩ v b (fun e => hne (by rw [e]))]
    exact (hg.block b (Nat.lt_of_lt_of_le hlt h.size) (fun e => by have := hr b e.symm; omega)).trans (h.block b hlt hne)⟩
theorem out_size {lab : List UInt8} (h : (bsOf lab).size ≤ 1000000) : (outB lab).size ≤ maxLen := by
  unfold outB maxLen
  split
  · exact Nat.zero_le _
  · show (bsOf lab).size ≤ _; omega
theorem own_form {w : World} {base t n : Nat} {v : Value} {xs : List Value} (h : w.ownsRow base t 1 v n xs) : ∃ A c, v = .slice A n c := by
  rcases h.2 with ⟨e, e0⟩ | ⟨g, c, cur, e, _⟩
  · exact ⟨none, 0, by rw [e, e0]⟩
  · exact ⟨_, _, e⟩
/-- The struct that is filled: its block, and the rows of its two lists. -/
structure TrI (w : World) (base tb : Nat) (lab : ByteArray) (iv ov : Value) (i o : List Int) : Prop where
  bl : Blk w tb 52 #[.string lab, iv, ov]
  ri : w.ownsRow base 3 1 iv i.length (i.map (Value.int .i64))
  ro : w.ownsRow base 3 1 ov o.length (o.map (Value.int .i64))
  ne : ∀ g, iv.ownBlock = some g → ov.ownBlock ≠ some g
  lt : tb < base
section
variable {w w' : World} {base tb : Nat} {lab : ByteArray} {iv ov : Value} {i o : List Int}
theorem TrI.now (h : TrI w base tb lab iv ov i o) (hb : Below w.heap.size w w') : TrI w' base tb lab iv ov i o := ⟨h.bl.now hb, own_now h.ri hb, own_now h.ro hb, h.ne, h.lt⟩
theorem TrI.start {lab : ByteArray} (h : Blk w tb 52 #[.string lab, .slice none 0 0, .slice none 0 0]) (hl : tb < base) : TrI w base tb lab (.slice none 0 0) (.slice none 0 0) [] [] :=
  ⟨h, World.ownsRow_nil _ _ _ _, World.ownsRow_nil _ _ _ _, fun g hg => (by cases hg), hl⟩
theorem TrI.pushI (h : TrI w base tb lab iv ov i o) {iv' : Value} {z : Int} (hr : w'.ownsRow base 3 1 iv' (i.length + 1) (i.map (Value.int .i64) ++ [.int .i64 z])) (hg : w.grownBy w' iv.ownBlock) (hat : iv'.ownBlock = iv.ownBlock ∨ iv'.ownBlock = some (w.heap.size + 1)) :
    Blk w' tb 52 #[.string lab, iv, ov] ∧ TrI (w'.setCell ⟨tb, 1, none⟩ iv') base tb lab iv' ov (i ++ [z]) o := by
  have hlt := h.lt
  have hB : Blk w' tb 52 #[.string lab, iv, ov] := h.bl.grown hg (fun e => by have := (h.ri.lt tb e.symm).1; omega)
  have ho : w'.ownsRow base 3 1 ov o.length (o.map (Value.int .i64)) := h.ro.kept hg (by
    cases e : ov.ownBlock with
    | none => exact .inl rfl
    | some g => exact .inr fun e2 => h.ne g e2.symm e)
  refine ⟨hB, hB.set_ 1 iv', ?_, ownsRow_setCell_other ho (fun e => by have := (ho.lt _ e).1; simp only at this; omega) _, fun g hg' => ?_, hlt⟩
  · rw [List.length_append, List.map_append]
    exact ownsRow_setCell_other hr (fun e => by have := (hr.lt _ e).1; simp only at this; omega) _
  · rcases hat with e | e
    · exact h.ne g (e ▸ hg')
    · rw [e] at hg'
      injection hg' with hg'
      intro e2
      have := (h.ro.lt g e2).2
      omega
theorem TrI.pushO (h : TrI w base tb lab iv ov i o) {ov' : Value} {z : Int} (hr : w'.ownsRow base 3 1 ov' (o.length + 1) (o.map (Value.int .i64) ++ [.int .i64 z])) (hg : w.grownBy w' ov.ownBlock) (hat : ov'.ownBlock = ov.ownBlock ∨ ov'.ownBlock = some (w.heap.size + 1)) :
    Blk w' tb 52 #[.string lab, iv, ov] ∧ TrI (w'.setCell ⟨tb, 2, none⟩ ov') base tb lab iv ov' i (o ++ [z]) := by
  have hlt := h.lt
  have hB : Blk w' tb 52 #[.string lab, iv, ov] := h.bl.grown hg (fun e => by have := (h.ro.lt tb e.symm).1; omega)
  have hi : w'.ownsRow base 3 1 iv i.length (i.map (Value.int .i64)) := h.ri.kept hg (by
    cases e : iv.ownBlock with
    | none => exact .inl rfl
    | some g => exact .inr fun e2 => h.ne g e e2.symm)
  refine ⟨hB, hB.set_ 2 ov', ownsRow_setCell_other hi (fun e => by have := (hi.lt _ e).1; simp only at this; omega) _, ?_, fun g hg' => ?_, hlt⟩
  · rw [List.length_append, List.map_append]
    exact ownsRow_setCell_other hr (fun e => by have := (hr.lt _ e).1; simp only at this; omega) _
  · rcases hat with e | e
    · rw [e]; exact h.ne g hg'
    · rw [e]
      intro e2
      injection e2 with e2
      have := (h.ri.lt g hg').2
      omega
theorem TrI.far (h : TrI w base tb lab iv ov i o) {p : Addr} (h1 : p.block ≠ tb) (h2 : p.block < base) (u : Value) : TrI (w.setCell p u) base tb lab iv ov i o :=
  ⟨h.bl.far (fun e => h1 e.symm) u, ownsRow_setCell_other h.ri (fun e => by have := (h.ri.lt _ e).1; omega) u, ownsRow_setCell_other h.ro (fun e => by have := (h.ro.lt _ e).1; omega) u, h.ne, h.lt⟩
theorem TrI.far3 (h : TrI w base tb lab iv ov i o) {g : Nat} (h1 : g ≠ tb) (h2 : g < base) (x y z : Value) : TrI (((w.setCell ⟨g, 0, none⟩ x).setCell ⟨g, 1, none⟩ y).setCell ⟨g, 2, none⟩ z) base tb lab iv ov i o :=
  ((h.far (p := ⟨g, 0, none⟩) h1 h2 x).far (p := ⟨g, 1, none⟩) h1 h2 y).far (p := ⟨g, 2, none⟩) h1 h2 z
theorem TrI.isF {B : Nat} (h : TrI w base tb lab iv ov i o) (hB : B ≤ base) (hl : lab.size ≤ maxLen) (hi : ∀ z ∈ i, Fit z) (ho : ∀ z ∈ o, Fit z) : IsTr (FrB B w) w (.agg #[.string lab, iv, ov]) ⟨lab, i, o⟩ := by
  refine ⟨iv, ov, rfl, hl, ?_, ?_⟩
  · exact Sl.of_own1 h.ri rfl (fun g hg => ⟨Nat.le_trans hB (h.ri.lt g hg).1, (h.ri.lt g hg).2⟩) fun k z hz => ⟨_, by rw [List.getElem?_map, hz]; rfl, rfl, hi z (List.mem_of_getElem? hz)⟩
  · exact Sl.of_own1 h.ro rfl (fun g hg => ⟨Nat.le_trans hB (h.ro.lt g hg).1, (h.ro.lt g hg).2⟩) fun k z hz => ⟨_, by rw [List.getElem?_map, hz]; rfl, rfl, ho z (List.mem_of_getElem? hz)⟩
end
end Go.Proofs.YtlkkfkkhllijbaaGreatDoor
