/- Merged texts. -/
import Derived.Test.YtlmenhjlgmejkaaGreatDoorPl21
set_option linter.all false
namespace Go.Proofs.YtlmenhjlgmejkaaGreatDoor
open Go.RowKit
def sA : ByteArray := ⟨#[97]⟩
def sB : ByteArray := ⟨#[98]⟩
def sN : ByteArray := ⟨#[110]⟩
def numX (k : Int) : Ex := .mk 1 ⟨2, k, emptyS⟩ emptyS []
def varNX : Ex := .mk 2 noV sN []
def trueX : Ex := .mk 1 ⟨1, 1, emptyS⟩ emptyS []
def eqX (k : Int) : Ex := .mk 6 noV emptyS [varNX, numX k]
def addX : Ex := .mk 9 noV emptyS [varNX, numX 1]
def exTrans : List Tr := [⟨sA, [0], [0]⟩, ⟨sB, [0], [1]⟩]
def exNet : Net := ⟨2, exTrans, 0, 1⟩
def exVar : Var := ⟨sN, 2, 0, 2, []⟩
def exD (k : Int) : DNet := ⟨exNet, [exVar], [⟨2, 0, emptyS⟩], [trueX, eqX k], [[⟨0, addX⟩], []]⟩
def exprV (op a b : Int) (s t : ByteArray) (lv : Value) : Value := .agg #[.int .i64 op, .int .i64 a, .int .i64 b, .string s, .string t, lv]
section
variable {P : Program} {o : Oper} {a : Act} {w : World} {K : Act → World → Prop} {Q : Exit → Act → World → Prop}
theorem wpM_move (x : Operand) (V : Value) (ho : o.op = .move x) (hv : a.eval x = V) (h : K (a.put o.dst V) w) : o.wp P a w K Q := by
  unfold Oper.wp execOp
  simp only [ho, hv]
  exact h
theorem wpM_build (t : TypeId) (parts : Array (Nat × Operand)) (V : Value) (vals : Array (Nat × Value)) (ho : o.op = .build t parts) (hv : (parts.map fun (i, x) => (i, a.eval x)) = vals) (hr : (Instr.build t vals).run P w = .ok V w) (h : K (a.put o.dst V) w) : o.wp P a w K Q := by
  unfold Oper.wp execOp
  simp only [ho, hv, Sem.run_bind, hr, Result.andThen_ok]
  exact h
theorem wpM_slice (t : TypeId) (n : Nat) (parts : Array (Nat × Operand)) (V : Value) (w' : World) (vals : Array (Nat × Value)) (ho : o.op = .buildSlice t n parts) (hv : (parts.map fun (i, x) => (i, a.eval x)) = vals) (hr : (Instr.buildSlice t n vals).run P w = .ok V w') (h : K (a.put o.dst V) w') : o.wp P a w K Q := by
  unfold Oper.wp execOp
  simp only [ho, hv, Sem.run_bind, hr, Result.andThen_ok]
  exact h
theorem wpM_load (t : TypeId) (x : Operand) (p V : Value) (ho : o.op = .load t x) (hv : a.eval x = p) (hr : (Instr.loadAt t p).run P w = .ok V w) (h : K (a.put o.dst V) w) : o.wp P a w K Q := by
  unfold Oper.wp execOp
  simp only [ho, hv, Sem.run_bind, hr, Result.andThen_ok]
  exact h
theorem wpM_store (t : TypeId) (x y : Operand) (p V : Value) (w' : World) (u : Unit) (ho : o.op = .store t x y) (hv : a.eval x = p) (hv2 : a.eval y = V) (hr : (Instr.storeAt t p V).run P w = .ok u w') (h : K (a.put o.dst undef) w') : o.wp P a w K Q := by
  unfold Oper.wp execOp
  simp only [ho, hv, hv2, Sem.run_bind, hr, Result.andThen_ok]
  exact h
theorem evalC (v : Value) : a.eval (.const v) = v := rfl
end
def noDstB (l : List Oper) (s : Nat) : Bool := l.all fun o => o.dst != some s
theorem Kin.same {l : List Oper} {a0 a : Act} (h : Kin l a0 a) {s : Nat} (hs : noDstB l s = true) : Act.slot a s = Act.slot a0 s :=
  h.slots s fun o ho e => by
    have := List.all_eq_true.1 hs o ho
    rw [e] at this
    simp at this
theorem Sl.ofBlkD {α : Type} {R : ElemR α} {D : Nat → Prop} {w : World} {g t size : Nat} {cs : List Value} {xs : List α} (hD : D g) (h : Blk w g t cs.toArray) (hm : xs.length ≤ maxLen)
    (hr : ∀ (i : Nat) (x : α), xs[i]? = some x → ∃ es : List Value, es.length = size ∧ (∀ j u, es[j]? = some u → cs[i * size + j]? = some u) ∧ R D w x es) :
    Sl size R D w (.slice (some ⟨g, 0, none⟩) xs.length xs.length) xs := by
  refine ⟨some ⟨g, 0, none⟩, xs.length, rfl, Nat.le_refl _, hm, fun i x hx => ?_⟩
  obtain ⟨es, hl, hes, hR⟩ := hr i x hx
  refine ⟨g, 0, es, rfl, hD, hl, hR, fun j u hu => ?_⟩
  rw [Nat.zero_add, h.cell]
  simpa using hes j u hu
theorem fr_now {B : Nat} {w w' : World} (hb : Below w.heap.size w w') : (∀ b, Fr B w b → Fr B w' b) ∧ Same (Fr B w) w w' := by
  have h2 := Same.of_below hb
  have hs := hb.size
  exact ⟨fun b h => ⟨h.1, by have := h.2; omega⟩, fun b h => h2 b h.2⟩
theorem Sl.fresh1 {α : Type} {R : ElemR α} {B size : Nat} {t : TypeId} {W : World} {x : α} {es : List Value} (hB : B ≤ W.heap.size) (hR : ElemR.Kept R) (hl : es.length = size) (h : R (Fr B W) W x es) :
    Sl size R (Fr B (W.alloc (.cells es.toArray t))) (W.alloc (.cells es.toArray t)) (.slice (some ⟨W.heap.size, 0, none⟩) 1 1) [x] := by
  have hb := bone W (.cells es.toArray t)
  refine Sl.ofBlkD (xs := [x]) ⟨hB, (Blk.new W t es.toArray).lt⟩ (Blk.new W t es.toArray) (by unfold maxLen; simp) fun i y hy => ?_
  match i, hy with
  | 0, hy =>
    injection hy with hy; subst hy
    exact ⟨es, hl, fun j u hu => by simpa using hu, hR _ _ _ _ _ _ (fr_now hb).1 (fr_now hb).2 h⟩
  | i + 1, hy => simp at hy
theorem Sl.fresh2 {α : Type} {R : ElemR α} {B size : Nat} {t : TypeId} {W : World} {x y : α} {es fs : List Value} (hB : B ≤ W.heap.size) (hR : ElemR.Kept R) (hl : es.length = size) (hl2 : fs.length = size) (h : R (Fr B W) W x es) (h2 : R (Fr B W) W y fs) :
    Sl size R (Fr B (W.alloc (.cells (es ++ fs).toArray t))) (W.alloc (.cells (es ++ fs).toArray t)) (.slice (some ⟨W.heap.size, 0, none⟩) 2 2) [x, y] := by
  have hb := bone W (.cells (es ++ fs).toArray t)
  refine Sl.ofBlkD (xs := [x, y]) ⟨hB, (Blk.new W t (es ++ fs).toArray).lt⟩ (Blk.new W t (es ++ fs).toArray) (by unfold maxLen; simp) fun i z hz => ?_
  match i, hz with
  | 0, hz =>
    injection hz with hz; subst hz
    refine ⟨es, hl, fun j u hu => ?_, hR _ _ _ _ _ _ (fr_now hb).1 (fr_now hb).2 h⟩
    have hj : j < es.length := by
      rcases Nat.lt_or_ge j es.length with h' | h'
      · exact h'
      · rw [List.getElem?_eq_none h'] at hu; cases hu
    rw [Nat.zero_mul, Nat.zero_add, List.getElem?_append_left hj]
    exact hu
  | 1, hz =>
    injection hz with hz; subst hz
    refine ⟨fs, hl2, fun j u hu => ?_, hR _ _ _ _ _ _ (fr_now hb).1 (fr_now hb).2 h2⟩
    rw [List.getElem?_append_right (by omega), Nat.one_mul, hl, Nat.add_sub_cancel_left]
    exact hu
  | i + 2, hz => simp at hz
theorem numX_any (k : Int) (w : World) : Calls Tryz.prog 100 #[.int .i64 k] w fun e w' => e = .returned (exprV 1 2 k emptyS emptyS (.slice none 0 0)) ∧ Below w.heap.size w w' := by
  go_enter Tryz.func100, Tryz.ntmps100
  go_wp2
  have hB := Blk.new w 65 #[.int .i64 1, .int .i64 2, .int .i64 k, .string ⟨#[]⟩, .string ⟨#[]⟩, .slice none 0 0]
  obtain ⟨c0, c1, c2, c3, c4, c5⟩ := hB.c6
  refine bodyPost_ret (v := exprV 1 2 k emptyS emptyS (.slice none 0 0)) (by simp [results, Tryz.results100, go_sem, c0, c1, c2, c3, c4, c5, exprV, emptyS]) rfl ⟨rfl, bone _ _⟩
section runs
theorem bs1 (z : Int) (W : World) : (Instr.buildSlice 31 1 #[(0, .int .i64 z)]).run Tryz.prog W = .ok (.slice (some ⟨W.heap.size, 0, none⟩) 1 1) (W.alloc (.cells #[.int .i64 z] 3)) := by kernel_rfl
theorem bT (s : ByteArray) (A B : Option Addr) (n m c d : Nat) (W : World) : (Instr.build 112 #[(0, .string s), (1, .slice A n c), (2, .slice B m d)]).run Tryz.prog W = .ok (.agg #[.string s, .slice A n c, .slice B m d]) W := by kernel_rfl
theorem bsT (s r : ByteArray) (A B C D : Option Addr) (n m c d p q e f : Nat) (W : World) : (Instr.buildSlice 22 2 #[(0, .agg #[.string s, .slice A n c, .slice B m d]), (1, .agg #[.string r, .slice C p e, .slice D q f])]).run Tryz.prog W =
    .ok (.slice (some ⟨W.heap.size, 0, none⟩) 2 2) (W.alloc (.cells #[.string s, .slice A n c, .slice B m d, .string r, .slice C p e, .slice D q f] 112)) := by kernel_rfl
theorem bN (A : Option Addr) (n c : Nat) (W : World) : (Instr.build 24 #[(0, .int .i64 2), (3, .int .i64 1), (1, .slice A n c)]).run Tryz.prog W = .ok (.agg #[.int .i64 2, .slice A n c, .int .i64 0, .int .i64 1]) W := by kernel_rfl
theorem bX (W : World) : (Instr.build 117 #[(0, .string ⟨#[110]⟩), (1, .int .i64 2), (3, .int .i64 2)]).run Tryz.prog W = .ok (.agg #[.string ⟨#[110]⟩, .int .i64 2, .int .i64 0, .int .i64 2, .slice none 0 0]) W := by kernel_rfl
theorem bsX (W : World) : (Instr.buildSlice 25 1 #[(0, .agg #[.string ⟨#[110]⟩, .int .i64 2, .int .i64 0, .int .i64 2, .slice none 0 0])]).run Tryz.prog W = .ok (.slice (some ⟨W.heap.size, 0, none⟩) 1 1) (W.alloc (.cells #[.string ⟨#[110]⟩, .int .i64 2, .int .i64 0, .int .i64 2, .slice none 0 0] 117)) := by kernel_rfl
theorem bV1 (W : World) : (Instr.build 63 #[(0, .int .i64 2)]).run Tryz.prog W = .ok (.agg #[.int .i64 2, .int .i64 0, .string ⟨#[]⟩]) W := by kernel_rfl
theorem bsV (W : World) : (Instr.buildSlice 26 1 #[(0, .agg #[.int .i64 2, .int .i64 0, .string ⟨#[]⟩])]).run Tryz.prog W = .ok (.slice (some ⟨W.heap.size, 0, none⟩) 1 1) (W.alloc (.cells #[.int .i64 2, .int .i64 0, .string ⟨#[]⟩] 63)) := by kernel_rfl
theorem bV2 (W : World) : (Instr.build 63 #[(0, .int .i64 1), (1, .int .i64 1)]).run Tryz.prog W = .ok (.agg #[.int .i64 1, .int .i64 1, .string ⟨#[]⟩]) W := by kernel_rfl
theorem bE1 (W : World) : (Instr.build 65 #[(0, .int .i64 1), (1, .agg #[.int .i64 1, .int .i64 1, .string ⟨#[]⟩])]).run Tryz.prog W = .ok (exprV 1 1 1 ⟨#[]⟩ ⟨#[]⟩ (.slice none 0 0)) W := by kernel_rfl
theorem bE2 (op : Int) (A : Option Addr) (n c : Nat) (W : World) : (Instr.build 65 #[(0, .int .i64 op), (3, .slice A n c)]).run Tryz.prog W = .ok (exprV op 0 0 ⟨#[]⟩ ⟨#[]⟩ (.slice A n c)) W := by kernel_rfl
theorem bsE (o1 a1 b1 o2 a2 b2 : Int) (s1 t1 s2 t2 : ByteArray) (A B : Option Addr) (n m c d : Nat) (W : World) : (Instr.buildSlice 27 2 #[(0, exprV o1 a1 b1 s1 t1 (.slice A n c)), (1, exprV o2 a2 b2 s2 t2 (.slice B m d))]).run Tryz.prog W =
    .ok (.slice (some ⟨W.heap.size, 0, none⟩) 2 2) (W.alloc (.cells #[.int .i64 o1, .int .i64 a1, .int .i64 b1, .string s1, .string t1, .slice A n c, .int .i64 o2, .int .i64 a2, .int .i64 b2, .string s2, .string t2, .slice B m d] 65)) := by kernel_rfl
theorem bW (o1 a1 b1 : Int) (s1 t1 : ByteArray) (A : Option Addr) (n c : Nat) (W : World) : (Instr.build 124 #[(1, exprV o1 a1 b1 s1 t1 (.slice A n c))]).run Tryz.prog W = .ok (.agg #[.int .i64 0, .int .i64 o1, .int .i64 a1, .int .i64 b1, .string s1, .string t1, .slice A n c]) W := by kernel_rfl
theorem bsW (v o1 a1 b1 : Int) (s1 t1 : ByteArray) (A : Option Addr) (n c : Nat) (W : World) : (Instr.buildSlice 122 1 #[(0, .agg #[.int .i64 v, .int .i64 o1, .int .i64 a1, .int .i64 b1, .string s1, .string t1, .slice A n c])]).run Tryz.prog W =
    .ok (.slice (some ⟨W.heap.size, 0, none⟩) 1 1) (W.alloc (.cells #[.int .i64 v, .int .i64 o1, .int .i64 a1, .int .i64 b1, .string s1, .string t1, .slice A n c] 124)) := by kernel_rfl
theorem bsWW (A : Option Addr) (n c : Nat) (W : World) : (Instr.buildSlice 28 2 #[(0, .slice A n c), (1, .slice none 0 0)]).run Tryz.prog W =
    .ok (.slice (some ⟨W.heap.size, 0, none⟩) 2 2) (W.alloc (.cells #[.slice A n c, .slice none 0 0] 122)) := by kernel_rfl
theorem bD (p s k : Int) (A B C D E : Option Addr) (n m q r t c d e f g : Nat) (W : World) : (Instr.build 30 #[(0, .agg #[.int .i64 p, .slice A n c, .int .i64 s, .int .i64 k]), (1, .slice B m d), (2, .slice C q e), (3, .slice D r f), (4, .slice E t g)]).run Tryz.prog W =
    .ok (.agg #[.int .i64 p, .slice A n c, .int .i64 s, .int .i64 k, .slice B m d, .slice C q e, .slice D r f, .slice E t g]) W := by kernel_rfl
end runs
def IsWr (D : Nat → Prop) (w : World) (u : Value) : Prop := ∃ A c, u = .agg #[.int .i64 0, .int .i64 9, .int .i64 0, .int .i64 0, .string ⟨#[]⟩, .string ⟨#[]⟩, .slice A 2 c] ∧ SlE 2 D w (.slice A 2 c) [varNX, numX 1]
section
variable {D D' : Nat → Prop} {w w' : World} {u : Value}
theorem IsWr.keep (h : IsWr D w u) (hd : ∀ b, D b → D' b) (hs : Same D w w') : IsWr D' w' u := by
  obtain ⟨A, c, e, h1⟩ := h
  exact ⟨A, c, e, Sl.keep h1 (RExN.kept 2) hd hs⟩
theorem IsTr.keep {t : Tr} (h : IsTr D w u t) (hd : ∀ b, D b → D' b) (hs : Same D w w') : IsTr D' w' u t := by
  obtain ⟨iv, ov, e, h1, h2, h3⟩ := h
  exact ⟨iv, ov, e, h1, Sl.keep h2 RInt.kept hd hs, Sl.keep h3 RInt.kept hd hs⟩
theorem IsNet.keep {t : Net} (h : IsNet D w u t) (hd : ∀ b, D b → D' b) (hs : Same D w w') : IsNet D' w' u t := by
  obtain ⟨tv, e, h1, h2, h3, h4⟩ := h
  exact ⟨tv, e, h1, h2, h3, Sl.keep h4 RTr.kept hd hs⟩
theorem IsDn.keep {n : Nat} {t : DNet} (h : IsDn n D w u t) (hd : ∀ b, D b → D' b) (hs : Same D w w') : IsDn n D' w' u t := by
  obtain ⟨tv, xv, iv, gv, wv, e, h1, h2, h3, h4, h5⟩ := h
  exact ⟨tv, xv, iv, gv, wv, e, h1.keep hd hs, Sl.keep h2 RVar.kept hd hs, Sl.keep h3 RVal.kept hd hs, Sl.keep h4 (RExN.kept n) hd hs, Sl.keep h5 (RWRow.kept n) hd hs⟩
end
theorem fit_small (z : Int) (h1 : -100 ≤ z) (h2 : z ≤ 100) : Fit z := by unfold Fit; omega
theorem size_small (l : ByteArray) (h : l.size ≤ 1) : l.size ≤ maxLen := by unfold maxLen; omega
theorem kinds : Fit 1 ∧ Fit 2 ∧ Fit 0 ∧ Fit 6 ∧ Fit 9 := ⟨fit_small _ (by decide) (by decide), fit_small _ (by decide) (by decide), fit_small _ (by decide) (by decide), fit_small _ (by decide) (by decide), fit_small _ (by decide) (by decide)⟩
theorem leaf_row (n : Nat) (D : Nat → Prop) (w : World) (op : Int) (v : Val) (s : ByteArray) (h1 : Fit op) (h2 : FitV v) (h3 : s.size ≤ maxLen) : RExN (n + 1) D w (.mk op v s []) [.int .i64 op, .int .i64 v.kind, .int .i64 v.n, .string v.s, .string s, .slice none 0 0] :=
  ⟨_, rfl, h1, h2, h3, Sl.none_⟩
theorem numX_row (n : Nat) (D : Nat → Prop) (w : World) (k : Int) (hk : Fit k) : RExN (n + 1) D w (numX k) [.int .i64 1, .int .i64 2, .int .i64 k, .string ⟨#[]⟩, .string ⟨#[]⟩, .slice none 0 0] :=
  leaf_row n D w 1 ⟨2, k, emptyS⟩ emptyS kinds.1 ⟨kinds.2.1, hk, size_small emptyS (by decide)⟩ (size_small _ (by decide))
theorem varNX_row (n : Nat) (D : Nat → Prop) (w : World) : RExN (n + 1) D w varNX [.int .i64 2, .int .i64 0, .int .i64 0, .string ⟨#[]⟩, .string ⟨#[110]⟩, .slice none 0 0] :=
  leaf_row n D w 2 noV sN kinds.2.1 ⟨kinds.2.2.1, kinds.2.2.1, size_small _ (by decide)⟩ (size_small _ (by decide))
theorem trueX_row (n : Nat) (D : Nat → Prop) (w : World) : RExN (n + 1) D w trueX [.int .i64 1, .int .i64 1, .int .i64 1, .string ⟨#[]⟩, .string ⟨#[]⟩, .slice none 0 0] :=
  leaf_row n D w 1 ⟨1, 1, emptyS⟩ emptyS kinds.1 ⟨kinds.1, kinds.1, size_small _ (by decide)⟩ (size_small _ (by decide))
def exF (k : Int) (B j : Nat) (v : Value) (W : World) : Prop := match j with
  | 0 => SlI (Fr B W) W v [0]
  | 1 => SlI (Fr B W) W v [0]
  | 2 => IsTr (Fr B W) W v ⟨sA, [0], [0]⟩
  | 3 => SlI (Fr B W) W v [0]
  | 4 => SlI (Fr B W) W v [1]
  | 5 => IsTr (Fr B W) W v ⟨sB, [0], [1]⟩
  | 6 => SlT (Fr B W) W v exTrans
  | 7 => IsNet (Fr B W) W v exNet
  | 8 => v = .agg #[.string ⟨#[110]⟩, .int .i64 2, .int .i64 0, .int .i64 2, .slice none 0 0]
  | 9 => SlX (Fr B W) W v [exVar]
  | 10 => v = .agg #[.int .i64 2, .int .i64 0, .string ⟨#[]⟩]
  | 11 => SlV (Fr B W) W v [⟨2, 0, emptyS⟩]
  | 12 => v = .agg #[.int .i64 1, .int .i64 1, .string ⟨#[]⟩]
  | 13 => v = exprV 1 1 1 ⟨#[]⟩ ⟨#[]⟩ (.slice none 0 0)
  | 14 => v = exprV 2 0 0 ⟨#[]⟩ sN (.slice none 0 0)
  | 15 => v = .func (.func 100) #[] #[]
  | 16 => v = .int .i64 k
  | 17 => v = exprV 1 2 k emptyS emptyS (.slice none 0 0)
  | 18 => SlE 1 (Fr B W) W v [varNX, numX k]
  | 19 => IsEx 1 (Fr B W) W v (eqX k)
  | 20 => SlE 2 (Fr B W) W v [trueX, eqX k]
  | 21 => v = exprV 2 0 0 ⟨#[]⟩ sN (.slice none 0 0)
  | 22 => v = .func (.func 100) #[] #[]
  | 23 => v = exprV 1 2 1 emptyS emptyS (.slice none 0 0)
  | 24 => SlE 2 (Fr B W) W v [varNX, numX 1]
  | 25 => IsEx 2 (Fr B W) W v addX
  | 26 => IsWr (Fr B W) W v
  | 27 => SlW 2 (Fr B W) W v [⟨0, addX⟩]
  | 28 => SlWW 2 (Fr B W) W v [[⟨0, addX⟩], []]
  | 29 => IsDn 2 (Fr B W) W v (exD k)
  | _ => True
theorem exF_now (k : Int) (B : Nat) : ∀ j v W W', exF k B j v W → Below W.heap.size W W' → exF k B j v W' := by
  intro j v W W' h hb
  obtain ⟨hd, hs⟩ := fr_now (B := B) hb
  match j, h with
  | 0, h => exact Sl.keep h RInt.kept hd hs
  | 1, h => exact Sl.keep h RInt.kept hd hs
  | 2, h => exact h.keep hd hs
  | 3, h => exact Sl.keep h RInt.kept hd hs
  | 4, h => exact Sl.keep h RInt.kept hd hs
  | 5, h => exact h.keep hd hs
  | 6, h => exact Sl.keep h RTr.kept hd hs
  | 7, h => exact h.keep hd hs
  | 8, h => exact h
  | 9, h => exact Sl.keep h RVar.kept hd hs
  | 10, h => exact h
  | 11, h => exact Sl.keep h RVal.kept hd hs
  | 12, h => exact h
  | 13, h => exact h
  | 14, h => exact h
  | 15, h => exact h
  | 16, h => exact h
  | 17, h => exact h
  | 18, h => exact Sl.keep h (RExN.kept 1) hd hs
  | 19, h => exact h.keep hd hs
  | 20, h => exact Sl.keep h (RExN.kept 2) hd hs
  | 21, h => exact h
  | 22, h => exact h
  | 23, h => exact h
  | 24, h => exact Sl.keep h (RExN.kept 2) hd hs
  | 25, h => exact h.keep hd hs
  | 26, h => exact h.keep hd hs
  | 27, h => exact Sl.keep h (RWr.kept 2) hd hs
  | 28, h => exact Sl.keep h (RWRow.kept 2) hd hs
  | 29, h => exact h.keep hd hs
  | n + 30, h => exact h
theorem wpM_call {o : Oper} {a : Act} {w : World} {K : Act → World → Prop} {Q : Exit → Act → World → Prop} (x : Operand) (args : Array Operand) (vals : Array Value) (ts : Array TypeId) (ho : o.op = .call { callee := .value x, args := args, argTypes := ts }) (hx : a.eval x = .func (.func 100) #[] #[]) (hv : args.map a.eval = vals)
    (h : Calls Tryz.prog 100 vals w fun e w' => ∃ v, e = .returned v ∧ K (a.put o.dst v) w') : o.wp Tryz.prog a w K Q := by
  unfold Oper.wp execOp
  simp only [ho]
  generalize a.eval = ρ at hx hv ⊢
  simp [hx, hv, go_sem]
  refine h.mono ?_
  rintro e w' ⟨v, rfl, hK⟩
  exact hK
theorem hall_of {l : List Oper} (hE : earlyB l = true) : ∀ listed, Shut l listed → Region.ready .any l.toArray listed = [] → ∀ i, i < l.length → Up listed i := by
  intro listed hs hr i hi
  have hsz := hs.size
  cases h : listed.getD i true with
  | true =>
    unfold Up
    rw [Array.getD_eq_getD_getElem?, Array.getElem?_eq_getElem (by omega)] at h ⊢
    exact h
  | false =>
    obtain ⟨j, _, hj⟩ := first_ready hE hsz i (by omega) h
    rw [hr] at hj; cases hj
theorem bset8 {w w1 : World} {g : Nat} (h : Below w.heap.size w w1) (hg : w.heap.size ≤ g) (a b c d e f x y : Value) :
    Below w.heap.size w ((((((((w1.setCell ⟨g, 0, none⟩ a).setCell ⟨g, 1, none⟩ b).setCell ⟨g, 2, none⟩ c).setCell ⟨g, 3, none⟩ d).setCell ⟨g, 4, none⟩ e).setCell ⟨g, 5, none⟩ f).setCell ⟨g, 6, none⟩ x).setCell ⟨g, 7, none⟩ y) :=
  (((((((h.setCell hg a).setCell hg b).setCell hg c).setCell hg d).setCell hg e).setCell hg f).setCell hg x).setCell hg y
theorem bset8F {W : World} {g B : Nat} (hg : g < B) (a b c d e f x y : Value) :
    (∀ k, Fr B W k → Lt ((((((((W.setCell ⟨g, 0, none⟩ a).setCell ⟨g, 1, none⟩ b).setCell ⟨g, 2, none⟩ c).setCell ⟨g, 3, none⟩ d).setCell ⟨g, 4, none⟩ e).setCell ⟨g, 5, none⟩ f).setCell ⟨g, 6, none⟩ x).setCell ⟨g, 7, none⟩ y).heap.size k) ∧
    Same (Fr B W) W ((((((((W.setCell ⟨g, 0, none⟩ a).setCell ⟨g, 1, none⟩ b).setCell ⟨g, 2, none⟩ c).setCell ⟨g, 3, none⟩ d).setCell ⟨g, 4, none⟩ e).setCell ⟨g, 5, none⟩ f).setCell ⟨g, 6, none⟩ x).setCell ⟨g, 7, none⟩ y) := by
  refine ⟨fun k hk => ?_, fun k hk => ?_⟩
  · have := hk.2
    unfold Lt
    simp only [World.size_setCell]
    exact this
  · have hne : k ≠ g := by have := hk.1; omega
    simp only [Below.heap_setCell _ _ _ k (show k ≠ (⟨g, _, none⟩ : Addr).block from hne)]
theorem Blk.set8 {w : World} {g : Nat} {t : TypeId} {p q r s u v m n : Value} (h : Blk w g t #[p, q, r, s, u, v, m, n]) (a b c d e f x y : Value) :
    Blk ((((((((w.setCell ⟨g, 0, none⟩ a).setCell ⟨g, 1, none⟩ b).setCell ⟨g, 2, none⟩ c).setCell ⟨g, 3, none⟩ d).setCell ⟨g, 4, none⟩ e).setCell ⟨g, 5, none⟩ f).setCell ⟨g, 6, none⟩ x).setCell ⟨g, 7, none⟩ y) g t #[a, b, c, d, e, f, x, y] := by
  have h0 := h.set_ 0 a
  have h1 := Blk.set_ (show Blk _ g t #[a, q, r, s, u, v, m, n] from h0) 1 b
  have h2 := Blk.set_ (show Blk _ g t #[a, b, r, s, u, v, m, n] from h1) 2 c
  have h3 := Blk.set_ (show Blk _ g t #[a, b, c, s, u, v, m, n] from h2) 3 d
  have h4 := Blk.set_ (show Blk _ g t #[a, b, c, d, u, v, m, n] from h3) 4 e
  have h5 := Blk.set_ (show Blk _ g t #[a, b, c, d, e, v, m, n] from h4) 5 f
  have h6 := Blk.set_ (show Blk _ g t #[a, b, c, d, e, f, m, n] from h5) 6 x
  exact Blk.set_ (show Blk _ g t #[a, b, c, d, e, f, x, n] from h6) 7 y
set_option linter.unusedSimpArgs false in
set_option maxHeartbeats 4000000 in
set_option maxRecDepth 100000 in
theorem example_any (k : Int) (w : World) (hfit : Fit k) : Calls Tryz.prog 56 #[.int .i64 k] w fun e w' => ∃ u, e = .returned u ∧ IsDn 2 (Lt w'.heap.size) w' u (exD k) ∧ Below w.heap.size w w' := by
  go_enter Tryz.func56, Tryz.ntmps56
  go_upto_region 3 with fail
  rename_i Q1 K1 hK1
  have b1 := bone w (.cells #[.int .i64 0, .slice none 0 0, .int .i64 0, .int .i64 0, .slice none 0 0, .slice none 0 0, .slice none 0 0, .slice none 0 0] 30)
  have hB1 := Blk.new w 30 #[.int .i64 0, .slice none 0 0, .int .i64 0, .int .i64 0, .slice none 0 0, .slice none 0 0, .slice none 0 0, .slice none 0 0]
  have hs1 := World.size_alloc w (.cells #[.int .i64 0, .slice none 0 0, .int .i64 0, .int .i64 0, .slice none 0 0, .slice none 0 0, .slice none 0 0, .slice none 0 0] 30)
  generalize w.alloc (.cells #[.int .i64 0, .slice none 0 0, .int .i64 0, .int .i64 0, .slice none 0 0, .slice none 0 0, .slice none 0 0, .slice none 0 0] 30) = w1 at *
  have b2 := bone w1 (.cells #[.int .i64 2, .int .i64 0, .int .i64 0, .string ⟨#[]⟩, .string ⟨#[110]⟩, .slice none 0 0] 65)
  have hB2 := Blk.new_at (w := w1) (t := 65) (cs := #[.int .i64 2, .int .i64 0, .int .i64 0, .string ⟨#[]⟩, .string ⟨#[110]⟩, .slice none 0 0]) hs1
  have hB1 := hB1.now b2
  have b0 := b1.trans (b2.mono b1.size)
  have b2' := b2.size
  clear b1 b2
  generalize w1.alloc (.cells #[.int .i64 2, .int .i64 0, .int .i64 0, .string ⟨#[]⟩, .string ⟨#[110]⟩, .slice none 0 0] 65) = w2 at *
  refine wp_region_make (by kernel_rfl) 30 (by kernel_rfl) (by kernel_rfl) (by kernel_rfl) (by kernel_rfl) (exF k w2.heap.size) (exF_now k w2.heap.size) ?hall ?hstep ?hlast
  case hall => exact hall_of (by kernel_rfl)
  case hlast =>
    intro o ho a W hk hb hF
    injection ho with ho
    subst ho
    obtain ⟨tv, xv, iv, gv, wv, e29, ⟨tv', en, n1, n2, n3, n4⟩, x, i, g, ww⟩ := (show IsDn 2 (Fr w2.heap.size W) W (Act.slot a 35) (exD k) from hF 29 (by decide))
    injection en with en
    injection en with en
    injection en with _ en
    injection en with et _
    subst et
    have k2 : a.eval (.tmp 2) = .pointer (some ⟨w.heap.size, 0, none⟩) := hk.same (s := 2) (by kernel_rfl)
    have hBr := Blk.now (hB1.drew) hb
    obtain ⟨c0, c1, c2, c3, c4, c5, c6, c7⟩ := hBr.c8
    obtain ⟨At, ct, rfl, _, _, n5⟩ := n4.open_
    obtain ⟨Ax, cx, rfl, _, _, x'⟩ := x.open_
    obtain ⟨Ai, ci, rfl, _, _, i'⟩ := i.open_
    obtain ⟨Ag, cg, rfl, _, _, g'⟩ := SlE.open_ g
    obtain ⟨Aw, cw, rfl, _, _, w'⟩ := Sl.open_ ww
    refine wpM_store 30 (.tmp 2) (.tmp 35) _ _ _ () rfl k2 e29 (by simp [go_sem, c0, c1, c2, c3, c4, c5, c6, c7, hBr.frozen]; rfl) ⟨_, rfl, fun a'' hk'' hs => ?_⟩
    have hk2 : Act.slot a'' 2 = .pointer (some ⟨w.heap.size, 0, none⟩) := hk''.same (s := 2) (by kernel_rfl)
    obtain ⟨r0, r1, r2, r3, r4, r5, r6, r7⟩ := (hBr.set8 (.int .i64 (exD k).net.places) (.slice At (exD k).net.trans.length ct) (.int .i64 (exD k).net.source) (.int .i64 (exD k).net.sink) (.slice Ax (exD k).vars.length cx) (.slice Ai (exD k).init.length ci) (.slice Ag (exD k).guards.length cg) (.slice Aw (exD k).writes.length cw)).c8
    have hbw0 := b0.drew.trans (hb.mono b0.size)
    have hbw := bset8 (w := w) (g := w.heap.size) hbw0 (Nat.le_refl _) (.int .i64 (exD k).net.places) (.slice At (exD k).net.trans.length ct) (.int .i64 (exD k).net.source) (.int .i64 (exD k).net.sink) (.slice Ax (exD k).vars.length cx) (.slice Ai (exD k).init.length ci) (.slice Ag (exD k).guards.length cg) (.slice Aw (exD k).writes.length cw)
    have hlt2 : w.heap.size < w2.heap.size := by have := b2'; omega
    have hbs := bset8F (W := W) (g := w.heap.size) (B := w2.heap.size) hlt2 (.int .i64 (exD k).net.places) (.slice At (exD k).net.trans.length ct) (.int .i64 (exD k).net.source) (.int .i64 (exD k).net.sink) (.slice Ax (exD k).vars.length cx) (.slice Ai (exD k).init.length ci) (.slice Ag (exD k).guards.length cg) (.slice Aw (exD k).writes.length cw)
    refine hK1 _ _ (wp_ret ?_)
    unfold Act.slot at hk2
    rw [Array.getD_eq_getD_getElem?] at hk2
    refine bodyPost_ret (P := Tryz.prog) (fn := Tryz.f56) (R := fun e w' => ∃ u, e = .returned u ∧ IsDn 2 (Lt w'.heap.size) w' u (exD k) ∧ Below w.heap.size w w') (v := .agg #[.int .i64 (exD k).net.places, .slice At (exD k).net.trans.length ct, .int .i64 (exD k).net.source, .int .i64 (exD k).net.sink, .slice Ax (exD k).vars.length cx, .slice Ai (exD k).init.length ci, .slice Ag (exD k).guards.length cg, .slice Aw (exD k).writes.length cw]) ?_ ?_ ⟨_, rfl, ?_, ?_⟩
    · simp [results, Tryz.results56, go_sem, hk2, r0, r1, r2, r3, r4, r5, r6, r7]
    · exact hk''.defers
    · exact IsDn.keep (D := Fr w2.heap.size W) (w := W) (n := 2) (t := exD k) ⟨_, _, _, _, _, rfl, ⟨_, rfl, n1, n2, n3, n5⟩, x', i', g', w'⟩ hbs.1 hbs.2
    · exact hbw
  case hstep =>
    have hB2 : Blk w2.drew (w.heap.size + 1) 65 _ := hB2.drew
    refine ⟨fun a W hk hb hd => ?_, ?_⟩
    · show Oper.wp _ _ a W _ _
      refine wpM_slice _ _ _ _ _ _ rfl ?_ (bs1 0 W) ⟨_, rfl, bone _ _, ?_⟩
      · simp [evalC, sA, sB, sN, emptyS, exTrans, exprV, eqX, addX, exNet, Ex.op, Ex.v, Ex.s, Ex.l, noV]
      · exact Sl.fresh1 (R := RInt) (es := [.int .i64 0]) hb.size RInt.kept rfl ⟨rfl, kinds.2.2.1⟩
    refine ⟨fun a W hk hb hd => ?_, ?_⟩
    · show Oper.wp _ _ a W _ _
      refine wpM_slice _ _ _ _ _ _ rfl ?_ (bs1 0 W) ⟨_, rfl, bone _ _, ?_⟩
      · simp [evalC, sA, sB, sN, emptyS, exTrans, exprV, eqX, addX, exNet, Ex.op, Ex.v, Ex.s, Ex.l, noV]
      · exact Sl.fresh1 (R := RInt) (es := [.int .i64 0]) hb.size RInt.kept rfl ⟨rfl, kinds.2.2.1⟩
    refine ⟨fun a W hk hb hd => ?_, ?_⟩
    · show Oper.wp _ _ a W _ _
      obtain ⟨A, c, e0, _, _, f0⟩ := SlI.open_ (show SlI (Fr w2.heap.size W) W (Act.slot a 6) [0] from hd 0 (by kernel_rfl))
      obtain ⟨B, d, e1, _, _, f1⟩ := SlI.open_ (show SlI (Fr w2.heap.size W) W (Act.slot a 7) [0] from hd 1 (by kernel_rfl))
      refine wpM_build _ _ _ _ rfl ?_ (bT sA A B 1 1 c d W) ⟨_, rfl, Below.refl _ _, ?_⟩
      · have ev0 : a.eval (.tmp 6) = _ := e0; have ev1 : a.eval (.tmp 7) = _ := e1; simp [evalC, ev0, ev1, sA, sB, sN, emptyS, exTrans, exprV, eqX, addX, exNet, Ex.op, Ex.v, Ex.s, Ex.l, noV]
      · exact ⟨_, _, rfl, size_small _ (by decide), f0, f1⟩
    refine ⟨fun a W hk hb hd => ?_, ?_⟩
    · show Oper.wp _ _ a W _ _
      refine wpM_slice _ _ _ _ _ _ rfl ?_ (bs1 0 W) ⟨_, rfl, bone _ _, ?_⟩
      · simp [evalC, sA, sB, sN, emptyS, exTrans, exprV, eqX, addX, exNet, Ex.op, Ex.v, Ex.s, Ex.l, noV]
      · exact Sl.fresh1 (R := RInt) (es := [.int .i64 0]) hb.size RInt.kept rfl ⟨rfl, kinds.2.2.1⟩
    refine ⟨fun a W hk hb hd => ?_, ?_⟩
    · show Oper.wp _ _ a W _ _
      refine wpM_slice _ _ _ _ _ _ rfl ?_ (bs1 1 W) ⟨_, rfl, bone _ _, ?_⟩
      · simp [evalC, sA, sB, sN, emptyS, exTrans, exprV, eqX, addX, exNet, Ex.op, Ex.v, Ex.s, Ex.l, noV]
      · exact Sl.fresh1 (R := RInt) (es := [.int .i64 1]) hb.size RInt.kept rfl ⟨rfl, kinds.1⟩
    refine ⟨fun a W hk hb hd => ?_, ?_⟩
    · show Oper.wp _ _ a W _ _
      obtain ⟨A, c, e3, _, _, f3⟩ := SlI.open_ (show SlI (Fr w2.heap.size W) W (Act.slot a 9) [0] from hd 3 (by kernel_rfl))
      obtain ⟨B, d, e4, _, _, f4⟩ := SlI.open_ (show SlI (Fr w2.heap.size W) W (Act.slot a 10) [1] from hd 4 (by kernel_rfl))
      refine wpM_build _ _ _ _ rfl ?_ (bT sB A B 1 1 c d W) ⟨_, rfl, Below.refl _ _, ?_⟩
      · have ev3 : a.eval (.tmp 9) = _ := e3; have ev4 : a.eval (.tmp 10) = _ := e4; simp [evalC, ev3, ev4, sA, sB, sN, emptyS, exTrans, exprV, eqX, addX, exNet, Ex.op, Ex.v, Ex.s, Ex.l, noV]
      · exact ⟨_, _, rfl, size_small _ (by decide), f3, f4⟩
    refine ⟨fun a W hk hb hd => ?_, ?_⟩
    · show Oper.wp _ _ a W _ _
      obtain ⟨i2, o2, e2, l2, p2, q2⟩ := (show IsTr (Fr w2.heap.size W) W (Act.slot a 8) ⟨sA, [0], [0]⟩ from hd 2 (by kernel_rfl))
      obtain ⟨i5, o5, e5, l5, p5, q5⟩ := (show IsTr (Fr w2.heap.size W) W (Act.slot a 11) ⟨sB, [0], [1]⟩ from hd 5 (by kernel_rfl))
      obtain ⟨A, c, rfl, _, _, p2'⟩ := p2.open_
      obtain ⟨B, d, rfl, _, _, q2'⟩ := q2.open_
      obtain ⟨C, e, rfl, _, _, p5'⟩ := p5.open_
      obtain ⟨D, f, rfl, _, _, q5'⟩ := q5.open_
      refine wpM_slice _ _ _ _ _ _ rfl ?_ (bsT sA sB A B C D 1 1 c d 1 1 e f W) ⟨_, rfl, bone _ _, ?_⟩
      · have ev2 : a.eval (.tmp 8) = _ := e2; have ev5 : a.eval (.tmp 11) = _ := e5; simp [evalC, ev2, ev5, sA, sB, sN, emptyS, exTrans, exprV, eqX, addX, exNet, Ex.op, Ex.v, Ex.s, Ex.l, noV]
      · exact Sl.fresh2 (R := RTr) (es := [_, _, _]) (fs := [_, _, _]) hb.size RTr.kept rfl rfl ⟨_, _, rfl, l2, p2', q2'⟩ ⟨_, _, rfl, l5, p5', q5'⟩
    refine ⟨fun a W hk hb hd => ?_, ?_⟩
    · show Oper.wp _ _ a W _ _
      obtain ⟨A, c, e6, _, _, f6⟩ := SlT.open_ (show SlT (Fr w2.heap.size W) W (Act.slot a 12) exTrans from hd 6 (by kernel_rfl))
      refine wpM_build _ _ _ _ rfl ?_ (bN A 2 c W) ⟨_, rfl, Below.refl _ _, ?_⟩
      · have ev6 : a.eval (.tmp 12) = _ := e6; simp [evalC, ev6, sA, sB, sN, emptyS, exTrans, exprV, eqX, addX, exNet, Ex.op, Ex.v, Ex.s, Ex.l, noV]
      · exact ⟨_, rfl, kinds.2.1, kinds.2.2.1, kinds.1, f6⟩
    refine ⟨fun a W hk hb hd => ?_, ?_⟩
    · show Oper.wp _ _ a W _ _
      refine wpM_build _ _ _ _ rfl ?_ (bX W) ⟨_, rfl, Below.refl _ _, ?_⟩
      · simp [evalC, sA, sB, sN, emptyS, exTrans, exprV, eqX, addX, exNet, Ex.op, Ex.v, Ex.s, Ex.l, noV]
      · exact rfl
    refine ⟨fun a W hk hb hd => ?_, ?_⟩
    · show Oper.wp _ _ a W _ _
      have e8 : a.eval (.tmp 14) = _ := (show Act.slot a 14 = .agg #[.string ⟨#[110]⟩, .int .i64 2, .int .i64 0, .int .i64 2, .slice none 0 0] from hd 8 (by kernel_rfl))
      refine wpM_slice _ _ _ _ _ _ rfl ?_ (bsX W) ⟨_, rfl, bone _ _, ?_⟩
      · have ev8 : a.eval (.tmp 14) = _ := e8; simp [evalC, ev8, sA, sB, sN, emptyS, exTrans, exprV, eqX, addX, exNet, Ex.op, Ex.v, Ex.s, Ex.l, noV]
      · exact Sl.fresh1 (R := RVar) hb.size (es := [.string ⟨#[110]⟩, .int .i64 2, .int .i64 0, .int .i64 2, .slice none 0 0]) RVar.kept rfl ⟨_, rfl, size_small _ (by decide), kinds.2.1, kinds.2.2.1, kinds.2.1, Sl.none_⟩
    refine ⟨fun a W hk hb hd => ?_, ?_⟩
    · show Oper.wp _ _ a W _ _
      refine wpM_build _ _ _ _ rfl ?_ (bV1 W) ⟨_, rfl, Below.refl _ _, ?_⟩
      · simp [evalC, sA, sB, sN, emptyS, exTrans, exprV, eqX, addX, exNet, Ex.op, Ex.v, Ex.s, Ex.l, noV]
      · exact rfl
    refine ⟨fun a W hk hb hd => ?_, ?_⟩
    · show Oper.wp _ _ a W _ _
      have e10 : a.eval (.tmp 16) = _ := (show Act.slot a 16 = .agg #[.int .i64 2, .int .i64 0, .string ⟨#[]⟩] from hd 10 (by kernel_rfl))
      refine wpM_slice _ _ _ _ _ _ rfl ?_ (bsV W) ⟨_, rfl, bone _ _, ?_⟩
      · have ev10 : a.eval (.tmp 16) = _ := e10; simp [evalC, ev10, sA, sB, sN, emptyS, exTrans, exprV, eqX, addX, exNet, Ex.op, Ex.v, Ex.s, Ex.l, noV]
      · exact Sl.fresh1 (R := RVal) (es := [.int .i64 2, .int .i64 0, .string ⟨#[]⟩]) hb.size RVal.kept rfl ⟨rfl, kinds.2.1, kinds.2.2.1, size_small _ (by decide)⟩
    refine ⟨fun a W hk hb hd => ?_, ?_⟩
    · show Oper.wp _ _ a W _ _
      refine wpM_build _ _ _ _ rfl ?_ (bV2 W) ⟨_, rfl, Below.refl _ _, ?_⟩
      · simp [evalC, sA, sB, sN, emptyS, exTrans, exprV, eqX, addX, exNet, Ex.op, Ex.v, Ex.s, Ex.l, noV]
      · exact rfl
    refine ⟨fun a W hk hb hd => ?_, ?_⟩
    · show Oper.wp _ _ a W _ _
      have e12 : a.eval (.tmp 18) = _ := (show Act.slot a 18 = .agg #[.int .i64 1, .int .i64 1, .string ⟨#[]⟩] from hd 12 (by kernel_rfl))
      refine wpM_build _ _ _ _ rfl ?_ (bE1 W) ⟨_, rfl, Below.refl _ _, ?_⟩
      · have ev12 : a.eval (.tmp 18) = _ := e12; simp [evalC, ev12, sA, sB, sN, emptyS, exTrans, exprV, eqX, addX, exNet, Ex.op, Ex.v, Ex.s, Ex.l, noV]
      · exact rfl
    refine ⟨fun a W hk hb hd => ?_, ?_⟩
    · show Oper.wp _ _ a W _ _
      have k4 : a.eval (.tmp 4) = .pointer (some ⟨w.heap.size + 1, 0, none⟩) := hk.same (s := 4) (by kernel_rfl)
      obtain ⟨c0, c1, c2, c3, c4, c5⟩ := (Blk.now hB2 hb).c6
      refine wpM_load _ _ _ (exprV 2 0 0 ⟨#[]⟩ sN (.slice none 0 0)) rfl k4 (by simp [go_sem, c0, c1, c2, c3, c4, c5, exprV, sN]) ⟨_, rfl, Below.refl _ _, ?_⟩
      exact rfl
    refine ⟨fun a W hk hb hd => ?_, ?_⟩
    · show Oper.wp _ _ a W _ _
      have k3 : a.eval (.tmp 3) = .func (.func 100) #[] #[] := hk.same (s := 3) (by kernel_rfl)
      refine wpM_move _ _ rfl k3 ⟨_, rfl, Below.refl _ _, ?_⟩
      exact rfl
    refine ⟨fun a W hk hb hd => ?_, ?_⟩
    · show Oper.wp _ _ a W _ _
      have k0 : a.eval (.tmp 0) = .int .i64 k := hk.same (s := 0) (by kernel_rfl)
      refine wpM_move _ _ rfl k0 ⟨_, rfl, Below.refl _ _, ?_⟩
      exact rfl
    refine ⟨fun a W hk hb hd => ?_, ?_⟩
    · show Oper.wp _ _ a W _ _
      have e15 : a.eval (.tmp 21) = _ := (show Act.slot a 21 = .func (.func 100) #[] #[] from hd 15 (by kernel_rfl))
      have e16 : a.eval (.tmp 22) = _ := (show Act.slot a 22 = .int .i64 k from hd 16 (by kernel_rfl))
      refine wpM_call _ _ #[.int .i64 k] _ rfl e15 (by simp [e16]) ((numX_any k W).mono ?_)
      rintro x w' ⟨rfl, hb'⟩
      exact ⟨_, rfl, _, rfl, hb', rfl⟩
    refine ⟨fun a W hk hb hd => ?_, ?_⟩
    · show Oper.wp _ _ a W _ _
      have e14 : a.eval (.tmp 20) = _ := (show Act.slot a 20 = exprV 2 0 0 ⟨#[]⟩ sN (.slice none 0 0) from hd 14 (by kernel_rfl))
      have e17 : a.eval (.tmp 23) = _ := (show Act.slot a 23 = exprV 1 2 k emptyS emptyS (.slice none 0 0) from hd 17 (by kernel_rfl))
      refine wpM_slice _ _ _ _ _ _ rfl ?_ (bsE 2 0 0 1 2 k ⟨#[]⟩ sN emptyS emptyS none none 0 0 0 0 W) ⟨_, rfl, bone _ _, ?_⟩
      · have ev14 : a.eval (.tmp 20) = _ := e14; have ev17 : a.eval (.tmp 23) = _ := e17; simp [evalC, ev14, ev17, sA, sB, sN, emptyS, exTrans, exprV, eqX, addX, exNet, Ex.op, Ex.v, Ex.s, Ex.l, noV]
      · exact Sl.fresh2 (R := RExN 1) (es := [_, _, _, _, _, _]) (fs := [_, _, _, _, _, _]) hb.size (RExN.kept 1) rfl rfl (varNX_row 0 _ _) (numX_row 0 _ _ k hfit)
    refine ⟨fun a W hk hb hd => ?_, ?_⟩
    · show Oper.wp _ _ a W _ _
      obtain ⟨A, c, e18, _, _, f18⟩ := SlE.open_ (show SlE 1 (Fr w2.heap.size W) W (Act.slot a 24) [varNX, numX k] from hd 18 (by kernel_rfl))
      refine wpM_build _ _ _ _ rfl ?_ (bE2 6 A 2 c W) ⟨_, rfl, Below.refl _ _, ?_⟩
      · have ev18 : a.eval (.tmp 24) = _ := e18; simp [evalC, ev18, sA, sB, sN, emptyS, exTrans, exprV, eqX, addX, exNet, Ex.op, Ex.v, Ex.s, Ex.l, noV]
      · exact ⟨_, rfl, kinds.2.2.2.1, ⟨kinds.2.2.1, kinds.2.2.1, size_small emptyS (by decide)⟩, size_small emptyS (by decide), f18⟩
    refine ⟨fun a W hk hb hd => ?_, ?_⟩
    · show Oper.wp _ _ a W _ _
      have e13 : a.eval (.tmp 19) = _ := (show Act.slot a 19 = exprV 1 1 1 ⟨#[]⟩ ⟨#[]⟩ (.slice none 0 0) from hd 13 (by kernel_rfl))
      obtain ⟨lv, e19, x1, x2, x3, x4⟩ := (show IsEx 1 (Fr w2.heap.size W) W (Act.slot a 25) (eqX k) from hd 19 (by kernel_rfl))
      obtain ⟨A, c, rfl, _, _, x5⟩ := SlE.open_ x4
      refine wpM_slice _ _ _ _ _ _ rfl ?_ (bsE 1 1 1 6 0 0 ⟨#[]⟩ ⟨#[]⟩ ⟨#[]⟩ ⟨#[]⟩ none A 0 2 0 c W) ⟨_, rfl, bone _ _, ?_⟩
      · have ev13 : a.eval (.tmp 19) = _ := e13; have ev19 : a.eval (.tmp 25) = _ := e19; simp [evalC, ev13, ev19, sA, sB, sN, emptyS, exTrans, exprV, eqX, addX, exNet, Ex.op, Ex.v, Ex.s, Ex.l, noV]
      · exact Sl.fresh2 (R := RExN 2) (es := [_, _, _, _, _, _]) (fs := [_, _, _, _, _, _]) hb.size (RExN.kept 2) rfl rfl (trueX_row 1 _ _) ⟨_, rfl, x1, x2, x3, x5⟩
    refine ⟨fun a W hk hb hd => ?_, ?_⟩
    · show Oper.wp _ _ a W _ _
      have k4 : a.eval (.tmp 4) = .pointer (some ⟨w.heap.size + 1, 0, none⟩) := hk.same (s := 4) (by kernel_rfl)
      obtain ⟨c0, c1, c2, c3, c4, c5⟩ := (Blk.now hB2 hb).c6
      refine wpM_load _ _ _ (exprV 2 0 0 ⟨#[]⟩ sN (.slice none 0 0)) rfl k4 (by simp [go_sem, c0, c1, c2, c3, c4, c5, exprV, sN]) ⟨_, rfl, Below.refl _ _, ?_⟩
      exact rfl
    refine ⟨fun a W hk hb hd => ?_, ?_⟩
    · show Oper.wp _ _ a W _ _
      have k3 : a.eval (.tmp 3) = .func (.func 100) #[] #[] := hk.same (s := 3) (by kernel_rfl)
      refine wpM_move _ _ rfl k3 ⟨_, rfl, Below.refl _ _, ?_⟩
      exact rfl
    refine ⟨fun a W hk hb hd => ?_, ?_⟩
    · show Oper.wp _ _ a W _ _
      have e22 : a.eval (.tmp 28) = _ := (show Act.slot a 28 = .func (.func 100) #[] #[] from hd 22 (by kernel_rfl))
      refine wpM_call _ _ #[.int .i64 1] _ rfl e22 (by simp [evalC, sA, sB, sN, emptyS, exTrans, exprV, eqX, addX, exNet, Ex.op, Ex.v, Ex.s, Ex.l, noV]) ((numX_any 1 W).mono ?_)
      rintro x w' ⟨rfl, hb'⟩
      exact ⟨_, rfl, _, rfl, hb', rfl⟩
    refine ⟨fun a W hk hb hd => ?_, ?_⟩
    · show Oper.wp _ _ a W _ _
      have e21 : a.eval (.tmp 27) = _ := (show Act.slot a 27 = exprV 2 0 0 ⟨#[]⟩ sN (.slice none 0 0) from hd 21 (by kernel_rfl))
      have e23 : a.eval (.tmp 29) = _ := (show Act.slot a 29 = exprV 1 2 1 emptyS emptyS (.slice none 0 0) from hd 23 (by kernel_rfl))
      refine wpM_slice _ _ _ _ _ _ rfl ?_ (bsE 2 0 0 1 2 1 ⟨#[]⟩ sN emptyS emptyS none none 0 0 0 0 W) ⟨_, rfl, bone _ _, ?_⟩
      · have ev21 : a.eval (.tmp 27) = _ := e21; have ev23 : a.eval (.tmp 29) = _ := e23; simp [evalC, ev21, ev23, sA, sB, sN, emptyS, exTrans, exprV, eqX, addX, exNet, Ex.op, Ex.v, Ex.s, Ex.l, noV]
      · exact Sl.fresh2 (R := RExN 2) (es := [_, _, _, _, _, _]) (fs := [_, _, _, _, _, _]) hb.size (RExN.kept 2) rfl rfl (varNX_row 1 _ _) (numX_row 1 _ _ 1 kinds.1)
    refine ⟨fun a W hk hb hd => ?_, ?_⟩
    · show Oper.wp _ _ a W _ _
      obtain ⟨A, c, e24, _, _, f24⟩ := SlE.open_ (show SlE 2 (Fr w2.heap.size W) W (Act.slot a 30) [varNX, numX 1] from hd 24 (by kernel_rfl))
      refine wpM_build _ _ _ _ rfl ?_ (bE2 9 A 2 c W) ⟨_, rfl, Below.refl _ _, ?_⟩
      · have ev24 : a.eval (.tmp 30) = _ := e24; simp [evalC, ev24, sA, sB, sN, emptyS, exTrans, exprV, eqX, addX, exNet, Ex.op, Ex.v, Ex.s, Ex.l, noV]
      · exact ⟨_, rfl, kinds.2.2.2.2, ⟨kinds.2.2.1, kinds.2.2.1, size_small _ (by decide)⟩, size_small _ (by decide), f24⟩
    refine ⟨fun a W hk hb hd => ?_, ?_⟩
    · show Oper.wp _ _ a W _ _
      obtain ⟨lv, e25, x1, x2, x3, x4⟩ := (show IsEx 2 (Fr w2.heap.size W) W (Act.slot a 31) addX from hd 25 (by kernel_rfl))
      obtain ⟨A, c, rfl, _, _, x5⟩ := SlE.open_ x4
      refine wpM_build _ _ _ _ rfl ?_ (bW 9 0 0 ⟨#[]⟩ ⟨#[]⟩ A 2 c W) ⟨_, rfl, Below.refl _ _, ?_⟩
      · have ev25 : a.eval (.tmp 31) = _ := e25; simp [evalC, ev25, sA, sB, sN, emptyS, exTrans, exprV, eqX, addX, exNet, Ex.op, Ex.v, Ex.s, Ex.l, noV]
      · exact ⟨A, c, rfl, x5⟩
    refine ⟨fun a W hk hb hd => ?_, ?_⟩
    · show Oper.wp _ _ a W _ _
      obtain ⟨A, c, e26, x1⟩ := (show IsWr (Fr w2.heap.size W) W (Act.slot a 32) from hd 26 (by kernel_rfl))
      refine wpM_slice _ _ _ _ _ _ rfl ?_ (bsW 0 9 0 0 ⟨#[]⟩ ⟨#[]⟩ A 2 c W) ⟨_, rfl, bone _ _, ?_⟩
      · have ev26 : a.eval (.tmp 32) = _ := e26; simp [evalC, ev26, sA, sB, sN, emptyS, exTrans, exprV, eqX, addX, exNet, Ex.op, Ex.v, Ex.s, Ex.l, noV]
      · exact Sl.fresh1 (R := RWr 2) (es := [_, _, _, _, _, _, _]) hb.size (RWr.kept 2) rfl ⟨_, rfl, kinds.2.2.1, ⟨_, rfl, kinds.2.2.2.2, ⟨kinds.2.2.1, kinds.2.2.1, size_small _ (by decide)⟩, size_small _ (by decide), x1⟩⟩
    refine ⟨fun a W hk hb hd => ?_, ?_⟩
    · show Oper.wp _ _ a W _ _
      obtain ⟨A, c, e27, _, _, f27⟩ := Sl.open_ (show SlW 2 (Fr w2.heap.size W) W (Act.slot a 33) [⟨0, addX⟩] from hd 27 (by kernel_rfl))
      refine wpM_slice _ _ _ _ _ _ rfl ?_ (bsWW A 1 c W) ⟨_, rfl, bone _ _, ?_⟩
      · have ev27 : a.eval (.tmp 33) = _ := e27; simp [evalC, ev27, sA, sB, sN, emptyS, exTrans, exprV, eqX, addX, exNet, Ex.op, Ex.v, Ex.s, Ex.l, noV]
      · exact Sl.fresh2 (R := RWRow 2) (es := [_]) (fs := [_]) hb.size (RWRow.kept 2) rfl rfl ⟨_, rfl, f27⟩ ⟨_, rfl, Sl.none_⟩
    refine ⟨fun a W hk hb hd => ?_, ?_⟩
    · show Oper.wp _ _ a W _ _
      obtain ⟨tv, e7, n1, n2, n3, n4⟩ := (show IsNet (Fr w2.heap.size W) W (Act.slot a 13) exNet from hd 7 (by kernel_rfl))
      obtain ⟨A, c, rfl, _, _, n5⟩ := SlT.open_ n4
      obtain ⟨B, d, e9, _, _, f9⟩ := SlX.open_ (show SlX (Fr w2.heap.size W) W (Act.slot a 15) [exVar] from hd 9 (by kernel_rfl))
      obtain ⟨C, e, e11, _, _, f11⟩ := SlV.open_ (show SlV (Fr w2.heap.size W) W (Act.slot a 17) [⟨2, 0, emptyS⟩] from hd 11 (by kernel_rfl))
      obtain ⟨D, f, e20, _, _, f20⟩ := SlE.open_ (show SlE 2 (Fr w2.heap.size W) W (Act.slot a 26) [trueX, eqX k] from hd 20 (by kernel_rfl))
      obtain ⟨E, g, e28, _, _, f28⟩ := Sl.open_ (show SlWW 2 (Fr w2.heap.size W) W (Act.slot a 34) [[⟨0, addX⟩], []] from hd 28 (by kernel_rfl))
      refine wpM_build _ _ _ _ rfl ?_ (bD 2 0 1 A B C D E 2 1 1 2 2 c d e f g W) ⟨_, rfl, Below.refl _ _, ?_⟩
      · have ev11 : a.eval (.tmp 17) = _ := e11; have ev20 : a.eval (.tmp 26) = _ := e20; have ev28 : a.eval (.tmp 34) = _ := e28; have ev7 : a.eval (.tmp 13) = _ := e7; have ev9 : a.eval (.tmp 15) = _ := e9; simp [evalC, ev11, ev20, ev28, ev7, ev9, sA, sB, sN, emptyS, exTrans, exprV, eqX, addX, exNet, Ex.op, Ex.v, Ex.s, Ex.l, noV]
      · exact ⟨_, _, _, _, _, rfl, ⟨_, rfl, n1, n2, n3, n5⟩, f9, f11, f20, f28⟩
    trivial
end Go.Proofs.YtlmenhjlgmejkaaGreatDoor
