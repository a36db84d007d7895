/- Merged texts. -/
import Derived.Test.YtlmenhjlgmejkaaGreatDoorSn14
set_option linter.all false
namespace Go.Proofs.YtlmenhjlgmejkaaGreatDoor
open Go.RowKit
section
variable {w : World} {g t : Nat} {a b c d e f h i : Value}
theorem Blk.c7 (hB : Blk w g t #[a, b, c, d, e, f, h]) : w.cell? ⟨g, 0, none⟩ = some a ∧ w.cell? ⟨g, 1, none⟩ = some b ∧ w.cell? ⟨g, 2, none⟩ = some c ∧ w.cell? ⟨g, 3, none⟩ = some d ∧ w.cell? ⟨g, 4, none⟩ = some e ∧ w.cell? ⟨g, 5, none⟩ = some f ∧ w.cell? ⟨g, 6, none⟩ = some h := ⟨hB.cell 0, hB.cell 1, hB.cell 2, hB.cell 3, hB.cell 4, hB.cell 5, hB.cell 6⟩
theorem Blk.c8 (hB : Blk w g t #[a, b, c, d, e, f, h, i]) : w.cell? ⟨g, 0, none⟩ = some a ∧ w.cell? ⟨g, 1, none⟩ = some b ∧ w.cell? ⟨g, 2, none⟩ = some c ∧ w.cell? ⟨g, 3, none⟩ = some d ∧ w.cell? ⟨g, 4, none⟩ = some e ∧ w.cell? ⟨g, 5, none⟩ = some f ∧ w.cell? ⟨g, 6, none⟩ = some h ∧ w.cell? ⟨g, 7, none⟩ = some i := ⟨hB.cell 0, hB.cell 1, hB.cell 2, hB.cell 3, hB.cell 4, hB.cell 5, hB.cell 6, hB.cell 7⟩
end
theorem IsDn.open_ {n : Nat} {D : Nat → Prop} {w : World} {u : Value} {d : DNet} (h : IsDn n D w u d) :
  ∃ At ct Ax cx iv Ag cg Aw cw, u = .agg #[.int .i64 d.net.places, .slice At d.net.trans.length ct, .int .i64 d.net.source, .int .i64 d.net.sink, .slice Ax d.vars.length cx, iv, .slice Ag d.guards.length cg, .slice Aw d.writes.length cw] ∧
   IsNet D w (.agg #[.int .i64 d.net.places, .slice At d.net.trans.length ct, .int .i64 d.net.source, .int .i64 d.net.sink]) d.net ∧ SlX D w (.slice Ax d.vars.length cx) d.vars ∧ SlV D w iv d.init ∧
   SlE n D w (.slice Ag d.guards.length cg) d.guards ∧ SlWW n D w (.slice Aw d.writes.length cw) d.writes ∧
   (d.net.trans.length ≤ ct ∧ ct ≤ 9223372036854775807) ∧ (d.vars.length ≤ cx ∧ cx ≤ 9223372036854775807) ∧ (d.guards.length ≤ cg ∧ cg ≤ 9223372036854775807) ∧ d.writes.length ≤ cw ∧ cw ≤ 9223372036854775807 := by
 obtain ⟨tv, xv, iv, gv, wv, rfl, h1, h2, h3, h4, h5⟩ := h
 obtain ⟨tv', e, f1, f2, f3, ht⟩ := h1
 injection e with e
 have e' := congrArg Array.toList e
 injection e' with _ e'; injection e' with e' _
 subst e'
 obtain ⟨At, ct, rfl, t1, t2, ht⟩ := ht.open_
 obtain ⟨Ax, cx, rfl, x1, x2, h2⟩ := h2.open_
 obtain ⟨Ag, cg, rfl, g1, g2, h4⟩ := Sl.open_ h4
 obtain ⟨Aw, cw, rfl, w1, w2, h5⟩ := Sl.open_ h5
 exact ⟨At, ct, Ax, cx, iv, Ag, cg, Aw, cw, rfl, ⟨_, rfl, f1, f2, f3, ht⟩, h2, h3, h4, h5, ⟨t1, t2⟩, ⟨x1, x2⟩, ⟨g1, g2⟩, w1, w2⟩
theorem IsEx.slice_ {n : Nat} {D : Nat → Prop} {w : World} {a b c e f lv : Value} {x : Ex} (h : IsEx n D w (.agg #[a, b, c, e, f, lv]) x) : ∃ A k, lv = .slice A x.l.length k := by
 obtain ⟨lv', e', _, _, _, h4⟩ := h
 injection e' with e'
 have e2 := congrArg Array.toList e'
 injection e2 with _ e2; injection e2 with _ e2; injection e2 with _ e2; injection e2 with _ e2; injection e2 with _ e2; injection e2 with e2 _
 subst e2
 obtain ⟨A, k, h, _⟩ := Sl.open_ h4
 exact ⟨A, k, h⟩
theorem below_drewQ {B : Nat} {a w : World} (h : Below B a w) (k : Nat) : Below B a (w.drewN k) := ⟨h.os, h.tape, h.output, h.size, h.block⟩
theorem kindAt_at {vs : List Var} {t : Nat} {x : Var} (h : vs[t]? = some x) : kindAt vs (t : Int) = x.kind := by
 unfold kindAt; rw [Int.toNat_natCast, h]; rfl
theorem wrsB_nil (vs : List Var) (a : Int) : wrsB vs a [] = true := rfl
theorem wrsB_drop {vs : List Var} {l : List Wr} {k : Nat} {y : Wr} (hx : l[k]? = some y) (a : Int) :
  wrsB vs a (l.drop k) = (decide (a < y.var) && decide (y.var < vs.length) && typedB vs y.x (kindAt vs y.var) && wrsB vs y.var (l.drop (k + 1))) := by
 have hk : k < l.length := by
  rcases Nat.lt_or_ge k l.length with h | h
  ·exact h
  ·rw [List.getElem?_eq_none h] at hx; cases hx
 rw [List.getElem?_eq_getElem hk] at hx
 injection hx with hx
 rw [List.drop_eq_getElem_cons hk, hx, wrsB]
theorem rows_all {p : List Wr → Bool} {ls : List (List Wr)} (h : ∀ q y, q < ls.length → ls[q]? = some y → p y = true) : ls.all p = true := by
 rw [List.all_eq_true]
 intro y hy
 obtain ⟨q, hq⟩ := List.mem_iff_getElem?.1 hy
 have hl : q < ls.length := by
  rcases Nat.lt_or_ge q ls.length with h' | h'
  ·exact h'
  ·rw [List.getElem?_eq_none h'] at hq; cases hq
 exact h q y hl hq
theorem rows_bad {p : List Wr → Bool} {ls : List (List Wr)} {q : Nat} {y : List Wr} (h : ls[q]? = some y) (hp : p y = false) : ls.all p = false := by
 rw [Bool.eq_false_iff]
 intro ha
 rw [List.all_eq_true] at ha
 have := ha y (List.mem_of_getElem? h)
 rw [hp] at this
 cases this
theorem drop_any_typed (vs : List Var) (l : List Ex) : (l.any fun y => !typedB vs y 1) = !(l.all fun y => typedB vs y 1) := by
 induction l with
 | nil => rfl
 | cons a m ih => simp [List.any_cons, List.all_cons, ih]
set_option maxHeartbeats 1000000 in
theorem dvalid1_any (n : Nat) (vs : List Var) (x : Ex) (u pv tv sv kv xv iv gv wv : Value) (g : Nat) (w : World) (hB : Blk w g 30 #[pv, tv, sv, kv, xv, iv, gv, wv]) (hv : SlX (Lt w.heap.size) w xv vs) (h : IsEx n (Lt w.heap.size) w u x) (hl : vs.length ≤ 1000000) :
  Calls Tryz.prog 80 #[u, .pointer (some ⟨g, 0, none⟩)] w fun e w' => e = .returned (.bool (!typedB vs x 1)) ∧ Below w.heap.size w w' := by
 have h0 := h
 obtain ⟨lv, rfl, h1, h2, h3, h4⟩ := h
 have hb := bone w (.cells #[.int .i64 x.op, .int .i64 x.v.kind, .int .i64 x.v.n, .string x.v.s, .string x.s, lv] 65)
 have hB1 := hB.now hb
 have HC := Lib.hid (dtyped_any n vs x 1 _ _ _ (hv.now hb) (h0.now hb) hl)
 clear h0 hv h4
 obtain ⟨q0, q1, q2, q3, q4, q5, q6, q7⟩ := hB1.c8
 generalize typedB vs x 1 = z at *
 go_enter Tryz.func80, Tryz.ntmps80
 go_wp2_with fail
 refine HC.out.mono ?_
 rintro e w1 ⟨rfl, hb1⟩
 go_wp2_with fail
 go_ret
 exact ⟨rfl, bthen hb hb1⟩
set_option maxHeartbeats 8000000 in
set_option maxRecDepth 100000 in
theorem dvalid_any (n : Nat) (d : DNet) (u : Value) (w : World) (h : IsDn n (Lt w.heap.size) w u d) (hl : d.vars.length ≤ 1000000) :
  Calls Tryz.prog 28 #[u] w fun e w' => e = .returned (.bool (dvalidB d)) ∧ Below w.heap.size w w' := by
 obtain ⟨At, ct, Ax, cx, iv, Ag, cg, Aw, cw, rfl, h1, h2, h3, h4, h5, ⟨t1, t2⟩, ⟨x1, x2⟩, ⟨g1, g2⟩, v1, v2⟩ := h.open_
 clear h
 have hb := bone w (.cells #[.int .i64 d.net.places, .slice At d.net.trans.length ct, .int .i64 d.net.source, .int .i64 d.net.sink, .slice Ax d.vars.length cx, iv, .slice Ag d.guards.length cg, .slice Aw d.writes.length cw] 30)
 have hB := Blk.new w 30 #[.int .i64 d.net.places, .slice At d.net.trans.length ct, .int .i64 d.net.source, .int .i64 d.net.sink, .slice Ax d.vars.length cx, iv, .slice Ag d.guards.length cg, .slice Aw d.writes.length cw]
 have hn1 := h1.now hb
 have hx1 := h2.now hb
 have hi1 := h3.now hb
 have hg1 := SlE.now h4 hb
 have hw1 := SlWW.now h5 hb
 clear h1 h2 h3 h4 h5
 have HD : Hid (dvalidB d = (validB d.net && asgB d.vars d.init && decide (d.guards.length = d.net.trans.length) && decide (d.writes.length = d.net.trans.length) &&
  (d.guards.all fun x => typedB d.vars x 1) && d.writes.all (wrsB d.vars (-1)))) := rfl
 go_enter Tryz.func28, Tryz.ntmps28
 go_upto_region 1 with fail
 generalize hw1e : w.alloc (.cells #[.int .i64 d.net.places, .slice At d.net.trans.length ct, .int .i64 d.net.source, .int .i64 d.net.sink, .slice Ax d.vars.length cx, iv, .slice Ag d.guards.length cg, .slice Aw d.writes.length cw] 30) = w1 at *
 clear hw1e
 obtain ⟨q0, q1, q2, q3, q4, q5, q6, q7⟩ := hB.c8
 go_wp2_with fail
 refine (valid_any d.net _ _ hn1).mono ?_
 rintro e w2 ⟨rfl, hb2⟩
 have hbw2 := bthen hb hb2
 have hB2 := hB.now hb2
 have hx2 := hx1.now hb2
 have hi2 := hi1.now hb2
 have hg2 := SlE.now hg1 hb2
 have hw2 := SlWW.now hw1 hb2
 clear q0 q1 q2 q3 q4 q5 q6 q7 hB hn1 hx1 hi1 hg1 hw1 hb2
 obtain ⟨q0, q1, q2, q3, q4, q5, q6, q7⟩ := hB2.c8
 generalize hv1 : validB d.net = b1 at *
 clear hv1
 cases b1
 ·have HR : Hid (dvalidB d = false) := by show _ = _; rw [HD.out]; simp
  go_wp2_with fail
  go_ret
  exact ⟨ret_bool HR.out.symm, hbw2⟩
 go_wp2_with fail
 refine (dassigned_any d.vars d.init _ _ _ hx2 hi2 hl).mono ?_
 rintro e w3 ⟨rfl, hb3⟩
 have hbw3 := bthen hbw2 hb3
 have hB3 := hB2.now hb3
 have hx3 := hx2.now hb3
 have hg3 := SlE.now hg2 hb3
 have hw3 := SlWW.now hw2 hb3
 clear q0 q1 q2 q3 q4 q5 q6 q7 hB2 hx2 hi2 hg2 hw2 hb3
 obtain ⟨q0, q1, q2, q3, q4, q5, q6, q7⟩ := hB3.c8
 generalize hv2 : asgB d.vars d.init = b2 at *
 clear hv2
 cases b2
 ·have HR : Hid (dvalidB d = false) := by show _ = _; rw [HD.out]; simp
  go_wp2_with fail
  go_ret
  exact ⟨ret_bool HR.out.symm, hbw3⟩
 by_cases c3 : d.guards.length = d.net.trans.length
 rotate_left
 ·have HR : Hid (dvalidB d = false) := by show _ = _; rw [HD.out, decide_eq_false c3]; simp
  have c3' : ((d.guards.length : Int) != d.net.trans.length) = true := by simp only [bne_iff_ne, ne_eq]; omega
  clear c3
  go_wp2_with fail
  go_ret
  exact ⟨ret_bool HR.out.symm, hbw3⟩
 by_cases c4 : d.writes.length = d.net.trans.length
 rotate_left
 ·have HR : Hid (dvalidB d = false) := by show _ = _; rw [HD.out, decide_eq_false c4]; simp
  have c3' : ((d.guards.length : Int) != d.net.trans.length) = false := by simp only [bne_eq_false_iff_eq]; omega
  have c4' : ((d.writes.length : Int) != d.net.trans.length) = true := by simp only [bne_iff_ne, ne_eq]; omega
  clear c3 c4
  go_wp2_with fail
  go_ret
  exact ⟨ret_bool HR.out.symm, hbw3⟩
 have HR : Hid (dvalidB d = ((d.guards.all fun x => typedB d.vars x 1) && d.writes.all (wrsB d.vars (-1)))) := by show _ = _; rw [HD.out, decide_eq_true c3, decide_eq_true c4]; simp
 have c3' : ((d.guards.length : Int) != d.net.trans.length) = false := by simp only [bne_eq_false_iff_eq]; omega
 have c4' : ((d.writes.length : Int) != d.net.trans.length) = false := by simp only [bne_eq_false_iff_eq]; omega
 clear HD c3 c4
 have eg : ∀ a W, (callFunc 80 (#[a] ++ #[.pointer (some ⟨w.heap.size, 0, none⟩)])).run Tryz.prog W = .ok (.enter 80 (#[a] ++ #[.pointer (some ⟨w.heap.size, 0, none⟩)])) W := fun a W => enters_of Tryz.func80 (by kernel_rfl) rfl _ W
 have HC := Lib.hid (containsFuncE 80 #[.pointer (some ⟨w.heap.size, 0, none⟩)] n eg _ d.guards (fun y => !typedB d.vars y 1) w3 hg3 (fun y v W _ hy hW => dvalid1_any (n - 1) d.vars y v _ _ _ _ _ _ _ _ _ W (hB3.now hW) (hx3.now hW) hy hl))
 rw [drop_any_typed] at HC
 clear eg hg3
 generalize hga : (d.guards.all fun y => typedB d.vars y 1) = ga at *
 clear hga
 go_upto_region 3 with fail
 go_wp2_with fail
 (go_at_call 79; refine HC.out.mono ?_)
 rintro e w4 ⟨rfl, hb4⟩
 have hbw4 := bthen hbw3 hb4
 have hB4 := hB3.now hb4
 have hx4 := hx3.now hb4
 have hw4 := SlWW.now hw3 hb4
 clear q0 q1 q2 q3 q4 q5 q6 q7 hB3 hx3 hw3 hb4 HC
 obtain ⟨q0, q1, q2, q3, q4, q5, q6, q7⟩ := hB4.c8
 cases ga
 ·go_wp2_with fail
  go_ret
  exact ⟨ret_bool (by rw [HR.out]; rfl), hbw4⟩
 have HR2 : Hid (dvalidB d = d.writes.all (wrsB d.vars (-1))) := by show _ = _; rw [HR.out, Bool.true_and]
 clear HR
 go_wp2_with fail
 go_loopw [47] (fun i wr => ∃ k : Nat, k ≤ d.writes.length ∧ i = .int .i64 k ∧ (∀ q y, q < k → d.writes[q]? = some y → wrsB d.vars (-1) y = true) ∧ Below w.heap.size w wr ∧ Below w4.heap.size w4 wr) (fun i _ => d.writes.length - (intOf i).toNat)
 case atStart => exact ⟨0, Nat.zero_le _, rfl, fun q y hq _ => absurd hq (by omega), hbw4, Below.refl _ _⟩
 case round =>
  obtain ⟨k, hk, rfl, hall, hbr, hbr4⟩ := hrel
  have HA := Lib.hid hall
  clear hall
  by_cases hlt : k < d.writes.length
  rotate_left
  ·obtain rfl : k = d.writes.length := by omega
   have HRR : Hid (dvalidB d = true) := by show _ = _; rw [HR2.out]; exact rows_all HA.out
   go_wp2_with fail
   go_ret
   exact ⟨ret_bool HRR.out.symm, hbr⟩
  obtain ⟨bA, oA, l, lv, rfl, hD, hlx, hsl, hcell⟩ := (SlWW.now hw4 hbr4).at_ hlt
  have HLX := Lib.hid hlx
  clear hlx
  obtain ⟨A2, c2, rfl, m1, m2, hsl⟩ := Sl.open_ hsl
  have hB5 := hB4.now hbr4
  have hx5 := hx4.now hbr4
  have hsl5 : SlW n (Lt wr.heap.size) wr (.slice A2 l.length c2) l := hsl
  clear hsl hB4 hx4 hw4 q0 q1 q2 q3 q4 q5 q6 q7
  obtain ⟨q0, q1, q2, q3, q4, q5, q6, q7⟩ := hB5.c8
  go_upto_region 10 with fail
  obtain ⟨w5, hw5⟩ : ∃ x, x = wr := ⟨_, rfl⟩
  subst hw5
  go_loopw [5, 53] (fun a j W => ∃ (m : Nat) (z : Int), m ≤ l.length ∧ j = .int .i64 m ∧ a = .int .i64 z ∧ -1 ≤ z ∧ z < 1000001 ∧ wrsB d.vars (-1) l = wrsB d.vars z (l.drop m) ∧ Below w.heap.size w W ∧ Below w5.heap.size w5 W) (fun _ j _ => l.length - (intOf j).toNat)
  case atStart => exact ⟨0, -1, Nat.zero_le _, rfl, rfl, by omega, by omega, rfl, hbr, Below.refl _ _⟩
  case round =>
   obtain ⟨m, z, hm, rfl, rfl, z1, z2, hz, hbw5, hb5⟩ := hrel
   have HZ := Lib.hid hz
   clear hz
   have hB6 := hB5.now hb5
   by_cases hltm : m < l.length
   rotate_left
   ·have HRR : Hid (wrsB d.vars (-1) l = true) := by show _ = _; rw [HZ.out, List.drop_eq_nil_of_le (by omega), wrsB_nil]
    obtain ⟨q0, q1, q2, q3, q4, q5, q6, q7⟩ := hB6.c8
    go_wp2_with fail
    go_roundw
    case rel => exact ⟨k + 1, by omega, by go_num, fun q y hq hy => by
     by_cases e : q = k
     ·subst e; have := HLX.out; rw [this] at hy; injection hy with hy; rw [← hy]; exact HRR.out
     ·exact HA.out q y (by omega) hy, hbw5, hbr4.trans (hb5.mono hbr4.size)⟩
    case measure => simp [intOf]; omega
   obtain ⟨b2, o2, ⟨yv, yx⟩, lv2, rfl, hD2, hy, hfv, hex, e0, e1, e2, e3, e4, e5, e6⟩ := (SlW.now hsl5 hb5).at_ hltm
   have HX := Lib.hid (wrsB_drop (vs := d.vars) hy z)
   clear hy
   dsimp only at HX hfv hex e0 e1 e2 e3 e4 e5 e6
   obtain ⟨A3, c3, rfl⟩ := hex.slice_
   have hb6 := bone wr (.cells #[.int .i64 yv, .int .i64 yx.op, .int .i64 yx.v.kind, .int .i64 yx.v.n, .string yx.v.s, .string yx.s, .slice A3 yx.l.length c3] 124)
   have hY := Blk.new wr 124 #[.int .i64 yv, .int .i64 yx.op, .int .i64 yx.v.kind, .int .i64 yx.v.n, .string yx.v.s, .string yx.s, .slice A3 yx.l.length c3]
   have hB7 := hB6.now hb6
   have hex7 := hex.now hb6
   have hx7 := (hx5.now hb5).now hb6
   clear hex hB6
   go_upto_region 12 with fail
   have hbw7 := bthen hbw5 hb6
   have hb57 := bthen hb5 hb6
   generalize hw7 : wr.alloc (.cells #[.int .i64 yv, .int .i64 yx.op, .int .i64 yx.v.kind, .int .i64 yx.v.n, .string yx.v.s, .string yx.s, .slice A3 yx.l.length c3] 124) = w7 at *
   clear hw7 e0 e1 e2 e3 e4 e5 e6 hb6
   obtain ⟨q0, q1, q2, q3, q4, q5, q6, q7⟩ := hB7.c8
   obtain ⟨y0, y1, y2, y3, y4, y5, y6⟩ := hY.c7
   by_cases c1 : yv ≤ z
   ·have HRR : Hid (wrsB d.vars (-1) l = false) := by show _ = _; rw [HZ.out, HX.out, decide_eq_false (by omega)]; rfl
    have HRD : Hid (dvalidB d = false) := by show _ = _; rw [HR2.out, rows_bad HLX.out HRR.out]
    have c1' : decide (yv ≤ z) = true := decide_eq_true c1
    clear c1
    go_quiet (fail)
    all_goals
     go_wp2_with fail
     go_ret
     exact ⟨ret_bool HRD.out.symm, below_drewQ hbw7 _⟩
   by_cases c2 : (d.vars.length : Int) ≤ yv
   ·have HRR : Hid (wrsB d.vars (-1) l = false) := by show _ = _; rw [HZ.out, HX.out, decide_eq_true (show z < yv by omega), decide_eq_false (by omega)]; rfl
    have HRD : Hid (dvalidB d = false) := by show _ = _; rw [HR2.out, rows_bad HLX.out HRR.out]
    have c1' : decide (yv ≤ z) = false := decide_eq_false c1
    have c2' : decide ((d.vars.length : Int) ≤ yv) = true := decide_eq_true c2
    clear c1 c2
    go_quiet (fail)
    all_goals
     go_wp2_with fail
     go_ret
     exact ⟨ret_bool HRD.out.symm, below_drewQ hbw7 _⟩
   obtain ⟨t, rfl⟩ := Int.eq_ofNat_of_zero_le (show 0 ≤ yv by omega)
   have hlt2 : t < d.vars.length := by omega
   obtain ⟨b4, o4, xv, iv4, rfl, hD4, hxv, hvar, _, k0, k1, k2, k3, k4⟩ := hx7.at_ hlt2
   have HKA := Lib.hid (kindAt_at hxv)
   have c1' : ¬ (t : Int) ≤ z := c1
   have c2' : ¬ (d.vars.length : Int) ≤ (t : Int) := c2
   have HCL : Hid (∀ W, Below w7.heap.size w7 W → Calls Tryz.prog 81 #[.slice (some ⟨b4, o4, none⟩) d.vars.length cx, .agg #[.int .i64 yx.op, .int .i64 yx.v.kind, .int .i64 yx.v.n, .string yx.v.s, .string yx.s, .slice A3 yx.l.length c3], .int .i64 xv.kind] W fun e w' => e = .returned (.bool (typedB d.vars yx xv.kind)) ∧ Below w7.heap.size w7 w') :=
    fun W hW => (dtyped_any n d.vars yx xv.kind _ _ W (hx7.now hW) (hex7.now hW) hl).mono fun e w' ⟨he, hb⟩ => ⟨he, bthen hW hb⟩
   have HS : Hid (∀ W, Below w7.heap.size w7 W → (W.cell? ⟨w.heap.size, 4, none⟩ = some (.slice (some ⟨b4, o4, none⟩) d.vars.length cx)) ∧ W.cell? ⟨b4, o4 + t * 5 + 1, none⟩ = some (.int .i64 xv.kind) ∧ W.cell? ⟨wr.heap.size, 0, none⟩ = some (.int .i64 t) ∧ W.cell? ⟨wr.heap.size, 1, none⟩ = some (.int .i64 yx.op) ∧ W.cell? ⟨wr.heap.size, 2, none⟩ = some (.int .i64 yx.v.kind) ∧ W.cell? ⟨wr.heap.size, 3, none⟩ = some (.int .i64 yx.v.n) ∧ W.cell? ⟨wr.heap.size, 4, none⟩ = some (.string yx.v.s) ∧ W.cell? ⟨wr.heap.size, 5, none⟩ = some (.string yx.s) ∧ W.cell? ⟨wr.heap.size, 6, none⟩ = some (.slice A3 yx.l.length c3)) := fun W hW => ⟨(hB7.now hW).c8.2.2.2.2.1, (hW.cell (p := ⟨b4, o4 + t * 5 + 1, none⟩) hD4).trans k1, (hY.now hW).c7⟩
   have hbd : Below w7.heap.size w7 w7.drew := (Below.refl _ _).drew
   clear k0 k1 k2 k3 k4 q0 q1 q2 q3 q4 q5 q6 q7 y0 y1 y2 y3 y4 y5 y6 hvar
   generalize hty : typedB d.vars yx xv.kind = ty at *
   have HTY := Lib.hid hty
   clear hty c1 c2
   obtain ⟨a0, a1, d0, d1, d2, d3, d4, d5, d6⟩ := HS.out _ hbd
   go_region_held3 (fun W => (W.cell? ⟨w.heap.size, 4, none⟩ = some (.slice (some ⟨b4, o4, none⟩) d.vars.length cx)) ∧ W.cell? ⟨b4, o4 + t * 5 + 1, none⟩ = some (.int .i64 xv.kind) ∧ W.cell? ⟨wr.heap.size, 0, none⟩ = some (.int .i64 t) ∧ W.cell? ⟨wr.heap.size, 1, none⟩ = some (.int .i64 yx.op) ∧ W.cell? ⟨wr.heap.size, 2, none⟩ = some (.int .i64 yx.v.kind) ∧ W.cell? ⟨wr.heap.size, 3, none⟩ = some (.int .i64 yx.v.n) ∧ W.cell? ⟨wr.heap.size, 4, none⟩ = some (.string yx.v.s) ∧ W.cell? ⟨wr.heap.size, 5, none⟩ = some (.string yx.s) ∧ W.cell? ⟨wr.heap.size, 6, none⟩ = some (.slice A3 yx.l.length c3)) (exact HS.out _ (by assumption))
    (first | (go_at_call 81; (with_reducible refine (HCL.out _ (by assumption)).mono ?_); rintro e w11 ⟨rfl, hb11⟩))
   all_goals
    have hY11 := hY.now hb11
    have hbw11 := bthen hbw7 hb11
    have hb511 := bthen hb57 hb11
    clear a0 a1 d0 d1 d2 d3 d4 d5 d6 HS HCL hY hB7
    obtain ⟨y0, y1, y2, y3, y4, y5, y6⟩ := hY11.c7
    cases ty
    ·have HRR : Hid (wrsB d.vars (-1) l = false) := by show _ = _; rw [HZ.out, HX.out, HKA.out, HTY.out]; simp
     have HRD : Hid (dvalidB d = false) := by show _ = _; rw [HR2.out, rows_bad HLX.out HRR.out]
     go_wp2_with fail
     go_ret
     exact ⟨ret_bool HRD.out.symm, hbw11⟩
    ·have HRR : Hid (wrsB d.vars (-1) l = wrsB d.vars t (l.drop (m + 1))) := by show _ = _; rw [HZ.out, HX.out, HKA.out, HTY.out, decide_eq_true (show z < (t : Int) by omega), decide_eq_true (show (t : Int) < d.vars.length by omega)]; rfl
     go_wp2_with fail
     go_roundw
     case rel => exact ⟨m + 1, t, by omega, by go_num, rfl, by omega, by omega, HRR.out, hbw11, hb511⟩
     case measure => simp [intOf]; omega
theorem enE_code (n : Net) (m : List Int) : (enE n m).2 = if validB n && markingB n.places m then 0 else 1 := by
 unfold enE
 cases validB n && markingB n.places m <;> rfl
theorem IsSt.open_ {D : Nat → Prop} {w : World} {u : Value} {s : St} (h : IsSt D w u s) : ∃ Am cm Av cv, u = .agg #[.slice Am s.marks.length cm, .slice Av s.vals.length cv] ∧ SlI D w (.slice Am s.marks.length cm) s.marks ∧ SlV D w (.slice Av s.vals.length cv) s.vals ∧
  (s.marks.length ≤ cm ∧ cm ≤ 9223372036854775807) ∧ s.vals.length ≤ cv ∧ cv ≤ 9223372036854775807 := by
 obtain ⟨mv, vv, rfl, h1, h2⟩ := h
 obtain ⟨Am, cm, rfl, t1, t2, h1⟩ := Sl.open_ h1
 obtain ⟨Av, cv, rfl, t3, t4, h2⟩ := Sl.open_ h2
 exact ⟨Am, cm, Av, cv, rfl, h1, h2, ⟨t1, t2⟩, t3, t4⟩
set_option maxHeartbeats 4000000 in
set_option maxRecDepth 100000 in
theorem dstate_any (n : Nat) (d : DNet) (s : St) (u us : Value) (w : World) (h : IsDn n (Lt w.heap.size) w u d) (hs : IsSt (Lt w.heap.size) w us s) (hl : d.vars.length ≤ 1000000) :
  Calls Tryz.prog 87 #[u, us] w fun e w' => e = .returned (.bool (stateB d s)) ∧ Below w.heap.size w w' := by
 obtain ⟨At, ct, Ax, cx, iv, Ag, cg, Aw, cw, rfl, h1, h2, h3, h4, h5, ⟨t1, t2⟩, ⟨x1, x2⟩, ⟨g1, g2⟩, v1, v2⟩ := h.open_
 obtain ⟨Am, cm, Av, cv, rfl, s1, s2, ⟨t3, t4⟩, t5, t6⟩ := hs.open_
 clear h hs h3 h4 h5
 have hb0 := bone w (.cells #[.int .i64 d.net.places, .slice At d.net.trans.length ct, .int .i64 d.net.source, .int .i64 d.net.sink, .slice Ax d.vars.length cx, iv, .slice Ag d.guards.length cg, .slice Aw d.writes.length cw] 30)
 have hb := bbox hb0 (.cells #[.slice Am s.marks.length cm, .slice Av s.vals.length cv] 33)
 have hB := (Blk.new w 30 #[.int .i64 d.net.places, .slice At d.net.trans.length ct, .int .i64 d.net.source, .int .i64 d.net.sink, .slice Ax d.vars.length cx, iv, .slice Ag d.guards.length cg, .slice Aw d.writes.length cw]).alloc (.cells #[.slice Am s.marks.length cm, .slice Av s.vals.length cv] 33)
 have hC := Blk.new_at (t := 33) (cs := #[.slice Am s.marks.length cm, .slice Av s.vals.length cv]) (w := w.alloc (.cells #[.int .i64 d.net.places, .slice At d.net.trans.length ct, .int .i64 d.net.source, .int .i64 d.net.sink, .slice Ax d.vars.length cx, iv, .slice Ag d.guards.length cg, .slice Aw d.writes.length cw] 30)) (s := w.heap.size + 1) (by simp)
 have hn1 := h1.now hb
 have hx1 := h2.now hb
 have hm1 := s1.now hb
 have hv1 := s2.now hb
 clear h1 h2 s1 s2 hb0
 have HD : Hid (stateB d s = (validB d.net && markingB d.net.places s.marks && asgB d.vars s.vals)) := rfl
 have HE := Lib.hid (enE_code d.net s.marks)
 go_enter Tryz.func87, Tryz.ntmps87
 go_upto_region 1 with fail
 generalize hw1e : (w.alloc (.cells #[.int .i64 d.net.places, .slice At d.net.trans.length ct, .int .i64 d.net.source, .int .i64 d.net.sink, .slice Ax d.vars.length cx, iv, .slice Ag d.guards.length cg, .slice Aw d.writes.length cw] 30)).alloc (.cells #[.slice Am s.marks.length cm, .slice Av s.vals.length cv] 33) = w1 at *
 clear hw1e
 obtain ⟨q0, q1, q2, q3, q4, q5, q6, q7⟩ := hB.c8
 obtain ⟨y0, y1⟩ := hC.c2
 go_wp2_with fail
 refine (enabledX_any d.net _ _ s.marks _ hn1 hm1).mono ?_
 rintro e w2 ⟨rv, rfl, _, hb2⟩
 have hbw2 := bthen hb hb2
 have hB2 := hB.now hb2
 have hC2 := hC.now hb2
 have hx2 := hx1.now hb2
 have hv2 := hv1.now hb2
 clear q0 q1 q2 q3 q4 q5 q6 q7 y0 y1 hB hC hn1 hx1 hm1 hv1 hb2
 obtain ⟨q0, q1, q2, q3, q4, q5, q6, q7⟩ := hB2.c8
 obtain ⟨y0, y1⟩ := hC2.c2
 generalize hq : (validB d.net && markingB d.net.places s.marks) = q at *
 clear hq
 generalize enE d.net s.marks = z at *
 obtain ⟨z1, z2⟩ := z
 dsimp only at *
 cases q
 ·obtain rfl : z2 = 1 := HE.out
  have HR : Hid (stateB d s = false) := by show _ = _; rw [HD.out]; rfl
  go_wp2_with fail
  go_ret
  exact ⟨ret_bool HR.out.symm, hbw2⟩
 ·obtain rfl : z2 = 0 := HE.out
  have HR : Hid (stateB d s = asgB d.vars s.vals) := by show _ = _; rw [HD.out]; rfl
  go_wp2_with fail
  refine (dassigned_any d.vars s.vals _ _ _ hx2 hv2 hl).mono ?_
  rintro e w3 ⟨rfl, hb3⟩
  go_wp2_with fail
  go_ret
  exact ⟨ret_bool HR.out.symm, bthen hbw2 hb3⟩
set_option maxHeartbeats 4000000 in
set_option maxRecDepth 100000 in
theorem dvstate_any (n : Nat) (d : DNet) (s : St) (u us : Value) (w : World) (h : IsDn n (Lt w.heap.size) w u d) (hs : IsSt (Lt w.heap.size) w us s) (hl : d.vars.length ≤ 1000000) :
  Calls Tryz.prog 41 #[u, us] w fun e w' => e = .returned (.bool (vstateB d s)) ∧ Below w.heap.size w w' := by
 have h0 := h
 have hs0 := hs
 obtain ⟨At, ct, Ax, cx, iv, Ag, cg, Aw, cw, rfl, _, _, _, _, _, ⟨t1, t2⟩, ⟨x1, x2⟩, ⟨g1, g2⟩, v1, v2⟩ := h.open_
 obtain ⟨Am, cm, Av, cv, rfl, _, _, ⟨t3, t4⟩, t5, t6⟩ := hs.open_
 clear h hs
 have hb0 := bone w (.cells #[.int .i64 d.net.places, .slice At d.net.trans.length ct, .int .i64 d.net.source, .int .i64 d.net.sink, .slice Ax d.vars.length cx, iv, .slice Ag d.guards.length cg, .slice Aw d.writes.length cw] 30)
 have hb := bbox hb0 (.cells #[.slice Am s.marks.length cm, .slice Av s.vals.length cv] 33)
 have hB := (Blk.new w 30 #[.int .i64 d.net.places, .slice At d.net.trans.length ct, .int .i64 d.net.source, .int .i64 d.net.sink, .slice Ax d.vars.length cx, iv, .slice Ag d.guards.length cg, .slice Aw d.writes.length cw]).alloc (.cells #[.slice Am s.marks.length cm, .slice Av s.vals.length cv] 33)
 have hC := Blk.new_at (t := 33) (cs := #[.slice Am s.marks.length cm, .slice Av s.vals.length cv]) (w := w.alloc (.cells #[.int .i64 d.net.places, .slice At d.net.trans.length ct, .int .i64 d.net.source, .int .i64 d.net.sink, .slice Ax d.vars.length cx, iv, .slice Ag d.guards.length cg, .slice Aw d.writes.length cw] 30)) (s := w.heap.size + 1) (by simp)
 have hn1 := h0.now hb
 have hs1 := hs0.now hb
 clear h0 hs0 hb0
 have HD : Hid (vstateB d s = (dvalidB d && stateB d s)) := rfl
 go_enter Tryz.func41, Tryz.ntmps41
 go_upto_region 1 with fail
 generalize hw1e : (w.alloc (.cells #[.int .i64 d.net.places, .slice At d.net.trans.length ct, .int .i64 d.net.source, .int .i64 d.net.sink, .slice Ax d.vars.length cx, iv, .slice Ag d.guards.length cg, .slice Aw d.writes.length cw] 30)).alloc (.cells #[.slice Am s.marks.length cm, .slice Av s.vals.length cv] 33) = w1 at *
 clear hw1e
 obtain ⟨q0, q1, q2, q3, q4, q5, q6, q7⟩ := hB.c8
 obtain ⟨y0, y1⟩ := hC.c2
 go_wp2_with fail
 refine (dvalid_any n d _ _ hn1 hl).mono ?_
 rintro e w2 ⟨rfl, hb2⟩
 have hbw2 := bthen hb hb2
 have hB2 := hB.now hb2
 have hC2 := hC.now hb2
 have hn2 := hn1.now hb2
 have hs2 := hs1.now hb2
 clear q0 q1 q2 q3 q4 q5 q6 q7 y0 y1 hB hC hn1 hs1 hb2
 obtain ⟨q0, q1, q2, q3, q4, q5, q6, q7⟩ := hB2.c8
 obtain ⟨y0, y1⟩ := hC2.c2
 generalize dvalidB d = q at *
 cases q
 ·have HR : Hid (vstateB d s = false) := HD.out
  go_wp2_with fail
  go_ret
  exact ⟨ret_bool HR.out.symm, hbw2⟩
 ·have HR : Hid (vstateB d s = stateB d s) := HD.out
  go_wp2_with fail
  refine (dstate_any n d s _ _ _ hn2 hs2 hl).mono ?_
  rintro e w3 ⟨rfl, hb3⟩
  go_wp2_with fail
  go_ret
  exact ⟨ret_bool HR.out.symm, bthen hbw2 hb3⟩
theorem Blk.set2 {w : World} {g : Nat} {t : TypeId} {a b : Value} (h : Blk w g t #[a, b]) (x y : Value) :
  Blk ((w.setCell ⟨g, 0, none⟩ x).setCell ⟨g, 1, none⟩ y) g t #[x, y] := by
 have := (h.set_ 0 x).set_ 1 y
 exact this
theorem bset2 {w w1 : World} {g : Nat} (h : Below w.heap.size w w1) (hg : w.heap.size ≤ g) (x y : Value) :
  Below w.heap.size w ((w1.setCell ⟨g, 0, none⟩ x).setCell ⟨g, 1, none⟩ y) :=
 (h.setCell (p := ⟨g, 0, none⟩) hg x).setCell (p := ⟨g, 1, none⟩) hg y
def RetSt (s : St) (c : Int) (w : World) (e : Ending) (w' : World) : Prop := ∃ u, e = .returned (.tuple #[u, .int .i64 c]) ∧ IsSt (Lt w'.heap.size) w' u s ∧ Below w.heap.size w w'
def dinitE (d : DNet) : St × Int := if dvalidB d then (⟨oneB d.net d.net.source, d.init⟩, 0) else (noSt, 1)
theorem noSt_is (D : Nat → Prop) (w : World) : IsSt D w (.agg #[.slice none 0 0, .slice none 0 0]) noSt := ⟨_, _, rfl, Sl.none_, Sl.none_⟩
theorem dvalid_parts {d : DNet} (h : dvalidB d = true) : validB d.net = true ∧ asgB d.vars d.init = true ∧ d.guards.length = d.net.trans.length ∧ d.writes.length = d.net.trans.length ∧ (d.guards.all fun x => typedB d.vars x 1) = true ∧ d.writes.all (wrsB d.vars (-1)) = true := by
 unfold dvalidB at h
 simp only [Bool.and_eq_true, decide_eq_true_eq] at h
 obtain ⟨⟨⟨⟨⟨a, b⟩, c⟩, e⟩, f⟩, g⟩ := h
 exact ⟨a, b, c, e, f, g⟩
theorem asg_len {vs : List Var} {vals : List Val} (h : asgB vs vals = true) : vals.length = vs.length := by
 unfold asgB inAllE at h
 by_cases ho : okB vs vals = true
 ·rw [if_pos ho] at h
  by_cases hl : vals.length = vs.length
  ·exact hl
  ·rw [assigned_len hl] at h; simp at h
 ·rw [if_neg ho] at h; simp at h
theorem Sl.past {α : Type} {size : Nat} {R : ElemR α} {D : Nat → Prop} {w : World} {v : Value} {xs : List α} {g : Nat} {t : TypeId} {a b : Option Addr} {i j k l : Nat}
  (hR : ∀ D D' w x cs, R D w x cs → R D' w x cs) (hI : ∀ D w x cs, R D w x cs → ∃ z, cs[0]? = some (.int .i64 z)) (h : Sl size R D w v xs) (hg : Blk w g t #[.slice a i j, .slice b k l]) : Sl size R (fun b => D b ∧ b ≠ g) w v xs := by
 obtain ⟨A, c, hv, h1, h2, h3⟩ := h
 refine ⟨A, c, hv, h1, h2, fun q x hx => ?_⟩
 obtain ⟨b, o, cs, hA, hD, hl, hr, hc⟩ := h3 q x hx
 refine ⟨b, o, cs, hA, ⟨hD, ?_⟩, hl, hR _ _ _ _ _ hr, hc⟩
 rintro rfl
 obtain ⟨z, hz⟩ := hI _ _ _ _ hr
 have h0 := hc 0 _ hz
 rw [hg.cell] at h0
 generalize o + q * size + 0 = m at h0
 match m, h0 with
 | 0, h0 => simp at h0
 | 1, h0 => simp at h0
 | m + 2, h0 => simp at h0
theorem same_set2 {w : World} {D : Nat → Prop} {g : Nat} (x y : Value) : Same (fun b => D b ∧ b ≠ g) w ((w.setCell ⟨g, 0, none⟩ x).setCell ⟨g, 1, none⟩ y) := fun b hb =>
 (Below.heap_setCell (w.setCell ⟨g, 0, none⟩ x) ⟨g, 1, none⟩ y b hb.2).trans (Below.heap_setCell w ⟨g, 0, none⟩ x b hb.2)
theorem lt_set2 {w : World} {g : Nat} (x y : Value) (b : Nat) (h : Lt w.heap.size b ∧ b ≠ g) : Lt ((w.setCell ⟨g, 0, none⟩ x).setCell ⟨g, 1, none⟩ y).heap.size b := by
 have e := same_set2 (w := w) (D := Lt w.heap.size) (g := g) x y b h
 have h1 : b < w.heap.size := h.1
 rw [Array.getElem?_eq_getElem h1] at e
 show b < _
 rcases Nat.lt_or_ge b ((w.setCell ⟨g, 0, none⟩ x).setCell ⟨g, 1, none⟩ y).heap.size with h2 | h2
 ·exact h2
 ·rw [Array.getElem?_eq_none h2] at e; cases e
theorem SlI.set2 {w : World} {g : Nat} {t : TypeId} {v : Value} {xs : List Int} {a b : Option Addr} {i j k l : Nat} (h : SlI (Lt w.heap.size) w v xs) (hg : Blk w g t #[.slice a i j, .slice b k l]) (x y : Value) :
  SlI (Lt ((w.setCell ⟨g, 0, none⟩ x).setCell ⟨g, 1, none⟩ y).heap.size) ((w.setCell ⟨g, 0, none⟩ x).setCell ⟨g, 1, none⟩ y) v xs :=
 Sl.keep (Sl.past (fun _ _ _ _ _ h => h) (fun _ _ z cs h => ⟨z, by rw [h.1]; rfl⟩) h hg) RInt.kept (lt_set2 x y) (same_set2 x y)
theorem SlV.set2 {w : World} {g : Nat} {t : TypeId} {v : Value} {xs : List Val} {a b : Option Addr} {i j k l : Nat} (h : SlV (Lt w.heap.size) w v xs) (hg : Blk w g t #[.slice a i j, .slice b k l]) (x y : Value) :
  SlV (Lt ((w.setCell ⟨g, 0, none⟩ x).setCell ⟨g, 1, none⟩ y).heap.size) ((w.setCell ⟨g, 0, none⟩ x).setCell ⟨g, 1, none⟩ y) v xs :=
 Sl.keep (Sl.past (fun _ _ _ _ _ h => h) (fun _ _ z cs h => ⟨z.kind, by rw [h.1]; rfl⟩) h hg) RVal.kept (lt_set2 x y) (same_set2 x y)
set_option maxHeartbeats 4000000 in
set_option maxRecDepth 100000 in
theorem dinit_any (n : Nat) (d : DNet) (u : Value) (w : World) (h : IsDn n (Lt w.heap.size) w u d) (hl : d.vars.length ≤ 1000000) :
  Calls Tryz.prog 22 #[u] w (RetSt (dinitE d).1 (dinitE d).2 w) := by
 have h0 := h
 obtain ⟨At, ct, Ax, cx, iv, Ag, cg, Aw, cw, rfl, h1, _, h3, _, _, ⟨t1, t2⟩, ⟨x1, x2⟩, ⟨g1, g2⟩, v1, v2⟩ := h.open_
 clear h
 have hb0 := bone w (.cells #[.int .i64 d.net.places, .slice At d.net.trans.length ct, .int .i64 d.net.source, .int .i64 d.net.sink, .slice Ax d.vars.length cx, iv, .slice Ag d.guards.length cg, .slice Aw d.writes.length cw] 30)
 have hb := bbox hb0 (.cells #[.slice none 0 0, .slice none 0 0] 33)
 have hB := (Blk.new w 30 #[.int .i64 d.net.places, .slice At d.net.trans.length ct, .int .i64 d.net.source, .int .i64 d.net.sink, .slice Ax d.vars.length cx, iv, .slice Ag d.guards.length cg, .slice Aw d.writes.length cw]).alloc (.cells #[.slice none 0 0, .slice none 0 0] 33)
 have hC := Blk.new_at (t := 33) (cs := #[.slice none 0 0, .slice none 0 0]) (w := w.alloc (.cells #[.int .i64 d.net.places, .slice At d.net.trans.length ct, .int .i64 d.net.source, .int .i64 d.net.sink, .slice Ax d.vars.length cx, iv, .slice Ag d.guards.length cg, .slice Aw d.writes.length cw] 30)) (s := w.heap.size + 1) (by simp)
 have hd1 := h0.now hb
 have hn1 := h1.now hb
 have hi1 := h3.now hb
 clear h0 h1 h3 hb0
 have HD : Hid (dinitE d = if dvalidB d then (⟨oneB d.net d.net.source, d.init⟩, 0) else (noSt, 1)) := rfl
 go_enter Tryz.func22, Tryz.ntmps22
 go_upto_region 1 with fail
 generalize hw1e : (w.alloc (.cells #[.int .i64 d.net.places, .slice At d.net.trans.length ct, .int .i64 d.net.source, .int .i64 d.net.sink, .slice Ax d.vars.length cx, iv, .slice Ag d.guards.length cg, .slice Aw d.writes.length cw] 30)).alloc (.cells #[.slice none 0 0, .slice none 0 0] 33) = w1 at *
 clear hw1e
 obtain ⟨q0, q1, q2, q3, q4, q5, q6, q7⟩ := hB.c8
 obtain ⟨y0, y1⟩ := hC.c2
 go_wp2_with fail
 refine (dvalid_any n d _ _ hd1 hl).mono ?_
 rintro e w2 ⟨rfl, hb2⟩
 have hbw2 := bthen hb hb2
 have hB2 := hB.now hb2
 have hC2 := hC.now hb2
 have hn2 := hn1.now hb2
 have hi2 := hi1.now hb2
 clear q0 q1 q2 q3 q4 q5 q6 q7 y0 y1 hB hC hn1 hi1 hd1 hb2
 obtain ⟨q0, q1, q2, q3, q4, q5, q6, q7⟩ := hB2.c8
 obtain ⟨y0, y1⟩ := hC2.c2
 cases hq : dvalidB d
 ·have HR : Hid (dinitE d = (noSt, 1)) := by show _ = _; rw [HD.out, hq]; rfl
  clear hq
  have z0 := hC2.frozen 0
  have z1 := hC2.frozen 1
  go_wp2_with fail
  obtain ⟨t0, t1⟩ := (hC2.set2 (.slice none 0 0) (.slice none 0 0)).c2
  refine bodyPost_ret (v := .tuple #[.agg #[.slice none 0 0, .slice none 0 0], .int .i64 1]) (by simp [results, Tryz.results22, go_sem, t0, t1]) rfl ?_
  rw [HR.out]
  exact ⟨_, rfl, noSt_is _ _, bset2 hbw2 (by omega) _ _⟩
 ·obtain ⟨p1, p2, _⟩ := dvalid_parts hq
  have HR : Hid (dinitE d = (⟨oneB d.net d.net.source, d.init⟩, 0)) := by show _ = _; rw [HD.out, hq]; rfl
  have HO : Hid (oneE d.net d.net.source = (oneB d.net d.net.source, 0)) := by show _ = _; unfold oneE; rw [p1]; rfl
  have HL := Lib.hid (asg_len p2)
  clear hq p1 p2
  go_wp2_with fail
  refine (initial_any d.net _ _ hn2).mono ?_
  rintro e w3 ⟨mv, rfl, hm, hb3⟩
  rw [HO.out] at hm ⊢
  dsimp only at hm ⊢
  generalize oneB d.net d.net.source = ms at *
  obtain ⟨Am, cm, rfl, m1, m2, hm⟩ := hm.open_
  have hbw3 := bthen hbw2 hb3
  have hB3 := hB2.now hb3
  have hC3 := hC2.now hb3
  have hi3 := hi2.now hb3
  clear q0 q1 q2 q3 q4 q5 q6 q7 y0 y1 hB2 hC2 hn2 hi2 hb3
  obtain ⟨q0, q1, q2, q3, q4, q5, q6, q7⟩ := hB3.c8
  go_wp2_with fail
  refine (cloneV _ d.init _ hi3 (by have := HL.out; omega)).mono ?_
  rintro e w4 ⟨cv, rfl, hown, hb4⟩
  have hcv := hown.sl hi3.fits
  obtain ⟨Av, kv, rfl, k1, k2, hcv⟩ := hcv.open_
  have hbw4 := bthen hbw3 hb4
  have hC4 := hC3.now hb4
  have hm4 := hm.now hb4
  clear q0 q1 q2 q3 q4 q5 q6 q7 hB3 hC3 hb4 hown hi3 hm
  obtain ⟨y0, y1⟩ := hC4.c2
  have z0 := hC4.frozen 0
  have z1 := hC4.frozen 1
  go_wp2_with fail
  obtain ⟨t0, t1⟩ := (hC4.set2 (.slice Am ms.length cm) (.slice Av d.init.length kv)).c2
  refine bodyPost_ret (v := .tuple #[.agg #[.slice Am ms.length cm, .slice Av d.init.length kv], .int .i64 0]) (by simp [results, Tryz.results22, go_sem, t0, t1]) rfl ?_
  rw [HR.out]
  refine ⟨_, rfl, ⟨_, _, rfl, ?_, ?_⟩, bset2 hbw4 (by omega) _ _⟩
  ·exact SlI.set2 hm4 hC4 _ _
  ·exact SlV.set2 hcv hC4 _ _
section
variable {P : Program} {t e : TypeId} {size base : Nat}
theorem app_lit_run {o : Oper} {a : Act} (hI : AppInfo P t e size) (s x : Operand)
  (ho : o.op = .call { callee := .builtin .append, args := #[s, x], argTypes := #[t, t] }) (w : World) (g : Nat) (hs : a.eval s = .slice (some ⟨g, 0, none⟩) 0 0)
  (A : Option Addr) (m c : Nat) (hx : a.eval x = .slice A m c) (hm : m < 10000000) (news : List Value) (hl : news.length = m * size) (hA : 0 < m → ∃ ad, A = some ad ∧ ∀ j u, news[j]? = some u → w.cell? (ad.add j) = some u) : ∃ v' w', (execOp a.eval o).run P w = .ok (.value v') w' ∧ Below w.heap.size w w' := by
 obtain ⟨i, z, ht, hi, hz, hsz, hby, hzs, hp⟩ := hI
 have key : ∃ v' w', (Builtin.append_ #[t, t] o.type #[.slice (some ⟨g, 0, none⟩) 0 0, .slice A m c]).run P w = .ok v' w' ∧ Below w.heap.size w w' := by
  rcases Nat.eq_zero_or_pos m with h0 | h0
  ·subst h0
   rcases A with _ | ad
   ·exact ⟨_, _, by simp [Builtin.append_, run_underlying ht, sizeOf, typeInfo, hi, Builtin.lenOf, Builtin.firstCells, storeCells]; rfl, Below.refl _ _⟩
   ·exact ⟨_, _, by simp [Builtin.append_, run_underlying ht, sizeOf, typeInfo, hi, Builtin.lenOf, Builtin.firstCells, storeCells, loadCells, loadCellsFrom]; rfl, Below.refl _ _⟩
  ·obtain ⟨ad, rfl, hc⟩ := hA h0
   have hr := run_append_grow (P := P) w t o.type e i z ht hi hz ⟨g, 0, none⟩ 0 0 [] (by simp) (fun j v h => by simp at h) ad m c news (by rw [hsz]; exact hl) hc (by omega) (by omega) (growslice_fits (by omega) (by
    have : (0 + m) * i.bytes ≤ 10000000 * 4096 := Nat.mul_le_mul (by omega) hby
    omega))
   exact ⟨_, _, hr, below_drew_left (bone w.drew _)⟩
 obtain ⟨v', w', hrun, hb⟩ := key
 refine ⟨v', w', ?_, hb⟩
 unfold execOp
 simp only [ho, resolve, invoke, builtin, Sem.run_bind, Sem.run_pure, Result.andThen_ok, List.map_toArray, List.map_cons, List.map_nil, hs, hx, hrun]
theorem wpM_appLit {α : Type} {R : ElemR α} {fc : α → List Value} {D : Nat → Prop} {o : Oper} {a : Act} {K : Act → World → Prop} {Q : Exit → Act → World → Prop} (hI : AppInfo P t e size) (s x : Operand)
  (ho : o.op = .call { callee := .builtin .append, args := #[s, x], argTypes := #[t, t] }) (w : World) (hfc : ∀ x, (fc x).length = size) (g : Nat) (hs : a.eval s = .slice (some ⟨g, 0, none⟩) 0 0)
  (hown : OwnW size fc w base e (.slice (some ⟨g, 0, none⟩) 0 0) []) (u : Value) (ys : List α) (hx : a.eval x = u) (hu : Sl size R D w u ys) (hf : ∀ y c, R D w y c → c = fc y) (h1 : ∀ y, ∀ u ∈ fc y, u.oneCell' = true) (hn : ys.length < 10000000) (hbase : base ≤ w.heap.size)
  (h : ∀ v' w', OwnW size fc w' base e v' ys → Below w.heap.size w w' → K (a.put o.dst v') w') : o.wp P a w K Q := by
 have hrow : 0 < ys.length → ∃ b off A c, u = .slice (some ⟨b, off, none⟩) A c ∧ ∀ j v, (flat fc ys)[j]? = some v → w.cell? ⟨b, off + j, none⟩ = some v := by
  intro h0
  obtain ⟨A', c', hv, _, _, h3⟩ := hu
  obtain ⟨b, off, _, hA, _⟩ := h3 0 ys[0] (List.getElem?_eq_getElem h0)
  refine ⟨b, off, _, _, by rw [hv, hA], fun j u hj => ?_⟩
  have hsz : 0 < size := by obtain ⟨_, _, _, _, _, _, _, _, hp⟩ := hI; exact hp
  obtain ⟨i, r, y, rfl, hr, hy, hfu⟩ := flat_at hfc hsz ys hj
  obtain ⟨b', off', cs, hA', _, _, hR, hcell⟩ := h3 i y hy
  rw [hA] at hA'
  injection hA' with hA'
  injection hA' with e1 e2 _
  subst e1 e2
  rw [hf y cs hR] at hcell
  have := hcell r u hfu
  rwa [Nat.add_assoc] at this
 have hrun : ∃ v' w', (execOp a.eval o).run P w = .ok (.value v') w' ∧ Below w.heap.size w w' := by
  obtain ⟨A, c, rfl, hc1, hc2, hu'⟩ := hu.open_
  refine app_lit_run hI s x ho w g hs A ys.length c hx hn (flat fc ys) (flat_len hfc ys) fun h0 => ?_
  obtain ⟨b, off, A', c', e, hc⟩ := hrow h0
  injection e with e1 e2 e3
  refine ⟨_, e1, fun j v hj => ?_⟩
  have : ((⟨b, off, none⟩ : Addr).add j) = ⟨b, off + j, none⟩ := by unfold Addr.add; by_cases hj : j = 0 <;> simp [hj]
  rw [this]
  exact hc j v hj
 obtain ⟨v', w', hrun, hb⟩ := hrun
 have h2 := wp_appendAllW (Q := Q) (K := fun a' w' => ∃ v', a' = a.put o.dst v' ∧ OwnW size fc w' base e v' ys) hI s x ho w hfc [] _ hs hown u ys hx hu hf h1 (by simpa using hn) hbase fun v' w' h2 _ _ => ⟨v', rfl, h2⟩
 unfold Oper.wp at h2 ⊢
 rw [hrun] at h2 ⊢
 obtain ⟨v2, e2, ho2⟩ := h2
 show K (a.put o.dst v') w'
 rw [e2]
 exact h v2 w' ho2 hb
end
end Go.Proofs.YtlmenhjlgmejkaaGreatDoor
