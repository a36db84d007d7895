/- Merged texts. -/
import Derived.Test.YtlmenhjlgmejkaaGreatDoorPl13
set_option linter.all false
namespace Go.Proofs.YtlmenhjlgmejkaaGreatDoor
open Go.RowKit
section
variable {w : World} {g t : Nat} {a b c d e f h i : Value}
theorem Blk.c7 (hB : Blk w g t #[a, b, c, d, e, f, h]) : w.cell? ⟨g, 0, none⟩ = some a ∧ w.cell? ⟨g, 1, none⟩ = some b ∧ w.cell? ⟨g, 2, none⟩ = some c ∧ w.cell? ⟨g, 3, none⟩ = some d ∧ w.cell? ⟨g, 4, none⟩ = some e ∧ w.cell? ⟨g, 5, none⟩ = some f ∧ w.cell? ⟨g, 6, none⟩ = some h := ⟨hB.cell 0, hB.cell 1, hB.cell 2, hB.cell 3, hB.cell 4, hB.cell 5, hB.cell 6⟩
theorem Blk.c8 (hB : Blk w g t #[a, b, c, d, e, f, h, i]) : w.cell? ⟨g, 0, none⟩ = some a ∧ w.cell? ⟨g, 1, none⟩ = some b ∧ w.cell? ⟨g, 2, none⟩ = some c ∧ w.cell? ⟨g, 3, none⟩ = some d ∧ w.cell? ⟨g, 4, none⟩ = some e ∧ w.cell? ⟨g, 5, none⟩ = some f ∧ w.cell? ⟨g, 6, none⟩ = some h ∧ w.cell? ⟨g, 7, none⟩ = some i := ⟨hB.cell 0, hB.cell 1, hB.cell 2, hB.cell 3, hB.cell 4, hB.cell 5, hB.cell 6, hB.cell 7⟩
end
theorem IsDn.open_ {n : Nat} {D : Nat → Prop} {w : World} {u : Value} {d : DNet} (h : IsDn n D w u d) :
    ∃ At ct Ax cx iv Ag cg Aw cw, u = .agg #[.int .i64 d.net.places, .slice At d.net.trans.length ct, .int .i64 d.net.source, .int .i64 d.net.sink, .slice Ax d.vars.length cx, iv, .slice Ag d.guards.length cg, .slice Aw d.writes.length cw] ∧
      IsNet D w (.agg #[.int .i64 d.net.places, .slice At d.net.trans.length ct, .int .i64 d.net.source, .int .i64 d.net.sink]) d.net ∧ SlX D w (.slice Ax d.vars.length cx) d.vars ∧ SlV D w iv d.init ∧
      SlE n D w (.slice Ag d.guards.length cg) d.guards ∧ SlWW n D w (.slice Aw d.writes.length cw) d.writes ∧
      (d.net.trans.length ≤ ct ∧ ct ≤ 9223372036854775807) ∧ (d.vars.length ≤ cx ∧ cx ≤ 9223372036854775807) ∧ (d.guards.length ≤ cg ∧ cg ≤ 9223372036854775807) ∧ d.writes.length ≤ cw ∧ cw ≤ 9223372036854775807 := by
  obtain ⟨tv, xv, iv, gv, wv, rfl, h1, h2, h3, h4, h5⟩ := h
  obtain ⟨tv', e, f1, f2, f3, ht⟩ := h1
  injection e with e
  have e' := congrArg Array.toList e
  injection e' with _ e'; injection e' with e' _
  subst e'
  obtain ⟨At, ct, rfl, t1, t2, ht⟩ := ht.open_
  obtain ⟨Ax, cx, rfl, x1, x2, h2⟩ := h2.open_
  obtain ⟨Ag, cg, rfl, g1, g2, h4⟩ := Sl.open_ h4
  obtain ⟨Aw, cw, rfl, w1, w2, h5⟩ := Sl.open_ h5
  exact ⟨At, ct, Ax, cx, iv, Ag, cg, Aw, cw, rfl, ⟨_, rfl, f1, f2, f3, ht⟩, h2, h3, h4, h5, ⟨t1, t2⟩, ⟨x1, x2⟩, ⟨g1, g2⟩, w1, w2⟩
theorem IsEx.slice_ {n : Nat} {D : Nat → Prop} {w : World} {a b c e f lv : Value} {x : Ex} (h : IsEx n D w (.agg #[a, b, c, e, f, lv]) x) : ∃ A k, lv = .slice A x.l.length k := by
  obtain ⟨lv', e', _, _, _, h4⟩ := h
  injection e' with e'
  have e2 := congrArg Array.toList e'
  injection e2 with _ e2; injection e2 with _ e2; injection e2 with _ e2; injection e2 with _ e2; injection e2 with _ e2; injection e2 with e2 _
  subst e2
  obtain ⟨A, k, h, _⟩ := Sl.open_ h4
  exact ⟨A, k, h⟩
theorem below_drewQ {B : Nat} {a w : World} (h : Below B a w) (k : Nat) : Below B a (w.drewN k) := ⟨h.os, h.tape, h.output, h.size, h.block⟩
theorem kindAt_at {vs : List Var} {t : Nat} {x : Var} (h : vs[t]? = some x) : kindAt vs (t : Int) = x.kind := by
  unfold kindAt; rw [Int.toNat_natCast, h]; rfl
theorem wrsB_nil (vs : List Var) (a : Int) : wrsB vs a [] = true := rfl
theorem wrsB_drop {vs : List Var} {l : List Wr} {k : Nat} {y : Wr} (hx : l[k]? = some y) (a : Int) :
    wrsB vs a (l.drop k) = (decide (a < y.var) && decide (y.var < vs.length) && typedB vs y.x (kindAt vs y.var) && wrsB vs y.var (l.drop (k + 1))) := by
  have hk : k < l.length := by
    rcases Nat.lt_or_ge k l.length with h | h
    · exact h
    · rw [List.getElem?_eq_none h] at hx; cases hx
  rw [List.getElem?_eq_getElem hk] at hx
  injection hx with hx
  rw [List.drop_eq_getElem_cons hk, hx, wrsB]
theorem rows_all {p : List Wr → Bool} {ls : List (List Wr)} (h : ∀ q y, q < ls.length → ls[q]? = some y → p y = true) : ls.all p = true := by
  rw [List.all_eq_true]
  intro y hy
  obtain ⟨q, hq⟩ := List.mem_iff_getElem?.1 hy
  have hl : q < ls.length := by
    rcases Nat.lt_or_ge q ls.length with h' | h'
    · exact h'
    · rw [List.getElem?_eq_none h'] at hq; cases hq
  exact h q y hl hq
theorem rows_bad {p : List Wr → Bool} {ls : List (List Wr)} {q : Nat} {y : List Wr} (h : ls[q]? = some y) (hp : p y = false) : ls.all p = false := by
  rw [Bool.eq_false_iff]
  intro ha
  rw [List.all_eq_true] at ha
  have := ha y (List.mem_of_getElem? h)
  rw [hp] at this
  cases this
theorem drop_any_typed (vs : List Var) (l : List Ex) : (l.any fun y => !typedB vs y 1) = !(l.all fun y => typedB vs y 1) := by
  induction l with
  | nil => rfl
  | cons a m ih => simp [List.any_cons, List.all_cons, ih]
set_option maxHeartbeats 1000000 in
theorem dvalid1_any (n : Nat) (vs : List Var) (x : Ex) (u pv tv sv kv xv iv gv wv : Value) (g : Nat) (w : World) (hB : Blk w g 30 #[pv, tv, sv, kv, xv, iv, gv, wv]) (hv : SlX (Lt w.heap.size) w xv vs) (h : IsEx n (Lt w.heap.size) w u x) (hl : vs.length ≤ 1000000) :
    Calls Tryz.prog 80 #[u, .pointer (some ⟨g, 0, none⟩)] w fun e w' => e = .returned (.bool (!typedB vs x 1)) ∧ Below w.heap.size w w' := by
  have h0 := h
  obtain ⟨lv, rfl, h1, h2, h3, h4⟩ := h
  have hb := bone w (.cells #[.int .i64 x.op, .int .i64 x.v.kind, .int .i64 x.v.n, .string x.v.s, .string x.s, lv] 65)
  have hB1 := hB.now hb
  have HC := Lib.hid (dtyped_any n vs x 1 _ _ _ (hv.now hb) (h0.now hb) hl)
  clear h0 hv h4
  obtain ⟨q0, q1, q2, q3, q4, q5, q6, q7⟩ := hB1.c8
  generalize typedB vs x 1 = z at *
  go_enter Tryz.func80, Tryz.ntmps80
  go_wp2_with fail
  refine HC.out.mono ?_
  rintro e w1 ⟨rfl, hb1⟩
  go_wp2_with fail
  go_ret
  exact ⟨rfl, bthen hb hb1⟩
set_option maxHeartbeats 8000000 in
set_option maxRecDepth 100000 in
theorem dvalid_any (n : Nat) (d : DNet) (u : Value) (w : World) (h : IsDn n (Lt w.heap.size) w u d) (hl : d.vars.length ≤ 1000000) :
    Calls Tryz.prog 28 #[u] w fun e w' => e = .returned (.bool (dvalidB d)) ∧ Below w.heap.size w w' := by
  obtain ⟨At, ct, Ax, cx, iv, Ag, cg, Aw, cw, rfl, h1, h2, h3, h4, h5, ⟨t1, t2⟩, ⟨x1, x2⟩, ⟨g1, g2⟩, v1, v2⟩ := h.open_
  clear h
  have hb := bone w (.cells #[.int .i64 d.net.places, .slice At d.net.trans.length ct, .int .i64 d.net.source, .int .i64 d.net.sink, .slice Ax d.vars.length cx, iv, .slice Ag d.guards.length cg, .slice Aw d.writes.length cw] 30)
  have hB := Blk.new w 30 #[.int .i64 d.net.places, .slice At d.net.trans.length ct, .int .i64 d.net.source, .int .i64 d.net.sink, .slice Ax d.vars.length cx, iv, .slice Ag d.guards.length cg, .slice Aw d.writes.length cw]
  have hn1 := h1.now hb
  have hx1 := h2.now hb
  have hi1 := h3.now hb
  have hg1 := SlE.now h4 hb
  have hw1 := SlWW.now h5 hb
  clear h1 h2 h3 h4 h5
  have HD : Hid (dvalidB d = (validB d.net && asgB d.vars d.init && decide (d.guards.length = d.net.trans.length) && decide (d.writes.length = d.net.trans.length) &&
    (d.guards.all fun x => typedB d.vars x 1) && d.writes.all (wrsB d.vars (-1)))) := rfl
  go_enter Tryz.func28, Tryz.ntmps28
  go_upto_region 1 with fail
  generalize hw1e : w.alloc (.cells #[.int .i64 d.net.places, .slice At d.net.trans.length ct, .int .i64 d.net.source, .int .i64 d.net.sink, .slice Ax d.vars.length cx, iv, .slice Ag d.guards.length cg, .slice Aw d.writes.length cw] 30) = w1 at *
  clear hw1e
  obtain ⟨q0, q1, q2, q3, q4, q5, q6, q7⟩ := hB.c8
  go_wp2_with fail
  refine (valid_any d.net _ _ hn1).mono ?_
  rintro e w2 ⟨rfl, hb2⟩
  have hbw2 := bthen hb hb2
  have hB2 := hB.now hb2
  have hx2 := hx1.now hb2
  have hi2 := hi1.now hb2
  have hg2 := SlE.now hg1 hb2
  have hw2 := SlWW.now hw1 hb2
  clear q0 q1 q2 q3 q4 q5 q6 q7 hB hn1 hx1 hi1 hg1 hw1 hb2
  obtain ⟨q0, q1, q2, q3, q4, q5, q6, q7⟩ := hB2.c8
  generalize hv1 : validB d.net = b1 at *
  clear hv1
  cases b1
  · have HR : Hid (dvalidB d = false) := by show _ = _; rw [HD.out]; simp
    go_wp2_with fail
    go_ret
    exact ⟨ret_bool HR.out.symm, hbw2⟩
  go_wp2_with fail
  refine (dassigned_any d.vars d.init _ _ _ hx2 hi2 hl).mono ?_
  rintro e w3 ⟨rfl, hb3⟩
  have hbw3 := bthen hbw2 hb3
  have hB3 := hB2.now hb3
  have hx3 := hx2.now hb3
  have hg3 := SlE.now hg2 hb3
  have hw3 := SlWW.now hw2 hb3
  clear q0 q1 q2 q3 q4 q5 q6 q7 hB2 hx2 hi2 hg2 hw2 hb3
  obtain ⟨q0, q1, q2, q3, q4, q5, q6, q7⟩ := hB3.c8
  generalize hv2 : asgB d.vars d.init = b2 at *
  clear hv2
  cases b2
  · have HR : Hid (dvalidB d = false) := by show _ = _; rw [HD.out]; simp
    go_wp2_with fail
    go_ret
    exact ⟨ret_bool HR.out.symm, hbw3⟩
  by_cases c3 : d.guards.length = d.net.trans.length
  rotate_left
  · have HR : Hid (dvalidB d = false) := by show _ = _; rw [HD.out, decide_eq_false c3]; simp
    have c3' : ((d.guards.length : Int) != d.net.trans.length) = true := by simp only [bne_iff_ne, ne_eq]; omega
    clear c3
    go_wp2_with fail
    go_ret
    exact ⟨ret_bool HR.out.symm, hbw3⟩
  by_cases c4 : d.writes.length = d.net.trans.length
  rotate_left
  · have HR : Hid (dvalidB d = false) := by show _ = _; rw [HD.out, decide_eq_false c4]; simp
    have c3' : ((d.guards.length : Int) != d.net.trans.length) = false := by simp only [bne_eq_false_iff_eq]; omega
    have c4' : ((d.writes.length : Int) != d.net.trans.length) = true := by simp only [bne_iff_ne, ne_eq]; omega
    clear c3 c4
    go_wp2_with fail
    go_ret
    exact ⟨ret_bool HR.out.symm, hbw3⟩
  have HR : Hid (dvalidB d = ((d.guards.all fun x => typedB d.vars x 1) && d.writes.all (wrsB d.vars (-1)))) := by show _ = _; rw [HD.out, decide_eq_true c3, decide_eq_true c4]; simp
  have c3' : ((d.guards.length : Int) != d.net.trans.length) = false := by simp only [bne_eq_false_iff_eq]; omega
  have c4' : ((d.writes.length : Int) != d.net.trans.length) = false := by simp only [bne_eq_false_iff_eq]; omega
  clear HD c3 c4
  have eg : ∀ a W, (callFunc 80 (#[a] ++ #[.pointer (some ⟨w.heap.size, 0, none⟩)])).run Tryz.prog W = .ok (.enter 80 (#[a] ++ #[.pointer (some ⟨w.heap.size, 0, none⟩)])) W := fun a W => enters_of Tryz.func80 (by kernel_rfl) rfl _ W
  have HC := Lib.hid (containsFuncE 80 #[.pointer (some ⟨w.heap.size, 0, none⟩)] n eg _ d.guards (fun y => !typedB d.vars y 1) w3 hg3 (fun y v W _ hy hW => dvalid1_any (n - 1) d.vars y v _ _ _ _ _ _ _ _ _ W (hB3.now hW) (hx3.now hW) hy hl))
  rw [drop_any_typed] at HC
  clear eg hg3
  generalize hga : (d.guards.all fun y => typedB d.vars y 1) = ga at *
  clear hga
  go_upto_region 3 with fail
  go_wp2_with fail
  (go_at_call 79; refine HC.out.mono ?_)
  rintro e w4 ⟨rfl, hb4⟩
  have hbw4 := bthen hbw3 hb4
  have hB4 := hB3.now hb4
  have hx4 := hx3.now hb4
  have hw4 := SlWW.now hw3 hb4
  clear q0 q1 q2 q3 q4 q5 q6 q7 hB3 hx3 hw3 hb4 HC
  obtain ⟨q0, q1, q2, q3, q4, q5, q6, q7⟩ := hB4.c8
  cases ga
  · go_wp2_with fail
    go_ret
    exact ⟨ret_bool (by rw [HR.out]; rfl), hbw4⟩
  have HR2 : Hid (dvalidB d = d.writes.all (wrsB d.vars (-1))) := by show _ = _; rw [HR.out, Bool.true_and]
  clear HR
  go_wp2_with fail
  go_loopw [47] (fun i wr => ∃ k : Nat, k ≤ d.writes.length ∧ i = .int .i64 k ∧ (∀ q y, q < k → d.writes[q]? = some y → wrsB d.vars (-1) y = true) ∧ Below w.heap.size w wr ∧ Below w4.heap.size w4 wr) (fun i _ => d.writes.length - (intOf i).toNat)
  case atStart => exact ⟨0, Nat.zero_le _, rfl, fun q y hq _ => absurd hq (by omega), hbw4, Below.refl _ _⟩
  case round =>
    obtain ⟨k, hk, rfl, hall, hbr, hbr4⟩ := hrel
    have HA := Lib.hid hall
    clear hall
    by_cases hlt : k < d.writes.length
    rotate_left
    · obtain rfl : k = d.writes.length := by omega
      have HRR : Hid (dvalidB d = true) := by show _ = _; rw [HR2.out]; exact rows_all HA.out
      go_wp2_with fail
      go_ret
      exact ⟨ret_bool HRR.out.symm, hbr⟩
    obtain ⟨bA, oA, l, lv, rfl, hD, hlx, hsl, hcell⟩ := (SlWW.now hw4 hbr4).at_ hlt
    have HLX := Lib.hid hlx
    clear hlx
    obtain ⟨A2, c2, rfl, m1, m2, hsl⟩ := Sl.open_ hsl
    have hB5 := hB4.now hbr4
    have hx5 := hx4.now hbr4
    have hsl5 : SlW n (Lt wr.heap.size) wr (.slice A2 l.length c2) l := hsl
    clear hsl hB4 hx4 hw4 q0 q1 q2 q3 q4 q5 q6 q7
    obtain ⟨q0, q1, q2, q3, q4, q5, q6, q7⟩ := hB5.c8
    go_upto_region 10 with fail
    obtain ⟨w5, hw5⟩ : ∃ x, x = wr := ⟨_, rfl⟩
    subst hw5
    go_loopw [5, 53] (fun a j W => ∃ (m : Nat) (z : Int), m ≤ l.length ∧ j = .int .i64 m ∧ a = .int .i64 z ∧ -1 ≤ z ∧ z < 1000001 ∧ wrsB d.vars (-1) l = wrsB d.vars z (l.drop m) ∧ Below w.heap.size w W ∧ Below w5.heap.size w5 W) (fun _ j _ => l.length - (intOf j).toNat)
    case atStart => exact ⟨0, -1, Nat.zero_le _, rfl, rfl, by omega, by omega, rfl, hbr, Below.refl _ _⟩
    case round =>
      obtain ⟨m, z, hm, rfl, rfl, z1, z2, hz, hbw5, hb5⟩ := hrel
      have HZ := Lib.hid hz
      clear hz
      have hB6 := hB5.now hb5
      by_cases hltm : m < l.length
      rotate_left
      · have HRR : Hid (wrsB d.vars (-1) l = true) := by show _ = _; rw [HZ.out, List.drop_eq_nil_of_le (by omega), wrsB_nil]
        obtain ⟨q0, q1, q2, q3, q4, q5, q6, q7⟩ := hB6.c8
        go_wp2_with fail
        go_roundw
        case rel => exact ⟨k + 1, by omega, by go_num, fun q y hq hy => by
          by_cases e : q = k
          · subst e; have := HLX.out; rw [this] at hy; injection hy with hy; rw [← hy]; exact HRR.out
          · exact HA.out q y (by omega) hy, hbw5, hbr4.trans (hb5.mono hbr4.size)⟩
        case measure => simp [intOf]; omega
      obtain ⟨b2, o2, ⟨yv, yx⟩, lv2, rfl, hD2, hy, hfv, hex, e0, e1, e2, e3, e4, e5, e6⟩ := (SlW.now hsl5 hb5).at_ hltm
      have HX := Lib.hid (wrsB_drop (vs := d.vars) hy z)
      clear hy
      dsimp only at HX hfv hex e0 e1 e2 e3 e4 e5 e6
      obtain ⟨A3, c3, rfl⟩ := hex.slice_
      have hb6 := bone wr (.cells #[.int .i64 yv, .int .i64 yx.op, .int .i64 yx.v.kind, .int .i64 yx.v.n, .string yx.v.s, .string yx.s, .slice A3 yx.l.length c3] 124)
      have hY := Blk.new wr 124 #[.int .i64 yv, .int .i64 yx.op, .int .i64 yx.v.kind, .int .i64 yx.v.n, .string yx.v.s, .string yx.s, .slice A3 yx.l.length c3]
      have hB7 := hB6.now hb6
      have hex7 := hex.now hb6
      have hx7 := (hx5.now hb5).now hb6
      clear hex hB6
      go_upto_region 12 with fail
      have hbw7 := bthen hbw5 hb6
      have hb57 := bthen hb5 hb6
      generalize hw7 : wr.alloc (.cells #[.int .i64 yv, .int .i64 yx.op, .int .i64 yx.v.kind, .int .i64 yx.v.n, .string yx.v.s, .string yx.s, .slice A3 yx.l.length c3] 124) = w7 at *
      clear hw7 e0 e1 e2 e3 e4 e5 e6 hb6
      obtain ⟨q0, q1, q2, q3, q4, q5, q6, q7⟩ := hB7.c8
      obtain ⟨y0, y1, y2, y3, y4, y5, y6⟩ := hY.c7
      by_cases c1 : yv ≤ z
      · have HRR : Hid (wrsB d.vars (-1) l = false) := by show _ = _; rw [HZ.out, HX.out, decide_eq_false (by omega)]; rfl
        have HRD : Hid (dvalidB d = false) := by show _ = _; rw [HR2.out, rows_bad HLX.out HRR.out]
        have c1' : decide (yv ≤ z) = true := decide_eq_true c1
        clear c1
        go_quiet (fail)
        all_goals
          go_wp2_with fail
          go_ret
          exact ⟨ret_bool HRD.out.symm, below_drewQ hbw7 _⟩
      by_cases c2 : (d.vars.length : Int) ≤ yv
      · have HRR : Hid (wrsB d.vars (-1) l = false) := by show _ = _; rw [HZ.out, HX.out, decide_eq_true (show z < yv by omega), decide_eq_false (by omega)]; rfl
        have HRD : Hid (dvalidB d = false) := by show _ = _; rw [HR2.out, rows_bad HLX.out HRR.out]
        have c1' : decide (yv ≤ z) = false := decide_eq_false c1
        have c2' : decide ((d.vars.length : Int) ≤ yv) = true := decide_eq_true c2
        clear c1 c2
        go_quiet (fail)
        all_goals
          go_wp2_with fail
          go_ret
          exact ⟨ret_bool HRD.out.symm, below_drewQ hbw7 _⟩
      obtain ⟨t, rfl⟩ := Int.eq_ofNat_of_zero_le (show 0 ≤ yv by omega)
      have hlt2 : t < d.vars.length := by omega
      obtain ⟨b4, o4, xv, iv4, rfl, hD4, hxv, hvar, _, k0, k1, k2, k3, k4⟩ := hx7.at_ hlt2
      have HKA := Lib.hid (kindAt_at hxv)
      have c1' : ¬ (t : Int) ≤ z := c1
      have c2' : ¬ (d.vars.length : Int) ≤ (t : Int) := c2
      have HCL : Hid (∀ W, Below w7.heap.size w7 W → Calls Tryz.prog 81 #[.slice (some ⟨b4, o4, none⟩) d.vars.length cx, .agg #[.int .i64 yx.op, .int .i64 yx.v.kind, .int .i64 yx.v.n, .string yx.v.s, .string yx.s, .slice A3 yx.l.length c3], .int .i64 xv.kind] W fun e w' => e = .returned (.bool (typedB d.vars yx xv.kind)) ∧ Below w7.heap.size w7 w') :=
        fun W hW => (dtyped_any n d.vars yx xv.kind _ _ W (hx7.now hW) (hex7.now hW) hl).mono fun e w' ⟨he, hb⟩ => ⟨he, bthen hW hb⟩
      have HS : Hid (∀ W, Below w7.heap.size w7 W → (W.cell? ⟨w.heap.size, 4, none⟩ = some (.slice (some ⟨b4, o4, none⟩) d.vars.length cx)) ∧ W.cell? ⟨b4, o4 + t * 5 + 1, none⟩ = some (.int .i64 xv.kind) ∧ W.cell? ⟨wr.heap.size, 0, none⟩ = some (.int .i64 t) ∧ W.cell? ⟨wr.heap.size, 1, none⟩ = some (.int .i64 yx.op) ∧ W.cell? ⟨wr.heap.size, 2, none⟩ = some (.int .i64 yx.v.kind) ∧ W.cell? ⟨wr.heap.size, 3, none⟩ = some (.int .i64 yx.v.n) ∧ W.cell? ⟨wr.heap.size, 4, none⟩ = some (.string yx.v.s) ∧ W.cell? ⟨wr.heap.size, 5, none⟩ = some (.string yx.s) ∧ W.cell? ⟨wr.heap.size, 6, none⟩ = some (.slice A3 yx.l.length c3)) := fun W hW => ⟨(hB7.now hW).c8.2.2.2.2.1, (hW.cell (p := ⟨b4, o4 + t * 5 + 1, none⟩) hD4).trans k1, (hY.now hW).c7⟩
      have hbd : Below w7.heap.size w7 w7.drew := (Below.refl _ _).drew
      clear k0 k1 k2 k3 k4 q0 q1 q2 q3 q4 q5 q6 q7 y0 y1 y2 y3 y4 y5 y6 hvar
      generalize hty : typedB d.vars yx xv.kind = ty at *
      have HTY := Lib.hid hty
      clear hty c1 c2
      obtain ⟨a0, a1, d0, d1, d2, d3, d4, d5, d6⟩ := HS.out _ hbd
      go_region_held3 (fun W => (W.cell? ⟨w.heap.size, 4, none⟩ = some (.slice (some ⟨b4, o4, none⟩) d.vars.length cx)) ∧ W.cell? ⟨b4, o4 + t * 5 + 1, none⟩ = some (.int .i64 xv.kind) ∧ W.cell? ⟨wr.heap.size, 0, none⟩ = some (.int .i64 t) ∧ W.cell? ⟨wr.heap.size, 1, none⟩ = some (.int .i64 yx.op) ∧ W.cell? ⟨wr.heap.size, 2, none⟩ = some (.int .i64 yx.v.kind) ∧ W.cell? ⟨wr.heap.size, 3, none⟩ = some (.int .i64 yx.v.n) ∧ W.cell? ⟨wr.heap.size, 4, none⟩ = some (.string yx.v.s) ∧ W.cell? ⟨wr.heap.size, 5, none⟩ = some (.string yx.s) ∧ W.cell? ⟨wr.heap.size, 6, none⟩ = some (.slice A3 yx.l.length c3)) (exact HS.out _ (by assumption))
        (first | (go_at_call 81; (with_reducible refine (HCL.out _ (by assumption)).mono ?_); rintro e w11 ⟨rfl, hb11⟩))
      all_goals
        have hY11 := hY.now hb11
        have hbw11 := bthen hbw7 hb11
        have hb511 := bthen hb57 hb11
        clear a0 a1 d0 d1 d2 d3 d4 d5 d6 HS HCL hY hB7
        obtain ⟨y0, y1, y2, y3, y4, y5, y6⟩ := hY11.c7
        cases ty
        · have HRR : Hid (wrsB d.vars (-1) l = false) := by show _ = _; rw [HZ.out, HX.out, HKA.out, HTY.out]; simp
          have HRD : Hid (dvalidB d = false) := by show _ = _; rw [HR2.out, rows_bad HLX.out HRR.out]
          go_wp2_with fail
          go_ret
          exact ⟨ret_bool HRD.out.symm, hbw11⟩
        · have HRR : Hid (wrsB d.vars (-1) l = wrsB d.vars t (l.drop (m + 1))) := by show _ = _; rw [HZ.out, HX.out, HKA.out, HTY.out, decide_eq_true (show z < (t : Int) by omega), decide_eq_true (show (t : Int) < d.vars.length by omega)]; rfl
          go_wp2_with fail
          go_roundw
          case rel => exact ⟨m + 1, t, by omega, by go_num, rfl, by omega, by omega, HRR.out, hbw11, hb511⟩
          case measure => simp [intOf]; omega
end Go.Proofs.YtlmenhjlgmejkaaGreatDoor
