/- Merged texts. -/
import Derived.StillTailTactics
import Derived.Test.YtlmenhjlgmejkaaGreatDoorSn09
set_option linter.all false
namespace Go.Proofs.YtlmenhjlgmejkaaGreatDoor
open Go.RowKit
set_option maxHeartbeats 8000000 in
set_option maxRecDepth 100000 in
theorem eval_eq (n : Nat) (ih : ∀ m, m < n → EvalAt 144 m) (vs : List Var) (vals : List Val) (x : Ex) (w : World) (uv vv u : Value) (h : EvArgs n vs vals x w uv vv u) (ho : x.op = 6) : Calls Tryz.prog 144 #[uv, vv, u] w (RetO (evX vs vals x) w) := by
 have HO := Lib.hid ho
 clear ho
 have h0 := h
 obtain ⟨hvs, hvl, hx, _, _, hA⟩ := h
 obtain ⟨Av, cv, rfl, v1, v2, hvs⟩ := hvs.open_
 obtain ⟨Aw, cw, rfl, v3, v4, hvl⟩ := hvl.open_
 obtain ⟨lv, rfl, h1, h2, h3, h4⟩ := hx
 obtain ⟨A, c, rfl, l1, l2, h4⟩ := h4.open_
 have hb := bbox (bone w (.cells #[.int .i64 x.op, .int .i64 x.v.kind, .int .i64 x.v.n, .string x.v.s, .string x.s, .slice A x.l.length c] 65)) (.cells #[.int .i64 0, .int .i64 0, .string ⟨#[]⟩] 63)
 have hB := (Blk.new w 65 #[.int .i64 x.op, .int .i64 x.v.kind, .int .i64 x.v.n, .string x.v.s, .string x.s, .slice A x.l.length c]).alloc (.cells #[.int .i64 0, .int .i64 0, .string ⟨#[]⟩] 63)
 have hR := Blk.new_at (t := 63) (cs := #[.int .i64 0, .int .i64 0, .string ⟨#[]⟩]) (w := w.alloc (.cells #[.int .i64 x.op, .int .i64 x.v.kind, .int .i64 x.v.n, .string x.v.s, .string x.s, .slice A x.l.length c] 65)) (s := w.heap.size + 1) (by simp)
 have hl1 := SlE.now h4 hb
 have hv1 := hvs.now hb
 have hw1 := hvl.now hb
 clear h4 hvs hvl
 go_enter Tryz.func144, Tryz.ntmps144
 go_upto_region 1 with fail
 generalize hww : (w.alloc (.cells #[.int .i64 x.op, .int .i64 x.v.kind, .int .i64 x.v.n, .string x.v.s, .string x.s, .slice A x.l.length c] 65)).alloc (.cells #[.int .i64 0, .int .i64 0, .string ⟨#[]⟩] 63) = w1 at *
 clear hww
 have ho := HO.out
 have HST : Hid (∀ (W : World) (x y z : Value), Below w1.heap.size w1 W →
   (W.frozen? ⟨w.heap.size + 1, 0, none⟩ = false ∧ W.frozen? ⟨w.heap.size + 1, 1, none⟩ = false ∧ W.frozen? ⟨w.heap.size + 1, 2, none⟩ = false) ∧
   Blk (((W.setCell ⟨w.heap.size + 1, 0, none⟩ x).setCell ⟨w.heap.size + 1, 1, none⟩ y).setCell ⟨w.heap.size + 1, 2, none⟩ z) (w.heap.size + 1) 63 #[x, y, z] ∧
   (W.cell? ⟨w.heap.size + 1, 0, none⟩ = some (.int .i64 0) ∧ W.cell? ⟨w.heap.size + 1, 1, none⟩ = some (.int .i64 0) ∧ W.cell? ⟨w.heap.size + 1, 2, none⟩ = some (.string ⟨#[]⟩)) ∧
   Below w.heap.size w (((W.setCell ⟨w.heap.size + 1, 0, none⟩ x).setCell ⟨w.heap.size + 1, 1, none⟩ y).setCell ⟨w.heap.size + 1, 2, none⟩ z)) :=
  fun W x y z hW => ⟨⟨(hR.now hW).frozen 0, (hR.now hW).frozen 1, (hR.now hW).frozen 2⟩, (hR.now hW).set3 _ _ _, (hR.now hW).c3, bset3 (bthen hb hW) (by omega) _ _ _⟩
 obtain ⟨q0, q1, q2, q3, q4, q5⟩ := hB.c6
 have HKEY := Lib.hid (ev_key vs vals x)
 have HSL := Lib.hid (shape_len h0.shape)
 have hlen : 1 ≤ x.l.length := by have := HSL.out; omega
 obtain ⟨b, o, y, ylv, n', hn, rfl, hD, hy, hex, hfv, hsl, e0, e1, e2, e3, e4, e5⟩ := hl1.at_ (k := 0) (by omega)
 have HY := Lib.hid hy
 have hym := List.mem_of_getElem? hy
 obtain ⟨A2, c2', rfl, m1, m2, _⟩ := hsl.open_
 have hcall := Lib.hid (ih n' (by omega) vs vals y _ _ _ _ (h0.part hym hb hex))
 have HV0 := Lib.hid (fun (a : Val) (h : evX vs vals y = some a) => h0.val hym h)
 have i0 : (0 : Int) < (x.l.length : Int) := by omega
 have e0' : w1.cell? ⟨b, o, none⟩ = some (.int .i64 y.op) := by simpa using e0
 have e1' : w1.cell? ⟨b, o + 1, none⟩ = some (.int .i64 y.v.kind) := by simpa using e1
 have e2' : w1.cell? ⟨b, o + 2, none⟩ = some (.int .i64 y.v.n) := by simpa using e2
 have e3' : w1.cell? ⟨b, o + 3, none⟩ = some (.string y.v.s) := by simpa using e3
 have e4' : w1.cell? ⟨b, o + 4, none⟩ = some (.string y.s) := by simpa using e4
 have e5' : w1.cell? ⟨b, o + 5, none⟩ = some (.slice A2 y.l.length c2') := by simpa using e5
 clear hy hex hsl hfv e0 e1 e2 e3 e4 e5 hn
 go_wp2_with fail
 refine hcall.out.mono ?_
 clear hcall e0' e1' e2' e3' e4' e5'
 rintro e w2 ⟨v0, rfl, hv0, hb2⟩
 have HG0 := Lib.hid (getD_map (f := evX vs vals) HY.out)
 generalize hr0 : evX vs vals y = r0 at *
 have hb3 := bone w2 (.cells #[.int .i64 v0.kind, .int .i64 v0.n, .string v0.s] 63)
 have hF := Blk.new w2 63 #[.int .i64 v0.kind, .int .i64 v0.n, .string v0.s]
 have hb13 := bthen hb2 hb3
 have hB3 := hB.now hb13
 have hl3 := SlE.now hl1 hb13
 clear q0 q1 q2 q3 q4 q5
 have l2' := hF.lt
 go_upto_region 7 with fail
 generalize hw3 : w2.alloc (.cells #[.int .i64 v0.kind, .int .i64 v0.n, .string v0.s] 63) = w3 at *
 clear hw3
 obtain ⟨q0, q1, q2, q3, q4, q5⟩ := hB3.c6
 obtain ⟨f0, f1, f2⟩ := hF.c3
 cases r0 with
 | none =>
  have HR : Hid (evX vs vals x = none) := by
   show _ = _
   rw [HKEY.out]
   unfold evO
   rw [if_neg (by omega), if_neg (by omega), HG0.out]
  clear f0 f1 f2 q0 q1 q2 q3 q4 q5
  obtain ⟨⟨k0, k1, k2⟩, hS, ⟨y0, y1, y2⟩, hbS⟩ := HST.out w3 (.int .i64 0) (.int .i64 0) (.string ⟨#[]⟩) hb13
  go_wp2_with fail
  obtain ⟨t0, t1, t2⟩ := hS.c3
  refine bodyPost_ret (v := .tuple #[.agg #[.int .i64 0, .int .i64 0, .string ⟨#[]⟩], .bool false]) (by simp [results, Tryz.results144, go_sem, t0, t1, t2]) rfl ?_
  exact RetO.cast HR.out ⟨⟨0, 0, ⟨#[]⟩⟩, rfl, fun a h => (by cases h), hbS⟩

 | some a =>
  obtain rfl : v0 = a := hv0 a rfl
  have HVA := Lib.hid (HV0.out _ rfl)
  clear hv0
  have hli : 1 < x.l.length := by have := HSL.out; omega
  obtain ⟨b1, o1, y1, ylv, n1, hn, hA1, hD1, hy, hex, hfv, hsl, e0, e1, e2, e3, e4, e5⟩ := hl3.at_ hli
  injection hA1 with hA1
  injection hA1 with g1 g2 _
  subst g1 g2
  have HY1 := Lib.hid hy
  have hym1 := List.mem_of_getElem? hy
  obtain ⟨A2, c2', rfl, m1, m2, _⟩ := hsl.open_
  have hcall := Lib.hid (ih n1 (by omega) vs vals y1 _ _ _ _ (h0.part hym1 (bthen hb hb13) hex))
  have HV1 := Lib.hid (fun (a : Val) (h : evX vs vals y1 = some a) => h0.val hym1 h)
  have i1 : (1 : Int) < (x.l.length : Int) := by omega
  clear hy hex hsl hfv hn
  go_wp2_with fail
  refine hcall.out.mono ?_
  clear hcall e0 e1 e2 e3 e4 e5
  rintro e w4 ⟨v1, rfl, hv1', hb4⟩
  have HG1 := Lib.hid (getD_map (f := evX vs vals) HY1.out)
  generalize hr1 : evX vs vals y1 = r1 at *
  have hb5 := bone w4 (.cells #[.int .i64 v1.kind, .int .i64 v1.n, .string v1.s] 63)
  have hG := Blk.new w4 63 #[.int .i64 v1.kind, .int .i64 v1.n, .string v1.s]
  have hb35 := bthen hb4 hb5
  have hb15 := bthen hb13 hb35
  have hB5 := hB3.now hb35
  have hF5 := hF.now hb35
  clear f0 f1 f2 q0 q1 q2 q3 q4 q5
  have l3' := hG.lt
  go_upto_region 22 with fail
  generalize hw5 : w4.alloc (.cells #[.int .i64 v1.kind, .int .i64 v1.n, .string v1.s] 63) = w5 at *
  clear hw5
  obtain ⟨q0, q1, q2, q3, q4, q5⟩ := hB5.c6
  obtain ⟨f0, f1, f2⟩ := hF5.c3
  obtain ⟨g0, g1, g2⟩ := hG.c3
  cases r1 with
  | none =>
   have HR : Hid (evX vs vals x = none) := by
    show _ = _
    rw [HKEY.out]
    unfold evO
    rw [if_neg (by omega), if_neg (by omega), HG0.out]
    show (if _ then _ else _) = _
    rw [if_neg (by omega), if_neg (by omega), if_neg (by omega), if_neg (by omega), if_neg (by omega), HG1.out]
   clear f0 f1 f2 g0 g1 g2 q0 q1 q2 q3 q4 q5
   obtain ⟨⟨k0, k1, k2⟩, hS, ⟨y0, y1, y2⟩, hbS⟩ := HST.out w5 (.int .i64 0) (.int .i64 0) (.string ⟨#[]⟩) hb15
   go_wp2_with fail
   obtain ⟨t0, t1, t2⟩ := hS.c3
   refine bodyPost_ret (v := .tuple #[.agg #[.int .i64 0, .int .i64 0, .string ⟨#[]⟩], .bool false]) (by simp [results, Tryz.results144, go_sem, t0, t1, t2]) rfl ?_
   exact RetO.cast HR.out ⟨⟨0, 0, ⟨#[]⟩⟩, rfl, fun a h => (by cases h), hbS⟩

  | some c =>
   obtain rfl : v1 = c := hv1' c rfl
   have HR : Hid (evX vs vals x = some (truthV (decide (v0 = v1)))) := by
    show _ = _
    rw [HKEY.out]
    unfold evO
    rw [if_neg (by omega), if_neg (by omega), HG0.out]
    show (if _ then _ else _) = _
    rw [if_neg (by omega), if_neg (by omega), if_neg (by omega), if_neg (by omega), if_neg (by omega), HG1.out]
    show (if _ then _ else _) = _
    rw [if_pos ho]
   generalize hd : decide (v0 = v1) = d at *
   have heq := fun W => run_eqV W v0 v1
   rw [hd] at heq
   clear hd
   go_wp2_with fail
   refine (truth_any d _).mono ?_
   rintro e w6 ⟨rfl, hb6⟩
   clear f0 f1 f2 g0 g1 g2 q0 q1 q2 q3 q4 q5
   have ev : valV (truthV d) = .agg #[.int .i64 (truthV d).kind, .int .i64 (truthV d).n, .string (truthV d).s] := rfl
   rw [ev]
   generalize truthV d = tv at *
   obtain ⟨⟨k0, k1, k2⟩, hS, ⟨y0, y1, y2⟩, hbS⟩ := HST.out w6 (.int .i64 tv.kind) (.int .i64 tv.n) (.string tv.s) (bthen hb15 hb6)
   go_wp2_with fail
   obtain ⟨t0, t1, t2⟩ := hS.c3
   refine bodyPost_ret (v := .tuple #[.agg #[.int .i64 tv.kind, .int .i64 tv.n, .string tv.s], .bool true]) (by simp [results, Tryz.results144, go_sem, t0, t1, t2]) rfl ?_
   exact RetO.cast HR.out ⟨tv, rfl, fun a h => (by injection h), hbS⟩
set_option maxHeartbeats 8000000 in
set_option maxRecDepth 100000 in
theorem eval_lt (n : Nat) (ih : ∀ m, m < n → EvalAt 144 m) (vs : List Var) (vals : List Val) (x : Ex) (w : World) (uv vv u : Value) (h : EvArgs n vs vals x w uv vv u) (ho : x.op = 7) : Calls Tryz.prog 144 #[uv, vv, u] w (RetO (evX vs vals x) w) := by
 have HO := Lib.hid ho
 clear ho
 have h0 := h
 obtain ⟨hvs, hvl, hx, _, _, hA⟩ := h
 obtain ⟨Av, cv, rfl, v1, v2, hvs⟩ := hvs.open_
 obtain ⟨Aw, cw, rfl, v3, v4, hvl⟩ := hvl.open_
 obtain ⟨lv, rfl, h1, h2, h3, h4⟩ := hx
 obtain ⟨A, c, rfl, l1, l2, h4⟩ := h4.open_
 have hb := bbox (bone w (.cells #[.int .i64 x.op, .int .i64 x.v.kind, .int .i64 x.v.n, .string x.v.s, .string x.s, .slice A x.l.length c] 65)) (.cells #[.int .i64 0, .int .i64 0, .string ⟨#[]⟩] 63)
 have hB := (Blk.new w 65 #[.int .i64 x.op, .int .i64 x.v.kind, .int .i64 x.v.n, .string x.v.s, .string x.s, .slice A x.l.length c]).alloc (.cells #[.int .i64 0, .int .i64 0, .string ⟨#[]⟩] 63)
 have hR := Blk.new_at (t := 63) (cs := #[.int .i64 0, .int .i64 0, .string ⟨#[]⟩]) (w := w.alloc (.cells #[.int .i64 x.op, .int .i64 x.v.kind, .int .i64 x.v.n, .string x.v.s, .string x.s, .slice A x.l.length c] 65)) (s := w.heap.size + 1) (by simp)
 have hl1 := SlE.now h4 hb
 have hv1 := hvs.now hb
 have hw1 := hvl.now hb
 clear h4 hvs hvl
 go_enter Tryz.func144, Tryz.ntmps144
 go_upto_region 1 with fail
 generalize hww : (w.alloc (.cells #[.int .i64 x.op, .int .i64 x.v.kind, .int .i64 x.v.n, .string x.v.s, .string x.s, .slice A x.l.length c] 65)).alloc (.cells #[.int .i64 0, .int .i64 0, .string ⟨#[]⟩] 63) = w1 at *
 clear hww
 have ho := HO.out
 have HST : Hid (∀ (W : World) (x y z : Value), Below w1.heap.size w1 W →
   (W.frozen? ⟨w.heap.size + 1, 0, none⟩ = false ∧ W.frozen? ⟨w.heap.size + 1, 1, none⟩ = false ∧ W.frozen? ⟨w.heap.size + 1, 2, none⟩ = false) ∧
   Blk (((W.setCell ⟨w.heap.size + 1, 0, none⟩ x).setCell ⟨w.heap.size + 1, 1, none⟩ y).setCell ⟨w.heap.size + 1, 2, none⟩ z) (w.heap.size + 1) 63 #[x, y, z] ∧
   (W.cell? ⟨w.heap.size + 1, 0, none⟩ = some (.int .i64 0) ∧ W.cell? ⟨w.heap.size + 1, 1, none⟩ = some (.int .i64 0) ∧ W.cell? ⟨w.heap.size + 1, 2, none⟩ = some (.string ⟨#[]⟩)) ∧
   Below w.heap.size w (((W.setCell ⟨w.heap.size + 1, 0, none⟩ x).setCell ⟨w.heap.size + 1, 1, none⟩ y).setCell ⟨w.heap.size + 1, 2, none⟩ z)) :=
  fun W x y z hW => ⟨⟨(hR.now hW).frozen 0, (hR.now hW).frozen 1, (hR.now hW).frozen 2⟩, (hR.now hW).set3 _ _ _, (hR.now hW).c3, bset3 (bthen hb hW) (by omega) _ _ _⟩
 obtain ⟨q0, q1, q2, q3, q4, q5⟩ := hB.c6
 have HKEY := Lib.hid (ev_key vs vals x)
 have HSL := Lib.hid (shape_len h0.shape)
 have hlen : 1 ≤ x.l.length := by have := HSL.out; omega
 obtain ⟨b, o, y, ylv, n', hn, rfl, hD, hy, hex, hfv, hsl, e0, e1, e2, e3, e4, e5⟩ := hl1.at_ (k := 0) (by omega)
 have HY := Lib.hid hy
 have hym := List.mem_of_getElem? hy
 obtain ⟨A2, c2', rfl, m1, m2, _⟩ := hsl.open_
 have hcall := Lib.hid (ih n' (by omega) vs vals y _ _ _ _ (h0.part hym hb hex))
 have HV0 := Lib.hid (fun (a : Val) (h : evX vs vals y = some a) => h0.val hym h)
 have i0 : (0 : Int) < (x.l.length : Int) := by omega
 have e0' : w1.cell? ⟨b, o, none⟩ = some (.int .i64 y.op) := by simpa using e0
 have e1' : w1.cell? ⟨b, o + 1, none⟩ = some (.int .i64 y.v.kind) := by simpa using e1
 have e2' : w1.cell? ⟨b, o + 2, none⟩ = some (.int .i64 y.v.n) := by simpa using e2
 have e3' : w1.cell? ⟨b, o + 3, none⟩ = some (.string y.v.s) := by simpa using e3
 have e4' : w1.cell? ⟨b, o + 4, none⟩ = some (.string y.s) := by simpa using e4
 have e5' : w1.cell? ⟨b, o + 5, none⟩ = some (.slice A2 y.l.length c2') := by simpa using e5
 clear hy hex hsl hfv e0 e1 e2 e3 e4 e5 hn
 go_wp2_with fail
 refine hcall.out.mono ?_
 clear hcall e0' e1' e2' e3' e4' e5'
 rintro e w2 ⟨v0, rfl, hv0, hb2⟩
 have HG0 := Lib.hid (getD_map (f := evX vs vals) HY.out)
 generalize hr0 : evX vs vals y = r0 at *
 have hb3 := bone w2 (.cells #[.int .i64 v0.kind, .int .i64 v0.n, .string v0.s] 63)
 have hF := Blk.new w2 63 #[.int .i64 v0.kind, .int .i64 v0.n, .string v0.s]
 have hb13 := bthen hb2 hb3
 have hB3 := hB.now hb13
 have hl3 := SlE.now hl1 hb13
 clear q0 q1 q2 q3 q4 q5
 have l2' := hF.lt
 go_upto_region 7 with fail
 generalize hw3 : w2.alloc (.cells #[.int .i64 v0.kind, .int .i64 v0.n, .string v0.s] 63) = w3 at *
 clear hw3
 obtain ⟨q0, q1, q2, q3, q4, q5⟩ := hB3.c6
 obtain ⟨f0, f1, f2⟩ := hF.c3
 cases r0 with
 | none =>
  have HR : Hid (evX vs vals x = none) := by
   show _ = _
   rw [HKEY.out]
   unfold evO
   rw [if_neg (by omega), if_neg (by omega), HG0.out]
  clear f0 f1 f2 q0 q1 q2 q3 q4 q5
  obtain ⟨⟨k0, k1, k2⟩, hS, ⟨y0, y1, y2⟩, hbS⟩ := HST.out w3 (.int .i64 0) (.int .i64 0) (.string ⟨#[]⟩) hb13
  go_wp2_with fail
  obtain ⟨t0, t1, t2⟩ := hS.c3
  refine bodyPost_ret (v := .tuple #[.agg #[.int .i64 0, .int .i64 0, .string ⟨#[]⟩], .bool false]) (by simp [results, Tryz.results144, go_sem, t0, t1, t2]) rfl ?_
  exact RetO.cast HR.out ⟨⟨0, 0, ⟨#[]⟩⟩, rfl, fun a h => (by cases h), hbS⟩

 | some a =>
  obtain rfl : v0 = a := hv0 a rfl
  have HVA := Lib.hid (HV0.out _ rfl)
  clear hv0
  have hli : 1 < x.l.length := by have := HSL.out; omega
  obtain ⟨b1, o1, y1, ylv, n1, hn, hA1, hD1, hy, hex, hfv, hsl, e0, e1, e2, e3, e4, e5⟩ := hl3.at_ hli
  injection hA1 with hA1
  injection hA1 with g1 g2 _
  subst g1 g2
  have HY1 := Lib.hid hy
  have hym1 := List.mem_of_getElem? hy
  obtain ⟨A2, c2', rfl, m1, m2, _⟩ := hsl.open_
  have hcall := Lib.hid (ih n1 (by omega) vs vals y1 _ _ _ _ (h0.part hym1 (bthen hb hb13) hex))
  have HV1 := Lib.hid (fun (a : Val) (h : evX vs vals y1 = some a) => h0.val hym1 h)
  have i1 : (1 : Int) < (x.l.length : Int) := by omega
  clear hy hex hsl hfv hn
  go_wp2_with fail
  refine hcall.out.mono ?_
  clear hcall e0 e1 e2 e3 e4 e5
  rintro e w4 ⟨v1, rfl, hv1', hb4⟩
  have HG1 := Lib.hid (getD_map (f := evX vs vals) HY1.out)
  generalize hr1 : evX vs vals y1 = r1 at *
  have hb5 := bone w4 (.cells #[.int .i64 v1.kind, .int .i64 v1.n, .string v1.s] 63)
  have hG := Blk.new w4 63 #[.int .i64 v1.kind, .int .i64 v1.n, .string v1.s]
  have hb35 := bthen hb4 hb5
  have hb15 := bthen hb13 hb35
  have hB5 := hB3.now hb35
  have hF5 := hF.now hb35
  clear f0 f1 f2 q0 q1 q2 q3 q4 q5
  have l3' := hG.lt
  go_upto_region 22 with fail
  generalize hw5 : w4.alloc (.cells #[.int .i64 v1.kind, .int .i64 v1.n, .string v1.s] 63) = w5 at *
  clear hw5
  obtain ⟨q0, q1, q2, q3, q4, q5⟩ := hB5.c6
  obtain ⟨f0, f1, f2⟩ := hF5.c3
  obtain ⟨g0, g1, g2⟩ := hG.c3
  cases r1 with
  | none =>
   have HR : Hid (evX vs vals x = none) := by
    show _ = _
    rw [HKEY.out]
    unfold evO
    rw [if_neg (by omega), if_neg (by omega), HG0.out]
    show (if _ then _ else _) = _
    rw [if_neg (by omega), if_neg (by omega), if_neg (by omega), if_neg (by omega), if_neg (by omega), HG1.out]
   clear f0 f1 f2 g0 g1 g2 q0 q1 q2 q3 q4 q5
   obtain ⟨⟨k0, k1, k2⟩, hS, ⟨y0, y1, y2⟩, hbS⟩ := HST.out w5 (.int .i64 0) (.int .i64 0) (.string ⟨#[]⟩) hb15
   go_wp2_with fail
   obtain ⟨t0, t1, t2⟩ := hS.c3
   refine bodyPost_ret (v := .tuple #[.agg #[.int .i64 0, .int .i64 0, .string ⟨#[]⟩], .bool false]) (by simp [results, Tryz.results144, go_sem, t0, t1, t2]) rfl ?_
   exact RetO.cast HR.out ⟨⟨0, 0, ⟨#[]⟩⟩, rfl, fun a h => (by cases h), hbS⟩

  | some c =>
   obtain rfl : v1 = c := hv1' c rfl
   have HR : Hid (evX vs vals x = some (truthV (decide (v0.n < v1.n)))) := by
    show _ = _
    rw [HKEY.out]
    unfold evO
    rw [if_neg (by omega), if_neg (by omega), HG0.out]
    show (if _ then _ else _) = _
    rw [if_neg (by omega), if_neg (by omega), if_neg (by omega), if_neg (by omega), if_neg (by omega), HG1.out]
    show (if _ then _ else _) = _
    rw [if_neg (by omega), if_pos ho]
   generalize hd : decide (v0.n < v1.n) = d at *
   go_wp2_with fail
   refine (truth_any d _).mono ?_
   rintro e w6 ⟨rfl, hb6⟩
   clear f0 f1 f2 g0 g1 g2 q0 q1 q2 q3 q4 q5
   have ev : valV (truthV d) = .agg #[.int .i64 (truthV d).kind, .int .i64 (truthV d).n, .string (truthV d).s] := rfl
   rw [ev]
   generalize truthV d = tv at *
   obtain ⟨⟨k0, k1, k2⟩, hS, ⟨y0, y1, y2⟩, hbS⟩ := HST.out w6 (.int .i64 tv.kind) (.int .i64 tv.n) (.string tv.s) (bthen hb15 hb6)
   go_wp2_with fail
   obtain ⟨t0, t1, t2⟩ := hS.c3
   refine bodyPost_ret (v := .tuple #[.agg #[.int .i64 tv.kind, .int .i64 tv.n, .string tv.s], .bool true]) (by simp [results, Tryz.results144, go_sem, t0, t1, t2]) rfl ?_
   exact RetO.cast HR.out ⟨tv, rfl, fun a h => (by injection h), hbS⟩
set_option maxHeartbeats 8000000 in
set_option maxRecDepth 100000 in
theorem eval_le (n : Nat) (ih : ∀ m, m < n → EvalAt 144 m) (vs : List Var) (vals : List Val) (x : Ex) (w : World) (uv vv u : Value) (h : EvArgs n vs vals x w uv vv u) (ho : x.op = 8) : Calls Tryz.prog 144 #[uv, vv, u] w (RetO (evX vs vals x) w) := by
 have HO := Lib.hid ho
 clear ho
 have h0 := h
 obtain ⟨hvs, hvl, hx, _, _, hA⟩ := h
 obtain ⟨Av, cv, rfl, v1, v2, hvs⟩ := hvs.open_
 obtain ⟨Aw, cw, rfl, v3, v4, hvl⟩ := hvl.open_
 obtain ⟨lv, rfl, h1, h2, h3, h4⟩ := hx
 obtain ⟨A, c, rfl, l1, l2, h4⟩ := h4.open_
 have hb := bbox (bone w (.cells #[.int .i64 x.op, .int .i64 x.v.kind, .int .i64 x.v.n, .string x.v.s, .string x.s, .slice A x.l.length c] 65)) (.cells #[.int .i64 0, .int .i64 0, .string ⟨#[]⟩] 63)
 have hB := (Blk.new w 65 #[.int .i64 x.op, .int .i64 x.v.kind, .int .i64 x.v.n, .string x.v.s, .string x.s, .slice A x.l.length c]).alloc (.cells #[.int .i64 0, .int .i64 0, .string ⟨#[]⟩] 63)
 have hR := Blk.new_at (t := 63) (cs := #[.int .i64 0, .int .i64 0, .string ⟨#[]⟩]) (w := w.alloc (.cells #[.int .i64 x.op, .int .i64 x.v.kind, .int .i64 x.v.n, .string x.v.s, .string x.s, .slice A x.l.length c] 65)) (s := w.heap.size + 1) (by simp)
 have hl1 := SlE.now h4 hb
 have hv1 := hvs.now hb
 have hw1 := hvl.now hb
 clear h4 hvs hvl
 go_enter Tryz.func144, Tryz.ntmps144
 go_upto_region 1 with fail
 generalize hww : (w.alloc (.cells #[.int .i64 x.op, .int .i64 x.v.kind, .int .i64 x.v.n, .string x.v.s, .string x.s, .slice A x.l.length c] 65)).alloc (.cells #[.int .i64 0, .int .i64 0, .string ⟨#[]⟩] 63) = w1 at *
 clear hww
 have ho := HO.out
 have HST : Hid (∀ (W : World) (x y z : Value), Below w1.heap.size w1 W →
   (W.frozen? ⟨w.heap.size + 1, 0, none⟩ = false ∧ W.frozen? ⟨w.heap.size + 1, 1, none⟩ = false ∧ W.frozen? ⟨w.heap.size + 1, 2, none⟩ = false) ∧
   Blk (((W.setCell ⟨w.heap.size + 1, 0, none⟩ x).setCell ⟨w.heap.size + 1, 1, none⟩ y).setCell ⟨w.heap.size + 1, 2, none⟩ z) (w.heap.size + 1) 63 #[x, y, z] ∧
   (W.cell? ⟨w.heap.size + 1, 0, none⟩ = some (.int .i64 0) ∧ W.cell? ⟨w.heap.size + 1, 1, none⟩ = some (.int .i64 0) ∧ W.cell? ⟨w.heap.size + 1, 2, none⟩ = some (.string ⟨#[]⟩)) ∧
   Below w.heap.size w (((W.setCell ⟨w.heap.size + 1, 0, none⟩ x).setCell ⟨w.heap.size + 1, 1, none⟩ y).setCell ⟨w.heap.size + 1, 2, none⟩ z)) :=
  fun W x y z hW => ⟨⟨(hR.now hW).frozen 0, (hR.now hW).frozen 1, (hR.now hW).frozen 2⟩, (hR.now hW).set3 _ _ _, (hR.now hW).c3, bset3 (bthen hb hW) (by omega) _ _ _⟩
 obtain ⟨q0, q1, q2, q3, q4, q5⟩ := hB.c6
 have HKEY := Lib.hid (ev_key vs vals x)
 have HSL := Lib.hid (shape_len h0.shape)
 have hlen : 1 ≤ x.l.length := by have := HSL.out; omega
 obtain ⟨b, o, y, ylv, n', hn, rfl, hD, hy, hex, hfv, hsl, e0, e1, e2, e3, e4, e5⟩ := hl1.at_ (k := 0) (by omega)
 have HY := Lib.hid hy
 have hym := List.mem_of_getElem? hy
 obtain ⟨A2, c2', rfl, m1, m2, _⟩ := hsl.open_
 have hcall := Lib.hid (ih n' (by omega) vs vals y _ _ _ _ (h0.part hym hb hex))
 have HV0 := Lib.hid (fun (a : Val) (h : evX vs vals y = some a) => h0.val hym h)
 have i0 : (0 : Int) < (x.l.length : Int) := by omega
 have e0' : w1.cell? ⟨b, o, none⟩ = some (.int .i64 y.op) := by simpa using e0
 have e1' : w1.cell? ⟨b, o + 1, none⟩ = some (.int .i64 y.v.kind) := by simpa using e1
 have e2' : w1.cell? ⟨b, o + 2, none⟩ = some (.int .i64 y.v.n) := by simpa using e2
 have e3' : w1.cell? ⟨b, o + 3, none⟩ = some (.string y.v.s) := by simpa using e3
 have e4' : w1.cell? ⟨b, o + 4, none⟩ = some (.string y.s) := by simpa using e4
 have e5' : w1.cell? ⟨b, o + 5, none⟩ = some (.slice A2 y.l.length c2') := by simpa using e5
 clear hy hex hsl hfv e0 e1 e2 e3 e4 e5 hn
 go_wp2_with fail
 refine hcall.out.mono ?_
 clear hcall e0' e1' e2' e3' e4' e5'
 rintro e w2 ⟨v0, rfl, hv0, hb2⟩
 have HG0 := Lib.hid (getD_map (f := evX vs vals) HY.out)
 generalize hr0 : evX vs vals y = r0 at *
 have hb3 := bone w2 (.cells #[.int .i64 v0.kind, .int .i64 v0.n, .string v0.s] 63)
 have hF := Blk.new w2 63 #[.int .i64 v0.kind, .int .i64 v0.n, .string v0.s]
 have hb13 := bthen hb2 hb3
 have hB3 := hB.now hb13
 have hl3 := SlE.now hl1 hb13
 clear q0 q1 q2 q3 q4 q5
 have l2' := hF.lt
 go_upto_region 7 with fail
 generalize hw3 : w2.alloc (.cells #[.int .i64 v0.kind, .int .i64 v0.n, .string v0.s] 63) = w3 at *
 clear hw3
 obtain ⟨q0, q1, q2, q3, q4, q5⟩ := hB3.c6
 obtain ⟨f0, f1, f2⟩ := hF.c3
 cases r0 with
 | none =>
  have HR : Hid (evX vs vals x = none) := by
   show _ = _
   rw [HKEY.out]
   unfold evO
   rw [if_neg (by omega), if_neg (by omega), HG0.out]
  clear f0 f1 f2 q0 q1 q2 q3 q4 q5
  obtain ⟨⟨k0, k1, k2⟩, hS, ⟨y0, y1, y2⟩, hbS⟩ := HST.out w3 (.int .i64 0) (.int .i64 0) (.string ⟨#[]⟩) hb13
  go_wp2_with fail
  obtain ⟨t0, t1, t2⟩ := hS.c3
  refine bodyPost_ret (v := .tuple #[.agg #[.int .i64 0, .int .i64 0, .string ⟨#[]⟩], .bool false]) (by simp [results, Tryz.results144, go_sem, t0, t1, t2]) rfl ?_
  exact RetO.cast HR.out ⟨⟨0, 0, ⟨#[]⟩⟩, rfl, fun a h => (by cases h), hbS⟩

 | some a =>
  obtain rfl : v0 = a := hv0 a rfl
  have HVA := Lib.hid (HV0.out _ rfl)
  clear hv0
  have hli : 1 < x.l.length := by have := HSL.out; omega
  obtain ⟨b1, o1, y1, ylv, n1, hn, hA1, hD1, hy, hex, hfv, hsl, e0, e1, e2, e3, e4, e5⟩ := hl3.at_ hli
  injection hA1 with hA1
  injection hA1 with g1 g2 _
  subst g1 g2
  have HY1 := Lib.hid hy
  have hym1 := List.mem_of_getElem? hy
  obtain ⟨A2, c2', rfl, m1, m2, _⟩ := hsl.open_
  have hcall := Lib.hid (ih n1 (by omega) vs vals y1 _ _ _ _ (h0.part hym1 (bthen hb hb13) hex))
  have HV1 := Lib.hid (fun (a : Val) (h : evX vs vals y1 = some a) => h0.val hym1 h)
  have i1 : (1 : Int) < (x.l.length : Int) := by omega
  clear hy hex hsl hfv hn
  go_wp2_with fail
  refine hcall.out.mono ?_
  clear hcall e0 e1 e2 e3 e4 e5
  rintro e w4 ⟨v1, rfl, hv1', hb4⟩
  have HG1 := Lib.hid (getD_map (f := evX vs vals) HY1.out)
  generalize hr1 : evX vs vals y1 = r1 at *
  have hb5 := bone w4 (.cells #[.int .i64 v1.kind, .int .i64 v1.n, .string v1.s] 63)
  have hG := Blk.new w4 63 #[.int .i64 v1.kind, .int .i64 v1.n, .string v1.s]
  have hb35 := bthen hb4 hb5
  have hb15 := bthen hb13 hb35
  have hB5 := hB3.now hb35
  have hF5 := hF.now hb35
  clear f0 f1 f2 q0 q1 q2 q3 q4 q5
  have l3' := hG.lt
  go_upto_region 22 with fail
  generalize hw5 : w4.alloc (.cells #[.int .i64 v1.kind, .int .i64 v1.n, .string v1.s] 63) = w5 at *
  clear hw5
  obtain ⟨q0, q1, q2, q3, q4, q5⟩ := hB5.c6
  obtain ⟨f0, f1, f2⟩ := hF5.c3
  obtain ⟨g0, g1, g2⟩ := hG.c3
  cases r1 with
  | none =>
   have HR : Hid (evX vs vals x = none) := by
    show _ = _
    rw [HKEY.out]
    unfold evO
    rw [if_neg (by omega), if_neg (by omega), HG0.out]
    show (if _ then _ else _) = _
    rw [if_neg (by omega), if_neg (by omega), if_neg (by omega), if_neg (by omega), if_neg (by omega), HG1.out]
   clear f0 f1 f2 g0 g1 g2 q0 q1 q2 q3 q4 q5
   obtain ⟨⟨k0, k1, k2⟩, hS, ⟨y0, y1, y2⟩, hbS⟩ := HST.out w5 (.int .i64 0) (.int .i64 0) (.string ⟨#[]⟩) hb15
   go_wp2_with fail
   obtain ⟨t0, t1, t2⟩ := hS.c3
   refine bodyPost_ret (v := .tuple #[.agg #[.int .i64 0, .int .i64 0, .string ⟨#[]⟩], .bool false]) (by simp [results, Tryz.results144, go_sem, t0, t1, t2]) rfl ?_
   exact RetO.cast HR.out ⟨⟨0, 0, ⟨#[]⟩⟩, rfl, fun a h => (by cases h), hbS⟩

  | some c =>
   obtain rfl : v1 = c := hv1' c rfl
   have HR : Hid (evX vs vals x = some (truthV (decide (v0.n ≤ v1.n)))) := by
    show _ = _
    rw [HKEY.out]
    unfold evO
    rw [if_neg (by omega), if_neg (by omega), HG0.out]
    show (if _ then _ else _) = _
    rw [if_neg (by omega), if_neg (by omega), if_neg (by omega), if_neg (by omega), if_neg (by omega), HG1.out]
    show (if _ then _ else _) = _
    rw [if_neg (by omega), if_neg (by omega), if_pos ho]
   generalize hd : decide (v0.n ≤ v1.n) = d at *
   go_wp2_with fail
   refine (truth_any d _).mono ?_
   rintro e w6 ⟨rfl, hb6⟩
   clear f0 f1 f2 g0 g1 g2 q0 q1 q2 q3 q4 q5
   have ev : valV (truthV d) = .agg #[.int .i64 (truthV d).kind, .int .i64 (truthV d).n, .string (truthV d).s] := rfl
   rw [ev]
   generalize truthV d = tv at *
   obtain ⟨⟨k0, k1, k2⟩, hS, ⟨y0, y1, y2⟩, hbS⟩ := HST.out w6 (.int .i64 tv.kind) (.int .i64 tv.n) (.string tv.s) (bthen hb15 hb6)
   go_wp2_with fail
   obtain ⟨t0, t1, t2⟩ := hS.c3
   refine bodyPost_ret (v := .tuple #[.agg #[.int .i64 tv.kind, .int .i64 tv.n, .string tv.s], .bool true]) (by simp [results, Tryz.results144, go_sem, t0, t1, t2]) rfl ?_
   exact RetO.cast HR.out ⟨tv, rfl, fun a h => (by injection h), hbS⟩
set_option maxHeartbeats 8000000 in
set_option maxRecDepth 100000 in
theorem eval_add (n : Nat) (ih : ∀ m, m < n → EvalAt 144 m) (vs : List Var) (vals : List Val) (x : Ex) (w : World) (uv vv u : Value) (h : EvArgs n vs vals x w uv vv u) (ho : x.op = 9) : Calls Tryz.prog 144 #[uv, vv, u] w (RetO (evX vs vals x) w) := by
 have HO := Lib.hid ho
 clear ho
 have h0 := h
 obtain ⟨hvs, hvl, hx, _, _, hA⟩ := h
 obtain ⟨Av, cv, rfl, v1, v2, hvs⟩ := hvs.open_
 obtain ⟨Aw, cw, rfl, v3, v4, hvl⟩ := hvl.open_
 obtain ⟨lv, rfl, h1, h2, h3, h4⟩ := hx
 obtain ⟨A, c, rfl, l1, l2, h4⟩ := h4.open_
 have hb := bbox (bone w (.cells #[.int .i64 x.op, .int .i64 x.v.kind, .int .i64 x.v.n, .string x.v.s, .string x.s, .slice A x.l.length c] 65)) (.cells #[.int .i64 0, .int .i64 0, .string ⟨#[]⟩] 63)
 have hB := (Blk.new w 65 #[.int .i64 x.op, .int .i64 x.v.kind, .int .i64 x.v.n, .string x.v.s, .string x.s, .slice A x.l.length c]).alloc (.cells #[.int .i64 0, .int .i64 0, .string ⟨#[]⟩] 63)
 have hR := Blk.new_at (t := 63) (cs := #[.int .i64 0, .int .i64 0, .string ⟨#[]⟩]) (w := w.alloc (.cells #[.int .i64 x.op, .int .i64 x.v.kind, .int .i64 x.v.n, .string x.v.s, .string x.s, .slice A x.l.length c] 65)) (s := w.heap.size + 1) (by simp)
 have hl1 := SlE.now h4 hb
 have hv1 := hvs.now hb
 have hw1 := hvl.now hb
 clear h4 hvs hvl
 go_enter Tryz.func144, Tryz.ntmps144
 go_upto_region 1 with fail
 generalize hww : (w.alloc (.cells #[.int .i64 x.op, .int .i64 x.v.kind, .int .i64 x.v.n, .string x.v.s, .string x.s, .slice A x.l.length c] 65)).alloc (.cells #[.int .i64 0, .int .i64 0, .string ⟨#[]⟩] 63) = w1 at *
 clear hww
 have ho := HO.out
 have HST : Hid (∀ (W : World) (x y z : Value), Below w1.heap.size w1 W →
   (W.frozen? ⟨w.heap.size + 1, 0, none⟩ = false ∧ W.frozen? ⟨w.heap.size + 1, 1, none⟩ = false ∧ W.frozen? ⟨w.heap.size + 1, 2, none⟩ = false) ∧
   Blk (((W.setCell ⟨w.heap.size + 1, 0, none⟩ x).setCell ⟨w.heap.size + 1, 1, none⟩ y).setCell ⟨w.heap.size + 1, 2, none⟩ z) (w.heap.size + 1) 63 #[x, y, z] ∧
   (W.cell? ⟨w.heap.size + 1, 0, none⟩ = some (.int .i64 0) ∧ W.cell? ⟨w.heap.size + 1, 1, none⟩ = some (.int .i64 0) ∧ W.cell? ⟨w.heap.size + 1, 2, none⟩ = some (.string ⟨#[]⟩)) ∧
   Below w.heap.size w (((W.setCell ⟨w.heap.size + 1, 0, none⟩ x).setCell ⟨w.heap.size + 1, 1, none⟩ y).setCell ⟨w.heap.size + 1, 2, none⟩ z)) :=
  fun W x y z hW => ⟨⟨(hR.now hW).frozen 0, (hR.now hW).frozen 1, (hR.now hW).frozen 2⟩, (hR.now hW).set3 _ _ _, (hR.now hW).c3, bset3 (bthen hb hW) (by omega) _ _ _⟩
 obtain ⟨q0, q1, q2, q3, q4, q5⟩ := hB.c6
 have HKEY := Lib.hid (ev_key vs vals x)
 have HSL := Lib.hid (shape_len h0.shape)
 have hlen : 1 ≤ x.l.length := by have := HSL.out; omega
 obtain ⟨b, o, y, ylv, n', hn, rfl, hD, hy, hex, hfv, hsl, e0, e1, e2, e3, e4, e5⟩ := hl1.at_ (k := 0) (by omega)
 have HY := Lib.hid hy
 have hym := List.mem_of_getElem? hy
 obtain ⟨A2, c2', rfl, m1, m2, _⟩ := hsl.open_
 have hcall := Lib.hid (ih n' (by omega) vs vals y _ _ _ _ (h0.part hym hb hex))
 have HV0 := Lib.hid (fun (a : Val) (h : evX vs vals y = some a) => h0.val hym h)
 have i0 : (0 : Int) < (x.l.length : Int) := by omega
 have e0' : w1.cell? ⟨b, o, none⟩ = some (.int .i64 y.op) := by simpa using e0
 have e1' : w1.cell? ⟨b, o + 1, none⟩ = some (.int .i64 y.v.kind) := by simpa using e1
 have e2' : w1.cell? ⟨b, o + 2, none⟩ = some (.int .i64 y.v.n) := by simpa using e2
 have e3' : w1.cell? ⟨b, o + 3, none⟩ = some (.string y.v.s) := by simpa using e3
 have e4' : w1.cell? ⟨b, o + 4, none⟩ = some (.string y.s) := by simpa using e4
 have e5' : w1.cell? ⟨b, o + 5, none⟩ = some (.slice A2 y.l.length c2') := by simpa using e5
 clear hy hex hsl hfv e0 e1 e2 e3 e4 e5 hn
 go_wp2_with fail
 refine hcall.out.mono ?_
 clear hcall e0' e1' e2' e3' e4' e5'
 rintro e w2 ⟨v0, rfl, hv0, hb2⟩
 have HG0 := Lib.hid (getD_map (f := evX vs vals) HY.out)
 generalize hr0 : evX vs vals y = r0 at *
 have hb3 := bone w2 (.cells #[.int .i64 v0.kind, .int .i64 v0.n, .string v0.s] 63)
 have hF := Blk.new w2 63 #[.int .i64 v0.kind, .int .i64 v0.n, .string v0.s]
 have hb13 := bthen hb2 hb3
 have hB3 := hB.now hb13
 have hl3 := SlE.now hl1 hb13
 clear q0 q1 q2 q3 q4 q5
 have l2' := hF.lt
 go_upto_region 7 with fail
 generalize hw3 : w2.alloc (.cells #[.int .i64 v0.kind, .int .i64 v0.n, .string v0.s] 63) = w3 at *
 clear hw3
 obtain ⟨q0, q1, q2, q3, q4, q5⟩ := hB3.c6
 obtain ⟨f0, f1, f2⟩ := hF.c3
 cases r0 with
 | none =>
  have HR : Hid (evX vs vals x = none) := by
   show _ = _
   rw [HKEY.out]
   unfold evO
   rw [if_neg (by omega), if_neg (by omega), HG0.out]
  clear f0 f1 f2 q0 q1 q2 q3 q4 q5
  obtain ⟨⟨k0, k1, k2⟩, hS, ⟨y0, y1, y2⟩, hbS⟩ := HST.out w3 (.int .i64 0) (.int .i64 0) (.string ⟨#[]⟩) hb13
  go_wp2_with fail
  obtain ⟨t0, t1, t2⟩ := hS.c3
  refine bodyPost_ret (v := .tuple #[.agg #[.int .i64 0, .int .i64 0, .string ⟨#[]⟩], .bool false]) (by simp [results, Tryz.results144, go_sem, t0, t1, t2]) rfl ?_
  exact RetO.cast HR.out ⟨⟨0, 0, ⟨#[]⟩⟩, rfl, fun a h => (by cases h), hbS⟩

 | some a =>
  obtain rfl : v0 = a := hv0 a rfl
  have HVA := Lib.hid (HV0.out _ rfl)
  clear hv0
  have hli : 1 < x.l.length := by have := HSL.out; omega
  obtain ⟨b1, o1, y1, ylv, n1, hn, hA1, hD1, hy, hex, hfv, hsl, e0, e1, e2, e3, e4, e5⟩ := hl3.at_ hli
  injection hA1 with hA1
  injection hA1 with g1 g2 _
  subst g1 g2
  have HY1 := Lib.hid hy
  have hym1 := List.mem_of_getElem? hy
  obtain ⟨A2, c2', rfl, m1, m2, _⟩ := hsl.open_
  have hcall := Lib.hid (ih n1 (by omega) vs vals y1 _ _ _ _ (h0.part hym1 (bthen hb hb13) hex))
  have HV1 := Lib.hid (fun (a : Val) (h : evX vs vals y1 = some a) => h0.val hym1 h)
  have i1 : (1 : Int) < (x.l.length : Int) := by omega
  clear hy hex hsl hfv hn
  go_wp2_with fail
  refine hcall.out.mono ?_
  clear hcall e0 e1 e2 e3 e4 e5
  rintro e w4 ⟨v1, rfl, hv1', hb4⟩
  have HG1 := Lib.hid (getD_map (f := evX vs vals) HY1.out)
  generalize hr1 : evX vs vals y1 = r1 at *
  have hb5 := bone w4 (.cells #[.int .i64 v1.kind, .int .i64 v1.n, .string v1.s] 63)
  have hG := Blk.new w4 63 #[.int .i64 v1.kind, .int .i64 v1.n, .string v1.s]
  have hb35 := bthen hb4 hb5
  have hb15 := bthen hb13 hb35
  have hB5 := hB3.now hb35
  have hF5 := hF.now hb35
  clear f0 f1 f2 q0 q1 q2 q3 q4 q5
  have l3' := hG.lt
  go_upto_region 22 with fail
  generalize hw5 : w4.alloc (.cells #[.int .i64 v1.kind, .int .i64 v1.n, .string v1.s] 63) = w5 at *
  clear hw5
  obtain ⟨q0, q1, q2, q3, q4, q5⟩ := hB5.c6
  obtain ⟨f0, f1, f2⟩ := hF5.c3
  obtain ⟨g0, g1, g2⟩ := hG.c3
  cases r1 with
  | none =>
   have HR : Hid (evX vs vals x = none) := by
    show _ = _
    rw [HKEY.out]
    unfold evO
    rw [if_neg (by omega), if_neg (by omega), HG0.out]
    show (if _ then _ else _) = _
    rw [if_neg (by omega), if_neg (by omega), if_neg (by omega), if_neg (by omega), if_neg (by omega), HG1.out]
   clear f0 f1 f2 g0 g1 g2 q0 q1 q2 q3 q4 q5
   obtain ⟨⟨k0, k1, k2⟩, hS, ⟨y0, y1, y2⟩, hbS⟩ := HST.out w5 (.int .i64 0) (.int .i64 0) (.string ⟨#[]⟩) hb15
   go_wp2_with fail
   obtain ⟨t0, t1, t2⟩ := hS.c3
   refine bodyPost_ret (v := .tuple #[.agg #[.int .i64 0, .int .i64 0, .string ⟨#[]⟩], .bool false]) (by simp [results, Tryz.results144, go_sem, t0, t1, t2]) rfl ?_
   exact RetO.cast HR.out ⟨⟨0, 0, ⟨#[]⟩⟩, rfl, fun a h => (by cases h), hbS⟩

  | some c =>
   obtain rfl : v1 = c := hv1' c rfl
   have HR : Hid (evX vs vals x = numV (v0.n + v1.n)) := by
    show _ = _
    rw [HKEY.out]
    unfold evO
    rw [if_neg (by omega), if_neg (by omega), HG0.out]
    show (if _ then _ else _) = _
    rw [if_neg (by omega), if_neg (by omega), if_neg (by omega), if_neg (by omega), if_neg (by omega), HG1.out]
    show (if _ then _ else _) = _
    rw [if_neg (by omega), if_neg (by omega), if_neg (by omega), if_pos ho]
   have hn0 := h0.nums (by omega) (List.mem_of_getElem? HY.out)
   have hn1 := h0.nums (by omega) hym1
   have hr0 := num_range HVA.out.2 (HVA.out.1.trans hn0)
   have hva1 := HV1.out _ rfl
   have hr1 := num_range hva1.2 (hva1.1.trans hn1)
   clear hva1 hn0 hn1
   have hwr : IntKind.i64.wrap (v0.n + v1.n) = v0.n + v1.n := IntWalk.i64_in _ (by omega)
   go_wp2_with fail
   refine (enumber_any (v0.n + v1.n) _ (by unfold Fit; omega)).mono ?_
   rintro e w6 ⟨tv, rfl, htv, hb6⟩
   clear f0 f1 f2 g0 g1 g2 q0 q1 q2 q3 q4 q5
   generalize numV (v0.n + v1.n) = r at *
   obtain ⟨⟨k0, k1, k2⟩, hS, ⟨y0, y1, y2⟩, hbS⟩ := HST.out w6 (.int .i64 tv.kind) (.int .i64 tv.n) (.string tv.s) (bthen hb15 hb6)
   go_wp2_with fail
   obtain ⟨t0, t1, t2⟩ := hS.c3
   refine bodyPost_ret (v := .tuple #[.agg #[.int .i64 tv.kind, .int .i64 tv.n, .string tv.s], .bool r.isSome]) (by simp [results, Tryz.results144, go_sem, t0, t1, t2]) rfl ?_
   exact RetO.cast HR.out ⟨tv, rfl, htv, hbS⟩
set_option maxHeartbeats 8000000 in
set_option maxRecDepth 100000 in
theorem eval_sub (n : Nat) (ih : ∀ m, m < n → EvalAt 144 m) (vs : List Var) (vals : List Val) (x : Ex) (w : World) (uv vv u : Value) (h : EvArgs n vs vals x w uv vv u) (ho : x.op = 10) : Calls Tryz.prog 144 #[uv, vv, u] w (RetO (evX vs vals x) w) := by
 have HO := Lib.hid ho
 clear ho
 have h0 := h
 obtain ⟨hvs, hvl, hx, _, _, hA⟩ := h
 obtain ⟨Av, cv, rfl, v1, v2, hvs⟩ := hvs.open_
 obtain ⟨Aw, cw, rfl, v3, v4, hvl⟩ := hvl.open_
 obtain ⟨lv, rfl, h1, h2, h3, h4⟩ := hx
 obtain ⟨A, c, rfl, l1, l2, h4⟩ := h4.open_
 have hb := bbox (bone w (.cells #[.int .i64 x.op, .int .i64 x.v.kind, .int .i64 x.v.n, .string x.v.s, .string x.s, .slice A x.l.length c] 65)) (.cells #[.int .i64 0, .int .i64 0, .string ⟨#[]⟩] 63)
 have hB := (Blk.new w 65 #[.int .i64 x.op, .int .i64 x.v.kind, .int .i64 x.v.n, .string x.v.s, .string x.s, .slice A x.l.length c]).alloc (.cells #[.int .i64 0, .int .i64 0, .string ⟨#[]⟩] 63)
 have hR := Blk.new_at (t := 63) (cs := #[.int .i64 0, .int .i64 0, .string ⟨#[]⟩]) (w := w.alloc (.cells #[.int .i64 x.op, .int .i64 x.v.kind, .int .i64 x.v.n, .string x.v.s, .string x.s, .slice A x.l.length c] 65)) (s := w.heap.size + 1) (by simp)
 have hl1 := SlE.now h4 hb
 have hv1 := hvs.now hb
 have hw1 := hvl.now hb
 clear h4 hvs hvl
 go_enter Tryz.func144, Tryz.ntmps144
 go_upto_region 1 with fail
 generalize hww : (w.alloc (.cells #[.int .i64 x.op, .int .i64 x.v.kind, .int .i64 x.v.n, .string x.v.s, .string x.s, .slice A x.l.length c] 65)).alloc (.cells #[.int .i64 0, .int .i64 0, .string ⟨#[]⟩] 63) = w1 at *
 clear hww
 have ho := HO.out
 have HST : Hid (∀ (W : World) (x y z : Value), Below w1.heap.size w1 W →
   (W.frozen? ⟨w.heap.size + 1, 0, none⟩ = false ∧ W.frozen? ⟨w.heap.size + 1, 1, none⟩ = false ∧ W.frozen? ⟨w.heap.size + 1, 2, none⟩ = false) ∧
   Blk (((W.setCell ⟨w.heap.size + 1, 0, none⟩ x).setCell ⟨w.heap.size + 1, 1, none⟩ y).setCell ⟨w.heap.size + 1, 2, none⟩ z) (w.heap.size + 1) 63 #[x, y, z] ∧
   (W.cell? ⟨w.heap.size + 1, 0, none⟩ = some (.int .i64 0) ∧ W.cell? ⟨w.heap.size + 1, 1, none⟩ = some (.int .i64 0) ∧ W.cell? ⟨w.heap.size + 1, 2, none⟩ = some (.string ⟨#[]⟩)) ∧
   Below w.heap.size w (((W.setCell ⟨w.heap.size + 1, 0, none⟩ x).setCell ⟨w.heap.size + 1, 1, none⟩ y).setCell ⟨w.heap.size + 1, 2, none⟩ z)) :=
  fun W x y z hW => ⟨⟨(hR.now hW).frozen 0, (hR.now hW).frozen 1, (hR.now hW).frozen 2⟩, (hR.now hW).set3 _ _ _, (hR.now hW).c3, bset3 (bthen hb hW) (by omega) _ _ _⟩
 obtain ⟨q0, q1, q2, q3, q4, q5⟩ := hB.c6
 have HKEY := Lib.hid (ev_key vs vals x)
 have HSL := Lib.hid (shape_len h0.shape)
 have hlen : 1 ≤ x.l.length := by have := HSL.out; omega
 obtain ⟨b, o, y, ylv, n', hn, rfl, hD, hy, hex, hfv, hsl, e0, e1, e2, e3, e4, e5⟩ := hl1.at_ (k := 0) (by omega)
 have HY := Lib.hid hy
 have hym := List.mem_of_getElem? hy
 obtain ⟨A2, c2', rfl, m1, m2, _⟩ := hsl.open_
 have hcall := Lib.hid (ih n' (by omega) vs vals y _ _ _ _ (h0.part hym hb hex))
 have HV0 := Lib.hid (fun (a : Val) (h : evX vs vals y = some a) => h0.val hym h)
 have i0 : (0 : Int) < (x.l.length : Int) := by omega
 have e0' : w1.cell? ⟨b, o, none⟩ = some (.int .i64 y.op) := by simpa using e0
 have e1' : w1.cell? ⟨b, o + 1, none⟩ = some (.int .i64 y.v.kind) := by simpa using e1
 have e2' : w1.cell? ⟨b, o + 2, none⟩ = some (.int .i64 y.v.n) := by simpa using e2
 have e3' : w1.cell? ⟨b, o + 3, none⟩ = some (.string y.v.s) := by simpa using e3
 have e4' : w1.cell? ⟨b, o + 4, none⟩ = some (.string y.s) := by simpa using e4
 have e5' : w1.cell? ⟨b, o + 5, none⟩ = some (.slice A2 y.l.length c2') := by simpa using e5
 clear hy hex hsl hfv e0 e1 e2 e3 e4 e5 hn
 go_wp2_with fail
 refine hcall.out.mono ?_
 clear hcall e0' e1' e2' e3' e4' e5'
 rintro e w2 ⟨v0, rfl, hv0, hb2⟩
 have HG0 := Lib.hid (getD_map (f := evX vs vals) HY.out)
 generalize hr0 : evX vs vals y = r0 at *
 have hb3 := bone w2 (.cells #[.int .i64 v0.kind, .int .i64 v0.n, .string v0.s] 63)
 have hF := Blk.new w2 63 #[.int .i64 v0.kind, .int .i64 v0.n, .string v0.s]
 have hb13 := bthen hb2 hb3
 have hB3 := hB.now hb13
 have hl3 := SlE.now hl1 hb13
 clear q0 q1 q2 q3 q4 q5
 have l2' := hF.lt
 go_upto_region 7 with fail
 generalize hw3 : w2.alloc (.cells #[.int .i64 v0.kind, .int .i64 v0.n, .string v0.s] 63) = w3 at *
 clear hw3
 obtain ⟨q0, q1, q2, q3, q4, q5⟩ := hB3.c6
 obtain ⟨f0, f1, f2⟩ := hF.c3
 cases r0 with
 | none =>
  have HR : Hid (evX vs vals x = none) := by
   show _ = _
   rw [HKEY.out]
   unfold evO
   rw [if_neg (by omega), if_neg (by omega), HG0.out]
  clear f0 f1 f2 q0 q1 q2 q3 q4 q5
  obtain ⟨⟨k0, k1, k2⟩, hS, ⟨y0, y1, y2⟩, hbS⟩ := HST.out w3 (.int .i64 0) (.int .i64 0) (.string ⟨#[]⟩) hb13
  go_wp2_with fail
  obtain ⟨t0, t1, t2⟩ := hS.c3
  refine bodyPost_ret (v := .tuple #[.agg #[.int .i64 0, .int .i64 0, .string ⟨#[]⟩], .bool false]) (by simp [results, Tryz.results144, go_sem, t0, t1, t2]) rfl ?_
  exact RetO.cast HR.out ⟨⟨0, 0, ⟨#[]⟩⟩, rfl, fun a h => (by cases h), hbS⟩

 | some a =>
  obtain rfl : v0 = a := hv0 a rfl
  have HVA := Lib.hid (HV0.out _ rfl)
  clear hv0
  have hli : 1 < x.l.length := by have := HSL.out; omega
  obtain ⟨b1, o1, y1, ylv, n1, hn, hA1, hD1, hy, hex, hfv, hsl, e0, e1, e2, e3, e4, e5⟩ := hl3.at_ hli
  injection hA1 with hA1
  injection hA1 with g1 g2 _
  subst g1 g2
  have HY1 := Lib.hid hy
  have hym1 := List.mem_of_getElem? hy
  obtain ⟨A2, c2', rfl, m1, m2, _⟩ := hsl.open_
  have hcall := Lib.hid (ih n1 (by omega) vs vals y1 _ _ _ _ (h0.part hym1 (bthen hb hb13) hex))
  have HV1 := Lib.hid (fun (a : Val) (h : evX vs vals y1 = some a) => h0.val hym1 h)
  have i1 : (1 : Int) < (x.l.length : Int) := by omega
  clear hy hex hsl hfv hn
  go_wp2_with fail
  refine hcall.out.mono ?_
  clear hcall e0 e1 e2 e3 e4 e5
  rintro e w4 ⟨v1, rfl, hv1', hb4⟩
  have HG1 := Lib.hid (getD_map (f := evX vs vals) HY1.out)
  generalize hr1 : evX vs vals y1 = r1 at *
  have hb5 := bone w4 (.cells #[.int .i64 v1.kind, .int .i64 v1.n, .string v1.s] 63)
  have hG := Blk.new w4 63 #[.int .i64 v1.kind, .int .i64 v1.n, .string v1.s]
  have hb35 := bthen hb4 hb5
  have hb15 := bthen hb13 hb35
  have hB5 := hB3.now hb35
  have hF5 := hF.now hb35
  clear f0 f1 f2 q0 q1 q2 q3 q4 q5
  have l3' := hG.lt
  go_upto_region 22 with fail
  generalize hw5 : w4.alloc (.cells #[.int .i64 v1.kind, .int .i64 v1.n, .string v1.s] 63) = w5 at *
  clear hw5
  obtain ⟨q0, q1, q2, q3, q4, q5⟩ := hB5.c6
  obtain ⟨f0, f1, f2⟩ := hF5.c3
  obtain ⟨g0, g1, g2⟩ := hG.c3
  cases r1 with
  | none =>
   have HR : Hid (evX vs vals x = none) := by
    show _ = _
    rw [HKEY.out]
    unfold evO
    rw [if_neg (by omega), if_neg (by omega), HG0.out]
    show (if _ then _ else _) = _
    rw [if_neg (by omega), if_neg (by omega), if_neg (by omega), if_neg (by omega), if_neg (by omega), HG1.out]
   clear f0 f1 f2 g0 g1 g2 q0 q1 q2 q3 q4 q5
   obtain ⟨⟨k0, k1, k2⟩, hS, ⟨y0, y1, y2⟩, hbS⟩ := HST.out w5 (.int .i64 0) (.int .i64 0) (.string ⟨#[]⟩) hb15
   go_wp2_with fail
   obtain ⟨t0, t1, t2⟩ := hS.c3
   refine bodyPost_ret (v := .tuple #[.agg #[.int .i64 0, .int .i64 0, .string ⟨#[]⟩], .bool false]) (by simp [results, Tryz.results144, go_sem, t0, t1, t2]) rfl ?_
   exact RetO.cast HR.out ⟨⟨0, 0, ⟨#[]⟩⟩, rfl, fun a h => (by cases h), hbS⟩

  | some c =>
   obtain rfl : v1 = c := hv1' c rfl
   have HR : Hid (evX vs vals x = numV (v0.n - v1.n)) := by
    show _ = _
    rw [HKEY.out]
    unfold evO
    rw [if_neg (by omega), if_neg (by omega), HG0.out]
    show (if _ then _ else _) = _
    rw [if_neg (by omega), if_neg (by omega), if_neg (by omega), if_neg (by omega), if_neg (by omega), HG1.out]
    show (if _ then _ else _) = _
    rw [if_neg (by omega), if_neg (by omega), if_neg (by omega), if_neg (by omega), if_pos ho]
   have hn0 := h0.nums (by omega) (List.mem_of_getElem? HY.out)
   have hn1 := h0.nums (by omega) hym1
   have hr0 := num_range HVA.out.2 (HVA.out.1.trans hn0)
   have hva1 := HV1.out _ rfl
   have hr1 := num_range hva1.2 (hva1.1.trans hn1)
   clear hva1 hn0 hn1
   have hwr : IntKind.i64.wrap (v0.n - v1.n) = v0.n - v1.n := IntWalk.i64_in _ (by omega)
   go_wp2_with fail
   refine (enumber_any (v0.n - v1.n) _ (by unfold Fit; omega)).mono ?_
   rintro e w6 ⟨tv, rfl, htv, hb6⟩
   clear f0 f1 f2 g0 g1 g2 q0 q1 q2 q3 q4 q5
   generalize numV (v0.n - v1.n) = r at *
   obtain ⟨⟨k0, k1, k2⟩, hS, ⟨y0, y1, y2⟩, hbS⟩ := HST.out w6 (.int .i64 tv.kind) (.int .i64 tv.n) (.string tv.s) (bthen hb15 hb6)
   go_wp2_with fail
   obtain ⟨t0, t1, t2⟩ := hS.c3
   refine bodyPost_ret (v := .tuple #[.agg #[.int .i64 tv.kind, .int .i64 tv.n, .string tv.s], .bool r.isSome]) (by simp [results, Tryz.results144, go_sem, t0, t1, t2]) rfl ?_
   exact RetO.cast HR.out ⟨tv, rfl, htv, hbS⟩
set_option maxHeartbeats 8000000 in
set_option maxRecDepth 100000 in
theorem eval_mul (n : Nat) (ih : ∀ m, m < n → EvalAt 144 m) (vs : List Var) (vals : List Val) (x : Ex) (w : World) (uv vv u : Value) (h : EvArgs n vs vals x w uv vv u) (ho : x.op = 11) : Calls Tryz.prog 144 #[uv, vv, u] w (RetO (evX vs vals x) w) := by
 have HO := Lib.hid ho
 clear ho
 have h0 := h
 obtain ⟨hvs, hvl, hx, _, _, hA⟩ := h
 obtain ⟨Av, cv, rfl, v1, v2, hvs⟩ := hvs.open_
 obtain ⟨Aw, cw, rfl, v3, v4, hvl⟩ := hvl.open_
 obtain ⟨lv, rfl, h1, h2, h3, h4⟩ := hx
 obtain ⟨A, c, rfl, l1, l2, h4⟩ := h4.open_
 have hb := bbox (bone w (.cells #[.int .i64 x.op, .int .i64 x.v.kind, .int .i64 x.v.n, .string x.v.s, .string x.s, .slice A x.l.length c] 65)) (.cells #[.int .i64 0, .int .i64 0, .string ⟨#[]⟩] 63)
 have hB := (Blk.new w 65 #[.int .i64 x.op, .int .i64 x.v.kind, .int .i64 x.v.n, .string x.v.s, .string x.s, .slice A x.l.length c]).alloc (.cells #[.int .i64 0, .int .i64 0, .string ⟨#[]⟩] 63)
 have hR := Blk.new_at (t := 63) (cs := #[.int .i64 0, .int .i64 0, .string ⟨#[]⟩]) (w := w.alloc (.cells #[.int .i64 x.op, .int .i64 x.v.kind, .int .i64 x.v.n, .string x.v.s, .string x.s, .slice A x.l.length c] 65)) (s := w.heap.size + 1) (by simp)
 have hl1 := SlE.now h4 hb
 have hv1 := hvs.now hb
 have hw1 := hvl.now hb
 clear h4 hvs hvl
 go_enter Tryz.func144, Tryz.ntmps144
 go_upto_region 1 with fail
 generalize hww : (w.alloc (.cells #[.int .i64 x.op, .int .i64 x.v.kind, .int .i64 x.v.n, .string x.v.s, .string x.s, .slice A x.l.length c] 65)).alloc (.cells #[.int .i64 0, .int .i64 0, .string ⟨#[]⟩] 63) = w1 at *
 clear hww
 have ho := HO.out
 have HST : Hid (∀ (W : World) (x y z : Value), Below w1.heap.size w1 W →
   (W.frozen? ⟨w.heap.size + 1, 0, none⟩ = false ∧ W.frozen? ⟨w.heap.size + 1, 1, none⟩ = false ∧ W.frozen? ⟨w.heap.size + 1, 2, none⟩ = false) ∧
   Blk (((W.setCell ⟨w.heap.size + 1, 0, none⟩ x).setCell ⟨w.heap.size + 1, 1, none⟩ y).setCell ⟨w.heap.size + 1, 2, none⟩ z) (w.heap.size + 1) 63 #[x, y, z] ∧
   (W.cell? ⟨w.heap.size + 1, 0, none⟩ = some (.int .i64 0) ∧ W.cell? ⟨w.heap.size + 1, 1, none⟩ = some (.int .i64 0) ∧ W.cell? ⟨w.heap.size + 1, 2, none⟩ = some (.string ⟨#[]⟩)) ∧
   Below w.heap.size w (((W.setCell ⟨w.heap.size + 1, 0, none⟩ x).setCell ⟨w.heap.size + 1, 1, none⟩ y).setCell ⟨w.heap.size + 1, 2, none⟩ z)) :=
  fun W x y z hW => ⟨⟨(hR.now hW).frozen 0, (hR.now hW).frozen 1, (hR.now hW).frozen 2⟩, (hR.now hW).set3 _ _ _, (hR.now hW).c3, bset3 (bthen hb hW) (by omega) _ _ _⟩
 obtain ⟨q0, q1, q2, q3, q4, q5⟩ := hB.c6
 have HKEY := Lib.hid (ev_key vs vals x)
 have HSL := Lib.hid (shape_len h0.shape)
 have hlen : 1 ≤ x.l.length := by have := HSL.out; omega
 obtain ⟨b, o, y, ylv, n', hn, rfl, hD, hy, hex, hfv, hsl, e0, e1, e2, e3, e4, e5⟩ := hl1.at_ (k := 0) (by omega)
 have HY := Lib.hid hy
 have hym := List.mem_of_getElem? hy
 obtain ⟨A2, c2', rfl, m1, m2, _⟩ := hsl.open_
 have hcall := Lib.hid (ih n' (by omega) vs vals y _ _ _ _ (h0.part hym hb hex))
 have HV0 := Lib.hid (fun (a : Val) (h : evX vs vals y = some a) => h0.val hym h)
 have i0 : (0 : Int) < (x.l.length : Int) := by omega
 have e0' : w1.cell? ⟨b, o, none⟩ = some (.int .i64 y.op) := by simpa using e0
 have e1' : w1.cell? ⟨b, o + 1, none⟩ = some (.int .i64 y.v.kind) := by simpa using e1
 have e2' : w1.cell? ⟨b, o + 2, none⟩ = some (.int .i64 y.v.n) := by simpa using e2
 have e3' : w1.cell? ⟨b, o + 3, none⟩ = some (.string y.v.s) := by simpa using e3
 have e4' : w1.cell? ⟨b, o + 4, none⟩ = some (.string y.s) := by simpa using e4
 have e5' : w1.cell? ⟨b, o + 5, none⟩ = some (.slice A2 y.l.length c2') := by simpa using e5
 clear hy hex hsl hfv e0 e1 e2 e3 e4 e5 hn
 go_wp2_with fail
 refine hcall.out.mono ?_
 clear hcall e0' e1' e2' e3' e4' e5'
 rintro e w2 ⟨v0, rfl, hv0, hb2⟩
 have HG0 := Lib.hid (getD_map (f := evX vs vals) HY.out)
 generalize hr0 : evX vs vals y = r0 at *
 have hb3 := bone w2 (.cells #[.int .i64 v0.kind, .int .i64 v0.n, .string v0.s] 63)
 have hF := Blk.new w2 63 #[.int .i64 v0.kind, .int .i64 v0.n, .string v0.s]
 have hb13 := bthen hb2 hb3
 have hB3 := hB.now hb13
 have hl3 := SlE.now hl1 hb13
 clear q0 q1 q2 q3 q4 q5
 have l2' := hF.lt
 go_upto_region 7 with fail
 generalize hw3 : w2.alloc (.cells #[.int .i64 v0.kind, .int .i64 v0.n, .string v0.s] 63) = w3 at *
 clear hw3
 obtain ⟨q0, q1, q2, q3, q4, q5⟩ := hB3.c6
 obtain ⟨f0, f1, f2⟩ := hF.c3
 cases r0 with
 | none =>
  have HR : Hid (evX vs vals x = none) := by
   show _ = _
   rw [HKEY.out]
   unfold evO
   rw [if_neg (by omega), if_neg (by omega), HG0.out]
  clear f0 f1 f2 q0 q1 q2 q3 q4 q5
  obtain ⟨⟨k0, k1, k2⟩, hS, ⟨y0, y1, y2⟩, hbS⟩ := HST.out w3 (.int .i64 0) (.int .i64 0) (.string ⟨#[]⟩) hb13
  go_wp2_with fail
  obtain ⟨t0, t1, t2⟩ := hS.c3
  refine bodyPost_ret (v := .tuple #[.agg #[.int .i64 0, .int .i64 0, .string ⟨#[]⟩], .bool false]) (by simp [results, Tryz.results144, go_sem, t0, t1, t2]) rfl ?_
  exact RetO.cast HR.out ⟨⟨0, 0, ⟨#[]⟩⟩, rfl, fun a h => (by cases h), hbS⟩

 | some a =>
  obtain rfl : v0 = a := hv0 a rfl
  have HVA := Lib.hid (HV0.out _ rfl)
  clear hv0
  have hli : 1 < x.l.length := by have := HSL.out; omega
  obtain ⟨b1, o1, y1, ylv, n1, hn, hA1, hD1, hy, hex, hfv, hsl, e0, e1, e2, e3, e4, e5⟩ := hl3.at_ hli
  injection hA1 with hA1
  injection hA1 with g1 g2 _
  subst g1 g2
  have HY1 := Lib.hid hy
  have hym1 := List.mem_of_getElem? hy
  obtain ⟨A2, c2', rfl, m1, m2, _⟩ := hsl.open_
  have hcall := Lib.hid (ih n1 (by omega) vs vals y1 _ _ _ _ (h0.part hym1 (bthen hb hb13) hex))
  have HV1 := Lib.hid (fun (a : Val) (h : evX vs vals y1 = some a) => h0.val hym1 h)
  have i1 : (1 : Int) < (x.l.length : Int) := by omega
  clear hy hex hsl hfv hn
  go_wp2_with fail
  refine hcall.out.mono ?_
  clear hcall e0 e1 e2 e3 e4 e5
  rintro e w4 ⟨v1, rfl, hv1', hb4⟩
  have HG1 := Lib.hid (getD_map (f := evX vs vals) HY1.out)
  generalize hr1 : evX vs vals y1 = r1 at *
  have hb5 := bone w4 (.cells #[.int .i64 v1.kind, .int .i64 v1.n, .string v1.s] 63)
  have hG := Blk.new w4 63 #[.int .i64 v1.kind, .int .i64 v1.n, .string v1.s]
  have hb35 := bthen hb4 hb5
  have hb15 := bthen hb13 hb35
  have hB5 := hB3.now hb35
  have hF5 := hF.now hb35
  clear f0 f1 f2 q0 q1 q2 q3 q4 q5
  have l3' := hG.lt
  go_upto_region 22 with fail
  generalize hw5 : w4.alloc (.cells #[.int .i64 v1.kind, .int .i64 v1.n, .string v1.s] 63) = w5 at *
  clear hw5
  obtain ⟨q0, q1, q2, q3, q4, q5⟩ := hB5.c6
  obtain ⟨f0, f1, f2⟩ := hF5.c3
  obtain ⟨g0, g1, g2⟩ := hG.c3
  cases r1 with
  | none =>
   have HR : Hid (evX vs vals x = none) := by
    show _ = _
    rw [HKEY.out]
    unfold evO
    rw [if_neg (by omega), if_neg (by omega), HG0.out]
    show (if _ then _ else _) = _
    rw [if_neg (by omega), if_neg (by omega), if_neg (by omega), if_neg (by omega), if_neg (by omega), HG1.out]
   clear f0 f1 f2 g0 g1 g2 q0 q1 q2 q3 q4 q5
   obtain ⟨⟨k0, k1, k2⟩, hS, ⟨y0, y1, y2⟩, hbS⟩ := HST.out w5 (.int .i64 0) (.int .i64 0) (.string ⟨#[]⟩) hb15
   go_wp2_with fail
   obtain ⟨t0, t1, t2⟩ := hS.c3
   refine bodyPost_ret (v := .tuple #[.agg #[.int .i64 0, .int .i64 0, .string ⟨#[]⟩], .bool false]) (by simp [results, Tryz.results144, go_sem, t0, t1, t2]) rfl ?_
   exact RetO.cast HR.out ⟨⟨0, 0, ⟨#[]⟩⟩, rfl, fun a h => (by cases h), hbS⟩

  | some c =>
   obtain rfl : v1 = c := hv1' c rfl
   have HR : Hid (evX vs vals x = numV (v0.n * v1.n)) := by
    show _ = _
    rw [HKEY.out]
    unfold evO
    rw [if_neg (by omega), if_neg (by omega), HG0.out]
    show (if _ then _ else _) = _
    rw [if_neg (by omega), if_neg (by omega), if_neg (by omega), if_neg (by omega), if_neg (by omega), HG1.out]
    show (if _ then _ else _) = _
    rw [if_neg (by omega), if_neg (by omega), if_neg (by omega), if_neg (by omega), if_neg (by omega)]
   have hn0 := h0.nums (by omega) (List.mem_of_getElem? HY.out)
   have hn1 := h0.nums (by omega) hym1
   have hr0 := num_range HVA.out.2 (HVA.out.1.trans hn0)
   have hva1 := HV1.out _ rfl
   have hr1 := num_range hva1.2 (hva1.1.trans hn1)
   clear hva1 hn0 hn1
   go_wp2_with fail
   refine (product_any v0.n v1.n _ hr0 hr1).mono ?_
   rintro e w6 ⟨tv, rfl, htv, hb6⟩
   clear f0 f1 f2 g0 g1 g2 q0 q1 q2 q3 q4 q5
   generalize numV (v0.n * v1.n) = r at *
   obtain ⟨⟨k0, k1, k2⟩, hS, ⟨y0, y1, y2⟩, hbS⟩ := HST.out w6 (.int .i64 tv.kind) (.int .i64 tv.n) (.string tv.s) (bthen hb15 hb6)
   go_wp2_with fail
   obtain ⟨t0, t1, t2⟩ := hS.c3
   refine bodyPost_ret (v := .tuple #[.agg #[.int .i64 tv.kind, .int .i64 tv.n, .string tv.s], .bool r.isSome]) (by simp [results, Tryz.results144, go_sem, t0, t1, t2]) rfl ?_
   exact RetO.cast HR.out ⟨tv, rfl, htv, hbS⟩
def canAt (n : Net) (m : List Int) (i : Nat) : Bool := match n.trans[i]? with | some t => canB t.ins m | none => false
def enTo (n : Net) (m : List Int) (k : Nat) : List Int := ((List.range k).filter (canAt n m)).map fun (i : Nat) => (i : Int)
def enB (n : Net) (m : List Int) : List Int := enTo n m n.trans.length
def enE (n : Net) (m : List Int) : List Int × Int := if (validB n && markingB n.places m) = false then ([], 1) else (enB n m, 0)
theorem enTo_yes {n : Net} {m : List Int} {k : Nat} {t : Tr} (ht : n.trans[k]? = some t) (h : canB t.ins m = true) : enTo n m (k + 1) = enTo n m k ++ [(k : Int)] := by
 unfold enTo
 rw [List.range_succ, List.filter_append, List.map_append]
 have : canAt n m k = true := by unfold canAt; rw [ht]; exact h
 simp [this]
theorem enTo_no {n : Net} {m : List Int} {k : Nat} {t : Tr} (ht : n.trans[k]? = some t) (h : canB t.ins m = false) : enTo n m (k + 1) = enTo n m k := by
 unfold enTo
 rw [List.range_succ, List.filter_append, List.map_append]
 have : canAt n m k = false := by unfold canAt; rw [ht]; exact h
 simp [this]
theorem enTo_len (n : Net) (m : List Int) (k : Nat) : (enTo n m k).length ≤ k := by
 unfold enTo
 rw [List.length_map]
 exact Nat.le_trans (List.length_filter_le _ _) (by simp)
theorem enTo_fit (n : Net) (m : List Int) (k : Nat) (hk : k ≤ 100) : ∀ z ∈ enTo n m k, Fit z := by
 intro z hz
 unfold enTo at hz
 obtain ⟨i, hi, rfl⟩ := List.mem_map.1 hz
 have := List.mem_range.1 (List.mem_filter.1 hi).1
 unfold Fit; omega
set_option maxHeartbeats 1000000 in
theorem enabledX_any (n : Net) (v mv : Value) (m : List Int) (w : World) (h : IsNet (Lt w.heap.size) w v n) (hm : SlI (Lt w.heap.size) w mv m) :
  Calls Tryz.prog 55 #[v, mv] w (RetIE (enE n m).1 (enE n m).2 w) := by
 have h0 := h
 obtain ⟨tv, rfl, hp, hs, hkk, ht⟩ := h
 obtain ⟨A, c, rfl, h1, h2, ht⟩ := ht.open_
 go_enter Tryz.func55, Tryz.ntmps55
 go_wp2_with fail
 have hb := bone w (Obj.cells #[Value.int IntKind.i64 n.places, Value.slice A n.trans.length c, Value.int IntKind.i64 n.source, Value.int IntKind.i64 n.sink] 24)
 refine (marking_any n _ _ m _ (h0.now hb) (hm.now hb)).mono ?_
 rintro e w1 ⟨rfl, hb1⟩
 have hbw := bthen hb hb1
 have hB1 := (Blk.new w 24 #[.int .i64 n.places, .slice A n.trans.length c, .int .i64 n.source, .int .i64 n.sink]).now hb1
 obtain ⟨q0, q1, q2, q3⟩ := hB1.c4
 generalize hq : (validB n && markingB n.places m) = q
 have HQ := Lib.hid hq
 clear hq
 cases q
 ·have HE : Hid (enE n m = ([], 1)) := by show enE n m = _; unfold enE; rw [HQ.out]; rfl
  go_wp2_with fail
  go_ret2
  rw [HE.out]
  exact ⟨_, rfl, Sl.none_, hbw⟩
 have HE : Hid (enE n m = (enB n m, 0)) := by show enE n m = _; unfold enE; rw [HQ.out]; rfl
 obtain ⟨HV, HM⟩ := (Bool.and_eq_true _ _).mp HQ.out
 obtain ⟨v1, v2, v3, v4⟩ := validOk HV
 obtain ⟨hml, hmw⟩ := markOk HM
 have HTO := Lib.hid v4
 have HIN : Hid (∀ t ∈ n.trans, Inside t.ins m) := fun t htt p hp => by have := places_mem (trPlaces (v4 t htt)).1 p hp; omega
 have HNN : Hid (NonNeg m) := fun z hz => (hmw z hz).1
 have HM := Lib.hid HM
 clear v4 hmw HV
 have hlt1 := hB1.lt
 go_wp2_with fail
 clear q0 q1 q2 q3
 go_loopw [6, 16] (fun ov i wr => ∃ k : Nat, k ≤ n.trans.length ∧ i = .int .i64 k ∧ wr.ownsRow (w.heap.size + 1) 3 1 ov (enTo n m k).length ((enTo n m k).map (Value.int .i64)) ∧ Below w.heap.size w wr ∧ w.heap.size < wr.heap.size) (fun _ i _ => n.trans.length - (intOf i).toNat)
 case atStart => exact ⟨0, Nat.zero_le _, rfl, World.ownsRow_nil _ _ _ _, hbw, hlt1⟩
 case round =>
  obtain ⟨k, hk, rfl, hown, hbr, hltr⟩ := hrel
  by_cases hlt : k < n.trans.length
  ·obtain ⟨b, o, t, iv, ov', rfl, hD, hx, hlb, hti, hto, d0, d1, d2⟩ := (ht.now hbr).at_ hlt
   have HX := Lib.hid hx
   have hen := enTo_len n m k
   clear hx
   have hbt := bone wr (.cells #[.string t.label, iv, ov'] 112)
   obtain ⟨Ai, ci, rfl, i1, i2, hti⟩ := hti.open_
   obtain ⟨Ao, co, rfl, o1, o2, hto⟩ := hto.open_
   go_wp2_with fail
   refine (enabled_any t _ _ m _ ⟨_, _, rfl, hlb, hti.now hbt, hto.now hbt⟩ ((hm.now hbr).now hbt) (HIN.out t (List.mem_of_getElem? HX.out)) HNN.out).mono ?_
   rintro e w2 ⟨rfl, hb2⟩
   have hb3 := bthen (bthen hbr hbt) hb2
   have hown2 := own_now (own_now hown hbt) hb2
   have hlt2 : w.heap.size < w2.heap.size := Nat.lt_of_lt_of_le hltr (Nat.le_trans hbt.size hb2.size)
   generalize hq : canB t.ins m = q
   have HQ := Lib.hid hq
   clear hq hbt hb2 hown
   cases q
   ·have HS := Lib.hid (enTo_no (m := m) HX.out HQ.out)
    go_wp2_with fail
    go_roundw
    case rel => exact ⟨k + 1, by omega, by go_num, by rw [HS.out]; exact hown2, hb3, hlt2⟩
    case measure => simp [intOf]; omega
   ·have HS := Lib.hid (enTo_yes (m := m) HX.out HQ.out)
    go_wp2_with (at_builtin; refine wpList_push appInts rfl (.tmp 24) (.tmp 26) rfl w2 [.int .i64 (k : Int)] rfl (by simp [Value.oneCell']) _ (enTo n m k).length ((enTo n m k).map (Value.int .i64)) rfl hown2 rfl (by omega) (by omega) ?_; intro v' w' hown' hgr hat)
    have hbg : Below (w.heap.size + 1) w2 w' := below_of_grown hgr (by omega) (fun g hg => (hown2.lt g hg).1)
    go_roundw
    case rel =>
     refine ⟨k + 1, by omega, by go_num, ?_, hb3.trans (hbg.mono (by omega)), Nat.lt_of_lt_of_le hlt2 hbg.size⟩
     rw [HS.out]; simpa using hown'
    case measure => simp [intOf]; omega
  ·obtain rfl : k = n.trans.length := by omega
   go_wp2_with fail
   go_ret2
   rw [HE.out]
   exact ⟨_, rfl, SlI.of_own hown (enTo_fit n m _ (by omega)), hbr⟩
def readB : List UInt8 → List UInt8 → Int × List UInt8 × List UInt8
 | _, [] => (4, [], [])
 | acc, c :: r =>
  if c.toNat = 34 then (0, acc, r)
  else if c.toNat = 92 then
   match r with
   | [] => (4, [], [])
   | d :: r' => if d.toNat = 34 ∨ d.toNat = 92 then readB (acc ++ [d]) r' else (3, [], [])
  else readB (acc ++ [c]) r
theorem read_end {acc r : List UInt8} {c : UInt8} (h : c.toNat = 34) : readB acc (c :: r) = (0, acc, r) := by rw [readB.eq_def]; exact if_pos h
theorem read_esc {acc r : List UInt8} {c d : UInt8} (h1 : c.toNat ≠ 34) (h2 : c.toNat = 92) (h3 : d.toNat = 34 ∨ d.toNat = 92) : readB acc (c :: d :: r) = readB (acc ++ [d]) r := by rw [readB, if_neg h1, if_pos h2, if_pos h3]
theorem read_one {acc r : List UInt8} {c : UInt8} (h1 : c.toNat ≠ 34) (h2 : c.toNat ≠ 92) : readB acc (c :: r) = readB (acc ++ [c]) r := by rw [readB.eq_def]; exact (if_neg h1).trans (if_neg h2)
theorem escC_esc {c : UInt8} (h : c.toNat = 34 ∨ c.toNat = 92) : escC c = [92, c] := if_pos h
theorem escC_one {c : UInt8} (h : ¬ (c.toNat = 34 ∨ c.toNat = 92)) : escC c = [c] := if_neg h
theorem read_quote (t rest : List UInt8) : ∀ acc, readB acc (escB t ++ 34 :: rest) = (0, acc ++ t, rest) := by
 induction t with
 | nil => intro acc; rw [show escB [] ++ 34 :: rest = 34 :: rest from rfl, read_end rfl, List.append_nil]
 | cons c t ih =>
  intro acc
  have e : escB (c :: t) = escC c ++ escB t := by unfold escB; rw [List.flatMap_cons]
  rw [e, List.append_assoc]
  by_cases h : c.toNat = 34 ∨ c.toNat = 92
  ·rw [escC_esc h, List.cons_append, List.cons_append, List.nil_append, read_esc (by decide) rfl h, ih, List.append_assoc]; rfl
  ·rw [escC_one h, List.cons_append, List.nil_append, read_one (fun e => h (.inl e)) (fun e => h (.inr e)), ih, List.append_assoc]; rfl
def endE : Int × List UInt8 × List UInt8 → ByteArray × Int
 | (0, t, []) => if 16384 < t.length then (⟨#[]⟩, 5) else (⟨t.toArray⟩, 0)
 | (0, _, _ :: _) => (⟨#[]⟩, 3)
 | (e, _, _) => (⟨#[]⟩, e)
def headB (l : List UInt8) : Bool := match l with
 | [] => false
 | c :: _ => decide (c.toNat = 34)
def unquoteE (s : ByteArray) : ByteArray × Int :=
 if 32770 < s.size then (⟨#[]⟩, 5)
 else if headB s.data.toList && plainS s then endE (readB [] (s.data.toList.drop 1)) else (⟨#[]⟩, 3)
theorem size_list (t : ByteArray) : t.data.toList.length = t.size := Array.length_toList
theorem quote_size (t : ByteArray) : (quoteS t).size ≤ 2 * t.size + 2 := by
 have := escB_len t.data.toList
 unfold quoteS quoteL
 simp only [ByteArray.size, List.size_toArray, List.length_cons, List.length_append, List.length_nil]
 have e : t.data.toList.length = t.data.size := by simp
 omega
def okOf : Lib.NumEnd Int → Option Int
 | .ok n => some n
 | _ => none
def numOf (s : ByteArray) : Option Int := (okOf (Lib.atoiAll s.data.toList)).bind fun n => if numB n && decide (itoaS n = s) then some n else none
def txtOf (s : ByteArray) : Option ByteArray := if (unquoteE s).2 = 0 ∧ textB (unquoteE s).1 = true then some (unquoteE s).1 else none
def parseE (s : ByteArray) : Val × Int :=
 if s = trueS then (⟨1, 1, ⟨#[]⟩⟩, 0) else if s = falseS then (⟨1, 0, ⟨#[]⟩⟩, 0) else
 match numOf s with
 | some n => (⟨2, n, ⟨#[]⟩⟩, 0)
 | none => match txtOf s with
  | some t => (⟨3, 0, t⟩, 0)
  | none => (⟨0, 0, ⟨#[]⟩⟩, 3)
end Go.Proofs.YtlmenhjlgmejkaaGreatDoor
