/- Merged texts. -/
import Derived.Deep.RegionHeld
import Derived.Test.YtlmenhjlgmejkaaGreatDoorSn12
set_option linter.all false
namespace Go.Proofs.YtlmenhjlgmejkaaGreatDoor
open Go.RowKit
set_option maxHeartbeats 8000000 in
set_option maxRecDepth 100000 in
theorem value_eq (n : Nat) (ih : ∀ m, m < n → EvalAt 110 m) (vs : List Var) (vals : List Val) (x : Ex) (w : World) (uv vv u : Value) (h : EvArgs n vs vals x w uv vv u) (ho : x.op = 6) : Calls Tryz.prog 110 #[uv, vv, u] w (RetO (evX vs vals x) w) := by
 have HO := Lib.hid ho
 clear ho
 have h0 := h
 obtain ⟨hvs, hvl, hx, _, _, hA⟩ := h
 obtain ⟨Av, cv, rfl, v1, v2, hvs⟩ := hvs.open_
 obtain ⟨Aw, cw, rfl, v3, v4, hvl⟩ := hvl.open_
 obtain ⟨lv, rfl, h1, h2, h3, h4⟩ := hx
 obtain ⟨A, c, rfl, l1, l2, h4⟩ := h4.open_
 have hb := bbox (bone w (.cells #[.int .i64 x.op, .int .i64 x.v.kind, .int .i64 x.v.n, .string x.v.s, .string x.s, .slice A x.l.length c] 65)) (.cells #[.int .i64 0, .int .i64 0, .string ⟨#[]⟩] 63)
 have hB := (Blk.new w 65 #[.int .i64 x.op, .int .i64 x.v.kind, .int .i64 x.v.n, .string x.v.s, .string x.s, .slice A x.l.length c]).alloc (.cells #[.int .i64 0, .int .i64 0, .string ⟨#[]⟩] 63)
 have hR := Blk.new_at (t := 63) (cs := #[.int .i64 0, .int .i64 0, .string ⟨#[]⟩]) (w := w.alloc (.cells #[.int .i64 x.op, .int .i64 x.v.kind, .int .i64 x.v.n, .string x.v.s, .string x.s, .slice A x.l.length c] 65)) (s := w.heap.size + 1) (by simp)
 have hl1 := SlE.now h4 hb
 have hv1 := hvs.now hb
 have hw1 := hvl.now hb
 clear h4 hvs hvl
 go_enter Tryz.func110, Tryz.ntmps110
 go_upto_region 1 with fail
 generalize hww : (w.alloc (.cells #[.int .i64 x.op, .int .i64 x.v.kind, .int .i64 x.v.n, .string x.v.s, .string x.s, .slice A x.l.length c] 65)).alloc (.cells #[.int .i64 0, .int .i64 0, .string ⟨#[]⟩] 63) = w1 at *
 clear hww
 have ho := HO.out
 have HST : Hid (∀ (W : World) (x y z : Value), Below w1.heap.size w1 W →
   (W.frozen? ⟨w.heap.size + 1, 0, none⟩ = false ∧ W.frozen? ⟨w.heap.size + 1, 1, none⟩ = false ∧ W.frozen? ⟨w.heap.size + 1, 2, none⟩ = false) ∧
   Blk (((W.setCell ⟨w.heap.size + 1, 0, none⟩ x).setCell ⟨w.heap.size + 1, 1, none⟩ y).setCell ⟨w.heap.size + 1, 2, none⟩ z) (w.heap.size + 1) 63 #[x, y, z] ∧
   (W.cell? ⟨w.heap.size + 1, 0, none⟩ = some (.int .i64 0) ∧ W.cell? ⟨w.heap.size + 1, 1, none⟩ = some (.int .i64 0) ∧ W.cell? ⟨w.heap.size + 1, 2, none⟩ = some (.string ⟨#[]⟩)) ∧
   Below w.heap.size w (((W.setCell ⟨w.heap.size + 1, 0, none⟩ x).setCell ⟨w.heap.size + 1, 1, none⟩ y).setCell ⟨w.heap.size + 1, 2, none⟩ z)) :=
  fun W x y z hW => ⟨⟨(hR.now hW).frozen 0, (hR.now hW).frozen 1, (hR.now hW).frozen 2⟩, (hR.now hW).set3 _ _ _, (hR.now hW).c3, bset3 (bthen hb hW) (by omega) _ _ _⟩
 obtain ⟨q0, q1, q2, q3, q4, q5⟩ := hB.c6
 have HKEY := Lib.hid (ev_key vs vals x)
 have HSL := Lib.hid (shape_len h0.shape)
 have hlen : 1 ≤ x.l.length := by have := HSL.out; omega
 obtain ⟨b, o, y, ylv, n', hn, rfl, hD, hy, hex, hfv, hsl, e0, e1, e2, e3, e4, e5⟩ := hl1.at_ (k := 0) (by omega)
 have HY := Lib.hid hy
 have hym := List.mem_of_getElem? hy
 obtain ⟨A2, c2', rfl, m1, m2, _⟩ := hsl.open_
 have hcall := Lib.hid (ih n' (by omega) vs vals y _ _ _ _ (h0.part hym hb hex))
 have HV0 := Lib.hid (fun (a : Val) (h : evX vs vals y = some a) => h0.val hym h)
 have i0 : (0 : Int) < (x.l.length : Int) := by omega
 have e0' : w1.cell? ⟨b, o, none⟩ = some (.int .i64 y.op) := by simpa using e0
 have e1' : w1.cell? ⟨b, o + 1, none⟩ = some (.int .i64 y.v.kind) := by simpa using e1
 have e2' : w1.cell? ⟨b, o + 2, none⟩ = some (.int .i64 y.v.n) := by simpa using e2
 have e3' : w1.cell? ⟨b, o + 3, none⟩ = some (.string y.v.s) := by simpa using e3
 have e4' : w1.cell? ⟨b, o + 4, none⟩ = some (.string y.s) := by simpa using e4
 have e5' : w1.cell? ⟨b, o + 5, none⟩ = some (.slice A2 y.l.length c2') := by simpa using e5
 clear hy hex hsl hfv e0 e1 e2 e3 e4 e5 hn
 go_wp2_with fail
 refine hcall.out.mono ?_
 clear hcall e0' e1' e2' e3' e4' e5'
 rintro e w2 ⟨v0, rfl, hv0, hb2⟩
 have HG0 := Lib.hid (getD_map (f := evX vs vals) HY.out)
 generalize hr0 : evX vs vals y = r0 at *
 have hb3 := bone w2 (.cells #[.int .i64 v0.kind, .int .i64 v0.n, .string v0.s] 63)
 have hF := Blk.new w2 63 #[.int .i64 v0.kind, .int .i64 v0.n, .string v0.s]
 have hb13 := bthen hb2 hb3
 have hB3 := hB.now hb13
 have hl3 := SlE.now hl1 hb13
 clear q0 q1 q2 q3 q4 q5
 have l2' := hF.lt
 go_upto_region 7 with fail
 generalize hw3 : w2.alloc (.cells #[.int .i64 v0.kind, .int .i64 v0.n, .string v0.s] 63) = w3 at *
 clear hw3
 obtain ⟨q0, q1, q2, q3, q4, q5⟩ := hB3.c6
 obtain ⟨f0, f1, f2⟩ := hF.c3
 cases r0 with
 | none =>
  have HR : Hid (evX vs vals x = none) := by
   show _ = _
   rw [HKEY.out]
   unfold evO
   rw [if_neg (by omega), if_neg (by omega), HG0.out]
  clear f0 f1 f2 q0 q1 q2 q3 q4 q5
  obtain ⟨⟨k0, k1, k2⟩, hS, ⟨y0, y1, y2⟩, hbS⟩ := HST.out w3 (.int .i64 0) (.int .i64 0) (.string ⟨#[]⟩) hb13
  go_wp2_with fail
  obtain ⟨t0, t1, t2⟩ := hS.c3
  refine bodyPost_ret (v := .tuple #[.agg #[.int .i64 0, .int .i64 0, .string ⟨#[]⟩], .bool false]) (by simp [results, Tryz.results110, go_sem, t0, t1, t2]) rfl ?_
  exact RetO.cast HR.out ⟨⟨0, 0, ⟨#[]⟩⟩, rfl, fun a h => (by cases h), hbS⟩

 | some a =>
  obtain rfl : v0 = a := hv0 a rfl
  have HVA := Lib.hid (HV0.out _ rfl)
  clear hv0
  have hli : 1 < x.l.length := by have := HSL.out; omega
  obtain ⟨b1, o1, y1, ylv, n1, hn, hA1, hD1, hy, hex, hfv, hsl, e0, e1, e2, e3, e4, e5⟩ := hl3.at_ hli
  injection hA1 with hA1
  injection hA1 with g1 g2 _
  subst g1 g2
  have HY1 := Lib.hid hy
  have hym1 := List.mem_of_getElem? hy
  obtain ⟨A2, c2', rfl, m1, m2, _⟩ := hsl.open_
  have hcall := Lib.hid (ih n1 (by omega) vs vals y1 _ _ _ _ (h0.part hym1 (bthen hb hb13) hex))
  have HV1 := Lib.hid (fun (a : Val) (h : evX vs vals y1 = some a) => h0.val hym1 h)
  have i1 : (1 : Int) < (x.l.length : Int) := by omega
  clear hy hex hsl hfv hn
  go_wp2_with fail
  refine hcall.out.mono ?_
  clear hcall e0 e1 e2 e3 e4 e5
  rintro e w4 ⟨v1, rfl, hv1', hb4⟩
  have HG1 := Lib.hid (getD_map (f := evX vs vals) HY1.out)
  generalize hr1 : evX vs vals y1 = r1 at *
  have hb5 := bone w4 (.cells #[.int .i64 v1.kind, .int .i64 v1.n, .string v1.s] 63)
  have hG := Blk.new w4 63 #[.int .i64 v1.kind, .int .i64 v1.n, .string v1.s]
  have hb35 := bthen hb4 hb5
  have hb15 := bthen hb13 hb35
  have hB5 := hB3.now hb35
  have hF5 := hF.now hb35
  clear f0 f1 f2 q0 q1 q2 q3 q4 q5
  have l3' := hG.lt
  go_upto_region 32 with fail
  generalize hw5 : w4.alloc (.cells #[.int .i64 v1.kind, .int .i64 v1.n, .string v1.s] 63) = w5 at *
  clear hw5
  obtain ⟨q0, q1, q2, q3, q4, q5⟩ := hB5.c6
  obtain ⟨f0, f1, f2⟩ := hF5.c3
  obtain ⟨g0, g1, g2⟩ := hG.c3
  cases r1 with
  | none =>
   have HR : Hid (evX vs vals x = none) := by
    show _ = _
    rw [HKEY.out]
    unfold evO
    rw [if_neg (by omega), if_neg (by omega), HG0.out]
    show (if _ then _ else _) = _
    rw [if_neg (by omega), if_neg (by omega), if_neg (by omega), if_neg (by omega), if_neg (by omega), HG1.out]
   clear f0 f1 f2 g0 g1 g2 q0 q1 q2 q3 q4 q5
   obtain ⟨⟨k0, k1, k2⟩, hS, ⟨y0, y1, y2⟩, hbS⟩ := HST.out w5 (.int .i64 0) (.int .i64 0) (.string ⟨#[]⟩) hb15
   go_wp2_with fail
   obtain ⟨t0, t1, t2⟩ := hS.c3
   refine bodyPost_ret (v := .tuple #[.agg #[.int .i64 0, .int .i64 0, .string ⟨#[]⟩], .bool false]) (by simp [results, Tryz.results110, go_sem, t0, t1, t2]) rfl ?_
   exact RetO.cast HR.out ⟨⟨0, 0, ⟨#[]⟩⟩, rfl, fun a h => (by cases h), hbS⟩

  | some c =>
   obtain rfl : v1 = c := hv1' c rfl
   have HR : Hid (evX vs vals x = some (truthV (decide (v0 = v1)))) := by
    show _ = _
    rw [HKEY.out]
    unfold evO
    rw [if_neg (by omega), if_neg (by omega), HG0.out]
    show (if _ then _ else _) = _
    rw [if_neg (by omega), if_neg (by omega), if_neg (by omega), if_neg (by omega), if_neg (by omega), HG1.out]
    show (if _ then _ else _) = _
    rw [if_pos ho]
   generalize hd : decide (v0 = v1) = d at *
   have heq := fun W => run_eqV W v0 v1
   rw [hd] at heq
   clear hd
   go_wp2_with fail
   refine (truth_ref d _).mono ?_
   rintro e w6 ⟨rfl, hb6⟩
   clear f0 f1 f2 g0 g1 g2 q0 q1 q2 q3 q4 q5
   have ev : valV (truthV d) = .agg #[.int .i64 (truthV d).kind, .int .i64 (truthV d).n, .string (truthV d).s] := rfl
   rw [ev]
   generalize truthV d = tv at *
   obtain ⟨⟨k0, k1, k2⟩, hS, ⟨y0, y1, y2⟩, hbS⟩ := HST.out w6 (.int .i64 tv.kind) (.int .i64 tv.n) (.string tv.s) (bthen hb15 hb6)
   go_wp2_with fail
   obtain ⟨t0, t1, t2⟩ := hS.c3
   refine bodyPost_ret (v := .tuple #[.agg #[.int .i64 tv.kind, .int .i64 tv.n, .string tv.s], .bool true]) (by simp [results, Tryz.results110, go_sem, t0, t1, t2]) rfl ?_
   exact RetO.cast HR.out ⟨tv, rfl, fun a h => (by injection h), hbS⟩
set_option maxHeartbeats 8000000 in
set_option maxRecDepth 100000 in
theorem value_lt (n : Nat) (ih : ∀ m, m < n → EvalAt 110 m) (vs : List Var) (vals : List Val) (x : Ex) (w : World) (uv vv u : Value) (h : EvArgs n vs vals x w uv vv u) (ho : x.op = 7) : Calls Tryz.prog 110 #[uv, vv, u] w (RetO (evX vs vals x) w) := by
 have HO := Lib.hid ho
 clear ho
 have h0 := h
 obtain ⟨hvs, hvl, hx, _, _, hA⟩ := h
 obtain ⟨Av, cv, rfl, v1, v2, hvs⟩ := hvs.open_
 obtain ⟨Aw, cw, rfl, v3, v4, hvl⟩ := hvl.open_
 obtain ⟨lv, rfl, h1, h2, h3, h4⟩ := hx
 obtain ⟨A, c, rfl, l1, l2, h4⟩ := h4.open_
 have hb := bbox (bone w (.cells #[.int .i64 x.op, .int .i64 x.v.kind, .int .i64 x.v.n, .string x.v.s, .string x.s, .slice A x.l.length c] 65)) (.cells #[.int .i64 0, .int .i64 0, .string ⟨#[]⟩] 63)
 have hB := (Blk.new w 65 #[.int .i64 x.op, .int .i64 x.v.kind, .int .i64 x.v.n, .string x.v.s, .string x.s, .slice A x.l.length c]).alloc (.cells #[.int .i64 0, .int .i64 0, .string ⟨#[]⟩] 63)
 have hR := Blk.new_at (t := 63) (cs := #[.int .i64 0, .int .i64 0, .string ⟨#[]⟩]) (w := w.alloc (.cells #[.int .i64 x.op, .int .i64 x.v.kind, .int .i64 x.v.n, .string x.v.s, .string x.s, .slice A x.l.length c] 65)) (s := w.heap.size + 1) (by simp)
 have hl1 := SlE.now h4 hb
 have hv1 := hvs.now hb
 have hw1 := hvl.now hb
 clear h4 hvs hvl
 go_enter Tryz.func110, Tryz.ntmps110
 go_upto_region 1 with fail
 generalize hww : (w.alloc (.cells #[.int .i64 x.op, .int .i64 x.v.kind, .int .i64 x.v.n, .string x.v.s, .string x.s, .slice A x.l.length c] 65)).alloc (.cells #[.int .i64 0, .int .i64 0, .string ⟨#[]⟩] 63) = w1 at *
 clear hww
 have ho := HO.out
 have HST : Hid (∀ (W : World) (x y z : Value), Below w1.heap.size w1 W →
   (W.frozen? ⟨w.heap.size + 1, 0, none⟩ = false ∧ W.frozen? ⟨w.heap.size + 1, 1, none⟩ = false ∧ W.frozen? ⟨w.heap.size + 1, 2, none⟩ = false) ∧
   Blk (((W.setCell ⟨w.heap.size + 1, 0, none⟩ x).setCell ⟨w.heap.size + 1, 1, none⟩ y).setCell ⟨w.heap.size + 1, 2, none⟩ z) (w.heap.size + 1) 63 #[x, y, z] ∧
   (W.cell? ⟨w.heap.size + 1, 0, none⟩ = some (.int .i64 0) ∧ W.cell? ⟨w.heap.size + 1, 1, none⟩ = some (.int .i64 0) ∧ W.cell? ⟨w.heap.size + 1, 2, none⟩ = some (.string ⟨#[]⟩)) ∧
   Below w.heap.size w (((W.setCell ⟨w.heap.size + 1, 0, none⟩ x).setCell ⟨w.heap.size + 1, 1, none⟩ y).setCell ⟨w.heap.size + 1, 2, none⟩ z)) :=
  fun W x y z hW => ⟨⟨(hR.now hW).frozen 0, (hR.now hW).frozen 1, (hR.now hW).frozen 2⟩, (hR.now hW).set3 _ _ _, (hR.now hW).c3, bset3 (bthen hb hW) (by omega) _ _ _⟩
 obtain ⟨q0, q1, q2, q3, q4, q5⟩ := hB.c6
 have HKEY := Lib.hid (ev_key vs vals x)
 have HSL := Lib.hid (shape_len h0.shape)
 have hlen : 1 ≤ x.l.length := by have := HSL.out; omega
 obtain ⟨b, o, y, ylv, n', hn, rfl, hD, hy, hex, hfv, hsl, e0, e1, e2, e3, e4, e5⟩ := hl1.at_ (k := 0) (by omega)
 have HY := Lib.hid hy
 have hym := List.mem_of_getElem? hy
 obtain ⟨A2, c2', rfl, m1, m2, _⟩ := hsl.open_
 have hcall := Lib.hid (ih n' (by omega) vs vals y _ _ _ _ (h0.part hym hb hex))
 have HV0 := Lib.hid (fun (a : Val) (h : evX vs vals y = some a) => h0.val hym h)
 have i0 : (0 : Int) < (x.l.length : Int) := by omega
 have e0' : w1.cell? ⟨b, o, none⟩ = some (.int .i64 y.op) := by simpa using e0
 have e1' : w1.cell? ⟨b, o + 1, none⟩ = some (.int .i64 y.v.kind) := by simpa using e1
 have e2' : w1.cell? ⟨b, o + 2, none⟩ = some (.int .i64 y.v.n) := by simpa using e2
 have e3' : w1.cell? ⟨b, o + 3, none⟩ = some (.string y.v.s) := by simpa using e3
 have e4' : w1.cell? ⟨b, o + 4, none⟩ = some (.string y.s) := by simpa using e4
 have e5' : w1.cell? ⟨b, o + 5, none⟩ = some (.slice A2 y.l.length c2') := by simpa using e5
 clear hy hex hsl hfv e0 e1 e2 e3 e4 e5 hn
 go_wp2_with fail
 refine hcall.out.mono ?_
 clear hcall e0' e1' e2' e3' e4' e5'
 rintro e w2 ⟨v0, rfl, hv0, hb2⟩
 have HG0 := Lib.hid (getD_map (f := evX vs vals) HY.out)
 generalize hr0 : evX vs vals y = r0 at *
 have hb3 := bone w2 (.cells #[.int .i64 v0.kind, .int .i64 v0.n, .string v0.s] 63)
 have hF := Blk.new w2 63 #[.int .i64 v0.kind, .int .i64 v0.n, .string v0.s]
 have hb13 := bthen hb2 hb3
 have hB3 := hB.now hb13
 have hl3 := SlE.now hl1 hb13
 clear q0 q1 q2 q3 q4 q5
 have l2' := hF.lt
 go_upto_region 7 with fail
 generalize hw3 : w2.alloc (.cells #[.int .i64 v0.kind, .int .i64 v0.n, .string v0.s] 63) = w3 at *
 clear hw3
 obtain ⟨q0, q1, q2, q3, q4, q5⟩ := hB3.c6
 obtain ⟨f0, f1, f2⟩ := hF.c3
 cases r0 with
 | none =>
  have HR : Hid (evX vs vals x = none) := by
   show _ = _
   rw [HKEY.out]
   unfold evO
   rw [if_neg (by omega), if_neg (by omega), HG0.out]
  clear f0 f1 f2 q0 q1 q2 q3 q4 q5
  obtain ⟨⟨k0, k1, k2⟩, hS, ⟨y0, y1, y2⟩, hbS⟩ := HST.out w3 (.int .i64 0) (.int .i64 0) (.string ⟨#[]⟩) hb13
  go_wp2_with fail
  obtain ⟨t0, t1, t2⟩ := hS.c3
  refine bodyPost_ret (v := .tuple #[.agg #[.int .i64 0, .int .i64 0, .string ⟨#[]⟩], .bool false]) (by simp [results, Tryz.results110, go_sem, t0, t1, t2]) rfl ?_
  exact RetO.cast HR.out ⟨⟨0, 0, ⟨#[]⟩⟩, rfl, fun a h => (by cases h), hbS⟩

 | some a =>
  obtain rfl : v0 = a := hv0 a rfl
  have HVA := Lib.hid (HV0.out _ rfl)
  clear hv0
  have hli : 1 < x.l.length := by have := HSL.out; omega
  obtain ⟨b1, o1, y1, ylv, n1, hn, hA1, hD1, hy, hex, hfv, hsl, e0, e1, e2, e3, e4, e5⟩ := hl3.at_ hli
  injection hA1 with hA1
  injection hA1 with g1 g2 _
  subst g1 g2
  have HY1 := Lib.hid hy
  have hym1 := List.mem_of_getElem? hy
  obtain ⟨A2, c2', rfl, m1, m2, _⟩ := hsl.open_
  have hcall := Lib.hid (ih n1 (by omega) vs vals y1 _ _ _ _ (h0.part hym1 (bthen hb hb13) hex))
  have HV1 := Lib.hid (fun (a : Val) (h : evX vs vals y1 = some a) => h0.val hym1 h)
  have i1 : (1 : Int) < (x.l.length : Int) := by omega
  clear hy hex hsl hfv hn
  go_wp2_with fail
  refine hcall.out.mono ?_
  clear hcall e0 e1 e2 e3 e4 e5
  rintro e w4 ⟨v1, rfl, hv1', hb4⟩
  have HG1 := Lib.hid (getD_map (f := evX vs vals) HY1.out)
  generalize hr1 : evX vs vals y1 = r1 at *
  have hb5 := bone w4 (.cells #[.int .i64 v1.kind, .int .i64 v1.n, .string v1.s] 63)
  have hG := Blk.new w4 63 #[.int .i64 v1.kind, .int .i64 v1.n, .string v1.s]
  have hb35 := bthen hb4 hb5
  have hb15 := bthen hb13 hb35
  have hB5 := hB3.now hb35
  have hF5 := hF.now hb35
  clear f0 f1 f2 q0 q1 q2 q3 q4 q5
  have l3' := hG.lt
  go_upto_region 32 with fail
  generalize hw5 : w4.alloc (.cells #[.int .i64 v1.kind, .int .i64 v1.n, .string v1.s] 63) = w5 at *
  clear hw5
  obtain ⟨q0, q1, q2, q3, q4, q5⟩ := hB5.c6
  obtain ⟨f0, f1, f2⟩ := hF5.c3
  obtain ⟨g0, g1, g2⟩ := hG.c3
  cases r1 with
  | none =>
   have HR : Hid (evX vs vals x = none) := by
    show _ = _
    rw [HKEY.out]
    unfold evO
    rw [if_neg (by omega), if_neg (by omega), HG0.out]
    show (if _ then _ else _) = _
    rw [if_neg (by omega), if_neg (by omega), if_neg (by omega), if_neg (by omega), if_neg (by omega), HG1.out]
   clear f0 f1 f2 g0 g1 g2 q0 q1 q2 q3 q4 q5
   obtain ⟨⟨k0, k1, k2⟩, hS, ⟨y0, y1, y2⟩, hbS⟩ := HST.out w5 (.int .i64 0) (.int .i64 0) (.string ⟨#[]⟩) hb15
   go_wp2_with fail
   obtain ⟨t0, t1, t2⟩ := hS.c3
   refine bodyPost_ret (v := .tuple #[.agg #[.int .i64 0, .int .i64 0, .string ⟨#[]⟩], .bool false]) (by simp [results, Tryz.results110, go_sem, t0, t1, t2]) rfl ?_
   exact RetO.cast HR.out ⟨⟨0, 0, ⟨#[]⟩⟩, rfl, fun a h => (by cases h), hbS⟩

  | some c =>
   obtain rfl : v1 = c := hv1' c rfl
   have HR : Hid (evX vs vals x = some (truthV (decide (v0.n < v1.n)))) := by
    show _ = _
    rw [HKEY.out]
    unfold evO
    rw [if_neg (by omega), if_neg (by omega), HG0.out]
    show (if _ then _ else _) = _
    rw [if_neg (by omega), if_neg (by omega), if_neg (by omega), if_neg (by omega), if_neg (by omega), HG1.out]
    show (if _ then _ else _) = _
    rw [if_neg (by omega), if_pos ho]
   generalize hd : decide (v0.n < v1.n) = d at *
   go_wp2_with fail
   refine (truth_ref d _).mono ?_
   rintro e w6 ⟨rfl, hb6⟩
   clear f0 f1 f2 g0 g1 g2 q0 q1 q2 q3 q4 q5
   have ev : valV (truthV d) = .agg #[.int .i64 (truthV d).kind, .int .i64 (truthV d).n, .string (truthV d).s] := rfl
   rw [ev]
   generalize truthV d = tv at *
   obtain ⟨⟨k0, k1, k2⟩, hS, ⟨y0, y1, y2⟩, hbS⟩ := HST.out w6 (.int .i64 tv.kind) (.int .i64 tv.n) (.string tv.s) (bthen hb15 hb6)
   go_wp2_with fail
   obtain ⟨t0, t1, t2⟩ := hS.c3
   refine bodyPost_ret (v := .tuple #[.agg #[.int .i64 tv.kind, .int .i64 tv.n, .string tv.s], .bool true]) (by simp [results, Tryz.results110, go_sem, t0, t1, t2]) rfl ?_
   exact RetO.cast HR.out ⟨tv, rfl, fun a h => (by injection h), hbS⟩
set_option maxHeartbeats 8000000 in
set_option maxRecDepth 100000 in
theorem value_le (n : Nat) (ih : ∀ m, m < n → EvalAt 110 m) (vs : List Var) (vals : List Val) (x : Ex) (w : World) (uv vv u : Value) (h : EvArgs n vs vals x w uv vv u) (ho : x.op = 8) : Calls Tryz.prog 110 #[uv, vv, u] w (RetO (evX vs vals x) w) := by
 have HO := Lib.hid ho
 clear ho
 have h0 := h
 obtain ⟨hvs, hvl, hx, _, _, hA⟩ := h
 obtain ⟨Av, cv, rfl, v1, v2, hvs⟩ := hvs.open_
 obtain ⟨Aw, cw, rfl, v3, v4, hvl⟩ := hvl.open_
 obtain ⟨lv, rfl, h1, h2, h3, h4⟩ := hx
 obtain ⟨A, c, rfl, l1, l2, h4⟩ := h4.open_
 have hb := bbox (bone w (.cells #[.int .i64 x.op, .int .i64 x.v.kind, .int .i64 x.v.n, .string x.v.s, .string x.s, .slice A x.l.length c] 65)) (.cells #[.int .i64 0, .int .i64 0, .string ⟨#[]⟩] 63)
 have hB := (Blk.new w 65 #[.int .i64 x.op, .int .i64 x.v.kind, .int .i64 x.v.n, .string x.v.s, .string x.s, .slice A x.l.length c]).alloc (.cells #[.int .i64 0, .int .i64 0, .string ⟨#[]⟩] 63)
 have hR := Blk.new_at (t := 63) (cs := #[.int .i64 0, .int .i64 0, .string ⟨#[]⟩]) (w := w.alloc (.cells #[.int .i64 x.op, .int .i64 x.v.kind, .int .i64 x.v.n, .string x.v.s, .string x.s, .slice A x.l.length c] 65)) (s := w.heap.size + 1) (by simp)
 have hl1 := SlE.now h4 hb
 have hv1 := hvs.now hb
 have hw1 := hvl.now hb
 clear h4 hvs hvl
 go_enter Tryz.func110, Tryz.ntmps110
 go_upto_region 1 with fail
 generalize hww : (w.alloc (.cells #[.int .i64 x.op, .int .i64 x.v.kind, .int .i64 x.v.n, .string x.v.s, .string x.s, .slice A x.l.length c] 65)).alloc (.cells #[.int .i64 0, .int .i64 0, .string ⟨#[]⟩] 63) = w1 at *
 clear hww
 have ho := HO.out
 have HST : Hid (∀ (W : World) (x y z : Value), Below w1.heap.size w1 W →
   (W.frozen? ⟨w.heap.size + 1, 0, none⟩ = false ∧ W.frozen? ⟨w.heap.size + 1, 1, none⟩ = false ∧ W.frozen? ⟨w.heap.size + 1, 2, none⟩ = false) ∧
   Blk (((W.setCell ⟨w.heap.size + 1, 0, none⟩ x).setCell ⟨w.heap.size + 1, 1, none⟩ y).setCell ⟨w.heap.size + 1, 2, none⟩ z) (w.heap.size + 1) 63 #[x, y, z] ∧
   (W.cell? ⟨w.heap.size + 1, 0, none⟩ = some (.int .i64 0) ∧ W.cell? ⟨w.heap.size + 1, 1, none⟩ = some (.int .i64 0) ∧ W.cell? ⟨w.heap.size + 1, 2, none⟩ = some (.string ⟨#[]⟩)) ∧
   Below w.heap.size w (((W.setCell ⟨w.heap.size + 1, 0, none⟩ x).setCell ⟨w.heap.size + 1, 1, none⟩ y).setCell ⟨w.heap.size + 1, 2, none⟩ z)) :=
  fun W x y z hW => ⟨⟨(hR.now hW).frozen 0, (hR.now hW).frozen 1, (hR.now hW).frozen 2⟩, (hR.now hW).set3 _ _ _, (hR.now hW).c3, bset3 (bthen hb hW) (by omega) _ _ _⟩
 obtain ⟨q0, q1, q2, q3, q4, q5⟩ := hB.c6
 have HKEY := Lib.hid (ev_key vs vals x)
 have HSL := Lib.hid (shape_len h0.shape)
 have hlen : 1 ≤ x.l.length := by have := HSL.out; omega
 obtain ⟨b, o, y, ylv, n', hn, rfl, hD, hy, hex, hfv, hsl, e0, e1, e2, e3, e4, e5⟩ := hl1.at_ (k := 0) (by omega)
 have HY := Lib.hid hy
 have hym := List.mem_of_getElem? hy
 obtain ⟨A2, c2', rfl, m1, m2, _⟩ := hsl.open_
 have hcall := Lib.hid (ih n' (by omega) vs vals y _ _ _ _ (h0.part hym hb hex))
 have HV0 := Lib.hid (fun (a : Val) (h : evX vs vals y = some a) => h0.val hym h)
 have i0 : (0 : Int) < (x.l.length : Int) := by omega
 have e0' : w1.cell? ⟨b, o, none⟩ = some (.int .i64 y.op) := by simpa using e0
 have e1' : w1.cell? ⟨b, o + 1, none⟩ = some (.int .i64 y.v.kind) := by simpa using e1
 have e2' : w1.cell? ⟨b, o + 2, none⟩ = some (.int .i64 y.v.n) := by simpa using e2
 have e3' : w1.cell? ⟨b, o + 3, none⟩ = some (.string y.v.s) := by simpa using e3
 have e4' : w1.cell? ⟨b, o + 4, none⟩ = some (.string y.s) := by simpa using e4
 have e5' : w1.cell? ⟨b, o + 5, none⟩ = some (.slice A2 y.l.length c2') := by simpa using e5
 clear hy hex hsl hfv e0 e1 e2 e3 e4 e5 hn
 go_wp2_with fail
 refine hcall.out.mono ?_
 clear hcall e0' e1' e2' e3' e4' e5'
 rintro e w2 ⟨v0, rfl, hv0, hb2⟩
 have HG0 := Lib.hid (getD_map (f := evX vs vals) HY.out)
 generalize hr0 : evX vs vals y = r0 at *
 have hb3 := bone w2 (.cells #[.int .i64 v0.kind, .int .i64 v0.n, .string v0.s] 63)
 have hF := Blk.new w2 63 #[.int .i64 v0.kind, .int .i64 v0.n, .string v0.s]
 have hb13 := bthen hb2 hb3
 have hB3 := hB.now hb13
 have hl3 := SlE.now hl1 hb13
 clear q0 q1 q2 q3 q4 q5
 have l2' := hF.lt
 go_upto_region 7 with fail
 generalize hw3 : w2.alloc (.cells #[.int .i64 v0.kind, .int .i64 v0.n, .string v0.s] 63) = w3 at *
 clear hw3
 obtain ⟨q0, q1, q2, q3, q4, q5⟩ := hB3.c6
 obtain ⟨f0, f1, f2⟩ := hF.c3
 cases r0 with
 | none =>
  have HR : Hid (evX vs vals x = none) := by
   show _ = _
   rw [HKEY.out]
   unfold evO
   rw [if_neg (by omega), if_neg (by omega), HG0.out]
  clear f0 f1 f2 q0 q1 q2 q3 q4 q5
  obtain ⟨⟨k0, k1, k2⟩, hS, ⟨y0, y1, y2⟩, hbS⟩ := HST.out w3 (.int .i64 0) (.int .i64 0) (.string ⟨#[]⟩) hb13
  go_wp2_with fail
  obtain ⟨t0, t1, t2⟩ := hS.c3
  refine bodyPost_ret (v := .tuple #[.agg #[.int .i64 0, .int .i64 0, .string ⟨#[]⟩], .bool false]) (by simp [results, Tryz.results110, go_sem, t0, t1, t2]) rfl ?_
  exact RetO.cast HR.out ⟨⟨0, 0, ⟨#[]⟩⟩, rfl, fun a h => (by cases h), hbS⟩

 | some a =>
  obtain rfl : v0 = a := hv0 a rfl
  have HVA := Lib.hid (HV0.out _ rfl)
  clear hv0
  have hli : 1 < x.l.length := by have := HSL.out; omega
  obtain ⟨b1, o1, y1, ylv, n1, hn, hA1, hD1, hy, hex, hfv, hsl, e0, e1, e2, e3, e4, e5⟩ := hl3.at_ hli
  injection hA1 with hA1
  injection hA1 with g1 g2 _
  subst g1 g2
  have HY1 := Lib.hid hy
  have hym1 := List.mem_of_getElem? hy
  obtain ⟨A2, c2', rfl, m1, m2, _⟩ := hsl.open_
  have hcall := Lib.hid (ih n1 (by omega) vs vals y1 _ _ _ _ (h0.part hym1 (bthen hb hb13) hex))
  have HV1 := Lib.hid (fun (a : Val) (h : evX vs vals y1 = some a) => h0.val hym1 h)
  have i1 : (1 : Int) < (x.l.length : Int) := by omega
  clear hy hex hsl hfv hn
  go_wp2_with fail
  refine hcall.out.mono ?_
  clear hcall e0 e1 e2 e3 e4 e5
  rintro e w4 ⟨v1, rfl, hv1', hb4⟩
  have HG1 := Lib.hid (getD_map (f := evX vs vals) HY1.out)
  generalize hr1 : evX vs vals y1 = r1 at *
  have hb5 := bone w4 (.cells #[.int .i64 v1.kind, .int .i64 v1.n, .string v1.s] 63)
  have hG := Blk.new w4 63 #[.int .i64 v1.kind, .int .i64 v1.n, .string v1.s]
  have hb35 := bthen hb4 hb5
  have hb15 := bthen hb13 hb35
  have hB5 := hB3.now hb35
  have hF5 := hF.now hb35
  clear f0 f1 f2 q0 q1 q2 q3 q4 q5
  have l3' := hG.lt
  go_upto_region 32 with fail
  generalize hw5 : w4.alloc (.cells #[.int .i64 v1.kind, .int .i64 v1.n, .string v1.s] 63) = w5 at *
  clear hw5
  obtain ⟨q0, q1, q2, q3, q4, q5⟩ := hB5.c6
  obtain ⟨f0, f1, f2⟩ := hF5.c3
  obtain ⟨g0, g1, g2⟩ := hG.c3
  cases r1 with
  | none =>
   have HR : Hid (evX vs vals x = none) := by
    show _ = _
    rw [HKEY.out]
    unfold evO
    rw [if_neg (by omega), if_neg (by omega), HG0.out]
    show (if _ then _ else _) = _
    rw [if_neg (by omega), if_neg (by omega), if_neg (by omega), if_neg (by omega), if_neg (by omega), HG1.out]
   clear f0 f1 f2 g0 g1 g2 q0 q1 q2 q3 q4 q5
   obtain ⟨⟨k0, k1, k2⟩, hS, ⟨y0, y1, y2⟩, hbS⟩ := HST.out w5 (.int .i64 0) (.int .i64 0) (.string ⟨#[]⟩) hb15
   go_wp2_with fail
   obtain ⟨t0, t1, t2⟩ := hS.c3
   refine bodyPost_ret (v := .tuple #[.agg #[.int .i64 0, .int .i64 0, .string ⟨#[]⟩], .bool false]) (by simp [results, Tryz.results110, go_sem, t0, t1, t2]) rfl ?_
   exact RetO.cast HR.out ⟨⟨0, 0, ⟨#[]⟩⟩, rfl, fun a h => (by cases h), hbS⟩

  | some c =>
   obtain rfl : v1 = c := hv1' c rfl
   have HR : Hid (evX vs vals x = some (truthV (decide (v0.n ≤ v1.n)))) := by
    show _ = _
    rw [HKEY.out]
    unfold evO
    rw [if_neg (by omega), if_neg (by omega), HG0.out]
    show (if _ then _ else _) = _
    rw [if_neg (by omega), if_neg (by omega), if_neg (by omega), if_neg (by omega), if_neg (by omega), HG1.out]
    show (if _ then _ else _) = _
    rw [if_neg (by omega), if_neg (by omega), if_pos ho]
   generalize hd : decide (v0.n ≤ v1.n) = d at *
   go_wp2_with fail
   refine (truth_ref d _).mono ?_
   rintro e w6 ⟨rfl, hb6⟩
   clear f0 f1 f2 g0 g1 g2 q0 q1 q2 q3 q4 q5
   have ev : valV (truthV d) = .agg #[.int .i64 (truthV d).kind, .int .i64 (truthV d).n, .string (truthV d).s] := rfl
   rw [ev]
   generalize truthV d = tv at *
   obtain ⟨⟨k0, k1, k2⟩, hS, ⟨y0, y1, y2⟩, hbS⟩ := HST.out w6 (.int .i64 tv.kind) (.int .i64 tv.n) (.string tv.s) (bthen hb15 hb6)
   go_wp2_with fail
   obtain ⟨t0, t1, t2⟩ := hS.c3
   refine bodyPost_ret (v := .tuple #[.agg #[.int .i64 tv.kind, .int .i64 tv.n, .string tv.s], .bool true]) (by simp [results, Tryz.results110, go_sem, t0, t1, t2]) rfl ?_
   exact RetO.cast HR.out ⟨tv, rfl, fun a h => (by injection h), hbS⟩
set_option maxHeartbeats 8000000 in
set_option maxRecDepth 100000 in
theorem value_add (n : Nat) (ih : ∀ m, m < n → EvalAt 110 m) (vs : List Var) (vals : List Val) (x : Ex) (w : World) (uv vv u : Value) (h : EvArgs n vs vals x w uv vv u) (ho : x.op = 9) : Calls Tryz.prog 110 #[uv, vv, u] w (RetO (evX vs vals x) w) := by
 have HO := Lib.hid ho
 clear ho
 have h0 := h
 obtain ⟨hvs, hvl, hx, _, _, hA⟩ := h
 obtain ⟨Av, cv, rfl, v1, v2, hvs⟩ := hvs.open_
 obtain ⟨Aw, cw, rfl, v3, v4, hvl⟩ := hvl.open_
 obtain ⟨lv, rfl, h1, h2, h3, h4⟩ := hx
 obtain ⟨A, c, rfl, l1, l2, h4⟩ := h4.open_
 have hb := bbox (bone w (.cells #[.int .i64 x.op, .int .i64 x.v.kind, .int .i64 x.v.n, .string x.v.s, .string x.s, .slice A x.l.length c] 65)) (.cells #[.int .i64 0, .int .i64 0, .string ⟨#[]⟩] 63)
 have hB := (Blk.new w 65 #[.int .i64 x.op, .int .i64 x.v.kind, .int .i64 x.v.n, .string x.v.s, .string x.s, .slice A x.l.length c]).alloc (.cells #[.int .i64 0, .int .i64 0, .string ⟨#[]⟩] 63)
 have hR := Blk.new_at (t := 63) (cs := #[.int .i64 0, .int .i64 0, .string ⟨#[]⟩]) (w := w.alloc (.cells #[.int .i64 x.op, .int .i64 x.v.kind, .int .i64 x.v.n, .string x.v.s, .string x.s, .slice A x.l.length c] 65)) (s := w.heap.size + 1) (by simp)
 have hl1 := SlE.now h4 hb
 have hv1 := hvs.now hb
 have hw1 := hvl.now hb
 clear h4 hvs hvl
 go_enter Tryz.func110, Tryz.ntmps110
 go_upto_region 1 with fail
 generalize hww : (w.alloc (.cells #[.int .i64 x.op, .int .i64 x.v.kind, .int .i64 x.v.n, .string x.v.s, .string x.s, .slice A x.l.length c] 65)).alloc (.cells #[.int .i64 0, .int .i64 0, .string ⟨#[]⟩] 63) = w1 at *
 clear hww
 have ho := HO.out
 have HST : Hid (∀ (W : World) (x y z : Value), Below w1.heap.size w1 W →
   (W.frozen? ⟨w.heap.size + 1, 0, none⟩ = false ∧ W.frozen? ⟨w.heap.size + 1, 1, none⟩ = false ∧ W.frozen? ⟨w.heap.size + 1, 2, none⟩ = false) ∧
   Blk (((W.setCell ⟨w.heap.size + 1, 0, none⟩ x).setCell ⟨w.heap.size + 1, 1, none⟩ y).setCell ⟨w.heap.size + 1, 2, none⟩ z) (w.heap.size + 1) 63 #[x, y, z] ∧
   (W.cell? ⟨w.heap.size + 1, 0, none⟩ = some (.int .i64 0) ∧ W.cell? ⟨w.heap.size + 1, 1, none⟩ = some (.int .i64 0) ∧ W.cell? ⟨w.heap.size + 1, 2, none⟩ = some (.string ⟨#[]⟩)) ∧
   Below w.heap.size w (((W.setCell ⟨w.heap.size + 1, 0, none⟩ x).setCell ⟨w.heap.size + 1, 1, none⟩ y).setCell ⟨w.heap.size + 1, 2, none⟩ z)) :=
  fun W x y z hW => ⟨⟨(hR.now hW).frozen 0, (hR.now hW).frozen 1, (hR.now hW).frozen 2⟩, (hR.now hW).set3 _ _ _, (hR.now hW).c3, bset3 (bthen hb hW) (by omega) _ _ _⟩
 obtain ⟨q0, q1, q2, q3, q4, q5⟩ := hB.c6
 have HKEY := Lib.hid (ev_key vs vals x)
 have HSL := Lib.hid (shape_len h0.shape)
 have hlen : 1 ≤ x.l.length := by have := HSL.out; omega
 obtain ⟨b, o, y, ylv, n', hn, rfl, hD, hy, hex, hfv, hsl, e0, e1, e2, e3, e4, e5⟩ := hl1.at_ (k := 0) (by omega)
 have HY := Lib.hid hy
 have hym := List.mem_of_getElem? hy
 obtain ⟨A2, c2', rfl, m1, m2, _⟩ := hsl.open_
 have hcall := Lib.hid (ih n' (by omega) vs vals y _ _ _ _ (h0.part hym hb hex))
 have HV0 := Lib.hid (fun (a : Val) (h : evX vs vals y = some a) => h0.val hym h)
 have i0 : (0 : Int) < (x.l.length : Int) := by omega
 have e0' : w1.cell? ⟨b, o, none⟩ = some (.int .i64 y.op) := by simpa using e0
 have e1' : w1.cell? ⟨b, o + 1, none⟩ = some (.int .i64 y.v.kind) := by simpa using e1
 have e2' : w1.cell? ⟨b, o + 2, none⟩ = some (.int .i64 y.v.n) := by simpa using e2
 have e3' : w1.cell? ⟨b, o + 3, none⟩ = some (.string y.v.s) := by simpa using e3
 have e4' : w1.cell? ⟨b, o + 4, none⟩ = some (.string y.s) := by simpa using e4
 have e5' : w1.cell? ⟨b, o + 5, none⟩ = some (.slice A2 y.l.length c2') := by simpa using e5
 clear hy hex hsl hfv e0 e1 e2 e3 e4 e5 hn
 go_wp2_with fail
 refine hcall.out.mono ?_
 clear hcall e0' e1' e2' e3' e4' e5'
 rintro e w2 ⟨v0, rfl, hv0, hb2⟩
 have HG0 := Lib.hid (getD_map (f := evX vs vals) HY.out)
 generalize hr0 : evX vs vals y = r0 at *
 have hb3 := bone w2 (.cells #[.int .i64 v0.kind, .int .i64 v0.n, .string v0.s] 63)
 have hF := Blk.new w2 63 #[.int .i64 v0.kind, .int .i64 v0.n, .string v0.s]
 have hb13 := bthen hb2 hb3
 have hB3 := hB.now hb13
 have hl3 := SlE.now hl1 hb13
 clear q0 q1 q2 q3 q4 q5
 have l2' := hF.lt
 go_upto_region 7 with fail
 generalize hw3 : w2.alloc (.cells #[.int .i64 v0.kind, .int .i64 v0.n, .string v0.s] 63) = w3 at *
 clear hw3
 obtain ⟨q0, q1, q2, q3, q4, q5⟩ := hB3.c6
 obtain ⟨f0, f1, f2⟩ := hF.c3
 cases r0 with
 | none =>
  have HR : Hid (evX vs vals x = none) := by
   show _ = _
   rw [HKEY.out]
   unfold evO
   rw [if_neg (by omega), if_neg (by omega), HG0.out]
  clear f0 f1 f2 q0 q1 q2 q3 q4 q5
  obtain ⟨⟨k0, k1, k2⟩, hS, ⟨y0, y1, y2⟩, hbS⟩ := HST.out w3 (.int .i64 0) (.int .i64 0) (.string ⟨#[]⟩) hb13
  go_wp2_with fail
  obtain ⟨t0, t1, t2⟩ := hS.c3
  refine bodyPost_ret (v := .tuple #[.agg #[.int .i64 0, .int .i64 0, .string ⟨#[]⟩], .bool false]) (by simp [results, Tryz.results110, go_sem, t0, t1, t2]) rfl ?_
  exact RetO.cast HR.out ⟨⟨0, 0, ⟨#[]⟩⟩, rfl, fun a h => (by cases h), hbS⟩

 | some a =>
  obtain rfl : v0 = a := hv0 a rfl
  have HVA := Lib.hid (HV0.out _ rfl)
  clear hv0
  have hli : 1 < x.l.length := by have := HSL.out; omega
  obtain ⟨b1, o1, y1, ylv, n1, hn, hA1, hD1, hy, hex, hfv, hsl, e0, e1, e2, e3, e4, e5⟩ := hl3.at_ hli
  injection hA1 with hA1
  injection hA1 with g1 g2 _
  subst g1 g2
  have HY1 := Lib.hid hy
  have hym1 := List.mem_of_getElem? hy
  obtain ⟨A2, c2', rfl, m1, m2, _⟩ := hsl.open_
  have hcall := Lib.hid (ih n1 (by omega) vs vals y1 _ _ _ _ (h0.part hym1 (bthen hb hb13) hex))
  have HV1 := Lib.hid (fun (a : Val) (h : evX vs vals y1 = some a) => h0.val hym1 h)
  have i1 : (1 : Int) < (x.l.length : Int) := by omega
  clear hy hex hsl hfv hn
  go_wp2_with fail
  refine hcall.out.mono ?_
  clear hcall e0 e1 e2 e3 e4 e5
  rintro e w4 ⟨v1, rfl, hv1', hb4⟩
  have HG1 := Lib.hid (getD_map (f := evX vs vals) HY1.out)
  generalize hr1 : evX vs vals y1 = r1 at *
  have hb5 := bone w4 (.cells #[.int .i64 v1.kind, .int .i64 v1.n, .string v1.s] 63)
  have hG := Blk.new w4 63 #[.int .i64 v1.kind, .int .i64 v1.n, .string v1.s]
  have hb35 := bthen hb4 hb5
  have hb15 := bthen hb13 hb35
  have hB5 := hB3.now hb35
  have hF5 := hF.now hb35
  clear f0 f1 f2 q0 q1 q2 q3 q4 q5
  have l3' := hG.lt
  go_upto_region 32 with fail
  generalize hw5 : w4.alloc (.cells #[.int .i64 v1.kind, .int .i64 v1.n, .string v1.s] 63) = w5 at *
  clear hw5
  obtain ⟨q0, q1, q2, q3, q4, q5⟩ := hB5.c6
  obtain ⟨f0, f1, f2⟩ := hF5.c3
  obtain ⟨g0, g1, g2⟩ := hG.c3
  cases r1 with
  | none =>
   have HR : Hid (evX vs vals x = none) := by
    show _ = _
    rw [HKEY.out]
    unfold evO
    rw [if_neg (by omega), if_neg (by omega), HG0.out]
    show (if _ then _ else _) = _
    rw [if_neg (by omega), if_neg (by omega), if_neg (by omega), if_neg (by omega), if_neg (by omega), HG1.out]
   clear f0 f1 f2 g0 g1 g2 q0 q1 q2 q3 q4 q5
   obtain ⟨⟨k0, k1, k2⟩, hS, ⟨y0, y1, y2⟩, hbS⟩ := HST.out w5 (.int .i64 0) (.int .i64 0) (.string ⟨#[]⟩) hb15
   go_wp2_with fail
   obtain ⟨t0, t1, t2⟩ := hS.c3
   refine bodyPost_ret (v := .tuple #[.agg #[.int .i64 0, .int .i64 0, .string ⟨#[]⟩], .bool false]) (by simp [results, Tryz.results110, go_sem, t0, t1, t2]) rfl ?_
   exact RetO.cast HR.out ⟨⟨0, 0, ⟨#[]⟩⟩, rfl, fun a h => (by cases h), hbS⟩

  | some c =>
   obtain rfl : v1 = c := hv1' c rfl
   have HR : Hid (evX vs vals x = numV (v0.n + v1.n)) := by
    show _ = _
    rw [HKEY.out]
    unfold evO
    rw [if_neg (by omega), if_neg (by omega), HG0.out]
    show (if _ then _ else _) = _
    rw [if_neg (by omega), if_neg (by omega), if_neg (by omega), if_neg (by omega), if_neg (by omega), HG1.out]
    show (if _ then _ else _) = _
    rw [if_neg (by omega), if_neg (by omega), if_neg (by omega), if_pos ho]
   have hn0 := h0.nums (by omega) (List.mem_of_getElem? HY.out)
   have hn1 := h0.nums (by omega) hym1
   have hr0 := num_range HVA.out.2 (HVA.out.1.trans hn0)
   have hva1 := HV1.out _ rfl
   have hr1 := num_range hva1.2 (hva1.1.trans hn1)
   clear hva1 hn0 hn1
   have hwr : IntKind.i64.wrap (v0.n + v1.n) = v0.n + v1.n := IntWalk.i64_in _ (by omega)
   go_wp2_with fail
   refine (enumber_ref (v0.n + v1.n) _).mono ?_
   rintro e w6 ⟨tv, rfl, htv, hb6⟩
   clear f0 f1 f2 g0 g1 g2 q0 q1 q2 q3 q4 q5
   generalize numV (v0.n + v1.n) = r at *
   obtain ⟨⟨k0, k1, k2⟩, hS, ⟨y0, y1, y2⟩, hbS⟩ := HST.out w6 (.int .i64 tv.kind) (.int .i64 tv.n) (.string tv.s) (bthen hb15 hb6)
   go_wp2_with fail
   obtain ⟨t0, t1, t2⟩ := hS.c3
   refine bodyPost_ret (v := .tuple #[.agg #[.int .i64 tv.kind, .int .i64 tv.n, .string tv.s], .bool r.isSome]) (by simp [results, Tryz.results110, go_sem, t0, t1, t2]) rfl ?_
   exact RetO.cast HR.out ⟨tv, rfl, htv, hbS⟩
set_option maxHeartbeats 8000000 in
set_option maxRecDepth 100000 in
theorem value_sub (n : Nat) (ih : ∀ m, m < n → EvalAt 110 m) (vs : List Var) (vals : List Val) (x : Ex) (w : World) (uv vv u : Value) (h : EvArgs n vs vals x w uv vv u) (ho : x.op = 10) : Calls Tryz.prog 110 #[uv, vv, u] w (RetO (evX vs vals x) w) := by
 have HO := Lib.hid ho
 clear ho
 have h0 := h
 obtain ⟨hvs, hvl, hx, _, _, hA⟩ := h
 obtain ⟨Av, cv, rfl, v1, v2, hvs⟩ := hvs.open_
 obtain ⟨Aw, cw, rfl, v3, v4, hvl⟩ := hvl.open_
 obtain ⟨lv, rfl, h1, h2, h3, h4⟩ := hx
 obtain ⟨A, c, rfl, l1, l2, h4⟩ := h4.open_
 have hb := bbox (bone w (.cells #[.int .i64 x.op, .int .i64 x.v.kind, .int .i64 x.v.n, .string x.v.s, .string x.s, .slice A x.l.length c] 65)) (.cells #[.int .i64 0, .int .i64 0, .string ⟨#[]⟩] 63)
 have hB := (Blk.new w 65 #[.int .i64 x.op, .int .i64 x.v.kind, .int .i64 x.v.n, .string x.v.s, .string x.s, .slice A x.l.length c]).alloc (.cells #[.int .i64 0, .int .i64 0, .string ⟨#[]⟩] 63)
 have hR := Blk.new_at (t := 63) (cs := #[.int .i64 0, .int .i64 0, .string ⟨#[]⟩]) (w := w.alloc (.cells #[.int .i64 x.op, .int .i64 x.v.kind, .int .i64 x.v.n, .string x.v.s, .string x.s, .slice A x.l.length c] 65)) (s := w.heap.size + 1) (by simp)
 have hl1 := SlE.now h4 hb
 have hv1 := hvs.now hb
 have hw1 := hvl.now hb
 clear h4 hvs hvl
 go_enter Tryz.func110, Tryz.ntmps110
 go_upto_region 1 with fail
 generalize hww : (w.alloc (.cells #[.int .i64 x.op, .int .i64 x.v.kind, .int .i64 x.v.n, .string x.v.s, .string x.s, .slice A x.l.length c] 65)).alloc (.cells #[.int .i64 0, .int .i64 0, .string ⟨#[]⟩] 63) = w1 at *
 clear hww
 have ho := HO.out
 have HST : Hid (∀ (W : World) (x y z : Value), Below w1.heap.size w1 W →
   (W.frozen? ⟨w.heap.size + 1, 0, none⟩ = false ∧ W.frozen? ⟨w.heap.size + 1, 1, none⟩ = false ∧ W.frozen? ⟨w.heap.size + 1, 2, none⟩ = false) ∧
   Blk (((W.setCell ⟨w.heap.size + 1, 0, none⟩ x).setCell ⟨w.heap.size + 1, 1, none⟩ y).setCell ⟨w.heap.size + 1, 2, none⟩ z) (w.heap.size + 1) 63 #[x, y, z] ∧
   (W.cell? ⟨w.heap.size + 1, 0, none⟩ = some (.int .i64 0) ∧ W.cell? ⟨w.heap.size + 1, 1, none⟩ = some (.int .i64 0) ∧ W.cell? ⟨w.heap.size + 1, 2, none⟩ = some (.string ⟨#[]⟩)) ∧
   Below w.heap.size w (((W.setCell ⟨w.heap.size + 1, 0, none⟩ x).setCell ⟨w.heap.size + 1, 1, none⟩ y).setCell ⟨w.heap.size + 1, 2, none⟩ z)) :=
  fun W x y z hW => ⟨⟨(hR.now hW).frozen 0, (hR.now hW).frozen 1, (hR.now hW).frozen 2⟩, (hR.now hW).set3 _ _ _, (hR.now hW).c3, bset3 (bthen hb hW) (by omega) _ _ _⟩
 obtain ⟨q0, q1, q2, q3, q4, q5⟩ := hB.c6
 have HKEY := Lib.hid (ev_key vs vals x)
 have HSL := Lib.hid (shape_len h0.shape)
 have hlen : 1 ≤ x.l.length := by have := HSL.out; omega
 obtain ⟨b, o, y, ylv, n', hn, rfl, hD, hy, hex, hfv, hsl, e0, e1, e2, e3, e4, e5⟩ := hl1.at_ (k := 0) (by omega)
 have HY := Lib.hid hy
 have hym := List.mem_of_getElem? hy
 obtain ⟨A2, c2', rfl, m1, m2, _⟩ := hsl.open_
 have hcall := Lib.hid (ih n' (by omega) vs vals y _ _ _ _ (h0.part hym hb hex))
 have HV0 := Lib.hid (fun (a : Val) (h : evX vs vals y = some a) => h0.val hym h)
 have i0 : (0 : Int) < (x.l.length : Int) := by omega
 have e0' : w1.cell? ⟨b, o, none⟩ = some (.int .i64 y.op) := by simpa using e0
 have e1' : w1.cell? ⟨b, o + 1, none⟩ = some (.int .i64 y.v.kind) := by simpa using e1
 have e2' : w1.cell? ⟨b, o + 2, none⟩ = some (.int .i64 y.v.n) := by simpa using e2
 have e3' : w1.cell? ⟨b, o + 3, none⟩ = some (.string y.v.s) := by simpa using e3
 have e4' : w1.cell? ⟨b, o + 4, none⟩ = some (.string y.s) := by simpa using e4
 have e5' : w1.cell? ⟨b, o + 5, none⟩ = some (.slice A2 y.l.length c2') := by simpa using e5
 clear hy hex hsl hfv e0 e1 e2 e3 e4 e5 hn
 go_wp2_with fail
 refine hcall.out.mono ?_
 clear hcall e0' e1' e2' e3' e4' e5'
 rintro e w2 ⟨v0, rfl, hv0, hb2⟩
 have HG0 := Lib.hid (getD_map (f := evX vs vals) HY.out)
 generalize hr0 : evX vs vals y = r0 at *
 have hb3 := bone w2 (.cells #[.int .i64 v0.kind, .int .i64 v0.n, .string v0.s] 63)
 have hF := Blk.new w2 63 #[.int .i64 v0.kind, .int .i64 v0.n, .string v0.s]
 have hb13 := bthen hb2 hb3
 have hB3 := hB.now hb13
 have hl3 := SlE.now hl1 hb13
 clear q0 q1 q2 q3 q4 q5
 have l2' := hF.lt
 go_upto_region 7 with fail
 generalize hw3 : w2.alloc (.cells #[.int .i64 v0.kind, .int .i64 v0.n, .string v0.s] 63) = w3 at *
 clear hw3
 obtain ⟨q0, q1, q2, q3, q4, q5⟩ := hB3.c6
 obtain ⟨f0, f1, f2⟩ := hF.c3
 cases r0 with
 | none =>
  have HR : Hid (evX vs vals x = none) := by
   show _ = _
   rw [HKEY.out]
   unfold evO
   rw [if_neg (by omega), if_neg (by omega), HG0.out]
  clear f0 f1 f2 q0 q1 q2 q3 q4 q5
  obtain ⟨⟨k0, k1, k2⟩, hS, ⟨y0, y1, y2⟩, hbS⟩ := HST.out w3 (.int .i64 0) (.int .i64 0) (.string ⟨#[]⟩) hb13
  go_wp2_with fail
  obtain ⟨t0, t1, t2⟩ := hS.c3
  refine bodyPost_ret (v := .tuple #[.agg #[.int .i64 0, .int .i64 0, .string ⟨#[]⟩], .bool false]) (by simp [results, Tryz.results110, go_sem, t0, t1, t2]) rfl ?_
  exact RetO.cast HR.out ⟨⟨0, 0, ⟨#[]⟩⟩, rfl, fun a h => (by cases h), hbS⟩

 | some a =>
  obtain rfl : v0 = a := hv0 a rfl
  have HVA := Lib.hid (HV0.out _ rfl)
  clear hv0
  have hli : 1 < x.l.length := by have := HSL.out; omega
  obtain ⟨b1, o1, y1, ylv, n1, hn, hA1, hD1, hy, hex, hfv, hsl, e0, e1, e2, e3, e4, e5⟩ := hl3.at_ hli
  injection hA1 with hA1
  injection hA1 with g1 g2 _
  subst g1 g2
  have HY1 := Lib.hid hy
  have hym1 := List.mem_of_getElem? hy
  obtain ⟨A2, c2', rfl, m1, m2, _⟩ := hsl.open_
  have hcall := Lib.hid (ih n1 (by omega) vs vals y1 _ _ _ _ (h0.part hym1 (bthen hb hb13) hex))
  have HV1 := Lib.hid (fun (a : Val) (h : evX vs vals y1 = some a) => h0.val hym1 h)
  have i1 : (1 : Int) < (x.l.length : Int) := by omega
  clear hy hex hsl hfv hn
  go_wp2_with fail
  refine hcall.out.mono ?_
  clear hcall e0 e1 e2 e3 e4 e5
  rintro e w4 ⟨v1, rfl, hv1', hb4⟩
  have HG1 := Lib.hid (getD_map (f := evX vs vals) HY1.out)
  generalize hr1 : evX vs vals y1 = r1 at *
  have hb5 := bone w4 (.cells #[.int .i64 v1.kind, .int .i64 v1.n, .string v1.s] 63)
  have hG := Blk.new w4 63 #[.int .i64 v1.kind, .int .i64 v1.n, .string v1.s]
  have hb35 := bthen hb4 hb5
  have hb15 := bthen hb13 hb35
  have hB5 := hB3.now hb35
  have hF5 := hF.now hb35
  clear f0 f1 f2 q0 q1 q2 q3 q4 q5
  have l3' := hG.lt
  go_upto_region 32 with fail
  generalize hw5 : w4.alloc (.cells #[.int .i64 v1.kind, .int .i64 v1.n, .string v1.s] 63) = w5 at *
  clear hw5
  obtain ⟨q0, q1, q2, q3, q4, q5⟩ := hB5.c6
  obtain ⟨f0, f1, f2⟩ := hF5.c3
  obtain ⟨g0, g1, g2⟩ := hG.c3
  cases r1 with
  | none =>
   have HR : Hid (evX vs vals x = none) := by
    show _ = _
    rw [HKEY.out]
    unfold evO
    rw [if_neg (by omega), if_neg (by omega), HG0.out]
    show (if _ then _ else _) = _
    rw [if_neg (by omega), if_neg (by omega), if_neg (by omega), if_neg (by omega), if_neg (by omega), HG1.out]
   clear f0 f1 f2 g0 g1 g2 q0 q1 q2 q3 q4 q5
   obtain ⟨⟨k0, k1, k2⟩, hS, ⟨y0, y1, y2⟩, hbS⟩ := HST.out w5 (.int .i64 0) (.int .i64 0) (.string ⟨#[]⟩) hb15
   go_wp2_with fail
   obtain ⟨t0, t1, t2⟩ := hS.c3
   refine bodyPost_ret (v := .tuple #[.agg #[.int .i64 0, .int .i64 0, .string ⟨#[]⟩], .bool false]) (by simp [results, Tryz.results110, go_sem, t0, t1, t2]) rfl ?_
   exact RetO.cast HR.out ⟨⟨0, 0, ⟨#[]⟩⟩, rfl, fun a h => (by cases h), hbS⟩

  | some c =>
   obtain rfl : v1 = c := hv1' c rfl
   have HR : Hid (evX vs vals x = numV (v0.n - v1.n)) := by
    show _ = _
    rw [HKEY.out]
    unfold evO
    rw [if_neg (by omega), if_neg (by omega), HG0.out]
    show (if _ then _ else _) = _
    rw [if_neg (by omega), if_neg (by omega), if_neg (by omega), if_neg (by omega), if_neg (by omega), HG1.out]
    show (if _ then _ else _) = _
    rw [if_neg (by omega), if_neg (by omega), if_neg (by omega), if_neg (by omega), if_pos ho]
   have hn0 := h0.nums (by omega) (List.mem_of_getElem? HY.out)
   have hn1 := h0.nums (by omega) hym1
   have hr0 := num_range HVA.out.2 (HVA.out.1.trans hn0)
   have hva1 := HV1.out _ rfl
   have hr1 := num_range hva1.2 (hva1.1.trans hn1)
   clear hva1 hn0 hn1
   have hwr : IntKind.i64.wrap (v0.n - v1.n) = v0.n - v1.n := IntWalk.i64_in _ (by omega)
   go_wp2_with fail
   refine (enumber_ref (v0.n - v1.n) _).mono ?_
   rintro e w6 ⟨tv, rfl, htv, hb6⟩
   clear f0 f1 f2 g0 g1 g2 q0 q1 q2 q3 q4 q5
   generalize numV (v0.n - v1.n) = r at *
   obtain ⟨⟨k0, k1, k2⟩, hS, ⟨y0, y1, y2⟩, hbS⟩ := HST.out w6 (.int .i64 tv.kind) (.int .i64 tv.n) (.string tv.s) (bthen hb15 hb6)
   go_wp2_with fail
   obtain ⟨t0, t1, t2⟩ := hS.c3
   refine bodyPost_ret (v := .tuple #[.agg #[.int .i64 tv.kind, .int .i64 tv.n, .string tv.s], .bool r.isSome]) (by simp [results, Tryz.results110, go_sem, t0, t1, t2]) rfl ?_
   exact RetO.cast HR.out ⟨tv, rfl, htv, hbS⟩
set_option maxHeartbeats 8000000 in
set_option maxRecDepth 100000 in
theorem value_mul (n : Nat) (ih : ∀ m, m < n → EvalAt 110 m) (vs : List Var) (vals : List Val) (x : Ex) (w : World) (uv vv u : Value) (h : EvArgs n vs vals x w uv vv u) (ho : x.op = 11) : Calls Tryz.prog 110 #[uv, vv, u] w (RetO (evX vs vals x) w) := by
 have HO := Lib.hid ho
 clear ho
 have h0 := h
 obtain ⟨hvs, hvl, hx, _, _, hA⟩ := h
 obtain ⟨Av, cv, rfl, v1, v2, hvs⟩ := hvs.open_
 obtain ⟨Aw, cw, rfl, v3, v4, hvl⟩ := hvl.open_
 obtain ⟨lv, rfl, h1, h2, h3, h4⟩ := hx
 obtain ⟨A, c, rfl, l1, l2, h4⟩ := h4.open_
 have hb := bbox (bone w (.cells #[.int .i64 x.op, .int .i64 x.v.kind, .int .i64 x.v.n, .string x.v.s, .string x.s, .slice A x.l.length c] 65)) (.cells #[.int .i64 0, .int .i64 0, .string ⟨#[]⟩] 63)
 have hB := (Blk.new w 65 #[.int .i64 x.op, .int .i64 x.v.kind, .int .i64 x.v.n, .string x.v.s, .string x.s, .slice A x.l.length c]).alloc (.cells #[.int .i64 0, .int .i64 0, .string ⟨#[]⟩] 63)
 have hR := Blk.new_at (t := 63) (cs := #[.int .i64 0, .int .i64 0, .string ⟨#[]⟩]) (w := w.alloc (.cells #[.int .i64 x.op, .int .i64 x.v.kind, .int .i64 x.v.n, .string x.v.s, .string x.s, .slice A x.l.length c] 65)) (s := w.heap.size + 1) (by simp)
 have hl1 := SlE.now h4 hb
 have hv1 := hvs.now hb
 have hw1 := hvl.now hb
 clear h4 hvs hvl
 go_enter Tryz.func110, Tryz.ntmps110
 go_upto_region 1 with fail
 generalize hww : (w.alloc (.cells #[.int .i64 x.op, .int .i64 x.v.kind, .int .i64 x.v.n, .string x.v.s, .string x.s, .slice A x.l.length c] 65)).alloc (.cells #[.int .i64 0, .int .i64 0, .string ⟨#[]⟩] 63) = w1 at *
 clear hww
 have ho := HO.out
 have HST : Hid (∀ (W : World) (x y z : Value), Below w1.heap.size w1 W →
   (W.frozen? ⟨w.heap.size + 1, 0, none⟩ = false ∧ W.frozen? ⟨w.heap.size + 1, 1, none⟩ = false ∧ W.frozen? ⟨w.heap.size + 1, 2, none⟩ = false) ∧
   Blk (((W.setCell ⟨w.heap.size + 1, 0, none⟩ x).setCell ⟨w.heap.size + 1, 1, none⟩ y).setCell ⟨w.heap.size + 1, 2, none⟩ z) (w.heap.size + 1) 63 #[x, y, z] ∧
   (W.cell? ⟨w.heap.size + 1, 0, none⟩ = some (.int .i64 0) ∧ W.cell? ⟨w.heap.size + 1, 1, none⟩ = some (.int .i64 0) ∧ W.cell? ⟨w.heap.size + 1, 2, none⟩ = some (.string ⟨#[]⟩)) ∧
   Below w.heap.size w (((W.setCell ⟨w.heap.size + 1, 0, none⟩ x).setCell ⟨w.heap.size + 1, 1, none⟩ y).setCell ⟨w.heap.size + 1, 2, none⟩ z)) :=
  fun W x y z hW => ⟨⟨(hR.now hW).frozen 0, (hR.now hW).frozen 1, (hR.now hW).frozen 2⟩, (hR.now hW).set3 _ _ _, (hR.now hW).c3, bset3 (bthen hb hW) (by omega) _ _ _⟩
 obtain ⟨q0, q1, q2, q3, q4, q5⟩ := hB.c6
 have HKEY := Lib.hid (ev_key vs vals x)
 have HSL := Lib.hid (shape_len h0.shape)
 have hlen : 1 ≤ x.l.length := by have := HSL.out; omega
 obtain ⟨b, o, y, ylv, n', hn, rfl, hD, hy, hex, hfv, hsl, e0, e1, e2, e3, e4, e5⟩ := hl1.at_ (k := 0) (by omega)
 have HY := Lib.hid hy
 have hym := List.mem_of_getElem? hy
 obtain ⟨A2, c2', rfl, m1, m2, _⟩ := hsl.open_
 have hcall := Lib.hid (ih n' (by omega) vs vals y _ _ _ _ (h0.part hym hb hex))
 have HV0 := Lib.hid (fun (a : Val) (h : evX vs vals y = some a) => h0.val hym h)
 have i0 : (0 : Int) < (x.l.length : Int) := by omega
 have e0' : w1.cell? ⟨b, o, none⟩ = some (.int .i64 y.op) := by simpa using e0
 have e1' : w1.cell? ⟨b, o + 1, none⟩ = some (.int .i64 y.v.kind) := by simpa using e1
 have e2' : w1.cell? ⟨b, o + 2, none⟩ = some (.int .i64 y.v.n) := by simpa using e2
 have e3' : w1.cell? ⟨b, o + 3, none⟩ = some (.string y.v.s) := by simpa using e3
 have e4' : w1.cell? ⟨b, o + 4, none⟩ = some (.string y.s) := by simpa using e4
 have e5' : w1.cell? ⟨b, o + 5, none⟩ = some (.slice A2 y.l.length c2') := by simpa using e5
 clear hy hex hsl hfv e0 e1 e2 e3 e4 e5 hn
 go_wp2_with fail
 refine hcall.out.mono ?_
 clear hcall e0' e1' e2' e3' e4' e5'
 rintro e w2 ⟨v0, rfl, hv0, hb2⟩
 have HG0 := Lib.hid (getD_map (f := evX vs vals) HY.out)
 generalize hr0 : evX vs vals y = r0 at *
 have hb3 := bone w2 (.cells #[.int .i64 v0.kind, .int .i64 v0.n, .string v0.s] 63)
 have hF := Blk.new w2 63 #[.int .i64 v0.kind, .int .i64 v0.n, .string v0.s]
 have hb13 := bthen hb2 hb3
 have hB3 := hB.now hb13
 have hl3 := SlE.now hl1 hb13
 clear q0 q1 q2 q3 q4 q5
 have l2' := hF.lt
 go_upto_region 7 with fail
 generalize hw3 : w2.alloc (.cells #[.int .i64 v0.kind, .int .i64 v0.n, .string v0.s] 63) = w3 at *
 clear hw3
 obtain ⟨q0, q1, q2, q3, q4, q5⟩ := hB3.c6
 obtain ⟨f0, f1, f2⟩ := hF.c3
 cases r0 with
 | none =>
  have HR : Hid (evX vs vals x = none) := by
   show _ = _
   rw [HKEY.out]
   unfold evO
   rw [if_neg (by omega), if_neg (by omega), HG0.out]
  clear f0 f1 f2 q0 q1 q2 q3 q4 q5
  obtain ⟨⟨k0, k1, k2⟩, hS, ⟨y0, y1, y2⟩, hbS⟩ := HST.out w3 (.int .i64 0) (.int .i64 0) (.string ⟨#[]⟩) hb13
  go_wp2_with fail
  obtain ⟨t0, t1, t2⟩ := hS.c3
  refine bodyPost_ret (v := .tuple #[.agg #[.int .i64 0, .int .i64 0, .string ⟨#[]⟩], .bool false]) (by simp [results, Tryz.results110, go_sem, t0, t1, t2]) rfl ?_
  exact RetO.cast HR.out ⟨⟨0, 0, ⟨#[]⟩⟩, rfl, fun a h => (by cases h), hbS⟩

 | some a =>
  obtain rfl : v0 = a := hv0 a rfl
  have HVA := Lib.hid (HV0.out _ rfl)
  clear hv0
  have hli : 1 < x.l.length := by have := HSL.out; omega
  obtain ⟨b1, o1, y1, ylv, n1, hn, hA1, hD1, hy, hex, hfv, hsl, e0, e1, e2, e3, e4, e5⟩ := hl3.at_ hli
  injection hA1 with hA1
  injection hA1 with g1 g2 _
  subst g1 g2
  have HY1 := Lib.hid hy
  have hym1 := List.mem_of_getElem? hy
  obtain ⟨A2, c2', rfl, m1, m2, _⟩ := hsl.open_
  have hcall := Lib.hid (ih n1 (by omega) vs vals y1 _ _ _ _ (h0.part hym1 (bthen hb hb13) hex))
  have HV1 := Lib.hid (fun (a : Val) (h : evX vs vals y1 = some a) => h0.val hym1 h)
  have i1 : (1 : Int) < (x.l.length : Int) := by omega
  clear hy hex hsl hfv hn
  go_wp2_with fail
  refine hcall.out.mono ?_
  clear hcall e0 e1 e2 e3 e4 e5
  rintro e w4 ⟨v1, rfl, hv1', hb4⟩
  have HG1 := Lib.hid (getD_map (f := evX vs vals) HY1.out)
  generalize hr1 : evX vs vals y1 = r1 at *
  have hb5 := bone w4 (.cells #[.int .i64 v1.kind, .int .i64 v1.n, .string v1.s] 63)
  have hG := Blk.new w4 63 #[.int .i64 v1.kind, .int .i64 v1.n, .string v1.s]
  have hb35 := bthen hb4 hb5
  have hb15 := bthen hb13 hb35
  have hB5 := hB3.now hb35
  have hF5 := hF.now hb35
  clear f0 f1 f2 q0 q1 q2 q3 q4 q5
  have l3' := hG.lt
  go_upto_region 32 with fail
  generalize hw5 : w4.alloc (.cells #[.int .i64 v1.kind, .int .i64 v1.n, .string v1.s] 63) = w5 at *
  clear hw5
  obtain ⟨q0, q1, q2, q3, q4, q5⟩ := hB5.c6
  obtain ⟨f0, f1, f2⟩ := hF5.c3
  obtain ⟨g0, g1, g2⟩ := hG.c3
  cases r1 with
  | none =>
   have HR : Hid (evX vs vals x = none) := by
    show _ = _
    rw [HKEY.out]
    unfold evO
    rw [if_neg (by omega), if_neg (by omega), HG0.out]
    show (if _ then _ else _) = _
    rw [if_neg (by omega), if_neg (by omega), if_neg (by omega), if_neg (by omega), if_neg (by omega), HG1.out]
   clear f0 f1 f2 g0 g1 g2 q0 q1 q2 q3 q4 q5
   obtain ⟨⟨k0, k1, k2⟩, hS, ⟨y0, y1, y2⟩, hbS⟩ := HST.out w5 (.int .i64 0) (.int .i64 0) (.string ⟨#[]⟩) hb15
   go_wp2_with fail
   obtain ⟨t0, t1, t2⟩ := hS.c3
   refine bodyPost_ret (v := .tuple #[.agg #[.int .i64 0, .int .i64 0, .string ⟨#[]⟩], .bool false]) (by simp [results, Tryz.results110, go_sem, t0, t1, t2]) rfl ?_
   exact RetO.cast HR.out ⟨⟨0, 0, ⟨#[]⟩⟩, rfl, fun a h => (by cases h), hbS⟩

  | some c =>
   obtain rfl : v1 = c := hv1' c rfl
   have HR : Hid (evX vs vals x = numV (v0.n * v1.n)) := by
    show _ = _
    rw [HKEY.out]
    unfold evO
    rw [if_neg (by omega), if_neg (by omega), HG0.out]
    show (if _ then _ else _) = _
    rw [if_neg (by omega), if_neg (by omega), if_neg (by omega), if_neg (by omega), if_neg (by omega), HG1.out]
    show (if _ then _ else _) = _
    rw [if_neg (by omega), if_neg (by omega), if_neg (by omega), if_neg (by omega), if_neg (by omega)]
   have hn0 := h0.nums (by omega) (List.mem_of_getElem? HY.out)
   have hn1 := h0.nums (by omega) hym1
   have hr0 := num_range HVA.out.2 (HVA.out.1.trans hn0)
   have hva1 := HV1.out _ rfl
   have hr1 := num_range hva1.2 (hva1.1.trans hn1)
   clear hva1 hn0 hn1
   go_wp2_with fail
   refine (times_ref v0.n v1.n _ hr0 hr1).mono ?_
   rintro e w6 ⟨tv, rfl, htv, hb6⟩
   clear f0 f1 f2 g0 g1 g2 q0 q1 q2 q3 q4 q5
   generalize numV (v0.n * v1.n) = r at *
   obtain ⟨⟨k0, k1, k2⟩, hS, ⟨y0, y1, y2⟩, hbS⟩ := HST.out w6 (.int .i64 tv.kind) (.int .i64 tv.n) (.string tv.s) (bthen hb15 hb6)
   go_wp2_with fail
   obtain ⟨t0, t1, t2⟩ := hS.c3
   refine bodyPost_ret (v := .tuple #[.agg #[.int .i64 tv.kind, .int .i64 tv.n, .string tv.s], .bool r.isSome]) (by simp [results, Tryz.results110, go_sem, t0, t1, t2]) rfl ?_
   exact RetO.cast HR.out ⟨tv, rfl, htv, hbS⟩
theorem value_ref : ∀ n, EvalAt 110 n := by
 intro n
 induction n using Nat.strongRecOn with
 | _ n ih =>
  intro vs vals x w uv vv u h
  obtain ⟨_, _, _, _, _, _, o1, o2⟩ := shape_len h.shape
  rcases (show x.op = 1 ∨ x.op = 2 ∨ x.op = 3 ∨ x.op = 4 ∨ x.op = 5 ∨ x.op = 6 ∨ x.op = 7 ∨ x.op = 8 ∨ x.op = 9 ∨ x.op = 10 ∨ x.op = 11 ∨ x.op = 12 ∨ x.op = 13 by omega) with ho | ho | ho | ho | ho | ho | ho | ho | ho | ho | ho | ho | ho
  ·exact value_const n vs vals x w uv vv u h ho
  ·exact value_var n vs vals x w uv vv u h ho
  ·exact value_not n ih vs vals x w uv vv u h ho
  ·exact value_and n ih vs vals x w uv vv u h ho
  ·exact value_or n ih vs vals x w uv vv u h ho
  ·exact value_eq n ih vs vals x w uv vv u h ho
  ·exact value_lt n ih vs vals x w uv vv u h ho
  ·exact value_le n ih vs vals x w uv vv u h ho
  ·exact value_add n ih vs vals x w uv vv u h ho
  ·exact value_sub n ih vs vals x w uv vv u h ho
  ·exact value_mul n ih vs vals x w uv vv u h ho
  ·exact value_if n ih vs vals x w uv vv u h ho
  ·exact value_in n ih vs vals x w uv vv u h ho
end Go.Proofs.YtlmenhjlgmejkaaGreatDoor
namespace Go.Proofs.YtlmenhjlgmejkaaGreatDoor
def TailPost (P : Program) (l : List Oper) (n : Nat) (Q : Exit → Act → World → Prop) : Exit → Act → World → Prop
 | .normal, a, w => wpList P l.toArray Q (l.drop n) a w
 | e, a, w => Q e a w
def earlyB (l : List Oper) : Bool := (List.range l.length).all fun j => match l[j]? with
 | some o => o.guard.isNone && o.after.all fun e => !Region.binds .any e || decide (e.on < j)
 | none => true
theorem early_spec {l : List Oper} (h : earlyB l = true) {j : Nat} {o : Oper} (hj : l[j]? = some o) : o.guard = none ∧ ∀ e ∈ o.after, Region.binds .any e = true → e.on < j := by
 have hlt : j < l.length := by
  rcases Nat.lt_or_ge j l.length with h' | h'
  ·exact h'
  ·rw [List.getElem?_eq_none h'] at hj; cases hj
 have h1 := List.all_eq_true.1 h j (List.mem_range.2 hlt)
 rw [hj] at h1
 simp only [Bool.and_eq_true, Array.all_eq_true_iff_forall_mem, Bool.or_eq_true, Bool.not_eq_true', decide_eq_true_eq] at h1
 refine ⟨Option.isNone_iff_eq_none.1 h1.1, fun e he hb => (h1.2 e he).resolve_left (by rw [hb]; simp)⟩
def tailB (l : List Oper) (n : Nat) : Bool := earlyB l && decide (n < l.length) && Region.sinkB .any l.toArray n && Region.chainB .any l.toArray n && Region.seqB .any l.toArray (l.length - n) n (Array.replicate n true ++ Array.replicate (l.length - n) false)
theorem unlisted_zero {L : Array Bool} (h : unlisted L = 0) : ∀ i, i < L.size → L.getD i false = true := by
 intro i hi
 unfold unlisted at h
 have h0 := List.eq_nil_of_length_eq_zero h
 rw [List.filter_eq_nil_iff] at h0
 have := h0 L[i] (by simp)
 simpa [hi] using this
theorem unlisted_pos {L : Array Bool} {f : Nat} (h : unlisted L = f + 1) : ∃ i, i < L.size ∧ L.getD i true = false := by
 unfold unlisted at h
 cases hl : L.toList.filter (fun b => !b) with
 | nil => rw [hl] at h; simp at h
 | cons b l =>
  have hb : b ∈ L.toList.filter (fun b => !b) := by rw [hl]; simp
  rw [List.mem_filter] at hb
  obtain ⟨i, hi, e⟩ := List.mem_iff_getElem.1 hb.1
  have hi' : i < L.size := by simpa using hi
  refine ⟨i, hi', ?_⟩
  have hbf : b = false := by simpa using hb.2
  have : L[i] = false := by rw [← hbf, ← e]; simp
  simp [hi', this]
section
variable {P : Program} {l : List Oper} {n : Nat} {Q : Exit → Act → World → Prop}
theorem first_ready (hE : earlyB l = true) {L : Array Bool} (hs : L.size = l.length) : ∀ (i : Nat), i < L.size → L.getD i true = false → ∃ j, j ≤ i ∧ j ∈ Region.ready .any l.toArray L := by
 intro i
 induction i using Nat.strongRecOn with
 | _ i ih =>
  intro hi hun
  have hi' : i < l.length := by omega
  by_cases hr : i ∈ Region.ready .any l.toArray L
  ·exact ⟨i, Nat.le_refl _, hr⟩
  ·have ho : l[i]? = some l[i] := List.getElem?_eq_getElem hi'
   have hsp := early_spec hE ho
   have : ∃ e ∈ l[i].after, Region.binds .any e = true ∧ L.getD e.on false = false := by
    apply Classical.byContradiction
    intro hno
    refine hr (mem_ready.2 ⟨hun, l[i], by simp, fun e he hb => ?_⟩)
    cases h : L.getD e.on false with
    | true => rfl
    | false => exact absurd ⟨e, he, hb, h⟩ hno
   obtain ⟨e, he, hb, hf⟩ := this
   have hlt := hsp.2 e he hb
   obtain ⟨j, hj, hr'⟩ := ih e.on hlt (by omega) (getD_in (by omega) hf)
   exact ⟨j, by omega, hr'⟩
theorem wpAny_tail (hE : earlyB l = true) (hs : Region.sinkB .any l.toArray n = true) (hc : Region.chainB .any l.toArray n = true) (hn : n < l.length)
  (hq : Region.seqB .any l.toArray (l.length - n) n (Array.replicate n true ++ Array.replicate (l.length - n) false) = true) :
  ∀ (f : Nat) (L' L : Array Bool) (a : Act) (w : World), L'.size = n → unlisted L' = f → HeadInv .any l.toArray n L → (∀ i b, i < n → L.getD i b = L'.getD i b) →
   wpAny P .any (l.take n).toArray (TailPost P l n Q) f L' a w → wpAny P .any l.toArray Q (f + (l.length - n)) L a w := by
 intro f
 induction f with
 | zero =>
  intro L' L a w hs' hu inv hR h
  rw [Nat.zero_add]
  have hL : L = Array.replicate n true ++ Array.replicate (l.length - n) false := by
   apply Array.ext
   ·rw [inv.size]; simp; omega
   ·intro i h1 h2
    rcases Nat.lt_or_ge i n with hi | hi
    ·have := hR i false hi
     rw [unlisted_zero hu i (by omega)] at this
     rw [Array.getElem_append_left (by simpa using hi)]
     simpa [h1] using this
    ·have := inv.tail i hi (by rw [← inv.size]; exact h1)
     rw [Array.getElem_append_right (by simpa using hi)]
     simpa [h1] using this
  have h2 : wpList P l.toArray Q (l.drop n) a w := h.2
  have := wpAny_of_seq (md := .any) (P := P) (ops := l.toArray) (Q' := Q) (l.drop n) n L a w (fun j => by simp [List.getElem?_drop]) (by rw [List.length_drop, hL]; exact hq) h2
  rwa [List.length_drop] at this
 | succ f ih =>
  intro L' L a w hs' hu inv hR h
  rw [show f + 1 + (l.length - n) = (f + (l.length - n)) + 1 by omega]
  obtain ⟨i0, hi0, hun0⟩ := unlisted_pos hu
  have hi0n : i0 < n := by omega
  have hun : L.getD i0 true = false := by rw [hR i0 true hi0n]; exact hun0
  have hnot : ∀ t, n ≤ t → t ∉ Region.ready .any l.toArray L := tail_waits hs hc (by simpa using hn) inv _ i0 rfl hi0n hun
  refine ⟨fun hr => ?_, fun i hi => ?_⟩
  ·obtain ⟨j, _, hj⟩ := first_ready hE (L := L) (by simpa using inv.size) i0 (by rw [inv.size]; simp; omega) hun
   rw [hr] at hj; cases hj
  ·have hin : i < n := by
    rcases Nat.lt_or_ge i n with h' | h'
    ·exact h'
    ·exact absurd hi (hnot i h')
   obtain ⟨hiu, o, ho, hall⟩ := mem_ready.1 hi
   have ho' : l[i]? = some o := by simpa using ho
   have hsp := early_spec hE ho'
   have hot : (l.take n).toArray[i]? = some o := by simp [hin, ho']
   have hi' : i ∈ Region.ready .any (l.take n).toArray L' := mem_ready.2 ⟨by rw [← hR i true hin]; exact hiu, o, hot, fun e he hb => by
    have h1 := hsp.2 e he hb
    rw [← hR e.on false (by omega)]
    exact hall e he hb⟩
   have h1 := h.2 i hi'
   have hw : ∀ ops : Array Oper, Region.wanted o (yielded ops a.tmps) = true := fun ops => by simp [Region.wanted, hsp.1]
   unfold wpOp at h1 ⊢
   rw [hot] at h1
   rw [ho]
   simp only [hw, if_true] at h1 ⊢
   have hstep : ∀ a' w', wpAny P .any (l.take n).toArray (TailPost P l n Q) f (L'.setIfInBounds i true) a' w' → wpAny P .any l.toArray Q (f + (l.length - n)) (L.setIfInBounds i true) a' w' := by
    intro a' w' h2
    refine ih (L'.setIfInBounds i true) (L.setIfInBounds i true) a' w' (by simpa using hs') ?_ (inv.set hi hin) ?_ h2
    ·have := unlisted_set (listed := L') (i := i) (by rw [← hR i true hin]; exact hiu)
     omega
    ·intro k b hk
     by_cases hik : i = k
     ·subst hik
      have hiL : i < L.size := by rw [inv.size]; simp; omega
      have hiL' : i < L'.size := by omega
      simp [hiL, hiL']
     ·rw [getD_set_ne b hik, getD_set_ne b hik]; exact hR k b hk
   rcases h1 with h1 | ⟨h1, a0, w0, h2⟩
   ·left
    unfold Oper.wp at h1 ⊢
    generalize (execOp a.eval o).run P w = r at h1 ⊢
    cases r with
    | ok x w' =>
     cases x <;> simp only [Oper.upon] at h1 ⊢ <;>
      first
       | exact hstep _ _ h1
       | exact Calls.mono h1 (fun e w'' he => by cases e <;> first | exact hstep _ _ he | exact he)
       | exact Rows.mono h1 (fun _ _ he => hstep _ _ he)
    | halt x w' => cases x <;> simp only [Oper.upon] at h1 ⊢ <;> exact h1
   ·exact .inr ⟨h1, a0, w0, h2⟩
theorem wp_region_held_tail {id : Nat} {a : Act} {w : World} (n : Nat) (S : World → Prop) (hm : P.follows .mixedOrders = true) (hB : tailB l n = true) (hS : S w.drew)
  (h : S w.drew → wpAnyH P .any (l.take n).toArray (TailPost P l n Q) S n (Array.replicate n false) a w.drew) : (Code.region id l.toArray true).wp P Q a w := by
 unfold tailB at hB
 simp only [Bool.and_eq_true, decide_eq_true_eq] at hB
 obtain ⟨⟨⟨⟨h1, h2⟩, h3⟩, h4⟩, h5⟩ := hB
 refine wp_region_any hm ?_
 have inv0 : HeadInv .any l.toArray n (Array.replicate l.toArray.size false) :=
  ⟨by simp, fun j oj _ hl => (by rw [getD_replicate_false] at hl; cases hl), fun t _ ht => getD_in (by simpa using ht) (getD_replicate_false _ _)⟩
 have hu : unlisted (Array.replicate n false) = n := by unfold unlisted; simp
 have := wpAny_tail (P := P) (Q := Q) h1 h3 h4 h2 h5 n (Array.replicate n false) _ a w.drew (by simp) hu inv0 (fun i b hi => by
  have h' : i < l.length := by omega
  simp [hi, h']) (wpAny_of_held _ _ _ _ (h hS))
 rw [show n + (l.length - n) = l.toArray.size by simp; omega] at this
 exact this
theorem takeL {S : World → Prop} {a : Act} {w : World} {v : Value} {oi : Oper} {fuel : Nat} {listed : Array Bool} (i : Nat) (hi : l[i]? = some oi) (hs : Region.noSelect l.toArray = true) (hf : Region.free .any l.toArray listed i = true)
  (hr : (Region.ready .any l.toArray listed).contains i = true) (hQ : ∀ c a w, Q (.panic c) (a.put oi.dst v) w → Q (.panic c) a w) (hg : oi.guard = none) (hy : ∀ W, S W → (execOp a.eval oi).run P W = .ok (.value v) W) (hS : S w)
  (h : wpAnyH P .any l.toArray Q S fuel (listed.setIfInBounds i true) (a.put oi.dst v) w) : wpAnyH P .any l.toArray Q S (fuel + 1) listed a w :=
 wpAnyH_take (by simpa using hi) hs hf hr hQ (.inl ⟨by simp [Region.wanted, hg], hy⟩) hS h
theorem onlyL {S : World → Prop} {a : Act} {w : World} {oi : Oper} {fuel : Nat} {listed : Array Bool} (i : Nat) (hi : l[i]? = some oi) (hg : oi.guard = none) (hr : Region.ready .any l.toArray listed = [i])
  (h : ∀ K' : Act → World → Prop, Go.Shut (∀ a w, S w → (S w → wpAnyH P .any l.toArray Q S fuel (listed.setIfInBounds i true) a w) → K' a w) → Oper.wp P oi a w K' Q) : wpAnyH P .any l.toArray Q S (fuel + 1) listed a w := by
 refine wpAnyH_ready hr (by simp) (AllReadyH.cons (by simpa using hi) (fun K' hK => ?_) AllReadyH.nil)
 rw [if_pos (by simp [Region.wanted, hg])]
 exact h K' hK
theorem doneL {S : World → Prop} {a : Act} {w : World} {l' : List Oper} {n fuel : Nat} {listed : Array Bool} (hr : Region.ready .any l'.toArray listed = []) (h : wpList P l.toArray Q (l.drop n) a w) : wpAnyH P .any l'.toArray (TailPost P l n Q) S fuel listed a w :=
 wpAnyH_done hr h fuel
end
end Go.Proofs.YtlmenhjlgmejkaaGreatDoor
