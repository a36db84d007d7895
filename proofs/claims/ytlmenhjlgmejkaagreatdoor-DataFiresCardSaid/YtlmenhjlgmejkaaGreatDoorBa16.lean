/- Texts of this seat, merged. -/
import Derived.Test.YtlmenhjlgmejkaaGreatDoorBa15
set_option linter.unusedSimpArgs false
set_option linter.unusedVariables false
namespace Go.Proofs.YtlmenhjlgmejkaaGreatDoor
open Go.RowKit
set_option maxHeartbeats 8000000 in
set_option maxRecDepth 100000 in
theorem value_and (n : Nat) (ih : ∀ m, m < n → EvalAt 110 m) (vs : List Var) (vals : List Val) (x : Ex) (w : World) (uv vv u : Value) (h : EvArgs n vs vals x w uv vv u) (ho : x.op = 4) : Calls Tryz.prog 110 #[uv, vv, u] w (RetO (evX vs vals x) w) := by
  have HO := Lib.hid ho
  clear ho
  have h0 := h
  obtain ⟨hvs, hvl, hx, _, _, hA⟩ := h
  obtain ⟨Av, cv, rfl, v1, v2, hvs⟩ := hvs.open_
  obtain ⟨Aw, cw, rfl, v3, v4, hvl⟩ := hvl.open_
  obtain ⟨lv, rfl, h1, h2, h3, h4⟩ := hx
  obtain ⟨A, c, rfl, l1, l2, h4⟩ := h4.open_
  have hb := bbox (bone w (.cells #[.int .i64 x.op, .int .i64 x.v.kind, .int .i64 x.v.n, .string x.v.s, .string x.s, .slice A x.l.length c] 65)) (.cells #[.int .i64 0, .int .i64 0, .string ⟨#[]⟩] 63)
  have hB := (Blk.new w 65 #[.int .i64 x.op, .int .i64 x.v.kind, .int .i64 x.v.n, .string x.v.s, .string x.s, .slice A x.l.length c]).alloc (.cells #[.int .i64 0, .int .i64 0, .string ⟨#[]⟩] 63)
  have hR := Blk.new_at (t := 63) (cs := #[.int .i64 0, .int .i64 0, .string ⟨#[]⟩]) (w := w.alloc (.cells #[.int .i64 x.op, .int .i64 x.v.kind, .int .i64 x.v.n, .string x.v.s, .string x.s, .slice A x.l.length c] 65)) (s := w.heap.size + 1) (by simp)
  have hl1 := SlE.now h4 hb
  have hv1 := hvs.now hb
  have hw1 := hvl.now hb
  clear h4 hvs hvl
  go_enter Tryz.func110, Tryz.ntmps110
  go_upto_region 1 with fail
  generalize hww : (w.alloc (.cells #[.int .i64 x.op, .int .i64 x.v.kind, .int .i64 x.v.n, .string x.v.s, .string x.s, .slice A x.l.length c] 65)).alloc (.cells #[.int .i64 0, .int .i64 0, .string ⟨#[]⟩] 63) = w1 at *
  clear hww
  have ho := HO.out
  have HST : Hid (∀ (W : World) (x y z : Value), Below w1.heap.size w1 W →
      (W.frozen? ⟨w.heap.size + 1, 0, none⟩ = false ∧ W.frozen? ⟨w.heap.size + 1, 1, none⟩ = false ∧ W.frozen? ⟨w.heap.size + 1, 2, none⟩ = false) ∧
      Blk (((W.setCell ⟨w.heap.size + 1, 0, none⟩ x).setCell ⟨w.heap.size + 1, 1, none⟩ y).setCell ⟨w.heap.size + 1, 2, none⟩ z) (w.heap.size + 1) 63 #[x, y, z] ∧
      (W.cell? ⟨w.heap.size + 1, 0, none⟩ = some (.int .i64 0) ∧ W.cell? ⟨w.heap.size + 1, 1, none⟩ = some (.int .i64 0) ∧ W.cell? ⟨w.heap.size + 1, 2, none⟩ = some (.string ⟨#[]⟩)) ∧
      Below w.heap.size w (((W.setCell ⟨w.heap.size + 1, 0, none⟩ x).setCell ⟨w.heap.size + 1, 1, none⟩ y).setCell ⟨w.heap.size + 1, 2, none⟩ z)) :=
    fun W x y z hW => ⟨⟨(hR.now hW).frozen 0, (hR.now hW).frozen 1, (hR.now hW).frozen 2⟩, (hR.now hW).set3 _ _ _, (hR.now hW).c3, bset3 (bthen hb hW) (by omega) _ _ _⟩
  obtain ⟨q0, q1, q2, q3, q4, q5⟩ := hB.c6
  have HKEY := Lib.hid (ev_key vs vals x)
  have HSL := Lib.hid (shape_len h0.shape)
  have hlen : 1 ≤ x.l.length := by have := HSL.out; omega
  obtain ⟨b, o, y, ylv, n', hn, rfl, hD, hy, hex, hfv, hsl, e0, e1, e2, e3, e4, e5⟩ := hl1.at_ (k := 0) (by omega)
  have HY := Lib.hid hy
  have hym := List.mem_of_getElem? hy
  obtain ⟨A2, c2', rfl, m1, m2, _⟩ := hsl.open_
  have hcall := Lib.hid (ih n' (by omega) vs vals y _ _ _ _ (h0.part hym hb hex))
  have HV0 := Lib.hid (fun (a : Val) (h : evX vs vals y = some a) => h0.val hym h)
  have i0 : (0 : Int) < (x.l.length : Int) := by omega
  have e0' : w1.cell? ⟨b, o, none⟩ = some (.int .i64 y.op) := by simpa using e0
  have e1' : w1.cell? ⟨b, o + 1, none⟩ = some (.int .i64 y.v.kind) := by simpa using e1
  have e2' : w1.cell? ⟨b, o + 2, none⟩ = some (.int .i64 y.v.n) := by simpa using e2
  have e3' : w1.cell? ⟨b, o + 3, none⟩ = some (.string y.v.s) := by simpa using e3
  have e4' : w1.cell? ⟨b, o + 4, none⟩ = some (.string y.s) := by simpa using e4
  have e5' : w1.cell? ⟨b, o + 5, none⟩ = some (.slice A2 y.l.length c2') := by simpa using e5
  clear hy hex hsl hfv e0 e1 e2 e3 e4 e5 hn
  go_wp2_with fail
  refine hcall.out.mono ?_
  clear hcall e0' e1' e2' e3' e4' e5'
  rintro e w2 ⟨v0, rfl, hv0, hb2⟩
  have HG0 := Lib.hid (getD_map (f := evX vs vals) HY.out)
  generalize hr0 : evX vs vals y = r0 at *
  have hb3 := bone w2 (.cells #[.int .i64 v0.kind, .int .i64 v0.n, .string v0.s] 63)
  have hF := Blk.new w2 63 #[.int .i64 v0.kind, .int .i64 v0.n, .string v0.s]
  have hb13 := bthen hb2 hb3
  have hB3 := hB.now hb13
  have hl3 := SlE.now hl1 hb13
  clear q0 q1 q2 q3 q4 q5
  have l2' := hF.lt
  go_upto_region 7 with fail
  generalize hw3 : w2.alloc (.cells #[.int .i64 v0.kind, .int .i64 v0.n, .string v0.s] 63) = w3 at *
  clear hw3
  obtain ⟨q0, q1, q2, q3, q4, q5⟩ := hB3.c6
  obtain ⟨f0, f1, f2⟩ := hF.c3
  cases r0 with
  | none =>
    have HR : Hid (evX vs vals x = none) := by
      show _ = _
      rw [HKEY.out]
      unfold evO
      rw [if_neg (by omega), if_neg (by omega), HG0.out]
    clear f0 f1 f2 q0 q1 q2 q3 q4 q5
    obtain ⟨⟨k0, k1, k2⟩, hS, ⟨y0, y1, y2⟩, hbS⟩ := HST.out w3 (.int .i64 0) (.int .i64 0) (.string ⟨#[]⟩) hb13
    go_wp2_with fail
    obtain ⟨t0, t1, t2⟩ := hS.c3
    refine bodyPost_ret (v := .tuple #[.agg #[.int .i64 0, .int .i64 0, .string ⟨#[]⟩], .bool false]) (by simp [results, Tryz.results110, go_sem, t0, t1, t2]) rfl ?_
    exact RetO.cast HR.out ⟨⟨0, 0, ⟨#[]⟩⟩, rfl, fun a h => (by cases h), hbS⟩

  | some a =>
    obtain rfl : v0 = a := hv0 a rfl
    have HVA := Lib.hid (HV0.out _ rfl)
    clear hv0
    have hk1 := HVA.out
    have htr : (typX vs y).1 = 1 := h0.truths (by omega) (List.mem_of_getElem? HY.out)
    have HTR := Lib.hid (truth_range hk1.2 (hk1.1.trans htr))
    clear hk1 htr
    by_cases hz : v0.n = 1
    · have b1 : (v0.n == 0) = false := by rw [hz]; rfl
      have HZ := Lib.hid hz
      clear hz
      have hli : 1 < x.l.length := by have := HSL.out; omega
      obtain ⟨b1, o1, y1, ylv, n1, hn, hA1, hD1, hy, hex, hfv, hsl, e0, e1, e2, e3, e4, e5⟩ := hl3.at_ hli
      injection hA1 with hA1
      injection hA1 with g1 g2 _
      subst g1 g2
      have HY1 := Lib.hid hy
      have hym1 := List.mem_of_getElem? hy
      obtain ⟨A2, c2', rfl, m1, m2, _⟩ := hsl.open_
      have hcall := Lib.hid (ih n1 (by omega) vs vals y1 _ _ _ _ (h0.part hym1 (bthen hb hb13) hex))
      have HV1 := Lib.hid (fun (a : Val) (h : evX vs vals y1 = some a) => h0.val hym1 h)
      have i1 : (1 : Int) < (x.l.length : Int) := by omega
      clear hy hex hsl hfv hn
      go_wp2_with fail
      refine hcall.out.mono ?_
      clear hcall e0 e1 e2 e3 e4 e5
      rintro e w4 ⟨v1, rfl, hv1', hb4⟩
      have HG1 := Lib.hid (getD_map (f := evX vs vals) HY1.out)
      generalize hr1 : evX vs vals y1 = r1 at *
      have HR : Hid (evX vs vals x = r1) := by
        show _ = _
        rw [HKEY.out]
        unfold evO
        rw [if_neg (by omega), if_neg (by omega), HG0.out]
        exact (if_neg (by omega)).trans ((if_pos ho).trans ((if_pos HZ.out).trans HG1.out))
      clear f0 f1 f2 q0 q1 q2 q3 q4 q5
      obtain ⟨⟨k0, k1, k2⟩, hS, ⟨y0, y1, y2⟩, hbS⟩ := HST.out w4 (.int .i64 v1.kind) (.int .i64 v1.n) (.string v1.s) (bthen hb13 hb4)
      go_wp2_with fail
      obtain ⟨t0, t1, t2⟩ := hS.c3
      refine bodyPost_ret (v := .tuple #[.agg #[.int .i64 v1.kind, .int .i64 v1.n, .string v1.s], .bool r1.isSome]) (by simp [results, Tryz.results110, go_sem, t0, t1, t2]) rfl ?_
      exact RetO.cast HR.out ⟨v1, rfl, hv1', hbS⟩
    · have b1 : (v0.n == 0) = true := by have := HTR.out; simp; omega
      have HZ := Lib.hid hz
      clear hz
      have HR : Hid (evX vs vals x = some v0) := by
        show _ = _
        rw [HKEY.out]
        unfold evO
        rw [if_neg (by omega), if_neg (by omega), HG0.out]
        exact (if_neg (by omega)).trans ((if_pos ho).trans (if_neg HZ.out))
      obtain ⟨⟨k0, k1, k2⟩, hS, ⟨y0, y1, y2⟩, hbS⟩ := HST.out w3 (.int .i64 v0.kind) (.int .i64 v0.n) (.string v0.s) hb13
      go_wp2_with fail
      obtain ⟨t0, t1, t2⟩ := hS.c3
      refine bodyPost_ret (v := .tuple #[.agg #[.int .i64 v0.kind, .int .i64 v0.n, .string v0.s], .bool true]) (by simp [results, Tryz.results110, go_sem, t0, t1, t2]) rfl ?_
      exact RetO.cast HR.out ⟨v0, rfl, fun a h => (by injection h), hbS⟩
set_option maxHeartbeats 8000000 in
set_option maxRecDepth 100000 in
theorem value_or (n : Nat) (ih : ∀ m, m < n → EvalAt 110 m) (vs : List Var) (vals : List Val) (x : Ex) (w : World) (uv vv u : Value) (h : EvArgs n vs vals x w uv vv u) (ho : x.op = 5) : Calls Tryz.prog 110 #[uv, vv, u] w (RetO (evX vs vals x) w) := by
  have HO := Lib.hid ho
  clear ho
  have h0 := h
  obtain ⟨hvs, hvl, hx, _, _, hA⟩ := h
  obtain ⟨Av, cv, rfl, v1, v2, hvs⟩ := hvs.open_
  obtain ⟨Aw, cw, rfl, v3, v4, hvl⟩ := hvl.open_
  obtain ⟨lv, rfl, h1, h2, h3, h4⟩ := hx
  obtain ⟨A, c, rfl, l1, l2, h4⟩ := h4.open_
  have hb := bbox (bone w (.cells #[.int .i64 x.op, .int .i64 x.v.kind, .int .i64 x.v.n, .string x.v.s, .string x.s, .slice A x.l.length c] 65)) (.cells #[.int .i64 0, .int .i64 0, .string ⟨#[]⟩] 63)
  have hB := (Blk.new w 65 #[.int .i64 x.op, .int .i64 x.v.kind, .int .i64 x.v.n, .string x.v.s, .string x.s, .slice A x.l.length c]).alloc (.cells #[.int .i64 0, .int .i64 0, .string ⟨#[]⟩] 63)
  have hR := Blk.new_at (t := 63) (cs := #[.int .i64 0, .int .i64 0, .string ⟨#[]⟩]) (w := w.alloc (.cells #[.int .i64 x.op, .int .i64 x.v.kind, .int .i64 x.v.n, .string x.v.s, .string x.s, .slice A x.l.length c] 65)) (s := w.heap.size + 1) (by simp)
  have hl1 := SlE.now h4 hb
  have hv1 := hvs.now hb
  have hw1 := hvl.now hb
  clear h4 hvs hvl
  go_enter Tryz.func110, Tryz.ntmps110
  go_upto_region 1 with fail
  generalize hww : (w.alloc (.cells #[.int .i64 x.op, .int .i64 x.v.kind, .int .i64 x.v.n, .string x.v.s, .string x.s, .slice A x.l.length c] 65)).alloc (.cells #[.int .i64 0, .int .i64 0, .string ⟨#[]⟩] 63) = w1 at *
  clear hww
  have ho := HO.out
  have HST : Hid (∀ (W : World) (x y z : Value), Below w1.heap.size w1 W →
      (W.frozen? ⟨w.heap.size + 1, 0, none⟩ = false ∧ W.frozen? ⟨w.heap.size + 1, 1, none⟩ = false ∧ W.frozen? ⟨w.heap.size + 1, 2, none⟩ = false) ∧
      Blk (((W.setCell ⟨w.heap.size + 1, 0, none⟩ x).setCell ⟨w.heap.size + 1, 1, none⟩ y).setCell ⟨w.heap.size + 1, 2, none⟩ z) (w.heap.size + 1) 63 #[x, y, z] ∧
      (W.cell? ⟨w.heap.size + 1, 0, none⟩ = some (.int .i64 0) ∧ W.cell? ⟨w.heap.size + 1, 1, none⟩ = some (.int .i64 0) ∧ W.cell? ⟨w.heap.size + 1, 2, none⟩ = some (.string ⟨#[]⟩)) ∧
      Below w.heap.size w (((W.setCell ⟨w.heap.size + 1, 0, none⟩ x).setCell ⟨w.heap.size + 1, 1, none⟩ y).setCell ⟨w.heap.size + 1, 2, none⟩ z)) :=
    fun W x y z hW => ⟨⟨(hR.now hW).frozen 0, (hR.now hW).frozen 1, (hR.now hW).frozen 2⟩, (hR.now hW).set3 _ _ _, (hR.now hW).c3, bset3 (bthen hb hW) (by omega) _ _ _⟩
  obtain ⟨q0, q1, q2, q3, q4, q5⟩ := hB.c6
  have HKEY := Lib.hid (ev_key vs vals x)
  have HSL := Lib.hid (shape_len h0.shape)
  have hlen : 1 ≤ x.l.length := by have := HSL.out; omega
  obtain ⟨b, o, y, ylv, n', hn, rfl, hD, hy, hex, hfv, hsl, e0, e1, e2, e3, e4, e5⟩ := hl1.at_ (k := 0) (by omega)
  have HY := Lib.hid hy
  have hym := List.mem_of_getElem? hy
  obtain ⟨A2, c2', rfl, m1, m2, _⟩ := hsl.open_
  have hcall := Lib.hid (ih n' (by omega) vs vals y _ _ _ _ (h0.part hym hb hex))
  have HV0 := Lib.hid (fun (a : Val) (h : evX vs vals y = some a) => h0.val hym h)
  have i0 : (0 : Int) < (x.l.length : Int) := by omega
  have e0' : w1.cell? ⟨b, o, none⟩ = some (.int .i64 y.op) := by simpa using e0
  have e1' : w1.cell? ⟨b, o + 1, none⟩ = some (.int .i64 y.v.kind) := by simpa using e1
  have e2' : w1.cell? ⟨b, o + 2, none⟩ = some (.int .i64 y.v.n) := by simpa using e2
  have e3' : w1.cell? ⟨b, o + 3, none⟩ = some (.string y.v.s) := by simpa using e3
  have e4' : w1.cell? ⟨b, o + 4, none⟩ = some (.string y.s) := by simpa using e4
  have e5' : w1.cell? ⟨b, o + 5, none⟩ = some (.slice A2 y.l.length c2') := by simpa using e5
  clear hy hex hsl hfv e0 e1 e2 e3 e4 e5 hn
  go_wp2_with fail
  refine hcall.out.mono ?_
  clear hcall e0' e1' e2' e3' e4' e5'
  rintro e w2 ⟨v0, rfl, hv0, hb2⟩
  have HG0 := Lib.hid (getD_map (f := evX vs vals) HY.out)
  generalize hr0 : evX vs vals y = r0 at *
  have hb3 := bone w2 (.cells #[.int .i64 v0.kind, .int .i64 v0.n, .string v0.s] 63)
  have hF := Blk.new w2 63 #[.int .i64 v0.kind, .int .i64 v0.n, .string v0.s]
  have hb13 := bthen hb2 hb3
  have hB3 := hB.now hb13
  have hl3 := SlE.now hl1 hb13
  clear q0 q1 q2 q3 q4 q5
  have l2' := hF.lt
  go_upto_region 7 with fail
  generalize hw3 : w2.alloc (.cells #[.int .i64 v0.kind, .int .i64 v0.n, .string v0.s] 63) = w3 at *
  clear hw3
  obtain ⟨q0, q1, q2, q3, q4, q5⟩ := hB3.c6
  obtain ⟨f0, f1, f2⟩ := hF.c3
  cases r0 with
  | none =>
    have HR : Hid (evX vs vals x = none) := by
      show _ = _
      rw [HKEY.out]
      unfold evO
      rw [if_neg (by omega), if_neg (by omega), HG0.out]
    clear f0 f1 f2 q0 q1 q2 q3 q4 q5
    obtain ⟨⟨k0, k1, k2⟩, hS, ⟨y0, y1, y2⟩, hbS⟩ := HST.out w3 (.int .i64 0) (.int .i64 0) (.string ⟨#[]⟩) hb13
    go_wp2_with fail
    obtain ⟨t0, t1, t2⟩ := hS.c3
    refine bodyPost_ret (v := .tuple #[.agg #[.int .i64 0, .int .i64 0, .string ⟨#[]⟩], .bool false]) (by simp [results, Tryz.results110, go_sem, t0, t1, t2]) rfl ?_
    exact RetO.cast HR.out ⟨⟨0, 0, ⟨#[]⟩⟩, rfl, fun a h => (by cases h), hbS⟩

  | some a =>
    obtain rfl : v0 = a := hv0 a rfl
    have HVA := Lib.hid (HV0.out _ rfl)
    clear hv0
    have hk1 := HVA.out
    have htr : (typX vs y).1 = 1 := h0.truths (by omega) (List.mem_of_getElem? HY.out)
    have HTR := Lib.hid (truth_range hk1.2 (hk1.1.trans htr))
    clear hk1 htr
    by_cases hz : v0.n = 1
    · have b1 : (v0.n == 1) = true := by simp [hz]
      have HZ := Lib.hid hz
      clear hz
      have HR : Hid (evX vs vals x = some v0) := by
        show _ = _
        rw [HKEY.out]
        unfold evO
        rw [if_neg (by omega), if_neg (by omega), HG0.out]
        exact (if_neg (by omega)).trans ((if_neg (by omega)).trans ((if_pos ho).trans (if_pos HZ.out)))
      obtain ⟨⟨k0, k1, k2⟩, hS, ⟨y0, y1, y2⟩, hbS⟩ := HST.out w3 (.int .i64 v0.kind) (.int .i64 v0.n) (.string v0.s) hb13
      go_wp2_with fail
      obtain ⟨t0, t1, t2⟩ := hS.c3
      refine bodyPost_ret (v := .tuple #[.agg #[.int .i64 v0.kind, .int .i64 v0.n, .string v0.s], .bool true]) (by simp [results, Tryz.results110, go_sem, t0, t1, t2]) rfl ?_
      exact RetO.cast HR.out ⟨v0, rfl, fun a h => (by injection h), hbS⟩
    · have b1 : (v0.n == 1) = false := by simpa using hz
      have HZ := Lib.hid hz
      clear hz
      have hli : 1 < x.l.length := by have := HSL.out; omega
      obtain ⟨b1, o1, y1, ylv, n1, hn, hA1, hD1, hy, hex, hfv, hsl, e0, e1, e2, e3, e4, e5⟩ := hl3.at_ hli
      injection hA1 with hA1
      injection hA1 with g1 g2 _
      subst g1 g2
      have HY1 := Lib.hid hy
      have hym1 := List.mem_of_getElem? hy
      obtain ⟨A2, c2', rfl, m1, m2, _⟩ := hsl.open_
      have hcall := Lib.hid (ih n1 (by omega) vs vals y1 _ _ _ _ (h0.part hym1 (bthen hb hb13) hex))
      have HV1 := Lib.hid (fun (a : Val) (h : evX vs vals y1 = some a) => h0.val hym1 h)
      have i1 : (1 : Int) < (x.l.length : Int) := by omega
      clear hy hex hsl hfv hn
      go_wp2_with fail
      refine hcall.out.mono ?_
      clear hcall e0 e1 e2 e3 e4 e5
      rintro e w4 ⟨v1, rfl, hv1', hb4⟩
      have HG1 := Lib.hid (getD_map (f := evX vs vals) HY1.out)
      generalize hr1 : evX vs vals y1 = r1 at *
      have HR : Hid (evX vs vals x = r1) := by
        show _ = _
        rw [HKEY.out]
        unfold evO
        rw [if_neg (by omega), if_neg (by omega), HG0.out]
        exact (if_neg (by omega)).trans ((if_neg (by omega)).trans ((if_pos ho).trans ((if_neg HZ.out).trans HG1.out)))
      clear f0 f1 f2 q0 q1 q2 q3 q4 q5
      obtain ⟨⟨k0, k1, k2⟩, hS, ⟨y0, y1, y2⟩, hbS⟩ := HST.out w4 (.int .i64 v1.kind) (.int .i64 v1.n) (.string v1.s) (bthen hb13 hb4)
      go_wp2_with fail
      obtain ⟨t0, t1, t2⟩ := hS.c3
      refine bodyPost_ret (v := .tuple #[.agg #[.int .i64 v1.kind, .int .i64 v1.n, .string v1.s], .bool r1.isSome]) (by simp [results, Tryz.results110, go_sem, t0, t1, t2]) rfl ?_
      exact RetO.cast HR.out ⟨v1, rfl, hv1', hbS⟩
set_option maxHeartbeats 8000000 in
set_option maxRecDepth 100000 in
theorem value_if (n : Nat) (ih : ∀ m, m < n → EvalAt 110 m) (vs : List Var) (vals : List Val) (x : Ex) (w : World) (uv vv u : Value) (h : EvArgs n vs vals x w uv vv u) (ho : x.op = 12) : Calls Tryz.prog 110 #[uv, vv, u] w (RetO (evX vs vals x) w) := by
  have HO := Lib.hid ho
  clear ho
  have h0 := h
  obtain ⟨hvs, hvl, hx, _, _, hA⟩ := h
  obtain ⟨Av, cv, rfl, v1, v2, hvs⟩ := hvs.open_
  obtain ⟨Aw, cw, rfl, v3, v4, hvl⟩ := hvl.open_
  obtain ⟨lv, rfl, h1, h2, h3, h4⟩ := hx
  obtain ⟨A, c, rfl, l1, l2, h4⟩ := h4.open_
  have hb := bbox (bone w (.cells #[.int .i64 x.op, .int .i64 x.v.kind, .int .i64 x.v.n, .string x.v.s, .string x.s, .slice A x.l.length c] 65)) (.cells #[.int .i64 0, .int .i64 0, .string ⟨#[]⟩] 63)
  have hB := (Blk.new w 65 #[.int .i64 x.op, .int .i64 x.v.kind, .int .i64 x.v.n, .string x.v.s, .string x.s, .slice A x.l.length c]).alloc (.cells #[.int .i64 0, .int .i64 0, .string ⟨#[]⟩] 63)
  have hR := Blk.new_at (t := 63) (cs := #[.int .i64 0, .int .i64 0, .string ⟨#[]⟩]) (w := w.alloc (.cells #[.int .i64 x.op, .int .i64 x.v.kind, .int .i64 x.v.n, .string x.v.s, .string x.s, .slice A x.l.length c] 65)) (s := w.heap.size + 1) (by simp)
  have hl1 := SlE.now h4 hb
  have hv1 := hvs.now hb
  have hw1 := hvl.now hb
  clear h4 hvs hvl
  go_enter Tryz.func110, Tryz.ntmps110
  go_upto_region 1 with fail
  generalize hww : (w.alloc (.cells #[.int .i64 x.op, .int .i64 x.v.kind, .int .i64 x.v.n, .string x.v.s, .string x.s, .slice A x.l.length c] 65)).alloc (.cells #[.int .i64 0, .int .i64 0, .string ⟨#[]⟩] 63) = w1 at *
  clear hww
  have ho := HO.out
  have HST : Hid (∀ (W : World) (x y z : Value), Below w1.heap.size w1 W →
      (W.frozen? ⟨w.heap.size + 1, 0, none⟩ = false ∧ W.frozen? ⟨w.heap.size + 1, 1, none⟩ = false ∧ W.frozen? ⟨w.heap.size + 1, 2, none⟩ = false) ∧
      Blk (((W.setCell ⟨w.heap.size + 1, 0, none⟩ x).setCell ⟨w.heap.size + 1, 1, none⟩ y).setCell ⟨w.heap.size + 1, 2, none⟩ z) (w.heap.size + 1) 63 #[x, y, z] ∧
      (W.cell? ⟨w.heap.size + 1, 0, none⟩ = some (.int .i64 0) ∧ W.cell? ⟨w.heap.size + 1, 1, none⟩ = some (.int .i64 0) ∧ W.cell? ⟨w.heap.size + 1, 2, none⟩ = some (.string ⟨#[]⟩)) ∧
      Below w.heap.size w (((W.setCell ⟨w.heap.size + 1, 0, none⟩ x).setCell ⟨w.heap.size + 1, 1, none⟩ y).setCell ⟨w.heap.size + 1, 2, none⟩ z)) :=
    fun W x y z hW => ⟨⟨(hR.now hW).frozen 0, (hR.now hW).frozen 1, (hR.now hW).frozen 2⟩, (hR.now hW).set3 _ _ _, (hR.now hW).c3, bset3 (bthen hb hW) (by omega) _ _ _⟩
  obtain ⟨q0, q1, q2, q3, q4, q5⟩ := hB.c6
  have HKEY := Lib.hid (ev_key vs vals x)
  have HSL := Lib.hid (shape_len h0.shape)
  have hlen : 1 ≤ x.l.length := by have := HSL.out; omega
  obtain ⟨b, o, y, ylv, n', hn, rfl, hD, hy, hex, hfv, hsl, e0, e1, e2, e3, e4, e5⟩ := hl1.at_ (k := 0) (by omega)
  have HY := Lib.hid hy
  have hym := List.mem_of_getElem? hy
  obtain ⟨A2, c2', rfl, m1, m2, _⟩ := hsl.open_
  have hcall := Lib.hid (ih n' (by omega) vs vals y _ _ _ _ (h0.part hym hb hex))
  have HV0 := Lib.hid (fun (a : Val) (h : evX vs vals y = some a) => h0.val hym h)
  have i0 : (0 : Int) < (x.l.length : Int) := by omega
  have e0' : w1.cell? ⟨b, o, none⟩ = some (.int .i64 y.op) := by simpa using e0
  have e1' : w1.cell? ⟨b, o + 1, none⟩ = some (.int .i64 y.v.kind) := by simpa using e1
  have e2' : w1.cell? ⟨b, o + 2, none⟩ = some (.int .i64 y.v.n) := by simpa using e2
  have e3' : w1.cell? ⟨b, o + 3, none⟩ = some (.string y.v.s) := by simpa using e3
  have e4' : w1.cell? ⟨b, o + 4, none⟩ = some (.string y.s) := by simpa using e4
  have e5' : w1.cell? ⟨b, o + 5, none⟩ = some (.slice A2 y.l.length c2') := by simpa using e5
  clear hy hex hsl hfv e0 e1 e2 e3 e4 e5 hn
  go_wp2_with fail
  refine hcall.out.mono ?_
  clear hcall e0' e1' e2' e3' e4' e5'
  rintro e w2 ⟨v0, rfl, hv0, hb2⟩
  have HG0 := Lib.hid (getD_map (f := evX vs vals) HY.out)
  generalize hr0 : evX vs vals y = r0 at *
  have hb3 := bone w2 (.cells #[.int .i64 v0.kind, .int .i64 v0.n, .string v0.s] 63)
  have hF := Blk.new w2 63 #[.int .i64 v0.kind, .int .i64 v0.n, .string v0.s]
  have hb13 := bthen hb2 hb3
  have hB3 := hB.now hb13
  have hl3 := SlE.now hl1 hb13
  clear q0 q1 q2 q3 q4 q5
  have l2' := hF.lt
  go_upto_region 7 with fail
  generalize hw3 : w2.alloc (.cells #[.int .i64 v0.kind, .int .i64 v0.n, .string v0.s] 63) = w3 at *
  clear hw3
  obtain ⟨q0, q1, q2, q3, q4, q5⟩ := hB3.c6
  obtain ⟨f0, f1, f2⟩ := hF.c3
  cases r0 with
  | none =>
    have HR : Hid (evX vs vals x = none) := by
      show _ = _
      rw [HKEY.out]
      unfold evO
      rw [if_neg (by omega), if_neg (by omega), HG0.out]
    clear f0 f1 f2 q0 q1 q2 q3 q4 q5
    obtain ⟨⟨k0, k1, k2⟩, hS, ⟨y0, y1, y2⟩, hbS⟩ := HST.out w3 (.int .i64 0) (.int .i64 0) (.string ⟨#[]⟩) hb13
    go_wp2_with fail
    obtain ⟨t0, t1, t2⟩ := hS.c3
    refine bodyPost_ret (v := .tuple #[.agg #[.int .i64 0, .int .i64 0, .string ⟨#[]⟩], .bool false]) (by simp [results, Tryz.results110, go_sem, t0, t1, t2]) rfl ?_
    exact RetO.cast HR.out ⟨⟨0, 0, ⟨#[]⟩⟩, rfl, fun a h => (by cases h), hbS⟩

  | some a =>
    obtain rfl : v0 = a := hv0 a rfl
    have HVA := Lib.hid (HV0.out _ rfl)
    clear hv0
    by_cases hz : v0.n = 1
    · have b1 : (v0.n == 1) = true := by simp [hz]
      have HZ := Lib.hid hz
      clear hz
      have hli : 1 < x.l.length := by have := HSL.out; omega
      obtain ⟨b1, o1, y1, ylv, n1, hn, hA1, hD1, hy, hex, hfv, hsl, e0, e1, e2, e3, e4, e5⟩ := hl3.at_ hli
      injection hA1 with hA1
      injection hA1 with g1 g2 _
      subst g1 g2
      have HY1 := Lib.hid hy
      have hym1 := List.mem_of_getElem? hy
      obtain ⟨A2, c2', rfl, m1, m2, _⟩ := hsl.open_
      have hcall := Lib.hid (ih n1 (by omega) vs vals y1 _ _ _ _ (h0.part hym1 (bthen hb hb13) hex))
      have HV1 := Lib.hid (fun (a : Val) (h : evX vs vals y1 = some a) => h0.val hym1 h)
      have i1 : (1 : Int) < (x.l.length : Int) := by omega
      clear hy hex hsl hfv hn
      go_wp2_with fail
      refine hcall.out.mono ?_
      clear hcall e0 e1 e2 e3 e4 e5
      rintro e w4 ⟨v1, rfl, hv1', hb4⟩
      have HG1 := Lib.hid (getD_map (f := evX vs vals) HY1.out)
      generalize hr1 : evX vs vals y1 = r1 at *
      have HR : Hid (evX vs vals x = r1) := by
        show _ = _
        rw [HKEY.out]
        unfold evO
        rw [if_neg (by omega), if_neg (by omega), HG0.out]
        exact (if_neg (by omega)).trans ((if_neg (by omega)).trans ((if_neg (by omega)).trans ((if_pos ho).trans ((if_pos HZ.out).trans HG1.out))))
      clear f0 f1 f2 q0 q1 q2 q3 q4 q5
      obtain ⟨⟨k0, k1, k2⟩, hS, ⟨y0, y1, y2⟩, hbS⟩ := HST.out w4 (.int .i64 v1.kind) (.int .i64 v1.n) (.string v1.s) (bthen hb13 hb4)
      go_wp2_with fail
      obtain ⟨t0, t1, t2⟩ := hS.c3
      refine bodyPost_ret (v := .tuple #[.agg #[.int .i64 v1.kind, .int .i64 v1.n, .string v1.s], .bool r1.isSome]) (by simp [results, Tryz.results110, go_sem, t0, t1, t2]) rfl ?_
      exact RetO.cast HR.out ⟨v1, rfl, hv1', hbS⟩
    · have b1 : (v0.n == 1) = false := by simpa using hz
      have HZ := Lib.hid hz
      clear hz
      have hli : 2 < x.l.length := by have := HSL.out; omega
      obtain ⟨b1, o1, y1, ylv, n1, hn, hA1, hD1, hy, hex, hfv, hsl, e0, e1, e2, e3, e4, e5⟩ := hl3.at_ hli
      injection hA1 with hA1
      injection hA1 with g1 g2 _
      subst g1 g2
      have HY1 := Lib.hid hy
      have hym1 := List.mem_of_getElem? hy
      obtain ⟨A2, c2', rfl, m1, m2, _⟩ := hsl.open_
      have hcall := Lib.hid (ih n1 (by omega) vs vals y1 _ _ _ _ (h0.part hym1 (bthen hb hb13) hex))
      have HV1 := Lib.hid (fun (a : Val) (h : evX vs vals y1 = some a) => h0.val hym1 h)
      have i1 : (2 : Int) < (x.l.length : Int) := by omega
      clear hy hex hsl hfv hn
      go_wp2_with fail
      refine hcall.out.mono ?_
      clear hcall e0 e1 e2 e3 e4 e5
      rintro e w4 ⟨v1, rfl, hv1', hb4⟩
      have HG1 := Lib.hid (getD_map (f := evX vs vals) HY1.out)
      generalize hr1 : evX vs vals y1 = r1 at *
      have HR : Hid (evX vs vals x = r1) := by
        show _ = _
        rw [HKEY.out]
        unfold evO
        rw [if_neg (by omega), if_neg (by omega), HG0.out]
        exact (if_neg (by omega)).trans ((if_neg (by omega)).trans ((if_neg (by omega)).trans ((if_pos ho).trans ((if_neg HZ.out).trans HG1.out))))
      clear f0 f1 f2 q0 q1 q2 q3 q4 q5
      obtain ⟨⟨k0, k1, k2⟩, hS, ⟨y0, y1, y2⟩, hbS⟩ := HST.out w4 (.int .i64 v1.kind) (.int .i64 v1.n) (.string v1.s) (bthen hb13 hb4)
      go_wp2_with fail
      obtain ⟨t0, t1, t2⟩ := hS.c3
      refine bodyPost_ret (v := .tuple #[.agg #[.int .i64 v1.kind, .int .i64 v1.n, .string v1.s], .bool r1.isSome]) (by simp [results, Tryz.results110, go_sem, t0, t1, t2]) rfl ?_
      exact RetO.cast HR.out ⟨v1, rfl, hv1', hbS⟩
theorem any_drop_not {l : List Ex} {a : Val} (h : ∀ k y, 1 ≤ k → l[k]? = some y → y.v ≠ a) : ((l.drop 1).any fun y => decide (y.v = a)) = false := by
  rw [List.any_eq_false]
  intro y hy
  obtain ⟨j, hj, rfl⟩ := List.mem_iff_getElem.1 hy
  have := h (1 + j) _ (by omega) (by rw [← List.getElem?_drop]; exact List.getElem?_eq_getElem hj)
  simpa using this
theorem any_drop {l : List Ex} {a : Val} {j : Nat} {y : Ex} (hj : 1 ≤ j) (hy : l[j]? = some y) (h : y.v = a) : ((l.drop 1).any fun y => decide (y.v = a)) = true := by
  rw [List.any_eq_true]
  refine ⟨y, ?_, by simpa using h⟩
  have : (l.drop 1)[j - 1]? = some y := by rw [List.getElem?_drop]; rw [show 1 + (j - 1) = j by omega]; exact hy
  exact List.mem_of_getElem? this
set_option maxHeartbeats 8000000 in
set_option maxRecDepth 100000 in
theorem value_in (n : Nat) (ih : ∀ m, m < n → EvalAt 110 m) (vs : List Var) (vals : List Val) (x : Ex) (w : World) (uv vv u : Value) (h : EvArgs n vs vals x w uv vv u) (ho : x.op = 13) : Calls Tryz.prog 110 #[uv, vv, u] w (RetO (evX vs vals x) w) := by
  have HO := Lib.hid ho
  clear ho
  have h0 := h
  obtain ⟨hvs, hvl, hx, _, _, hA⟩ := h
  obtain ⟨Av, cv, rfl, v1, v2, hvs⟩ := hvs.open_
  obtain ⟨Aw, cw, rfl, v3, v4, hvl⟩ := hvl.open_
  obtain ⟨lv, rfl, h1, h2, h3, h4⟩ := hx
  obtain ⟨A, c, rfl, l1, l2, h4⟩ := h4.open_
  have hb := bbox (bone w (.cells #[.int .i64 x.op, .int .i64 x.v.kind, .int .i64 x.v.n, .string x.v.s, .string x.s, .slice A x.l.length c] 65)) (.cells #[.int .i64 0, .int .i64 0, .string ⟨#[]⟩] 63)
  have hB := (Blk.new w 65 #[.int .i64 x.op, .int .i64 x.v.kind, .int .i64 x.v.n, .string x.v.s, .string x.s, .slice A x.l.length c]).alloc (.cells #[.int .i64 0, .int .i64 0, .string ⟨#[]⟩] 63)
  have hR := Blk.new_at (t := 63) (cs := #[.int .i64 0, .int .i64 0, .string ⟨#[]⟩]) (w := w.alloc (.cells #[.int .i64 x.op, .int .i64 x.v.kind, .int .i64 x.v.n, .string x.v.s, .string x.s, .slice A x.l.length c] 65)) (s := w.heap.size + 1) (by simp)
  have hl1 := SlE.now h4 hb
  have hv1 := hvs.now hb
  have hw1 := hvl.now hb
  clear h4 hvs hvl
  go_enter Tryz.func110, Tryz.ntmps110
  go_upto_region 1 with fail
  generalize hww : (w.alloc (.cells #[.int .i64 x.op, .int .i64 x.v.kind, .int .i64 x.v.n, .string x.v.s, .string x.s, .slice A x.l.length c] 65)).alloc (.cells #[.int .i64 0, .int .i64 0, .string ⟨#[]⟩] 63) = w1 at *
  clear hww
  have ho := HO.out
  have HST : Hid (∀ (W : World) (x y z : Value), Below w1.heap.size w1 W →
      (W.frozen? ⟨w.heap.size + 1, 0, none⟩ = false ∧ W.frozen? ⟨w.heap.size + 1, 1, none⟩ = false ∧ W.frozen? ⟨w.heap.size + 1, 2, none⟩ = false) ∧
      Blk (((W.setCell ⟨w.heap.size + 1, 0, none⟩ x).setCell ⟨w.heap.size + 1, 1, none⟩ y).setCell ⟨w.heap.size + 1, 2, none⟩ z) (w.heap.size + 1) 63 #[x, y, z] ∧
      (W.cell? ⟨w.heap.size + 1, 0, none⟩ = some (.int .i64 0) ∧ W.cell? ⟨w.heap.size + 1, 1, none⟩ = some (.int .i64 0) ∧ W.cell? ⟨w.heap.size + 1, 2, none⟩ = some (.string ⟨#[]⟩)) ∧
      Below w.heap.size w (((W.setCell ⟨w.heap.size + 1, 0, none⟩ x).setCell ⟨w.heap.size + 1, 1, none⟩ y).setCell ⟨w.heap.size + 1, 2, none⟩ z)) :=
    fun W x y z hW => ⟨⟨(hR.now hW).frozen 0, (hR.now hW).frozen 1, (hR.now hW).frozen 2⟩, (hR.now hW).set3 _ _ _, (hR.now hW).c3, bset3 (bthen hb hW) (by omega) _ _ _⟩
  obtain ⟨q0, q1, q2, q3, q4, q5⟩ := hB.c6
  have HKEY := Lib.hid (ev_key vs vals x)
  have HSL := Lib.hid (shape_len h0.shape)
  have hlen : 1 ≤ x.l.length := by have := HSL.out; omega
  obtain ⟨b, o, y, ylv, n', hn, rfl, hD, hy, hex, hfv, hsl, e0, e1, e2, e3, e4, e5⟩ := hl1.at_ (k := 0) (by omega)
  have HY := Lib.hid hy
  have hym := List.mem_of_getElem? hy
  obtain ⟨A2, c2', rfl, m1, m2, _⟩ := hsl.open_
  have hcall := Lib.hid (ih n' (by omega) vs vals y _ _ _ _ (h0.part hym hb hex))
  have HV0 := Lib.hid (fun (a : Val) (h : evX vs vals y = some a) => h0.val hym h)
  have i0 : (0 : Int) < (x.l.length : Int) := by omega
  have e0' : w1.cell? ⟨b, o, none⟩ = some (.int .i64 y.op) := by simpa using e0
  have e1' : w1.cell? ⟨b, o + 1, none⟩ = some (.int .i64 y.v.kind) := by simpa using e1
  have e2' : w1.cell? ⟨b, o + 2, none⟩ = some (.int .i64 y.v.n) := by simpa using e2
  have e3' : w1.cell? ⟨b, o + 3, none⟩ = some (.string y.v.s) := by simpa using e3
  have e4' : w1.cell? ⟨b, o + 4, none⟩ = some (.string y.s) := by simpa using e4
  have e5' : w1.cell? ⟨b, o + 5, none⟩ = some (.slice A2 y.l.length c2') := by simpa using e5
  clear hy hex hsl hfv e0 e1 e2 e3 e4 e5 hn
  go_wp2_with fail
  refine hcall.out.mono ?_
  clear hcall e0' e1' e2' e3' e4' e5'
  rintro e w2 ⟨v0, rfl, hv0, hb2⟩
  have HG0 := Lib.hid (getD_map (f := evX vs vals) HY.out)
  generalize hr0 : evX vs vals y = r0 at *
  have hb3 := bone w2 (.cells #[.int .i64 v0.kind, .int .i64 v0.n, .string v0.s] 63)
  have hF := Blk.new w2 63 #[.int .i64 v0.kind, .int .i64 v0.n, .string v0.s]
  have hb13 := bthen hb2 hb3
  have hB3 := hB.now hb13
  have hl3 := SlE.now hl1 hb13
  clear q0 q1 q2 q3 q4 q5
  have l2' := hF.lt
  go_upto_region 7 with fail
  generalize hw3 : w2.alloc (.cells #[.int .i64 v0.kind, .int .i64 v0.n, .string v0.s] 63) = w3 at *
  clear hw3
  obtain ⟨q0, q1, q2, q3, q4, q5⟩ := hB3.c6
  obtain ⟨f0, f1, f2⟩ := hF.c3
  cases r0 with
  | none =>
    have HR : Hid (evX vs vals x = none) := by
      show _ = _
      rw [HKEY.out]
      unfold evO
      rw [if_neg (by omega), if_neg (by omega), HG0.out]
    clear f0 f1 f2 q0 q1 q2 q3 q4 q5
    obtain ⟨⟨k0, k1, k2⟩, hS, ⟨y0, y1, y2⟩, hbS⟩ := HST.out w3 (.int .i64 0) (.int .i64 0) (.string ⟨#[]⟩) hb13
    go_wp2_with fail
    obtain ⟨t0, t1, t2⟩ := hS.c3
    refine bodyPost_ret (v := .tuple #[.agg #[.int .i64 0, .int .i64 0, .string ⟨#[]⟩], .bool false]) (by simp [results, Tryz.results110, go_sem, t0, t1, t2]) rfl ?_
    exact RetO.cast HR.out ⟨⟨0, 0, ⟨#[]⟩⟩, rfl, fun a h => (by cases h), hbS⟩

  | some a =>
    obtain rfl : v0 = a := hv0 a rfl
    have HVA := Lib.hid (HV0.out _ rfl)
    clear hv0
    have HR : Hid (evX vs vals x = some (truthV ((x.l.drop 1).any fun y => decide (y.v = v0)))) := by
      show _ = _
      rw [HKEY.out]
      unfold evO
      rw [if_neg (by omega), if_neg (by omega), HG0.out]
      exact (if_neg (by omega)).trans ((if_neg (by omega)).trans ((if_neg (by omega)).trans ((if_neg (by omega)).trans (if_pos ho))))
    have ev : ∀ d, valV (truthV d) = .agg #[.int .i64 (truthV d).kind, .int .i64 (truthV d).n, .string (truthV d).s] := fun d => rfl
    have EV := Lib.hid ev
    clear ev
    go_wp2_with fail
    go_loopw [10] (fun i wr => ∃ j : Nat, 1 ≤ j ∧ j ≤ x.l.length ∧ i = .int .i64 j ∧ (∀ k y, 1 ≤ k → k < j → x.l[k]? = some y → y.v ≠ v0) ∧ Below w3.heap.size w3 wr) (fun i _ => x.l.length - (intOf i).toNat)
    case atStart => exact ⟨1, Nat.le_refl _, hlen, rfl, fun k y h1 h2 _ => by omega, Below.refl _ _⟩
    case round =>
      obtain ⟨j, hj1, hj, rfl, hp, hbr⟩ := hrel
      have HP := Lib.hid hp
      have hb1r := bthen hb13 hbr
      have hBr := hB3.now hbr
      have hFr := hF.now hbr
      clear hp f0 f1 f2 q0 q1 q2 q3 q4 q5
      obtain ⟨q0, q1, q2, q3, q4, q5⟩ := hBr.c6
      obtain ⟨f0, f1, f2⟩ := hFr.c3
      by_cases hlt : j < x.l.length
      · obtain ⟨b1, o1, z, zlv, nz, hnz, hA1, hD1, hxz, hex, hfv, hsl, e0, e1, e2, e3, e4, e5⟩ := (SlE.now hl3 hbr).at_ hlt
        injection hA1 with hA1
        injection hA1 with g1 g2 _
        subst g1 g2
        have HXZ := Lib.hid hxz
        have i1 : (0 : Int) ≤ (j : Int) := by omega
        have i2 : (j : Int) < (x.l.length : Int) := by omega
        have heq := fun W => run_eqV W z.v v0
        clear hxz hex hfv hsl hnz
        by_cases hzv : z.v = v0
        · have HRR : Hid (evX vs vals x = some (truthV true)) := by show _ = _; rw [HR.out, any_drop hj1 HXZ.out hzv]
          rw [decide_eq_true hzv] at heq
          clear hzv
          go_upto_region 20 with fail
          go_quiet (fail)
          go_wp2_with fail
          refine (truth_ref true _).mono ?_
          rintro e w6 ⟨rfl, hb6⟩
          have hb16 := bthen (bdrawn hb1r _) hb6
          clear f0 f1 f2 q0 q1 q2 q3 q4 q5 e0 e1 e2 e3 e4 e5 heq
          rw [EV.out]
          generalize truthV true = tv at *
          obtain ⟨⟨k0, k1, k2⟩, hS, ⟨y0, y1, y2⟩, hbS⟩ := HST.out w6 (.int .i64 tv.kind) (.int .i64 tv.n) (.string tv.s) hb16
          go_wp2_with fail
          obtain ⟨t0, t1, t2⟩ := hS.c3
          refine bodyPost_ret (v := .tuple #[.agg #[.int .i64 tv.kind, .int .i64 tv.n, .string tv.s], .bool true]) (by simp [results, Tryz.results110, go_sem, t0, t1, t2]) rfl ?_
          exact RetO.cast HRR.out ⟨tv, rfl, fun a h => (by injection h), hbS⟩

        · have HZ := Lib.hid hzv
          rw [decide_eq_false hzv] at heq
          clear hzv
          go_upto_region 20 with fail
          go_quiet (fail)
          go_wp2_with fail
          go_roundw
          case rel =>
            refine ⟨j + 1, by omega, by omega, by go_num, fun k y h1 hk hy => ?_, bdrawn hbr _⟩
            by_cases e : k = j
            · subst e; rw [HXZ.out] at hy; injection hy with hy; subst hy; exact HZ.out
            · exact HP.out k y h1 (by omega) hy
          case measure => simp [intOf]; omega
      · have i2 : (x.l.length : Int) ≤ (j : Int) := by omega
        have HRR : Hid (evX vs vals x = some (truthV false)) := by
          show _ = _
          rw [HR.out, any_drop_not (fun k y h1 hy => HP.out k y h1 (by
            have : k < x.l.length := by
              rcases Nat.lt_or_ge k x.l.length with h | h
              · exact h
              · rw [List.getElem?_eq_none h] at hy; cases hy
            omega) hy)]
        go_wp2_with fail
        refine (truth_ref false _).mono ?_
        rintro e w6 ⟨rfl, hb6⟩
        have hb16 := bthen hb1r hb6
        clear f0 f1 f2 q0 q1 q2 q3 q4 q5
        rw [EV.out]
        generalize truthV false = tv at *
        obtain ⟨⟨k0, k1, k2⟩, hS, ⟨y0, y1, y2⟩, hbS⟩ := HST.out w6 (.int .i64 tv.kind) (.int .i64 tv.n) (.string tv.s) hb16
        go_wp2_with fail
        obtain ⟨t0, t1, t2⟩ := hS.c3
        refine bodyPost_ret (v := .tuple #[.agg #[.int .i64 tv.kind, .int .i64 tv.n, .string tv.s], .bool true]) (by simp [results, Tryz.results110, go_sem, t0, t1, t2]) rfl ?_
        exact RetO.cast HRR.out ⟨tv, rfl, fun a h => (by injection h), hbS⟩
end Go.Proofs.YtlmenhjlgmejkaaGreatDoor

namespace Go.Proofs.YtlmenhjlgmejkaaGreatDoor
open Go.RowKit
def readB : List UInt8 → List UInt8 → Int × List UInt8 × List UInt8
  | _, [] => (4, [], [])
  | acc, c :: r =>
    if c.toNat = 34 then (0, acc, r)
    else if c.toNat = 92 then
      match r with
      | [] => (4, [], [])
      | d :: r' => if d.toNat = 34 ∨ d.toNat = 92 then readB (acc ++ [d]) r' else (3, [], [])
    else readB (acc ++ [c]) r
theorem read_end {acc r : List UInt8} {c : UInt8} (h : c.toNat = 34) : readB acc (c :: r) = (0, acc, r) := by rw [readB.eq_def]; exact if_pos h
theorem read_esc {acc r : List UInt8} {c d : UInt8} (h1 : c.toNat ≠ 34) (h2 : c.toNat = 92) (h3 : d.toNat = 34 ∨ d.toNat = 92) : readB acc (c :: d :: r) = readB (acc ++ [d]) r := by rw [readB, if_neg h1, if_pos h2, if_pos h3]
theorem read_one {acc r : List UInt8} {c : UInt8} (h1 : c.toNat ≠ 34) (h2 : c.toNat ≠ 92) : readB acc (c :: r) = readB (acc ++ [c]) r := by rw [readB.eq_def]; exact (if_neg h1).trans (if_neg h2)
theorem escC_esc {c : UInt8} (h : c.toNat = 34 ∨ c.toNat = 92) : escC c = [92, c] := if_pos h
theorem escC_one {c : UInt8} (h : ¬ (c.toNat = 34 ∨ c.toNat = 92)) : escC c = [c] := if_neg h
theorem read_quote (t rest : List UInt8) : ∀ acc, readB acc (escB t ++ 34 :: rest) = (0, acc ++ t, rest) := by
  induction t with
  | nil => intro acc; rw [show escB [] ++ 34 :: rest = 34 :: rest from rfl, read_end rfl, List.append_nil]
  | cons c t ih =>
    intro acc
    have e : escB (c :: t) = escC c ++ escB t := by unfold escB; rw [List.flatMap_cons]
    rw [e, List.append_assoc]
    by_cases h : c.toNat = 34 ∨ c.toNat = 92
    · rw [escC_esc h, List.cons_append, List.cons_append, List.nil_append, read_esc (by decide) rfl h, ih, List.append_assoc]; rfl
    · rw [escC_one h, List.cons_append, List.nil_append, read_one (fun e => h (.inl e)) (fun e => h (.inr e)), ih, List.append_assoc]; rfl
def endE : Int × List UInt8 × List UInt8 → ByteArray × Int
  | (0, t, []) => if 16384 < t.length then (⟨#[]⟩, 5) else (⟨t.toArray⟩, 0)
  | (0, _, _ :: _) => (⟨#[]⟩, 3)
  | (e, _, _) => (⟨#[]⟩, e)
def headB (l : List UInt8) : Bool := match l with
  | [] => false
  | c :: _ => decide (c.toNat = 34)
def unquoteE (s : ByteArray) : ByteArray × Int :=
  if 32770 < s.size then (⟨#[]⟩, 5)
  else if headB s.data.toList && plainS s then endE (readB [] (s.data.toList.drop 1)) else (⟨#[]⟩, 3)
theorem size_list (t : ByteArray) : t.data.toList.length = t.size := Array.length_toList
theorem quote_size (t : ByteArray) : (quoteS t).size ≤ 2 * t.size + 2 := by
  have := escB_len t.data.toList
  unfold quoteS quoteL
  simp only [ByteArray.size, List.size_toArray, List.length_cons, List.length_append, List.length_nil]
  have e : t.data.toList.length = t.data.size := by simp
  omega
def okOf : Lib.NumEnd Int → Option Int
  | .ok n => some n
  | _ => none
def numOf (s : ByteArray) : Option Int := (okOf (Lib.atoiAll s.data.toList)).bind fun n => if numB n && decide (itoaS n = s) then some n else none
def txtOf (s : ByteArray) : Option ByteArray := if (unquoteE s).2 = 0 ∧ textB (unquoteE s).1 = true then some (unquoteE s).1 else none
def parseE (s : ByteArray) : Val × Int :=
  if s = trueS then (⟨1, 1, ⟨#[]⟩⟩, 0) else if s = falseS then (⟨1, 0, ⟨#[]⟩⟩, 0) else
  match numOf s with
  | some n => (⟨2, n, ⟨#[]⟩⟩, 0)
  | none => match txtOf s with
    | some t => (⟨3, 0, t⟩, 0)
    | none => (⟨0, 0, ⟨#[]⟩⟩, 3)
end Go.Proofs.YtlmenhjlgmejkaaGreatDoor

namespace Go.Proofs.YtlmenhjlgmejkaaGreatDoor
open Go.RowKit
def arcOf (back : Bool) (t : Tr) : List Int × List Int := if back then (t.outs, t.ins) else (t.ins, t.outs)
def arcs (back : Bool) (n : Net) : List (List Int × List Int) := n.trans.map (arcOf back)
def Reach (ts : List (List Int × List Int)) (a p : Int) : Prop := ∀ S : Int → Prop, S a → (∀ t ∈ ts, ∀ q ∈ t.1, S q → ∀ r ∈ t.2, S r) → S p
theorem Reach.start (ts : List (List Int × List Int)) (a : Int) : Reach ts a a := fun _ h _ => h
def setAll (pl : List Bool) (ps : List Int) : List Bool := ps.foldl (fun l p => l.set p.toNat true) pl
structure Inv (ts : List (List Int × List Int)) (P : Nat) (a : Int) (pl tr : List Bool) : Prop where
  lp : pl.length = P
  lt : tr.length = ts.length
  has : pl.getD a.toNat false = true
  ok : ∀ k, pl.getD k false = true → Reach ts a k
  done : ∀ i t, ts[i]? = some t → tr.getD i false = true → (∃ q ∈ t.1, Reach ts a q) ∧ ∀ r ∈ t.2, pl.getD r.toNat false = true
def anyIn (pl : List Bool) (ps : List Int) : Bool := ps.any fun p => pl.getD p.toNat false
def InPl (P : Nat) (ts : List (List Int × List Int)) : Prop := ∀ t ∈ ts, (∀ q ∈ t.1, 0 ≤ q ∧ q.toNat < P) ∧ (∀ r ∈ t.2, 0 ≤ r ∧ r.toNat < P)
theorem getD_set_bool (l : List Bool) (i j : Nat) : (l.set i true).getD j false = true ↔ (i = j ∧ i < l.length) ∨ l.getD j false = true := by
  simp only [List.getD_eq_getElem?_getD, List.getElem?_set]
  by_cases h : i = j
  · subst h
    by_cases hl : i < l.length
    · simp [hl]
    · simp [hl]
  · simp [h]
theorem Inv.start {ts : List (List Int × List Int)} {P : Nat} {a : Int} (h0 : 0 ≤ a) (h1 : a.toNat < P) : Inv ts P a ((List.replicate P false).set a.toNat true) (List.replicate ts.length false) := by
  refine ⟨by simp, by simp, ?_, ?_, ?_⟩
  · rw [getD_set_bool]; left; simp [h1]
  · intro k hk
    rw [getD_set_bool] at hk
    rcases hk with ⟨h, _⟩ | h
    · have : (k : Int) = a := by omega
      rw [this]; exact Reach.start ts a
    · simp only [List.getD_eq_getElem?_getD, List.getElem?_replicate] at h
      split at h <;> simp at h
  · intro i t _ h
    simp only [List.getD_eq_getElem?_getD, List.getElem?_replicate] at h
    split at h <;> simp at h
def Found (ts : List (List Int × List Int)) (P : Nat) (a : Int) (pl tr : List Bool) : Prop :=
  pl.length = P ∧ tr.length = ts.length ∧ (∀ k, pl.getD k false = true ↔ Reach ts a k) ∧ (∀ i t, ts[i]? = some t → (tr.getD i false = true ↔ ∃ q ∈ t.1, Reach ts a q))
def falses (tr : List Bool) : Nat := (tr.filter (fun b => !b)).length
theorem falses_set (tr : List Bool) : ∀ i, i < tr.length → tr.getD i false = false → falses (tr.set i true) + 1 = falses tr := by
  unfold falses
  induction tr with
  | nil => intro i hi; simp at hi
  | cons b tr ih =>
    intro i hi h
    cases i with
    | zero => simp at h; subst h; simp
    | succ i =>
      have := ih i (by simpa using hi) (by simpa using h)
      cases b
      · simp only [List.set_cons_succ, List.filter_cons, Bool.not_false, if_true, List.length_cons]; omega
      · simp only [List.set_cons_succ, List.filter_cons, Bool.not_true, Bool.false_eq_true, if_false]; omega
end Go.Proofs.YtlmenhjlgmejkaaGreatDoor
