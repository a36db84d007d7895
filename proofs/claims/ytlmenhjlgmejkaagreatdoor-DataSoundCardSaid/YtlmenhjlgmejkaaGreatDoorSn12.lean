/- Merged texts. -/
import Derived.Test.YtlmenhjlgmejkaaGreatDoorSn11
set_option linter.all false
namespace Go.Proofs.YtlmenhjlgmejkaaGreatDoor
open Go.RowKit
set_option maxHeartbeats 4000000 in
set_option maxRecDepth 100000 in
theorem value_const (n : Nat) (vs : List Var) (vals : List Val) (x : Ex) (w : World) (uv vv u : Value) (h : EvArgs n vs vals x w uv vv u) (ho : x.op = 1) : Calls Tryz.prog 110 #[uv, vv, u] w (RetO (evX vs vals x) w) := by
 have HO := Lib.hid ho
 clear ho
 have h0 := h
 obtain ⟨hvs, hvl, hx, _, _, hA⟩ := h
 obtain ⟨Av, cv, rfl, v1, v2, hvs⟩ := hvs.open_
 obtain ⟨Aw, cw, rfl, v3, v4, hvl⟩ := hvl.open_
 obtain ⟨lv, rfl, h1, h2, h3, h4⟩ := hx
 obtain ⟨A, c, rfl, l1, l2, h4⟩ := h4.open_
 have hb := bbox (bone w (.cells #[.int .i64 x.op, .int .i64 x.v.kind, .int .i64 x.v.n, .string x.v.s, .string x.s, .slice A x.l.length c] 65)) (.cells #[.int .i64 0, .int .i64 0, .string ⟨#[]⟩] 63)
 have hB := (Blk.new w 65 #[.int .i64 x.op, .int .i64 x.v.kind, .int .i64 x.v.n, .string x.v.s, .string x.s, .slice A x.l.length c]).alloc (.cells #[.int .i64 0, .int .i64 0, .string ⟨#[]⟩] 63)
 have hR := Blk.new_at (t := 63) (cs := #[.int .i64 0, .int .i64 0, .string ⟨#[]⟩]) (w := w.alloc (.cells #[.int .i64 x.op, .int .i64 x.v.kind, .int .i64 x.v.n, .string x.v.s, .string x.s, .slice A x.l.length c] 65)) (s := w.heap.size + 1) (by simp)
 have hl1 := SlE.now h4 hb
 have hv1 := hvs.now hb
 have hw1 := hvl.now hb
 clear h4 hvs hvl
 go_enter Tryz.func110, Tryz.ntmps110
 go_upto_region 1 with fail
 generalize hww : (w.alloc (.cells #[.int .i64 x.op, .int .i64 x.v.kind, .int .i64 x.v.n, .string x.v.s, .string x.s, .slice A x.l.length c] 65)).alloc (.cells #[.int .i64 0, .int .i64 0, .string ⟨#[]⟩] 63) = w1 at *
 clear hww
 have ho := HO.out
 have HST : Hid (∀ (W : World) (x y z : Value), Below w1.heap.size w1 W →
   (W.frozen? ⟨w.heap.size + 1, 0, none⟩ = false ∧ W.frozen? ⟨w.heap.size + 1, 1, none⟩ = false ∧ W.frozen? ⟨w.heap.size + 1, 2, none⟩ = false) ∧
   Blk (((W.setCell ⟨w.heap.size + 1, 0, none⟩ x).setCell ⟨w.heap.size + 1, 1, none⟩ y).setCell ⟨w.heap.size + 1, 2, none⟩ z) (w.heap.size + 1) 63 #[x, y, z] ∧
   (W.cell? ⟨w.heap.size + 1, 0, none⟩ = some (.int .i64 0) ∧ W.cell? ⟨w.heap.size + 1, 1, none⟩ = some (.int .i64 0) ∧ W.cell? ⟨w.heap.size + 1, 2, none⟩ = some (.string ⟨#[]⟩)) ∧
   Below w.heap.size w (((W.setCell ⟨w.heap.size + 1, 0, none⟩ x).setCell ⟨w.heap.size + 1, 1, none⟩ y).setCell ⟨w.heap.size + 1, 2, none⟩ z)) :=
  fun W x y z hW => ⟨⟨(hR.now hW).frozen 0, (hR.now hW).frozen 1, (hR.now hW).frozen 2⟩, (hR.now hW).set3 _ _ _, (hR.now hW).c3, bset3 (bthen hb hW) (by omega) _ _ _⟩
 obtain ⟨q0, q1, q2, q3, q4, q5⟩ := hB.c6
 have HKEY := Lib.hid (ev_key vs vals x)
 have HSL := Lib.hid (shape_len h0.shape)
 have HR : Hid (evX vs vals x = some x.v) := by show _ = _; rw [HKEY.out]; unfold evO; rw [if_pos ho]
 obtain ⟨⟨k0, k1, k2⟩, hS, ⟨y0, y1, y2⟩, hbS⟩ := HST.out w1 (.int .i64 x.v.kind) (.int .i64 x.v.n) (.string x.v.s) (Below.refl _ _)
 go_wp2_with fail
 obtain ⟨t0, t1, t2⟩ := hS.c3
 refine bodyPost_ret (v := .tuple #[.agg #[.int .i64 x.v.kind, .int .i64 x.v.n, .string x.v.s], .bool true]) (by simp [results, Tryz.results110, go_sem, t0, t1, t2]) rfl ?_
 exact RetO.cast HR.out ⟨x.v, rfl, fun a h => (by injection h), hbS⟩
set_option maxHeartbeats 4000000 in
set_option maxRecDepth 100000 in
theorem value_var (n : Nat) (vs : List Var) (vals : List Val) (x : Ex) (w : World) (uv vv u : Value) (h : EvArgs n vs vals x w uv vv u) (ho : x.op = 2) : Calls Tryz.prog 110 #[uv, vv, u] w (RetO (evX vs vals x) w) := by
 have HO := Lib.hid ho
 clear ho
 have h0 := h
 obtain ⟨hvs, hvl, hx, _, _, hA⟩ := h
 obtain ⟨Av, cv, rfl, v1, v2, hvs⟩ := hvs.open_
 obtain ⟨Aw, cw, rfl, v3, v4, hvl⟩ := hvl.open_
 obtain ⟨lv, rfl, h1, h2, h3, h4⟩ := hx
 obtain ⟨A, c, rfl, l1, l2, h4⟩ := h4.open_
 have hb := bbox (bone w (.cells #[.int .i64 x.op, .int .i64 x.v.kind, .int .i64 x.v.n, .string x.v.s, .string x.s, .slice A x.l.length c] 65)) (.cells #[.int .i64 0, .int .i64 0, .string ⟨#[]⟩] 63)
 have hB := (Blk.new w 65 #[.int .i64 x.op, .int .i64 x.v.kind, .int .i64 x.v.n, .string x.v.s, .string x.s, .slice A x.l.length c]).alloc (.cells #[.int .i64 0, .int .i64 0, .string ⟨#[]⟩] 63)
 have hR := Blk.new_at (t := 63) (cs := #[.int .i64 0, .int .i64 0, .string ⟨#[]⟩]) (w := w.alloc (.cells #[.int .i64 x.op, .int .i64 x.v.kind, .int .i64 x.v.n, .string x.v.s, .string x.s, .slice A x.l.length c] 65)) (s := w.heap.size + 1) (by simp)
 have hl1 := SlE.now h4 hb
 have hv1 := hvs.now hb
 have hw1 := hvl.now hb
 clear h4 hvs hvl
 go_enter Tryz.func110, Tryz.ntmps110
 go_upto_region 1 with fail
 generalize hww : (w.alloc (.cells #[.int .i64 x.op, .int .i64 x.v.kind, .int .i64 x.v.n, .string x.v.s, .string x.s, .slice A x.l.length c] 65)).alloc (.cells #[.int .i64 0, .int .i64 0, .string ⟨#[]⟩] 63) = w1 at *
 clear hww
 have ho := HO.out
 have HST : Hid (∀ (W : World) (x y z : Value), Below w1.heap.size w1 W →
   (W.frozen? ⟨w.heap.size + 1, 0, none⟩ = false ∧ W.frozen? ⟨w.heap.size + 1, 1, none⟩ = false ∧ W.frozen? ⟨w.heap.size + 1, 2, none⟩ = false) ∧
   Blk (((W.setCell ⟨w.heap.size + 1, 0, none⟩ x).setCell ⟨w.heap.size + 1, 1, none⟩ y).setCell ⟨w.heap.size + 1, 2, none⟩ z) (w.heap.size + 1) 63 #[x, y, z] ∧
   (W.cell? ⟨w.heap.size + 1, 0, none⟩ = some (.int .i64 0) ∧ W.cell? ⟨w.heap.size + 1, 1, none⟩ = some (.int .i64 0) ∧ W.cell? ⟨w.heap.size + 1, 2, none⟩ = some (.string ⟨#[]⟩)) ∧
   Below w.heap.size w (((W.setCell ⟨w.heap.size + 1, 0, none⟩ x).setCell ⟨w.heap.size + 1, 1, none⟩ y).setCell ⟨w.heap.size + 1, 2, none⟩ z)) :=
  fun W x y z hW => ⟨⟨(hR.now hW).frozen 0, (hR.now hW).frozen 1, (hR.now hW).frozen 2⟩, (hR.now hW).set3 _ _ _, (hR.now hW).c3, bset3 (bthen hb hW) (by omega) _ _ _⟩
 obtain ⟨q0, q1, q2, q3, q4, q5⟩ := hB.c6
 have HKEY := Lib.hid (ev_key vs vals x)
 have HSL := Lib.hid (shape_len h0.shape)
 have hf : ¬ findV vs x.s < 0 := by
  intro hf
  have ht := (types_of h0.hty).2
  unfold typO at ht
  rw [if_neg (by omega), if_pos ho, if_pos hf] at ht
  cases ht
 obtain ⟨i, z, hi, hz⟩ := find_at hf
 have hil : i < vals.length := by
  rw [hA.len]
  rcases Nat.lt_or_ge i vs.length with h | h
  ·exact h
  ·rw [List.getElem?_eq_none h] at hz; cases hz
 have HFI := Lib.hid hi
 clear hf hi hz
 go_wp2_with fail
 refine (find_ref vs x.s _ _ hv1).mono ?_
 rintro e w9 ⟨rfl, rfl⟩
 have hb2 : Below w1.heap.size w1 w1 := Below.refl _ _
 rw [HFI.out]
 obtain ⟨b, o, v, rfl, hD, hv, hfv, c0, c1, c2⟩ := (hw1.now hb2).at_ hil
 have HR : Hid (evX vs vals x = some v) := by
  show _ = _
  rw [HKEY.out]
  unfold evO
  rw [if_neg (by omega), if_pos ho]
  unfold varV
  rw [HFI.out, Int.toNat_natCast, List.getD_eq_getElem?_getD, hv]; rfl
 have i1 : (0 : Int) ≤ (i : Int) := by omega
 have i2 : (i : Int) < (vals.length : Int) := by omega
 clear hv q0 q1 q2 q3 q4 q5
 obtain ⟨⟨k0, k1, k2⟩, hS, ⟨y0, y1, y2⟩, hbS⟩ := HST.out w1 (.int .i64 v.kind) (.int .i64 v.n) (.string v.s) hb2
 go_wp2_with fail
 obtain ⟨t0, t1, t2⟩ := hS.c3
 refine bodyPost_ret (v := .tuple #[.agg #[.int .i64 v.kind, .int .i64 v.n, .string v.s], .bool true]) (by simp [results, Tryz.results110, go_sem, t0, t1, t2]) rfl ?_
 exact RetO.cast HR.out ⟨v, rfl, fun a h => (by injection h), hbS⟩
set_option maxHeartbeats 4000000 in
set_option maxRecDepth 100000 in
theorem value_not (n : Nat) (ih : ∀ m, m < n → EvalAt 110 m) (vs : List Var) (vals : List Val) (x : Ex) (w : World) (uv vv u : Value) (h : EvArgs n vs vals x w uv vv u) (ho : x.op = 3) : Calls Tryz.prog 110 #[uv, vv, u] w (RetO (evX vs vals x) w) := by
 have HO := Lib.hid ho
 clear ho
 have h0 := h
 obtain ⟨hvs, hvl, hx, _, _, hA⟩ := h
 obtain ⟨Av, cv, rfl, v1, v2, hvs⟩ := hvs.open_
 obtain ⟨Aw, cw, rfl, v3, v4, hvl⟩ := hvl.open_
 obtain ⟨lv, rfl, h1, h2, h3, h4⟩ := hx
 obtain ⟨A, c, rfl, l1, l2, h4⟩ := h4.open_
 have hb := bbox (bone w (.cells #[.int .i64 x.op, .int .i64 x.v.kind, .int .i64 x.v.n, .string x.v.s, .string x.s, .slice A x.l.length c] 65)) (.cells #[.int .i64 0, .int .i64 0, .string ⟨#[]⟩] 63)
 have hB := (Blk.new w 65 #[.int .i64 x.op, .int .i64 x.v.kind, .int .i64 x.v.n, .string x.v.s, .string x.s, .slice A x.l.length c]).alloc (.cells #[.int .i64 0, .int .i64 0, .string ⟨#[]⟩] 63)
 have hR := Blk.new_at (t := 63) (cs := #[.int .i64 0, .int .i64 0, .string ⟨#[]⟩]) (w := w.alloc (.cells #[.int .i64 x.op, .int .i64 x.v.kind, .int .i64 x.v.n, .string x.v.s, .string x.s, .slice A x.l.length c] 65)) (s := w.heap.size + 1) (by simp)
 have hl1 := SlE.now h4 hb
 have hv1 := hvs.now hb
 have hw1 := hvl.now hb
 clear h4 hvs hvl
 go_enter Tryz.func110, Tryz.ntmps110
 go_upto_region 1 with fail
 generalize hww : (w.alloc (.cells #[.int .i64 x.op, .int .i64 x.v.kind, .int .i64 x.v.n, .string x.v.s, .string x.s, .slice A x.l.length c] 65)).alloc (.cells #[.int .i64 0, .int .i64 0, .string ⟨#[]⟩] 63) = w1 at *
 clear hww
 have ho := HO.out
 have HST : Hid (∀ (W : World) (x y z : Value), Below w1.heap.size w1 W →
   (W.frozen? ⟨w.heap.size + 1, 0, none⟩ = false ∧ W.frozen? ⟨w.heap.size + 1, 1, none⟩ = false ∧ W.frozen? ⟨w.heap.size + 1, 2, none⟩ = false) ∧
   Blk (((W.setCell ⟨w.heap.size + 1, 0, none⟩ x).setCell ⟨w.heap.size + 1, 1, none⟩ y).setCell ⟨w.heap.size + 1, 2, none⟩ z) (w.heap.size + 1) 63 #[x, y, z] ∧
   (W.cell? ⟨w.heap.size + 1, 0, none⟩ = some (.int .i64 0) ∧ W.cell? ⟨w.heap.size + 1, 1, none⟩ = some (.int .i64 0) ∧ W.cell? ⟨w.heap.size + 1, 2, none⟩ = some (.string ⟨#[]⟩)) ∧
   Below w.heap.size w (((W.setCell ⟨w.heap.size + 1, 0, none⟩ x).setCell ⟨w.heap.size + 1, 1, none⟩ y).setCell ⟨w.heap.size + 1, 2, none⟩ z)) :=
  fun W x y z hW => ⟨⟨(hR.now hW).frozen 0, (hR.now hW).frozen 1, (hR.now hW).frozen 2⟩, (hR.now hW).set3 _ _ _, (hR.now hW).c3, bset3 (bthen hb hW) (by omega) _ _ _⟩
 obtain ⟨q0, q1, q2, q3, q4, q5⟩ := hB.c6
 have HKEY := Lib.hid (ev_key vs vals x)
 have HSL := Lib.hid (shape_len h0.shape)
 have hlen : 1 ≤ x.l.length := by have := HSL.out; omega
 obtain ⟨b, o, y, ylv, n', hn, rfl, hD, hy, hex, hfv, hsl, e0, e1, e2, e3, e4, e5⟩ := hl1.at_ (k := 0) (by omega)
 have HY := Lib.hid hy
 have hym := List.mem_of_getElem? hy
 obtain ⟨A2, c2', rfl, m1, m2, _⟩ := hsl.open_
 have hcall := Lib.hid (ih n' (by omega) vs vals y _ _ _ _ (h0.part hym hb hex))
 have HV0 := Lib.hid (fun (a : Val) (h : evX vs vals y = some a) => h0.val hym h)
 have i0 : (0 : Int) < (x.l.length : Int) := by omega
 have e0' : w1.cell? ⟨b, o, none⟩ = some (.int .i64 y.op) := by simpa using e0
 have e1' : w1.cell? ⟨b, o + 1, none⟩ = some (.int .i64 y.v.kind) := by simpa using e1
 have e2' : w1.cell? ⟨b, o + 2, none⟩ = some (.int .i64 y.v.n) := by simpa using e2
 have e3' : w1.cell? ⟨b, o + 3, none⟩ = some (.string y.v.s) := by simpa using e3
 have e4' : w1.cell? ⟨b, o + 4, none⟩ = some (.string y.s) := by simpa using e4
 have e5' : w1.cell? ⟨b, o + 5, none⟩ = some (.slice A2 y.l.length c2') := by simpa using e5
 clear hy hex hsl hfv e0 e1 e2 e3 e4 e5 hn
 go_wp2_with fail
 refine hcall.out.mono ?_
 clear hcall e0' e1' e2' e3' e4' e5'
 rintro e w2 ⟨v0, rfl, hv0, hb2⟩
 have HG0 := Lib.hid (getD_map (f := evX vs vals) HY.out)
 generalize hr0 : evX vs vals y = r0 at *
 have hb3 := bone w2 (.cells #[.int .i64 v0.kind, .int .i64 v0.n, .string v0.s] 63)
 have hF := Blk.new w2 63 #[.int .i64 v0.kind, .int .i64 v0.n, .string v0.s]
 have hb13 := bthen hb2 hb3
 have hB3 := hB.now hb13
 have hl3 := SlE.now hl1 hb13
 clear q0 q1 q2 q3 q4 q5
 have l2' := hF.lt
 go_upto_region 7 with fail
 generalize hw3 : w2.alloc (.cells #[.int .i64 v0.kind, .int .i64 v0.n, .string v0.s] 63) = w3 at *
 clear hw3
 obtain ⟨q0, q1, q2, q3, q4, q5⟩ := hB3.c6
 obtain ⟨f0, f1, f2⟩ := hF.c3
 cases r0 with
 | none =>
  have HR : Hid (evX vs vals x = none) := by
   show _ = _
   rw [HKEY.out]
   unfold evO
   rw [if_neg (by omega), if_neg (by omega), HG0.out]
  clear f0 f1 f2 q0 q1 q2 q3 q4 q5
  obtain ⟨⟨k0, k1, k2⟩, hS, ⟨y0, y1, y2⟩, hbS⟩ := HST.out w3 (.int .i64 0) (.int .i64 0) (.string ⟨#[]⟩) hb13
  go_wp2_with fail
  obtain ⟨t0, t1, t2⟩ := hS.c3
  refine bodyPost_ret (v := .tuple #[.agg #[.int .i64 0, .int .i64 0, .string ⟨#[]⟩], .bool false]) (by simp [results, Tryz.results110, go_sem, t0, t1, t2]) rfl ?_
  exact RetO.cast HR.out ⟨⟨0, 0, ⟨#[]⟩⟩, rfl, fun a h => (by cases h), hbS⟩

 | some a =>
  obtain rfl : v0 = a := hv0 a rfl
  have HVA := Lib.hid (HV0.out _ rfl)
  clear hv0
  have HR : Hid (evX vs vals x = some (truthV (decide (v0.n = 0)))) := by
   show _ = _
   rw [HKEY.out]
   unfold evO
   rw [if_neg (by omega), if_neg (by omega), HG0.out]
   exact if_pos ho
  generalize hd : decide (v0.n = 0) = d at *
  have hd' : (v0.n == 0) = d := hd
  clear hd
  go_wp2_with fail
  refine (truth_ref d _).mono ?_
  rintro e w4 ⟨rfl, hb4⟩
  clear f0 f1 f2 q0 q1 q2 q3 q4 q5
  have ev : valV (truthV d) = .agg #[.int .i64 (truthV d).kind, .int .i64 (truthV d).n, .string (truthV d).s] := rfl
  rw [ev]
  generalize truthV d = tv at *
  obtain ⟨⟨k0, k1, k2⟩, hS, ⟨y0, y1, y2⟩, hbS⟩ := HST.out w4 (.int .i64 tv.kind) (.int .i64 tv.n) (.string tv.s) (bthen hb13 hb4)
  go_wp2_with fail
  obtain ⟨t0, t1, t2⟩ := hS.c3
  refine bodyPost_ret (v := .tuple #[.agg #[.int .i64 tv.kind, .int .i64 tv.n, .string tv.s], .bool true]) (by simp [results, Tryz.results110, go_sem, t0, t1, t2]) rfl ?_
  exact RetO.cast HR.out ⟨tv, rfl, fun a h => (by injection h), hbS⟩
set_option maxHeartbeats 8000000 in
set_option maxRecDepth 100000 in
theorem value_and (n : Nat) (ih : ∀ m, m < n → EvalAt 110 m) (vs : List Var) (vals : List Val) (x : Ex) (w : World) (uv vv u : Value) (h : EvArgs n vs vals x w uv vv u) (ho : x.op = 4) : Calls Tryz.prog 110 #[uv, vv, u] w (RetO (evX vs vals x) w) := by
 have HO := Lib.hid ho
 clear ho
 have h0 := h
 obtain ⟨hvs, hvl, hx, _, _, hA⟩ := h
 obtain ⟨Av, cv, rfl, v1, v2, hvs⟩ := hvs.open_
 obtain ⟨Aw, cw, rfl, v3, v4, hvl⟩ := hvl.open_
 obtain ⟨lv, rfl, h1, h2, h3, h4⟩ := hx
 obtain ⟨A, c, rfl, l1, l2, h4⟩ := h4.open_
 have hb := bbox (bone w (.cells #[.int .i64 x.op, .int .i64 x.v.kind, .int .i64 x.v.n, .string x.v.s, .string x.s, .slice A x.l.length c] 65)) (.cells #[.int .i64 0, .int .i64 0, .string ⟨#[]⟩] 63)
 have hB := (Blk.new w 65 #[.int .i64 x.op, .int .i64 x.v.kind, .int .i64 x.v.n, .string x.v.s, .string x.s, .slice A x.l.length c]).alloc (.cells #[.int .i64 0, .int .i64 0, .string ⟨#[]⟩] 63)
 have hR := Blk.new_at (t := 63) (cs := #[.int .i64 0, .int .i64 0, .string ⟨#[]⟩]) (w := w.alloc (.cells #[.int .i64 x.op, .int .i64 x.v.kind, .int .i64 x.v.n, .string x.v.s, .string x.s, .slice A x.l.length c] 65)) (s := w.heap.size + 1) (by simp)
 have hl1 := SlE.now h4 hb
 have hv1 := hvs.now hb
 have hw1 := hvl.now hb
 clear h4 hvs hvl
 go_enter Tryz.func110, Tryz.ntmps110
 go_upto_region 1 with fail
 generalize hww : (w.alloc (.cells #[.int .i64 x.op, .int .i64 x.v.kind, .int .i64 x.v.n, .string x.v.s, .string x.s, .slice A x.l.length c] 65)).alloc (.cells #[.int .i64 0, .int .i64 0, .string ⟨#[]⟩] 63) = w1 at *
 clear hww
 have ho := HO.out
 have HST : Hid (∀ (W : World) (x y z : Value), Below w1.heap.size w1 W →
   (W.frozen? ⟨w.heap.size + 1, 0, none⟩ = false ∧ W.frozen? ⟨w.heap.size + 1, 1, none⟩ = false ∧ W.frozen? ⟨w.heap.size + 1, 2, none⟩ = false) ∧
   Blk (((W.setCell ⟨w.heap.size + 1, 0, none⟩ x).setCell ⟨w.heap.size + 1, 1, none⟩ y).setCell ⟨w.heap.size + 1, 2, none⟩ z) (w.heap.size + 1) 63 #[x, y, z] ∧
   (W.cell? ⟨w.heap.size + 1, 0, none⟩ = some (.int .i64 0) ∧ W.cell? ⟨w.heap.size + 1, 1, none⟩ = some (.int .i64 0) ∧ W.cell? ⟨w.heap.size + 1, 2, none⟩ = some (.string ⟨#[]⟩)) ∧
   Below w.heap.size w (((W.setCell ⟨w.heap.size + 1, 0, none⟩ x).setCell ⟨w.heap.size + 1, 1, none⟩ y).setCell ⟨w.heap.size + 1, 2, none⟩ z)) :=
  fun W x y z hW => ⟨⟨(hR.now hW).frozen 0, (hR.now hW).frozen 1, (hR.now hW).frozen 2⟩, (hR.now hW).set3 _ _ _, (hR.now hW).c3, bset3 (bthen hb hW) (by omega) _ _ _⟩
 obtain ⟨q0, q1, q2, q3, q4, q5⟩ := hB.c6
 have HKEY := Lib.hid (ev_key vs vals x)
 have HSL := Lib.hid (shape_len h0.shape)
 have hlen : 1 ≤ x.l.length := by have := HSL.out; omega
 obtain ⟨b, o, y, ylv, n', hn, rfl, hD, hy, hex, hfv, hsl, e0, e1, e2, e3, e4, e5⟩ := hl1.at_ (k := 0) (by omega)
 have HY := Lib.hid hy
 have hym := List.mem_of_getElem? hy
 obtain ⟨A2, c2', rfl, m1, m2, _⟩ := hsl.open_
 have hcall := Lib.hid (ih n' (by omega) vs vals y _ _ _ _ (h0.part hym hb hex))
 have HV0 := Lib.hid (fun (a : Val) (h : evX vs vals y = some a) => h0.val hym h)
 have i0 : (0 : Int) < (x.l.length : Int) := by omega
 have e0' : w1.cell? ⟨b, o, none⟩ = some (.int .i64 y.op) := by simpa using e0
 have e1' : w1.cell? ⟨b, o + 1, none⟩ = some (.int .i64 y.v.kind) := by simpa using e1
 have e2' : w1.cell? ⟨b, o + 2, none⟩ = some (.int .i64 y.v.n) := by simpa using e2
 have e3' : w1.cell? ⟨b, o + 3, none⟩ = some (.string y.v.s) := by simpa using e3
 have e4' : w1.cell? ⟨b, o + 4, none⟩ = some (.string y.s) := by simpa using e4
 have e5' : w1.cell? ⟨b, o + 5, none⟩ = some (.slice A2 y.l.length c2') := by simpa using e5
 clear hy hex hsl hfv e0 e1 e2 e3 e4 e5 hn
 go_wp2_with fail
 refine hcall.out.mono ?_
 clear hcall e0' e1' e2' e3' e4' e5'
 rintro e w2 ⟨v0, rfl, hv0, hb2⟩
 have HG0 := Lib.hid (getD_map (f := evX vs vals) HY.out)
 generalize hr0 : evX vs vals y = r0 at *
 have hb3 := bone w2 (.cells #[.int .i64 v0.kind, .int .i64 v0.n, .string v0.s] 63)
 have hF := Blk.new w2 63 #[.int .i64 v0.kind, .int .i64 v0.n, .string v0.s]
 have hb13 := bthen hb2 hb3
 have hB3 := hB.now hb13
 have hl3 := SlE.now hl1 hb13
 clear q0 q1 q2 q3 q4 q5
 have l2' := hF.lt
 go_upto_region 7 with fail
 generalize hw3 : w2.alloc (.cells #[.int .i64 v0.kind, .int .i64 v0.n, .string v0.s] 63) = w3 at *
 clear hw3
 obtain ⟨q0, q1, q2, q3, q4, q5⟩ := hB3.c6
 obtain ⟨f0, f1, f2⟩ := hF.c3
 cases r0 with
 | none =>
  have HR : Hid (evX vs vals x = none) := by
   show _ = _
   rw [HKEY.out]
   unfold evO
   rw [if_neg (by omega), if_neg (by omega), HG0.out]
  clear f0 f1 f2 q0 q1 q2 q3 q4 q5
  obtain ⟨⟨k0, k1, k2⟩, hS, ⟨y0, y1, y2⟩, hbS⟩ := HST.out w3 (.int .i64 0) (.int .i64 0) (.string ⟨#[]⟩) hb13
  go_wp2_with fail
  obtain ⟨t0, t1, t2⟩ := hS.c3
  refine bodyPost_ret (v := .tuple #[.agg #[.int .i64 0, .int .i64 0, .string ⟨#[]⟩], .bool false]) (by simp [results, Tryz.results110, go_sem, t0, t1, t2]) rfl ?_
  exact RetO.cast HR.out ⟨⟨0, 0, ⟨#[]⟩⟩, rfl, fun a h => (by cases h), hbS⟩

 | some a =>
  obtain rfl : v0 = a := hv0 a rfl
  have HVA := Lib.hid (HV0.out _ rfl)
  clear hv0
  have hk1 := HVA.out
  have htr : (typX vs y).1 = 1 := h0.truths (by omega) (List.mem_of_getElem? HY.out)
  have HTR := Lib.hid (truth_range hk1.2 (hk1.1.trans htr))
  clear hk1 htr
  by_cases hz : v0.n = 1
  ·have b1 : (v0.n == 0) = false := by rw [hz]; rfl
   have HZ := Lib.hid hz
   clear hz
   have hli : 1 < x.l.length := by have := HSL.out; omega
   obtain ⟨b1, o1, y1, ylv, n1, hn, hA1, hD1, hy, hex, hfv, hsl, e0, e1, e2, e3, e4, e5⟩ := hl3.at_ hli
   injection hA1 with hA1
   injection hA1 with g1 g2 _
   subst g1 g2
   have HY1 := Lib.hid hy
   have hym1 := List.mem_of_getElem? hy
   obtain ⟨A2, c2', rfl, m1, m2, _⟩ := hsl.open_
   have hcall := Lib.hid (ih n1 (by omega) vs vals y1 _ _ _ _ (h0.part hym1 (bthen hb hb13) hex))
   have HV1 := Lib.hid (fun (a : Val) (h : evX vs vals y1 = some a) => h0.val hym1 h)
   have i1 : (1 : Int) < (x.l.length : Int) := by omega
   clear hy hex hsl hfv hn
   go_wp2_with fail
   refine hcall.out.mono ?_
   clear hcall e0 e1 e2 e3 e4 e5
   rintro e w4 ⟨v1, rfl, hv1', hb4⟩
   have HG1 := Lib.hid (getD_map (f := evX vs vals) HY1.out)
   generalize hr1 : evX vs vals y1 = r1 at *
   have HR : Hid (evX vs vals x = r1) := by
    show _ = _
    rw [HKEY.out]
    unfold evO
    rw [if_neg (by omega), if_neg (by omega), HG0.out]
    exact (if_neg (by omega)).trans ((if_pos ho).trans ((if_pos HZ.out).trans HG1.out))
   clear f0 f1 f2 q0 q1 q2 q3 q4 q5
   obtain ⟨⟨k0, k1, k2⟩, hS, ⟨y0, y1, y2⟩, hbS⟩ := HST.out w4 (.int .i64 v1.kind) (.int .i64 v1.n) (.string v1.s) (bthen hb13 hb4)
   go_wp2_with fail
   obtain ⟨t0, t1, t2⟩ := hS.c3
   refine bodyPost_ret (v := .tuple #[.agg #[.int .i64 v1.kind, .int .i64 v1.n, .string v1.s], .bool r1.isSome]) (by simp [results, Tryz.results110, go_sem, t0, t1, t2]) rfl ?_
   exact RetO.cast HR.out ⟨v1, rfl, hv1', hbS⟩
  ·have b1 : (v0.n == 0) = true := by have := HTR.out; simp; omega
   have HZ := Lib.hid hz
   clear hz
   have HR : Hid (evX vs vals x = some v0) := by
    show _ = _
    rw [HKEY.out]
    unfold evO
    rw [if_neg (by omega), if_neg (by omega), HG0.out]
    exact (if_neg (by omega)).trans ((if_pos ho).trans (if_neg HZ.out))
   obtain ⟨⟨k0, k1, k2⟩, hS, ⟨y0, y1, y2⟩, hbS⟩ := HST.out w3 (.int .i64 v0.kind) (.int .i64 v0.n) (.string v0.s) hb13
   go_wp2_with fail
   obtain ⟨t0, t1, t2⟩ := hS.c3
   refine bodyPost_ret (v := .tuple #[.agg #[.int .i64 v0.kind, .int .i64 v0.n, .string v0.s], .bool true]) (by simp [results, Tryz.results110, go_sem, t0, t1, t2]) rfl ?_
   exact RetO.cast HR.out ⟨v0, rfl, fun a h => (by injection h), hbS⟩
set_option maxHeartbeats 8000000 in
set_option maxRecDepth 100000 in
theorem value_or (n : Nat) (ih : ∀ m, m < n → EvalAt 110 m) (vs : List Var) (vals : List Val) (x : Ex) (w : World) (uv vv u : Value) (h : EvArgs n vs vals x w uv vv u) (ho : x.op = 5) : Calls Tryz.prog 110 #[uv, vv, u] w (RetO (evX vs vals x) w) := by
 have HO := Lib.hid ho
 clear ho
 have h0 := h
 obtain ⟨hvs, hvl, hx, _, _, hA⟩ := h
 obtain ⟨Av, cv, rfl, v1, v2, hvs⟩ := hvs.open_
 obtain ⟨Aw, cw, rfl, v3, v4, hvl⟩ := hvl.open_
 obtain ⟨lv, rfl, h1, h2, h3, h4⟩ := hx
 obtain ⟨A, c, rfl, l1, l2, h4⟩ := h4.open_
 have hb := bbox (bone w (.cells #[.int .i64 x.op, .int .i64 x.v.kind, .int .i64 x.v.n, .string x.v.s, .string x.s, .slice A x.l.length c] 65)) (.cells #[.int .i64 0, .int .i64 0, .string ⟨#[]⟩] 63)
 have hB := (Blk.new w 65 #[.int .i64 x.op, .int .i64 x.v.kind, .int .i64 x.v.n, .string x.v.s, .string x.s, .slice A x.l.length c]).alloc (.cells #[.int .i64 0, .int .i64 0, .string ⟨#[]⟩] 63)
 have hR := Blk.new_at (t := 63) (cs := #[.int .i64 0, .int .i64 0, .string ⟨#[]⟩]) (w := w.alloc (.cells #[.int .i64 x.op, .int .i64 x.v.kind, .int .i64 x.v.n, .string x.v.s, .string x.s, .slice A x.l.length c] 65)) (s := w.heap.size + 1) (by simp)
 have hl1 := SlE.now h4 hb
 have hv1 := hvs.now hb
 have hw1 := hvl.now hb
 clear h4 hvs hvl
 go_enter Tryz.func110, Tryz.ntmps110
 go_upto_region 1 with fail
 generalize hww : (w.alloc (.cells #[.int .i64 x.op, .int .i64 x.v.kind, .int .i64 x.v.n, .string x.v.s, .string x.s, .slice A x.l.length c] 65)).alloc (.cells #[.int .i64 0, .int .i64 0, .string ⟨#[]⟩] 63) = w1 at *
 clear hww
 have ho := HO.out
 have HST : Hid (∀ (W : World) (x y z : Value), Below w1.heap.size w1 W →
   (W.frozen? ⟨w.heap.size + 1, 0, none⟩ = false ∧ W.frozen? ⟨w.heap.size + 1, 1, none⟩ = false ∧ W.frozen? ⟨w.heap.size + 1, 2, none⟩ = false) ∧
   Blk (((W.setCell ⟨w.heap.size + 1, 0, none⟩ x).setCell ⟨w.heap.size + 1, 1, none⟩ y).setCell ⟨w.heap.size + 1, 2, none⟩ z) (w.heap.size + 1) 63 #[x, y, z] ∧
   (W.cell? ⟨w.heap.size + 1, 0, none⟩ = some (.int .i64 0) ∧ W.cell? ⟨w.heap.size + 1, 1, none⟩ = some (.int .i64 0) ∧ W.cell? ⟨w.heap.size + 1, 2, none⟩ = some (.string ⟨#[]⟩)) ∧
   Below w.heap.size w (((W.setCell ⟨w.heap.size + 1, 0, none⟩ x).setCell ⟨w.heap.size + 1, 1, none⟩ y).setCell ⟨w.heap.size + 1, 2, none⟩ z)) :=
  fun W x y z hW => ⟨⟨(hR.now hW).frozen 0, (hR.now hW).frozen 1, (hR.now hW).frozen 2⟩, (hR.now hW).set3 _ _ _, (hR.now hW).c3, bset3 (bthen hb hW) (by omega) _ _ _⟩
 obtain ⟨q0, q1, q2, q3, q4, q5⟩ := hB.c6
 have HKEY := Lib.hid (ev_key vs vals x)
 have HSL := Lib.hid (shape_len h0.shape)
 have hlen : 1 ≤ x.l.length := by have := HSL.out; omega
 obtain ⟨b, o, y, ylv, n', hn, rfl, hD, hy, hex, hfv, hsl, e0, e1, e2, e3, e4, e5⟩ := hl1.at_ (k := 0) (by omega)
 have HY := Lib.hid hy
 have hym := List.mem_of_getElem? hy
 obtain ⟨A2, c2', rfl, m1, m2, _⟩ := hsl.open_
 have hcall := Lib.hid (ih n' (by omega) vs vals y _ _ _ _ (h0.part hym hb hex))
 have HV0 := Lib.hid (fun (a : Val) (h : evX vs vals y = some a) => h0.val hym h)
 have i0 : (0 : Int) < (x.l.length : Int) := by omega
 have e0' : w1.cell? ⟨b, o, none⟩ = some (.int .i64 y.op) := by simpa using e0
 have e1' : w1.cell? ⟨b, o + 1, none⟩ = some (.int .i64 y.v.kind) := by simpa using e1
 have e2' : w1.cell? ⟨b, o + 2, none⟩ = some (.int .i64 y.v.n) := by simpa using e2
 have e3' : w1.cell? ⟨b, o + 3, none⟩ = some (.string y.v.s) := by simpa using e3
 have e4' : w1.cell? ⟨b, o + 4, none⟩ = some (.string y.s) := by simpa using e4
 have e5' : w1.cell? ⟨b, o + 5, none⟩ = some (.slice A2 y.l.length c2') := by simpa using e5
 clear hy hex hsl hfv e0 e1 e2 e3 e4 e5 hn
 go_wp2_with fail
 refine hcall.out.mono ?_
 clear hcall e0' e1' e2' e3' e4' e5'
 rintro e w2 ⟨v0, rfl, hv0, hb2⟩
 have HG0 := Lib.hid (getD_map (f := evX vs vals) HY.out)
 generalize hr0 : evX vs vals y = r0 at *
 have hb3 := bone w2 (.cells #[.int .i64 v0.kind, .int .i64 v0.n, .string v0.s] 63)
 have hF := Blk.new w2 63 #[.int .i64 v0.kind, .int .i64 v0.n, .string v0.s]
 have hb13 := bthen hb2 hb3
 have hB3 := hB.now hb13
 have hl3 := SlE.now hl1 hb13
 clear q0 q1 q2 q3 q4 q5
 have l2' := hF.lt
 go_upto_region 7 with fail
 generalize hw3 : w2.alloc (.cells #[.int .i64 v0.kind, .int .i64 v0.n, .string v0.s] 63) = w3 at *
 clear hw3
 obtain ⟨q0, q1, q2, q3, q4, q5⟩ := hB3.c6
 obtain ⟨f0, f1, f2⟩ := hF.c3
 cases r0 with
 | none =>
  have HR : Hid (evX vs vals x = none) := by
   show _ = _
   rw [HKEY.out]
   unfold evO
   rw [if_neg (by omega), if_neg (by omega), HG0.out]
  clear f0 f1 f2 q0 q1 q2 q3 q4 q5
  obtain ⟨⟨k0, k1, k2⟩, hS, ⟨y0, y1, y2⟩, hbS⟩ := HST.out w3 (.int .i64 0) (.int .i64 0) (.string ⟨#[]⟩) hb13
  go_wp2_with fail
  obtain ⟨t0, t1, t2⟩ := hS.c3
  refine bodyPost_ret (v := .tuple #[.agg #[.int .i64 0, .int .i64 0, .string ⟨#[]⟩], .bool false]) (by simp [results, Tryz.results110, go_sem, t0, t1, t2]) rfl ?_
  exact RetO.cast HR.out ⟨⟨0, 0, ⟨#[]⟩⟩, rfl, fun a h => (by cases h), hbS⟩

 | some a =>
  obtain rfl : v0 = a := hv0 a rfl
  have HVA := Lib.hid (HV0.out _ rfl)
  clear hv0
  have hk1 := HVA.out
  have htr : (typX vs y).1 = 1 := h0.truths (by omega) (List.mem_of_getElem? HY.out)
  have HTR := Lib.hid (truth_range hk1.2 (hk1.1.trans htr))
  clear hk1 htr
  by_cases hz : v0.n = 1
  ·have b1 : (v0.n == 1) = true := by simp [hz]
   have HZ := Lib.hid hz
   clear hz
   have HR : Hid (evX vs vals x = some v0) := by
    show _ = _
    rw [HKEY.out]
    unfold evO
    rw [if_neg (by omega), if_neg (by omega), HG0.out]
    exact (if_neg (by omega)).trans ((if_neg (by omega)).trans ((if_pos ho).trans (if_pos HZ.out)))
   obtain ⟨⟨k0, k1, k2⟩, hS, ⟨y0, y1, y2⟩, hbS⟩ := HST.out w3 (.int .i64 v0.kind) (.int .i64 v0.n) (.string v0.s) hb13
   go_wp2_with fail
   obtain ⟨t0, t1, t2⟩ := hS.c3
   refine bodyPost_ret (v := .tuple #[.agg #[.int .i64 v0.kind, .int .i64 v0.n, .string v0.s], .bool true]) (by simp [results, Tryz.results110, go_sem, t0, t1, t2]) rfl ?_
   exact RetO.cast HR.out ⟨v0, rfl, fun a h => (by injection h), hbS⟩
  ·have b1 : (v0.n == 1) = false := by simpa using hz
   have HZ := Lib.hid hz
   clear hz
   have hli : 1 < x.l.length := by have := HSL.out; omega
   obtain ⟨b1, o1, y1, ylv, n1, hn, hA1, hD1, hy, hex, hfv, hsl, e0, e1, e2, e3, e4, e5⟩ := hl3.at_ hli
   injection hA1 with hA1
   injection hA1 with g1 g2 _
   subst g1 g2
   have HY1 := Lib.hid hy
   have hym1 := List.mem_of_getElem? hy
   obtain ⟨A2, c2', rfl, m1, m2, _⟩ := hsl.open_
   have hcall := Lib.hid (ih n1 (by omega) vs vals y1 _ _ _ _ (h0.part hym1 (bthen hb hb13) hex))
   have HV1 := Lib.hid (fun (a : Val) (h : evX vs vals y1 = some a) => h0.val hym1 h)
   have i1 : (1 : Int) < (x.l.length : Int) := by omega
   clear hy hex hsl hfv hn
   go_wp2_with fail
   refine hcall.out.mono ?_
   clear hcall e0 e1 e2 e3 e4 e5
   rintro e w4 ⟨v1, rfl, hv1', hb4⟩
   have HG1 := Lib.hid (getD_map (f := evX vs vals) HY1.out)
   generalize hr1 : evX vs vals y1 = r1 at *
   have HR : Hid (evX vs vals x = r1) := by
    show _ = _
    rw [HKEY.out]
    unfold evO
    rw [if_neg (by omega), if_neg (by omega), HG0.out]
    exact (if_neg (by omega)).trans ((if_neg (by omega)).trans ((if_pos ho).trans ((if_neg HZ.out).trans HG1.out)))
   clear f0 f1 f2 q0 q1 q2 q3 q4 q5
   obtain ⟨⟨k0, k1, k2⟩, hS, ⟨y0, y1, y2⟩, hbS⟩ := HST.out w4 (.int .i64 v1.kind) (.int .i64 v1.n) (.string v1.s) (bthen hb13 hb4)
   go_wp2_with fail
   obtain ⟨t0, t1, t2⟩ := hS.c3
   refine bodyPost_ret (v := .tuple #[.agg #[.int .i64 v1.kind, .int .i64 v1.n, .string v1.s], .bool r1.isSome]) (by simp [results, Tryz.results110, go_sem, t0, t1, t2]) rfl ?_
   exact RetO.cast HR.out ⟨v1, rfl, hv1', hbS⟩
set_option maxHeartbeats 8000000 in
set_option maxRecDepth 100000 in
theorem value_if (n : Nat) (ih : ∀ m, m < n → EvalAt 110 m) (vs : List Var) (vals : List Val) (x : Ex) (w : World) (uv vv u : Value) (h : EvArgs n vs vals x w uv vv u) (ho : x.op = 12) : Calls Tryz.prog 110 #[uv, vv, u] w (RetO (evX vs vals x) w) := by
 have HO := Lib.hid ho
 clear ho
 have h0 := h
 obtain ⟨hvs, hvl, hx, _, _, hA⟩ := h
 obtain ⟨Av, cv, rfl, v1, v2, hvs⟩ := hvs.open_
 obtain ⟨Aw, cw, rfl, v3, v4, hvl⟩ := hvl.open_
 obtain ⟨lv, rfl, h1, h2, h3, h4⟩ := hx
 obtain ⟨A, c, rfl, l1, l2, h4⟩ := h4.open_
 have hb := bbox (bone w (.cells #[.int .i64 x.op, .int .i64 x.v.kind, .int .i64 x.v.n, .string x.v.s, .string x.s, .slice A x.l.length c] 65)) (.cells #[.int .i64 0, .int .i64 0, .string ⟨#[]⟩] 63)
 have hB := (Blk.new w 65 #[.int .i64 x.op, .int .i64 x.v.kind, .int .i64 x.v.n, .string x.v.s, .string x.s, .slice A x.l.length c]).alloc (.cells #[.int .i64 0, .int .i64 0, .string ⟨#[]⟩] 63)
 have hR := Blk.new_at (t := 63) (cs := #[.int .i64 0, .int .i64 0, .string ⟨#[]⟩]) (w := w.alloc (.cells #[.int .i64 x.op, .int .i64 x.v.kind, .int .i64 x.v.n, .string x.v.s, .string x.s, .slice A x.l.length c] 65)) (s := w.heap.size + 1) (by simp)
 have hl1 := SlE.now h4 hb
 have hv1 := hvs.now hb
 have hw1 := hvl.now hb
 clear h4 hvs hvl
 go_enter Tryz.func110, Tryz.ntmps110
 go_upto_region 1 with fail
 generalize hww : (w.alloc (.cells #[.int .i64 x.op, .int .i64 x.v.kind, .int .i64 x.v.n, .string x.v.s, .string x.s, .slice A x.l.length c] 65)).alloc (.cells #[.int .i64 0, .int .i64 0, .string ⟨#[]⟩] 63) = w1 at *
 clear hww
 have ho := HO.out
 have HST : Hid (∀ (W : World) (x y z : Value), Below w1.heap.size w1 W →
   (W.frozen? ⟨w.heap.size + 1, 0, none⟩ = false ∧ W.frozen? ⟨w.heap.size + 1, 1, none⟩ = false ∧ W.frozen? ⟨w.heap.size + 1, 2, none⟩ = false) ∧
   Blk (((W.setCell ⟨w.heap.size + 1, 0, none⟩ x).setCell ⟨w.heap.size + 1, 1, none⟩ y).setCell ⟨w.heap.size + 1, 2, none⟩ z) (w.heap.size + 1) 63 #[x, y, z] ∧
   (W.cell? ⟨w.heap.size + 1, 0, none⟩ = some (.int .i64 0) ∧ W.cell? ⟨w.heap.size + 1, 1, none⟩ = some (.int .i64 0) ∧ W.cell? ⟨w.heap.size + 1, 2, none⟩ = some (.string ⟨#[]⟩)) ∧
   Below w.heap.size w (((W.setCell ⟨w.heap.size + 1, 0, none⟩ x).setCell ⟨w.heap.size + 1, 1, none⟩ y).setCell ⟨w.heap.size + 1, 2, none⟩ z)) :=
  fun W x y z hW => ⟨⟨(hR.now hW).frozen 0, (hR.now hW).frozen 1, (hR.now hW).frozen 2⟩, (hR.now hW).set3 _ _ _, (hR.now hW).c3, bset3 (bthen hb hW) (by omega) _ _ _⟩
 obtain ⟨q0, q1, q2, q3, q4, q5⟩ := hB.c6
 have HKEY := Lib.hid (ev_key vs vals x)
 have HSL := Lib.hid (shape_len h0.shape)
 have hlen : 1 ≤ x.l.length := by have := HSL.out; omega
 obtain ⟨b, o, y, ylv, n', hn, rfl, hD, hy, hex, hfv, hsl, e0, e1, e2, e3, e4, e5⟩ := hl1.at_ (k := 0) (by omega)
 have HY := Lib.hid hy
 have hym := List.mem_of_getElem? hy
 obtain ⟨A2, c2', rfl, m1, m2, _⟩ := hsl.open_
 have hcall := Lib.hid (ih n' (by omega) vs vals y _ _ _ _ (h0.part hym hb hex))
 have HV0 := Lib.hid (fun (a : Val) (h : evX vs vals y = some a) => h0.val hym h)
 have i0 : (0 : Int) < (x.l.length : Int) := by omega
 have e0' : w1.cell? ⟨b, o, none⟩ = some (.int .i64 y.op) := by simpa using e0
 have e1' : w1.cell? ⟨b, o + 1, none⟩ = some (.int .i64 y.v.kind) := by simpa using e1
 have e2' : w1.cell? ⟨b, o + 2, none⟩ = some (.int .i64 y.v.n) := by simpa using e2
 have e3' : w1.cell? ⟨b, o + 3, none⟩ = some (.string y.v.s) := by simpa using e3
 have e4' : w1.cell? ⟨b, o + 4, none⟩ = some (.string y.s) := by simpa using e4
 have e5' : w1.cell? ⟨b, o + 5, none⟩ = some (.slice A2 y.l.length c2') := by simpa using e5
 clear hy hex hsl hfv e0 e1 e2 e3 e4 e5 hn
 go_wp2_with fail
 refine hcall.out.mono ?_
 clear hcall e0' e1' e2' e3' e4' e5'
 rintro e w2 ⟨v0, rfl, hv0, hb2⟩
 have HG0 := Lib.hid (getD_map (f := evX vs vals) HY.out)
 generalize hr0 : evX vs vals y = r0 at *
 have hb3 := bone w2 (.cells #[.int .i64 v0.kind, .int .i64 v0.n, .string v0.s] 63)
 have hF := Blk.new w2 63 #[.int .i64 v0.kind, .int .i64 v0.n, .string v0.s]
 have hb13 := bthen hb2 hb3
 have hB3 := hB.now hb13
 have hl3 := SlE.now hl1 hb13
 clear q0 q1 q2 q3 q4 q5
 have l2' := hF.lt
 go_upto_region 7 with fail
 generalize hw3 : w2.alloc (.cells #[.int .i64 v0.kind, .int .i64 v0.n, .string v0.s] 63) = w3 at *
 clear hw3
 obtain ⟨q0, q1, q2, q3, q4, q5⟩ := hB3.c6
 obtain ⟨f0, f1, f2⟩ := hF.c3
 cases r0 with
 | none =>
  have HR : Hid (evX vs vals x = none) := by
   show _ = _
   rw [HKEY.out]
   unfold evO
   rw [if_neg (by omega), if_neg (by omega), HG0.out]
  clear f0 f1 f2 q0 q1 q2 q3 q4 q5
  obtain ⟨⟨k0, k1, k2⟩, hS, ⟨y0, y1, y2⟩, hbS⟩ := HST.out w3 (.int .i64 0) (.int .i64 0) (.string ⟨#[]⟩) hb13
  go_wp2_with fail
  obtain ⟨t0, t1, t2⟩ := hS.c3
  refine bodyPost_ret (v := .tuple #[.agg #[.int .i64 0, .int .i64 0, .string ⟨#[]⟩], .bool false]) (by simp [results, Tryz.results110, go_sem, t0, t1, t2]) rfl ?_
  exact RetO.cast HR.out ⟨⟨0, 0, ⟨#[]⟩⟩, rfl, fun a h => (by cases h), hbS⟩

 | some a =>
  obtain rfl : v0 = a := hv0 a rfl
  have HVA := Lib.hid (HV0.out _ rfl)
  clear hv0
  by_cases hz : v0.n = 1
  ·have b1 : (v0.n == 1) = true := by simp [hz]
   have HZ := Lib.hid hz
   clear hz
   have hli : 1 < x.l.length := by have := HSL.out; omega
   obtain ⟨b1, o1, y1, ylv, n1, hn, hA1, hD1, hy, hex, hfv, hsl, e0, e1, e2, e3, e4, e5⟩ := hl3.at_ hli
   injection hA1 with hA1
   injection hA1 with g1 g2 _
   subst g1 g2
   have HY1 := Lib.hid hy
   have hym1 := List.mem_of_getElem? hy
   obtain ⟨A2, c2', rfl, m1, m2, _⟩ := hsl.open_
   have hcall := Lib.hid (ih n1 (by omega) vs vals y1 _ _ _ _ (h0.part hym1 (bthen hb hb13) hex))
   have HV1 := Lib.hid (fun (a : Val) (h : evX vs vals y1 = some a) => h0.val hym1 h)
   have i1 : (1 : Int) < (x.l.length : Int) := by omega
   clear hy hex hsl hfv hn
   go_wp2_with fail
   refine hcall.out.mono ?_
   clear hcall e0 e1 e2 e3 e4 e5
   rintro e w4 ⟨v1, rfl, hv1', hb4⟩
   have HG1 := Lib.hid (getD_map (f := evX vs vals) HY1.out)
   generalize hr1 : evX vs vals y1 = r1 at *
   have HR : Hid (evX vs vals x = r1) := by
    show _ = _
    rw [HKEY.out]
    unfold evO
    rw [if_neg (by omega), if_neg (by omega), HG0.out]
    exact (if_neg (by omega)).trans ((if_neg (by omega)).trans ((if_neg (by omega)).trans ((if_pos ho).trans ((if_pos HZ.out).trans HG1.out))))
   clear f0 f1 f2 q0 q1 q2 q3 q4 q5
   obtain ⟨⟨k0, k1, k2⟩, hS, ⟨y0, y1, y2⟩, hbS⟩ := HST.out w4 (.int .i64 v1.kind) (.int .i64 v1.n) (.string v1.s) (bthen hb13 hb4)
   go_wp2_with fail
   obtain ⟨t0, t1, t2⟩ := hS.c3
   refine bodyPost_ret (v := .tuple #[.agg #[.int .i64 v1.kind, .int .i64 v1.n, .string v1.s], .bool r1.isSome]) (by simp [results, Tryz.results110, go_sem, t0, t1, t2]) rfl ?_
   exact RetO.cast HR.out ⟨v1, rfl, hv1', hbS⟩
  ·have b1 : (v0.n == 1) = false := by simpa using hz
   have HZ := Lib.hid hz
   clear hz
   have hli : 2 < x.l.length := by have := HSL.out; omega
   obtain ⟨b1, o1, y1, ylv, n1, hn, hA1, hD1, hy, hex, hfv, hsl, e0, e1, e2, e3, e4, e5⟩ := hl3.at_ hli
   injection hA1 with hA1
   injection hA1 with g1 g2 _
   subst g1 g2
   have HY1 := Lib.hid hy
   have hym1 := List.mem_of_getElem? hy
   obtain ⟨A2, c2', rfl, m1, m2, _⟩ := hsl.open_
   have hcall := Lib.hid (ih n1 (by omega) vs vals y1 _ _ _ _ (h0.part hym1 (bthen hb hb13) hex))
   have HV1 := Lib.hid (fun (a : Val) (h : evX vs vals y1 = some a) => h0.val hym1 h)
   have i1 : (2 : Int) < (x.l.length : Int) := by omega
   clear hy hex hsl hfv hn
   go_wp2_with fail
   refine hcall.out.mono ?_
   clear hcall e0 e1 e2 e3 e4 e5
   rintro e w4 ⟨v1, rfl, hv1', hb4⟩
   have HG1 := Lib.hid (getD_map (f := evX vs vals) HY1.out)
   generalize hr1 : evX vs vals y1 = r1 at *
   have HR : Hid (evX vs vals x = r1) := by
    show _ = _
    rw [HKEY.out]
    unfold evO
    rw [if_neg (by omega), if_neg (by omega), HG0.out]
    exact (if_neg (by omega)).trans ((if_neg (by omega)).trans ((if_neg (by omega)).trans ((if_pos ho).trans ((if_neg HZ.out).trans HG1.out))))
   clear f0 f1 f2 q0 q1 q2 q3 q4 q5
   obtain ⟨⟨k0, k1, k2⟩, hS, ⟨y0, y1, y2⟩, hbS⟩ := HST.out w4 (.int .i64 v1.kind) (.int .i64 v1.n) (.string v1.s) (bthen hb13 hb4)
   go_wp2_with fail
   obtain ⟨t0, t1, t2⟩ := hS.c3
   refine bodyPost_ret (v := .tuple #[.agg #[.int .i64 v1.kind, .int .i64 v1.n, .string v1.s], .bool r1.isSome]) (by simp [results, Tryz.results110, go_sem, t0, t1, t2]) rfl ?_
   exact RetO.cast HR.out ⟨v1, rfl, hv1', hbS⟩
theorem any_drop_not {l : List Ex} {a : Val} (h : ∀ k y, 1 ≤ k → l[k]? = some y → y.v ≠ a) : ((l.drop 1).any fun y => decide (y.v = a)) = false := by
 rw [List.any_eq_false]
 intro y hy
 obtain ⟨j, hj, rfl⟩ := List.mem_iff_getElem.1 hy
 have := h (1 + j) _ (by omega) (by rw [← List.getElem?_drop]; exact List.getElem?_eq_getElem hj)
 simpa using this
theorem any_drop {l : List Ex} {a : Val} {j : Nat} {y : Ex} (hj : 1 ≤ j) (hy : l[j]? = some y) (h : y.v = a) : ((l.drop 1).any fun y => decide (y.v = a)) = true := by
 rw [List.any_eq_true]
 refine ⟨y, ?_, by simpa using h⟩
 have : (l.drop 1)[j - 1]? = some y := by rw [List.getElem?_drop]; rw [show 1 + (j - 1) = j by omega]; exact hy
 exact List.mem_of_getElem? this
set_option maxHeartbeats 8000000 in
set_option maxRecDepth 100000 in
theorem value_in (n : Nat) (ih : ∀ m, m < n → EvalAt 110 m) (vs : List Var) (vals : List Val) (x : Ex) (w : World) (uv vv u : Value) (h : EvArgs n vs vals x w uv vv u) (ho : x.op = 13) : Calls Tryz.prog 110 #[uv, vv, u] w (RetO (evX vs vals x) w) := by
 have HO := Lib.hid ho
 clear ho
 have h0 := h
 obtain ⟨hvs, hvl, hx, _, _, hA⟩ := h
 obtain ⟨Av, cv, rfl, v1, v2, hvs⟩ := hvs.open_
 obtain ⟨Aw, cw, rfl, v3, v4, hvl⟩ := hvl.open_
 obtain ⟨lv, rfl, h1, h2, h3, h4⟩ := hx
 obtain ⟨A, c, rfl, l1, l2, h4⟩ := h4.open_
 have hb := bbox (bone w (.cells #[.int .i64 x.op, .int .i64 x.v.kind, .int .i64 x.v.n, .string x.v.s, .string x.s, .slice A x.l.length c] 65)) (.cells #[.int .i64 0, .int .i64 0, .string ⟨#[]⟩] 63)
 have hB := (Blk.new w 65 #[.int .i64 x.op, .int .i64 x.v.kind, .int .i64 x.v.n, .string x.v.s, .string x.s, .slice A x.l.length c]).alloc (.cells #[.int .i64 0, .int .i64 0, .string ⟨#[]⟩] 63)
 have hR := Blk.new_at (t := 63) (cs := #[.int .i64 0, .int .i64 0, .string ⟨#[]⟩]) (w := w.alloc (.cells #[.int .i64 x.op, .int .i64 x.v.kind, .int .i64 x.v.n, .string x.v.s, .string x.s, .slice A x.l.length c] 65)) (s := w.heap.size + 1) (by simp)
 have hl1 := SlE.now h4 hb
 have hv1 := hvs.now hb
 have hw1 := hvl.now hb
 clear h4 hvs hvl
 go_enter Tryz.func110, Tryz.ntmps110
 go_upto_region 1 with fail
 generalize hww : (w.alloc (.cells #[.int .i64 x.op, .int .i64 x.v.kind, .int .i64 x.v.n, .string x.v.s, .string x.s, .slice A x.l.length c] 65)).alloc (.cells #[.int .i64 0, .int .i64 0, .string ⟨#[]⟩] 63) = w1 at *
 clear hww
 have ho := HO.out
 have HST : Hid (∀ (W : World) (x y z : Value), Below w1.heap.size w1 W →
   (W.frozen? ⟨w.heap.size + 1, 0, none⟩ = false ∧ W.frozen? ⟨w.heap.size + 1, 1, none⟩ = false ∧ W.frozen? ⟨w.heap.size + 1, 2, none⟩ = false) ∧
   Blk (((W.setCell ⟨w.heap.size + 1, 0, none⟩ x).setCell ⟨w.heap.size + 1, 1, none⟩ y).setCell ⟨w.heap.size + 1, 2, none⟩ z) (w.heap.size + 1) 63 #[x, y, z] ∧
   (W.cell? ⟨w.heap.size + 1, 0, none⟩ = some (.int .i64 0) ∧ W.cell? ⟨w.heap.size + 1, 1, none⟩ = some (.int .i64 0) ∧ W.cell? ⟨w.heap.size + 1, 2, none⟩ = some (.string ⟨#[]⟩)) ∧
   Below w.heap.size w (((W.setCell ⟨w.heap.size + 1, 0, none⟩ x).setCell ⟨w.heap.size + 1, 1, none⟩ y).setCell ⟨w.heap.size + 1, 2, none⟩ z)) :=
  fun W x y z hW => ⟨⟨(hR.now hW).frozen 0, (hR.now hW).frozen 1, (hR.now hW).frozen 2⟩, (hR.now hW).set3 _ _ _, (hR.now hW).c3, bset3 (bthen hb hW) (by omega) _ _ _⟩
 obtain ⟨q0, q1, q2, q3, q4, q5⟩ := hB.c6
 have HKEY := Lib.hid (ev_key vs vals x)
 have HSL := Lib.hid (shape_len h0.shape)
 have hlen : 1 ≤ x.l.length := by have := HSL.out; omega
 obtain ⟨b, o, y, ylv, n', hn, rfl, hD, hy, hex, hfv, hsl, e0, e1, e2, e3, e4, e5⟩ := hl1.at_ (k := 0) (by omega)
 have HY := Lib.hid hy
 have hym := List.mem_of_getElem? hy
 obtain ⟨A2, c2', rfl, m1, m2, _⟩ := hsl.open_
 have hcall := Lib.hid (ih n' (by omega) vs vals y _ _ _ _ (h0.part hym hb hex))
 have HV0 := Lib.hid (fun (a : Val) (h : evX vs vals y = some a) => h0.val hym h)
 have i0 : (0 : Int) < (x.l.length : Int) := by omega
 have e0' : w1.cell? ⟨b, o, none⟩ = some (.int .i64 y.op) := by simpa using e0
 have e1' : w1.cell? ⟨b, o + 1, none⟩ = some (.int .i64 y.v.kind) := by simpa using e1
 have e2' : w1.cell? ⟨b, o + 2, none⟩ = some (.int .i64 y.v.n) := by simpa using e2
 have e3' : w1.cell? ⟨b, o + 3, none⟩ = some (.string y.v.s) := by simpa using e3
 have e4' : w1.cell? ⟨b, o + 4, none⟩ = some (.string y.s) := by simpa using e4
 have e5' : w1.cell? ⟨b, o + 5, none⟩ = some (.slice A2 y.l.length c2') := by simpa using e5
 clear hy hex hsl hfv e0 e1 e2 e3 e4 e5 hn
 go_wp2_with fail
 refine hcall.out.mono ?_
 clear hcall e0' e1' e2' e3' e4' e5'
 rintro e w2 ⟨v0, rfl, hv0, hb2⟩
 have HG0 := Lib.hid (getD_map (f := evX vs vals) HY.out)
 generalize hr0 : evX vs vals y = r0 at *
 have hb3 := bone w2 (.cells #[.int .i64 v0.kind, .int .i64 v0.n, .string v0.s] 63)
 have hF := Blk.new w2 63 #[.int .i64 v0.kind, .int .i64 v0.n, .string v0.s]
 have hb13 := bthen hb2 hb3
 have hB3 := hB.now hb13
 have hl3 := SlE.now hl1 hb13
 clear q0 q1 q2 q3 q4 q5
 have l2' := hF.lt
 go_upto_region 7 with fail
 generalize hw3 : w2.alloc (.cells #[.int .i64 v0.kind, .int .i64 v0.n, .string v0.s] 63) = w3 at *
 clear hw3
 obtain ⟨q0, q1, q2, q3, q4, q5⟩ := hB3.c6
 obtain ⟨f0, f1, f2⟩ := hF.c3
 cases r0 with
 | none =>
  have HR : Hid (evX vs vals x = none) := by
   show _ = _
   rw [HKEY.out]
   unfold evO
   rw [if_neg (by omega), if_neg (by omega), HG0.out]
  clear f0 f1 f2 q0 q1 q2 q3 q4 q5
  obtain ⟨⟨k0, k1, k2⟩, hS, ⟨y0, y1, y2⟩, hbS⟩ := HST.out w3 (.int .i64 0) (.int .i64 0) (.string ⟨#[]⟩) hb13
  go_wp2_with fail
  obtain ⟨t0, t1, t2⟩ := hS.c3
  refine bodyPost_ret (v := .tuple #[.agg #[.int .i64 0, .int .i64 0, .string ⟨#[]⟩], .bool false]) (by simp [results, Tryz.results110, go_sem, t0, t1, t2]) rfl ?_
  exact RetO.cast HR.out ⟨⟨0, 0, ⟨#[]⟩⟩, rfl, fun a h => (by cases h), hbS⟩

 | some a =>
  obtain rfl : v0 = a := hv0 a rfl
  have HVA := Lib.hid (HV0.out _ rfl)
  clear hv0
  have HR : Hid (evX vs vals x = some (truthV ((x.l.drop 1).any fun y => decide (y.v = v0)))) := by
   show _ = _
   rw [HKEY.out]
   unfold evO
   rw [if_neg (by omega), if_neg (by omega), HG0.out]
   exact (if_neg (by omega)).trans ((if_neg (by omega)).trans ((if_neg (by omega)).trans ((if_neg (by omega)).trans (if_pos ho))))
  have ev : ∀ d, valV (truthV d) = .agg #[.int .i64 (truthV d).kind, .int .i64 (truthV d).n, .string (truthV d).s] := fun d => rfl
  have EV := Lib.hid ev
  clear ev
  go_wp2_with fail
  go_loopw [10] (fun i wr => ∃ j : Nat, 1 ≤ j ∧ j ≤ x.l.length ∧ i = .int .i64 j ∧ (∀ k y, 1 ≤ k → k < j → x.l[k]? = some y → y.v ≠ v0) ∧ Below w3.heap.size w3 wr) (fun i _ => x.l.length - (intOf i).toNat)
  case atStart => exact ⟨1, Nat.le_refl _, hlen, rfl, fun k y h1 h2 _ => by omega, Below.refl _ _⟩
  case round =>
   obtain ⟨j, hj1, hj, rfl, hp, hbr⟩ := hrel
   have HP := Lib.hid hp
   have hb1r := bthen hb13 hbr
   have hBr := hB3.now hbr
   have hFr := hF.now hbr
   clear hp f0 f1 f2 q0 q1 q2 q3 q4 q5
   obtain ⟨q0, q1, q2, q3, q4, q5⟩ := hBr.c6
   obtain ⟨f0, f1, f2⟩ := hFr.c3
   by_cases hlt : j < x.l.length
   ·obtain ⟨b1, o1, z, zlv, nz, hnz, hA1, hD1, hxz, hex, hfv, hsl, e0, e1, e2, e3, e4, e5⟩ := (SlE.now hl3 hbr).at_ hlt
    injection hA1 with hA1
    injection hA1 with g1 g2 _
    subst g1 g2
    have HXZ := Lib.hid hxz
    have i1 : (0 : Int) ≤ (j : Int) := by omega
    have i2 : (j : Int) < (x.l.length : Int) := by omega
    have heq := fun W => run_eqV W z.v v0
    clear hxz hex hfv hsl hnz
    by_cases hzv : z.v = v0
    ·have HRR : Hid (evX vs vals x = some (truthV true)) := by show _ = _; rw [HR.out, any_drop hj1 HXZ.out hzv]
     rw [decide_eq_true hzv] at heq
     clear hzv
     go_upto_region 20 with fail
     go_quiet (fail)
     go_wp2_with fail
     refine (truth_ref true _).mono ?_
     rintro e w6 ⟨rfl, hb6⟩
     have hb16 := bthen (bdrawn hb1r _) hb6
     clear f0 f1 f2 q0 q1 q2 q3 q4 q5 e0 e1 e2 e3 e4 e5 heq
     rw [EV.out]
     generalize truthV true = tv at *
     obtain ⟨⟨k0, k1, k2⟩, hS, ⟨y0, y1, y2⟩, hbS⟩ := HST.out w6 (.int .i64 tv.kind) (.int .i64 tv.n) (.string tv.s) hb16
     go_wp2_with fail
     obtain ⟨t0, t1, t2⟩ := hS.c3
     refine bodyPost_ret (v := .tuple #[.agg #[.int .i64 tv.kind, .int .i64 tv.n, .string tv.s], .bool true]) (by simp [results, Tryz.results110, go_sem, t0, t1, t2]) rfl ?_
     exact RetO.cast HRR.out ⟨tv, rfl, fun a h => (by injection h), hbS⟩

    ·have HZ := Lib.hid hzv
     rw [decide_eq_false hzv] at heq
     clear hzv
     go_upto_region 20 with fail
     go_quiet (fail)
     go_wp2_with fail
     go_roundw
     case rel =>
      refine ⟨j + 1, by omega, by omega, by go_num, fun k y h1 hk hy => ?_, bdrawn hbr _⟩
      by_cases e : k = j
      ·subst e; rw [HXZ.out] at hy; injection hy with hy; subst hy; exact HZ.out
      ·exact HP.out k y h1 (by omega) hy
     case measure => simp [intOf]; omega
   ·have i2 : (x.l.length : Int) ≤ (j : Int) := by omega
    have HRR : Hid (evX vs vals x = some (truthV false)) := by
     show _ = _
     rw [HR.out, any_drop_not (fun k y h1 hy => HP.out k y h1 (by
      have : k < x.l.length := by
       rcases Nat.lt_or_ge k x.l.length with h | h
       ·exact h
       ·rw [List.getElem?_eq_none h] at hy; cases hy
      omega) hy)]
    go_wp2_with fail
    refine (truth_ref false _).mono ?_
    rintro e w6 ⟨rfl, hb6⟩
    have hb16 := bthen hb1r hb6
    clear f0 f1 f2 q0 q1 q2 q3 q4 q5
    rw [EV.out]
    generalize truthV false = tv at *
    obtain ⟨⟨k0, k1, k2⟩, hS, ⟨y0, y1, y2⟩, hbS⟩ := HST.out w6 (.int .i64 tv.kind) (.int .i64 tv.n) (.string tv.s) hb16
    go_wp2_with fail
    obtain ⟨t0, t1, t2⟩ := hS.c3
    refine bodyPost_ret (v := .tuple #[.agg #[.int .i64 tv.kind, .int .i64 tv.n, .string tv.s], .bool true]) (by simp [results, Tryz.results110, go_sem, t0, t1, t2]) rfl ?_
    exact RetO.cast HRR.out ⟨tv, rfl, fun a h => (by injection h), hbS⟩
def Fr (B : Nat) (w : World) (b : Nat) : Prop := B ≤ b ∧ b < w.heap.size
theorem SlI.weak {B : Nat} {w : World} {v : Value} {zs : List Int} (h : SlI (Fr B w) w v zs) : SlI (Lt w.heap.size) w v zs := Sl.keep h RInt.kept (fun _ hb => hb.2) (Same.refl _ _)
theorem SlI.nowF {B : Nat} {w w' : World} {v : Value} {zs : List Int} (h : SlI (Fr B w) w v zs) (hb : Below w.heap.size w w') : SlI (Fr B w') w' v zs :=
 Sl.keep h RInt.kept (fun _ hx => ⟨hx.1, Nat.lt_of_lt_of_le hx.2 hb.size⟩) (fun b hx => hb.block b hx.2)
theorem SlI.from_ {B B' : Nat} {w : World} {v : Value} {zs : List Int} (h : SlI (Fr B w) w v zs) (hb : B' ≤ B) : SlI (Fr B' w) w v zs :=
 Sl.keep h RInt.kept (fun _ hx => ⟨Nat.le_trans hb hx.1, hx.2⟩) (Same.refl _ _)
theorem fresh_own {w : World} {base B g cap : Nat} {zs : List Int} (h : OwnI w base 3 g cap zs) (hB : B ≤ base) (hf : ∀ z ∈ zs, Fit z) : SlI (Fr B w) w (.slice (some ⟨g, 0, none⟩) zs.length cap) zs :=
 Sl.of_own1 h.1 (by simp) (fun q hq => by have := h.1.lt q hq; exact ⟨by omega, this.2⟩) fun i x hx => ⟨.int .i64 x, by simp [hx], rfl, hf x (List.mem_of_getElem? hx)⟩
def RetIF (zs : List Int) (c : Int) (w : World) (e : Ending) (w' : World) : Prop := ∃ v, e = .returned (.tuple #[v, .int .i64 c]) ∧ SlI (Fr w.heap.size w') w' v zs ∧ Below w.heap.size w w'
set_option maxHeartbeats 1000000 in
theorem fireF_any (n : Net) (v mv : Value) (m : List Int) (t : Int) (w : World) (h : IsNet (Lt w.heap.size) w v n) (hm : SlI (Lt w.heap.size) w mv m) (hv : validB n = true) (hk : markingB n.places m = true) :
  Calls Tryz.prog 91 #[v, mv, .int .i64 t] w (RetIF (fireB n m t).1 (fireB n m t).2 w) := by
 obtain ⟨v1, v2, v3, v4⟩ := validOk hv
 obtain ⟨hml, hmw⟩ := markOk hk
 clear hv hk
 obtain ⟨tv, rfl, hp, hs, hkk, ht⟩ := h
 obtain ⟨A, c, rfl, h1, h2, ht⟩ := ht.open_
 by_cases h0 : t < 0
 ·rw [fireB_none (.inl h0)]
  go_enter Tryz.func91, Tryz.ntmps91
  go_wp2_with fail
  go_ret2
  exact ⟨_, rfl, Sl.none_, bone _ _⟩
 obtain ⟨k, rfl⟩ := Int.eq_ofNat_of_zero_le (Int.not_lt.1 h0)
 by_cases h3 : n.trans.length ≤ k
 ·rw [fireB_none (.inr (by omega))]
  go_enter Tryz.func91, Tryz.ntmps91
  go_wp2_with fail
  go_ret2
  exact ⟨_, rfl, Sl.none_, bone _ _⟩
 have hkl : k < n.trans.length := by omega
 have hb := bone w (Obj.cells #[Value.int IntKind.i64 n.places, Value.slice A n.trans.length c, Value.int IntKind.i64 n.source, Value.int IntKind.i64 n.sink] 24)
 obtain ⟨b, o, x, iv, ov, rfl, hD, hx, hl, hti, hto, c0, c1, c2⟩ := (ht.now hb).at_ hkl
 rw [fireB_some hx]
 obtain ⟨Ai, ci, rfl, i1, i2, hti⟩ := hti.open_
 obtain ⟨Ao, co, rfl, o1, o2, hto⟩ := hto.open_
 obtain ⟨pi, po⟩ := trPlaces (v4 x (List.mem_of_getElem? hx))
 have li := places_len pi
 have lo := places_len po
 have hin : Inside x.ins m := fun p hp => by have := places_mem pi p hp; omega
 have hout : Inside x.outs m := fun p hp => by have := places_mem po p hp; omega
 have hnn : NonNeg m := fun z hz => (hmw z hz).1
 have hm0 : 0 < m.length := by omega
 have HMW := Lib.hid hmw
 clear hx v4 pi po hmw h0 h3
 go_enter Tryz.func91, Tryz.ntmps91
 go_wp2_with fail
 have hm1 := hm.now (bbox hb (.cells #[.string x.label, .slice Ai x.ins.length ci, .slice Ao x.outs.length co] 112))
 have hti1 := hti.now (bone _ (.cells #[.string x.label, .slice Ai x.ins.length ci, .slice Ao x.outs.length co] 112))
 have hto1 := hto.now (bone _ (.cells #[.string x.label, .slice Ai x.ins.length ci, .slice Ao x.outs.length co] 112))
 have hT1 := Blk.new (w.alloc (.cells #[Value.int IntKind.i64 n.places, Value.slice (some ⟨b, o, none⟩) n.trans.length c, Value.int IntKind.i64 n.source, Value.int IntKind.i64 n.sink] 24)) 112 #[.string x.label, .slice Ai x.ins.length ci, .slice Ao x.outs.length co]
 refine (enabled_any x _ _ m _ ⟨_, _, rfl, hl, hti1, hto1⟩ hm1 hin hnn).mono ?_
 rintro e w1 ⟨rfl, hb1⟩
 have hm2 := hm1.now hb1
 have hti2 := hti1.now hb1
 have hto2 := hto1.now hb1
 have hT2 := hT1.now hb1
 have hbw1 := bthen (bbox hb (.cells #[.string x.label, .slice Ai x.ins.length ci, .slice Ao x.outs.length co] 112)) hb1
 simp only [World.size_alloc] at hT2
 clear hm1 hti1 hto1 hT1 hti hto hm hb hb1 c0 c1 c2
 generalize hc : canB x.ins m = q
 have HC := Lib.hid hc
 clear hc
 cases q
 ·have HE : Hid (fireT x m = ([], 12)) := by show fireT x m = _; unfold fireT; rw [HC.out]; rfl
  go_wp2_with fail
  go_ret2
  rw [HE.out]
  exact ⟨_, rfl, Sl.none_, hbw1⟩
 ·go_wp2_with fail
  refine (cloneI _ m _ hm2 (by omega)).mono ?_
  rintro e w2 ⟨vo, rfl, hown, hb2⟩
  obtain ⟨g, cap, rfl, hcap, hown⟩ := OwnI.of hown hm0
  clear hm2
  obtain ⟨r0, r1, r2⟩ := (hT2.now hb2).c3
  go_wp2_with fail
  clear r0 r1 r2
  go_loopw [37] (fun i wr => ∃ j : Nat, j ≤ x.ins.length ∧ i = .int .i64 j ∧ OwnI wr w1.heap.size 3 g cap (bump (-1) m (x.ins.take j)) ∧ Below w1.heap.size w1 wr) (fun i _ => x.ins.length - (intOf i).toNat)
  case atStart => exact ⟨0, Nat.zero_le _, rfl, hown, hb2⟩
  case round =>
   obtain ⟨j, hj, rfl, howr, hbr⟩ := hrel
   obtain ⟨r0, r1, r2⟩ := (hT2.now hbr).c3
   have hgb := howr.from_
   by_cases hlt : j < x.ins.length
   ·obtain ⟨b1, o1', p, rfl, hD1, hx1, hf1, d1⟩ := (hti2.now hbr).at_ hlt
    obtain ⟨hp0, hp1⟩ := hin p (List.mem_of_getElem? hx1)
    obtain ⟨y, rfl⟩ := Int.eq_ofNat_of_zero_le hp0
    rw [Int.toNat_natCast] at hp1
    have hyl : y < (bump (-1) m (x.ins.take j)).length := by rw [bump_length]; exact hp1
    have hcell := howr.cell (get_of_within hyl)
    have hfro := howr.frozen y
    have hwi := within_get (within_bump (-1) (.inr rfl) (x.ins.take j) 0 100 _ HMW.out (by omega) (by omega) (fun q hq => (hin q (List.mem_of_mem_take hq)).2)) hyl
    rw [List.length_take, Nat.min_eq_left hj] at hwi
    have HS : Hid (bump (-1) m (x.ins.take (j + 1)) = (bump (-1) m (x.ins.take j)).set y ((bump (-1) m (x.ins.take j)).getD y 0 + (-1))) := by
     have := bump_snoc (-1) m x.ins j _ hx1
     unfold bump1 at this
     rwa [Int.toNat_natCast] at this
    generalize hz : (bump (-1) m (x.ins.take j)).getD y 0 = z at hcell hwi HS
    clear hz hx1 hf1 hD1
    go_wp2_with fail
    go_roundw
    case rel =>
     refine ⟨j + 1, by omega, by go_num, ?_, hbr.setCell hgb _⟩
     rw [HS.out]
     exact howr.set_ y _
    case measure => simp [intOf]; omega
   ·obtain rfl : j = x.ins.length := by omega
    rw [List.take_of_length_le (Nat.le_refl _)] at howr
    have HW1 : Hid (Within (-40) 140 (bump (-1) m x.ins)) := within_mono (within_bump (-1) (.inr rfl) x.ins 0 100 m HMW.out (by omega) (by omega) (fun q hq => (hin q hq).2)) (by omega) (by omega)
    obtain ⟨wi, rfl⟩ : ∃ wi : World, wi = wr := ⟨_, rfl⟩
    have howi := howr
    have hbi := hbr
    clear howr
    go_wp2_with fail
    go_loopw [51] (fun i wr => ∃ j : Nat, j ≤ x.outs.length ∧ i = .int .i64 j ∧ OwnI wr w1.heap.size 3 g cap (bump 1 (bump (-1) m x.ins) (x.outs.take j)) ∧ Below w1.heap.size w1 wr) (fun i _ => x.outs.length - (intOf i).toNat)
    case atStart => exact ⟨0, Nat.zero_le _, rfl, howi, hbi⟩
    case round =>
     obtain ⟨j, hj, rfl, howr, hbr⟩ := hrel
     obtain ⟨r0, r1, r2⟩ := (hT2.now hbr).c3
     have hgb := howr.from_
     by_cases hlt : j < x.outs.length
     ·obtain ⟨b1, o1', p, rfl, hD1, hx1, hf1, d1⟩ := (hto2.now hbr).at_ hlt
      obtain ⟨hp0, hp1⟩ := hout p (List.mem_of_getElem? hx1)
      obtain ⟨y, rfl⟩ := Int.eq_ofNat_of_zero_le hp0
      rw [Int.toNat_natCast] at hp1
      have hyl : y < (bump 1 (bump (-1) m x.ins) (x.outs.take j)).length := by rw [bump_length]; rw [bump_length]; exact hp1
      have hcell := howr.cell (get_of_within hyl)
      have hfro := howr.frozen y
      have hwi := within_get (within_bump 1 (.inl rfl) (x.outs.take j) (-40) 140 _ HW1.out (by omega) (by omega) (fun q hq => by rw [bump_length]; exact (hout q (List.mem_of_mem_take hq)).2)) hyl
      rw [List.length_take, Nat.min_eq_left hj] at hwi
      have HS : Hid (bump 1 (bump (-1) m x.ins) (x.outs.take (j + 1)) = (bump 1 (bump (-1) m x.ins) (x.outs.take j)).set y ((bump 1 (bump (-1) m x.ins) (x.outs.take j)).getD y 0 + 1)) := by
       have := bump_snoc 1 (bump (-1) m x.ins) x.outs j _ hx1
       unfold bump1 at this
       rwa [Int.toNat_natCast] at this
      generalize hz : (bump 1 (bump (-1) m x.ins) (x.outs.take j)).getD y 0 = z at hcell hwi HS
      clear hz hx1 hf1 hD1
      go_wp2_with fail
      go_roundw
      case rel =>
       refine ⟨j + 1, by omega, by go_num, ?_, hbr.setCell hgb _⟩
       rw [HS.out]
       exact howr.set_ y _
      case measure => simp [intOf]; omega
     ·obtain rfl : j = x.outs.length := by omega
      rw [List.take_of_length_le (Nat.le_refl _)] at howr
      have hfin : OwnI wr w1.heap.size 3 g cap (outOf x m) := howr
      have hlen : (outOf x m).length = m.length := by unfold outOf; rw [bump_length, bump_length]
      have hfits := within_fit (within_bump 1 (.inl rfl) x.outs (-40) 140 _ HW1.out (by omega) (by omega) (fun q hq => by rw [bump_length]; exact (hout q hq).2)) (by omega) (by omega)
      have HSL := Lib.hid (hfin.sl hfits)
      have HSF : Hid (SlI (Fr w.heap.size wr) wr (.slice (some ⟨g, 0, none⟩) m.length cap) (outOf x m)) := by rw [← hlen]; exact fresh_own hfin hbw1.size hfits
      have HBW := Lib.hid (bthen hbw1 hbr)
      have HMX : Hid (Calls Tryz.prog 133 #[.slice (some ⟨g, 0, none⟩) m.length cap] wr fun e w' => e = .returned (.int .i64 (Lib.maxOf (outOf x m))) ∧ w' = wr) := by
       have := maxI _ _ wr HSL.out (by omega)
       rwa [hlen] at this
      rw [hlen] at HSL
      clear howr hfin hlen hfits hbr r0 r1 r2
      by_cases hmx : 100 < Lib.maxOf (outOf x m)
      ·have HE : Hid (fireT x m = ([], 5)) := by show fireT x m = _; unfold fireT; rw [HC.out, if_pos hmx]; rfl
       generalize Lib.maxOf (outOf x m) = mx at HMX hmx
       go_wp2_with (go_at_call 133; refine HMX.out.mono ?_; rintro e w' ⟨rfl, rfl⟩)
       go_ret2
       rw [HE.out]
       exact ⟨_, rfl, Sl.none_, HBW.out⟩
      ·have HE : Hid (fireT x m = (outOf x m, 0)) := by show fireT x m = _; unfold fireT; rw [HC.out, if_neg hmx]; rfl
       generalize Lib.maxOf (outOf x m) = mx at HMX hmx
       go_wp2_with (go_at_call 133; refine HMX.out.mono ?_; rintro e w' ⟨rfl, rfl⟩)
       go_ret2
       rw [HE.out]
       exact ⟨_, rfl, HSF.out, HBW.out⟩
set_option maxHeartbeats 1000000 in
theorem firePF_any (n : Net) (v mv : Value) (m : List Int) (t : Int) (w : World) (h : IsNet (Lt w.heap.size) w v n) (hm : SlI (Lt w.heap.size) w mv m) :
  Calls Tryz.prog 47 #[v, mv, .int .i64 t] w (RetIF (fireE n m t).1 (fireE n m t).2 w) := by
 have h0 := h
 obtain ⟨tv, rfl, hp, hs, hkk, ht⟩ := h
 obtain ⟨A, c, rfl, h1, h2, ht⟩ := ht.open_
 go_enter Tryz.func47, Tryz.ntmps47
 go_wp2_with fail
 have hb := bone w (Obj.cells #[Value.int IntKind.i64 n.places, Value.slice A n.trans.length c, Value.int IntKind.i64 n.source, Value.int IntKind.i64 n.sink] 24)
 refine (marking_any n _ _ m _ (h0.now hb) (hm.now hb)).mono ?_
 rintro e w1 ⟨rfl, hb1⟩
 have hbw := bthen hb hb1
 obtain ⟨q0, q1, q2, q3⟩ := ((Blk.new w 24 #[.int .i64 n.places, .slice A n.trans.length c, .int .i64 n.source, .int .i64 n.sink]).now hb1).c4
 generalize hq : (validB n && markingB n.places m) = q
 have HQ := Lib.hid hq
 clear hq
 cases q
 ·have HE : Hid (fireE n m t = ([], 1)) := by show fireE n m t = _; unfold fireE; rw [HQ.out]; rfl
  go_wp2_with fail
  go_ret2
  rw [HE.out]
  exact ⟨_, rfl, Sl.none_, hbw⟩
 ·have HE : Hid (fireE n m t = fireB n m t) := by show fireE n m t = _; unfold fireE; rw [HQ.out]; rfl
  have hvm := HQ.out
  rw [Bool.and_eq_true] at hvm
  have HF := Lib.hid (fireF_any n _ _ m t w1 (h0.now hbw) (hm.now hbw) hvm.1 hvm.2)
  clear hvm
  go_wp2_with fail
  refine HF.out.mono ?_
  rintro e w2 ⟨v', rfl, hsl, hb2⟩
  clear HF
  generalize fireB n m t = r at *
  go_wp2_with fail
  go_ret2
  rw [HE.out]
  exact ⟨_, rfl, Sl.keep hsl RInt.kept (fun b hb => ⟨Nat.le_trans hbw.size hb.1, hb.2⟩) (Same.refl _ _), bthen hbw hb2⟩
end Go.Proofs.YtlmenhjlgmejkaaGreatDoor
