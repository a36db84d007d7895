/- Texts of this seat, merged. -/
import Derived.Test.YtijmnenojbfdnaaGreatDoorEq01
import Derived.Test.YtijmnenojbfdnaaGreatDoorEq02
import Derived.Test.YtijmnenojbfdnaaGreatDoorEq03
import Derived.Test.YtijmnenojbfdnaaGreatDoorEq04
import Derived.Test.YtijmnenojbfdnaaGreatDoorEq05
import Derived.Test.YtijmnenojbfdnaaGreatDoorEq06
import Derived.Test.YtijmnenojbfdnaaGreatDoorEq07
import Derived.Test.YtijmnenojbfdnaaGreatDoorEq08
import Derived.Test.YtijmnenojbfdnaaGreatDoorEq09
import Derived.Test.YtijmnenojbfdnaaGreatDoorEq10
import Derived.Test.YtijmnenojbfdnaaGreatDoorEq11
import Derived.Test.YtijmnenojbfdnaaGreatDoorEq12
import Derived.Test.YtijmnenojbfdnaaGreatDoorEq13
import Derived.Test.YtijmnenojbfdnaaGreatDoorEq14
import Derived.Test.YtijmnenojbfdnaaGreatDoorEq15
import Derived.Test.YtijmnenojbfdnaaGreatDoorEq22
import Derived.Test.YtijmnenojbfdnaaGreatDoorEq23
import Derived.Test.YtijmnenojbfdnaaGreatDoorEq24
import Derived.Test.YtijmnenojbfdnaaGreatDoorEq25
import Derived.Test.YtijmnenojbfdnaaGreatDoorEq26
set_option linter.unusedSimpArgs false
set_option linter.unusedVariables false
namespace Go.Proofs.YtijmnenojbfdnaaGreatDoor
open Go.RowKit
set_option maxHeartbeats 8000000 in
set_option maxRecDepth 100000 in
theorem eval_eq (n : Nat) (ih : ∀ m, m < n → EvalAt 46 m) (vs : List Var) (vals : List Val) (x : Ex) (w : World) (uv vv u : Value) (h : EvArgs n vs vals x w uv vv u) (ho : x.op = 6) : Calls Tryz.prog 46 #[uv, vv, u] w (RetO (evX vs vals x) w) := by
  have HO := Lib.hid ho
  clear ho
  have h0 := h
  obtain ⟨hvs, hvl, hx, _, _, hA⟩ := h
  obtain ⟨Av, cv, rfl, v1, v2, hvs⟩ := hvs.open_
  obtain ⟨Aw, cw, rfl, v3, v4, hvl⟩ := hvl.open_
  obtain ⟨lv, rfl, h1, h2, h3, h4⟩ := hx
  obtain ⟨A, c, rfl, l1, l2, h4⟩ := h4.open_
  have hb := bbox (bone w (.cells #[.int .i64 x.op, .int .i64 x.v.kind, .int .i64 x.v.n, .string x.v.s, .string x.s, .slice A x.l.length c] 28)) (.cells #[.int .i64 0, .int .i64 0, .string ⟨#[]⟩] 25)
  have hB := (Blk.new w 28 #[.int .i64 x.op, .int .i64 x.v.kind, .int .i64 x.v.n, .string x.v.s, .string x.s, .slice A x.l.length c]).alloc (.cells #[.int .i64 0, .int .i64 0, .string ⟨#[]⟩] 25)
  have hR := Blk.new_at (t := 25) (cs := #[.int .i64 0, .int .i64 0, .string ⟨#[]⟩]) (w := w.alloc (.cells #[.int .i64 x.op, .int .i64 x.v.kind, .int .i64 x.v.n, .string x.v.s, .string x.s, .slice A x.l.length c] 28)) (s := w.heap.size + 1) (by simp)
  have hl1 := SlE.now h4 hb
  have hv1 := hvs.now hb
  have hw1 := hvl.now hb
  clear h4 hvs hvl
  go_enter Tryz.func46, Tryz.ntmps46
  go_upto_region 1 with fail
  generalize hww : (w.alloc (.cells #[.int .i64 x.op, .int .i64 x.v.kind, .int .i64 x.v.n, .string x.v.s, .string x.s, .slice A x.l.length c] 28)).alloc (.cells #[.int .i64 0, .int .i64 0, .string ⟨#[]⟩] 25) = w1 at *
  clear hww
  have ho := HO.out
  have HST : Hid (∀ (W : World) (x y z : Value), Below w1.heap.size w1 W →
      (W.frozen? ⟨w.heap.size + 1, 0, none⟩ = false ∧ W.frozen? ⟨w.heap.size + 1, 1, none⟩ = false ∧ W.frozen? ⟨w.heap.size + 1, 2, none⟩ = false) ∧
      Blk (((W.setCell ⟨w.heap.size + 1, 0, none⟩ x).setCell ⟨w.heap.size + 1, 1, none⟩ y).setCell ⟨w.heap.size + 1, 2, none⟩ z) (w.heap.size + 1) 25 #[x, y, z] ∧
      (W.cell? ⟨w.heap.size + 1, 0, none⟩ = some (.int .i64 0) ∧ W.cell? ⟨w.heap.size + 1, 1, none⟩ = some (.int .i64 0) ∧ W.cell? ⟨w.heap.size + 1, 2, none⟩ = some (.string ⟨#[]⟩)) ∧
      Below w.heap.size w (((W.setCell ⟨w.heap.size + 1, 0, none⟩ x).setCell ⟨w.heap.size + 1, 1, none⟩ y).setCell ⟨w.heap.size + 1, 2, none⟩ z)) :=
    fun W x y z hW => ⟨⟨(hR.now hW).frozen 0, (hR.now hW).frozen 1, (hR.now hW).frozen 2⟩, (hR.now hW).set3 _ _ _, (hR.now hW).c3, bset3 (bthen hb hW) (by omega) _ _ _⟩
  obtain ⟨q0, q1, q2, q3, q4, q5⟩ := hB.c6
  have HKEY := Lib.hid (ev_key vs vals x)
  have HSL := Lib.hid (shape_len h0.shape)
  have hlen : 1 ≤ x.l.length := by have := HSL.out; omega
  obtain ⟨b, o, y, ylv, n', hn, rfl, hD, hy, hex, hfv, hsl, e0, e1, e2, e3, e4, e5⟩ := hl1.at_ (k := 0) (by omega)
  have HY := Lib.hid hy
  have hym := List.mem_of_getElem? hy
  obtain ⟨A2, c2', rfl, m1, m2, _⟩ := hsl.open_
  have hcall := Lib.hid (ih n' (by omega) vs vals y _ _ _ _ (h0.part hym hb hex))
  have HV0 := Lib.hid (fun (a : Val) (h : evX vs vals y = some a) => h0.val hym h)
  have i0 : (0 : Int) < (x.l.length : Int) := by omega
  have e0' : w1.cell? ⟨b, o, none⟩ = some (.int .i64 y.op) := by simpa using e0
  have e1' : w1.cell? ⟨b, o + 1, none⟩ = some (.int .i64 y.v.kind) := by simpa using e1
  have e2' : w1.cell? ⟨b, o + 2, none⟩ = some (.int .i64 y.v.n) := by simpa using e2
  have e3' : w1.cell? ⟨b, o + 3, none⟩ = some (.string y.v.s) := by simpa using e3
  have e4' : w1.cell? ⟨b, o + 4, none⟩ = some (.string y.s) := by simpa using e4
  have e5' : w1.cell? ⟨b, o + 5, none⟩ = some (.slice A2 y.l.length c2') := by simpa using e5
  clear hy hex hsl hfv e0 e1 e2 e3 e4 e5 hn
  go_wp2_with fail
  refine hcall.out.mono ?_
  clear hcall e0' e1' e2' e3' e4' e5'
  rintro e w2 ⟨v0, rfl, hv0, hb2⟩
  have HG0 := Lib.hid (getD_map (f := evX vs vals) HY.out)
  generalize hr0 : evX vs vals y = r0 at *
  have hb3 := bone w2 (.cells #[.int .i64 v0.kind, .int .i64 v0.n, .string v0.s] 25)
  have hF := Blk.new w2 25 #[.int .i64 v0.kind, .int .i64 v0.n, .string v0.s]
  have hb13 := bthen hb2 hb3
  have hB3 := hB.now hb13
  have hl3 := SlE.now hl1 hb13
  clear q0 q1 q2 q3 q4 q5
  have l2' := hF.lt
  go_upto_region 7 with fail
  generalize hw3 : w2.alloc (.cells #[.int .i64 v0.kind, .int .i64 v0.n, .string v0.s] 25) = w3 at *
  clear hw3
  obtain ⟨q0, q1, q2, q3, q4, q5⟩ := hB3.c6
  obtain ⟨f0, f1, f2⟩ := hF.c3
  cases r0 with
  | none =>
    have HR : Hid (evX vs vals x = none) := by
      show _ = _
      rw [HKEY.out]
      unfold evO
      rw [if_neg (by omega), if_neg (by omega), HG0.out]
    clear f0 f1 f2 q0 q1 q2 q3 q4 q5
    obtain ⟨⟨k0, k1, k2⟩, hS, ⟨y0, y1, y2⟩, hbS⟩ := HST.out w3 (.int .i64 0) (.int .i64 0) (.string ⟨#[]⟩) hb13
    go_wp2_with fail
    obtain ⟨t0, t1, t2⟩ := hS.c3
    refine bodyPost_ret (v := .tuple #[.agg #[.int .i64 0, .int .i64 0, .string ⟨#[]⟩], .bool false]) (by simp [results, Tryz.results46, go_sem, t0, t1, t2]) rfl ?_
    exact RetO.cast HR.out ⟨⟨0, 0, ⟨#[]⟩⟩, rfl, fun a h => (by cases h), hbS⟩

  | some a =>
    obtain rfl : v0 = a := hv0 a rfl
    have HVA := Lib.hid (HV0.out _ rfl)
    clear hv0
    have hli : 1 < x.l.length := by have := HSL.out; omega
    obtain ⟨b1, o1, y1, ylv, n1, hn, hA1, hD1, hy, hex, hfv, hsl, e0, e1, e2, e3, e4, e5⟩ := hl3.at_ hli
    injection hA1 with hA1
    injection hA1 with g1 g2 _
    subst g1 g2
    have HY1 := Lib.hid hy
    have hym1 := List.mem_of_getElem? hy
    obtain ⟨A2, c2', rfl, m1, m2, _⟩ := hsl.open_
    have hcall := Lib.hid (ih n1 (by omega) vs vals y1 _ _ _ _ (h0.part hym1 (bthen hb hb13) hex))
    have HV1 := Lib.hid (fun (a : Val) (h : evX vs vals y1 = some a) => h0.val hym1 h)
    have i1 : (1 : Int) < (x.l.length : Int) := by omega
    clear hy hex hsl hfv hn
    go_wp2_with fail
    refine hcall.out.mono ?_
    clear hcall e0 e1 e2 e3 e4 e5
    rintro e w4 ⟨v1, rfl, hv1', hb4⟩
    have HG1 := Lib.hid (getD_map (f := evX vs vals) HY1.out)
    generalize hr1 : evX vs vals y1 = r1 at *
    have hb5 := bone w4 (.cells #[.int .i64 v1.kind, .int .i64 v1.n, .string v1.s] 25)
    have hG := Blk.new w4 25 #[.int .i64 v1.kind, .int .i64 v1.n, .string v1.s]
    have hb35 := bthen hb4 hb5
    have hb15 := bthen hb13 hb35
    have hB5 := hB3.now hb35
    have hF5 := hF.now hb35
    clear f0 f1 f2 q0 q1 q2 q3 q4 q5
    have l3' := hG.lt
    go_upto_region 22 with fail
    generalize hw5 : w4.alloc (.cells #[.int .i64 v1.kind, .int .i64 v1.n, .string v1.s] 25) = w5 at *
    clear hw5
    obtain ⟨q0, q1, q2, q3, q4, q5⟩ := hB5.c6
    obtain ⟨f0, f1, f2⟩ := hF5.c3
    obtain ⟨g0, g1, g2⟩ := hG.c3
    cases r1 with
    | none =>
      have HR : Hid (evX vs vals x = none) := by
        show _ = _
        rw [HKEY.out]
        unfold evO
        rw [if_neg (by omega), if_neg (by omega), HG0.out]
        show (if _ then _ else _) = _
        rw [if_neg (by omega), if_neg (by omega), if_neg (by omega), if_neg (by omega), if_neg (by omega), HG1.out]
      clear f0 f1 f2 g0 g1 g2 q0 q1 q2 q3 q4 q5
      obtain ⟨⟨k0, k1, k2⟩, hS, ⟨y0, y1, y2⟩, hbS⟩ := HST.out w5 (.int .i64 0) (.int .i64 0) (.string ⟨#[]⟩) hb15
      go_wp2_with fail
      obtain ⟨t0, t1, t2⟩ := hS.c3
      refine bodyPost_ret (v := .tuple #[.agg #[.int .i64 0, .int .i64 0, .string ⟨#[]⟩], .bool false]) (by simp [results, Tryz.results46, go_sem, t0, t1, t2]) rfl ?_
      exact RetO.cast HR.out ⟨⟨0, 0, ⟨#[]⟩⟩, rfl, fun a h => (by cases h), hbS⟩

    | some c =>
      obtain rfl : v1 = c := hv1' c rfl
      have HR : Hid (evX vs vals x = some (truthV (decide (v0 = v1)))) := by
        show _ = _
        rw [HKEY.out]
        unfold evO
        rw [if_neg (by omega), if_neg (by omega), HG0.out]
        show (if _ then _ else _) = _
        rw [if_neg (by omega), if_neg (by omega), if_neg (by omega), if_neg (by omega), if_neg (by omega), HG1.out]
        show (if _ then _ else _) = _
        rw [if_pos ho]
      generalize hd : decide (v0 = v1) = d at *
      have heq := fun W => run_eqV W v0 v1
      rw [hd] at heq
      clear hd
      go_wp2_with fail
      refine (truth_any d _).mono ?_
      rintro e w6 ⟨rfl, hb6⟩
      clear f0 f1 f2 g0 g1 g2 q0 q1 q2 q3 q4 q5
      have ev : valV (truthV d) = .agg #[.int .i64 (truthV d).kind, .int .i64 (truthV d).n, .string (truthV d).s] := rfl
      rw [ev]
      generalize truthV d = tv at *
      obtain ⟨⟨k0, k1, k2⟩, hS, ⟨y0, y1, y2⟩, hbS⟩ := HST.out w6 (.int .i64 tv.kind) (.int .i64 tv.n) (.string tv.s) (bthen hb15 hb6)
      go_wp2_with fail
      obtain ⟨t0, t1, t2⟩ := hS.c3
      refine bodyPost_ret (v := .tuple #[.agg #[.int .i64 tv.kind, .int .i64 tv.n, .string tv.s], .bool true]) (by simp [results, Tryz.results46, go_sem, t0, t1, t2]) rfl ?_
      exact RetO.cast HR.out ⟨tv, rfl, fun a h => (by injection h), hbS⟩
set_option maxHeartbeats 8000000 in
set_option maxRecDepth 100000 in
theorem eval_lt (n : Nat) (ih : ∀ m, m < n → EvalAt 46 m) (vs : List Var) (vals : List Val) (x : Ex) (w : World) (uv vv u : Value) (h : EvArgs n vs vals x w uv vv u) (ho : x.op = 7) : Calls Tryz.prog 46 #[uv, vv, u] w (RetO (evX vs vals x) w) := by
  have HO := Lib.hid ho
  clear ho
  have h0 := h
  obtain ⟨hvs, hvl, hx, _, _, hA⟩ := h
  obtain ⟨Av, cv, rfl, v1, v2, hvs⟩ := hvs.open_
  obtain ⟨Aw, cw, rfl, v3, v4, hvl⟩ := hvl.open_
  obtain ⟨lv, rfl, h1, h2, h3, h4⟩ := hx
  obtain ⟨A, c, rfl, l1, l2, h4⟩ := h4.open_
  have hb := bbox (bone w (.cells #[.int .i64 x.op, .int .i64 x.v.kind, .int .i64 x.v.n, .string x.v.s, .string x.s, .slice A x.l.length c] 28)) (.cells #[.int .i64 0, .int .i64 0, .string ⟨#[]⟩] 25)
  have hB := (Blk.new w 28 #[.int .i64 x.op, .int .i64 x.v.kind, .int .i64 x.v.n, .string x.v.s, .string x.s, .slice A x.l.length c]).alloc (.cells #[.int .i64 0, .int .i64 0, .string ⟨#[]⟩] 25)
  have hR := Blk.new_at (t := 25) (cs := #[.int .i64 0, .int .i64 0, .string ⟨#[]⟩]) (w := w.alloc (.cells #[.int .i64 x.op, .int .i64 x.v.kind, .int .i64 x.v.n, .string x.v.s, .string x.s, .slice A x.l.length c] 28)) (s := w.heap.size + 1) (by simp)
  have hl1 := SlE.now h4 hb
  have hv1 := hvs.now hb
  have hw1 := hvl.now hb
  clear h4 hvs hvl
  go_enter Tryz.func46, Tryz.ntmps46
  go_upto_region 1 with fail
  generalize hww : (w.alloc (.cells #[.int .i64 x.op, .int .i64 x.v.kind, .int .i64 x.v.n, .string x.v.s, .string x.s, .slice A x.l.length c] 28)).alloc (.cells #[.int .i64 0, .int .i64 0, .string ⟨#[]⟩] 25) = w1 at *
  clear hww
  have ho := HO.out
  have HST : Hid (∀ (W : World) (x y z : Value), Below w1.heap.size w1 W →
      (W.frozen? ⟨w.heap.size + 1, 0, none⟩ = false ∧ W.frozen? ⟨w.heap.size + 1, 1, none⟩ = false ∧ W.frozen? ⟨w.heap.size + 1, 2, none⟩ = false) ∧
      Blk (((W.setCell ⟨w.heap.size + 1, 0, none⟩ x).setCell ⟨w.heap.size + 1, 1, none⟩ y).setCell ⟨w.heap.size + 1, 2, none⟩ z) (w.heap.size + 1) 25 #[x, y, z] ∧
      (W.cell? ⟨w.heap.size + 1, 0, none⟩ = some (.int .i64 0) ∧ W.cell? ⟨w.heap.size + 1, 1, none⟩ = some (.int .i64 0) ∧ W.cell? ⟨w.heap.size + 1, 2, none⟩ = some (.string ⟨#[]⟩)) ∧
      Below w.heap.size w (((W.setCell ⟨w.heap.size + 1, 0, none⟩ x).setCell ⟨w.heap.size + 1, 1, none⟩ y).setCell ⟨w.heap.size + 1, 2, none⟩ z)) :=
    fun W x y z hW => ⟨⟨(hR.now hW).frozen 0, (hR.now hW).frozen 1, (hR.now hW).frozen 2⟩, (hR.now hW).set3 _ _ _, (hR.now hW).c3, bset3 (bthen hb hW) (by omega) _ _ _⟩
  obtain ⟨q0, q1, q2, q3, q4, q5⟩ := hB.c6
  have HKEY := Lib.hid (ev_key vs vals x)
  have HSL := Lib.hid (shape_len h0.shape)
  have hlen : 1 ≤ x.l.length := by have := HSL.out; omega
  obtain ⟨b, o, y, ylv, n', hn, rfl, hD, hy, hex, hfv, hsl, e0, e1, e2, e3, e4, e5⟩ := hl1.at_ (k := 0) (by omega)
  have HY := Lib.hid hy
  have hym := List.mem_of_getElem? hy
  obtain ⟨A2, c2', rfl, m1, m2, _⟩ := hsl.open_
  have hcall := Lib.hid (ih n' (by omega) vs vals y _ _ _ _ (h0.part hym hb hex))
  have HV0 := Lib.hid (fun (a : Val) (h : evX vs vals y = some a) => h0.val hym h)
  have i0 : (0 : Int) < (x.l.length : Int) := by omega
  have e0' : w1.cell? ⟨b, o, none⟩ = some (.int .i64 y.op) := by simpa using e0
  have e1' : w1.cell? ⟨b, o + 1, none⟩ = some (.int .i64 y.v.kind) := by simpa using e1
  have e2' : w1.cell? ⟨b, o + 2, none⟩ = some (.int .i64 y.v.n) := by simpa using e2
  have e3' : w1.cell? ⟨b, o + 3, none⟩ = some (.string y.v.s) := by simpa using e3
  have e4' : w1.cell? ⟨b, o + 4, none⟩ = some (.string y.s) := by simpa using e4
  have e5' : w1.cell? ⟨b, o + 5, none⟩ = some (.slice A2 y.l.length c2') := by simpa using e5
  clear hy hex hsl hfv e0 e1 e2 e3 e4 e5 hn
  go_wp2_with fail
  refine hcall.out.mono ?_
  clear hcall e0' e1' e2' e3' e4' e5'
  rintro e w2 ⟨v0, rfl, hv0, hb2⟩
  have HG0 := Lib.hid (getD_map (f := evX vs vals) HY.out)
  generalize hr0 : evX vs vals y = r0 at *
  have hb3 := bone w2 (.cells #[.int .i64 v0.kind, .int .i64 v0.n, .string v0.s] 25)
  have hF := Blk.new w2 25 #[.int .i64 v0.kind, .int .i64 v0.n, .string v0.s]
  have hb13 := bthen hb2 hb3
  have hB3 := hB.now hb13
  have hl3 := SlE.now hl1 hb13
  clear q0 q1 q2 q3 q4 q5
  have l2' := hF.lt
  go_upto_region 7 with fail
  generalize hw3 : w2.alloc (.cells #[.int .i64 v0.kind, .int .i64 v0.n, .string v0.s] 25) = w3 at *
  clear hw3
  obtain ⟨q0, q1, q2, q3, q4, q5⟩ := hB3.c6
  obtain ⟨f0, f1, f2⟩ := hF.c3
  cases r0 with
  | none =>
    have HR : Hid (evX vs vals x = none) := by
      show _ = _
      rw [HKEY.out]
      unfold evO
      rw [if_neg (by omega), if_neg (by omega), HG0.out]
    clear f0 f1 f2 q0 q1 q2 q3 q4 q5
    obtain ⟨⟨k0, k1, k2⟩, hS, ⟨y0, y1, y2⟩, hbS⟩ := HST.out w3 (.int .i64 0) (.int .i64 0) (.string ⟨#[]⟩) hb13
    go_wp2_with fail
    obtain ⟨t0, t1, t2⟩ := hS.c3
    refine bodyPost_ret (v := .tuple #[.agg #[.int .i64 0, .int .i64 0, .string ⟨#[]⟩], .bool false]) (by simp [results, Tryz.results46, go_sem, t0, t1, t2]) rfl ?_
    exact RetO.cast HR.out ⟨⟨0, 0, ⟨#[]⟩⟩, rfl, fun a h => (by cases h), hbS⟩

  | some a =>
    obtain rfl : v0 = a := hv0 a rfl
    have HVA := Lib.hid (HV0.out _ rfl)
    clear hv0
    have hli : 1 < x.l.length := by have := HSL.out; omega
    obtain ⟨b1, o1, y1, ylv, n1, hn, hA1, hD1, hy, hex, hfv, hsl, e0, e1, e2, e3, e4, e5⟩ := hl3.at_ hli
    injection hA1 with hA1
    injection hA1 with g1 g2 _
    subst g1 g2
    have HY1 := Lib.hid hy
    have hym1 := List.mem_of_getElem? hy
    obtain ⟨A2, c2', rfl, m1, m2, _⟩ := hsl.open_
    have hcall := Lib.hid (ih n1 (by omega) vs vals y1 _ _ _ _ (h0.part hym1 (bthen hb hb13) hex))
    have HV1 := Lib.hid (fun (a : Val) (h : evX vs vals y1 = some a) => h0.val hym1 h)
    have i1 : (1 : Int) < (x.l.length : Int) := by omega
    clear hy hex hsl hfv hn
    go_wp2_with fail
    refine hcall.out.mono ?_
    clear hcall e0 e1 e2 e3 e4 e5
    rintro e w4 ⟨v1, rfl, hv1', hb4⟩
    have HG1 := Lib.hid (getD_map (f := evX vs vals) HY1.out)
    generalize hr1 : evX vs vals y1 = r1 at *
    have hb5 := bone w4 (.cells #[.int .i64 v1.kind, .int .i64 v1.n, .string v1.s] 25)
    have hG := Blk.new w4 25 #[.int .i64 v1.kind, .int .i64 v1.n, .string v1.s]
    have hb35 := bthen hb4 hb5
    have hb15 := bthen hb13 hb35
    have hB5 := hB3.now hb35
    have hF5 := hF.now hb35
    clear f0 f1 f2 q0 q1 q2 q3 q4 q5
    have l3' := hG.lt
    go_upto_region 22 with fail
    generalize hw5 : w4.alloc (.cells #[.int .i64 v1.kind, .int .i64 v1.n, .string v1.s] 25) = w5 at *
    clear hw5
    obtain ⟨q0, q1, q2, q3, q4, q5⟩ := hB5.c6
    obtain ⟨f0, f1, f2⟩ := hF5.c3
    obtain ⟨g0, g1, g2⟩ := hG.c3
    cases r1 with
    | none =>
      have HR : Hid (evX vs vals x = none) := by
        show _ = _
        rw [HKEY.out]
        unfold evO
        rw [if_neg (by omega), if_neg (by omega), HG0.out]
        show (if _ then _ else _) = _
        rw [if_neg (by omega), if_neg (by omega), if_neg (by omega), if_neg (by omega), if_neg (by omega), HG1.out]
      clear f0 f1 f2 g0 g1 g2 q0 q1 q2 q3 q4 q5
      obtain ⟨⟨k0, k1, k2⟩, hS, ⟨y0, y1, y2⟩, hbS⟩ := HST.out w5 (.int .i64 0) (.int .i64 0) (.string ⟨#[]⟩) hb15
      go_wp2_with fail
      obtain ⟨t0, t1, t2⟩ := hS.c3
      refine bodyPost_ret (v := .tuple #[.agg #[.int .i64 0, .int .i64 0, .string ⟨#[]⟩], .bool false]) (by simp [results, Tryz.results46, go_sem, t0, t1, t2]) rfl ?_
      exact RetO.cast HR.out ⟨⟨0, 0, ⟨#[]⟩⟩, rfl, fun a h => (by cases h), hbS⟩

    | some c =>
      obtain rfl : v1 = c := hv1' c rfl
      have HR : Hid (evX vs vals x = some (truthV (decide (v0.n < v1.n)))) := by
        show _ = _
        rw [HKEY.out]
        unfold evO
        rw [if_neg (by omega), if_neg (by omega), HG0.out]
        show (if _ then _ else _) = _
        rw [if_neg (by omega), if_neg (by omega), if_neg (by omega), if_neg (by omega), if_neg (by omega), HG1.out]
        show (if _ then _ else _) = _
        rw [if_neg (by omega), if_pos ho]
      generalize hd : decide (v0.n < v1.n) = d at *
      go_wp2_with fail
      refine (truth_any d _).mono ?_
      rintro e w6 ⟨rfl, hb6⟩
      clear f0 f1 f2 g0 g1 g2 q0 q1 q2 q3 q4 q5
      have ev : valV (truthV d) = .agg #[.int .i64 (truthV d).kind, .int .i64 (truthV d).n, .string (truthV d).s] := rfl
      rw [ev]
      generalize truthV d = tv at *
      obtain ⟨⟨k0, k1, k2⟩, hS, ⟨y0, y1, y2⟩, hbS⟩ := HST.out w6 (.int .i64 tv.kind) (.int .i64 tv.n) (.string tv.s) (bthen hb15 hb6)
      go_wp2_with fail
      obtain ⟨t0, t1, t2⟩ := hS.c3
      refine bodyPost_ret (v := .tuple #[.agg #[.int .i64 tv.kind, .int .i64 tv.n, .string tv.s], .bool true]) (by simp [results, Tryz.results46, go_sem, t0, t1, t2]) rfl ?_
      exact RetO.cast HR.out ⟨tv, rfl, fun a h => (by injection h), hbS⟩
set_option maxHeartbeats 8000000 in
set_option maxRecDepth 100000 in
theorem eval_le (n : Nat) (ih : ∀ m, m < n → EvalAt 46 m) (vs : List Var) (vals : List Val) (x : Ex) (w : World) (uv vv u : Value) (h : EvArgs n vs vals x w uv vv u) (ho : x.op = 8) : Calls Tryz.prog 46 #[uv, vv, u] w (RetO (evX vs vals x) w) := by
  have HO := Lib.hid ho
  clear ho
  have h0 := h
  obtain ⟨hvs, hvl, hx, _, _, hA⟩ := h
  obtain ⟨Av, cv, rfl, v1, v2, hvs⟩ := hvs.open_
  obtain ⟨Aw, cw, rfl, v3, v4, hvl⟩ := hvl.open_
  obtain ⟨lv, rfl, h1, h2, h3, h4⟩ := hx
  obtain ⟨A, c, rfl, l1, l2, h4⟩ := h4.open_
  have hb := bbox (bone w (.cells #[.int .i64 x.op, .int .i64 x.v.kind, .int .i64 x.v.n, .string x.v.s, .string x.s, .slice A x.l.length c] 28)) (.cells #[.int .i64 0, .int .i64 0, .string ⟨#[]⟩] 25)
  have hB := (Blk.new w 28 #[.int .i64 x.op, .int .i64 x.v.kind, .int .i64 x.v.n, .string x.v.s, .string x.s, .slice A x.l.length c]).alloc (.cells #[.int .i64 0, .int .i64 0, .string ⟨#[]⟩] 25)
  have hR := Blk.new_at (t := 25) (cs := #[.int .i64 0, .int .i64 0, .string ⟨#[]⟩]) (w := w.alloc (.cells #[.int .i64 x.op, .int .i64 x.v.kind, .int .i64 x.v.n, .string x.v.s, .string x.s, .slice A x.l.length c] 28)) (s := w.heap.size + 1) (by simp)
  have hl1 := SlE.now h4 hb
  have hv1 := hvs.now hb
  have hw1 := hvl.now hb
  clear h4 hvs hvl
  go_enter Tryz.func46, Tryz.ntmps46
  go_upto_region 1 with fail
  generalize hww : (w.alloc (.cells #[.int .i64 x.op, .int .i64 x.v.kind, .int .i64 x.v.n, .string x.v.s, .string x.s, .slice A x.l.length c] 28)).alloc (.cells #[.int .i64 0, .int .i64 0, .string ⟨#[]⟩] 25) = w1 at *
  clear hww
  have ho := HO.out
  have HST : Hid (∀ (W : World) (x y z : Value), Below w1.heap.size w1 W →
      (W.frozen? ⟨w.heap.size + 1, 0, none⟩ = false ∧ W.frozen? ⟨w.heap.size + 1, 1, none⟩ = false ∧ W.frozen? ⟨w.heap.size + 1, 2, none⟩ = false) ∧
      Blk (((W.setCell ⟨w.heap.size + 1, 0, none⟩ x).setCell ⟨w.heap.size + 1, 1, none⟩ y).setCell ⟨w.heap.size + 1, 2, none⟩ z) (w.heap.size + 1) 25 #[x, y, z] ∧
      (W.cell? ⟨w.heap.size + 1, 0, none⟩ = some (.int .i64 0) ∧ W.cell? ⟨w.heap.size + 1, 1, none⟩ = some (.int .i64 0) ∧ W.cell? ⟨w.heap.size + 1, 2, none⟩ = some (.string ⟨#[]⟩)) ∧
      Below w.heap.size w (((W.setCell ⟨w.heap.size + 1, 0, none⟩ x).setCell ⟨w.heap.size + 1, 1, none⟩ y).setCell ⟨w.heap.size + 1, 2, none⟩ z)) :=
    fun W x y z hW => ⟨⟨(hR.now hW).frozen 0, (hR.now hW).frozen 1, (hR.now hW).frozen 2⟩, (hR.now hW).set3 _ _ _, (hR.now hW).c3, bset3 (bthen hb hW) (by omega) _ _ _⟩
  obtain ⟨q0, q1, q2, q3, q4, q5⟩ := hB.c6
  have HKEY := Lib.hid (ev_key vs vals x)
  have HSL := Lib.hid (shape_len h0.shape)
  have hlen : 1 ≤ x.l.length := by have := HSL.out; omega
  obtain ⟨b, o, y, ylv, n', hn, rfl, hD, hy, hex, hfv, hsl, e0, e1, e2, e3, e4, e5⟩ := hl1.at_ (k := 0) (by omega)
  have HY := Lib.hid hy
  have hym := List.mem_of_getElem? hy
  obtain ⟨A2, c2', rfl, m1, m2, _⟩ := hsl.open_
  have hcall := Lib.hid (ih n' (by omega) vs vals y _ _ _ _ (h0.part hym hb hex))
  have HV0 := Lib.hid (fun (a : Val) (h : evX vs vals y = some a) => h0.val hym h)
  have i0 : (0 : Int) < (x.l.length : Int) := by omega
  have e0' : w1.cell? ⟨b, o, none⟩ = some (.int .i64 y.op) := by simpa using e0
  have e1' : w1.cell? ⟨b, o + 1, none⟩ = some (.int .i64 y.v.kind) := by simpa using e1
  have e2' : w1.cell? ⟨b, o + 2, none⟩ = some (.int .i64 y.v.n) := by simpa using e2
  have e3' : w1.cell? ⟨b, o + 3, none⟩ = some (.string y.v.s) := by simpa using e3
  have e4' : w1.cell? ⟨b, o + 4, none⟩ = some (.string y.s) := by simpa using e4
  have e5' : w1.cell? ⟨b, o + 5, none⟩ = some (.slice A2 y.l.length c2') := by simpa using e5
  clear hy hex hsl hfv e0 e1 e2 e3 e4 e5 hn
  go_wp2_with fail
  refine hcall.out.mono ?_
  clear hcall e0' e1' e2' e3' e4' e5'
  rintro e w2 ⟨v0, rfl, hv0, hb2⟩
  have HG0 := Lib.hid (getD_map (f := evX vs vals) HY.out)
  generalize hr0 : evX vs vals y = r0 at *
  have hb3 := bone w2 (.cells #[.int .i64 v0.kind, .int .i64 v0.n, .string v0.s] 25)
  have hF := Blk.new w2 25 #[.int .i64 v0.kind, .int .i64 v0.n, .string v0.s]
  have hb13 := bthen hb2 hb3
  have hB3 := hB.now hb13
  have hl3 := SlE.now hl1 hb13
  clear q0 q1 q2 q3 q4 q5
  have l2' := hF.lt
  go_upto_region 7 with fail
  generalize hw3 : w2.alloc (.cells #[.int .i64 v0.kind, .int .i64 v0.n, .string v0.s] 25) = w3 at *
  clear hw3
  obtain ⟨q0, q1, q2, q3, q4, q5⟩ := hB3.c6
  obtain ⟨f0, f1, f2⟩ := hF.c3
  cases r0 with
  | none =>
    have HR : Hid (evX vs vals x = none) := by
      show _ = _
      rw [HKEY.out]
      unfold evO
      rw [if_neg (by omega), if_neg (by omega), HG0.out]
    clear f0 f1 f2 q0 q1 q2 q3 q4 q5
    obtain ⟨⟨k0, k1, k2⟩, hS, ⟨y0, y1, y2⟩, hbS⟩ := HST.out w3 (.int .i64 0) (.int .i64 0) (.string ⟨#[]⟩) hb13
    go_wp2_with fail
    obtain ⟨t0, t1, t2⟩ := hS.c3
    refine bodyPost_ret (v := .tuple #[.agg #[.int .i64 0, .int .i64 0, .string ⟨#[]⟩], .bool false]) (by simp [results, Tryz.results46, go_sem, t0, t1, t2]) rfl ?_
    exact RetO.cast HR.out ⟨⟨0, 0, ⟨#[]⟩⟩, rfl, fun a h => (by cases h), hbS⟩

  | some a =>
    obtain rfl : v0 = a := hv0 a rfl
    have HVA := Lib.hid (HV0.out _ rfl)
    clear hv0
    have hli : 1 < x.l.length := by have := HSL.out; omega
    obtain ⟨b1, o1, y1, ylv, n1, hn, hA1, hD1, hy, hex, hfv, hsl, e0, e1, e2, e3, e4, e5⟩ := hl3.at_ hli
    injection hA1 with hA1
    injection hA1 with g1 g2 _
    subst g1 g2
    have HY1 := Lib.hid hy
    have hym1 := List.mem_of_getElem? hy
    obtain ⟨A2, c2', rfl, m1, m2, _⟩ := hsl.open_
    have hcall := Lib.hid (ih n1 (by omega) vs vals y1 _ _ _ _ (h0.part hym1 (bthen hb hb13) hex))
    have HV1 := Lib.hid (fun (a : Val) (h : evX vs vals y1 = some a) => h0.val hym1 h)
    have i1 : (1 : Int) < (x.l.length : Int) := by omega
    clear hy hex hsl hfv hn
    go_wp2_with fail
    refine hcall.out.mono ?_
    clear hcall e0 e1 e2 e3 e4 e5
    rintro e w4 ⟨v1, rfl, hv1', hb4⟩
    have HG1 := Lib.hid (getD_map (f := evX vs vals) HY1.out)
    generalize hr1 : evX vs vals y1 = r1 at *
    have hb5 := bone w4 (.cells #[.int .i64 v1.kind, .int .i64 v1.n, .string v1.s] 25)
    have hG := Blk.new w4 25 #[.int .i64 v1.kind, .int .i64 v1.n, .string v1.s]
    have hb35 := bthen hb4 hb5
    have hb15 := bthen hb13 hb35
    have hB5 := hB3.now hb35
    have hF5 := hF.now hb35
    clear f0 f1 f2 q0 q1 q2 q3 q4 q5
    have l3' := hG.lt
    go_upto_region 22 with fail
    generalize hw5 : w4.alloc (.cells #[.int .i64 v1.kind, .int .i64 v1.n, .string v1.s] 25) = w5 at *
    clear hw5
    obtain ⟨q0, q1, q2, q3, q4, q5⟩ := hB5.c6
    obtain ⟨f0, f1, f2⟩ := hF5.c3
    obtain ⟨g0, g1, g2⟩ := hG.c3
    cases r1 with
    | none =>
      have HR : Hid (evX vs vals x = none) := by
        show _ = _
        rw [HKEY.out]
        unfold evO
        rw [if_neg (by omega), if_neg (by omega), HG0.out]
        show (if _ then _ else _) = _
        rw [if_neg (by omega), if_neg (by omega), if_neg (by omega), if_neg (by omega), if_neg (by omega), HG1.out]
      clear f0 f1 f2 g0 g1 g2 q0 q1 q2 q3 q4 q5
      obtain ⟨⟨k0, k1, k2⟩, hS, ⟨y0, y1, y2⟩, hbS⟩ := HST.out w5 (.int .i64 0) (.int .i64 0) (.string ⟨#[]⟩) hb15
      go_wp2_with fail
      obtain ⟨t0, t1, t2⟩ := hS.c3
      refine bodyPost_ret (v := .tuple #[.agg #[.int .i64 0, .int .i64 0, .string ⟨#[]⟩], .bool false]) (by simp [results, Tryz.results46, go_sem, t0, t1, t2]) rfl ?_
      exact RetO.cast HR.out ⟨⟨0, 0, ⟨#[]⟩⟩, rfl, fun a h => (by cases h), hbS⟩

    | some c =>
      obtain rfl : v1 = c := hv1' c rfl
      have HR : Hid (evX vs vals x = some (truthV (decide (v0.n ≤ v1.n)))) := by
        show _ = _
        rw [HKEY.out]
        unfold evO
        rw [if_neg (by omega), if_neg (by omega), HG0.out]
        show (if _ then _ else _) = _
        rw [if_neg (by omega), if_neg (by omega), if_neg (by omega), if_neg (by omega), if_neg (by omega), HG1.out]
        show (if _ then _ else _) = _
        rw [if_neg (by omega), if_neg (by omega), if_pos ho]
      generalize hd : decide (v0.n ≤ v1.n) = d at *
      go_wp2_with fail
      refine (truth_any d _).mono ?_
      rintro e w6 ⟨rfl, hb6⟩
      clear f0 f1 f2 g0 g1 g2 q0 q1 q2 q3 q4 q5
      have ev : valV (truthV d) = .agg #[.int .i64 (truthV d).kind, .int .i64 (truthV d).n, .string (truthV d).s] := rfl
      rw [ev]
      generalize truthV d = tv at *
      obtain ⟨⟨k0, k1, k2⟩, hS, ⟨y0, y1, y2⟩, hbS⟩ := HST.out w6 (.int .i64 tv.kind) (.int .i64 tv.n) (.string tv.s) (bthen hb15 hb6)
      go_wp2_with fail
      obtain ⟨t0, t1, t2⟩ := hS.c3
      refine bodyPost_ret (v := .tuple #[.agg #[.int .i64 tv.kind, .int .i64 tv.n, .string tv.s], .bool true]) (by simp [results, Tryz.results46, go_sem, t0, t1, t2]) rfl ?_
      exact RetO.cast HR.out ⟨tv, rfl, fun a h => (by injection h), hbS⟩
set_option maxHeartbeats 8000000 in
set_option maxRecDepth 100000 in
theorem eval_add (n : Nat) (ih : ∀ m, m < n → EvalAt 46 m) (vs : List Var) (vals : List Val) (x : Ex) (w : World) (uv vv u : Value) (h : EvArgs n vs vals x w uv vv u) (ho : x.op = 9) : Calls Tryz.prog 46 #[uv, vv, u] w (RetO (evX vs vals x) w) := by
  have HO := Lib.hid ho
  clear ho
  have h0 := h
  obtain ⟨hvs, hvl, hx, _, _, hA⟩ := h
  obtain ⟨Av, cv, rfl, v1, v2, hvs⟩ := hvs.open_
  obtain ⟨Aw, cw, rfl, v3, v4, hvl⟩ := hvl.open_
  obtain ⟨lv, rfl, h1, h2, h3, h4⟩ := hx
  obtain ⟨A, c, rfl, l1, l2, h4⟩ := h4.open_
  have hb := bbox (bone w (.cells #[.int .i64 x.op, .int .i64 x.v.kind, .int .i64 x.v.n, .string x.v.s, .string x.s, .slice A x.l.length c] 28)) (.cells #[.int .i64 0, .int .i64 0, .string ⟨#[]⟩] 25)
  have hB := (Blk.new w 28 #[.int .i64 x.op, .int .i64 x.v.kind, .int .i64 x.v.n, .string x.v.s, .string x.s, .slice A x.l.length c]).alloc (.cells #[.int .i64 0, .int .i64 0, .string ⟨#[]⟩] 25)
  have hR := Blk.new_at (t := 25) (cs := #[.int .i64 0, .int .i64 0, .string ⟨#[]⟩]) (w := w.alloc (.cells #[.int .i64 x.op, .int .i64 x.v.kind, .int .i64 x.v.n, .string x.v.s, .string x.s, .slice A x.l.length c] 28)) (s := w.heap.size + 1) (by simp)
  have hl1 := SlE.now h4 hb
  have hv1 := hvs.now hb
  have hw1 := hvl.now hb
  clear h4 hvs hvl
  go_enter Tryz.func46, Tryz.ntmps46
  go_upto_region 1 with fail
  generalize hww : (w.alloc (.cells #[.int .i64 x.op, .int .i64 x.v.kind, .int .i64 x.v.n, .string x.v.s, .string x.s, .slice A x.l.length c] 28)).alloc (.cells #[.int .i64 0, .int .i64 0, .string ⟨#[]⟩] 25) = w1 at *
  clear hww
  have ho := HO.out
  have HST : Hid (∀ (W : World) (x y z : Value), Below w1.heap.size w1 W →
      (W.frozen? ⟨w.heap.size + 1, 0, none⟩ = false ∧ W.frozen? ⟨w.heap.size + 1, 1, none⟩ = false ∧ W.frozen? ⟨w.heap.size + 1, 2, none⟩ = false) ∧
      Blk (((W.setCell ⟨w.heap.size + 1, 0, none⟩ x).setCell ⟨w.heap.size + 1, 1, none⟩ y).setCell ⟨w.heap.size + 1, 2, none⟩ z) (w.heap.size + 1) 25 #[x, y, z] ∧
      (W.cell? ⟨w.heap.size + 1, 0, none⟩ = some (.int .i64 0) ∧ W.cell? ⟨w.heap.size + 1, 1, none⟩ = some (.int .i64 0) ∧ W.cell? ⟨w.heap.size + 1, 2, none⟩ = some (.string ⟨#[]⟩)) ∧
      Below w.heap.size w (((W.setCell ⟨w.heap.size + 1, 0, none⟩ x).setCell ⟨w.heap.size + 1, 1, none⟩ y).setCell ⟨w.heap.size + 1, 2, none⟩ z)) :=
    fun W x y z hW => ⟨⟨(hR.now hW).frozen 0, (hR.now hW).frozen 1, (hR.now hW).frozen 2⟩, (hR.now hW).set3 _ _ _, (hR.now hW).c3, bset3 (bthen hb hW) (by omega) _ _ _⟩
  obtain ⟨q0, q1, q2, q3, q4, q5⟩ := hB.c6
  have HKEY := Lib.hid (ev_key vs vals x)
  have HSL := Lib.hid (shape_len h0.shape)
  have hlen : 1 ≤ x.l.length := by have := HSL.out; omega
  obtain ⟨b, o, y, ylv, n', hn, rfl, hD, hy, hex, hfv, hsl, e0, e1, e2, e3, e4, e5⟩ := hl1.at_ (k := 0) (by omega)
  have HY := Lib.hid hy
  have hym := List.mem_of_getElem? hy
  obtain ⟨A2, c2', rfl, m1, m2, _⟩ := hsl.open_
  have hcall := Lib.hid (ih n' (by omega) vs vals y _ _ _ _ (h0.part hym hb hex))
  have HV0 := Lib.hid (fun (a : Val) (h : evX vs vals y = some a) => h0.val hym h)
  have i0 : (0 : Int) < (x.l.length : Int) := by omega
  have e0' : w1.cell? ⟨b, o, none⟩ = some (.int .i64 y.op) := by simpa using e0
  have e1' : w1.cell? ⟨b, o + 1, none⟩ = some (.int .i64 y.v.kind) := by simpa using e1
  have e2' : w1.cell? ⟨b, o + 2, none⟩ = some (.int .i64 y.v.n) := by simpa using e2
  have e3' : w1.cell? ⟨b, o + 3, none⟩ = some (.string y.v.s) := by simpa using e3
  have e4' : w1.cell? ⟨b, o + 4, none⟩ = some (.string y.s) := by simpa using e4
  have e5' : w1.cell? ⟨b, o + 5, none⟩ = some (.slice A2 y.l.length c2') := by simpa using e5
  clear hy hex hsl hfv e0 e1 e2 e3 e4 e5 hn
  go_wp2_with fail
  refine hcall.out.mono ?_
  clear hcall e0' e1' e2' e3' e4' e5'
  rintro e w2 ⟨v0, rfl, hv0, hb2⟩
  have HG0 := Lib.hid (getD_map (f := evX vs vals) HY.out)
  generalize hr0 : evX vs vals y = r0 at *
  have hb3 := bone w2 (.cells #[.int .i64 v0.kind, .int .i64 v0.n, .string v0.s] 25)
  have hF := Blk.new w2 25 #[.int .i64 v0.kind, .int .i64 v0.n, .string v0.s]
  have hb13 := bthen hb2 hb3
  have hB3 := hB.now hb13
  have hl3 := SlE.now hl1 hb13
  clear q0 q1 q2 q3 q4 q5
  have l2' := hF.lt
  go_upto_region 7 with fail
  generalize hw3 : w2.alloc (.cells #[.int .i64 v0.kind, .int .i64 v0.n, .string v0.s] 25) = w3 at *
  clear hw3
  obtain ⟨q0, q1, q2, q3, q4, q5⟩ := hB3.c6
  obtain ⟨f0, f1, f2⟩ := hF.c3
  cases r0 with
  | none =>
    have HR : Hid (evX vs vals x = none) := by
      show _ = _
      rw [HKEY.out]
      unfold evO
      rw [if_neg (by omega), if_neg (by omega), HG0.out]
    clear f0 f1 f2 q0 q1 q2 q3 q4 q5
    obtain ⟨⟨k0, k1, k2⟩, hS, ⟨y0, y1, y2⟩, hbS⟩ := HST.out w3 (.int .i64 0) (.int .i64 0) (.string ⟨#[]⟩) hb13
    go_wp2_with fail
    obtain ⟨t0, t1, t2⟩ := hS.c3
    refine bodyPost_ret (v := .tuple #[.agg #[.int .i64 0, .int .i64 0, .string ⟨#[]⟩], .bool false]) (by simp [results, Tryz.results46, go_sem, t0, t1, t2]) rfl ?_
    exact RetO.cast HR.out ⟨⟨0, 0, ⟨#[]⟩⟩, rfl, fun a h => (by cases h), hbS⟩

  | some a =>
    obtain rfl : v0 = a := hv0 a rfl
    have HVA := Lib.hid (HV0.out _ rfl)
    clear hv0
    have hli : 1 < x.l.length := by have := HSL.out; omega
    obtain ⟨b1, o1, y1, ylv, n1, hn, hA1, hD1, hy, hex, hfv, hsl, e0, e1, e2, e3, e4, e5⟩ := hl3.at_ hli
    injection hA1 with hA1
    injection hA1 with g1 g2 _
    subst g1 g2
    have HY1 := Lib.hid hy
    have hym1 := List.mem_of_getElem? hy
    obtain ⟨A2, c2', rfl, m1, m2, _⟩ := hsl.open_
    have hcall := Lib.hid (ih n1 (by omega) vs vals y1 _ _ _ _ (h0.part hym1 (bthen hb hb13) hex))
    have HV1 := Lib.hid (fun (a : Val) (h : evX vs vals y1 = some a) => h0.val hym1 h)
    have i1 : (1 : Int) < (x.l.length : Int) := by omega
    clear hy hex hsl hfv hn
    go_wp2_with fail
    refine hcall.out.mono ?_
    clear hcall e0 e1 e2 e3 e4 e5
    rintro e w4 ⟨v1, rfl, hv1', hb4⟩
    have HG1 := Lib.hid (getD_map (f := evX vs vals) HY1.out)
    generalize hr1 : evX vs vals y1 = r1 at *
    have hb5 := bone w4 (.cells #[.int .i64 v1.kind, .int .i64 v1.n, .string v1.s] 25)
    have hG := Blk.new w4 25 #[.int .i64 v1.kind, .int .i64 v1.n, .string v1.s]
    have hb35 := bthen hb4 hb5
    have hb15 := bthen hb13 hb35
    have hB5 := hB3.now hb35
    have hF5 := hF.now hb35
    clear f0 f1 f2 q0 q1 q2 q3 q4 q5
    have l3' := hG.lt
    go_upto_region 22 with fail
    generalize hw5 : w4.alloc (.cells #[.int .i64 v1.kind, .int .i64 v1.n, .string v1.s] 25) = w5 at *
    clear hw5
    obtain ⟨q0, q1, q2, q3, q4, q5⟩ := hB5.c6
    obtain ⟨f0, f1, f2⟩ := hF5.c3
    obtain ⟨g0, g1, g2⟩ := hG.c3
    cases r1 with
    | none =>
      have HR : Hid (evX vs vals x = none) := by
        show _ = _
        rw [HKEY.out]
        unfold evO
        rw [if_neg (by omega), if_neg (by omega), HG0.out]
        show (if _ then _ else _) = _
        rw [if_neg (by omega), if_neg (by omega), if_neg (by omega), if_neg (by omega), if_neg (by omega), HG1.out]
      clear f0 f1 f2 g0 g1 g2 q0 q1 q2 q3 q4 q5
      obtain ⟨⟨k0, k1, k2⟩, hS, ⟨y0, y1, y2⟩, hbS⟩ := HST.out w5 (.int .i64 0) (.int .i64 0) (.string ⟨#[]⟩) hb15
      go_wp2_with fail
      obtain ⟨t0, t1, t2⟩ := hS.c3
      refine bodyPost_ret (v := .tuple #[.agg #[.int .i64 0, .int .i64 0, .string ⟨#[]⟩], .bool false]) (by simp [results, Tryz.results46, go_sem, t0, t1, t2]) rfl ?_
      exact RetO.cast HR.out ⟨⟨0, 0, ⟨#[]⟩⟩, rfl, fun a h => (by cases h), hbS⟩

    | some c =>
      obtain rfl : v1 = c := hv1' c rfl
      have HR : Hid (evX vs vals x = numV (v0.n + v1.n)) := by
        show _ = _
        rw [HKEY.out]
        unfold evO
        rw [if_neg (by omega), if_neg (by omega), HG0.out]
        show (if _ then _ else _) = _
        rw [if_neg (by omega), if_neg (by omega), if_neg (by omega), if_neg (by omega), if_neg (by omega), HG1.out]
        show (if _ then _ else _) = _
        rw [if_neg (by omega), if_neg (by omega), if_neg (by omega), if_pos ho]
      have hn0 := h0.nums (by omega) (List.mem_of_getElem? HY.out)
      have hn1 := h0.nums (by omega) hym1
      have hr0 := num_range HVA.out.2 (HVA.out.1.trans hn0)
      have hva1 := HV1.out _ rfl
      have hr1 := num_range hva1.2 (hva1.1.trans hn1)
      clear hva1 hn0 hn1
      have hwr : IntKind.i64.wrap (v0.n + v1.n) = v0.n + v1.n := IntWalk.i64_in _ (by omega)
      go_wp2_with fail
      refine (enumber_any (v0.n + v1.n) _ (by unfold Fit; omega)).mono ?_
      rintro e w6 ⟨tv, rfl, htv, hb6⟩
      clear f0 f1 f2 g0 g1 g2 q0 q1 q2 q3 q4 q5
      generalize numV (v0.n + v1.n) = r at *
      obtain ⟨⟨k0, k1, k2⟩, hS, ⟨y0, y1, y2⟩, hbS⟩ := HST.out w6 (.int .i64 tv.kind) (.int .i64 tv.n) (.string tv.s) (bthen hb15 hb6)
      go_wp2_with fail
      obtain ⟨t0, t1, t2⟩ := hS.c3
      refine bodyPost_ret (v := .tuple #[.agg #[.int .i64 tv.kind, .int .i64 tv.n, .string tv.s], .bool r.isSome]) (by simp [results, Tryz.results46, go_sem, t0, t1, t2]) rfl ?_
      exact RetO.cast HR.out ⟨tv, rfl, htv, hbS⟩
set_option maxHeartbeats 8000000 in
set_option maxRecDepth 100000 in
theorem eval_sub (n : Nat) (ih : ∀ m, m < n → EvalAt 46 m) (vs : List Var) (vals : List Val) (x : Ex) (w : World) (uv vv u : Value) (h : EvArgs n vs vals x w uv vv u) (ho : x.op = 10) : Calls Tryz.prog 46 #[uv, vv, u] w (RetO (evX vs vals x) w) := by
  have HO := Lib.hid ho
  clear ho
  have h0 := h
  obtain ⟨hvs, hvl, hx, _, _, hA⟩ := h
  obtain ⟨Av, cv, rfl, v1, v2, hvs⟩ := hvs.open_
  obtain ⟨Aw, cw, rfl, v3, v4, hvl⟩ := hvl.open_
  obtain ⟨lv, rfl, h1, h2, h3, h4⟩ := hx
  obtain ⟨A, c, rfl, l1, l2, h4⟩ := h4.open_
  have hb := bbox (bone w (.cells #[.int .i64 x.op, .int .i64 x.v.kind, .int .i64 x.v.n, .string x.v.s, .string x.s, .slice A x.l.length c] 28)) (.cells #[.int .i64 0, .int .i64 0, .string ⟨#[]⟩] 25)
  have hB := (Blk.new w 28 #[.int .i64 x.op, .int .i64 x.v.kind, .int .i64 x.v.n, .string x.v.s, .string x.s, .slice A x.l.length c]).alloc (.cells #[.int .i64 0, .int .i64 0, .string ⟨#[]⟩] 25)
  have hR := Blk.new_at (t := 25) (cs := #[.int .i64 0, .int .i64 0, .string ⟨#[]⟩]) (w := w.alloc (.cells #[.int .i64 x.op, .int .i64 x.v.kind, .int .i64 x.v.n, .string x.v.s, .string x.s, .slice A x.l.length c] 28)) (s := w.heap.size + 1) (by simp)
  have hl1 := SlE.now h4 hb
  have hv1 := hvs.now hb
  have hw1 := hvl.now hb
  clear h4 hvs hvl
  go_enter Tryz.func46, Tryz.ntmps46
  go_upto_region 1 with fail
  generalize hww : (w.alloc (.cells #[.int .i64 x.op, .int .i64 x.v.kind, .int .i64 x.v.n, .string x.v.s, .string x.s, .slice A x.l.length c] 28)).alloc (.cells #[.int .i64 0, .int .i64 0, .string ⟨#[]⟩] 25) = w1 at *
  clear hww
  have ho := HO.out
  have HST : Hid (∀ (W : World) (x y z : Value), Below w1.heap.size w1 W →
      (W.frozen? ⟨w.heap.size + 1, 0, none⟩ = false ∧ W.frozen? ⟨w.heap.size + 1, 1, none⟩ = false ∧ W.frozen? ⟨w.heap.size + 1, 2, none⟩ = false) ∧
      Blk (((W.setCell ⟨w.heap.size + 1, 0, none⟩ x).setCell ⟨w.heap.size + 1, 1, none⟩ y).setCell ⟨w.heap.size + 1, 2, none⟩ z) (w.heap.size + 1) 25 #[x, y, z] ∧
      (W.cell? ⟨w.heap.size + 1, 0, none⟩ = some (.int .i64 0) ∧ W.cell? ⟨w.heap.size + 1, 1, none⟩ = some (.int .i64 0) ∧ W.cell? ⟨w.heap.size + 1, 2, none⟩ = some (.string ⟨#[]⟩)) ∧
      Below w.heap.size w (((W.setCell ⟨w.heap.size + 1, 0, none⟩ x).setCell ⟨w.heap.size + 1, 1, none⟩ y).setCell ⟨w.heap.size + 1, 2, none⟩ z)) :=
    fun W x y z hW => ⟨⟨(hR.now hW).frozen 0, (hR.now hW).frozen 1, (hR.now hW).frozen 2⟩, (hR.now hW).set3 _ _ _, (hR.now hW).c3, bset3 (bthen hb hW) (by omega) _ _ _⟩
  obtain ⟨q0, q1, q2, q3, q4, q5⟩ := hB.c6
  have HKEY := Lib.hid (ev_key vs vals x)
  have HSL := Lib.hid (shape_len h0.shape)
  have hlen : 1 ≤ x.l.length := by have := HSL.out; omega
  obtain ⟨b, o, y, ylv, n', hn, rfl, hD, hy, hex, hfv, hsl, e0, e1, e2, e3, e4, e5⟩ := hl1.at_ (k := 0) (by omega)
  have HY := Lib.hid hy
  have hym := List.mem_of_getElem? hy
  obtain ⟨A2, c2', rfl, m1, m2, _⟩ := hsl.open_
  have hcall := Lib.hid (ih n' (by omega) vs vals y _ _ _ _ (h0.part hym hb hex))
  have HV0 := Lib.hid (fun (a : Val) (h : evX vs vals y = some a) => h0.val hym h)
  have i0 : (0 : Int) < (x.l.length : Int) := by omega
  have e0' : w1.cell? ⟨b, o, none⟩ = some (.int .i64 y.op) := by simpa using e0
  have e1' : w1.cell? ⟨b, o + 1, none⟩ = some (.int .i64 y.v.kind) := by simpa using e1
  have e2' : w1.cell? ⟨b, o + 2, none⟩ = some (.int .i64 y.v.n) := by simpa using e2
  have e3' : w1.cell? ⟨b, o + 3, none⟩ = some (.string y.v.s) := by simpa using e3
  have e4' : w1.cell? ⟨b, o + 4, none⟩ = some (.string y.s) := by simpa using e4
  have e5' : w1.cell? ⟨b, o + 5, none⟩ = some (.slice A2 y.l.length c2') := by simpa using e5
  clear hy hex hsl hfv e0 e1 e2 e3 e4 e5 hn
  go_wp2_with fail
  refine hcall.out.mono ?_
  clear hcall e0' e1' e2' e3' e4' e5'
  rintro e w2 ⟨v0, rfl, hv0, hb2⟩
  have HG0 := Lib.hid (getD_map (f := evX vs vals) HY.out)
  generalize hr0 : evX vs vals y = r0 at *
  have hb3 := bone w2 (.cells #[.int .i64 v0.kind, .int .i64 v0.n, .string v0.s] 25)
  have hF := Blk.new w2 25 #[.int .i64 v0.kind, .int .i64 v0.n, .string v0.s]
  have hb13 := bthen hb2 hb3
  have hB3 := hB.now hb13
  have hl3 := SlE.now hl1 hb13
  clear q0 q1 q2 q3 q4 q5
  have l2' := hF.lt
  go_upto_region 7 with fail
  generalize hw3 : w2.alloc (.cells #[.int .i64 v0.kind, .int .i64 v0.n, .string v0.s] 25) = w3 at *
  clear hw3
  obtain ⟨q0, q1, q2, q3, q4, q5⟩ := hB3.c6
  obtain ⟨f0, f1, f2⟩ := hF.c3
  cases r0 with
  | none =>
    have HR : Hid (evX vs vals x = none) := by
      show _ = _
      rw [HKEY.out]
      unfold evO
      rw [if_neg (by omega), if_neg (by omega), HG0.out]
    clear f0 f1 f2 q0 q1 q2 q3 q4 q5
    obtain ⟨⟨k0, k1, k2⟩, hS, ⟨y0, y1, y2⟩, hbS⟩ := HST.out w3 (.int .i64 0) (.int .i64 0) (.string ⟨#[]⟩) hb13
    go_wp2_with fail
    obtain ⟨t0, t1, t2⟩ := hS.c3
    refine bodyPost_ret (v := .tuple #[.agg #[.int .i64 0, .int .i64 0, .string ⟨#[]⟩], .bool false]) (by simp [results, Tryz.results46, go_sem, t0, t1, t2]) rfl ?_
    exact RetO.cast HR.out ⟨⟨0, 0, ⟨#[]⟩⟩, rfl, fun a h => (by cases h), hbS⟩

  | some a =>
    obtain rfl : v0 = a := hv0 a rfl
    have HVA := Lib.hid (HV0.out _ rfl)
    clear hv0
    have hli : 1 < x.l.length := by have := HSL.out; omega
    obtain ⟨b1, o1, y1, ylv, n1, hn, hA1, hD1, hy, hex, hfv, hsl, e0, e1, e2, e3, e4, e5⟩ := hl3.at_ hli
    injection hA1 with hA1
    injection hA1 with g1 g2 _
    subst g1 g2
    have HY1 := Lib.hid hy
    have hym1 := List.mem_of_getElem? hy
    obtain ⟨A2, c2', rfl, m1, m2, _⟩ := hsl.open_
    have hcall := Lib.hid (ih n1 (by omega) vs vals y1 _ _ _ _ (h0.part hym1 (bthen hb hb13) hex))
    have HV1 := Lib.hid (fun (a : Val) (h : evX vs vals y1 = some a) => h0.val hym1 h)
    have i1 : (1 : Int) < (x.l.length : Int) := by omega
    clear hy hex hsl hfv hn
    go_wp2_with fail
    refine hcall.out.mono ?_
    clear hcall e0 e1 e2 e3 e4 e5
    rintro e w4 ⟨v1, rfl, hv1', hb4⟩
    have HG1 := Lib.hid (getD_map (f := evX vs vals) HY1.out)
    generalize hr1 : evX vs vals y1 = r1 at *
    have hb5 := bone w4 (.cells #[.int .i64 v1.kind, .int .i64 v1.n, .string v1.s] 25)
    have hG := Blk.new w4 25 #[.int .i64 v1.kind, .int .i64 v1.n, .string v1.s]
    have hb35 := bthen hb4 hb5
    have hb15 := bthen hb13 hb35
    have hB5 := hB3.now hb35
    have hF5 := hF.now hb35
    clear f0 f1 f2 q0 q1 q2 q3 q4 q5
    have l3' := hG.lt
    go_upto_region 22 with fail
    generalize hw5 : w4.alloc (.cells #[.int .i64 v1.kind, .int .i64 v1.n, .string v1.s] 25) = w5 at *
    clear hw5
    obtain ⟨q0, q1, q2, q3, q4, q5⟩ := hB5.c6
    obtain ⟨f0, f1, f2⟩ := hF5.c3
    obtain ⟨g0, g1, g2⟩ := hG.c3
    cases r1 with
    | none =>
      have HR : Hid (evX vs vals x = none) := by
        show _ = _
        rw [HKEY.out]
        unfold evO
        rw [if_neg (by omega), if_neg (by omega), HG0.out]
        show (if _ then _ else _) = _
        rw [if_neg (by omega), if_neg (by omega), if_neg (by omega), if_neg (by omega), if_neg (by omega), HG1.out]
      clear f0 f1 f2 g0 g1 g2 q0 q1 q2 q3 q4 q5
      obtain ⟨⟨k0, k1, k2⟩, hS, ⟨y0, y1, y2⟩, hbS⟩ := HST.out w5 (.int .i64 0) (.int .i64 0) (.string ⟨#[]⟩) hb15
      go_wp2_with fail
      obtain ⟨t0, t1, t2⟩ := hS.c3
      refine bodyPost_ret (v := .tuple #[.agg #[.int .i64 0, .int .i64 0, .string ⟨#[]⟩], .bool false]) (by simp [results, Tryz.results46, go_sem, t0, t1, t2]) rfl ?_
      exact RetO.cast HR.out ⟨⟨0, 0, ⟨#[]⟩⟩, rfl, fun a h => (by cases h), hbS⟩

    | some c =>
      obtain rfl : v1 = c := hv1' c rfl
      have HR : Hid (evX vs vals x = numV (v0.n - v1.n)) := by
        show _ = _
        rw [HKEY.out]
        unfold evO
        rw [if_neg (by omega), if_neg (by omega), HG0.out]
        show (if _ then _ else _) = _
        rw [if_neg (by omega), if_neg (by omega), if_neg (by omega), if_neg (by omega), if_neg (by omega), HG1.out]
        show (if _ then _ else _) = _
        rw [if_neg (by omega), if_neg (by omega), if_neg (by omega), if_neg (by omega), if_pos ho]
      have hn0 := h0.nums (by omega) (List.mem_of_getElem? HY.out)
      have hn1 := h0.nums (by omega) hym1
      have hr0 := num_range HVA.out.2 (HVA.out.1.trans hn0)
      have hva1 := HV1.out _ rfl
      have hr1 := num_range hva1.2 (hva1.1.trans hn1)
      clear hva1 hn0 hn1
      have hwr : IntKind.i64.wrap (v0.n - v1.n) = v0.n - v1.n := IntWalk.i64_in _ (by omega)
      go_wp2_with fail
      refine (enumber_any (v0.n - v1.n) _ (by unfold Fit; omega)).mono ?_
      rintro e w6 ⟨tv, rfl, htv, hb6⟩
      clear f0 f1 f2 g0 g1 g2 q0 q1 q2 q3 q4 q5
      generalize numV (v0.n - v1.n) = r at *
      obtain ⟨⟨k0, k1, k2⟩, hS, ⟨y0, y1, y2⟩, hbS⟩ := HST.out w6 (.int .i64 tv.kind) (.int .i64 tv.n) (.string tv.s) (bthen hb15 hb6)
      go_wp2_with fail
      obtain ⟨t0, t1, t2⟩ := hS.c3
      refine bodyPost_ret (v := .tuple #[.agg #[.int .i64 tv.kind, .int .i64 tv.n, .string tv.s], .bool r.isSome]) (by simp [results, Tryz.results46, go_sem, t0, t1, t2]) rfl ?_
      exact RetO.cast HR.out ⟨tv, rfl, htv, hbS⟩
set_option maxHeartbeats 8000000 in
set_option maxRecDepth 100000 in
theorem eval_mul (n : Nat) (ih : ∀ m, m < n → EvalAt 46 m) (vs : List Var) (vals : List Val) (x : Ex) (w : World) (uv vv u : Value) (h : EvArgs n vs vals x w uv vv u) (ho : x.op = 11) : Calls Tryz.prog 46 #[uv, vv, u] w (RetO (evX vs vals x) w) := by
  have HO := Lib.hid ho
  clear ho
  have h0 := h
  obtain ⟨hvs, hvl, hx, _, _, hA⟩ := h
  obtain ⟨Av, cv, rfl, v1, v2, hvs⟩ := hvs.open_
  obtain ⟨Aw, cw, rfl, v3, v4, hvl⟩ := hvl.open_
  obtain ⟨lv, rfl, h1, h2, h3, h4⟩ := hx
  obtain ⟨A, c, rfl, l1, l2, h4⟩ := h4.open_
  have hb := bbox (bone w (.cells #[.int .i64 x.op, .int .i64 x.v.kind, .int .i64 x.v.n, .string x.v.s, .string x.s, .slice A x.l.length c] 28)) (.cells #[.int .i64 0, .int .i64 0, .string ⟨#[]⟩] 25)
  have hB := (Blk.new w 28 #[.int .i64 x.op, .int .i64 x.v.kind, .int .i64 x.v.n, .string x.v.s, .string x.s, .slice A x.l.length c]).alloc (.cells #[.int .i64 0, .int .i64 0, .string ⟨#[]⟩] 25)
  have hR := Blk.new_at (t := 25) (cs := #[.int .i64 0, .int .i64 0, .string ⟨#[]⟩]) (w := w.alloc (.cells #[.int .i64 x.op, .int .i64 x.v.kind, .int .i64 x.v.n, .string x.v.s, .string x.s, .slice A x.l.length c] 28)) (s := w.heap.size + 1) (by simp)
  have hl1 := SlE.now h4 hb
  have hv1 := hvs.now hb
  have hw1 := hvl.now hb
  clear h4 hvs hvl
  go_enter Tryz.func46, Tryz.ntmps46
  go_upto_region 1 with fail
  generalize hww : (w.alloc (.cells #[.int .i64 x.op, .int .i64 x.v.kind, .int .i64 x.v.n, .string x.v.s, .string x.s, .slice A x.l.length c] 28)).alloc (.cells #[.int .i64 0, .int .i64 0, .string ⟨#[]⟩] 25) = w1 at *
  clear hww
  have ho := HO.out
  have HST : Hid (∀ (W : World) (x y z : Value), Below w1.heap.size w1 W →
      (W.frozen? ⟨w.heap.size + 1, 0, none⟩ = false ∧ W.frozen? ⟨w.heap.size + 1, 1, none⟩ = false ∧ W.frozen? ⟨w.heap.size + 1, 2, none⟩ = false) ∧
      Blk (((W.setCell ⟨w.heap.size + 1, 0, none⟩ x).setCell ⟨w.heap.size + 1, 1, none⟩ y).setCell ⟨w.heap.size + 1, 2, none⟩ z) (w.heap.size + 1) 25 #[x, y, z] ∧
      (W.cell? ⟨w.heap.size + 1, 0, none⟩ = some (.int .i64 0) ∧ W.cell? ⟨w.heap.size + 1, 1, none⟩ = some (.int .i64 0) ∧ W.cell? ⟨w.heap.size + 1, 2, none⟩ = some (.string ⟨#[]⟩)) ∧
      Below w.heap.size w (((W.setCell ⟨w.heap.size + 1, 0, none⟩ x).setCell ⟨w.heap.size + 1, 1, none⟩ y).setCell ⟨w.heap.size + 1, 2, none⟩ z)) :=
    fun W x y z hW => ⟨⟨(hR.now hW).frozen 0, (hR.now hW).frozen 1, (hR.now hW).frozen 2⟩, (hR.now hW).set3 _ _ _, (hR.now hW).c3, bset3 (bthen hb hW) (by omega) _ _ _⟩
  obtain ⟨q0, q1, q2, q3, q4, q5⟩ := hB.c6
  have HKEY := Lib.hid (ev_key vs vals x)
  have HSL := Lib.hid (shape_len h0.shape)
  have hlen : 1 ≤ x.l.length := by have := HSL.out; omega
  obtain ⟨b, o, y, ylv, n', hn, rfl, hD, hy, hex, hfv, hsl, e0, e1, e2, e3, e4, e5⟩ := hl1.at_ (k := 0) (by omega)
  have HY := Lib.hid hy
  have hym := List.mem_of_getElem? hy
  obtain ⟨A2, c2', rfl, m1, m2, _⟩ := hsl.open_
  have hcall := Lib.hid (ih n' (by omega) vs vals y _ _ _ _ (h0.part hym hb hex))
  have HV0 := Lib.hid (fun (a : Val) (h : evX vs vals y = some a) => h0.val hym h)
  have i0 : (0 : Int) < (x.l.length : Int) := by omega
  have e0' : w1.cell? ⟨b, o, none⟩ = some (.int .i64 y.op) := by simpa using e0
  have e1' : w1.cell? ⟨b, o + 1, none⟩ = some (.int .i64 y.v.kind) := by simpa using e1
  have e2' : w1.cell? ⟨b, o + 2, none⟩ = some (.int .i64 y.v.n) := by simpa using e2
  have e3' : w1.cell? ⟨b, o + 3, none⟩ = some (.string y.v.s) := by simpa using e3
  have e4' : w1.cell? ⟨b, o + 4, none⟩ = some (.string y.s) := by simpa using e4
  have e5' : w1.cell? ⟨b, o + 5, none⟩ = some (.slice A2 y.l.length c2') := by simpa using e5
  clear hy hex hsl hfv e0 e1 e2 e3 e4 e5 hn
  go_wp2_with fail
  refine hcall.out.mono ?_
  clear hcall e0' e1' e2' e3' e4' e5'
  rintro e w2 ⟨v0, rfl, hv0, hb2⟩
  have HG0 := Lib.hid (getD_map (f := evX vs vals) HY.out)
  generalize hr0 : evX vs vals y = r0 at *
  have hb3 := bone w2 (.cells #[.int .i64 v0.kind, .int .i64 v0.n, .string v0.s] 25)
  have hF := Blk.new w2 25 #[.int .i64 v0.kind, .int .i64 v0.n, .string v0.s]
  have hb13 := bthen hb2 hb3
  have hB3 := hB.now hb13
  have hl3 := SlE.now hl1 hb13
  clear q0 q1 q2 q3 q4 q5
  have l2' := hF.lt
  go_upto_region 7 with fail
  generalize hw3 : w2.alloc (.cells #[.int .i64 v0.kind, .int .i64 v0.n, .string v0.s] 25) = w3 at *
  clear hw3
  obtain ⟨q0, q1, q2, q3, q4, q5⟩ := hB3.c6
  obtain ⟨f0, f1, f2⟩ := hF.c3
  cases r0 with
  | none =>
    have HR : Hid (evX vs vals x = none) := by
      show _ = _
      rw [HKEY.out]
      unfold evO
      rw [if_neg (by omega), if_neg (by omega), HG0.out]
    clear f0 f1 f2 q0 q1 q2 q3 q4 q5
    obtain ⟨⟨k0, k1, k2⟩, hS, ⟨y0, y1, y2⟩, hbS⟩ := HST.out w3 (.int .i64 0) (.int .i64 0) (.string ⟨#[]⟩) hb13
    go_wp2_with fail
    obtain ⟨t0, t1, t2⟩ := hS.c3
    refine bodyPost_ret (v := .tuple #[.agg #[.int .i64 0, .int .i64 0, .string ⟨#[]⟩], .bool false]) (by simp [results, Tryz.results46, go_sem, t0, t1, t2]) rfl ?_
    exact RetO.cast HR.out ⟨⟨0, 0, ⟨#[]⟩⟩, rfl, fun a h => (by cases h), hbS⟩

  | some a =>
    obtain rfl : v0 = a := hv0 a rfl
    have HVA := Lib.hid (HV0.out _ rfl)
    clear hv0
    have hli : 1 < x.l.length := by have := HSL.out; omega
    obtain ⟨b1, o1, y1, ylv, n1, hn, hA1, hD1, hy, hex, hfv, hsl, e0, e1, e2, e3, e4, e5⟩ := hl3.at_ hli
    injection hA1 with hA1
    injection hA1 with g1 g2 _
    subst g1 g2
    have HY1 := Lib.hid hy
    have hym1 := List.mem_of_getElem? hy
    obtain ⟨A2, c2', rfl, m1, m2, _⟩ := hsl.open_
    have hcall := Lib.hid (ih n1 (by omega) vs vals y1 _ _ _ _ (h0.part hym1 (bthen hb hb13) hex))
    have HV1 := Lib.hid (fun (a : Val) (h : evX vs vals y1 = some a) => h0.val hym1 h)
    have i1 : (1 : Int) < (x.l.length : Int) := by omega
    clear hy hex hsl hfv hn
    go_wp2_with fail
    refine hcall.out.mono ?_
    clear hcall e0 e1 e2 e3 e4 e5
    rintro e w4 ⟨v1, rfl, hv1', hb4⟩
    have HG1 := Lib.hid (getD_map (f := evX vs vals) HY1.out)
    generalize hr1 : evX vs vals y1 = r1 at *
    have hb5 := bone w4 (.cells #[.int .i64 v1.kind, .int .i64 v1.n, .string v1.s] 25)
    have hG := Blk.new w4 25 #[.int .i64 v1.kind, .int .i64 v1.n, .string v1.s]
    have hb35 := bthen hb4 hb5
    have hb15 := bthen hb13 hb35
    have hB5 := hB3.now hb35
    have hF5 := hF.now hb35
    clear f0 f1 f2 q0 q1 q2 q3 q4 q5
    have l3' := hG.lt
    go_upto_region 22 with fail
    generalize hw5 : w4.alloc (.cells #[.int .i64 v1.kind, .int .i64 v1.n, .string v1.s] 25) = w5 at *
    clear hw5
    obtain ⟨q0, q1, q2, q3, q4, q5⟩ := hB5.c6
    obtain ⟨f0, f1, f2⟩ := hF5.c3
    obtain ⟨g0, g1, g2⟩ := hG.c3
    cases r1 with
    | none =>
      have HR : Hid (evX vs vals x = none) := by
        show _ = _
        rw [HKEY.out]
        unfold evO
        rw [if_neg (by omega), if_neg (by omega), HG0.out]
        show (if _ then _ else _) = _
        rw [if_neg (by omega), if_neg (by omega), if_neg (by omega), if_neg (by omega), if_neg (by omega), HG1.out]
      clear f0 f1 f2 g0 g1 g2 q0 q1 q2 q3 q4 q5
      obtain ⟨⟨k0, k1, k2⟩, hS, ⟨y0, y1, y2⟩, hbS⟩ := HST.out w5 (.int .i64 0) (.int .i64 0) (.string ⟨#[]⟩) hb15
      go_wp2_with fail
      obtain ⟨t0, t1, t2⟩ := hS.c3
      refine bodyPost_ret (v := .tuple #[.agg #[.int .i64 0, .int .i64 0, .string ⟨#[]⟩], .bool false]) (by simp [results, Tryz.results46, go_sem, t0, t1, t2]) rfl ?_
      exact RetO.cast HR.out ⟨⟨0, 0, ⟨#[]⟩⟩, rfl, fun a h => (by cases h), hbS⟩

    | some c =>
      obtain rfl : v1 = c := hv1' c rfl
      have HR : Hid (evX vs vals x = numV (v0.n * v1.n)) := by
        show _ = _
        rw [HKEY.out]
        unfold evO
        rw [if_neg (by omega), if_neg (by omega), HG0.out]
        show (if _ then _ else _) = _
        rw [if_neg (by omega), if_neg (by omega), if_neg (by omega), if_neg (by omega), if_neg (by omega), HG1.out]
        show (if _ then _ else _) = _
        rw [if_neg (by omega), if_neg (by omega), if_neg (by omega), if_neg (by omega), if_neg (by omega)]
      have hn0 := h0.nums (by omega) (List.mem_of_getElem? HY.out)
      have hn1 := h0.nums (by omega) hym1
      have hr0 := num_range HVA.out.2 (HVA.out.1.trans hn0)
      have hva1 := HV1.out _ rfl
      have hr1 := num_range hva1.2 (hva1.1.trans hn1)
      clear hva1 hn0 hn1
      go_wp2_with fail
      refine (product_any v0.n v1.n _ hr0 hr1).mono ?_
      rintro e w6 ⟨tv, rfl, htv, hb6⟩
      clear f0 f1 f2 g0 g1 g2 q0 q1 q2 q3 q4 q5
      generalize numV (v0.n * v1.n) = r at *
      obtain ⟨⟨k0, k1, k2⟩, hS, ⟨y0, y1, y2⟩, hbS⟩ := HST.out w6 (.int .i64 tv.kind) (.int .i64 tv.n) (.string tv.s) (bthen hb15 hb6)
      go_wp2_with fail
      obtain ⟨t0, t1, t2⟩ := hS.c3
      refine bodyPost_ret (v := .tuple #[.agg #[.int .i64 tv.kind, .int .i64 tv.n, .string tv.s], .bool r.isSome]) (by simp [results, Tryz.results46, go_sem, t0, t1, t2]) rfl ?_
      exact RetO.cast HR.out ⟨tv, rfl, htv, hbS⟩
end Go.Proofs.YtijmnenojbfdnaaGreatDoor
