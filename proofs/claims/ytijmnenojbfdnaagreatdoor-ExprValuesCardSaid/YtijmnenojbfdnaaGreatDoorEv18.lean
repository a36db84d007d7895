/- Texts of this seat, merged. -/
import Derived.Test.YtijmnenojbfdnaaGreatDoorEv01
import Derived.Test.YtijmnenojbfdnaaGreatDoorEv02
import Derived.Test.YtijmnenojbfdnaaGreatDoorEv03
import Derived.Test.YtijmnenojbfdnaaGreatDoorEv04
import Derived.Test.YtijmnenojbfdnaaGreatDoorEv05
import Derived.Test.YtijmnenojbfdnaaGreatDoorEv06
import Derived.Test.YtijmnenojbfdnaaGreatDoorEv07
import Derived.Test.YtijmnenojbfdnaaGreatDoorEv08
import Derived.Test.YtijmnenojbfdnaaGreatDoorEv09
import Derived.Test.YtijmnenojbfdnaaGreatDoorEv10
import Derived.Test.YtijmnenojbfdnaaGreatDoorEv11
import Derived.Test.YtijmnenojbfdnaaGreatDoorEv12
import Derived.Test.YtijmnenojbfdnaaGreatDoorEv13
import Derived.Test.YtijmnenojbfdnaaGreatDoorEv14
import Derived.Test.YtijmnenojbfdnaaGreatDoorEv15
import Derived.Test.YtijmnenojbfdnaaGreatDoorEv16
import Derived.Test.YtijmnenojbfdnaaGreatDoorEv17
set_option linter.unusedSimpArgs false
set_option linter.unusedVariables false
namespace Go.Proofs.YtijmnenojbfdnaaGreatDoor
open Go.RowKit
set_option maxHeartbeats 8000000 in
set_option maxRecDepth 100000 in
theorem value_eq (n : Nat) (ih : ∀ m, m < n → EvalAt 49 m) (vs : List Var) (vals : List Val) (x : Ex) (w : World) (uv vv u : Value) (h : EvArgs n vs vals x w uv vv u) (ho : x.op = 6) : Calls Tryz.prog 49 #[uv, vv, u] w (RetO (evX vs vals x) w) := by
  have HO := Lib.hid ho
  clear ho
  have h0 := h
  obtain ⟨hvs, hvl, hx, _, _, hA⟩ := h
  obtain ⟨Av, cv, rfl, v1, v2, hvs⟩ := hvs.open_
  obtain ⟨Aw, cw, rfl, v3, v4, hvl⟩ := hvl.open_
  obtain ⟨lv, rfl, h1, h2, h3, h4⟩ := hx
  obtain ⟨A, c, rfl, l1, l2, h4⟩ := h4.open_
  have hb := bbox (bone w (.cells #[.int .i64 x.op, .int .i64 x.v.kind, .int .i64 x.v.n, .string x.v.s, .string x.s, .slice A x.l.length c] 28)) (.cells #[.int .i64 0, .int .i64 0, .string ⟨#[]⟩] 25)
  have hB := (Blk.new w 28 #[.int .i64 x.op, .int .i64 x.v.kind, .int .i64 x.v.n, .string x.v.s, .string x.s, .slice A x.l.length c]).alloc (.cells #[.int .i64 0, .int .i64 0, .string ⟨#[]⟩] 25)
  have hR := Blk.new_at (t := 25) (cs := #[.int .i64 0, .int .i64 0, .string ⟨#[]⟩]) (w := w.alloc (.cells #[.int .i64 x.op, .int .i64 x.v.kind, .int .i64 x.v.n, .string x.v.s, .string x.s, .slice A x.l.length c] 28)) (s := w.heap.size + 1) (by simp)
  have hl1 := SlE.now h4 hb
  have hv1 := hvs.now hb
  have hw1 := hvl.now hb
  clear h4 hvs hvl
  go_enter Tryz.func49, Tryz.ntmps49
  go_upto_region 1 with fail
  generalize hww : (w.alloc (.cells #[.int .i64 x.op, .int .i64 x.v.kind, .int .i64 x.v.n, .string x.v.s, .string x.s, .slice A x.l.length c] 28)).alloc (.cells #[.int .i64 0, .int .i64 0, .string ⟨#[]⟩] 25) = w1 at *
  clear hww
  have ho := HO.out
  have HST : Hid (∀ (W : World) (x y z : Value), Below w1.heap.size w1 W →
      (W.frozen? ⟨w.heap.size + 1, 0, none⟩ = false ∧ W.frozen? ⟨w.heap.size + 1, 1, none⟩ = false ∧ W.frozen? ⟨w.heap.size + 1, 2, none⟩ = false) ∧
      Blk (((W.setCell ⟨w.heap.size + 1, 0, none⟩ x).setCell ⟨w.heap.size + 1, 1, none⟩ y).setCell ⟨w.heap.size + 1, 2, none⟩ z) (w.heap.size + 1) 25 #[x, y, z] ∧
      (W.cell? ⟨w.heap.size + 1, 0, none⟩ = some (.int .i64 0) ∧ W.cell? ⟨w.heap.size + 1, 1, none⟩ = some (.int .i64 0) ∧ W.cell? ⟨w.heap.size + 1, 2, none⟩ = some (.string ⟨#[]⟩)) ∧
      Below w.heap.size w (((W.setCell ⟨w.heap.size + 1, 0, none⟩ x).setCell ⟨w.heap.size + 1, 1, none⟩ y).setCell ⟨w.heap.size + 1, 2, none⟩ z)) :=
    fun W x y z hW => ⟨⟨(hR.now hW).frozen 0, (hR.now hW).frozen 1, (hR.now hW).frozen 2⟩, (hR.now hW).set3 _ _ _, (hR.now hW).c3, bset3 (bthen hb hW) (by omega) _ _ _⟩
  obtain ⟨q0, q1, q2, q3, q4, q5⟩ := hB.c6
  have HKEY := Lib.hid (ev_key vs vals x)
  have HSL := Lib.hid (shape_len h0.shape)
  have hlen : 1 ≤ x.l.length := by have := HSL.out; omega
  obtain ⟨b, o, y, ylv, n', hn, rfl, hD, hy, hex, hfv, hsl, e0, e1, e2, e3, e4, e5⟩ := hl1.at_ (k := 0) (by omega)
  have HY := Lib.hid hy
  have hym := List.mem_of_getElem? hy
  obtain ⟨A2, c2', rfl, m1, m2, _⟩ := hsl.open_
  have hcall := Lib.hid (ih n' (by omega) vs vals y _ _ _ _ (h0.part hym hb hex))
  have HV0 := Lib.hid (fun (a : Val) (h : evX vs vals y = some a) => h0.val hym h)
  have i0 : (0 : Int) < (x.l.length : Int) := by omega
  have e0' : w1.cell? ⟨b, o, none⟩ = some (.int .i64 y.op) := by simpa using e0
  have e1' : w1.cell? ⟨b, o + 1, none⟩ = some (.int .i64 y.v.kind) := by simpa using e1
  have e2' : w1.cell? ⟨b, o + 2, none⟩ = some (.int .i64 y.v.n) := by simpa using e2
  have e3' : w1.cell? ⟨b, o + 3, none⟩ = some (.string y.v.s) := by simpa using e3
  have e4' : w1.cell? ⟨b, o + 4, none⟩ = some (.string y.s) := by simpa using e4
  have e5' : w1.cell? ⟨b, o + 5, none⟩ = some (.slice A2 y.l.length c2') := by simpa using e5
  clear hy hex hsl hfv e0 e1 e2 e3 e4 e5 hn
  go_wp2_with fail
  refine hcall.out.mono ?_
  clear hcall e0' e1' e2' e3' e4' e5'
  rintro e w2 ⟨v0, rfl, hv0, hb2⟩
  have HG0 := Lib.hid (getD_map (f := evX vs vals) HY.out)
  generalize hr0 : evX vs vals y = r0 at *
  have hb3 := bone w2 (.cells #[.int .i64 v0.kind, .int .i64 v0.n, .string v0.s] 25)
  have hF := Blk.new w2 25 #[.int .i64 v0.kind, .int .i64 v0.n, .string v0.s]
  have hb13 := bthen hb2 hb3
  have hB3 := hB.now hb13
  have hl3 := SlE.now hl1 hb13
  clear q0 q1 q2 q3 q4 q5
  have l2' := hF.lt
  go_upto_region 7 with fail
  generalize hw3 : w2.alloc (.cells #[.int .i64 v0.kind, .int .i64 v0.n, .string v0.s] 25) = w3 at *
  clear hw3
  obtain ⟨q0, q1, q2, q3, q4, q5⟩ := hB3.c6
  obtain ⟨f0, f1, f2⟩ := hF.c3
  cases r0 with
  | none =>
    have HR : Hid (evX vs vals x = none) := by
      show _ = _
      rw [HKEY.out]
      unfold evO
      rw [if_neg (by omega), if_neg (by omega), HG0.out]
    clear f0 f1 f2 q0 q1 q2 q3 q4 q5
    obtain ⟨⟨k0, k1, k2⟩, hS, ⟨y0, y1, y2⟩, hbS⟩ := HST.out w3 (.int .i64 0) (.int .i64 0) (.string ⟨#[]⟩) hb13
    go_wp2_with fail
    obtain ⟨t0, t1, t2⟩ := hS.c3
    refine bodyPost_ret (v := .tuple #[.agg #[.int .i64 0, .int .i64 0, .string ⟨#[]⟩], .bool false]) (by simp [results, Tryz.results49, go_sem, t0, t1, t2]) rfl ?_
    exact RetO.cast HR.out ⟨⟨0, 0, ⟨#[]⟩⟩, rfl, fun a h => (by cases h), hbS⟩

  | some a =>
    obtain rfl : v0 = a := hv0 a rfl
    have HVA := Lib.hid (HV0.out _ rfl)
    clear hv0
    have hli : 1 < x.l.length := by have := HSL.out; omega
    obtain ⟨b1, o1, y1, ylv, n1, hn, hA1, hD1, hy, hex, hfv, hsl, e0, e1, e2, e3, e4, e5⟩ := hl3.at_ hli
    injection hA1 with hA1
    injection hA1 with g1 g2 _
    subst g1 g2
    have HY1 := Lib.hid hy
    have hym1 := List.mem_of_getElem? hy
    obtain ⟨A2, c2', rfl, m1, m2, _⟩ := hsl.open_
    have hcall := Lib.hid (ih n1 (by omega) vs vals y1 _ _ _ _ (h0.part hym1 (bthen hb hb13) hex))
    have HV1 := Lib.hid (fun (a : Val) (h : evX vs vals y1 = some a) => h0.val hym1 h)
    have i1 : (1 : Int) < (x.l.length : Int) := by omega
    clear hy hex hsl hfv hn
    go_wp2_with fail
    refine hcall.out.mono ?_
    clear hcall e0 e1 e2 e3 e4 e5
    rintro e w4 ⟨v1, rfl, hv1', hb4⟩
    have HG1 := Lib.hid (getD_map (f := evX vs vals) HY1.out)
    generalize hr1 : evX vs vals y1 = r1 at *
    have hb5 := bone w4 (.cells #[.int .i64 v1.kind, .int .i64 v1.n, .string v1.s] 25)
    have hG := Blk.new w4 25 #[.int .i64 v1.kind, .int .i64 v1.n, .string v1.s]
    have hb35 := bthen hb4 hb5
    have hb15 := bthen hb13 hb35
    have hB5 := hB3.now hb35
    have hF5 := hF.now hb35
    clear f0 f1 f2 q0 q1 q2 q3 q4 q5
    have l3' := hG.lt
    go_upto_region 32 with fail
    generalize hw5 : w4.alloc (.cells #[.int .i64 v1.kind, .int .i64 v1.n, .string v1.s] 25) = w5 at *
    clear hw5
    obtain ⟨q0, q1, q2, q3, q4, q5⟩ := hB5.c6
    obtain ⟨f0, f1, f2⟩ := hF5.c3
    obtain ⟨g0, g1, g2⟩ := hG.c3
    cases r1 with
    | none =>
      have HR : Hid (evX vs vals x = none) := by
        show _ = _
        rw [HKEY.out]
        unfold evO
        rw [if_neg (by omega), if_neg (by omega), HG0.out]
        show (if _ then _ else _) = _
        rw [if_neg (by omega), if_neg (by omega), if_neg (by omega), if_neg (by omega), if_neg (by omega), HG1.out]
      clear f0 f1 f2 g0 g1 g2 q0 q1 q2 q3 q4 q5
      obtain ⟨⟨k0, k1, k2⟩, hS, ⟨y0, y1, y2⟩, hbS⟩ := HST.out w5 (.int .i64 0) (.int .i64 0) (.string ⟨#[]⟩) hb15
      go_wp2_with fail
      obtain ⟨t0, t1, t2⟩ := hS.c3
      refine bodyPost_ret (v := .tuple #[.agg #[.int .i64 0, .int .i64 0, .string ⟨#[]⟩], .bool false]) (by simp [results, Tryz.results49, go_sem, t0, t1, t2]) rfl ?_
      exact RetO.cast HR.out ⟨⟨0, 0, ⟨#[]⟩⟩, rfl, fun a h => (by cases h), hbS⟩

    | some c =>
      obtain rfl : v1 = c := hv1' c rfl
      have HR : Hid (evX vs vals x = some (truthV (decide (v0 = v1)))) := by
        show _ = _
        rw [HKEY.out]
        unfold evO
        rw [if_neg (by omega), if_neg (by omega), HG0.out]
        show (if _ then _ else _) = _
        rw [if_neg (by omega), if_neg (by omega), if_neg (by omega), if_neg (by omega), if_neg (by omega), HG1.out]
        show (if _ then _ else _) = _
        rw [if_pos ho]
      generalize hd : decide (v0 = v1) = d at *
      have heq := fun W => run_eqV W v0 v1
      rw [hd] at heq
      clear hd
      go_wp2_with fail
      refine (truth_ref d _).mono ?_
      rintro e w6 ⟨rfl, hb6⟩
      clear f0 f1 f2 g0 g1 g2 q0 q1 q2 q3 q4 q5
      have ev : valV (truthV d) = .agg #[.int .i64 (truthV d).kind, .int .i64 (truthV d).n, .string (truthV d).s] := rfl
      rw [ev]
      generalize truthV d = tv at *
      obtain ⟨⟨k0, k1, k2⟩, hS, ⟨y0, y1, y2⟩, hbS⟩ := HST.out w6 (.int .i64 tv.kind) (.int .i64 tv.n) (.string tv.s) (bthen hb15 hb6)
      go_wp2_with fail
      obtain ⟨t0, t1, t2⟩ := hS.c3
      refine bodyPost_ret (v := .tuple #[.agg #[.int .i64 tv.kind, .int .i64 tv.n, .string tv.s], .bool true]) (by simp [results, Tryz.results49, go_sem, t0, t1, t2]) rfl ?_
      exact RetO.cast HR.out ⟨tv, rfl, fun a h => (by injection h), hbS⟩
set_option maxHeartbeats 8000000 in
set_option maxRecDepth 100000 in
theorem value_lt (n : Nat) (ih : ∀ m, m < n → EvalAt 49 m) (vs : List Var) (vals : List Val) (x : Ex) (w : World) (uv vv u : Value) (h : EvArgs n vs vals x w uv vv u) (ho : x.op = 7) : Calls Tryz.prog 49 #[uv, vv, u] w (RetO (evX vs vals x) w) := by
  have HO := Lib.hid ho
  clear ho
  have h0 := h
  obtain ⟨hvs, hvl, hx, _, _, hA⟩ := h
  obtain ⟨Av, cv, rfl, v1, v2, hvs⟩ := hvs.open_
  obtain ⟨Aw, cw, rfl, v3, v4, hvl⟩ := hvl.open_
  obtain ⟨lv, rfl, h1, h2, h3, h4⟩ := hx
  obtain ⟨A, c, rfl, l1, l2, h4⟩ := h4.open_
  have hb := bbox (bone w (.cells #[.int .i64 x.op, .int .i64 x.v.kind, .int .i64 x.v.n, .string x.v.s, .string x.s, .slice A x.l.length c] 28)) (.cells #[.int .i64 0, .int .i64 0, .string ⟨#[]⟩] 25)
  have hB := (Blk.new w 28 #[.int .i64 x.op, .int .i64 x.v.kind, .int .i64 x.v.n, .string x.v.s, .string x.s, .slice A x.l.length c]).alloc (.cells #[.int .i64 0, .int .i64 0, .string ⟨#[]⟩] 25)
  have hR := Blk.new_at (t := 25) (cs := #[.int .i64 0, .int .i64 0, .string ⟨#[]⟩]) (w := w.alloc (.cells #[.int .i64 x.op, .int .i64 x.v.kind, .int .i64 x.v.n, .string x.v.s, .string x.s, .slice A x.l.length c] 28)) (s := w.heap.size + 1) (by simp)
  have hl1 := SlE.now h4 hb
  have hv1 := hvs.now hb
  have hw1 := hvl.now hb
  clear h4 hvs hvl
  go_enter Tryz.func49, Tryz.ntmps49
  go_upto_region 1 with fail
  generalize hww : (w.alloc (.cells #[.int .i64 x.op, .int .i64 x.v.kind, .int .i64 x.v.n, .string x.v.s, .string x.s, .slice A x.l.length c] 28)).alloc (.cells #[.int .i64 0, .int .i64 0, .string ⟨#[]⟩] 25) = w1 at *
  clear hww
  have ho := HO.out
  have HST : Hid (∀ (W : World) (x y z : Value), Below w1.heap.size w1 W →
      (W.frozen? ⟨w.heap.size + 1, 0, none⟩ = false ∧ W.frozen? ⟨w.heap.size + 1, 1, none⟩ = false ∧ W.frozen? ⟨w.heap.size + 1, 2, none⟩ = false) ∧
      Blk (((W.setCell ⟨w.heap.size + 1, 0, none⟩ x).setCell ⟨w.heap.size + 1, 1, none⟩ y).setCell ⟨w.heap.size + 1, 2, none⟩ z) (w.heap.size + 1) 25 #[x, y, z] ∧
      (W.cell? ⟨w.heap.size + 1, 0, none⟩ = some (.int .i64 0) ∧ W.cell? ⟨w.heap.size + 1, 1, none⟩ = some (.int .i64 0) ∧ W.cell? ⟨w.heap.size + 1, 2, none⟩ = some (.string ⟨#[]⟩)) ∧
      Below w.heap.size w (((W.setCell ⟨w.heap.size + 1, 0, none⟩ x).setCell ⟨w.heap.size + 1, 1, none⟩ y).setCell ⟨w.heap.size + 1, 2, none⟩ z)) :=
    fun W x y z hW => ⟨⟨(hR.now hW).frozen 0, (hR.now hW).frozen 1, (hR.now hW).frozen 2⟩, (hR.now hW).set3 _ _ _, (hR.now hW).c3, bset3 (bthen hb hW) (by omega) _ _ _⟩
  obtain ⟨q0, q1, q2, q3, q4, q5⟩ := hB.c6
  have HKEY := Lib.hid (ev_key vs vals x)
  have HSL := Lib.hid (shape_len h0.shape)
  have hlen : 1 ≤ x.l.length := by have := HSL.out; omega
  obtain ⟨b, o, y, ylv, n', hn, rfl, hD, hy, hex, hfv, hsl, e0, e1, e2, e3, e4, e5⟩ := hl1.at_ (k := 0) (by omega)
  have HY := Lib.hid hy
  have hym := List.mem_of_getElem? hy
  obtain ⟨A2, c2', rfl, m1, m2, _⟩ := hsl.open_
  have hcall := Lib.hid (ih n' (by omega) vs vals y _ _ _ _ (h0.part hym hb hex))
  have HV0 := Lib.hid (fun (a : Val) (h : evX vs vals y = some a) => h0.val hym h)
  have i0 : (0 : Int) < (x.l.length : Int) := by omega
  have e0' : w1.cell? ⟨b, o, none⟩ = some (.int .i64 y.op) := by simpa using e0
  have e1' : w1.cell? ⟨b, o + 1, none⟩ = some (.int .i64 y.v.kind) := by simpa using e1
  have e2' : w1.cell? ⟨b, o + 2, none⟩ = some (.int .i64 y.v.n) := by simpa using e2
  have e3' : w1.cell? ⟨b, o + 3, none⟩ = some (.string y.v.s) := by simpa using e3
  have e4' : w1.cell? ⟨b, o + 4, none⟩ = some (.string y.s) := by simpa using e4
  have e5' : w1.cell? ⟨b, o + 5, none⟩ = some (.slice A2 y.l.length c2') := by simpa using e5
  clear hy hex hsl hfv e0 e1 e2 e3 e4 e5 hn
  go_wp2_with fail
  refine hcall.out.mono ?_
  clear hcall e0' e1' e2' e3' e4' e5'
  rintro e w2 ⟨v0, rfl, hv0, hb2⟩
  have HG0 := Lib.hid (getD_map (f := evX vs vals) HY.out)
  generalize hr0 : evX vs vals y = r0 at *
  have hb3 := bone w2 (.cells #[.int .i64 v0.kind, .int .i64 v0.n, .string v0.s] 25)
  have hF := Blk.new w2 25 #[.int .i64 v0.kind, .int .i64 v0.n, .string v0.s]
  have hb13 := bthen hb2 hb3
  have hB3 := hB.now hb13
  have hl3 := SlE.now hl1 hb13
  clear q0 q1 q2 q3 q4 q5
  have l2' := hF.lt
  go_upto_region 7 with fail
  generalize hw3 : w2.alloc (.cells #[.int .i64 v0.kind, .int .i64 v0.n, .string v0.s] 25) = w3 at *
  clear hw3
  obtain ⟨q0, q1, q2, q3, q4, q5⟩ := hB3.c6
  obtain ⟨f0, f1, f2⟩ := hF.c3
  cases r0 with
  | none =>
    have HR : Hid (evX vs vals x = none) := by
      show _ = _
      rw [HKEY.out]
      unfold evO
      rw [if_neg (by omega), if_neg (by omega), HG0.out]
    clear f0 f1 f2 q0 q1 q2 q3 q4 q5
    obtain ⟨⟨k0, k1, k2⟩, hS, ⟨y0, y1, y2⟩, hbS⟩ := HST.out w3 (.int .i64 0) (.int .i64 0) (.string ⟨#[]⟩) hb13
    go_wp2_with fail
    obtain ⟨t0, t1, t2⟩ := hS.c3
    refine bodyPost_ret (v := .tuple #[.agg #[.int .i64 0, .int .i64 0, .string ⟨#[]⟩], .bool false]) (by simp [results, Tryz.results49, go_sem, t0, t1, t2]) rfl ?_
    exact RetO.cast HR.out ⟨⟨0, 0, ⟨#[]⟩⟩, rfl, fun a h => (by cases h), hbS⟩

  | some a =>
    obtain rfl : v0 = a := hv0 a rfl
    have HVA := Lib.hid (HV0.out _ rfl)
    clear hv0
    have hli : 1 < x.l.length := by have := HSL.out; omega
    obtain ⟨b1, o1, y1, ylv, n1, hn, hA1, hD1, hy, hex, hfv, hsl, e0, e1, e2, e3, e4, e5⟩ := hl3.at_ hli
    injection hA1 with hA1
    injection hA1 with g1 g2 _
    subst g1 g2
    have HY1 := Lib.hid hy
    have hym1 := List.mem_of_getElem? hy
    obtain ⟨A2, c2', rfl, m1, m2, _⟩ := hsl.open_
    have hcall := Lib.hid (ih n1 (by omega) vs vals y1 _ _ _ _ (h0.part hym1 (bthen hb hb13) hex))
    have HV1 := Lib.hid (fun (a : Val) (h : evX vs vals y1 = some a) => h0.val hym1 h)
    have i1 : (1 : Int) < (x.l.length : Int) := by omega
    clear hy hex hsl hfv hn
    go_wp2_with fail
    refine hcall.out.mono ?_
    clear hcall e0 e1 e2 e3 e4 e5
    rintro e w4 ⟨v1, rfl, hv1', hb4⟩
    have HG1 := Lib.hid (getD_map (f := evX vs vals) HY1.out)
    generalize hr1 : evX vs vals y1 = r1 at *
    have hb5 := bone w4 (.cells #[.int .i64 v1.kind, .int .i64 v1.n, .string v1.s] 25)
    have hG := Blk.new w4 25 #[.int .i64 v1.kind, .int .i64 v1.n, .string v1.s]
    have hb35 := bthen hb4 hb5
    have hb15 := bthen hb13 hb35
    have hB5 := hB3.now hb35
    have hF5 := hF.now hb35
    clear f0 f1 f2 q0 q1 q2 q3 q4 q5
    have l3' := hG.lt
    go_upto_region 32 with fail
    generalize hw5 : w4.alloc (.cells #[.int .i64 v1.kind, .int .i64 v1.n, .string v1.s] 25) = w5 at *
    clear hw5
    obtain ⟨q0, q1, q2, q3, q4, q5⟩ := hB5.c6
    obtain ⟨f0, f1, f2⟩ := hF5.c3
    obtain ⟨g0, g1, g2⟩ := hG.c3
    cases r1 with
    | none =>
      have HR : Hid (evX vs vals x = none) := by
        show _ = _
        rw [HKEY.out]
        unfold evO
        rw [if_neg (by omega), if_neg (by omega), HG0.out]
        show (if _ then _ else _) = _
        rw [if_neg (by omega), if_neg (by omega), if_neg (by omega), if_neg (by omega), if_neg (by omega), HG1.out]
      clear f0 f1 f2 g0 g1 g2 q0 q1 q2 q3 q4 q5
      obtain ⟨⟨k0, k1, k2⟩, hS, ⟨y0, y1, y2⟩, hbS⟩ := HST.out w5 (.int .i64 0) (.int .i64 0) (.string ⟨#[]⟩) hb15
      go_wp2_with fail
      obtain ⟨t0, t1, t2⟩ := hS.c3
      refine bodyPost_ret (v := .tuple #[.agg #[.int .i64 0, .int .i64 0, .string ⟨#[]⟩], .bool false]) (by simp [results, Tryz.results49, go_sem, t0, t1, t2]) rfl ?_
      exact RetO.cast HR.out ⟨⟨0, 0, ⟨#[]⟩⟩, rfl, fun a h => (by cases h), hbS⟩

    | some c =>
      obtain rfl : v1 = c := hv1' c rfl
      have HR : Hid (evX vs vals x = some (truthV (decide (v0.n < v1.n)))) := by
        show _ = _
        rw [HKEY.out]
        unfold evO
        rw [if_neg (by omega), if_neg (by omega), HG0.out]
        show (if _ then _ else _) = _
        rw [if_neg (by omega), if_neg (by omega), if_neg (by omega), if_neg (by omega), if_neg (by omega), HG1.out]
        show (if _ then _ else _) = _
        rw [if_neg (by omega), if_pos ho]
      generalize hd : decide (v0.n < v1.n) = d at *
      go_wp2_with fail
      refine (truth_ref d _).mono ?_
      rintro e w6 ⟨rfl, hb6⟩
      clear f0 f1 f2 g0 g1 g2 q0 q1 q2 q3 q4 q5
      have ev : valV (truthV d) = .agg #[.int .i64 (truthV d).kind, .int .i64 (truthV d).n, .string (truthV d).s] := rfl
      rw [ev]
      generalize truthV d = tv at *
      obtain ⟨⟨k0, k1, k2⟩, hS, ⟨y0, y1, y2⟩, hbS⟩ := HST.out w6 (.int .i64 tv.kind) (.int .i64 tv.n) (.string tv.s) (bthen hb15 hb6)
      go_wp2_with fail
      obtain ⟨t0, t1, t2⟩ := hS.c3
      refine bodyPost_ret (v := .tuple #[.agg #[.int .i64 tv.kind, .int .i64 tv.n, .string tv.s], .bool true]) (by simp [results, Tryz.results49, go_sem, t0, t1, t2]) rfl ?_
      exact RetO.cast HR.out ⟨tv, rfl, fun a h => (by injection h), hbS⟩
set_option maxHeartbeats 8000000 in
set_option maxRecDepth 100000 in
theorem value_le (n : Nat) (ih : ∀ m, m < n → EvalAt 49 m) (vs : List Var) (vals : List Val) (x : Ex) (w : World) (uv vv u : Value) (h : EvArgs n vs vals x w uv vv u) (ho : x.op = 8) : Calls Tryz.prog 49 #[uv, vv, u] w (RetO (evX vs vals x) w) := by
  have HO := Lib.hid ho
  clear ho
  have h0 := h
  obtain ⟨hvs, hvl, hx, _, _, hA⟩ := h
  obtain ⟨Av, cv, rfl, v1, v2, hvs⟩ := hvs.open_
  obtain ⟨Aw, cw, rfl, v3, v4, hvl⟩ := hvl.open_
  obtain ⟨lv, rfl, h1, h2, h3, h4⟩ := hx
  obtain ⟨A, c, rfl, l1, l2, h4⟩ := h4.open_
  have hb := bbox (bone w (.cells #[.int .i64 x.op, .int .i64 x.v.kind, .int .i64 x.v.n, .string x.v.s, .string x.s, .slice A x.l.length c] 28)) (.cells #[.int .i64 0, .int .i64 0, .string ⟨#[]⟩] 25)
  have hB := (Blk.new w 28 #[.int .i64 x.op, .int .i64 x.v.kind, .int .i64 x.v.n, .string x.v.s, .string x.s, .slice A x.l.length c]).alloc (.cells #[.int .i64 0, .int .i64 0, .string ⟨#[]⟩] 25)
  have hR := Blk.new_at (t := 25) (cs := #[.int .i64 0, .int .i64 0, .string ⟨#[]⟩]) (w := w.alloc (.cells #[.int .i64 x.op, .int .i64 x.v.kind, .int .i64 x.v.n, .string x.v.s, .string x.s, .slice A x.l.length c] 28)) (s := w.heap.size + 1) (by simp)
  have hl1 := SlE.now h4 hb
  have hv1 := hvs.now hb
  have hw1 := hvl.now hb
  clear h4 hvs hvl
  go_enter Tryz.func49, Tryz.ntmps49
  go_upto_region 1 with fail
  generalize hww : (w.alloc (.cells #[.int .i64 x.op, .int .i64 x.v.kind, .int .i64 x.v.n, .string x.v.s, .string x.s, .slice A x.l.length c] 28)).alloc (.cells #[.int .i64 0, .int .i64 0, .string ⟨#[]⟩] 25) = w1 at *
  clear hww
  have ho := HO.out
  have HST : Hid (∀ (W : World) (x y z : Value), Below w1.heap.size w1 W →
      (W.frozen? ⟨w.heap.size + 1, 0, none⟩ = false ∧ W.frozen? ⟨w.heap.size + 1, 1, none⟩ = false ∧ W.frozen? ⟨w.heap.size + 1, 2, none⟩ = false) ∧
      Blk (((W.setCell ⟨w.heap.size + 1, 0, none⟩ x).setCell ⟨w.heap.size + 1, 1, none⟩ y).setCell ⟨w.heap.size + 1, 2, none⟩ z) (w.heap.size + 1) 25 #[x, y, z] ∧
      (W.cell? ⟨w.heap.size + 1, 0, none⟩ = some (.int .i64 0) ∧ W.cell? ⟨w.heap.size + 1, 1, none⟩ = some (.int .i64 0) ∧ W.cell? ⟨w.heap.size + 1, 2, none⟩ = some (.string ⟨#[]⟩)) ∧
      Below w.heap.size w (((W.setCell ⟨w.heap.size + 1, 0, none⟩ x).setCell ⟨w.heap.size + 1, 1, none⟩ y).setCell ⟨w.heap.size + 1, 2, none⟩ z)) :=
    fun W x y z hW => ⟨⟨(hR.now hW).frozen 0, (hR.now hW).frozen 1, (hR.now hW).frozen 2⟩, (hR.now hW).set3 _ _ _, (hR.now hW).c3, bset3 (bthen hb hW) (by omega) _ _ _⟩
  obtain ⟨q0, q1, q2, q3, q4, q5⟩ := hB.c6
  have HKEY := Lib.hid (ev_key vs vals x)
  have HSL := Lib.hid (shape_len h0.shape)
  have hlen : 1 ≤ x.l.length := by have := HSL.out; omega
  obtain ⟨b, o, y, ylv, n', hn, rfl, hD, hy, hex, hfv, hsl, e0, e1, e2, e3, e4, e5⟩ := hl1.at_ (k := 0) (by omega)
  have HY := Lib.hid hy
  have hym := List.mem_of_getElem? hy
  obtain ⟨A2, c2', rfl, m1, m2, _⟩ := hsl.open_
  have hcall := Lib.hid (ih n' (by omega) vs vals y _ _ _ _ (h0.part hym hb hex))
  have HV0 := Lib.hid (fun (a : Val) (h : evX vs vals y = some a) => h0.val hym h)
  have i0 : (0 : Int) < (x.l.length : Int) := by omega
  have e0' : w1.cell? ⟨b, o, none⟩ = some (.int .i64 y.op) := by simpa using e0
  have e1' : w1.cell? ⟨b, o + 1, none⟩ = some (.int .i64 y.v.kind) := by simpa using e1
  have e2' : w1.cell? ⟨b, o + 2, none⟩ = some (.int .i64 y.v.n) := by simpa using e2
  have e3' : w1.cell? ⟨b, o + 3, none⟩ = some (.string y.v.s) := by simpa using e3
  have e4' : w1.cell? ⟨b, o + 4, none⟩ = some (.string y.s) := by simpa using e4
  have e5' : w1.cell? ⟨b, o + 5, none⟩ = some (.slice A2 y.l.length c2') := by simpa using e5
  clear hy hex hsl hfv e0 e1 e2 e3 e4 e5 hn
  go_wp2_with fail
  refine hcall.out.mono ?_
  clear hcall e0' e1' e2' e3' e4' e5'
  rintro e w2 ⟨v0, rfl, hv0, hb2⟩
  have HG0 := Lib.hid (getD_map (f := evX vs vals) HY.out)
  generalize hr0 : evX vs vals y = r0 at *
  have hb3 := bone w2 (.cells #[.int .i64 v0.kind, .int .i64 v0.n, .string v0.s] 25)
  have hF := Blk.new w2 25 #[.int .i64 v0.kind, .int .i64 v0.n, .string v0.s]
  have hb13 := bthen hb2 hb3
  have hB3 := hB.now hb13
  have hl3 := SlE.now hl1 hb13
  clear q0 q1 q2 q3 q4 q5
  have l2' := hF.lt
  go_upto_region 7 with fail
  generalize hw3 : w2.alloc (.cells #[.int .i64 v0.kind, .int .i64 v0.n, .string v0.s] 25) = w3 at *
  clear hw3
  obtain ⟨q0, q1, q2, q3, q4, q5⟩ := hB3.c6
  obtain ⟨f0, f1, f2⟩ := hF.c3
  cases r0 with
  | none =>
    have HR : Hid (evX vs vals x = none) := by
      show _ = _
      rw [HKEY.out]
      unfold evO
      rw [if_neg (by omega), if_neg (by omega), HG0.out]
    clear f0 f1 f2 q0 q1 q2 q3 q4 q5
    obtain ⟨⟨k0, k1, k2⟩, hS, ⟨y0, y1, y2⟩, hbS⟩ := HST.out w3 (.int .i64 0) (.int .i64 0) (.string ⟨#[]⟩) hb13
    go_wp2_with fail
    obtain ⟨t0, t1, t2⟩ := hS.c3
    refine bodyPost_ret (v := .tuple #[.agg #[.int .i64 0, .int .i64 0, .string ⟨#[]⟩], .bool false]) (by simp [results, Tryz.results49, go_sem, t0, t1, t2]) rfl ?_
    exact RetO.cast HR.out ⟨⟨0, 0, ⟨#[]⟩⟩, rfl, fun a h => (by cases h), hbS⟩

  | some a =>
    obtain rfl : v0 = a := hv0 a rfl
    have HVA := Lib.hid (HV0.out _ rfl)
    clear hv0
    have hli : 1 < x.l.length := by have := HSL.out; omega
    obtain ⟨b1, o1, y1, ylv, n1, hn, hA1, hD1, hy, hex, hfv, hsl, e0, e1, e2, e3, e4, e5⟩ := hl3.at_ hli
    injection hA1 with hA1
    injection hA1 with g1 g2 _
    subst g1 g2
    have HY1 := Lib.hid hy
    have hym1 := List.mem_of_getElem? hy
    obtain ⟨A2, c2', rfl, m1, m2, _⟩ := hsl.open_
    have hcall := Lib.hid (ih n1 (by omega) vs vals y1 _ _ _ _ (h0.part hym1 (bthen hb hb13) hex))
    have HV1 := Lib.hid (fun (a : Val) (h : evX vs vals y1 = some a) => h0.val hym1 h)
    have i1 : (1 : Int) < (x.l.length : Int) := by omega
    clear hy hex hsl hfv hn
    go_wp2_with fail
    refine hcall.out.mono ?_
    clear hcall e0 e1 e2 e3 e4 e5
    rintro e w4 ⟨v1, rfl, hv1', hb4⟩
    have HG1 := Lib.hid (getD_map (f := evX vs vals) HY1.out)
    generalize hr1 : evX vs vals y1 = r1 at *
    have hb5 := bone w4 (.cells #[.int .i64 v1.kind, .int .i64 v1.n, .string v1.s] 25)
    have hG := Blk.new w4 25 #[.int .i64 v1.kind, .int .i64 v1.n, .string v1.s]
    have hb35 := bthen hb4 hb5
    have hb15 := bthen hb13 hb35
    have hB5 := hB3.now hb35
    have hF5 := hF.now hb35
    clear f0 f1 f2 q0 q1 q2 q3 q4 q5
    have l3' := hG.lt
    go_upto_region 32 with fail
    generalize hw5 : w4.alloc (.cells #[.int .i64 v1.kind, .int .i64 v1.n, .string v1.s] 25) = w5 at *
    clear hw5
    obtain ⟨q0, q1, q2, q3, q4, q5⟩ := hB5.c6
    obtain ⟨f0, f1, f2⟩ := hF5.c3
    obtain ⟨g0, g1, g2⟩ := hG.c3
    cases r1 with
    | none =>
      have HR : Hid (evX vs vals x = none) := by
        show _ = _
        rw [HKEY.out]
        unfold evO
        rw [if_neg (by omega), if_neg (by omega), HG0.out]
        show (if _ then _ else _) = _
        rw [if_neg (by omega), if_neg (by omega), if_neg (by omega), if_neg (by omega), if_neg (by omega), HG1.out]
      clear f0 f1 f2 g0 g1 g2 q0 q1 q2 q3 q4 q5
      obtain ⟨⟨k0, k1, k2⟩, hS, ⟨y0, y1, y2⟩, hbS⟩ := HST.out w5 (.int .i64 0) (.int .i64 0) (.string ⟨#[]⟩) hb15
      go_wp2_with fail
      obtain ⟨t0, t1, t2⟩ := hS.c3
      refine bodyPost_ret (v := .tuple #[.agg #[.int .i64 0, .int .i64 0, .string ⟨#[]⟩], .bool false]) (by simp [results, Tryz.results49, go_sem, t0, t1, t2]) rfl ?_
      exact RetO.cast HR.out ⟨⟨0, 0, ⟨#[]⟩⟩, rfl, fun a h => (by cases h), hbS⟩

    | some c =>
      obtain rfl : v1 = c := hv1' c rfl
      have HR : Hid (evX vs vals x = some (truthV (decide (v0.n ≤ v1.n)))) := by
        show _ = _
        rw [HKEY.out]
        unfold evO
        rw [if_neg (by omega), if_neg (by omega), HG0.out]
        show (if _ then _ else _) = _
        rw [if_neg (by omega), if_neg (by omega), if_neg (by omega), if_neg (by omega), if_neg (by omega), HG1.out]
        show (if _ then _ else _) = _
        rw [if_neg (by omega), if_neg (by omega), if_pos ho]
      generalize hd : decide (v0.n ≤ v1.n) = d at *
      go_wp2_with fail
      refine (truth_ref d _).mono ?_
      rintro e w6 ⟨rfl, hb6⟩
      clear f0 f1 f2 g0 g1 g2 q0 q1 q2 q3 q4 q5
      have ev : valV (truthV d) = .agg #[.int .i64 (truthV d).kind, .int .i64 (truthV d).n, .string (truthV d).s] := rfl
      rw [ev]
      generalize truthV d = tv at *
      obtain ⟨⟨k0, k1, k2⟩, hS, ⟨y0, y1, y2⟩, hbS⟩ := HST.out w6 (.int .i64 tv.kind) (.int .i64 tv.n) (.string tv.s) (bthen hb15 hb6)
      go_wp2_with fail
      obtain ⟨t0, t1, t2⟩ := hS.c3
      refine bodyPost_ret (v := .tuple #[.agg #[.int .i64 tv.kind, .int .i64 tv.n, .string tv.s], .bool true]) (by simp [results, Tryz.results49, go_sem, t0, t1, t2]) rfl ?_
      exact RetO.cast HR.out ⟨tv, rfl, fun a h => (by injection h), hbS⟩
set_option maxHeartbeats 8000000 in
set_option maxRecDepth 100000 in
theorem value_add (n : Nat) (ih : ∀ m, m < n → EvalAt 49 m) (vs : List Var) (vals : List Val) (x : Ex) (w : World) (uv vv u : Value) (h : EvArgs n vs vals x w uv vv u) (ho : x.op = 9) : Calls Tryz.prog 49 #[uv, vv, u] w (RetO (evX vs vals x) w) := by
  have HO := Lib.hid ho
  clear ho
  have h0 := h
  obtain ⟨hvs, hvl, hx, _, _, hA⟩ := h
  obtain ⟨Av, cv, rfl, v1, v2, hvs⟩ := hvs.open_
  obtain ⟨Aw, cw, rfl, v3, v4, hvl⟩ := hvl.open_
  obtain ⟨lv, rfl, h1, h2, h3, h4⟩ := hx
  obtain ⟨A, c, rfl, l1, l2, h4⟩ := h4.open_
  have hb := bbox (bone w (.cells #[.int .i64 x.op, .int .i64 x.v.kind, .int .i64 x.v.n, .string x.v.s, .string x.s, .slice A x.l.length c] 28)) (.cells #[.int .i64 0, .int .i64 0, .string ⟨#[]⟩] 25)
  have hB := (Blk.new w 28 #[.int .i64 x.op, .int .i64 x.v.kind, .int .i64 x.v.n, .string x.v.s, .string x.s, .slice A x.l.length c]).alloc (.cells #[.int .i64 0, .int .i64 0, .string ⟨#[]⟩] 25)
  have hR := Blk.new_at (t := 25) (cs := #[.int .i64 0, .int .i64 0, .string ⟨#[]⟩]) (w := w.alloc (.cells #[.int .i64 x.op, .int .i64 x.v.kind, .int .i64 x.v.n, .string x.v.s, .string x.s, .slice A x.l.length c] 28)) (s := w.heap.size + 1) (by simp)
  have hl1 := SlE.now h4 hb
  have hv1 := hvs.now hb
  have hw1 := hvl.now hb
  clear h4 hvs hvl
  go_enter Tryz.func49, Tryz.ntmps49
  go_upto_region 1 with fail
  generalize hww : (w.alloc (.cells #[.int .i64 x.op, .int .i64 x.v.kind, .int .i64 x.v.n, .string x.v.s, .string x.s, .slice A x.l.length c] 28)).alloc (.cells #[.int .i64 0, .int .i64 0, .string ⟨#[]⟩] 25) = w1 at *
  clear hww
  have ho := HO.out
  have HST : Hid (∀ (W : World) (x y z : Value), Below w1.heap.size w1 W →
      (W.frozen? ⟨w.heap.size + 1, 0, none⟩ = false ∧ W.frozen? ⟨w.heap.size + 1, 1, none⟩ = false ∧ W.frozen? ⟨w.heap.size + 1, 2, none⟩ = false) ∧
      Blk (((W.setCell ⟨w.heap.size + 1, 0, none⟩ x).setCell ⟨w.heap.size + 1, 1, none⟩ y).setCell ⟨w.heap.size + 1, 2, none⟩ z) (w.heap.size + 1) 25 #[x, y, z] ∧
      (W.cell? ⟨w.heap.size + 1, 0, none⟩ = some (.int .i64 0) ∧ W.cell? ⟨w.heap.size + 1, 1, none⟩ = some (.int .i64 0) ∧ W.cell? ⟨w.heap.size + 1, 2, none⟩ = some (.string ⟨#[]⟩)) ∧
      Below w.heap.size w (((W.setCell ⟨w.heap.size + 1, 0, none⟩ x).setCell ⟨w.heap.size + 1, 1, none⟩ y).setCell ⟨w.heap.size + 1, 2, none⟩ z)) :=
    fun W x y z hW => ⟨⟨(hR.now hW).frozen 0, (hR.now hW).frozen 1, (hR.now hW).frozen 2⟩, (hR.now hW).set3 _ _ _, (hR.now hW).c3, bset3 (bthen hb hW) (by omega) _ _ _⟩
  obtain ⟨q0, q1, q2, q3, q4, q5⟩ := hB.c6
  have HKEY := Lib.hid (ev_key vs vals x)
  have HSL := Lib.hid (shape_len h0.shape)
  have hlen : 1 ≤ x.l.length := by have := HSL.out; omega
  obtain ⟨b, o, y, ylv, n', hn, rfl, hD, hy, hex, hfv, hsl, e0, e1, e2, e3, e4, e5⟩ := hl1.at_ (k := 0) (by omega)
  have HY := Lib.hid hy
  have hym := List.mem_of_getElem? hy
  obtain ⟨A2, c2', rfl, m1, m2, _⟩ := hsl.open_
  have hcall := Lib.hid (ih n' (by omega) vs vals y _ _ _ _ (h0.part hym hb hex))
  have HV0 := Lib.hid (fun (a : Val) (h : evX vs vals y = some a) => h0.val hym h)
  have i0 : (0 : Int) < (x.l.length : Int) := by omega
  have e0' : w1.cell? ⟨b, o, none⟩ = some (.int .i64 y.op) := by simpa using e0
  have e1' : w1.cell? ⟨b, o + 1, none⟩ = some (.int .i64 y.v.kind) := by simpa using e1
  have e2' : w1.cell? ⟨b, o + 2, none⟩ = some (.int .i64 y.v.n) := by simpa using e2
  have e3' : w1.cell? ⟨b, o + 3, none⟩ = some (.string y.v.s) := by simpa using e3
  have e4' : w1.cell? ⟨b, o + 4, none⟩ = some (.string y.s) := by simpa using e4
  have e5' : w1.cell? ⟨b, o + 5, none⟩ = some (.slice A2 y.l.length c2') := by simpa using e5
  clear hy hex hsl hfv e0 e1 e2 e3 e4 e5 hn
  go_wp2_with fail
  refine hcall.out.mono ?_
  clear hcall e0' e1' e2' e3' e4' e5'
  rintro e w2 ⟨v0, rfl, hv0, hb2⟩
  have HG0 := Lib.hid (getD_map (f := evX vs vals) HY.out)
  generalize hr0 : evX vs vals y = r0 at *
  have hb3 := bone w2 (.cells #[.int .i64 v0.kind, .int .i64 v0.n, .string v0.s] 25)
  have hF := Blk.new w2 25 #[.int .i64 v0.kind, .int .i64 v0.n, .string v0.s]
  have hb13 := bthen hb2 hb3
  have hB3 := hB.now hb13
  have hl3 := SlE.now hl1 hb13
  clear q0 q1 q2 q3 q4 q5
  have l2' := hF.lt
  go_upto_region 7 with fail
  generalize hw3 : w2.alloc (.cells #[.int .i64 v0.kind, .int .i64 v0.n, .string v0.s] 25) = w3 at *
  clear hw3
  obtain ⟨q0, q1, q2, q3, q4, q5⟩ := hB3.c6
  obtain ⟨f0, f1, f2⟩ := hF.c3
  cases r0 with
  | none =>
    have HR : Hid (evX vs vals x = none) := by
      show _ = _
      rw [HKEY.out]
      unfold evO
      rw [if_neg (by omega), if_neg (by omega), HG0.out]
    clear f0 f1 f2 q0 q1 q2 q3 q4 q5
    obtain ⟨⟨k0, k1, k2⟩, hS, ⟨y0, y1, y2⟩, hbS⟩ := HST.out w3 (.int .i64 0) (.int .i64 0) (.string ⟨#[]⟩) hb13
    go_wp2_with fail
    obtain ⟨t0, t1, t2⟩ := hS.c3
    refine bodyPost_ret (v := .tuple #[.agg #[.int .i64 0, .int .i64 0, .string ⟨#[]⟩], .bool false]) (by simp [results, Tryz.results49, go_sem, t0, t1, t2]) rfl ?_
    exact RetO.cast HR.out ⟨⟨0, 0, ⟨#[]⟩⟩, rfl, fun a h => (by cases h), hbS⟩

  | some a =>
    obtain rfl : v0 = a := hv0 a rfl
    have HVA := Lib.hid (HV0.out _ rfl)
    clear hv0
    have hli : 1 < x.l.length := by have := HSL.out; omega
    obtain ⟨b1, o1, y1, ylv, n1, hn, hA1, hD1, hy, hex, hfv, hsl, e0, e1, e2, e3, e4, e5⟩ := hl3.at_ hli
    injection hA1 with hA1
    injection hA1 with g1 g2 _
    subst g1 g2
    have HY1 := Lib.hid hy
    have hym1 := List.mem_of_getElem? hy
    obtain ⟨A2, c2', rfl, m1, m2, _⟩ := hsl.open_
    have hcall := Lib.hid (ih n1 (by omega) vs vals y1 _ _ _ _ (h0.part hym1 (bthen hb hb13) hex))
    have HV1 := Lib.hid (fun (a : Val) (h : evX vs vals y1 = some a) => h0.val hym1 h)
    have i1 : (1 : Int) < (x.l.length : Int) := by omega
    clear hy hex hsl hfv hn
    go_wp2_with fail
    refine hcall.out.mono ?_
    clear hcall e0 e1 e2 e3 e4 e5
    rintro e w4 ⟨v1, rfl, hv1', hb4⟩
    have HG1 := Lib.hid (getD_map (f := evX vs vals) HY1.out)
    generalize hr1 : evX vs vals y1 = r1 at *
    have hb5 := bone w4 (.cells #[.int .i64 v1.kind, .int .i64 v1.n, .string v1.s] 25)
    have hG := Blk.new w4 25 #[.int .i64 v1.kind, .int .i64 v1.n, .string v1.s]
    have hb35 := bthen hb4 hb5
    have hb15 := bthen hb13 hb35
    have hB5 := hB3.now hb35
    have hF5 := hF.now hb35
    clear f0 f1 f2 q0 q1 q2 q3 q4 q5
    have l3' := hG.lt
    go_upto_region 32 with fail
    generalize hw5 : w4.alloc (.cells #[.int .i64 v1.kind, .int .i64 v1.n, .string v1.s] 25) = w5 at *
    clear hw5
    obtain ⟨q0, q1, q2, q3, q4, q5⟩ := hB5.c6
    obtain ⟨f0, f1, f2⟩ := hF5.c3
    obtain ⟨g0, g1, g2⟩ := hG.c3
    cases r1 with
    | none =>
      have HR : Hid (evX vs vals x = none) := by
        show _ = _
        rw [HKEY.out]
        unfold evO
        rw [if_neg (by omega), if_neg (by omega), HG0.out]
        show (if _ then _ else _) = _
        rw [if_neg (by omega), if_neg (by omega), if_neg (by omega), if_neg (by omega), if_neg (by omega), HG1.out]
      clear f0 f1 f2 g0 g1 g2 q0 q1 q2 q3 q4 q5
      obtain ⟨⟨k0, k1, k2⟩, hS, ⟨y0, y1, y2⟩, hbS⟩ := HST.out w5 (.int .i64 0) (.int .i64 0) (.string ⟨#[]⟩) hb15
      go_wp2_with fail
      obtain ⟨t0, t1, t2⟩ := hS.c3
      refine bodyPost_ret (v := .tuple #[.agg #[.int .i64 0, .int .i64 0, .string ⟨#[]⟩], .bool false]) (by simp [results, Tryz.results49, go_sem, t0, t1, t2]) rfl ?_
      exact RetO.cast HR.out ⟨⟨0, 0, ⟨#[]⟩⟩, rfl, fun a h => (by cases h), hbS⟩

    | some c =>
      obtain rfl : v1 = c := hv1' c rfl
      have HR : Hid (evX vs vals x = numV (v0.n + v1.n)) := by
        show _ = _
        rw [HKEY.out]
        unfold evO
        rw [if_neg (by omega), if_neg (by omega), HG0.out]
        show (if _ then _ else _) = _
        rw [if_neg (by omega), if_neg (by omega), if_neg (by omega), if_neg (by omega), if_neg (by omega), HG1.out]
        show (if _ then _ else _) = _
        rw [if_neg (by omega), if_neg (by omega), if_neg (by omega), if_pos ho]
      have hn0 := h0.nums (by omega) (List.mem_of_getElem? HY.out)
      have hn1 := h0.nums (by omega) hym1
      have hr0 := num_range HVA.out.2 (HVA.out.1.trans hn0)
      have hva1 := HV1.out _ rfl
      have hr1 := num_range hva1.2 (hva1.1.trans hn1)
      clear hva1 hn0 hn1
      have hwr : IntKind.i64.wrap (v0.n + v1.n) = v0.n + v1.n := IntWalk.i64_in _ (by omega)
      go_wp2_with fail
      refine (enumber_ref (v0.n + v1.n) _).mono ?_
      rintro e w6 ⟨tv, rfl, htv, hb6⟩
      clear f0 f1 f2 g0 g1 g2 q0 q1 q2 q3 q4 q5
      generalize numV (v0.n + v1.n) = r at *
      obtain ⟨⟨k0, k1, k2⟩, hS, ⟨y0, y1, y2⟩, hbS⟩ := HST.out w6 (.int .i64 tv.kind) (.int .i64 tv.n) (.string tv.s) (bthen hb15 hb6)
      go_wp2_with fail
      obtain ⟨t0, t1, t2⟩ := hS.c3
      refine bodyPost_ret (v := .tuple #[.agg #[.int .i64 tv.kind, .int .i64 tv.n, .string tv.s], .bool r.isSome]) (by simp [results, Tryz.results49, go_sem, t0, t1, t2]) rfl ?_
      exact RetO.cast HR.out ⟨tv, rfl, htv, hbS⟩
set_option maxHeartbeats 8000000 in
set_option maxRecDepth 100000 in
theorem value_sub (n : Nat) (ih : ∀ m, m < n → EvalAt 49 m) (vs : List Var) (vals : List Val) (x : Ex) (w : World) (uv vv u : Value) (h : EvArgs n vs vals x w uv vv u) (ho : x.op = 10) : Calls Tryz.prog 49 #[uv, vv, u] w (RetO (evX vs vals x) w) := by
  have HO := Lib.hid ho
  clear ho
  have h0 := h
  obtain ⟨hvs, hvl, hx, _, _, hA⟩ := h
  obtain ⟨Av, cv, rfl, v1, v2, hvs⟩ := hvs.open_
  obtain ⟨Aw, cw, rfl, v3, v4, hvl⟩ := hvl.open_
  obtain ⟨lv, rfl, h1, h2, h3, h4⟩ := hx
  obtain ⟨A, c, rfl, l1, l2, h4⟩ := h4.open_
  have hb := bbox (bone w (.cells #[.int .i64 x.op, .int .i64 x.v.kind, .int .i64 x.v.n, .string x.v.s, .string x.s, .slice A x.l.length c] 28)) (.cells #[.int .i64 0, .int .i64 0, .string ⟨#[]⟩] 25)
  have hB := (Blk.new w 28 #[.int .i64 x.op, .int .i64 x.v.kind, .int .i64 x.v.n, .string x.v.s, .string x.s, .slice A x.l.length c]).alloc (.cells #[.int .i64 0, .int .i64 0, .string ⟨#[]⟩] 25)
  have hR := Blk.new_at (t := 25) (cs := #[.int .i64 0, .int .i64 0, .string ⟨#[]⟩]) (w := w.alloc (.cells #[.int .i64 x.op, .int .i64 x.v.kind, .int .i64 x.v.n, .string x.v.s, .string x.s, .slice A x.l.length c] 28)) (s := w.heap.size + 1) (by simp)
  have hl1 := SlE.now h4 hb
  have hv1 := hvs.now hb
  have hw1 := hvl.now hb
  clear h4 hvs hvl
  go_enter Tryz.func49, Tryz.ntmps49
  go_upto_region 1 with fail
  generalize hww : (w.alloc (.cells #[.int .i64 x.op, .int .i64 x.v.kind, .int .i64 x.v.n, .string x.v.s, .string x.s, .slice A x.l.length c] 28)).alloc (.cells #[.int .i64 0, .int .i64 0, .string ⟨#[]⟩] 25) = w1 at *
  clear hww
  have ho := HO.out
  have HST : Hid (∀ (W : World) (x y z : Value), Below w1.heap.size w1 W →
      (W.frozen? ⟨w.heap.size + 1, 0, none⟩ = false ∧ W.frozen? ⟨w.heap.size + 1, 1, none⟩ = false ∧ W.frozen? ⟨w.heap.size + 1, 2, none⟩ = false) ∧
      Blk (((W.setCell ⟨w.heap.size + 1, 0, none⟩ x).setCell ⟨w.heap.size + 1, 1, none⟩ y).setCell ⟨w.heap.size + 1, 2, none⟩ z) (w.heap.size + 1) 25 #[x, y, z] ∧
      (W.cell? ⟨w.heap.size + 1, 0, none⟩ = some (.int .i64 0) ∧ W.cell? ⟨w.heap.size + 1, 1, none⟩ = some (.int .i64 0) ∧ W.cell? ⟨w.heap.size + 1, 2, none⟩ = some (.string ⟨#[]⟩)) ∧
      Below w.heap.size w (((W.setCell ⟨w.heap.size + 1, 0, none⟩ x).setCell ⟨w.heap.size + 1, 1, none⟩ y).setCell ⟨w.heap.size + 1, 2, none⟩ z)) :=
    fun W x y z hW => ⟨⟨(hR.now hW).frozen 0, (hR.now hW).frozen 1, (hR.now hW).frozen 2⟩, (hR.now hW).set3 _ _ _, (hR.now hW).c3, bset3 (bthen hb hW) (by omega) _ _ _⟩
  obtain ⟨q0, q1, q2, q3, q4, q5⟩ := hB.c6
  have HKEY := Lib.hid (ev_key vs vals x)
  have HSL := Lib.hid (shape_len h0.shape)
  have hlen : 1 ≤ x.l.length := by have := HSL.out; omega
  obtain ⟨b, o, y, ylv, n', hn, rfl, hD, hy, hex, hfv, hsl, e0, e1, e2, e3, e4, e5⟩ := hl1.at_ (k := 0) (by omega)
  have HY := Lib.hid hy
  have hym := List.mem_of_getElem? hy
  obtain ⟨A2, c2', rfl, m1, m2, _⟩ := hsl.open_
  have hcall := Lib.hid (ih n' (by omega) vs vals y _ _ _ _ (h0.part hym hb hex))
  have HV0 := Lib.hid (fun (a : Val) (h : evX vs vals y = some a) => h0.val hym h)
  have i0 : (0 : Int) < (x.l.length : Int) := by omega
  have e0' : w1.cell? ⟨b, o, none⟩ = some (.int .i64 y.op) := by simpa using e0
  have e1' : w1.cell? ⟨b, o + 1, none⟩ = some (.int .i64 y.v.kind) := by simpa using e1
  have e2' : w1.cell? ⟨b, o + 2, none⟩ = some (.int .i64 y.v.n) := by simpa using e2
  have e3' : w1.cell? ⟨b, o + 3, none⟩ = some (.string y.v.s) := by simpa using e3
  have e4' : w1.cell? ⟨b, o + 4, none⟩ = some (.string y.s) := by simpa using e4
  have e5' : w1.cell? ⟨b, o + 5, none⟩ = some (.slice A2 y.l.length c2') := by simpa using e5
  clear hy hex hsl hfv e0 e1 e2 e3 e4 e5 hn
  go_wp2_with fail
  refine hcall.out.mono ?_
  clear hcall e0' e1' e2' e3' e4' e5'
  rintro e w2 ⟨v0, rfl, hv0, hb2⟩
  have HG0 := Lib.hid (getD_map (f := evX vs vals) HY.out)
  generalize hr0 : evX vs vals y = r0 at *
  have hb3 := bone w2 (.cells #[.int .i64 v0.kind, .int .i64 v0.n, .string v0.s] 25)
  have hF := Blk.new w2 25 #[.int .i64 v0.kind, .int .i64 v0.n, .string v0.s]
  have hb13 := bthen hb2 hb3
  have hB3 := hB.now hb13
  have hl3 := SlE.now hl1 hb13
  clear q0 q1 q2 q3 q4 q5
  have l2' := hF.lt
  go_upto_region 7 with fail
  generalize hw3 : w2.alloc (.cells #[.int .i64 v0.kind, .int .i64 v0.n, .string v0.s] 25) = w3 at *
  clear hw3
  obtain ⟨q0, q1, q2, q3, q4, q5⟩ := hB3.c6
  obtain ⟨f0, f1, f2⟩ := hF.c3
  cases r0 with
  | none =>
    have HR : Hid (evX vs vals x = none) := by
      show _ = _
      rw [HKEY.out]
      unfold evO
      rw [if_neg (by omega), if_neg (by omega), HG0.out]
    clear f0 f1 f2 q0 q1 q2 q3 q4 q5
    obtain ⟨⟨k0, k1, k2⟩, hS, ⟨y0, y1, y2⟩, hbS⟩ := HST.out w3 (.int .i64 0) (.int .i64 0) (.string ⟨#[]⟩) hb13
    go_wp2_with fail
    obtain ⟨t0, t1, t2⟩ := hS.c3
    refine bodyPost_ret (v := .tuple #[.agg #[.int .i64 0, .int .i64 0, .string ⟨#[]⟩], .bool false]) (by simp [results, Tryz.results49, go_sem, t0, t1, t2]) rfl ?_
    exact RetO.cast HR.out ⟨⟨0, 0, ⟨#[]⟩⟩, rfl, fun a h => (by cases h), hbS⟩

  | some a =>
    obtain rfl : v0 = a := hv0 a rfl
    have HVA := Lib.hid (HV0.out _ rfl)
    clear hv0
    have hli : 1 < x.l.length := by have := HSL.out; omega
    obtain ⟨b1, o1, y1, ylv, n1, hn, hA1, hD1, hy, hex, hfv, hsl, e0, e1, e2, e3, e4, e5⟩ := hl3.at_ hli
    injection hA1 with hA1
    injection hA1 with g1 g2 _
    subst g1 g2
    have HY1 := Lib.hid hy
    have hym1 := List.mem_of_getElem? hy
    obtain ⟨A2, c2', rfl, m1, m2, _⟩ := hsl.open_
    have hcall := Lib.hid (ih n1 (by omega) vs vals y1 _ _ _ _ (h0.part hym1 (bthen hb hb13) hex))
    have HV1 := Lib.hid (fun (a : Val) (h : evX vs vals y1 = some a) => h0.val hym1 h)
    have i1 : (1 : Int) < (x.l.length : Int) := by omega
    clear hy hex hsl hfv hn
    go_wp2_with fail
    refine hcall.out.mono ?_
    clear hcall e0 e1 e2 e3 e4 e5
    rintro e w4 ⟨v1, rfl, hv1', hb4⟩
    have HG1 := Lib.hid (getD_map (f := evX vs vals) HY1.out)
    generalize hr1 : evX vs vals y1 = r1 at *
    have hb5 := bone w4 (.cells #[.int .i64 v1.kind, .int .i64 v1.n, .string v1.s] 25)
    have hG := Blk.new w4 25 #[.int .i64 v1.kind, .int .i64 v1.n, .string v1.s]
    have hb35 := bthen hb4 hb5
    have hb15 := bthen hb13 hb35
    have hB5 := hB3.now hb35
    have hF5 := hF.now hb35
    clear f0 f1 f2 q0 q1 q2 q3 q4 q5
    have l3' := hG.lt
    go_upto_region 32 with fail
    generalize hw5 : w4.alloc (.cells #[.int .i64 v1.kind, .int .i64 v1.n, .string v1.s] 25) = w5 at *
    clear hw5
    obtain ⟨q0, q1, q2, q3, q4, q5⟩ := hB5.c6
    obtain ⟨f0, f1, f2⟩ := hF5.c3
    obtain ⟨g0, g1, g2⟩ := hG.c3
    cases r1 with
    | none =>
      have HR : Hid (evX vs vals x = none) := by
        show _ = _
        rw [HKEY.out]
        unfold evO
        rw [if_neg (by omega), if_neg (by omega), HG0.out]
        show (if _ then _ else _) = _
        rw [if_neg (by omega), if_neg (by omega), if_neg (by omega), if_neg (by omega), if_neg (by omega), HG1.out]
      clear f0 f1 f2 g0 g1 g2 q0 q1 q2 q3 q4 q5
      obtain ⟨⟨k0, k1, k2⟩, hS, ⟨y0, y1, y2⟩, hbS⟩ := HST.out w5 (.int .i64 0) (.int .i64 0) (.string ⟨#[]⟩) hb15
      go_wp2_with fail
      obtain ⟨t0, t1, t2⟩ := hS.c3
      refine bodyPost_ret (v := .tuple #[.agg #[.int .i64 0, .int .i64 0, .string ⟨#[]⟩], .bool false]) (by simp [results, Tryz.results49, go_sem, t0, t1, t2]) rfl ?_
      exact RetO.cast HR.out ⟨⟨0, 0, ⟨#[]⟩⟩, rfl, fun a h => (by cases h), hbS⟩

    | some c =>
      obtain rfl : v1 = c := hv1' c rfl
      have HR : Hid (evX vs vals x = numV (v0.n - v1.n)) := by
        show _ = _
        rw [HKEY.out]
        unfold evO
        rw [if_neg (by omega), if_neg (by omega), HG0.out]
        show (if _ then _ else _) = _
        rw [if_neg (by omega), if_neg (by omega), if_neg (by omega), if_neg (by omega), if_neg (by omega), HG1.out]
        show (if _ then _ else _) = _
        rw [if_neg (by omega), if_neg (by omega), if_neg (by omega), if_neg (by omega), if_pos ho]
      have hn0 := h0.nums (by omega) (List.mem_of_getElem? HY.out)
      have hn1 := h0.nums (by omega) hym1
      have hr0 := num_range HVA.out.2 (HVA.out.1.trans hn0)
      have hva1 := HV1.out _ rfl
      have hr1 := num_range hva1.2 (hva1.1.trans hn1)
      clear hva1 hn0 hn1
      have hwr : IntKind.i64.wrap (v0.n - v1.n) = v0.n - v1.n := IntWalk.i64_in _ (by omega)
      go_wp2_with fail
      refine (enumber_ref (v0.n - v1.n) _).mono ?_
      rintro e w6 ⟨tv, rfl, htv, hb6⟩
      clear f0 f1 f2 g0 g1 g2 q0 q1 q2 q3 q4 q5
      generalize numV (v0.n - v1.n) = r at *
      obtain ⟨⟨k0, k1, k2⟩, hS, ⟨y0, y1, y2⟩, hbS⟩ := HST.out w6 (.int .i64 tv.kind) (.int .i64 tv.n) (.string tv.s) (bthen hb15 hb6)
      go_wp2_with fail
      obtain ⟨t0, t1, t2⟩ := hS.c3
      refine bodyPost_ret (v := .tuple #[.agg #[.int .i64 tv.kind, .int .i64 tv.n, .string tv.s], .bool r.isSome]) (by simp [results, Tryz.results49, go_sem, t0, t1, t2]) rfl ?_
      exact RetO.cast HR.out ⟨tv, rfl, htv, hbS⟩
set_option maxHeartbeats 8000000 in
set_option maxRecDepth 100000 in
theorem value_mul (n : Nat) (ih : ∀ m, m < n → EvalAt 49 m) (vs : List Var) (vals : List Val) (x : Ex) (w : World) (uv vv u : Value) (h : EvArgs n vs vals x w uv vv u) (ho : x.op = 11) : Calls Tryz.prog 49 #[uv, vv, u] w (RetO (evX vs vals x) w) := by
  have HO := Lib.hid ho
  clear ho
  have h0 := h
  obtain ⟨hvs, hvl, hx, _, _, hA⟩ := h
  obtain ⟨Av, cv, rfl, v1, v2, hvs⟩ := hvs.open_
  obtain ⟨Aw, cw, rfl, v3, v4, hvl⟩ := hvl.open_
  obtain ⟨lv, rfl, h1, h2, h3, h4⟩ := hx
  obtain ⟨A, c, rfl, l1, l2, h4⟩ := h4.open_
  have hb := bbox (bone w (.cells #[.int .i64 x.op, .int .i64 x.v.kind, .int .i64 x.v.n, .string x.v.s, .string x.s, .slice A x.l.length c] 28)) (.cells #[.int .i64 0, .int .i64 0, .string ⟨#[]⟩] 25)
  have hB := (Blk.new w 28 #[.int .i64 x.op, .int .i64 x.v.kind, .int .i64 x.v.n, .string x.v.s, .string x.s, .slice A x.l.length c]).alloc (.cells #[.int .i64 0, .int .i64 0, .string ⟨#[]⟩] 25)
  have hR := Blk.new_at (t := 25) (cs := #[.int .i64 0, .int .i64 0, .string ⟨#[]⟩]) (w := w.alloc (.cells #[.int .i64 x.op, .int .i64 x.v.kind, .int .i64 x.v.n, .string x.v.s, .string x.s, .slice A x.l.length c] 28)) (s := w.heap.size + 1) (by simp)
  have hl1 := SlE.now h4 hb
  have hv1 := hvs.now hb
  have hw1 := hvl.now hb
  clear h4 hvs hvl
  go_enter Tryz.func49, Tryz.ntmps49
  go_upto_region 1 with fail
  generalize hww : (w.alloc (.cells #[.int .i64 x.op, .int .i64 x.v.kind, .int .i64 x.v.n, .string x.v.s, .string x.s, .slice A x.l.length c] 28)).alloc (.cells #[.int .i64 0, .int .i64 0, .string ⟨#[]⟩] 25) = w1 at *
  clear hww
  have ho := HO.out
  have HST : Hid (∀ (W : World) (x y z : Value), Below w1.heap.size w1 W →
      (W.frozen? ⟨w.heap.size + 1, 0, none⟩ = false ∧ W.frozen? ⟨w.heap.size + 1, 1, none⟩ = false ∧ W.frozen? ⟨w.heap.size + 1, 2, none⟩ = false) ∧
      Blk (((W.setCell ⟨w.heap.size + 1, 0, none⟩ x).setCell ⟨w.heap.size + 1, 1, none⟩ y).setCell ⟨w.heap.size + 1, 2, none⟩ z) (w.heap.size + 1) 25 #[x, y, z] ∧
      (W.cell? ⟨w.heap.size + 1, 0, none⟩ = some (.int .i64 0) ∧ W.cell? ⟨w.heap.size + 1, 1, none⟩ = some (.int .i64 0) ∧ W.cell? ⟨w.heap.size + 1, 2, none⟩ = some (.string ⟨#[]⟩)) ∧
      Below w.heap.size w (((W.setCell ⟨w.heap.size + 1, 0, none⟩ x).setCell ⟨w.heap.size + 1, 1, none⟩ y).setCell ⟨w.heap.size + 1, 2, none⟩ z)) :=
    fun W x y z hW => ⟨⟨(hR.now hW).frozen 0, (hR.now hW).frozen 1, (hR.now hW).frozen 2⟩, (hR.now hW).set3 _ _ _, (hR.now hW).c3, bset3 (bthen hb hW) (by omega) _ _ _⟩
  obtain ⟨q0, q1, q2, q3, q4, q5⟩ := hB.c6
  have HKEY := Lib.hid (ev_key vs vals x)
  have HSL := Lib.hid (shape_len h0.shape)
  have hlen : 1 ≤ x.l.length := by have := HSL.out; omega
  obtain ⟨b, o, y, ylv, n', hn, rfl, hD, hy, hex, hfv, hsl, e0, e1, e2, e3, e4, e5⟩ := hl1.at_ (k := 0) (by omega)
  have HY := Lib.hid hy
  have hym := List.mem_of_getElem? hy
  obtain ⟨A2, c2', rfl, m1, m2, _⟩ := hsl.open_
  have hcall := Lib.hid (ih n' (by omega) vs vals y _ _ _ _ (h0.part hym hb hex))
  have HV0 := Lib.hid (fun (a : Val) (h : evX vs vals y = some a) => h0.val hym h)
  have i0 : (0 : Int) < (x.l.length : Int) := by omega
  have e0' : w1.cell? ⟨b, o, none⟩ = some (.int .i64 y.op) := by simpa using e0
  have e1' : w1.cell? ⟨b, o + 1, none⟩ = some (.int .i64 y.v.kind) := by simpa using e1
  have e2' : w1.cell? ⟨b, o + 2, none⟩ = some (.int .i64 y.v.n) := by simpa using e2
  have e3' : w1.cell? ⟨b, o + 3, none⟩ = some (.string y.v.s) := by simpa using e3
  have e4' : w1.cell? ⟨b, o + 4, none⟩ = some (.string y.s) := by simpa using e4
  have e5' : w1.cell? ⟨b, o + 5, none⟩ = some (.slice A2 y.l.length c2') := by simpa using e5
  clear hy hex hsl hfv e0 e1 e2 e3 e4 e5 hn
  go_wp2_with fail
  refine hcall.out.mono ?_
  clear hcall e0' e1' e2' e3' e4' e5'
  rintro e w2 ⟨v0, rfl, hv0, hb2⟩
  have HG0 := Lib.hid (getD_map (f := evX vs vals) HY.out)
  generalize hr0 : evX vs vals y = r0 at *
  have hb3 := bone w2 (.cells #[.int .i64 v0.kind, .int .i64 v0.n, .string v0.s] 25)
  have hF := Blk.new w2 25 #[.int .i64 v0.kind, .int .i64 v0.n, .string v0.s]
  have hb13 := bthen hb2 hb3
  have hB3 := hB.now hb13
  have hl3 := SlE.now hl1 hb13
  clear q0 q1 q2 q3 q4 q5
  have l2' := hF.lt
  go_upto_region 7 with fail
  generalize hw3 : w2.alloc (.cells #[.int .i64 v0.kind, .int .i64 v0.n, .string v0.s] 25) = w3 at *
  clear hw3
  obtain ⟨q0, q1, q2, q3, q4, q5⟩ := hB3.c6
  obtain ⟨f0, f1, f2⟩ := hF.c3
  cases r0 with
  | none =>
    have HR : Hid (evX vs vals x = none) := by
      show _ = _
      rw [HKEY.out]
      unfold evO
      rw [if_neg (by omega), if_neg (by omega), HG0.out]
    clear f0 f1 f2 q0 q1 q2 q3 q4 q5
    obtain ⟨⟨k0, k1, k2⟩, hS, ⟨y0, y1, y2⟩, hbS⟩ := HST.out w3 (.int .i64 0) (.int .i64 0) (.string ⟨#[]⟩) hb13
    go_wp2_with fail
    obtain ⟨t0, t1, t2⟩ := hS.c3
    refine bodyPost_ret (v := .tuple #[.agg #[.int .i64 0, .int .i64 0, .string ⟨#[]⟩], .bool false]) (by simp [results, Tryz.results49, go_sem, t0, t1, t2]) rfl ?_
    exact RetO.cast HR.out ⟨⟨0, 0, ⟨#[]⟩⟩, rfl, fun a h => (by cases h), hbS⟩

  | some a =>
    obtain rfl : v0 = a := hv0 a rfl
    have HVA := Lib.hid (HV0.out _ rfl)
    clear hv0
    have hli : 1 < x.l.length := by have := HSL.out; omega
    obtain ⟨b1, o1, y1, ylv, n1, hn, hA1, hD1, hy, hex, hfv, hsl, e0, e1, e2, e3, e4, e5⟩ := hl3.at_ hli
    injection hA1 with hA1
    injection hA1 with g1 g2 _
    subst g1 g2
    have HY1 := Lib.hid hy
    have hym1 := List.mem_of_getElem? hy
    obtain ⟨A2, c2', rfl, m1, m2, _⟩ := hsl.open_
    have hcall := Lib.hid (ih n1 (by omega) vs vals y1 _ _ _ _ (h0.part hym1 (bthen hb hb13) hex))
    have HV1 := Lib.hid (fun (a : Val) (h : evX vs vals y1 = some a) => h0.val hym1 h)
    have i1 : (1 : Int) < (x.l.length : Int) := by omega
    clear hy hex hsl hfv hn
    go_wp2_with fail
    refine hcall.out.mono ?_
    clear hcall e0 e1 e2 e3 e4 e5
    rintro e w4 ⟨v1, rfl, hv1', hb4⟩
    have HG1 := Lib.hid (getD_map (f := evX vs vals) HY1.out)
    generalize hr1 : evX vs vals y1 = r1 at *
    have hb5 := bone w4 (.cells #[.int .i64 v1.kind, .int .i64 v1.n, .string v1.s] 25)
    have hG := Blk.new w4 25 #[.int .i64 v1.kind, .int .i64 v1.n, .string v1.s]
    have hb35 := bthen hb4 hb5
    have hb15 := bthen hb13 hb35
    have hB5 := hB3.now hb35
    have hF5 := hF.now hb35
    clear f0 f1 f2 q0 q1 q2 q3 q4 q5
    have l3' := hG.lt
    go_upto_region 32 with fail
    generalize hw5 : w4.alloc (.cells #[.int .i64 v1.kind, .int .i64 v1.n, .string v1.s] 25) = w5 at *
    clear hw5
    obtain ⟨q0, q1, q2, q3, q4, q5⟩ := hB5.c6
    obtain ⟨f0, f1, f2⟩ := hF5.c3
    obtain ⟨g0, g1, g2⟩ := hG.c3
    cases r1 with
    | none =>
      have HR : Hid (evX vs vals x = none) := by
        show _ = _
        rw [HKEY.out]
        unfold evO
        rw [if_neg (by omega), if_neg (by omega), HG0.out]
        show (if _ then _ else _) = _
        rw [if_neg (by omega), if_neg (by omega), if_neg (by omega), if_neg (by omega), if_neg (by omega), HG1.out]
      clear f0 f1 f2 g0 g1 g2 q0 q1 q2 q3 q4 q5
      obtain ⟨⟨k0, k1, k2⟩, hS, ⟨y0, y1, y2⟩, hbS⟩ := HST.out w5 (.int .i64 0) (.int .i64 0) (.string ⟨#[]⟩) hb15
      go_wp2_with fail
      obtain ⟨t0, t1, t2⟩ := hS.c3
      refine bodyPost_ret (v := .tuple #[.agg #[.int .i64 0, .int .i64 0, .string ⟨#[]⟩], .bool false]) (by simp [results, Tryz.results49, go_sem, t0, t1, t2]) rfl ?_
      exact RetO.cast HR.out ⟨⟨0, 0, ⟨#[]⟩⟩, rfl, fun a h => (by cases h), hbS⟩

    | some c =>
      obtain rfl : v1 = c := hv1' c rfl
      have HR : Hid (evX vs vals x = numV (v0.n * v1.n)) := by
        show _ = _
        rw [HKEY.out]
        unfold evO
        rw [if_neg (by omega), if_neg (by omega), HG0.out]
        show (if _ then _ else _) = _
        rw [if_neg (by omega), if_neg (by omega), if_neg (by omega), if_neg (by omega), if_neg (by omega), HG1.out]
        show (if _ then _ else _) = _
        rw [if_neg (by omega), if_neg (by omega), if_neg (by omega), if_neg (by omega), if_neg (by omega)]
      have hn0 := h0.nums (by omega) (List.mem_of_getElem? HY.out)
      have hn1 := h0.nums (by omega) hym1
      have hr0 := num_range HVA.out.2 (HVA.out.1.trans hn0)
      have hva1 := HV1.out _ rfl
      have hr1 := num_range hva1.2 (hva1.1.trans hn1)
      clear hva1 hn0 hn1
      go_wp2_with fail
      refine (times_ref v0.n v1.n _ hr0 hr1).mono ?_
      rintro e w6 ⟨tv, rfl, htv, hb6⟩
      clear f0 f1 f2 g0 g1 g2 q0 q1 q2 q3 q4 q5
      generalize numV (v0.n * v1.n) = r at *
      obtain ⟨⟨k0, k1, k2⟩, hS, ⟨y0, y1, y2⟩, hbS⟩ := HST.out w6 (.int .i64 tv.kind) (.int .i64 tv.n) (.string tv.s) (bthen hb15 hb6)
      go_wp2_with fail
      obtain ⟨t0, t1, t2⟩ := hS.c3
      refine bodyPost_ret (v := .tuple #[.agg #[.int .i64 tv.kind, .int .i64 tv.n, .string tv.s], .bool r.isSome]) (by simp [results, Tryz.results49, go_sem, t0, t1, t2]) rfl ?_
      exact RetO.cast HR.out ⟨tv, rfl, htv, hbS⟩
theorem value_ref : ∀ n, EvalAt 49 n := by
  intro n
  induction n using Nat.strongRecOn with
  | _ n ih =>
    intro vs vals x w uv vv u h
    obtain ⟨_, _, _, _, _, _, o1, o2⟩ := shape_len h.shape
    rcases (show x.op = 1 ∨ x.op = 2 ∨ x.op = 3 ∨ x.op = 4 ∨ x.op = 5 ∨ x.op = 6 ∨ x.op = 7 ∨ x.op = 8 ∨ x.op = 9 ∨ x.op = 10 ∨ x.op = 11 ∨ x.op = 12 ∨ x.op = 13 by omega) with ho | ho | ho | ho | ho | ho | ho | ho | ho | ho | ho | ho | ho
    · exact value_const n vs vals x w uv vv u h ho
    · exact value_var n vs vals x w uv vv u h ho
    · exact value_not n ih vs vals x w uv vv u h ho
    · exact value_and n ih vs vals x w uv vv u h ho
    · exact value_or n ih vs vals x w uv vv u h ho
    · exact value_eq n ih vs vals x w uv vv u h ho
    · exact value_lt n ih vs vals x w uv vv u h ho
    · exact value_le n ih vs vals x w uv vv u h ho
    · exact value_add n ih vs vals x w uv vv u h ho
    · exact value_sub n ih vs vals x w uv vv u h ho
    · exact value_mul n ih vs vals x w uv vv u h ho
    · exact value_if n ih vs vals x w uv vv u h ho
    · exact value_in n ih vs vals x w uv vv u h ho
end Go.Proofs.YtijmnenojbfdnaaGreatDoor

namespace Go.Proofs.YtijmnenojbfdnaaGreatDoor
open Go.RowKit
set_option maxHeartbeats 4000000 in
set_option maxRecDepth 100000 in
theorem evalE_ref (n : Nat) (vs : List Var) (vals : List Val) (x : Ex) (w : World) (uv vv u : Value) (hvs : SlX (Lt w.heap.size) w uv vs) (hvl : SlV (Lt w.heap.size) w vv vals) (hx : IsEx n (Lt w.heap.size) w u x) :
    Calls Tryz.prog 16 #[uv, vv, u] w (RetVE1 (evalE vs vals x) w) := by
  have hxx := hx
  obtain ⟨Av, cv, rfl, v1, v2, hvs⟩ := hvs.open_
  obtain ⟨Aw, cw, rfl, v3, v4, hvl⟩ := hvl.open_
  obtain ⟨lv, rfl, h1, h2, h3, h4⟩ := hx
  obtain ⟨A, c, rfl, l1, l2, h4⟩ := h4.open_
  have hb := bbox (bone w (.cells #[.int .i64 x.op, .int .i64 x.v.kind, .int .i64 x.v.n, .string x.v.s, .string x.s, .slice A x.l.length c] 28)) (.cells #[.int .i64 0, .int .i64 0, .string ⟨#[]⟩] 25)
  have hB := (Blk.new w 28 #[.int .i64 x.op, .int .i64 x.v.kind, .int .i64 x.v.n, .string x.v.s, .string x.s, .slice A x.l.length c]).alloc (.cells #[.int .i64 0, .int .i64 0, .string ⟨#[]⟩] 25)
  have hR := Blk.new_at (t := 25) (cs := #[.int .i64 0, .int .i64 0, .string ⟨#[]⟩]) (w := w.alloc (.cells #[.int .i64 x.op, .int .i64 x.v.kind, .int .i64 x.v.n, .string x.v.s, .string x.s, .slice A x.l.length c] 28)) (s := w.heap.size + 1) (by simp)
  have hx1 := hxx.now hb
  have hv1 := hvs.now hb
  have hw1 := hvl.now hb
  clear h4 hvs hvl hxx
  have HE : Hid (evalE vs vals x = if (givenE vs x).2 ≠ 0 then (noV, (givenE vs x).2)
    else if (inAllE vs vals).2 = 0 ∧ (inAllE vs vals).1 = true then (match evX vs vals x with | some a => (a, 0) | none => (noV, 6)) else (noV, 11)) := rfl
  go_enter Tryz.func16, Tryz.ntmps16
  go_upto_region 1 with fail
  generalize hww : (w.alloc (.cells #[.int .i64 x.op, .int .i64 x.v.kind, .int .i64 x.v.n, .string x.v.s, .string x.s, .slice A x.l.length c] 28)).alloc (.cells #[.int .i64 0, .int .i64 0, .string ⟨#[]⟩] 25) = w1 at *
  clear hww
  have HST : Hid (∀ (W : World) (x y z : Value), Below w1.heap.size w1 W →
      (W.frozen? ⟨w.heap.size + 1, 0, none⟩ = false ∧ W.frozen? ⟨w.heap.size + 1, 1, none⟩ = false ∧ W.frozen? ⟨w.heap.size + 1, 2, none⟩ = false) ∧
      Blk (((W.setCell ⟨w.heap.size + 1, 0, none⟩ x).setCell ⟨w.heap.size + 1, 1, none⟩ y).setCell ⟨w.heap.size + 1, 2, none⟩ z) (w.heap.size + 1) 25 #[x, y, z] ∧
      (W.cell? ⟨w.heap.size + 1, 0, none⟩ = some (.int .i64 0) ∧ W.cell? ⟨w.heap.size + 1, 1, none⟩ = some (.int .i64 0) ∧ W.cell? ⟨w.heap.size + 1, 2, none⟩ = some (.string ⟨#[]⟩)) ∧
      Below w.heap.size w (((W.setCell ⟨w.heap.size + 1, 0, none⟩ x).setCell ⟨w.heap.size + 1, 1, none⟩ y).setCell ⟨w.heap.size + 1, 2, none⟩ z)) :=
    fun W x y z hW => ⟨⟨(hR.now hW).frozen 0, (hR.now hW).frozen 1, (hR.now hW).frozen 2⟩, (hR.now hW).set3 _ _ _, (hR.now hW).c3, bset3 (bthen hb hW) (by omega) _ _ _⟩
  obtain ⟨q0, q1, q2, q3, q4, q5⟩ := hB.c6
  go_wp2_with fail
  (with_reducible refine (fault_ref n vs x _ _ _ hv1 hx1).mono ?_)
  rintro e w2 ⟨rfl, _, hb2⟩
  by_cases hg : (givenE vs x).2 = 0
  · obtain ⟨hvx, hvv, hty⟩ := given_ok hg
    rw [hg]
    have HG := Lib.hid hg
    have HTY := Lib.hid hty
    have HOK := Lib.hid (valid_ok hvx)
    have HVV := Lib.hid hvv
    have HVA := Lib.hid (validAll_ref vals _ _ (hw1.now hb2))
    generalize (givenE vs x).1 = gk at *
    clear hg hvx hvv hty
    go_wp2_with fail
    (with_reducible refine HVA.out.mono ?_)
    rintro e w3 ⟨rfl, hb3⟩
    clear HVA
    have hb13 := bthen hb2 hb3
    have hx3 := hx1.now hb13
    have hv3 := hv1.now hb13
    have hw3 := hw1.now hb13
    have hB3 := hB.now hb13
    clear q0 q1 q2 q3 q4 q5
    obtain ⟨q0, q1, q2, q3, q4, q5⟩ := hB3.c6
    cases hva : vals.all validV
    · have HR : Hid (evalE vs vals x = (noV, 11)) := by
        show _ = _
        rw [HE.out, if_neg (by rw [HG.out]; simp), if_neg (by unfold inAllE okB; rw [hva]; simp)]
      obtain ⟨⟨k0, k1, k2⟩, hS, ⟨y0, y1, y2⟩, hbS⟩ := HST.out w3 (.int .i64 0) (.int .i64 0) (.string ⟨#[]⟩) hb13
      clear hva
      go_wp2_with fail
      obtain ⟨t0, t1, t2⟩ := hS.c3
      refine bodyPost_ret (v := .tuple #[.agg #[.int .i64 0, .int .i64 0, .string ⟨#[]⟩], .int .i64 11]) (by simp [results, Tryz.results16, go_sem, t0, t1, t2]) rfl ?_
      exact ⟨by rw [HR.out]; rfl, hbS⟩
    · have hok : Hid (okB vs vals = true) := by show _ = _; unfold okB; rw [HVV.out, hva]; rfl
      have HIA := Lib.hid (inAll_ref vs vals _ _ _ hv3 hw3 HVV.out)
      clear hva
      go_wp2_with fail
      (with_reducible refine HIA.out.mono ?_)
      rintro e w4 ⟨rfl, hb4⟩
      clear HIA
      have hb14 := bthen hb13 hb4
      have hx4 := hx3.now hb4
      have hv4 := hv3.now hb4
      have hw4 := hw3.now hb4
      have hB4 := hB3.now hb4
      clear q0 q1 q2 q3 q4 q5
      obtain ⟨q0, q1, q2, q3, q4, q5⟩ := hB4.c6
      have HIN : Hid (inAllE vs vals = (assignedB vs vals, 0)) := by show _ = _; unfold inAllE; rw [hok.out, if_pos rfl]
      cases has : assignedB vs vals
      · have HR : Hid (evalE vs vals x = (noV, 11)) := by
          show _ = _
          rw [HE.out, if_neg (by rw [HG.out]; simp), HIN.out, has, if_neg (by simp)]
        obtain ⟨⟨k0, k1, k2⟩, hS, ⟨y0, y1, y2⟩, hbS⟩ := HST.out w4 (.int .i64 0) (.int .i64 0) (.string ⟨#[]⟩) hb14
        clear has hx1 hx3 hx4 hv1 hv3 hv4 hw1 hw3 hw4
        go_wp2_with fail
        obtain ⟨t0, t1, t2⟩ := hS.c3
        refine bodyPost_ret (v := .tuple #[.agg #[.int .i64 0, .int .i64 0, .string ⟨#[]⟩], .int .i64 11]) (by simp [results, Tryz.results16, go_sem, t0, t1, t2]) rfl ?_
        exact ⟨by rw [HR.out]; rfl, hbS⟩
      · have hin : (inAllE vs vals).2 = 0 ∧ (inAllE vs vals).1 = true := by rw [HIN.out, has]; exact ⟨rfl, rfl⟩
        have HE2 : Hid (evalE vs vals x = match evX vs vals x with | some a => (a, 0) | none => (noV, 6)) := by
          show _ = _
          rw [HE.out, if_neg (by rw [HG.out]; simp), if_pos hin]
        have hcall := Lib.hid (value_ref n vs vals x w4 _ _ _ ⟨hv4, hw4, hx4, HOK.out, HTY.out, asg_of hin⟩)
        clear has hin hx1 hx3 hx4 hv1 hv3 hv4 hw1 hw3 hw4
        go_wp2_with fail
        (with_reducible refine hcall.out.mono ?_)
        rintro e w5 ⟨v, rfl, hv, hb5⟩
        have hb6 := bone w5 (.cells #[.int .i64 v.kind, .int .i64 v.n, .string v.s] 25)
        have hF := Blk.new w5 25 #[.int .i64 v.kind, .int .i64 v.n, .string v.s]
        have hb16 := bthen hb14 (bthen hb5 hb6)
        have l5 := hF.lt
        clear q0 q1 q2 q3 q4 q5
        go_upto_region 7 with fail
        generalize hw5 : w5.alloc (.cells #[.int .i64 v.kind, .int .i64 v.n, .string v.s] 25) = w6 at *
        clear hw5
        obtain ⟨f0, f1, f2⟩ := hF.c3
        generalize evX vs vals x = r at *
        cases r with
        | none =>
          have HR : Hid (evalE vs vals x = (noV, 6)) := HE2.out
          clear f0 f1 f2
          obtain ⟨⟨k0, k1, k2⟩, hS, ⟨y0, y1, y2⟩, hbS⟩ := HST.out w6 (.int .i64 0) (.int .i64 0) (.string ⟨#[]⟩) hb16
          go_wp2_with fail
          obtain ⟨t0, t1, t2⟩ := hS.c3
          refine bodyPost_ret (v := .tuple #[.agg #[.int .i64 0, .int .i64 0, .string ⟨#[]⟩], .int .i64 6]) (by simp [results, Tryz.results16, go_sem, t0, t1, t2]) rfl ?_
          exact ⟨by rw [HR.out]; rfl, hbS⟩
        | some a =>
          obtain rfl : v = a := hv a rfl
          have HR : Hid (evalE vs vals x = (v, 0)) := HE2.out
          obtain ⟨⟨k0, k1, k2⟩, hS, ⟨y0, y1, y2⟩, hbS⟩ := HST.out w6 (.int .i64 v.kind) (.int .i64 v.n) (.string v.s) hb16
          go_wp2_with fail
          obtain ⟨t0, t1, t2⟩ := hS.c3
          refine bodyPost_ret (v := .tuple #[.agg #[.int .i64 v.kind, .int .i64 v.n, .string v.s], .int .i64 0]) (by simp [results, Tryz.results16, go_sem, t0, t1, t2]) rfl ?_
          exact ⟨by rw [HR.out], hbS⟩
  · have HR : Hid (evalE vs vals x = (noV, (givenE vs x).2)) := by show _ = _; rw [HE.out, if_pos hg]
    have b1 : ((givenE vs x).2 != 0) = true := by simpa using hg
    clear hx1 hv1 hw1 HE hg
    generalize (givenE vs x).2 = z at *
    generalize (givenE vs x).1 = gk at *
    obtain ⟨⟨k0, k1, k2⟩, hS, ⟨y0, y1, y2⟩, hbS⟩ := HST.out w2 (.int .i64 0) (.int .i64 0) (.string ⟨#[]⟩) hb2
    go_wp2_with fail
    obtain ⟨t0, t1, t2⟩ := hS.c3
    refine bodyPost_ret (v := .tuple #[.agg #[.int .i64 0, .int .i64 0, .string ⟨#[]⟩], .int .i64 z]) (by simp [results, Tryz.results16, go_sem, t0, t1, t2]) rfl ?_
    exact ⟨by rw [HR.out]; rfl, hbS⟩
end Go.Proofs.YtijmnenojbfdnaaGreatDoor

namespace Go.Proofs.YtijmnenojbfdnaaGreatDoor
open Go.RowKit
def RetTr (w : World) (e : Ending) (w' : World) : Prop := e = .returned (.bool true) ∧ Below w.heap.size w w'
abbrev exC6 (x : Ex) (Ax : Option Addr) (cx : Nat) : Array Value := #[.int .i64 x.op, .int .i64 x.v.kind, .int .i64 x.v.n, .string x.v.s, .string x.s, .slice Ax x.l.length cx]
theorem ex_one {n : Nat} {x : Ex} {Ax : Option Addr} {cx : Nat} {w : World} (hx : IsEx n (Lt w.heap.size) w (exV x (.slice Ax x.l.length cx)) x) :
    SlE (n + 1) (Lt (w.alloc (.cells (exC6 x Ax cx) 28)).heap.size) (w.alloc (.cells (exC6 x Ax cx) 28)) (.slice (some ⟨w.heap.size, 0, none⟩) 1 1) [x] := by
  have hb := bone w (.cells (exC6 x Ax cx) 28)
  have hx1 := hx.now hb
  refine Sl.ofBlk (R := RExN (n + 1)) (size := 6) (xs := [x]) (cs := (exC6 x Ax cx).toList) (Blk.new w 28 _) (by unfold maxLen; show 1 ≤ _; decide) (fun i y hy => ?_)
  match i, hy with
  | 0, hy =>
    injection hy with hy; subst hy
    exact ⟨(exC6 x Ax cx).toList, rfl, fun j u hu => by simpa using hu, isEx_cells hx1⟩
  | i + 1, hy => simp at hy
theorem vals1_any (v : Val) (w : World) : Calls Tryz.prog 12 #[valV v] w fun e w' => e = .returned (.bool (decide (300 < (v.s.size : Int)))) ∧ Below w.heap.size w w' := by
  have hb := bone w (.cells #[.int .i64 v.kind, .int .i64 v.n, .string v.s] 25)
  unfold valV
  go_enter Tryz.func12, Tryz.ntmps12
  go_wp2_with fail
  go_ret
  exact ⟨rfl, hb⟩
set_option maxHeartbeats 2000000 in
set_option maxRecDepth 100000 in
theorem exprValues_law {n : Nat} (l : List Var) (vs : List Val) (x : Ex) (u v ux : Value) (w : World) (hl : SlX (Lt w.heap.size) w u l) (hv : SlV (Lt w.heap.size) w v vs) (hx : IsEx n (Lt w.heap.size) w ux x) (ha : Amb w) :
    Calls Tryz.prog 3 #[u, v, ux] w (RetTr w) := by
  have hxx := hx
  have eg : ∀ args w, (callFunc 12 args).run Tryz.prog w = .ok (.enter 12 args) w := enters_of Tryz.func12 (by kernel_rfl) rfl
  obtain ⟨A, c, rfl, h1, h2, hl⟩ := hl.open_
  obtain ⟨Av, cv, rfl, v1, v2, hv⟩ := hv.open_
  obtain ⟨lv, rfl, _, Ax, cx, rfl⟩ := hx.cells
  have hb1 := bone w (.cells (exC6 x Ax cx) 28)
  have hN1 := Blk.new w 28 (exC6 x Ax cx)
  have hx1 := hxx.now hb1
  have hl1 := hl.now hb1
  have hv1 := hv.now hb1
  have HAW := Lib.hid (exAwake_any _ (ha.now hb1))
  clear hx hxx hl hv
  go_enter Tryz.func3, Tryz.ntmps3
  go_wp2_with fail
  (with_reducible refine HAW.out.mono ?_)
  rintro e w2 ⟨rfl, hb2⟩
  have hN2 := hN1.now hb2
  have hx2 := hx1.now hb2
  have hl2 := hl1.now hb2
  have hv2 := hv1.now hb2
  have hb2w := bthen hb1 hb2
  clear HAW hN1 hx1 hl1 hv1
  obtain ⟨n0, n1, n2, n3, n4, n5⟩ := hN2.c6
  have hb3 := bone w2 (.cells (exC6 x Ax cx) 28)
  have hb3w := bthen hb2w hb3
  have HSM := Lib.hid (small_any _ _ _ _ (ex_one hx2))
  have hN3 := hN2.now hb3
  have hx3 := hx2.now hb3
  have hl3 := hl2.now hb3
  have hv3 := hv2.now hb3
  go_wp2_with fail
  (with_reducible refine HSM.out.mono ?_)
  rintro e w4 ⟨q, rfl, hb4⟩
  have hN4 := hN3.now hb4
  have hx4 := hx3.now hb4
  have hl4 := hl3.now hb4
  have hv4 := hv3.now hb4
  have hb4w := bthen hb3w hb4
  clear HSM hN2 hx2 hl2 hv2 hN3 hx3 hl3 hv3 n0 n1 n2 n3 n4 n5 hb1 hb2 hb2w hb3 hb3w hb4
  cases q
  · go_wp2_with fail
    go_ret
    exact ⟨rfl, hb4w⟩
  have HLI := Lib.hid (list_any l _ _ hl4)
  go_wp2_with fail
  (with_reducible refine HLI.out.mono ?_)
  rintro e w5 ⟨q, rfl, hq, hb5⟩
  have hN5 := hN4.now hb5
  have hx5 := hx4.now hb5
  have hl5 := hl4.now hb5
  have hv5 := hv4.now hb5
  have hb5w := bthen hb4w hb5
  clear HLI hN4 hx4 hl4 hv4 hb4w hb5
  cases q
  · go_wp2_with fail
    go_ret
    exact ⟨rfl, hb5w⟩
  have hl10 := hq rfl
  clear hq
  by_cases h12 : 12 < vs.length
  · go_wp2_with fail
    go_ret
    exact ⟨rfl, hb5w⟩
  have HCF := Lib.hid (containsFuncV 12 eg _ vs (fun v => decide (300 < (v.s.size : Int))) _ hv5 (fun v W _ _ _ => vals1_any v W))
  generalize vs.any _ = q at HCF
  go_wp2_with fail
  (with_reducible refine HCF.out.mono ?_)
  rintro e w6 ⟨rfl, hb6⟩
  have hN6 := hN5.now hb6
  have hx6 := hx5.now hb6
  have hl6 := hl5.now hb6
  have hv6 := hv5.now hb6
  have hb6w := bthen hb5w hb6
  clear HCF hN5 hx5 hl5 hv5 hb5w hb6
  cases q
  rotate_left
  · go_wp2_with fail
    go_ret
    exact ⟨rfl, hb6w⟩
  obtain ⟨n0, n1, n2, n3, n4, n5⟩ := hN6.c6
  have HTY := Lib.hid (type_any _ l x _ _ _ hl6 hx6 (by omega))
  go_wp2_with fail
  (with_reducible refine HTY.out.mono ?_)
  rintro e w7 ⟨rfl, _, hb7⟩
  have hN7 := hN6.now hb7
  have hx7 := hx6.now hb7
  have hl7 := hl6.now hb7
  have hv7 := hv6.now hb7
  have hb7w := bthen hb6w hb7
  clear HTY hN6 hx6 hl6 hv6 hb6w hb7 n0 n1 n2 n3 n4 n5
  obtain ⟨n0, n1, n2, n3, n4, n5⟩ := hN7.c6
  have HTY := Lib.hid (typed_ref _ l x _ _ _ hl7 hx7)
  go_wp2_with fail
  (with_reducible refine HTY.out.mono ?_)
  rintro e w8 ⟨rfl, _, hb8⟩
  have hN8 := hN7.now hb8
  have hx8 := hx7.now hb8
  have hl8 := hl7.now hb8
  have hv8 := hv7.now hb8
  have hb8w := bthen hb7w hb8
  clear HTY hN7 hx7 hl7 hv7 hb7w hb8 n0 n1 n2 n3 n4 n5
  obtain ⟨n0, n1, n2, n3, n4, n5⟩ := hN8.c6
  have HEV := Lib.hid (evalE_any _ l vs x _ _ _ _ hl8 hv8 hx8 (by omega))
  have hne : ∀ W, (binOp .eql 25 (.agg #[.int .i64 (evalE l vs x).1.kind, .int .i64 (evalE l vs x).1.n, .string (evalE l vs x).1.s]) (.agg #[.int .i64 (evalE l vs x).1.kind, .int .i64 (evalE l vs x).1.n, .string (evalE l vs x).1.s])).run Tryz.prog W = .ok (.bool true) W := fun W => by
    have := run_eqV W (evalE l vs x).1 (evalE l vs x).1
    rw [decide_eq_true rfl] at this
    exact this
  have HEVR : Hid (∀ W, SlX (Lt W.heap.size) W (.slice A l.length c) l → SlV (Lt W.heap.size) W (.slice Av vs.length cv) vs → IsEx n (Lt W.heap.size) W (exV x (.slice Ax x.l.length cx)) x → Calls Tryz.prog 16 #[.slice A l.length c, .slice Av vs.length cv, exV x (.slice Ax x.l.length cx)] W (RetVE1 (evalE l vs x) W)) := fun W a b c => evalE_ref _ l vs x _ _ _ _ a b c
  generalize givenE l x = gv at *
  generalize evalE l vs x = ev at *
  obtain ⟨⟨ek, en, es⟩, ee⟩ := ev
  obtain ⟨gk, ge⟩ := gv
  go_wp2_with fail
  (with_reducible refine HEV.out.mono ?_)
  rintro e w9 ⟨rfl, hb9⟩
  have hN9 := hN8.now hb9
  have hx9 := hx8.now hb9
  have hl9 := hl8.now hb9
  have hv9 := hv8.now hb9
  have hb9w := bthen hb8w hb9
  clear HEV hN8 hx8 hl8 hv8 hb8w hb9 n0 n1 n2 n3 n4 n5
  have hb10 := bone w9 (.cells #[.int .i64 ek, .int .i64 en, .string es] 25)
  have hE10 := Blk.new w9 25 #[.int .i64 ek, .int .i64 en, .string es]
  have HEV := Lib.hid (HEVR.out _ (hl9.now hb10) (hv9.now hb10) (hx9.now hb10))
  have hN10 := hN9.now hb10
  have hb10w := bthen hb9w hb10
  clear HEVR hx9 hl9 hv9 hb9w hb10 hN9
  obtain ⟨n0, n1, n2, n3, n4, n5⟩ := hN10.c6
  go_wp2_with fail
  (with_reducible refine HEV.out.mono ?_)
  rintro e w11 ⟨rfl, hb11⟩
  have hE11 := hE10.now hb11
  have hb11w := bthen hb10w hb11
  have hb12 := bone w11 (.cells #[.int .i64 ek, .int .i64 en, .string es] 25)
  have hF12 := Blk.new w11 25 #[.int .i64 ek, .int .i64 en, .string es]
  have hE12 := hE11.now hb12
  have hb12w := bthen hb11w hb12
  clear HEV hE10 hE11 hN10 hb10w hb11 hb11w hb12 n0 n1 n2 n3 n4 n5
  obtain ⟨a0, a1, a2⟩ := hE12.c3
  obtain ⟨b0, b1, b2⟩ := hF12.c3
  go_wp2_with fail
  go_ret
  exact ⟨rfl, hb12w⟩
end Go.Proofs.YtijmnenojbfdnaaGreatDoor
