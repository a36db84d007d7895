/- Texts of this seat, merged. -/
import Derived.Test.YtijmnenojbfdnaaGreatDoorEv01
import Derived.Test.YtijmnenojbfdnaaGreatDoorEv02
import Derived.Test.YtijmnenojbfdnaaGreatDoorEv03
import Derived.Test.YtijmnenojbfdnaaGreatDoorEv04
import Derived.Test.YtijmnenojbfdnaaGreatDoorEv05
import Derived.Test.YtijmnenojbfdnaaGreatDoorEv06
import Derived.Test.YtijmnenojbfdnaaGreatDoorEv07
import Derived.Test.YtijmnenojbfdnaaGreatDoorEv11
import Derived.Test.YtijmnenojbfdnaaGreatDoorEv12
import Derived.Test.YtijmnenojbfdnaaGreatDoorEv13
set_option linter.unusedSimpArgs false
set_option linter.unusedVariables false
namespace Go.Proofs.YtijmnenojbfdnaaGreatDoor
open Go.RowKit
set_option maxHeartbeats 1000000 in
theorem eval1_any (n : Nat) (y : Ex) (a : Val) (g : Nat) (u : Value) (w : World) (h : IsEx n (Lt w.heap.size) w u y) (hB : Blk w g 25 #[.int .i64 a.kind, .int .i64 a.n, .string a.s]) :
    Calls Tryz.prog 82 #[u, .pointer (some ⟨g, 0, none⟩)] w fun e w' => e = .returned (.bool (decide (y.v = a))) ∧ Below w.heap.size w w' := by
  obtain ⟨lv, rfl, h1, h2, h3, h4⟩ := h
  have hb := bone w (.cells #[.int .i64 y.op, .int .i64 y.v.kind, .int .i64 y.v.n, .string y.v.s, .string y.s, lv] 28)
  have hB1 := hB.alloc (.cells #[.int .i64 y.op, .int .i64 y.v.kind, .int .i64 y.v.n, .string y.v.s, .string y.s, lv] 28)
  obtain ⟨c0, c1, c2⟩ := hB1.c3
  have heq := fun W => run_eqV W y.v a
  generalize decide (y.v = a) = d at *
  go_enter Tryz.func82, Tryz.ntmps82
  go_wp2_with fail
  go_ret
  exact ⟨rfl, hb⟩
set_option maxHeartbeats 8000000 in
set_option maxRecDepth 100000 in
theorem eval_in (n : Nat) (ih : ∀ m, m < n → EvalAt 46 m) (vs : List Var) (vals : List Val) (x : Ex) (w : World) (uv vv u : Value) (h : EvArgs n vs vals x w uv vv u) (ho : x.op = 13) : Calls Tryz.prog 46 #[uv, vv, u] w (RetO (evX vs vals x) w) := by
  have HO := Lib.hid ho
  clear ho
  have h0 := h
  obtain ⟨hvs, hvl, hx, _, _, hA⟩ := h
  obtain ⟨Av, cv, rfl, v1, v2, hvs⟩ := hvs.open_
  obtain ⟨Aw, cw, rfl, v3, v4, hvl⟩ := hvl.open_
  obtain ⟨lv, rfl, h1, h2, h3, h4⟩ := hx
  obtain ⟨A, c, rfl, l1, l2, h4⟩ := h4.open_
  have hb := bbox (bone w (.cells #[.int .i64 x.op, .int .i64 x.v.kind, .int .i64 x.v.n, .string x.v.s, .string x.s, .slice A x.l.length c] 28)) (.cells #[.int .i64 0, .int .i64 0, .string ⟨#[]⟩] 25)
  have hB := (Blk.new w 28 #[.int .i64 x.op, .int .i64 x.v.kind, .int .i64 x.v.n, .string x.v.s, .string x.s, .slice A x.l.length c]).alloc (.cells #[.int .i64 0, .int .i64 0, .string ⟨#[]⟩] 25)
  have hR := Blk.new_at (t := 25) (cs := #[.int .i64 0, .int .i64 0, .string ⟨#[]⟩]) (w := w.alloc (.cells #[.int .i64 x.op, .int .i64 x.v.kind, .int .i64 x.v.n, .string x.v.s, .string x.s, .slice A x.l.length c] 28)) (s := w.heap.size + 1) (by simp)
  have hl1 := SlE.now h4 hb
  have hv1 := hvs.now hb
  have hw1 := hvl.now hb
  clear h4 hvs hvl
  go_enter Tryz.func46, Tryz.ntmps46
  go_upto_region 1 with fail
  generalize hww : (w.alloc (.cells #[.int .i64 x.op, .int .i64 x.v.kind, .int .i64 x.v.n, .string x.v.s, .string x.s, .slice A x.l.length c] 28)).alloc (.cells #[.int .i64 0, .int .i64 0, .string ⟨#[]⟩] 25) = w1 at *
  clear hww
  have ho := HO.out
  have HST : Hid (∀ (W : World) (x y z : Value), Below w1.heap.size w1 W →
      (W.frozen? ⟨w.heap.size + 1, 0, none⟩ = false ∧ W.frozen? ⟨w.heap.size + 1, 1, none⟩ = false ∧ W.frozen? ⟨w.heap.size + 1, 2, none⟩ = false) ∧
      Blk (((W.setCell ⟨w.heap.size + 1, 0, none⟩ x).setCell ⟨w.heap.size + 1, 1, none⟩ y).setCell ⟨w.heap.size + 1, 2, none⟩ z) (w.heap.size + 1) 25 #[x, y, z] ∧
      (W.cell? ⟨w.heap.size + 1, 0, none⟩ = some (.int .i64 0) ∧ W.cell? ⟨w.heap.size + 1, 1, none⟩ = some (.int .i64 0) ∧ W.cell? ⟨w.heap.size + 1, 2, none⟩ = some (.string ⟨#[]⟩)) ∧
      Below w.heap.size w (((W.setCell ⟨w.heap.size + 1, 0, none⟩ x).setCell ⟨w.heap.size + 1, 1, none⟩ y).setCell ⟨w.heap.size + 1, 2, none⟩ z)) :=
    fun W x y z hW => ⟨⟨(hR.now hW).frozen 0, (hR.now hW).frozen 1, (hR.now hW).frozen 2⟩, (hR.now hW).set3 _ _ _, (hR.now hW).c3, bset3 (bthen hb hW) (by omega) _ _ _⟩
  obtain ⟨q0, q1, q2, q3, q4, q5⟩ := hB.c6
  have HKEY := Lib.hid (ev_key vs vals x)
  have HSL := Lib.hid (shape_len h0.shape)
  have hlen : 1 ≤ x.l.length := by have := HSL.out; omega
  obtain ⟨b, o, y, ylv, n', hn, rfl, hD, hy, hex, hfv, hsl, e0, e1, e2, e3, e4, e5⟩ := hl1.at_ (k := 0) (by omega)
  have HY := Lib.hid hy
  have hym := List.mem_of_getElem? hy
  obtain ⟨A2, c2', rfl, m1, m2, _⟩ := hsl.open_
  have hcall := Lib.hid (ih n' (by omega) vs vals y _ _ _ _ (h0.part hym hb hex))
  have HV0 := Lib.hid (fun (a : Val) (h : evX vs vals y = some a) => h0.val hym h)
  have i0 : (0 : Int) < (x.l.length : Int) := by omega
  have e0' : w1.cell? ⟨b, o, none⟩ = some (.int .i64 y.op) := by simpa using e0
  have e1' : w1.cell? ⟨b, o + 1, none⟩ = some (.int .i64 y.v.kind) := by simpa using e1
  have e2' : w1.cell? ⟨b, o + 2, none⟩ = some (.int .i64 y.v.n) := by simpa using e2
  have e3' : w1.cell? ⟨b, o + 3, none⟩ = some (.string y.v.s) := by simpa using e3
  have e4' : w1.cell? ⟨b, o + 4, none⟩ = some (.string y.s) := by simpa using e4
  have e5' : w1.cell? ⟨b, o + 5, none⟩ = some (.slice A2 y.l.length c2') := by simpa using e5
  clear hy hex hsl hfv e0 e1 e2 e3 e4 e5 hn
  go_wp2_with fail
  refine hcall.out.mono ?_
  clear hcall e0' e1' e2' e3' e4' e5'
  rintro e w2 ⟨v0, rfl, hv0, hb2⟩
  have HG0 := Lib.hid (getD_map (f := evX vs vals) HY.out)
  generalize hr0 : evX vs vals y = r0 at *
  have hb3 := bone w2 (.cells #[.int .i64 v0.kind, .int .i64 v0.n, .string v0.s] 25)
  have hF := Blk.new w2 25 #[.int .i64 v0.kind, .int .i64 v0.n, .string v0.s]
  have hb13 := bthen hb2 hb3
  have hB3 := hB.now hb13
  have hl3 := SlE.now hl1 hb13
  clear q0 q1 q2 q3 q4 q5
  have l2' := hF.lt
  go_upto_region 7 with fail
  generalize hw3 : w2.alloc (.cells #[.int .i64 v0.kind, .int .i64 v0.n, .string v0.s] 25) = w3 at *
  clear hw3
  obtain ⟨q0, q1, q2, q3, q4, q5⟩ := hB3.c6
  obtain ⟨f0, f1, f2⟩ := hF.c3
  cases r0 with
  | none =>
    have HR : Hid (evX vs vals x = none) := by
      show _ = _
      rw [HKEY.out]
      unfold evO
      rw [if_neg (by omega), if_neg (by omega), HG0.out]
    clear f0 f1 f2 q0 q1 q2 q3 q4 q5
    obtain ⟨⟨k0, k1, k2⟩, hS, ⟨y0, y1, y2⟩, hbS⟩ := HST.out w3 (.int .i64 0) (.int .i64 0) (.string ⟨#[]⟩) hb13
    go_wp2_with fail
    obtain ⟨t0, t1, t2⟩ := hS.c3
    refine bodyPost_ret (v := .tuple #[.agg #[.int .i64 0, .int .i64 0, .string ⟨#[]⟩], .bool false]) (by simp [results, Tryz.results46, go_sem, t0, t1, t2]) rfl ?_
    exact RetO.cast HR.out ⟨⟨0, 0, ⟨#[]⟩⟩, rfl, fun a h => (by cases h), hbS⟩

  | some a =>
    obtain rfl : v0 = a := hv0 a rfl
    have HVA := Lib.hid (HV0.out _ rfl)
    clear hv0
    have eg : ∀ z w, (callFunc 82 (#[z] ++ #[.pointer (some ⟨w2.heap.size, 0, none⟩)])).run Tryz.prog w = .ok (.enter 82 (#[z] ++ #[.pointer (some ⟨w2.heap.size, 0, none⟩)])) w := fun z w => enters_of Tryz.func82 (by kernel_rfl) rfl _ w
    have HR : Hid (evX vs vals x = some (truthV ((x.l.drop 1).any fun y => decide (y.v = v0)))) := by
      show _ = _
      rw [HKEY.out]
      unfold evO
      rw [if_neg (by omega), if_neg (by omega), HG0.out]
      exact (if_neg (by omega)).trans ((if_neg (by omega)).trans ((if_neg (by omega)).trans ((if_neg (by omega)).trans (if_pos ho))))
    have HT := Lib.hid (SlE.tail hl3 (by omega))
    have hFF := hF
    have i1 : (1 : Int) ≤ (x.l.length : Int) := by omega
    have i2 : (2 : Int) ≤ (x.l.length : Int) := by have := HSL.out; omega
    have i3 : (x.l.length : Int) ≤ (c : Int) := by omega
    have i4 : 2 ≤ c := by omega
    go_wp2_with fail
    refine (containsFuncE 82 #[.pointer (some ⟨w2.heap.size, 0, none⟩)] _ eg _ (x.l.drop 1) (fun y => decide (y.v = v0)) w3 HT.out (fun z u W _ hex hbW => by have := eval1_any _ z v0 w2.heap.size u W hex (hFF.now hbW); exact this)).mono ?_
    rintro e w4 ⟨rfl, hb4⟩
    generalize (x.l.drop 1).any (fun y => decide (y.v = v0)) = d at *
    clear f0 f1 f2 q0 q1 q2 q3 q4 q5
    go_wp2_with fail
    refine (truth_any d _).mono ?_
    rintro e w6 ⟨rfl, hb6⟩
    have ev : valV (truthV d) = .agg #[.int .i64 (truthV d).kind, .int .i64 (truthV d).n, .string (truthV d).s] := rfl
    rw [ev]
    generalize truthV d = tv at *
    obtain ⟨⟨k0, k1, k2⟩, hS, ⟨y0, y1, y2⟩, hbS⟩ := HST.out w6 (.int .i64 tv.kind) (.int .i64 tv.n) (.string tv.s) (bthen hb13 (bthen hb4 hb6))
    go_wp2_with fail
    obtain ⟨t0, t1, t2⟩ := hS.c3
    refine bodyPost_ret (v := .tuple #[.agg #[.int .i64 tv.kind, .int .i64 tv.n, .string tv.s], .bool true]) (by simp [results, Tryz.results46, go_sem, t0, t1, t2]) rfl ?_
    exact RetO.cast HR.out ⟨tv, rfl, fun a h => (by injection h), hbS⟩
theorem eval_any : ∀ n, EvalAt 46 n := by
  intro n
  induction n using Nat.strongRecOn with
  | _ n ih =>
    intro vs vals x w uv vv u h
    obtain ⟨_, _, _, _, _, _, o1, o2⟩ := shape_len h.shape
    rcases (show x.op = 1 ∨ x.op = 2 ∨ x.op = 3 ∨ x.op = 4 ∨ x.op = 5 ∨ x.op = 6 ∨ x.op = 7 ∨ x.op = 8 ∨ x.op = 9 ∨ x.op = 10 ∨ x.op = 11 ∨ x.op = 12 ∨ x.op = 13 by omega) with ho | ho | ho | ho | ho | ho | ho | ho | ho | ho | ho | ho | ho
    · exact eval_const n vs vals x w uv vv u h ho
    · exact eval_var n vs vals x w uv vv u h ho
    · exact eval_not n ih vs vals x w uv vv u h ho
    · exact eval_and n ih vs vals x w uv vv u h ho
    · exact eval_or n ih vs vals x w uv vv u h ho
    · exact eval_eq n ih vs vals x w uv vv u h ho
    · exact eval_lt n ih vs vals x w uv vv u h ho
    · exact eval_le n ih vs vals x w uv vv u h ho
    · exact eval_add n ih vs vals x w uv vv u h ho
    · exact eval_sub n ih vs vals x w uv vv u h ho
    · exact eval_mul n ih vs vals x w uv vv u h ho
    · exact eval_if n ih vs vals x w uv vv u h ho
    · exact eval_in n ih vs vals x w uv vv u h ho
def RetVE1 (p : Val × Int) (w : World) (e : Ending) (w' : World) : Prop := e = .returned (.tuple #[.agg #[.int .i64 p.1.kind, .int .i64 p.1.n, .string p.1.s], .int .i64 p.2]) ∧ Below w.heap.size w w'
theorem given_ok {vs : List Var} {x : Ex} (h : (givenE vs x).2 = 0) : validX x = true ∧ varsB vs = true ∧ (typX vs x).2 = 0 := by
  unfold givenE at h
  split at h
  · rename_i hh
    rw [Bool.and_eq_true] at hh
    exact ⟨hh.1, hh.2, h⟩
  · cases h
set_option maxHeartbeats 4000000 in
set_option maxRecDepth 100000 in
theorem evalE_any (n : Nat) (vs : List Var) (vals : List Val) (x : Ex) (w : World) (uv vv u : Value) (hvs : SlX (Lt w.heap.size) w uv vs) (hvl : SlV (Lt w.heap.size) w vv vals) (hx : IsEx n (Lt w.heap.size) w u x) (hl : vs.length ≤ 1000000) :
    Calls Tryz.prog 15 #[uv, vv, u] w (RetVE1 (evalE vs vals x) w) := by
  have hxx := hx
  obtain ⟨Av, cv, rfl, v1, v2, hvs⟩ := hvs.open_
  obtain ⟨Aw, cw, rfl, v3, v4, hvl⟩ := hvl.open_
  obtain ⟨lv, rfl, h1, h2, h3, h4⟩ := hx
  obtain ⟨A, c, rfl, l1, l2, h4⟩ := h4.open_
  have hb := bbox (bone w (.cells #[.int .i64 x.op, .int .i64 x.v.kind, .int .i64 x.v.n, .string x.v.s, .string x.s, .slice A x.l.length c] 28)) (.cells #[.int .i64 0, .int .i64 0, .string ⟨#[]⟩] 25)
  have hB := (Blk.new w 28 #[.int .i64 x.op, .int .i64 x.v.kind, .int .i64 x.v.n, .string x.v.s, .string x.s, .slice A x.l.length c]).alloc (.cells #[.int .i64 0, .int .i64 0, .string ⟨#[]⟩] 25)
  have hR := Blk.new_at (t := 25) (cs := #[.int .i64 0, .int .i64 0, .string ⟨#[]⟩]) (w := w.alloc (.cells #[.int .i64 x.op, .int .i64 x.v.kind, .int .i64 x.v.n, .string x.v.s, .string x.s, .slice A x.l.length c] 28)) (s := w.heap.size + 1) (by simp)
  have hx1 := hxx.now hb
  have hv1 := hvs.now hb
  have hw1 := hvl.now hb
  clear h4 hvs hvl hxx
  have HE : Hid (evalE vs vals x = if (givenE vs x).2 ≠ 0 then (noV, (givenE vs x).2)
    else if (inAllE vs vals).2 = 0 ∧ (inAllE vs vals).1 = true then (match evX vs vals x with | some a => (a, 0) | none => (noV, 6)) else (noV, 11)) := rfl
  go_enter Tryz.func15, Tryz.ntmps15
  go_upto_region 1 with fail
  generalize hww : (w.alloc (.cells #[.int .i64 x.op, .int .i64 x.v.kind, .int .i64 x.v.n, .string x.v.s, .string x.s, .slice A x.l.length c] 28)).alloc (.cells #[.int .i64 0, .int .i64 0, .string ⟨#[]⟩] 25) = w1 at *
  clear hww
  have HST : Hid (∀ (W : World) (x y z : Value), Below w1.heap.size w1 W →
      (W.frozen? ⟨w.heap.size + 1, 0, none⟩ = false ∧ W.frozen? ⟨w.heap.size + 1, 1, none⟩ = false ∧ W.frozen? ⟨w.heap.size + 1, 2, none⟩ = false) ∧
      Blk (((W.setCell ⟨w.heap.size + 1, 0, none⟩ x).setCell ⟨w.heap.size + 1, 1, none⟩ y).setCell ⟨w.heap.size + 1, 2, none⟩ z) (w.heap.size + 1) 25 #[x, y, z] ∧
      (W.cell? ⟨w.heap.size + 1, 0, none⟩ = some (.int .i64 0) ∧ W.cell? ⟨w.heap.size + 1, 1, none⟩ = some (.int .i64 0) ∧ W.cell? ⟨w.heap.size + 1, 2, none⟩ = some (.string ⟨#[]⟩)) ∧
      Below w.heap.size w (((W.setCell ⟨w.heap.size + 1, 0, none⟩ x).setCell ⟨w.heap.size + 1, 1, none⟩ y).setCell ⟨w.heap.size + 1, 2, none⟩ z)) :=
    fun W x y z hW => ⟨⟨(hR.now hW).frozen 0, (hR.now hW).frozen 1, (hR.now hW).frozen 2⟩, (hR.now hW).set3 _ _ _, (hR.now hW).c3, bset3 (bthen hb hW) (by omega) _ _ _⟩
  obtain ⟨q0, q1, q2, q3, q4, q5⟩ := hB.c6
  go_wp2_with fail
  refine (given_any n vs x _ _ _ hv1 hx1 hl).mono ?_
  rintro e w2 ⟨rfl, _, hb2⟩
  by_cases hg : (givenE vs x).2 = 0
  · obtain ⟨hvx, hvv, hty⟩ := given_ok hg
    rw [hg]
    have HG := Lib.hid hg
    have HTY := Lib.hid hty
    have HOK := Lib.hid (valid_ok hvx)
    generalize (givenE vs x).1 = gk at *
    clear hg hvx hvv hty
    go_wp2_with fail
    refine (inAllE_any vs vals _ _ _ (hv1.now hb2) (hw1.now hb2) hl).mono ?_
    rintro e w3 ⟨rfl, hb3⟩
    have hb13 := bthen hb2 hb3
    have hx3 := hx1.now hb13
    have hv3 := hv1.now hb13
    have hw3 := hw1.now hb13
    have hB3 := hB.now hb13
    clear q0 q1 q2 q3 q4 q5
    obtain ⟨q0, q1, q2, q3, q4, q5⟩ := hB3.c6
    by_cases hin : (inAllE vs vals).2 = 0 ∧ (inAllE vs vals).1 = true
    · have hasg := asg_of hin
      have HE2 : Hid (evalE vs vals x = match evX vs vals x with | some a => (a, 0) | none => (noV, 6)) := by show _ = _; rw [HE.out, if_neg (by rw [HG.out]; simp), if_pos hin]
      rw [hin.1, hin.2]
      clear hin HE
      have hcall := Lib.hid (eval_any n vs vals x w3 _ _ _ ⟨hv3, hw3, hx3, HOK.out, HTY.out, hasg⟩)
      clear hx1 hv1 hw1 hx3 hv3 hw3 hasg
      go_wp2_with fail
      refine hcall.out.mono ?_
      rintro e w4 ⟨v, rfl, hv, hb4⟩
      have hb5 := bone w4 (.cells #[.int .i64 v.kind, .int .i64 v.n, .string v.s] 25)
      have hF := Blk.new w4 25 #[.int .i64 v.kind, .int .i64 v.n, .string v.s]
      have hb15 := bthen hb13 (bthen hb4 hb5)
      have l5 := hF.lt
      clear q0 q1 q2 q3 q4 q5
      go_upto_region 8 with fail
      generalize hw5 : w4.alloc (.cells #[.int .i64 v.kind, .int .i64 v.n, .string v.s] 25) = w5 at *
      clear hw5
      obtain ⟨f0, f1, f2⟩ := hF.c3
      generalize evX vs vals x = r at *
      cases r with
      | none =>
        have HR : Hid (evalE vs vals x = (noV, 6)) := HE2.out
        clear f0 f1 f2
        obtain ⟨⟨k0, k1, k2⟩, hS, ⟨y0, y1, y2⟩, hbS⟩ := HST.out w5 (.int .i64 0) (.int .i64 0) (.string ⟨#[]⟩) hb15
        go_wp2_with fail
        obtain ⟨t0, t1, t2⟩ := hS.c3
        refine bodyPost_ret (v := .tuple #[.agg #[.int .i64 0, .int .i64 0, .string ⟨#[]⟩], .int .i64 6]) (by simp [results, Tryz.results15, go_sem, t0, t1, t2]) rfl ?_
        exact ⟨by rw [HR.out]; rfl, hbS⟩

      | some a =>
        obtain rfl : v = a := hv a rfl
        have HR : Hid (evalE vs vals x = (v, 0)) := HE2.out
        obtain ⟨⟨k0, k1, k2⟩, hS, ⟨y0, y1, y2⟩, hbS⟩ := HST.out w5 (.int .i64 v.kind) (.int .i64 v.n) (.string v.s) hb15
        go_wp2_with fail
        obtain ⟨t0, t1, t2⟩ := hS.c3
        refine bodyPost_ret (v := .tuple #[.agg #[.int .i64 v.kind, .int .i64 v.n, .string v.s], .int .i64 0]) (by simp [results, Tryz.results15, go_sem, t0, t1, t2]) rfl ?_
        exact ⟨by rw [HR.out], hbS⟩

    · have HR : Hid (evalE vs vals x = (noV, 11)) := by show _ = _; rw [HE.out, if_neg (by rw [HG.out]; simp), if_neg hin]
      clear hx1 hv1 hw1 hx3 hv3 hw3 HE
      generalize inAllE vs vals = p at *
      obtain ⟨b, z⟩ := p
      dsimp only at *
      have HG2 : Hid (∀ Q : Prop, ((z != 0) = true → Q) → ((z != 0) = false → b = false → Q) → Q) := by
        intro Q a1 a2
        by_cases hz : z = 0
        · refine a2 (by simp [hz]) ?_
          cases b
          · rfl
          · exact absurd ⟨hz, rfl⟩ hin
        · exact a1 (by simpa using hz)
      clear hin
      refine HG2.out _ (fun b1 => ?_) (fun b1 b2 => ?_)
      all_goals
        try subst b2
        obtain ⟨⟨k0, k1, k2⟩, hS, ⟨y0, y1, y2⟩, hbS⟩ := HST.out w3 (.int .i64 0) (.int .i64 0) (.string ⟨#[]⟩) hb13
        go_wp2_with fail
        obtain ⟨t0, t1, t2⟩ := hS.c3
        refine bodyPost_ret (v := .tuple #[.agg #[.int .i64 0, .int .i64 0, .string ⟨#[]⟩], .int .i64 11]) (by simp [results, Tryz.results15, go_sem, t0, t1, t2]) rfl ?_
        exact ⟨by rw [HR.out]; rfl, hbS⟩

  · have HR : Hid (evalE vs vals x = (noV, (givenE vs x).2)) := by show _ = _; rw [HE.out, if_pos hg]
    have b1 : ((givenE vs x).2 != 0) = true := by simpa using hg
    clear hx1 hv1 hw1 HE hg
    generalize (givenE vs x).2 = z at *
    generalize (givenE vs x).1 = gk at *
    obtain ⟨⟨k0, k1, k2⟩, hS, ⟨y0, y1, y2⟩, hbS⟩ := HST.out w2 (.int .i64 0) (.int .i64 0) (.string ⟨#[]⟩) hb2
    go_wp2_with fail
    obtain ⟨t0, t1, t2⟩ := hS.c3
    refine bodyPost_ret (v := .tuple #[.agg #[.int .i64 0, .int .i64 0, .string ⟨#[]⟩], .int .i64 z]) (by simp [results, Tryz.results15, go_sem, t0, t1, t2]) rfl ?_
    exact ⟨by rw [HR.out]; rfl, hbS⟩
end Go.Proofs.YtijmnenojbfdnaaGreatDoor
