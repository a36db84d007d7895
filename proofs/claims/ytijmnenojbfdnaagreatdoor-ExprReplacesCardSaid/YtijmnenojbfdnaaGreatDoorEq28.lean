/- Texts of this seat, merged. -/
import Derived.Test.YtijmnenojbfdnaaGreatDoorEq01
import Derived.Test.YtijmnenojbfdnaaGreatDoorEq02
import Derived.Test.YtijmnenojbfdnaaGreatDoorEq03
import Derived.Test.YtijmnenojbfdnaaGreatDoorEq04
import Derived.Test.YtijmnenojbfdnaaGreatDoorEq05
import Derived.Test.YtijmnenojbfdnaaGreatDoorEq06
import Derived.Test.YtijmnenojbfdnaaGreatDoorEq07
import Derived.Test.YtijmnenojbfdnaaGreatDoorEq08
import Derived.Test.YtijmnenojbfdnaaGreatDoorEq09
import Derived.Test.YtijmnenojbfdnaaGreatDoorEq10
import Derived.Test.YtijmnenojbfdnaaGreatDoorEq11
import Derived.Test.YtijmnenojbfdnaaGreatDoorEq12
import Derived.Test.YtijmnenojbfdnaaGreatDoorEq13
import Derived.Test.YtijmnenojbfdnaaGreatDoorEq14
import Derived.Test.YtijmnenojbfdnaaGreatDoorEq15
import Derived.Test.YtijmnenojbfdnaaGreatDoorEq16
import Derived.Test.YtijmnenojbfdnaaGreatDoorEq17
import Derived.Test.YtijmnenojbfdnaaGreatDoorEq18
import Derived.Test.YtijmnenojbfdnaaGreatDoorEq19
import Derived.Test.YtijmnenojbfdnaaGreatDoorEq20
import Derived.Test.YtijmnenojbfdnaaGreatDoorEq21
import Derived.Test.YtijmnenojbfdnaaGreatDoorEq22
import Derived.Test.YtijmnenojbfdnaaGreatDoorEq23
import Derived.Test.YtijmnenojbfdnaaGreatDoorEq24
import Derived.Test.YtijmnenojbfdnaaGreatDoorEq25
import Derived.Test.YtijmnenojbfdnaaGreatDoorEq26
import Derived.Test.YtijmnenojbfdnaaGreatDoorEq27
set_option linter.unusedSimpArgs false
set_option linter.unusedVariables false
namespace Go.Proofs.YtijmnenojbfdnaaGreatDoor
open Go.RowKit
set_option maxHeartbeats 1000000 in
theorem eval1_any (n : Nat) (y : Ex) (a : Val) (g : Nat) (u : Value) (w : World) (h : IsEx n (Lt w.heap.size) w u y) (hB : Blk w g 25 #[.int .i64 a.kind, .int .i64 a.n, .string a.s]) :
    Calls Tryz.prog 82 #[u, .pointer (some ⟨g, 0, none⟩)] w fun e w' => e = .returned (.bool (decide (y.v = a))) ∧ Below w.heap.size w w' := by
  obtain ⟨lv, rfl, h1, h2, h3, h4⟩ := h
  have hb := bone w (.cells #[.int .i64 y.op, .int .i64 y.v.kind, .int .i64 y.v.n, .string y.v.s, .string y.s, lv] 28)
  have hB1 := hB.alloc (.cells #[.int .i64 y.op, .int .i64 y.v.kind, .int .i64 y.v.n, .string y.v.s, .string y.s, lv] 28)
  obtain ⟨c0, c1, c2⟩ := hB1.c3
  have heq := fun W => run_eqV W y.v a
  generalize decide (y.v = a) = d at *
  go_enter Tryz.func82, Tryz.ntmps82
  go_wp2_with fail
  go_ret
  exact ⟨rfl, hb⟩
set_option maxHeartbeats 8000000 in
set_option maxRecDepth 100000 in
theorem eval_in (n : Nat) (ih : ∀ m, m < n → EvalAt 46 m) (vs : List Var) (vals : List Val) (x : Ex) (w : World) (uv vv u : Value) (h : EvArgs n vs vals x w uv vv u) (ho : x.op = 13) : Calls Tryz.prog 46 #[uv, vv, u] w (RetO (evX vs vals x) w) := by
  have HO := Lib.hid ho
  clear ho
  have h0 := h
  obtain ⟨hvs, hvl, hx, _, _, hA⟩ := h
  obtain ⟨Av, cv, rfl, v1, v2, hvs⟩ := hvs.open_
  obtain ⟨Aw, cw, rfl, v3, v4, hvl⟩ := hvl.open_
  obtain ⟨lv, rfl, h1, h2, h3, h4⟩ := hx
  obtain ⟨A, c, rfl, l1, l2, h4⟩ := h4.open_
  have hb := bbox (bone w (.cells #[.int .i64 x.op, .int .i64 x.v.kind, .int .i64 x.v.n, .string x.v.s, .string x.s, .slice A x.l.length c] 28)) (.cells #[.int .i64 0, .int .i64 0, .string ⟨#[]⟩] 25)
  have hB := (Blk.new w 28 #[.int .i64 x.op, .int .i64 x.v.kind, .int .i64 x.v.n, .string x.v.s, .string x.s, .slice A x.l.length c]).alloc (.cells #[.int .i64 0, .int .i64 0, .string ⟨#[]⟩] 25)
  have hR := Blk.new_at (t := 25) (cs := #[.int .i64 0, .int .i64 0, .string ⟨#[]⟩]) (w := w.alloc (.cells #[.int .i64 x.op, .int .i64 x.v.kind, .int .i64 x.v.n, .string x.v.s, .string x.s, .slice A x.l.length c] 28)) (s := w.heap.size + 1) (by simp)
  have hl1 := SlE.now h4 hb
  have hv1 := hvs.now hb
  have hw1 := hvl.now hb
  clear h4 hvs hvl
  go_enter Tryz.func46, Tryz.ntmps46
  go_upto_region 1 with fail
  generalize hww : (w.alloc (.cells #[.int .i64 x.op, .int .i64 x.v.kind, .int .i64 x.v.n, .string x.v.s, .string x.s, .slice A x.l.length c] 28)).alloc (.cells #[.int .i64 0, .int .i64 0, .string ⟨#[]⟩] 25) = w1 at *
  clear hww
  have ho := HO.out
  have HST : Hid (∀ (W : World) (x y z : Value), Below w1.heap.size w1 W →
      (W.frozen? ⟨w.heap.size + 1, 0, none⟩ = false ∧ W.frozen? ⟨w.heap.size + 1, 1, none⟩ = false ∧ W.frozen? ⟨w.heap.size + 1, 2, none⟩ = false) ∧
      Blk (((W.setCell ⟨w.heap.size + 1, 0, none⟩ x).setCell ⟨w.heap.size + 1, 1, none⟩ y).setCell ⟨w.heap.size + 1, 2, none⟩ z) (w.heap.size + 1) 25 #[x, y, z] ∧
      (W.cell? ⟨w.heap.size + 1, 0, none⟩ = some (.int .i64 0) ∧ W.cell? ⟨w.heap.size + 1, 1, none⟩ = some (.int .i64 0) ∧ W.cell? ⟨w.heap.size + 1, 2, none⟩ = some (.string ⟨#[]⟩)) ∧
      Below w.heap.size w (((W.setCell ⟨w.heap.size + 1, 0, none⟩ x).setCell ⟨w.heap.size + 1, 1, none⟩ y).setCell ⟨w.heap.size + 1, 2, none⟩ z)) :=
    fun W x y z hW => ⟨⟨(hR.now hW).frozen 0, (hR.now hW).frozen 1, (hR.now hW).frozen 2⟩, (hR.now hW).set3 _ _ _, (hR.now hW).c3, bset3 (bthen hb hW) (by omega) _ _ _⟩
  obtain ⟨q0, q1, q2, q3, q4, q5⟩ := hB.c6
  have HKEY := Lib.hid (ev_key vs vals x)
  have HSL := Lib.hid (shape_len h0.shape)
  have hlen : 1 ≤ x.l.length := by have := HSL.out; omega
  obtain ⟨b, o, y, ylv, n', hn, rfl, hD, hy, hex, hfv, hsl, e0, e1, e2, e3, e4, e5⟩ := hl1.at_ (k := 0) (by omega)
  have HY := Lib.hid hy
  have hym := List.mem_of_getElem? hy
  obtain ⟨A2, c2', rfl, m1, m2, _⟩ := hsl.open_
  have hcall := Lib.hid (ih n' (by omega) vs vals y _ _ _ _ (h0.part hym hb hex))
  have HV0 := Lib.hid (fun (a : Val) (h : evX vs vals y = some a) => h0.val hym h)
  have i0 : (0 : Int) < (x.l.length : Int) := by omega
  have e0' : w1.cell? ⟨b, o, none⟩ = some (.int .i64 y.op) := by simpa using e0
  have e1' : w1.cell? ⟨b, o + 1, none⟩ = some (.int .i64 y.v.kind) := by simpa using e1
  have e2' : w1.cell? ⟨b, o + 2, none⟩ = some (.int .i64 y.v.n) := by simpa using e2
  have e3' : w1.cell? ⟨b, o + 3, none⟩ = some (.string y.v.s) := by simpa using e3
  have e4' : w1.cell? ⟨b, o + 4, none⟩ = some (.string y.s) := by simpa using e4
  have e5' : w1.cell? ⟨b, o + 5, none⟩ = some (.slice A2 y.l.length c2') := by simpa using e5
  clear hy hex hsl hfv e0 e1 e2 e3 e4 e5 hn
  go_wp2_with fail
  refine hcall.out.mono ?_
  clear hcall e0' e1' e2' e3' e4' e5'
  rintro e w2 ⟨v0, rfl, hv0, hb2⟩
  have HG0 := Lib.hid (getD_map (f := evX vs vals) HY.out)
  generalize hr0 : evX vs vals y = r0 at *
  have hb3 := bone w2 (.cells #[.int .i64 v0.kind, .int .i64 v0.n, .string v0.s] 25)
  have hF := Blk.new w2 25 #[.int .i64 v0.kind, .int .i64 v0.n, .string v0.s]
  have hb13 := bthen hb2 hb3
  have hB3 := hB.now hb13
  have hl3 := SlE.now hl1 hb13
  clear q0 q1 q2 q3 q4 q5
  have l2' := hF.lt
  go_upto_region 7 with fail
  generalize hw3 : w2.alloc (.cells #[.int .i64 v0.kind, .int .i64 v0.n, .string v0.s] 25) = w3 at *
  clear hw3
  obtain ⟨q0, q1, q2, q3, q4, q5⟩ := hB3.c6
  obtain ⟨f0, f1, f2⟩ := hF.c3
  cases r0 with
  | none =>
    have HR : Hid (evX vs vals x = none) := by
      show _ = _
      rw [HKEY.out]
      unfold evO
      rw [if_neg (by omega), if_neg (by omega), HG0.out]
    clear f0 f1 f2 q0 q1 q2 q3 q4 q5
    obtain ⟨⟨k0, k1, k2⟩, hS, ⟨y0, y1, y2⟩, hbS⟩ := HST.out w3 (.int .i64 0) (.int .i64 0) (.string ⟨#[]⟩) hb13
    go_wp2_with fail
    obtain ⟨t0, t1, t2⟩ := hS.c3
    refine bodyPost_ret (v := .tuple #[.agg #[.int .i64 0, .int .i64 0, .string ⟨#[]⟩], .bool false]) (by simp [results, Tryz.results46, go_sem, t0, t1, t2]) rfl ?_
    exact RetO.cast HR.out ⟨⟨0, 0, ⟨#[]⟩⟩, rfl, fun a h => (by cases h), hbS⟩

  | some a =>
    obtain rfl : v0 = a := hv0 a rfl
    have HVA := Lib.hid (HV0.out _ rfl)
    clear hv0
    have eg : ∀ z w, (callFunc 82 (#[z] ++ #[.pointer (some ⟨w2.heap.size, 0, none⟩)])).run Tryz.prog w = .ok (.enter 82 (#[z] ++ #[.pointer (some ⟨w2.heap.size, 0, none⟩)])) w := fun z w => enters_of Tryz.func82 (by kernel_rfl) rfl _ w
    have HR : Hid (evX vs vals x = some (truthV ((x.l.drop 1).any fun y => decide (y.v = v0)))) := by
      show _ = _
      rw [HKEY.out]
      unfold evO
      rw [if_neg (by omega), if_neg (by omega), HG0.out]
      exact (if_neg (by omega)).trans ((if_neg (by omega)).trans ((if_neg (by omega)).trans ((if_neg (by omega)).trans (if_pos ho))))
    have HT := Lib.hid (SlE.tail hl3 (by omega))
    have hFF := hF
    have i1 : (1 : Int) ≤ (x.l.length : Int) := by omega
    have i2 : (2 : Int) ≤ (x.l.length : Int) := by have := HSL.out; omega
    have i3 : (x.l.length : Int) ≤ (c : Int) := by omega
    have i4 : 2 ≤ c := by omega
    go_wp2_with fail
    refine (containsFuncE 82 #[.pointer (some ⟨w2.heap.size, 0, none⟩)] _ eg _ (x.l.drop 1) (fun y => decide (y.v = v0)) w3 HT.out (fun z u W _ hex hbW => by have := eval1_any _ z v0 w2.heap.size u W hex (hFF.now hbW); exact this)).mono ?_
    rintro e w4 ⟨rfl, hb4⟩
    generalize (x.l.drop 1).any (fun y => decide (y.v = v0)) = d at *
    clear f0 f1 f2 q0 q1 q2 q3 q4 q5
    go_wp2_with fail
    refine (truth_any d _).mono ?_
    rintro e w6 ⟨rfl, hb6⟩
    have ev : valV (truthV d) = .agg #[.int .i64 (truthV d).kind, .int .i64 (truthV d).n, .string (truthV d).s] := rfl
    rw [ev]
    generalize truthV d = tv at *
    obtain ⟨⟨k0, k1, k2⟩, hS, ⟨y0, y1, y2⟩, hbS⟩ := HST.out w6 (.int .i64 tv.kind) (.int .i64 tv.n) (.string tv.s) (bthen hb13 (bthen hb4 hb6))
    go_wp2_with fail
    obtain ⟨t0, t1, t2⟩ := hS.c3
    refine bodyPost_ret (v := .tuple #[.agg #[.int .i64 tv.kind, .int .i64 tv.n, .string tv.s], .bool true]) (by simp [results, Tryz.results46, go_sem, t0, t1, t2]) rfl ?_
    exact RetO.cast HR.out ⟨tv, rfl, fun a h => (by injection h), hbS⟩
theorem eval_any : ∀ n, EvalAt 46 n := by
  intro n
  induction n using Nat.strongRecOn with
  | _ n ih =>
    intro vs vals x w uv vv u h
    obtain ⟨_, _, _, _, _, _, o1, o2⟩ := shape_len h.shape
    rcases (show x.op = 1 ∨ x.op = 2 ∨ x.op = 3 ∨ x.op = 4 ∨ x.op = 5 ∨ x.op = 6 ∨ x.op = 7 ∨ x.op = 8 ∨ x.op = 9 ∨ x.op = 10 ∨ x.op = 11 ∨ x.op = 12 ∨ x.op = 13 by omega) with ho | ho | ho | ho | ho | ho | ho | ho | ho | ho | ho | ho | ho
    · exact eval_const n vs vals x w uv vv u h ho
    · exact eval_var n vs vals x w uv vv u h ho
    · exact eval_not n ih vs vals x w uv vv u h ho
    · exact eval_and n ih vs vals x w uv vv u h ho
    · exact eval_or n ih vs vals x w uv vv u h ho
    · exact eval_eq n ih vs vals x w uv vv u h ho
    · exact eval_lt n ih vs vals x w uv vv u h ho
    · exact eval_le n ih vs vals x w uv vv u h ho
    · exact eval_add n ih vs vals x w uv vv u h ho
    · exact eval_sub n ih vs vals x w uv vv u h ho
    · exact eval_mul n ih vs vals x w uv vv u h ho
    · exact eval_if n ih vs vals x w uv vv u h ho
    · exact eval_in n ih vs vals x w uv vv u h ho
def RetVE1 (p : Val × Int) (w : World) (e : Ending) (w' : World) : Prop := e = .returned (.tuple #[.agg #[.int .i64 p.1.kind, .int .i64 p.1.n, .string p.1.s], .int .i64 p.2]) ∧ Below w.heap.size w w'
theorem given_ok {vs : List Var} {x : Ex} (h : (givenE vs x).2 = 0) : validX x = true ∧ varsB vs = true ∧ (typX vs x).2 = 0 := by
  unfold givenE at h
  split at h
  · rename_i hh
    rw [Bool.and_eq_true] at hh
    exact ⟨hh.1, hh.2, h⟩
  · cases h
set_option maxHeartbeats 4000000 in
set_option maxRecDepth 100000 in
theorem evalE_any (n : Nat) (vs : List Var) (vals : List Val) (x : Ex) (w : World) (uv vv u : Value) (hvs : SlX (Lt w.heap.size) w uv vs) (hvl : SlV (Lt w.heap.size) w vv vals) (hx : IsEx n (Lt w.heap.size) w u x) (hl : vs.length ≤ 1000000) :
    Calls Tryz.prog 15 #[uv, vv, u] w (RetVE1 (evalE vs vals x) w) := by
  have hxx := hx
  obtain ⟨Av, cv, rfl, v1, v2, hvs⟩ := hvs.open_
  obtain ⟨Aw, cw, rfl, v3, v4, hvl⟩ := hvl.open_
  obtain ⟨lv, rfl, h1, h2, h3, h4⟩ := hx
  obtain ⟨A, c, rfl, l1, l2, h4⟩ := h4.open_
  have hb := bbox (bone w (.cells #[.int .i64 x.op, .int .i64 x.v.kind, .int .i64 x.v.n, .string x.v.s, .string x.s, .slice A x.l.length c] 28)) (.cells #[.int .i64 0, .int .i64 0, .string ⟨#[]⟩] 25)
  have hB := (Blk.new w 28 #[.int .i64 x.op, .int .i64 x.v.kind, .int .i64 x.v.n, .string x.v.s, .string x.s, .slice A x.l.length c]).alloc (.cells #[.int .i64 0, .int .i64 0, .string ⟨#[]⟩] 25)
  have hR := Blk.new_at (t := 25) (cs := #[.int .i64 0, .int .i64 0, .string ⟨#[]⟩]) (w := w.alloc (.cells #[.int .i64 x.op, .int .i64 x.v.kind, .int .i64 x.v.n, .string x.v.s, .string x.s, .slice A x.l.length c] 28)) (s := w.heap.size + 1) (by simp)
  have hx1 := hxx.now hb
  have hv1 := hvs.now hb
  have hw1 := hvl.now hb
  clear h4 hvs hvl hxx
  have HE : Hid (evalE vs vals x = if (givenE vs x).2 ≠ 0 then (noV, (givenE vs x).2)
    else if (inAllE vs vals).2 = 0 ∧ (inAllE vs vals).1 = true then (match evX vs vals x with | some a => (a, 0) | none => (noV, 6)) else (noV, 11)) := rfl
  go_enter Tryz.func15, Tryz.ntmps15
  go_upto_region 1 with fail
  generalize hww : (w.alloc (.cells #[.int .i64 x.op, .int .i64 x.v.kind, .int .i64 x.v.n, .string x.v.s, .string x.s, .slice A x.l.length c] 28)).alloc (.cells #[.int .i64 0, .int .i64 0, .string ⟨#[]⟩] 25) = w1 at *
  clear hww
  have HST : Hid (∀ (W : World) (x y z : Value), Below w1.heap.size w1 W →
      (W.frozen? ⟨w.heap.size + 1, 0, none⟩ = false ∧ W.frozen? ⟨w.heap.size + 1, 1, none⟩ = false ∧ W.frozen? ⟨w.heap.size + 1, 2, none⟩ = false) ∧
      Blk (((W.setCell ⟨w.heap.size + 1, 0, none⟩ x).setCell ⟨w.heap.size + 1, 1, none⟩ y).setCell ⟨w.heap.size + 1, 2, none⟩ z) (w.heap.size + 1) 25 #[x, y, z] ∧
      (W.cell? ⟨w.heap.size + 1, 0, none⟩ = some (.int .i64 0) ∧ W.cell? ⟨w.heap.size + 1, 1, none⟩ = some (.int .i64 0) ∧ W.cell? ⟨w.heap.size + 1, 2, none⟩ = some (.string ⟨#[]⟩)) ∧
      Below w.heap.size w (((W.setCell ⟨w.heap.size + 1, 0, none⟩ x).setCell ⟨w.heap.size + 1, 1, none⟩ y).setCell ⟨w.heap.size + 1, 2, none⟩ z)) :=
    fun W x y z hW => ⟨⟨(hR.now hW).frozen 0, (hR.now hW).frozen 1, (hR.now hW).frozen 2⟩, (hR.now hW).set3 _ _ _, (hR.now hW).c3, bset3 (bthen hb hW) (by omega) _ _ _⟩
  obtain ⟨q0, q1, q2, q3, q4, q5⟩ := hB.c6
  go_wp2_with fail
  refine (given_any n vs x _ _ _ hv1 hx1 hl).mono ?_
  rintro e w2 ⟨rfl, _, hb2⟩
  by_cases hg : (givenE vs x).2 = 0
  · obtain ⟨hvx, hvv, hty⟩ := given_ok hg
    rw [hg]
    have HG := Lib.hid hg
    have HTY := Lib.hid hty
    have HOK := Lib.hid (valid_ok hvx)
    generalize (givenE vs x).1 = gk at *
    clear hg hvx hvv hty
    go_wp2_with fail
    refine (inAllE_any vs vals _ _ _ (hv1.now hb2) (hw1.now hb2) hl).mono ?_
    rintro e w3 ⟨rfl, hb3⟩
    have hb13 := bthen hb2 hb3
    have hx3 := hx1.now hb13
    have hv3 := hv1.now hb13
    have hw3 := hw1.now hb13
    have hB3 := hB.now hb13
    clear q0 q1 q2 q3 q4 q5
    obtain ⟨q0, q1, q2, q3, q4, q5⟩ := hB3.c6
    by_cases hin : (inAllE vs vals).2 = 0 ∧ (inAllE vs vals).1 = true
    · have hasg := asg_of hin
      have HE2 : Hid (evalE vs vals x = match evX vs vals x with | some a => (a, 0) | none => (noV, 6)) := by show _ = _; rw [HE.out, if_neg (by rw [HG.out]; simp), if_pos hin]
      rw [hin.1, hin.2]
      clear hin HE
      have hcall := Lib.hid (eval_any n vs vals x w3 _ _ _ ⟨hv3, hw3, hx3, HOK.out, HTY.out, hasg⟩)
      clear hx1 hv1 hw1 hx3 hv3 hw3 hasg
      go_wp2_with fail
      refine hcall.out.mono ?_
      rintro e w4 ⟨v, rfl, hv, hb4⟩
      have hb5 := bone w4 (.cells #[.int .i64 v.kind, .int .i64 v.n, .string v.s] 25)
      have hF := Blk.new w4 25 #[.int .i64 v.kind, .int .i64 v.n, .string v.s]
      have hb15 := bthen hb13 (bthen hb4 hb5)
      have l5 := hF.lt
      clear q0 q1 q2 q3 q4 q5
      go_upto_region 8 with fail
      generalize hw5 : w4.alloc (.cells #[.int .i64 v.kind, .int .i64 v.n, .string v.s] 25) = w5 at *
      clear hw5
      obtain ⟨f0, f1, f2⟩ := hF.c3
      generalize evX vs vals x = r at *
      cases r with
      | none =>
        have HR : Hid (evalE vs vals x = (noV, 6)) := HE2.out
        clear f0 f1 f2
        obtain ⟨⟨k0, k1, k2⟩, hS, ⟨y0, y1, y2⟩, hbS⟩ := HST.out w5 (.int .i64 0) (.int .i64 0) (.string ⟨#[]⟩) hb15
        go_wp2_with fail
        obtain ⟨t0, t1, t2⟩ := hS.c3
        refine bodyPost_ret (v := .tuple #[.agg #[.int .i64 0, .int .i64 0, .string ⟨#[]⟩], .int .i64 6]) (by simp [results, Tryz.results15, go_sem, t0, t1, t2]) rfl ?_
        exact ⟨by rw [HR.out]; rfl, hbS⟩

      | some a =>
        obtain rfl : v = a := hv a rfl
        have HR : Hid (evalE vs vals x = (v, 0)) := HE2.out
        obtain ⟨⟨k0, k1, k2⟩, hS, ⟨y0, y1, y2⟩, hbS⟩ := HST.out w5 (.int .i64 v.kind) (.int .i64 v.n) (.string v.s) hb15
        go_wp2_with fail
        obtain ⟨t0, t1, t2⟩ := hS.c3
        refine bodyPost_ret (v := .tuple #[.agg #[.int .i64 v.kind, .int .i64 v.n, .string v.s], .int .i64 0]) (by simp [results, Tryz.results15, go_sem, t0, t1, t2]) rfl ?_
        exact ⟨by rw [HR.out], hbS⟩

    · have HR : Hid (evalE vs vals x = (noV, 11)) := by show _ = _; rw [HE.out, if_neg (by rw [HG.out]; simp), if_neg hin]
      clear hx1 hv1 hw1 hx3 hv3 hw3 HE
      generalize inAllE vs vals = p at *
      obtain ⟨b, z⟩ := p
      dsimp only at *
      have HG2 : Hid (∀ Q : Prop, ((z != 0) = true → Q) → ((z != 0) = false → b = false → Q) → Q) := by
        intro Q a1 a2
        by_cases hz : z = 0
        · refine a2 (by simp [hz]) ?_
          cases b
          · rfl
          · exact absurd ⟨hz, rfl⟩ hin
        · exact a1 (by simpa using hz)
      clear hin
      refine HG2.out _ (fun b1 => ?_) (fun b1 b2 => ?_)
      all_goals
        try subst b2
        obtain ⟨⟨k0, k1, k2⟩, hS, ⟨y0, y1, y2⟩, hbS⟩ := HST.out w3 (.int .i64 0) (.int .i64 0) (.string ⟨#[]⟩) hb13
        go_wp2_with fail
        obtain ⟨t0, t1, t2⟩ := hS.c3
        refine bodyPost_ret (v := .tuple #[.agg #[.int .i64 0, .int .i64 0, .string ⟨#[]⟩], .int .i64 11]) (by simp [results, Tryz.results15, go_sem, t0, t1, t2]) rfl ?_
        exact ⟨by rw [HR.out]; rfl, hbS⟩

  · have HR : Hid (evalE vs vals x = (noV, (givenE vs x).2)) := by show _ = _; rw [HE.out, if_pos hg]
    have b1 : ((givenE vs x).2 != 0) = true := by simpa using hg
    clear hx1 hv1 hw1 HE hg
    generalize (givenE vs x).2 = z at *
    generalize (givenE vs x).1 = gk at *
    obtain ⟨⟨k0, k1, k2⟩, hS, ⟨y0, y1, y2⟩, hbS⟩ := HST.out w2 (.int .i64 0) (.int .i64 0) (.string ⟨#[]⟩) hb2
    go_wp2_with fail
    obtain ⟨t0, t1, t2⟩ := hS.c3
    refine bodyPost_ret (v := .tuple #[.agg #[.int .i64 0, .int .i64 0, .string ⟨#[]⟩], .int .i64 z]) (by simp [results, Tryz.results15, go_sem, t0, t1, t2]) rfl ?_
    exact ⟨by rw [HR.out]; rfl, hbS⟩
end Go.Proofs.YtijmnenojbfdnaaGreatDoor

namespace Go.Proofs.YtijmnenojbfdnaaGreatDoor
open Go.RowKit
def ms (l : List Var) (x : Ex) (d : List (List Val)) : List (List Val) := d.filter (isM l x)
theorem ms_yes {l : List Var} {x : Ex} {d : List (List Val)} {v : List Val} (h : isM l x v = true) : ms l x (d ++ [v]) = ms l x d ++ [v] := by unfold ms; rw [List.filter_append]; simp [h]
theorem ms_no {l : List Var} {x : Ex} {d : List (List Val)} {v : List Val} (h : isM l x v = false) : ms l x (d ++ [v]) = ms l x d := by unfold ms; rw [List.filter_append]; simp [h]
theorem ms_len (l : List Var) (x : Ex) (d : List (List Val)) : (ms l x d).length ≤ d.length := List.length_filter_le _ _
structure MdI (l : List Var) (x : Ex) (n B g c : Nat) (Av Ax : Option Addr) (cv cx : Nat) (d : List (List Val)) (w : World) : Prop where
  bv : Blk w g 22 #[.slice Av l.length cv]
  bx : Blk w (g + 1) 28 #[.int .i64 x.op, .int .i64 x.v.kind, .int .i64 x.v.n, .string x.v.s, .string x.s, .slice Ax x.l.length cx]
  hv : SlX (Lt B) w (.slice Av l.length cv) l
  hx : IsEx n (Lt B) w (exV x (.slice Ax x.l.length cx)) x
  cnt : Blk w c 3 #[.int .i64 ((ms l x d).length : Int)]
  fst : ∃ fv, Blk w (c + 1) 23 #[fv] ∧ SlV (DT c (c + 1) w) w fv ((ms l x d).head?.getD [])
theorem MdI.now {l : List Var} {x : Ex} {n B g c : Nat} {Av Ax : Option Addr} {cv cx : Nat} {d : List (List Val)} {w w' : World} (h : MdI l x n B g c Av Ax cv cx d w) (hBg : B ≤ g) (hb : Below w.heap.size w w') : MdI l x n B g c Av Ax cv cx d w' := by
  have hB : B ≤ w.heap.size := by have := h.bv.lt; omega
  obtain ⟨fv, h1, h2⟩ := h.fst
  exact ⟨h.bv.now hb, h.bx.now hb, Sl.below h.hv RVar.kept (hb.mono hB) (Nat.le_refl _), h.hx.below (hb.mono hB) (Nat.le_refl _), h.cnt.now hb, fv, h1.now hb, Sl.keep h2 (fun _ _ _ _ _ _ _ _ h => h) (DT.up hb.size) (Two.of_below hb).same⟩
theorem MdI.put {l : List Var} {x : Ex} {n B g c : Nat} {Av Ax : Option Addr} {cv cx : Nat} {d d' : List (List Val)} {w w' : World} (h : MdI l x n B g c Av Ax cv cx d w) (hBg : B ≤ g) (hgc : g + 2 ≤ c) (hT : Two c (c + 1) w w')
    (hc : Blk w' c 3 #[.int .i64 ((ms l x d').length : Int)]) (hf : ∃ fv, Blk w' (c + 1) 23 #[fv] ∧ SlV (DT c (c + 1) w') w' fv ((ms l x d').head?.getD [])) : MdI l x n B g c Av Ax cv cx d' w' := by
  have hB : B ≤ w.heap.size := by have := h.bv.lt; omega
  have hb := hT.below hB (show B ≤ c by omega) (show B ≤ c + 1 by omega)
  have g1 := h.bv.lt
  have g2 := h.bx.lt
  exact ⟨(hT.block g g1 (by omega) (by omega)).trans h.bv, (hT.block (g + 1) g2 (by omega) (by omega)).trans h.bx, Sl.below h.hv RVar.kept hb (Nat.le_refl _), h.hx.below hb (Nat.le_refl _), hc, hf⟩
set_option maxHeartbeats 2000000 in
set_option maxRecDepth 100000 in
theorem models1_any (l : List Var) (x : Ex) (n B g c : Nat) (Av Ax : Option Addr) (cv cx : Nat) (hok : okX x = true) (hty : (typX l x).2 = 0) (hBg : B ≤ g) (hgc : g + 2 ≤ c) (hp : prodL l ≤ 10000) (h8 : l.length ≤ 8) (d : List (List Val)) (v : List Val) (vv : Value) (w : World)
    (hI : MdI l x n B g c Av Ax cv cx d w) (hd : d.length < prodL l) (hgood : Good l v) (hvv : SlV (DT c (c + 1) w) w vv v) :
    Calls Tryz.prog 63 #[vv, .pointer (some ⟨g, 0, none⟩), .pointer (some ⟨g + 1, 0, none⟩), .pointer (some ⟨c, 0, none⟩), .pointer (some ⟨c + 1, 0, none⟩)] w
      fun e w' => e = .returned (.bool true) ∧ MdI l x n B g c Av Ax cv cx (d ++ [v]) w' ∧ Two c (c + 1) w w' := by
  have hBw : B ≤ w.heap.size := by have := hI.bv.lt; omega
  have hev := Lib.hid (eval_any n l v x w (.slice Av l.length cv) vv (exV x (.slice Ax x.l.length cx)) ⟨Sl.below hI.hv RVar.kept (Below.refl _ _) hBw, hvv.lt, hI.hx.below (Below.refl _ _) hBw, hok, hty, hgood.asg⟩)
  have HIS : Hid (isM l x v = match evX l v x with | some a => decide (a.n = 1) | none => false) := rfl
  have c0 := hI.bv.c1
  obtain ⟨q0, q1, q2, q3, q4, q5⟩ := hI.bx.c6
  go_enter Tryz.func63, Tryz.ntmps63
  go_wp2_with fail
  (with_reducible refine hev.out.mono ?_)
  rintro e w2 ⟨a, rfl, ha, hb2⟩
  have hI2 := hI.now hBg hb2
  have hT2 : Two c (c + 1) w w2 := Two.of_below hb2
  have hb3 := bone w2 (.cells #[.int .i64 a.kind, .int .i64 a.n, .string a.s] 25)
  have hA3 := Blk.new w2 25 #[.int .i64 a.kind, .int .i64 a.n, .string a.s]
  have hI3 := hI2.now hBg hb3
  have hT3 : Two c (c + 1) w _ := hT2.trans (Two.of_below hb3)
  have hvv3 : SlV (DT c (c + 1) _) _ vv v := Sl.keep hvv (fun _ _ _ _ _ _ _ _ h => h) (DT.up hT3.size) hT3.same
  clear c0 q0 q1 q2 q3 q4 q5 hev hT2 hI2 hb2 hvv hI
  go_upto_region 2 with fail
  generalize hw3 : w2.alloc (.cells #[.int .i64 a.kind, .int .i64 a.n, .string a.s] 25) = w3 at *
  clear hw3 hb3
  obtain ⟨f0, f1, f2⟩ := hA3.c3
  have hcl := ms_len l x d
  have c2 := hI3.cnt.c1
  have fz2 := hI3.cnt.frozen 0
  cases hr : evX l v x with
  | none =>
    rw [hr] at HIS
    have hno : Hid (isM l x v = false) := HIS.out
    clear hr
    go_wp2_with fail
    go_ret
    obtain ⟨fv, h1, h2⟩ := hI3.fst
    exact ⟨rfl, hI3.put hBg hgc (Two.refl _ _ _) (by rw [ms_no hno.out]; exact hI3.cnt) (by rw [ms_no hno.out]; exact hI3.fst), hT3⟩
  | some a' =>
    obtain rfl : a = a' := ha a' hr
    rw [hr] at HIS
    by_cases h1 : a.n = 1
    · have hyes : Hid (isM l x v = true) := by show _ = _; rw [HIS.out]; exact decide_eq_true h1
      have h1' : (a.n == 1) = true := by rw [h1]; rfl
      clear hr
      have hlen1 : Hid ((ms l x (d ++ [v])).length = (ms l x d).length + 1) := by show _ = _; rw [ms_yes hyes.out, List.length_append]; rfl
      have hhd : Hid ((ms l x (d ++ [v])).head?.getD [] = if (ms l x d).length = 0 then v else (ms l x d).head?.getD []) := by
        show _ = _
        rw [ms_yes hyes.out]
        cases hm : ms l x d with
        | nil => rfl
        | cons a b => rw [if_neg (by simp)]; rfl
      obtain ⟨fv, hF, hfv⟩ := hI3.fst
      have hFF := hF
      have hm1 : (ms l x d).length ≤ 10000 := by omega
      clear HIS hcl
      generalize (ms l x d).length = m at *
      generalize (ms l x d).head?.getD [] = fs at *
      have hC3 := hI3.cnt
      have hcs := hI3.cnt.set_ 0 (.int .i64 ((m : Int) + 1))
      have hT4 : Two c (c + 1) w3 (w3.setCell ⟨c, 0, none⟩ (.int .i64 ((m : Int) + 1))) := (Two.refl _ _ _).set_g 0 _
      have hF4 := hF.far (p := ⟨c, 0, none⟩) (show c + 1 ≠ c by omega) (.int .i64 ((m : Int) + 1))
      have hfv4 : SlV (DT c (c + 1) _) _ fv fs := Sl.keep hfv (fun _ _ _ _ _ _ _ _ h => h) (DT.up hT4.size) hT4.same
      have hvv4 : SlV (DT c (c + 1) _) _ vv v := Sl.keep hvv3 (fun _ _ _ _ _ _ _ _ h => h) (DT.up hT4.size) hT4.same
      have hsz : (w3.setCell ⟨c, 0, none⟩ (.int .i64 ((m : Int) + 1))).heap.size = w3.heap.size := by simp
      have hCC : Blk (w3.setCell ⟨c, 0, none⟩ (.int .i64 ((m : Int) + 1))) c 3 #[.int .i64 ((m : Int) + 1)] := hcs
      clear hcs hF hfv hvv3
      go_upto_region 4 with fail
      generalize hw4 : w3.setCell ⟨c, 0, none⟩ (.int .i64 ((m : Int) + 1)) = w4 at *
      clear hw4
      have c4 := hCC.c1
      by_cases hm0 : m = 0
      · have hmb : ((m : Int) + 1 == 1) = true := by rw [hm0]; rfl
        have hmb' : ((m : Int) + 1) ≤ 1 := by omega
        have hmb2 : 1 ≤ ((m : Int) + 1) := by omega
        have hHD : Hid ((ms l x (d ++ [v])).head?.getD [] = v) := by show _ = _; rw [hhd.out, if_pos hm0]
        have HM0 := Lib.hid hm0
        clear hm0
        have hcl := cloneV vv v w4 hvv4.lt (by have := hgood.len; omega)
        have HCL := Lib.hid hcl
        clear hcl
        go_wp2_with fail
        (with_reducible refine HCL.out.mono ?_)
        rintro e w5 ⟨ov, rfl, hown, hb5⟩
        have hov := hown.sl hvv4.fits
        obtain ⟨Ao, co, rfl, o1, o2, hov⟩ := hov.open_
        have hC5 := hCC.now hb5
        have hF5 := hF4.now hb5
        have hov5 := hov.two hC5 hF5
        have fz3 := hF5.frozen 0
        have d3 := hF5.c1
        have hT5 : Two c (c + 1) w5 (w5.setCell ⟨c + 1, 0, none⟩ (.slice Ao v.length co)) := (Two.refl _ _ _).set_h 0 _
        have hCT := hC5.far (p := ⟨c + 1, 0, none⟩) (show c ≠ c + 1 by omega) (.slice Ao v.length co)
        have hFT : Blk _ (c + 1) 23 #[.slice Ao v.length co] := hF5.set_ 0 (.slice Ao v.length co)
        have hovT : SlV (DT c (c + 1) _) _ (.slice Ao v.length co) v := Sl.keep hov5 (fun _ _ _ _ _ _ _ _ h => h) (DT.up hT5.size) hT5.same
        clear c4 HCL
        go_wp2_with fail
        go_ret
        have hTT := (hT4.trans (Two.of_below hb5)).trans hT5
        exact ⟨rfl, hI3.put hBg hgc hTT (by rw [hlen1.out]; exact hCT) (by rw [hHD.out]; exact ⟨_, hFT, hovT⟩), hT3.trans hTT⟩
      · have hmb : ((m : Int) + 1 == 1) = false := by simp; omega
        have hHD : Hid ((ms l x (d ++ [v])).head?.getD [] = fs) := by show _ = _; rw [hhd.out, if_neg hm0]
        have HM0 := Lib.hid hm0
        clear hm0
        go_wp2_with fail
        go_ret
        exact ⟨rfl, hI3.put hBg hgc hT4 (by rw [hlen1.out]; exact hCC) (by rw [hHD.out]; exact ⟨_, hF4, hfv4⟩), hT3.trans hT4⟩
    · have hno : Hid (isM l x v = false) := by show _ = _; rw [HIS.out]; exact decide_eq_false h1
      have h1' : (a.n == 1) = false := by simpa using h1
      clear hr
      go_wp2_with fail
      go_ret
      exact ⟨rfl, hI3.put hBg hgc (Two.refl _ _ _) (by rw [ms_no hno.out]; exact hI3.cnt) (by rw [ms_no hno.out]; exact hI3.fst), hT3⟩
def RetIVE (r : Int × List Val × Int) (w : World) (e : Ending) (w' : World) : Prop := ∃ v, e = .returned (.tuple #[.int .i64 r.1, v, .int .i64 r.2.2]) ∧ SlV (Lt w'.heap.size) w' v r.2.1 ∧ Below w.heap.size w w'
theorem RetIVE.none_ {r : Int × List Val × Int} {w w' : World} {e : Int} (h : r = (0, [], e)) (hb : Below w.heap.size w w') : RetIVE r w (.returned (.tuple #[.int .i64 0, .slice none 0 0, .int .i64 e])) w' := by
  subst h; exact ⟨_, rfl, Sl.none_, hb⟩
set_option maxHeartbeats 2000000 in
set_option maxRecDepth 100000 in
theorem models_any (n : Nat) (l : List Var) (x : Ex) (uv u : Value) (w : World) (hvs : SlX (Lt w.heap.size) w uv l) (hx : IsEx n (Lt w.heap.size) w u x) (hl : l.length ≤ 1000000) :
    Calls Tryz.prog 25 #[uv, u] w (RetIVE (modelsE l x) w) := by
  have hxx := hx
  obtain ⟨Av, cv, rfl, v1, v2, hvs⟩ := hvs.open_
  obtain ⟨lv, rfl, _, Ax, cx, rfl⟩ := hx.cells
  have hb := bbox (bone w (.cells #[.slice Av l.length cv] 22)) (.cells #[.int .i64 x.op, .int .i64 x.v.kind, .int .i64 x.v.n, .string x.v.s, .string x.s, .slice Ax x.l.length cx] 28)
  have hBv := (Blk.new w 22 #[.slice Av l.length cv]).alloc (.cells #[.int .i64 x.op, .int .i64 x.v.kind, .int .i64 x.v.n, .string x.v.s, .string x.s, .slice Ax x.l.length cx] 28)
  have hBx := Blk.new_at (t := 28) (cs := #[.int .i64 x.op, .int .i64 x.v.kind, .int .i64 x.v.n, .string x.v.s, .string x.s, .slice Ax x.l.length cx]) (w := w.alloc (.cells #[.slice Av l.length cv] 22)) (s := w.heap.size + 1) (World.size_alloc _ _)
  have hx1 := hxx.now hb
  have hv1 := hvs.now hb
  have hsz1 : ((w.alloc (.cells #[.slice Av l.length cv] 22)).alloc (.cells #[.int .i64 x.op, .int .i64 x.v.kind, .int .i64 x.v.n, .string x.v.s, .string x.s, .slice Ax x.l.length cx] 28)).heap.size = w.heap.size + 2 := by rw [World.size_alloc, World.size_alloc]
  have HG := Lib.hid (given_any n l x _ _ _ hv1 hx1 hl)
  have HE : Hid (modelsE l x = if (givenE l x).2 ≠ 0 then (0, [], (givenE l x).2) else if (givenE l x).1 ≠ 1 then (0, [], 11) else if plentyB l then (0, [], 13) else (((((asgL l).filter (isM l x)).length : Nat) : Int), ((asgL l).filter (isM l x)).head?.getD [], 0)) := rfl
  have HS1 := Lib.hid hsz1
  have HGO := Lib.hid (fun h => given_ok (vs := l) (x := x) h)
  have HVS := Lib.hid hvs
  have HXX := Lib.hid hxx
  clear hx hvs hxx hsz1
  go_enter Tryz.func25, Tryz.ntmps25
  go_upto_region 1 with fail
  generalize hww : (w.alloc (.cells #[.slice Av l.length cv] 22)).alloc (.cells #[.int .i64 x.op, .int .i64 x.v.kind, .int .i64 x.v.n, .string x.v.s, .string x.s, .slice Ax x.l.length cx] 28) = w1 at *
  clear hww
  have b0 := hBv.c1
  obtain ⟨q0, q1, q2, q3, q4, q5⟩ := hBx.c6
  go_wp2_with fail
  (with_reducible refine HG.out.mono ?_)
  rintro e w2 ⟨rfl, hfit, hb2⟩
  have hbw2 := bthen hb hb2
  have hv2 := hv1.now hb2
  have hBv2 := hBv.now hb2
  have hBx2 := hBx.now hb2
  clear HG b0 q0 q1 q2 q3 q4 q5
  have b0 := hBv2.c1
  by_cases hg : (givenE l x).2 = 0
  · obtain ⟨hvx, hvv, hty⟩ := HGO.out hg
    have HG0 := Lib.hid hg
    rw [hg]
    clear hg
    by_cases hk : (givenE l x).1 = 1
    · have HK := Lib.hid hk
      rw [hk]
      clear hk hfit
      have HPL := Lib.hid (plenty_any l _ w2 hv2 hvv)
      have HVV := Lib.hid hvv
      clear hvv
      go_wp2_with fail
      (with_reducible refine HPL.out.mono ?_)
      rintro e w3 ⟨rfl, hb3⟩
      cases hpl : plentyB l
      · have HR : Hid (modelsE l x = ((((ms l x (asgL l)).length : Nat) : Int), (ms l x (asgL l)).head?.getD [], 0)) := by
          show _ = _
          rw [HE.out, if_neg (by rw [HG0.out]; simp), if_neg (by rw [HK.out]; simp), hpl, if_neg Bool.false_ne_true]; rfl
        have hp1 : prodL l ≤ 10000 := by unfold plentyB at hpl; rw [decide_eq_false_iff_not] at hpl; omega
        have HP1 := Lib.hid hp1
        have hBv3 := hBv2.now hb3
        have hBx3 := hBx2.now hb3
        have hbw3 := bthen hbw2 hb3
        have h8 := vars_len HVV.out
        clear b0 hpl hp1 HE HPL hv2 hBv2 hBx2 hv1 hx1 hBv hBx
        have b0 := hBv3.c1
        have hb4 := bbox (bone w3 (.cells #[.int .i64 0] 3)) (.cells #[.slice none 0 0] 23)
        have hC4 := (Blk.new w3 3 #[.int .i64 0]).alloc (.cells #[.slice none 0 0] 23)
        have hF4 := Blk.new_at (t := 23) (cs := #[.slice none 0 0]) (w := w3.alloc (.cells #[.int .i64 0] 3)) (s := w3.heap.size + 1) (World.size_alloc _ _)
        go_upto_region 10 with fail
        generalize hw4 : (w3.alloc (.cells #[.int .i64 0] 3)).alloc (.cells #[.slice none 0 0] 23) = w4 at *
        clear hw4
        have hBv4 := hBv3.now hb4
        have hBx4 := hBx3.now hb4
        have hbw4 := bthen hbw3 hb4
        have hg3 : w.heap.size + 2 ≤ w3.heap.size := hBx3.lt
        have hg4 : w3.heap.size + 2 ≤ w4.heap.size := hF4.lt
        have hI : MdI l x n w.heap.size w.heap.size w3.heap.size Av Ax cv cx [] w4 :=
          ⟨hBv4, hBx4, Sl.below HVS.out RVar.kept hbw4 (Nat.le_refl _), HXX.out.below hbw4 (Nat.le_refl _), hC4, _, hF4, Sl.none_⟩
        have hVis : Visits l 63 #[.pointer (some ⟨w.heap.size, 0, none⟩), .pointer (some ⟨w.heap.size + 1, 0, none⟩), .pointer (some ⟨w3.heap.size, 0, none⟩), .pointer (some ⟨w3.heap.size + 1, 0, none⟩)] w3.heap.size (w3.heap.size + 1) (fun _ => true) (MdI l x n w.heap.size w.heap.size w3.heap.size Av Ax cv cx) :=
          ⟨fun z w => enters_of Tryz.func63 (by kernel_rfl) rfl _ w, fun d W W' h hb => h.now (Nat.le_refl _) hb, fun d W h => ⟨⟨_, _, h.cnt⟩, by obtain ⟨fv, h1, _⟩ := h.fst; exact ⟨_, _, h1⟩⟩,
            fun d v vv W h hd hg hs => models1_any l x n w.heap.size w.heap.size w3.heap.size Av Ax cv cx (valid_ok hvx) hty (Nat.le_refl _) hg3 HP1.out h8 d v vv W h hd hg hs⟩
        have hec := each_any l _ _ _ _ _ _ hVis (.slice Av l.length cv) w4 w.heap.size HVV.out hbw4.size (by omega) (by omega) hI.hv hI
        have HEC := Lib.hid hec
        have b4 := hBv4.c1
        have c4 := hC4.c1
        have d4 := hF4.c1
        clear hec hVis hI b0
        go_wp2_with fail
        (with_reducible refine HEC.out.mono ?_)
        rintro e w5 ⟨rfl, hI5, hT5⟩
        obtain ⟨fv, hF5, hfv5⟩ := hI5.fst
        have hfl := hfv5.lt
        obtain ⟨Af, cf, rfl, _, _, hfl⟩ := hfl.open_
        have e5 := hI5.cnt.c1
        have e6 := hF5.c1
        have hbw5 : Below w.heap.size w w5 := hbw4.trans (hT5.below hbw4.size (by omega) (by omega))
        clear b4 c4 d4 HEC
        go_wp2_with fail
        go_quiet (fail)
        go_wp2_with fail
        go_ret3
        rw [HR.out]
        exact ⟨_, rfl, hfl, bdrawn hbw5 _⟩
      · have HR : Hid (modelsE l x = (0, [], 13)) := by show _ = _; rw [HE.out, if_neg (by rw [HG0.out]; simp), if_neg (by rw [HK.out]; simp), hpl, if_pos rfl]
        go_wp2_with fail
        go_ret3
        exact RetIVE.none_ HR.out (bthen hbw2 hb3)
    · have HR : Hid (modelsE l x = (0, [], 11)) := by show _ = _; rw [HE.out, if_neg (by rw [HG0.out]; simp), if_pos hk]
      have hk' : ((givenE l x).1 != 1) = true := by simpa using hk
      clear hk
      generalize (givenE l x).1 = gk at *
      go_wp2_with fail
      go_ret3
      exact RetIVE.none_ HR.out hbw2
  · have HR : Hid (modelsE l x = (0, [], (givenE l x).2)) := by show _ = _; rw [HE.out, if_pos hg]
    have hk' : ((givenE l x).2 != 0) = true := by simpa using hg
    clear hg HE
    generalize (givenE l x).2 = ge at *
    generalize (givenE l x).1 = gk at *
    go_wp2_with fail
    go_ret3
    exact RetIVE.none_ HR.out hbw2
end Go.Proofs.YtijmnenojbfdnaaGreatDoor

namespace Go.Proofs.YtijmnenojbfdnaaGreatDoor
open Go.RowKit
def likeB (l : List Var) (a b : Ex) (v : List Val) : Bool := decide (evX l v a = evX l v b)
def sameD (q : List Val → Bool) (d : List (List Val)) : Bool := (d.getLast?.map q).getD true
def difD (q : List Val → Bool) (d : List (List Val)) : List Val := (d.reverse.find? fun v => !q v).getD []
def equivE (l : List Var) (a b : Ex) : Bool × List Val × Int :=
  if validX b = false then (false, [], 1)
  else if (givenE l a).2 ≠ 0 then (false, [], (givenE l a).2)
  else if (givenE l b).2 ≠ 0 then (false, [], (givenE l b).2)
  else if (givenE l a).1 ≠ (givenE l b).1 then (false, [], 11)
  else if plentyB l then (false, [], 13)
  else (((asgL l).find? fun v => !likeB l a b v).isNone, ((asgL l).find? fun v => !likeB l a b v).getD [], 0)
theorem sameD_snoc (q : List Val → Bool) (d : List (List Val)) (v : List Val) : sameD q (d ++ [v]) = q v := by unfold sameD; simp
theorem difD_snoc (q : List Val → Bool) (d : List (List Val)) (v : List Val) : difD q (d ++ [v]) = if q v = true then difD q d else v := by
  unfold difD
  rw [List.reverse_append]
  show (List.find? _ (v :: d.reverse)).getD [] = _
  rw [List.find?_cons]
  cases h : q v <;> simp
theorem each_q (l : List Var) (q : List Val → Bool) : ∀ (f : Nat) (v : List Val),
    sameD q (eachL l q f v) = ((eachL l (fun _ => true) f v).find? fun v => !q v).isNone ∧ difD q (eachL l q f v) = ((eachL l (fun _ => true) f v).find? fun v => !q v).getD []
  | 0, v => ⟨rfl, rfl⟩
  | f + 1, v => by
    rw [eachL, eachL, List.find?_cons]
    cases hq : q v
    · simp [sameD, difD, hq]
    · simp only [Bool.true_and, Bool.not_true]
      cases hn : (nextV l v).2
      · simp [sameD, difD, hq]
      · simp only [if_pos]
        obtain ⟨h1, h2⟩ := each_q l q f (nextV l v).1
        rw [← h1, ← h2]
        generalize eachL l q f (nextV l v).1 = r
        refine ⟨?_, ?_⟩
        · unfold sameD
          cases r with
          | nil => simp [hq]
          | cons x r => rw [List.getLast?_cons_cons]
        · unfold difD
          rw [List.reverse_cons, List.find?_append]
          cases h : List.find? (fun v => !q v) r.reverse with
          | none => simp [hq]
          | some x => simp
structure EqI (l : List Var) (x y : Ex) (n B g c : Nat) (Av Ax Ay : Option Addr) (cv cx cy : Nat) (d : List (List Val)) (w : World) : Prop where
  bv : Blk w g 22 #[.slice Av l.length cv]
  bx : Blk w (g + 1) 28 #[.int .i64 x.op, .int .i64 x.v.kind, .int .i64 x.v.n, .string x.v.s, .string x.s, .slice Ax x.l.length cx]
  by_ : Blk w (g + 2) 28 #[.int .i64 y.op, .int .i64 y.v.kind, .int .i64 y.v.n, .string y.v.s, .string y.s, .slice Ay y.l.length cy]
  hv : SlX (Lt B) w (.slice Av l.length cv) l
  hx : IsEx n (Lt B) w (exV x (.slice Ax x.l.length cx)) x
  hy : IsEx n (Lt B) w (exV y (.slice Ay y.l.length cy)) y
  sm : Blk w c 4 #[.bool (sameD (likeB l x y) d)]
  df : ∃ fv, Blk w (c + 1) 23 #[fv] ∧ SlV (DT c (c + 1) w) w fv (difD (likeB l x y) d)
section
variable {l : List Var} {x y : Ex} {n B g c : Nat} {Av Ax Ay : Option Addr} {cv cx cy : Nat} {d d' : List (List Val)} {w w' : World}
theorem EqI.now (h : EqI l x y n B g c Av Ax Ay cv cx cy d w) (hBg : B ≤ g) (hb : Below w.heap.size w w') : EqI l x y n B g c Av Ax Ay cv cx cy d w' := by
  have hB : B ≤ w.heap.size := by have := h.bv.lt; omega
  obtain ⟨fv, h1, h2⟩ := h.df
  exact ⟨h.bv.now hb, h.bx.now hb, h.by_.now hb, Sl.below h.hv RVar.kept (hb.mono hB) (Nat.le_refl _), h.hx.below (hb.mono hB) (Nat.le_refl _), h.hy.below (hb.mono hB) (Nat.le_refl _), h.sm.now hb, fv, h1.now hb, Sl.keep h2 (fun _ _ _ _ _ _ _ _ h => h) (DT.up hb.size) (Two.of_below hb).same⟩
theorem EqI.put (h : EqI l x y n B g c Av Ax Ay cv cx cy d w) (hBg : B ≤ g) (hgc : g + 3 ≤ c) (hT : Two c (c + 1) w w')
    (hc : Blk w' c 4 #[.bool (sameD (likeB l x y) d')]) (hf : ∃ fv, Blk w' (c + 1) 23 #[fv] ∧ SlV (DT c (c + 1) w') w' fv (difD (likeB l x y) d')) : EqI l x y n B g c Av Ax Ay cv cx cy d' w' := by
  have hB : B ≤ w.heap.size := by have := h.bv.lt; omega
  have hb := hT.below hB (show B ≤ c by omega) (show B ≤ c + 1 by omega)
  exact ⟨(hT.block g h.bv.lt (by omega) (by omega)).trans h.bv, (hT.block (g + 1) h.bx.lt (by omega) (by omega)).trans h.bx, (hT.block (g + 2) h.by_.lt (by omega) (by omega)).trans h.by_, Sl.below h.hv RVar.kept hb (Nat.le_refl _), h.hx.below hb (Nat.le_refl _), h.hy.below hb (Nat.le_refl _), hc, hf⟩
end
set_option maxHeartbeats 4000000 in
set_option maxRecDepth 100000 in
theorem equiv1_any (l : List Var) (x y : Ex) (n B g c : Nat) (Av Ax Ay : Option Addr) (cv cx cy : Nat) (hok : okX x = true) (hty : (typX l x).2 = 0) (hok' : okX y = true) (hty' : (typX l y).2 = 0) (hBg : B ≤ g) (hgc : g + 3 ≤ c) (h8 : l.length ≤ 8) (d : List (List Val)) (v : List Val) (vv : Value) (w : World)
    (hI : EqI l x y n B g c Av Ax Ay cv cx cy d w) (hgood : Good l v) (hvv : SlV (DT c (c + 1) w) w vv v) :
    Calls Tryz.prog 66 #[vv, .pointer (some ⟨g, 0, none⟩), .pointer (some ⟨g + 1, 0, none⟩), .pointer (some ⟨g + 2, 0, none⟩), .pointer (some ⟨c, 0, none⟩), .pointer (some ⟨c + 1, 0, none⟩)] w
      fun e w' => e = .returned (.bool (likeB l x y v)) ∧ EqI l x y n B g c Av Ax Ay cv cx cy (d ++ [v]) w' ∧ Two c (c + 1) w w' := by
  have hBw : B ≤ w.heap.size := by have := hI.bv.lt; omega
  have hev := Lib.hid (eval_any n l v x w (.slice Av l.length cv) vv (exV x (.slice Ax x.l.length cx)) ⟨Sl.below hI.hv RVar.kept (Below.refl _ _) hBw, hvv.lt, hI.hx.below (Below.refl _ _) hBw, hok, hty, hgood.asg⟩)
  have HQ : Hid (likeB l x y v = decide (evX l v x = evX l v y)) := rfl
  have c0 := hI.bv.c1
  obtain ⟨q0, q1, q2, q3, q4, q5⟩ := hI.bx.c6
  go_enter Tryz.func66, Tryz.ntmps66
  go_wp2_with fail
  (with_reducible refine hev.out.mono ?_)
  rintro e w2 ⟨a, rfl, ha, hb2⟩
  have hI2 := hI.now hBg hb2
  have hT2 : Two c (c + 1) w w2 := Two.of_below hb2
  have hb3 := bone w2 (.cells #[.int .i64 a.kind, .int .i64 a.n, .string a.s] 25)
  have hA3 := Blk.new w2 25 #[.int .i64 a.kind, .int .i64 a.n, .string a.s]
  have hI3 := hI2.now hBg hb3
  have hT3 : Two c (c + 1) w _ := hT2.trans (Two.of_below hb3)
  have hvv3 : SlV (DT c (c + 1) _) _ vv v := Sl.keep hvv (fun _ _ _ _ _ _ _ _ h => h) (DT.up hT3.size) hT3.same
  have HA := Lib.hid ha
  clear c0 q0 q1 q2 q3 q4 q5 hev hT2 hI2 hb2 hvv hI ha
  go_upto_region 2 with fail
  generalize hw3 : w2.alloc (.cells #[.int .i64 a.kind, .int .i64 a.n, .string a.s] 25) = w3 at *
  clear hw3 hb3
  have hBw3 : B ≤ w3.heap.size := by have := hI3.bv.lt; omega
  have hev := Lib.hid (eval_any n l v y w3 (.slice Av l.length cv) vv (exV y (.slice Ay y.l.length cy)) ⟨Sl.below hI3.hv RVar.kept (Below.refl _ _) hBw3, hvv3.lt, hI3.hy.below (Below.refl _ _) hBw3, hok', hty', hgood.asg⟩)
  have c0 := hI3.bv.c1
  obtain ⟨q0, q1, q2, q3, q4, q5⟩ := hI3.by_.c6
  go_wp2_with fail
  (with_reducible refine hev.out.mono ?_)
  rintro e w4 ⟨b, rfl, hb, hb4⟩
  have hI4 := hI3.now hBg hb4
  have hT4 : Two c (c + 1) w w4 := hT3.trans (Two.of_below hb4)
  have hA4 := hA3.now hb4
  have hb5 := bone w4 (.cells #[.int .i64 b.kind, .int .i64 b.n, .string b.s] 25)
  have hB5 := Blk.new w4 25 #[.int .i64 b.kind, .int .i64 b.n, .string b.s]
  have hA5 := hA4.now hb5
  have hI5 := hI4.now hBg hb5
  have hT5 : Two c (c + 1) w _ := hT4.trans (Two.of_below hb5)
  have hvv5 : SlV (DT c (c + 1) _) _ vv v := Sl.keep (Sl.keep hvv3 (fun _ _ _ _ _ _ _ _ h => h) (DT.up hb4.size) (Two.of_below (g := c) (h := c + 1) hb4).same) (fun _ _ _ _ _ _ _ _ h => h) (DT.up hb5.size) (Two.of_below (g := c) (h := c + 1) hb5).same
  have HB := Lib.hid hb
  clear c0 q0 q1 q2 q3 q4 q5 hev hT4 hI4 hb4 hvv3 hI3 hb hA3 hA4 hT3
  go_upto_region 3 with fail
  generalize hw5 : w4.alloc (.cells #[.int .i64 b.kind, .int .i64 b.n, .string b.s] 25) = w5 at *
  clear hw5 hb5
  obtain ⟨a0, a1, a2⟩ := hA5.c3
  obtain ⟨b0, b1, b2⟩ := hB5.c3
  have sz0 := hI5.sm.c1
  have sz1 := hI5.sm.frozen 0
  have hne := fun W => run_eqV W a b
  cases hr1 : evX l v x with
  | none =>
    cases hr2 : evX l v y with
    | none =>
      have HZ : Hid (likeB l x y v = true) := by show _ = _; rw [HQ.out, hr1, hr2]; rfl
      clear hr1 hr2 hne
      go_upto_region 4 with fail
      have hCS : Blk (w5.setCell ⟨c, 0, none⟩ (.bool true)) c 4 #[.bool true] := hI5.sm.set_ 0 (.bool true)
      have hT6 : Two c (c + 1) w5 (w5.setCell ⟨c, 0, none⟩ (.bool true)) := (Two.refl _ _ _).set_g 0 _
      obtain ⟨fv, hF, hfv⟩ := hI5.df
      have hF6 := hF.far (p := ⟨c, 0, none⟩) (show c + 1 ≠ c by omega) (.bool true)
      have hfv6 : SlV (DT c (c + 1) _) _ fv _ := Sl.keep hfv (fun _ _ _ _ _ _ _ _ h => h) (DT.up hT6.size) hT6.same
      have hvv6 : SlV (DT c (c + 1) _) _ vv v := Sl.keep hvv5 (fun _ _ _ _ _ _ _ _ h => h) (DT.up hT6.size) hT6.same
      clear hF hfv sz0 sz1 a0 a1 a2 b0 b1 b2
      generalize hw6 : w5.setCell ⟨c, 0, none⟩ (.bool true) = w6 at *
      clear hw6
      have c6 := hCS.c1
      have hSD : Hid (sameD (likeB l x y) (d ++ [v]) = true) := by show _ = _; rw [sameD_snoc, HZ.out]
      have hDD : Hid (difD (likeB l x y) (d ++ [v]) = difD (likeB l x y) d) := by show _ = _; rw [difD_snoc, HZ.out, if_pos rfl]
      go_wp2_with fail
      go_ret
      exact ⟨by rw [HZ.out]; rfl, hI5.put hBg hgc hT6 (by rw [hSD.out]; exact hCS) (by rw [hDD.out]; exact ⟨_, hF6, hfv6⟩), hT5.trans hT6⟩
    | some b' =>
      have HZ : Hid (likeB l x y v = false) := by show _ = _; rw [HQ.out, hr1, hr2]; rfl
      clear hr1 hr2 hne
      go_upto_region 4 with fail
      have hCS : Blk (w5.setCell ⟨c, 0, none⟩ (.bool false)) c 4 #[.bool false] := hI5.sm.set_ 0 (.bool false)
      have hT6 : Two c (c + 1) w5 (w5.setCell ⟨c, 0, none⟩ (.bool false)) := (Two.refl _ _ _).set_g 0 _
      obtain ⟨fv, hF, hfv⟩ := hI5.df
      have hF6 := hF.far (p := ⟨c, 0, none⟩) (show c + 1 ≠ c by omega) (.bool false)
      have hfv6 : SlV (DT c (c + 1) _) _ fv _ := Sl.keep hfv (fun _ _ _ _ _ _ _ _ h => h) (DT.up hT6.size) hT6.same
      have hvv6 : SlV (DT c (c + 1) _) _ vv v := Sl.keep hvv5 (fun _ _ _ _ _ _ _ _ h => h) (DT.up hT6.size) hT6.same
      clear hF hfv sz0 sz1 a0 a1 a2 b0 b1 b2
      generalize hw6 : w5.setCell ⟨c, 0, none⟩ (.bool false) = w6 at *
      clear hw6
      have c6 := hCS.c1
      have hSD : Hid (sameD (likeB l x y) (d ++ [v]) = false) := by show _ = _; rw [sameD_snoc, HZ.out]
      have hDD : Hid (difD (likeB l x y) (d ++ [v]) = v) := by show _ = _; rw [difD_snoc, HZ.out, if_neg Bool.false_ne_true]
      have HCL := Lib.hid (cloneV vv v w6 hvv6.lt (by have := hgood.len; omega))
      go_wp2_with fail
      (with_reducible refine HCL.out.mono ?_)
      rintro e w7 ⟨ov, rfl, hown, hb7⟩
      have hov := hown.sl hvv6.fits
      obtain ⟨Ao, co, rfl, o1, o2, hov⟩ := hov.open_
      have hC7 := hCS.now hb7
      have hF7 := hF6.now hb7
      have hov7 := hov.two hC7 hF7
      have fz3 := hF7.frozen 0
      have d3 := hF7.c1
      have e3 := hC7.c1
      have hT8 : Two c (c + 1) w7 (w7.setCell ⟨c + 1, 0, none⟩ (.slice Ao v.length co)) := (Two.refl _ _ _).set_h 0 _
      have hCT := hC7.far (p := ⟨c + 1, 0, none⟩) (show c ≠ c + 1 by omega) (.slice Ao v.length co)
      have hFT : Blk _ (c + 1) 23 #[.slice Ao v.length co] := hF7.set_ 0 (.slice Ao v.length co)
      have hovT : SlV (DT c (c + 1) _) _ (.slice Ao v.length co) v := Sl.keep hov7 (fun _ _ _ _ _ _ _ _ h => h) (DT.up hT8.size) hT8.same
      have hTT := (hT6.trans (Two.of_below hb7)).trans hT8
      have c8 := hCT.c1
      clear c6 HCL
      go_wp2_with fail
      go_ret
      exact ⟨by rw [HZ.out]; rfl, hI5.put hBg hgc hTT (by rw [hSD.out]; exact hCT) (by rw [hDD.out]; exact ⟨_, hFT, hovT⟩), hT5.trans hTT⟩
  | some a' =>
    cases hr2 : evX l v y with
    | none =>
      have HZ : Hid (likeB l x y v = false) := by show _ = _; rw [HQ.out, hr1, hr2]; rfl
      clear hr1 hr2 hne
      go_upto_region 4 with fail
      have hCS : Blk (w5.setCell ⟨c, 0, none⟩ (.bool false)) c 4 #[.bool false] := hI5.sm.set_ 0 (.bool false)
      have hT6 : Two c (c + 1) w5 (w5.setCell ⟨c, 0, none⟩ (.bool false)) := (Two.refl _ _ _).set_g 0 _
      obtain ⟨fv, hF, hfv⟩ := hI5.df
      have hF6 := hF.far (p := ⟨c, 0, none⟩) (show c + 1 ≠ c by omega) (.bool false)
      have hfv6 : SlV (DT c (c + 1) _) _ fv _ := Sl.keep hfv (fun _ _ _ _ _ _ _ _ h => h) (DT.up hT6.size) hT6.same
      have hvv6 : SlV (DT c (c + 1) _) _ vv v := Sl.keep hvv5 (fun _ _ _ _ _ _ _ _ h => h) (DT.up hT6.size) hT6.same
      clear hF hfv sz0 sz1 a0 a1 a2 b0 b1 b2
      generalize hw6 : w5.setCell ⟨c, 0, none⟩ (.bool false) = w6 at *
      clear hw6
      have c6 := hCS.c1
      have hSD : Hid (sameD (likeB l x y) (d ++ [v]) = false) := by show _ = _; rw [sameD_snoc, HZ.out]
      have hDD : Hid (difD (likeB l x y) (d ++ [v]) = v) := by show _ = _; rw [difD_snoc, HZ.out, if_neg Bool.false_ne_true]
      have HCL := Lib.hid (cloneV vv v w6 hvv6.lt (by have := hgood.len; omega))
      go_wp2_with fail
      (with_reducible refine HCL.out.mono ?_)
      rintro e w7 ⟨ov, rfl, hown, hb7⟩
      have hov := hown.sl hvv6.fits
      obtain ⟨Ao, co, rfl, o1, o2, hov⟩ := hov.open_
      have hC7 := hCS.now hb7
      have hF7 := hF6.now hb7
      have hov7 := hov.two hC7 hF7
      have fz3 := hF7.frozen 0
      have d3 := hF7.c1
      have e3 := hC7.c1
      have hT8 : Two c (c + 1) w7 (w7.setCell ⟨c + 1, 0, none⟩ (.slice Ao v.length co)) := (Two.refl _ _ _).set_h 0 _
      have hCT := hC7.far (p := ⟨c + 1, 0, none⟩) (show c ≠ c + 1 by omega) (.slice Ao v.length co)
      have hFT : Blk _ (c + 1) 23 #[.slice Ao v.length co] := hF7.set_ 0 (.slice Ao v.length co)
      have hovT : SlV (DT c (c + 1) _) _ (.slice Ao v.length co) v := Sl.keep hov7 (fun _ _ _ _ _ _ _ _ h => h) (DT.up hT8.size) hT8.same
      have hTT := (hT6.trans (Two.of_below hb7)).trans hT8
      have c8 := hCT.c1
      clear c6 HCL
      go_wp2_with fail
      go_ret
      exact ⟨by rw [HZ.out]; rfl, hI5.put hBg hgc hTT (by rw [hSD.out]; exact hCT) (by rw [hDD.out]; exact ⟨_, hFT, hovT⟩), hT5.trans hTT⟩
    | some b' =>
      obtain rfl : a = a' := HA.out a' hr1
      obtain rfl : b = b' := HB.out b' hr2
      by_cases hab : a = b
      · have HZ : Hid (likeB l x y v = true) := by show _ = _; rw [HQ.out, hr1, hr2, hab]; exact decide_eq_true rfl
        rw [decide_eq_true hab] at hne
        clear hr1 hr2 hab
        go_upto_region 4 with fail
        have hCS : Blk (w5.setCell ⟨c, 0, none⟩ (.bool true)) c 4 #[.bool true] := hI5.sm.set_ 0 (.bool true)
        have hT6 : Two c (c + 1) w5 (w5.setCell ⟨c, 0, none⟩ (.bool true)) := (Two.refl _ _ _).set_g 0 _
        obtain ⟨fv, hF, hfv⟩ := hI5.df
        have hF6 := hF.far (p := ⟨c, 0, none⟩) (show c + 1 ≠ c by omega) (.bool true)
        have hfv6 : SlV (DT c (c + 1) _) _ fv _ := Sl.keep hfv (fun _ _ _ _ _ _ _ _ h => h) (DT.up hT6.size) hT6.same
        have hvv6 : SlV (DT c (c + 1) _) _ vv v := Sl.keep hvv5 (fun _ _ _ _ _ _ _ _ h => h) (DT.up hT6.size) hT6.same
        clear hF hfv sz0 sz1 a0 a1 a2 b0 b1 b2
        generalize hw6 : w5.setCell ⟨c, 0, none⟩ (.bool true) = w6 at *
        clear hw6
        have c6 := hCS.c1
        have hSD : Hid (sameD (likeB l x y) (d ++ [v]) = true) := by show _ = _; rw [sameD_snoc, HZ.out]
        have hDD : Hid (difD (likeB l x y) (d ++ [v]) = difD (likeB l x y) d) := by show _ = _; rw [difD_snoc, HZ.out, if_pos rfl]
        go_wp2_with fail
        go_ret
        exact ⟨by rw [HZ.out]; rfl, hI5.put hBg hgc hT6 (by rw [hSD.out]; exact hCS) (by rw [hDD.out]; exact ⟨_, hF6, hfv6⟩), hT5.trans hT6⟩
      · have HZ : Hid (likeB l x y v = false) := by show _ = _; rw [HQ.out, hr1, hr2]; exact decide_eq_false (fun e => hab (by injection e))
        rw [decide_eq_false hab] at hne
        clear hr1 hr2 hab
        go_upto_region 4 with fail
        have hCS : Blk (w5.setCell ⟨c, 0, none⟩ (.bool false)) c 4 #[.bool false] := hI5.sm.set_ 0 (.bool false)
        have hT6 : Two c (c + 1) w5 (w5.setCell ⟨c, 0, none⟩ (.bool false)) := (Two.refl _ _ _).set_g 0 _
        obtain ⟨fv, hF, hfv⟩ := hI5.df
        have hF6 := hF.far (p := ⟨c, 0, none⟩) (show c + 1 ≠ c by omega) (.bool false)
        have hfv6 : SlV (DT c (c + 1) _) _ fv _ := Sl.keep hfv (fun _ _ _ _ _ _ _ _ h => h) (DT.up hT6.size) hT6.same
        have hvv6 : SlV (DT c (c + 1) _) _ vv v := Sl.keep hvv5 (fun _ _ _ _ _ _ _ _ h => h) (DT.up hT6.size) hT6.same
        clear hF hfv sz0 sz1 a0 a1 a2 b0 b1 b2
        generalize hw6 : w5.setCell ⟨c, 0, none⟩ (.bool false) = w6 at *
        clear hw6
        have c6 := hCS.c1
        have hSD : Hid (sameD (likeB l x y) (d ++ [v]) = false) := by show _ = _; rw [sameD_snoc, HZ.out]
        have hDD : Hid (difD (likeB l x y) (d ++ [v]) = v) := by show _ = _; rw [difD_snoc, HZ.out, if_neg Bool.false_ne_true]
        have HCL := Lib.hid (cloneV vv v w6 hvv6.lt (by have := hgood.len; omega))
        go_wp2_with fail
        (with_reducible refine HCL.out.mono ?_)
        rintro e w7 ⟨ov, rfl, hown, hb7⟩
        have hov := hown.sl hvv6.fits
        obtain ⟨Ao, co, rfl, o1, o2, hov⟩ := hov.open_
        have hC7 := hCS.now hb7
        have hF7 := hF6.now hb7
        have hov7 := hov.two hC7 hF7
        have fz3 := hF7.frozen 0
        have d3 := hF7.c1
        have e3 := hC7.c1
        have hT8 : Two c (c + 1) w7 (w7.setCell ⟨c + 1, 0, none⟩ (.slice Ao v.length co)) := (Two.refl _ _ _).set_h 0 _
        have hCT := hC7.far (p := ⟨c + 1, 0, none⟩) (show c ≠ c + 1 by omega) (.slice Ao v.length co)
        have hFT : Blk _ (c + 1) 23 #[.slice Ao v.length co] := hF7.set_ 0 (.slice Ao v.length co)
        have hovT : SlV (DT c (c + 1) _) _ (.slice Ao v.length co) v := Sl.keep hov7 (fun _ _ _ _ _ _ _ _ h => h) (DT.up hT8.size) hT8.same
        have hTT := (hT6.trans (Two.of_below hb7)).trans hT8
        have c8 := hCT.c1
        clear c6 HCL
        go_wp2_with fail
        go_ret
        exact ⟨by rw [HZ.out]; rfl, hI5.put hBg hgc hTT (by rw [hSD.out]; exact hCT) (by rw [hDD.out]; exact ⟨_, hFT, hovT⟩), hT5.trans hTT⟩
end Go.Proofs.YtijmnenojbfdnaaGreatDoor

namespace Go.Proofs.YtijmnenojbfdnaaGreatDoor
open Go.RowKit
mutual
/-- The leaves that c chooses, replaced by y; but not the second and later parts of an op 13. -/
def putE (c : Ex → Bool) (y : Ex) : Ex → Ex
  | .mk o v s l => .mk o v s (putL c y o 0 l)
def putL (c : Ex → Bool) (y : Ex) (o : Int) (i : Nat) : List Ex → List Ex
  | [] => []
  | z :: l => (if c z && !(decide (o = 13) && decide (0 < i)) then y else putE c y z) :: putL c y o (i + 1) l
end
def putC (c : Ex → Bool) (y : Ex) (o : Int) (i : Nat) (z : Ex) : Ex := if c z && !(decide (o = 13) && decide (0 < i)) then y else putE c y z
theorem putL_nil (c : Ex → Bool) (y : Ex) (o : Int) (i : Nat) : putL c y o i [] = [] := by rw [putL]
theorem putL_cons (c : Ex → Bool) (y : Ex) (o : Int) (i : Nat) (z : Ex) (l : List Ex) : putL c y o i (z :: l) = putC c y o i z :: putL c y o (i + 1) l := by rw [putL]; rfl
theorem putE_eq (c : Ex → Bool) (y x : Ex) : putE c y x = .mk x.op x.v x.s (putL c y x.op 0 x.l) := by cases x; rw [putE]; rfl
theorem putL_len (c : Ex → Bool) (y : Ex) (o : Int) : ∀ (l : List Ex) (i : Nat), (putL c y o i l).length = l.length
  | [], i => by rw [putL_nil]
  | z :: l, i => by rw [putL_cons, List.length_cons, List.length_cons, putL_len c y o l (i + 1)]
theorem putL_get (c : Ex → Bool) (y : Ex) (o : Int) : ∀ (l : List Ex) (i j : Nat), (putL c y o i l)[j]? = l[j]?.map (putC c y o (i + j))
  | [], i, j => by rw [putL_nil]; rfl
  | z :: l, i, 0 => by rw [putL_cons]; rfl
  | z :: l, i, j + 1 => by
    rw [putL_cons, List.getElem?_cons_succ, List.getElem?_cons_succ, putL_get c y o l (i + 1) j]
    rw [show i + 1 + j = i + (j + 1) by omega]
theorem putL_snoc {c : Ex → Bool} {y z : Ex} {o : Int} {l : List Ex} {j : Nat} (h : l[j]? = some z) : (putL c y o 0 l).take (j + 1) = (putL c y o 0 l).take j ++ [putC c y o j z] := by
  have h2 := putL_get c y o l 0 j
  rw [h, Nat.zero_add] at h2
  rw [List.take_add_one, h2]; rfl
section
variable {c : Ex → Bool} {a b : Ex} {l : List Var} {vs : List Val}
theorem putC_v (o : Int) (i : Nat) (z : Ex) (ho : o = 13) (hi : 0 < i) : (putC c a o i z).v = z.v := by
  unfold putC
  rw [if_neg (by simp [ho, hi]), putE_eq]; rfl
theorem putL_vs (o : Int) (ho : o = 13) : ∀ (zs : List Ex) (i : Nat), 0 < i → (putL c a o i zs).map Ex.v = zs.map Ex.v
  | [], i, _ => by rw [putL_nil]
  | z :: zs, i, hi => by rw [putL_cons, List.map_cons, List.map_cons, putC_v o i z ho hi, putL_vs o ho zs (i + 1) (by omega)]
theorem evO_l {x y : Ex} {es : List (Option Val)} (ho : x.op = y.op) (hv : x.v = y.v) (hs : x.s = y.s) (hl : x.op = 13 → ∀ q : Val, ((x.l.drop 1).any fun z => decide (z.v = q)) = ((y.l.drop 1).any fun z => decide (z.v = q))) : evO l vs x es = evO l vs y es := by
  unfold evO
  rw [hv, hs]
  by_cases h13 : x.op = 13
  · have hl := hl h13
    rw [ho] at h13 ⊢
    simp only [hl]
  · rw [ho] at h13 ⊢
    simp only [if_neg h13]
mutual
theorem put_ev (h : evX l vs a = evX l vs b) : ∀ x : Ex, evX l vs (putE c a x) = evX l vs (putE c b x)
  | .mk o v s zs => by
    rw [putE, putE, evX, evX, put_evL h o zs 0]
    refine evO_l rfl rfl rfl fun h13 q => ?_
    have h13 : o = 13 := h13
    subst h13
    show ((putL c a 13 0 zs).drop 1).any _ = ((putL c b 13 0 zs).drop 1).any _
    cases zs with
    | nil => rw [putL_nil, putL_nil]
    | cons z zs =>
      rw [putL_cons, putL_cons]
      show ((putL c a 13 1 zs).any fun y => decide (y.v = q)) = ((putL c b 13 1 zs).any fun y => decide (y.v = q))
      have e1 : ∀ (ys : List Ex), (ys.any fun y => decide (y.v = q)) = ((ys.map Ex.v).any fun u => decide (u = q)) := fun ys => by rw [List.any_map]; rfl
      rw [e1, e1, putL_vs 13 rfl zs 1 (by omega), putL_vs 13 rfl zs 1 (by omega)]
theorem put_evL (h : evX l vs a = evX l vs b) : ∀ (o : Int) (zs : List Ex) (i : Nat), evL l vs (putL c a o i zs) = evL l vs (putL c b o i zs)
  | o, [], i => by rw [putL_nil, putL_nil]
  | o, z :: zs, i => by
    have h1 := put_ev h z
    have h2 := put_evL h o zs (i + 1)
    rw [putL, putL, evL, evL, h2]
    split
    · rw [h]
    · rw [h1]
end
end
theorem each_good {l : List Var} (q : List Val → Bool) : ∀ (f : Nat) (v : List Val), Good l v → ∀ u ∈ eachL l q f v, Good l u
  | 0, v, _, u, hu => by rw [eachL] at hu; cases hu
  | f + 1, v, hv, u, hu => by
    rw [eachL] at hu
    rcases List.mem_cons.1 hu with rfl | hu
    · exact hv
    · split at hu
      · rename_i hc
        rw [Bool.and_eq_true] at hc
        exact each_good q f _ (next_good hv hc.2).1 u hu
      · cases hu
theorem asg_good {l : List Var} (h : varsB l = true) : ∀ u ∈ asgL l, Good l u := each_good _ _ _ (first_good h)
theorem equiv_parts {l : List Var} {a b : Ex} (h : (equivE l a b).2.2 = 0) :
    validX a = true ∧ validX b = true ∧ varsB l = true ∧ (typX l a).2 = 0 ∧ (typX l b).2 = 0 ∧ equivE l a b = (((asgL l).find? fun v => !likeB l a b v).isNone, ((asgL l).find? fun v => !likeB l a b v).getD [], 0) := by
  unfold equivE at h ⊢
  split at h
  · cases h
  rename_i h1
  split at h
  · rename_i h2; exact absurd h h2
  rename_i h2
  split at h
  · rename_i h3; exact absurd h h3
  rename_i h3
  split at h
  · cases h
  rename_i h4
  split at h
  · cases h
  rename_i h5
  have g1 := given_ok (by simpa using h2)
  have g2 := given_ok (by simpa using h3)
  rw [if_neg h1, if_neg h2, if_neg h3, if_neg h4, if_neg h5]
  exact ⟨g1.1, g2.1, g1.2.1, g1.2.2, g2.2.2, rfl⟩
theorem equiv_fail {l : List Var} {a b : Ex} (h : (equivE l a b).2.2 ≠ 0) : (equivE l a b).1 = false ∧ (equivE l a b).2.1 = [] := by
  unfold equivE at h ⊢
  split
  · exact ⟨rfl, rfl⟩
  split
  · exact ⟨rfl, rfl⟩
  split
  · exact ⟨rfl, rfl⟩
  split
  · exact ⟨rfl, rfl⟩
  split
  · exact ⟨rfl, rfl⟩
  · rename_i h1 h2 h3 h4 h5
    rw [if_neg h1, if_neg h2, if_neg h3, if_neg h4, if_neg h5] at h
    exact absurd rfl h
theorem equiv_not {l : List Var} {a b : Ex} (h : (equivE l a b).2.2 = 0) (hn : (equivE l a b).1 = false) :
    ((evalE l (equivE l a b).2.1 a).2 = 0 ∨ (evalE l (equivE l a b).2.1 a).2 = 6) ∧ ((evalE l (equivE l a b).2.1 b).2 = 0 ∨ (evalE l (equivE l a b).2.1 b).2 = 6) ∧ evalE l (equivE l a b).2.1 a ≠ evalE l (equivE l a b).2.1 b := by
  obtain ⟨va, vb, hv, ta, tb, he⟩ := equiv_parts h
  rw [he] at hn ⊢
  cases hf : (asgL l).find? fun v => !likeB l a b v with
  | none => rw [hf] at hn; cases hn
  | some v =>
    have hg := asg_good hv v (List.mem_of_find?_eq_some hf)
    have hne := List.find?_some hf
    unfold likeB at hne
    have hne : evX l v a ≠ evX l v b := by simpa using hne
    show ((evalE l v a).2 = 0 ∨ (evalE l v a).2 = 6) ∧ ((evalE l v b).2 = 0 ∨ (evalE l v b).2 = 6) ∧ evalE l v a ≠ evalE l v b
    rw [evalE_good hg va, evalE_good hg vb, if_neg (by simpa using ta), if_neg (by simpa using tb)]
    cases ha : evX l v a with
    | none =>
      cases hb : evX l v b with
      | none => exact absurd (by rw [ha, hb]) hne
      | some b' => exact ⟨.inr rfl, .inl rfl, fun e => by injection e with _ e; cases e⟩
    | some a' =>
      cases hb : evX l v b with
      | none => exact ⟨.inl rfl, .inr rfl, fun e => by injection e with _ e; cases e⟩
      | some b' => exact ⟨.inl rfl, .inl rfl, fun e => hne (by injection e with e; rw [ha, hb, e])⟩
theorem equiv_yes {l : List Var} {a b : Ex} (h : (equivE l a b).2.2 = 0) (hn : (equivE l a b).1 = true) : (givenE l a).2 = 0 ∧ (equivE l a b).2.1 = [] ∧ ∀ v ∈ asgL l, evX l v a = evX l v b := by
  obtain ⟨va, vb, hv, ta, tb, he⟩ := equiv_parts h
  rw [he] at hn ⊢
  refine ⟨?_, ?_, ?_⟩
  · unfold givenE; rw [va, hv]; exact ta
  · cases hf : (asgL l).find? fun v => !likeB l a b v with
    | none => rfl
    | some v => rw [hf] at hn; cases hn
  · intro v hv
    cases hf : (asgL l).find? fun v => !likeB l a b v with
    | some v => rw [hf] at hn; cases hn
    | none =>
      have := List.find?_eq_none.1 hf v hv
      unfold likeB at this
      simpa using this
theorem put_equiv {l : List Var} {a b x : Ex} {c : Ex → Bool} (h : ∀ v ∈ asgL l, evX l v a = evX l v b) (he : (equivE l (putE c a x) (putE c b x)).2.2 = 0) :
    (equivE l (putE c a x) (putE c b x)).1 = true ∧ (equivE l (putE c a x) (putE c b x)).2.1 = [] := by
  obtain ⟨_, _, _, _, _, e⟩ := equiv_parts he
  rw [e]
  have : ((asgL l).find? fun v => !likeB l (putE c a x) (putE c b x) v) = none := by
    rw [List.find?_eq_none]
    intro v hv
    unfold likeB
    simpa using put_ev (c := c) (h v hv) x
  rw [this]
  exact ⟨rfl, rfl⟩
end Go.Proofs.YtijmnenojbfdnaaGreatDoor

namespace Go.Proofs.YtijmnenojbfdnaaGreatDoor
open Go.RowKit
def Off (X : Nat → Prop) (w : World) (v : Value) (b : Nat) : Prop := b < w.heap.size ∧ v.ownBlock ≠ some b ∧ ¬ X b
def OwnR {α : Type} (size : Nat) (R : ElemR α) (X : Nat → Prop) (w : World) (base t : Nat) (v : Value) (xs : List α) : Prop :=
  ∃ cs, w.ownsRow base t size v xs.length cs ∧ ∀ (i : Nat) (x : α), xs[i]? = some x → ∃ es : List Value, es.length = size ∧ (∀ j u, es[j]? = some u → cs[i * size + j]? = some u) ∧ R (Off X w v) w x es
section
variable {α : Type} {size : Nat} {R : ElemR α} {X : Nat → Prop} {w w' : World} {base t : Nat} {v v' : Value} {xs : List α}
theorem OwnR.nil : OwnR size R X w base t (.slice none 0 0) ([] : List α) := ⟨[], World.ownsRow_nil _ _ _ _, fun i x hx => by simp at hx⟩
theorem OwnR.lt (h : OwnR size R X w base t v xs) : ∀ g, v.ownBlock = some g → base ≤ g ∧ g < w.heap.size := by
  obtain ⟨cs, h, _⟩ := h
  exact h.lt
theorem OwnR.sl (h : OwnR size R X w base t v xs) (hR : ElemR.Kept R) : Sl size R (Lt w.heap.size) w v xs := by
  obtain ⟨cs, h, he⟩ := h
  refine Sl.of_own h rfl (own_lt h) fun i x hx => ?_
  obtain ⟨es, h1, h2, h3⟩ := he i x hx
  exact ⟨es, h1, h2, hR _ _ _ _ _ _ (fun b hb => hb.1) (Same.refl _ _) h3⟩
theorem OwnR.open_ (h : OwnR size R X w base t v xs) : ∃ A c, v = .slice A xs.length c := by
  obtain ⟨cs, h, _⟩ := h
  rcases h.2 with ⟨rfl, h0⟩ | ⟨g, cap, cur, rfl, _⟩
  · exact ⟨none, 0, by rw [h0]⟩
  · exact ⟨_, _, rfl⟩
theorem OwnR.grown {row : Option Nat} (h : OwnR size R X w base t v xs) (hR : ElemR.Kept R) (hb : w.grownBy w' row) (hr : ∀ g, row = some g → X g ∧ v.ownBlock ≠ some g) : OwnR size R X w' base t v xs := by
  obtain ⟨cs, h, he⟩ := h
  refine ⟨cs, h.kept hb ?_, fun i x hx => ?_⟩
  · cases e : v.ownBlock with
    | none => exact .inl rfl
    | some g => exact .inr (fun h' => (hr g h'.symm).2 e)
  · obtain ⟨es, h1, h2, h3⟩ := he i x hx
    refine ⟨es, h1, h2, hR _ _ _ _ _ _ (fun b hb' => ⟨Nat.lt_of_lt_of_le hb'.1 hb.size, hb'.2⟩) (fun b hb' => hb.block b hb'.1 ?_) h3⟩
    exact fun e => hb'.2.2 (hr b e.symm).1
theorem OwnR.now (h : OwnR size R X w base t v xs) (hR : ElemR.Kept R) (hb : Below w.heap.size w w') : OwnR size R X w' base t v xs :=
  h.grown hR (grown_of_below hb none) (fun _ e => by cases e)
theorem OwnR.drewN (h : OwnR size R X w base t v xs) (hR : ElemR.Kept R) (q : Nat) : OwnR size R X (w.drewN q) base t v xs := h.now hR (bdrawn (Below.refl _ _) q)
theorem OwnR.far (h : OwnR size R X w base t v xs) (hR : ElemR.Kept R) {p : Addr} (hX : X p.block) (hv : v.ownBlock ≠ some p.block) (u : Value) : OwnR size R X (w.setCell p u) base t v xs :=
  h.grown hR (row := some p.block) ⟨rfl, rfl, rfl, by simp, fun i _ hne => Below.heap_setCell w p u i (fun e => hne (by rw [e]))⟩ (fun g e => by injection e with e; subst e; exact ⟨hX, hv⟩)
theorem OwnR.pushed {x : α} {es cs : List Value} (h : w.ownsRow base t size v xs.length cs) (he : ∀ (i : Nat) (x : α), xs[i]? = some x → ∃ es : List Value, es.length = size ∧ (∀ j u, es[j]? = some u → cs[i * size + j]? = some u) ∧ R (Off X w v) w x es)
    (hR : ElemR.Kept R) (hl : es.length = size) (hx : R (Off X w v) w x es)
    (ho : w'.ownsRow base t size v' (xs.length + 1) (cs ++ es)) (hg : w.grownBy w' v.ownBlock) (hat : v'.ownBlock = v.ownBlock ∨ v'.ownBlock = some (w.heap.size + 1)) : OwnR size R X w' base t v' (xs ++ [x]) := by
  have keep : ∀ y cs, R (Off X w v) w y cs → R (Off X w' v') w' y cs := fun y cs hy =>
    hR _ _ _ _ _ _ (fun b hb => ⟨Nat.lt_of_lt_of_le hb.1 hg.size, (by rcases hat with e | e
                                                                      · rw [e]; exact hb.2.1
                                                                      · rw [e]; intro e'; injection e' with e'; have := hb.1; omega), hb.2.2⟩)
      (fun b hb => hg.block b hb.1 (fun e => hb.2.1 e.symm)) hy
  refine ⟨cs ++ es, by simpa using ho, fun i y hy => ?_⟩
  rcases Nat.lt_or_ge i xs.length with hi | hi
  · rw [List.getElem?_append_left hi] at hy
    obtain ⟨es', h1, h2, h3⟩ := he i y hy
    refine ⟨es', h1, fun j u hu => ?_, keep _ _ h3⟩
    have := h2 j u hu
    rw [List.getElem?_append_left]
    · exact this
    · rcases Nat.lt_or_ge (i * size + j) cs.length with h' | h'
      · exact h'
      · rw [List.getElem?_eq_none h'] at this; cases this
  · rw [List.getElem?_append_right hi] at hy
    have hi0 : i - xs.length = 0 := by
      rcases Nat.eq_zero_or_pos (i - xs.length) with h' | h'
      · exact h'
      · rw [List.getElem?_eq_none (by simpa using Nat.succ_le_of_lt h')] at hy; cases hy
    rw [hi0] at hy
    injection hy with hy
    subst hy
    obtain rfl : i = xs.length := by omega
    refine ⟨es, hl, fun j u hu => ?_, keep _ _ hx⟩
    have hc : cs.length = xs.length * size := h.1
    rw [List.getElem?_append_right (by omega), hc, Nat.add_sub_cancel_left]
    exact hu
end
section
variable {P : Program} {t e size base : Nat} {α : Type} {R : ElemR α} {X : Nat → Prop}
theorem wp_pushR {o : Oper} {a : Act} {K : Act → World → Prop} {Q : Exit → Act → World → Prop} (hI : AppInfo P t e size) (hR : ElemR.Kept R) (s x : Operand)
    (ho : o.op = .call { callee := .builtin .append, args := #[s, x], argTypes := #[t, t] }) (w0 : World) (es : List Value) (hes : es.length = size) (h1 : ∀ u ∈ es, u.oneCell' = true)
    (v : Value) (xs : List α) (y : α) (hs : a.eval s = v) (hown : OwnR size R X w0 base e v xs) (hy : R (Off X w0 v) w0 y es) (hx : a.eval x = .slice (some ⟨w0.heap.size, 0, none⟩) 1 1) (hn : xs.length < 10000000) (hbase : base ≤ w0.heap.size)
    (h : ∀ v' w', OwnR size R X w' base e v' (xs ++ [y]) → w0.grownBy w' v.ownBlock → (v'.ownBlock = v.ownBlock ∨ v'.ownBlock = some (w0.heap.size + 1)) → K (a.put o.dst v') w') : o.wp P a (w0.alloc (.cells es.toArray e)) K Q := by
  obtain ⟨cs, h2, h3⟩ := hown
  exact wp_push hI s x ho w0 es hes h1 v xs.length cs hs h2 hx hn hbase fun v' w' a1 a2 a3 => h v' w' (OwnR.pushed h2 h3 hR hes hy a1 a2 a3) a2 a3
theorem wpList_pushR {ops : Array Oper} {rest : List Oper} {o : Oper} {a : Act} {Q : Exit → Act → World → Prop} (hI : AppInfo P t e size) (hR : ElemR.Kept R) (hgd : o.guard = none) (s x : Operand)
    (ho : o.op = .call { callee := .builtin .append, args := #[s, x], argTypes := #[t, t] }) (w0 : World) (es : List Value) (hes : es.length = size) (h1 : ∀ u ∈ es, u.oneCell' = true)
    (v : Value) (xs : List α) (y : α) (hs : a.eval s = v) (hown : OwnR size R X w0 base e v xs) (hy : R (Off X w0 v) w0 y es) (hx : a.eval x = .slice (some ⟨w0.heap.size, 0, none⟩) 1 1) (hn : xs.length < 10000000) (hbase : base ≤ w0.heap.size)
    (h : ∀ v' w', OwnR size R X w' base e v' (xs ++ [y]) → w0.grownBy w' v.ownBlock → (v'.ownBlock = v.ownBlock ∨ v'.ownBlock = some (w0.heap.size + 1)) → wpList P ops Q rest (a.put o.dst v') w') : wpList P ops Q (o :: rest) a (w0.alloc (.cells es.toArray e)) :=
  wpList_plain hgd fun _ hK => wp_pushR hI hR s x ho w0 es hes h1 v xs y hs hown hy hx hn hbase fun v' w' h2 h3 h4 => hK _ _ (h v' w' h2 h3 h4)
end
end Go.Proofs.YtijmnenojbfdnaaGreatDoor

namespace Go.Proofs.YtijmnenojbfdnaaGreatDoor
open Go.RowKit
mutual
def depX : Ex → Nat
  | .mk _ _ _ l => 1 + depL l
def depL : List Ex → Nat
  | [] => 0
  | x :: l => max (depX x) (depL l)
end
theorem depX_eq (x : Ex) : depX x = 1 + depL x.l := by cases x; rw [depX]; rfl
theorem depL_mem {l : List Ex} {y : Ex} (h : y ∈ l) : depX y ≤ depL l := by
  induction l with
  | nil => simp at h
  | cons a l ih =>
    rw [depL]
    rcases List.mem_cons.1 h with rfl | h
    · omega
    · have := ih h; omega
theorem txB_fuel : ∀ (f g : Nat) (x : Ex) (asks : Nat), okX x = true → depX x ≤ f → depX x ≤ g → txB f x asks = txB g x asks
  | 0, _, x, _, _, h, _ => by rw [depX_eq] at h; omega
  | _ + 1, 0, x, _, _, _, h => by rw [depX_eq] at h; omega
  | f + 1, g + 1, x, asks, hok, h1, h2 => by
    rw [depX_eq] at h1 h2
    have hok0 := hok
    rw [okX_eq, Bool.and_eq_true, Bool.and_eq_true] at hok
    obtain ⟨⟨hs, _⟩, hl⟩ := hok
    obtain ⟨s1, s2, s3, s4, s5, s6, s7, s8⟩ := shape_len hs
    have hk : ∀ k asks, k < x.l.length → txB f (kAt x.l k) asks = txB g (kAt x.l k) asks := fun k a h => by
      have := depL_mem (kAt_mem h)
      exact txB_fuel f g _ a (okL_mem hl _ (kAt_mem h)) (by omega) (by omega)
    have hd : (x.l.drop 1).map (fun y => txB f y 0) = (x.l.drop 1).map (fun y => txB g y 0) := List.map_congr_left fun y hy => by
      have hy := List.mem_of_mem_drop hy
      have := depL_mem hy
      exact txB_fuel f g y 0 (okL_mem hl y hy) (by omega) (by omega)
    unfold txB
    dsimp only
    congr 1
    all_goals
      first
      | rfl
      | skip
    all_goals
      by_cases c1 : x.op = 1
      · simp only [if_pos c1]
      by_cases c2 : x.op = 2
      · simp only [if_neg c1, if_pos c2]
      by_cases c3 : x.op = 3
      · have e := s3 c3
        simp only [if_neg c1, if_neg c2, if_pos c3]
        rw [hk 0 4 (by omega)]
      by_cases c12 : x.op = 12
      · have e := s5 c12
        simp only [if_neg c1, if_neg c2, if_neg c3, if_pos c12]
        rw [hk 0 1 (by omega), hk 1 1 (by omega), hk 2 1 (by omega)]
      by_cases c13 : x.op = 13
      · have e := s6 c13
        simp only [if_neg c1, if_neg c2, if_neg c3, if_neg c12, if_pos c13]
        rw [hk 0 6 (by omega), hd]
      · have e := s4 (by omega)
        simp only [if_neg c1, if_neg c2, if_neg c3, if_neg c12, if_neg c13]
        rw [hk 0 _ (by omega), hk 1 _ (by omega)]
def exVar : Var := ⟨⟨#[110]⟩, 2, 0, 3, []⟩
theorem okA : okX exA = true := by kernel_rfl
theorem validA : validX exA = true := by kernel_rfl
theorem validC : validX exC = true := by kernel_rfl
theorem depA : depX exA ≤ 10 := by decide +kernel
theorem md1 : modelsE [exVar] exC = (2, [⟨2, 0, ⟨#[]⟩⟩], 0) := by kernel_rfl
end Go.Proofs.YtijmnenojbfdnaaGreatDoor
