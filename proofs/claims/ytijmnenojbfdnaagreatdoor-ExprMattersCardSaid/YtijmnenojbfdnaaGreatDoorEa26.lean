/- Texts of this seat, merged. -/
import Derived.Test.YtijmnenojbfdnaaGreatDoorEa01
import Derived.Test.YtijmnenojbfdnaaGreatDoorEa02
import Derived.Test.YtijmnenojbfdnaaGreatDoorEa03
import Derived.Test.YtijmnenojbfdnaaGreatDoorEa04
import Derived.Test.YtijmnenojbfdnaaGreatDoorEa05
import Derived.Test.YtijmnenojbfdnaaGreatDoorEa06
import Derived.Test.YtijmnenojbfdnaaGreatDoorEa07
import Derived.Test.YtijmnenojbfdnaaGreatDoorEa08
import Derived.Test.YtijmnenojbfdnaaGreatDoorEa09
import Derived.Test.YtijmnenojbfdnaaGreatDoorEa10
import Derived.Test.YtijmnenojbfdnaaGreatDoorEa11
import Derived.Test.YtijmnenojbfdnaaGreatDoorEa12
import Derived.Test.YtijmnenojbfdnaaGreatDoorEa13
import Derived.Test.YtijmnenojbfdnaaGreatDoorEa14
import Derived.Test.YtijmnenojbfdnaaGreatDoorEa15
import Derived.Test.YtijmnenojbfdnaaGreatDoorEa16
import Derived.Test.YtijmnenojbfdnaaGreatDoorEa17
import Derived.Test.YtijmnenojbfdnaaGreatDoorEa18
import Derived.Test.YtijmnenojbfdnaaGreatDoorEa19
import Derived.Test.YtijmnenojbfdnaaGreatDoorEa20
import Derived.Test.YtijmnenojbfdnaaGreatDoorEa21
import Derived.Test.YtijmnenojbfdnaaGreatDoorEa22
import Derived.Test.YtijmnenojbfdnaaGreatDoorEa23
import Derived.Test.YtijmnenojbfdnaaGreatDoorEa24
import Derived.Test.YtijmnenojbfdnaaGreatDoorEa25
set_option linter.unusedSimpArgs false
set_option linter.unusedVariables false
namespace Go.Proofs.YtijmnenojbfdnaaGreatDoor
open Go.RowKit
set_option maxHeartbeats 1000000 in
theorem eval1_any (n : Nat) (y : Ex) (a : Val) (g : Nat) (u : Value) (w : World) (h : IsEx n (Lt w.heap.size) w u y) (hB : Blk w g 25 #[.int .i64 a.kind, .int .i64 a.n, .string a.s]) :
    Calls Tryz.prog 82 #[u, .pointer (some ⟨g, 0, none⟩)] w fun e w' => e = .returned (.bool (decide (y.v = a))) ∧ Below w.heap.size w w' := by
  obtain ⟨lv, rfl, h1, h2, h3, h4⟩ := h
  have hb := bone w (.cells #[.int .i64 y.op, .int .i64 y.v.kind, .int .i64 y.v.n, .string y.v.s, .string y.s, lv] 28)
  have hB1 := hB.alloc (.cells #[.int .i64 y.op, .int .i64 y.v.kind, .int .i64 y.v.n, .string y.v.s, .string y.s, lv] 28)
  obtain ⟨c0, c1, c2⟩ := hB1.c3
  have heq := fun W => run_eqV W y.v a
  generalize decide (y.v = a) = d at *
  go_enter Tryz.func82, Tryz.ntmps82
  go_wp2_with fail
  go_ret
  exact ⟨rfl, hb⟩
set_option maxHeartbeats 8000000 in
set_option maxRecDepth 100000 in
theorem eval_in (n : Nat) (ih : ∀ m, m < n → EvalAt 46 m) (vs : List Var) (vals : List Val) (x : Ex) (w : World) (uv vv u : Value) (h : EvArgs n vs vals x w uv vv u) (ho : x.op = 13) : Calls Tryz.prog 46 #[uv, vv, u] w (RetO (evX vs vals x) w) := by
  have HO := Lib.hid ho
  clear ho
  have h0 := h
  obtain ⟨hvs, hvl, hx, _, _, hA⟩ := h
  obtain ⟨Av, cv, rfl, v1, v2, hvs⟩ := hvs.open_
  obtain ⟨Aw, cw, rfl, v3, v4, hvl⟩ := hvl.open_
  obtain ⟨lv, rfl, h1, h2, h3, h4⟩ := hx
  obtain ⟨A, c, rfl, l1, l2, h4⟩ := h4.open_
  have hb := bbox (bone w (.cells #[.int .i64 x.op, .int .i64 x.v.kind, .int .i64 x.v.n, .string x.v.s, .string x.s, .slice A x.l.length c] 28)) (.cells #[.int .i64 0, .int .i64 0, .string ⟨#[]⟩] 25)
  have hB := (Blk.new w 28 #[.int .i64 x.op, .int .i64 x.v.kind, .int .i64 x.v.n, .string x.v.s, .string x.s, .slice A x.l.length c]).alloc (.cells #[.int .i64 0, .int .i64 0, .string ⟨#[]⟩] 25)
  have hR := Blk.new_at (t := 25) (cs := #[.int .i64 0, .int .i64 0, .string ⟨#[]⟩]) (w := w.alloc (.cells #[.int .i64 x.op, .int .i64 x.v.kind, .int .i64 x.v.n, .string x.v.s, .string x.s, .slice A x.l.length c] 28)) (s := w.heap.size + 1) (by simp)
  have hl1 := SlE.now h4 hb
  have hv1 := hvs.now hb
  have hw1 := hvl.now hb
  clear h4 hvs hvl
  go_enter Tryz.func46, Tryz.ntmps46
  go_upto_region 1 with fail
  generalize hww : (w.alloc (.cells #[.int .i64 x.op, .int .i64 x.v.kind, .int .i64 x.v.n, .string x.v.s, .string x.s, .slice A x.l.length c] 28)).alloc (.cells #[.int .i64 0, .int .i64 0, .string ⟨#[]⟩] 25) = w1 at *
  clear hww
  have ho := HO.out
  have HST : Hid (∀ (W : World) (x y z : Value), Below w1.heap.size w1 W →
      (W.frozen? ⟨w.heap.size + 1, 0, none⟩ = false ∧ W.frozen? ⟨w.heap.size + 1, 1, none⟩ = false ∧ W.frozen? ⟨w.heap.size + 1, 2, none⟩ = false) ∧
      Blk (((W.setCell ⟨w.heap.size + 1, 0, none⟩ x).setCell ⟨w.heap.size + 1, 1, none⟩ y).setCell ⟨w.heap.size + 1, 2, none⟩ z) (w.heap.size + 1) 25 #[x, y, z] ∧
      (W.cell? ⟨w.heap.size + 1, 0, none⟩ = some (.int .i64 0) ∧ W.cell? ⟨w.heap.size + 1, 1, none⟩ = some (.int .i64 0) ∧ W.cell? ⟨w.heap.size + 1, 2, none⟩ = some (.string ⟨#[]⟩)) ∧
      Below w.heap.size w (((W.setCell ⟨w.heap.size + 1, 0, none⟩ x).setCell ⟨w.heap.size + 1, 1, none⟩ y).setCell ⟨w.heap.size + 1, 2, none⟩ z)) :=
    fun W x y z hW => ⟨⟨(hR.now hW).frozen 0, (hR.now hW).frozen 1, (hR.now hW).frozen 2⟩, (hR.now hW).set3 _ _ _, (hR.now hW).c3, bset3 (bthen hb hW) (by omega) _ _ _⟩
  obtain ⟨q0, q1, q2, q3, q4, q5⟩ := hB.c6
  have HKEY := Lib.hid (ev_key vs vals x)
  have HSL := Lib.hid (shape_len h0.shape)
  have hlen : 1 ≤ x.l.length := by have := HSL.out; omega
  obtain ⟨b, o, y, ylv, n', hn, rfl, hD, hy, hex, hfv, hsl, e0, e1, e2, e3, e4, e5⟩ := hl1.at_ (k := 0) (by omega)
  have HY := Lib.hid hy
  have hym := List.mem_of_getElem? hy
  obtain ⟨A2, c2', rfl, m1, m2, _⟩ := hsl.open_
  have hcall := Lib.hid (ih n' (by omega) vs vals y _ _ _ _ (h0.part hym hb hex))
  have HV0 := Lib.hid (fun (a : Val) (h : evX vs vals y = some a) => h0.val hym h)
  have i0 : (0 : Int) < (x.l.length : Int) := by omega
  have e0' : w1.cell? ⟨b, o, none⟩ = some (.int .i64 y.op) := by simpa using e0
  have e1' : w1.cell? ⟨b, o + 1, none⟩ = some (.int .i64 y.v.kind) := by simpa using e1
  have e2' : w1.cell? ⟨b, o + 2, none⟩ = some (.int .i64 y.v.n) := by simpa using e2
  have e3' : w1.cell? ⟨b, o + 3, none⟩ = some (.string y.v.s) := by simpa using e3
  have e4' : w1.cell? ⟨b, o + 4, none⟩ = some (.string y.s) := by simpa using e4
  have e5' : w1.cell? ⟨b, o + 5, none⟩ = some (.slice A2 y.l.length c2') := by simpa using e5
  clear hy hex hsl hfv e0 e1 e2 e3 e4 e5 hn
  go_wp2_with fail
  refine hcall.out.mono ?_
  clear hcall e0' e1' e2' e3' e4' e5'
  rintro e w2 ⟨v0, rfl, hv0, hb2⟩
  have HG0 := Lib.hid (getD_map (f := evX vs vals) HY.out)
  generalize hr0 : evX vs vals y = r0 at *
  have hb3 := bone w2 (.cells #[.int .i64 v0.kind, .int .i64 v0.n, .string v0.s] 25)
  have hF := Blk.new w2 25 #[.int .i64 v0.kind, .int .i64 v0.n, .string v0.s]
  have hb13 := bthen hb2 hb3
  have hB3 := hB.now hb13
  have hl3 := SlE.now hl1 hb13
  clear q0 q1 q2 q3 q4 q5
  have l2' := hF.lt
  go_upto_region 7 with fail
  generalize hw3 : w2.alloc (.cells #[.int .i64 v0.kind, .int .i64 v0.n, .string v0.s] 25) = w3 at *
  clear hw3
  obtain ⟨q0, q1, q2, q3, q4, q5⟩ := hB3.c6
  obtain ⟨f0, f1, f2⟩ := hF.c3
  cases r0 with
  | none =>
    have HR : Hid (evX vs vals x = none) := by
      show _ = _
      rw [HKEY.out]
      unfold evO
      rw [if_neg (by omega), if_neg (by omega), HG0.out]
    clear f0 f1 f2 q0 q1 q2 q3 q4 q5
    obtain ⟨⟨k0, k1, k2⟩, hS, ⟨y0, y1, y2⟩, hbS⟩ := HST.out w3 (.int .i64 0) (.int .i64 0) (.string ⟨#[]⟩) hb13
    go_wp2_with fail
    obtain ⟨t0, t1, t2⟩ := hS.c3
    refine bodyPost_ret (v := .tuple #[.agg #[.int .i64 0, .int .i64 0, .string ⟨#[]⟩], .bool false]) (by simp [results, Tryz.results46, go_sem, t0, t1, t2]) rfl ?_
    exact RetO.cast HR.out ⟨⟨0, 0, ⟨#[]⟩⟩, rfl, fun a h => (by cases h), hbS⟩

  | some a =>
    obtain rfl : v0 = a := hv0 a rfl
    have HVA := Lib.hid (HV0.out _ rfl)
    clear hv0
    have eg : ∀ z w, (callFunc 82 (#[z] ++ #[.pointer (some ⟨w2.heap.size, 0, none⟩)])).run Tryz.prog w = .ok (.enter 82 (#[z] ++ #[.pointer (some ⟨w2.heap.size, 0, none⟩)])) w := fun z w => enters_of Tryz.func82 (by kernel_rfl) rfl _ w
    have HR : Hid (evX vs vals x = some (truthV ((x.l.drop 1).any fun y => decide (y.v = v0)))) := by
      show _ = _
      rw [HKEY.out]
      unfold evO
      rw [if_neg (by omega), if_neg (by omega), HG0.out]
      exact (if_neg (by omega)).trans ((if_neg (by omega)).trans ((if_neg (by omega)).trans ((if_neg (by omega)).trans (if_pos ho))))
    have HT := Lib.hid (SlE.tail hl3 (by omega))
    have hFF := hF
    have i1 : (1 : Int) ≤ (x.l.length : Int) := by omega
    have i2 : (2 : Int) ≤ (x.l.length : Int) := by have := HSL.out; omega
    have i3 : (x.l.length : Int) ≤ (c : Int) := by omega
    have i4 : 2 ≤ c := by omega
    go_wp2_with fail
    refine (containsFuncE 82 #[.pointer (some ⟨w2.heap.size, 0, none⟩)] _ eg _ (x.l.drop 1) (fun y => decide (y.v = v0)) w3 HT.out (fun z u W _ hex hbW => by have := eval1_any _ z v0 w2.heap.size u W hex (hFF.now hbW); exact this)).mono ?_
    rintro e w4 ⟨rfl, hb4⟩
    generalize (x.l.drop 1).any (fun y => decide (y.v = v0)) = d at *
    clear f0 f1 f2 q0 q1 q2 q3 q4 q5
    go_wp2_with fail
    refine (truth_any d _).mono ?_
    rintro e w6 ⟨rfl, hb6⟩
    have ev : valV (truthV d) = .agg #[.int .i64 (truthV d).kind, .int .i64 (truthV d).n, .string (truthV d).s] := rfl
    rw [ev]
    generalize truthV d = tv at *
    obtain ⟨⟨k0, k1, k2⟩, hS, ⟨y0, y1, y2⟩, hbS⟩ := HST.out w6 (.int .i64 tv.kind) (.int .i64 tv.n) (.string tv.s) (bthen hb13 (bthen hb4 hb6))
    go_wp2_with fail
    obtain ⟨t0, t1, t2⟩ := hS.c3
    refine bodyPost_ret (v := .tuple #[.agg #[.int .i64 tv.kind, .int .i64 tv.n, .string tv.s], .bool true]) (by simp [results, Tryz.results46, go_sem, t0, t1, t2]) rfl ?_
    exact RetO.cast HR.out ⟨tv, rfl, fun a h => (by injection h), hbS⟩
theorem eval_any : ∀ n, EvalAt 46 n := by
  intro n
  induction n using Nat.strongRecOn with
  | _ n ih =>
    intro vs vals x w uv vv u h
    obtain ⟨_, _, _, _, _, _, o1, o2⟩ := shape_len h.shape
    rcases (show x.op = 1 ∨ x.op = 2 ∨ x.op = 3 ∨ x.op = 4 ∨ x.op = 5 ∨ x.op = 6 ∨ x.op = 7 ∨ x.op = 8 ∨ x.op = 9 ∨ x.op = 10 ∨ x.op = 11 ∨ x.op = 12 ∨ x.op = 13 by omega) with ho | ho | ho | ho | ho | ho | ho | ho | ho | ho | ho | ho | ho
    · exact eval_const n vs vals x w uv vv u h ho
    · exact eval_var n vs vals x w uv vv u h ho
    · exact eval_not n ih vs vals x w uv vv u h ho
    · exact eval_and n ih vs vals x w uv vv u h ho
    · exact eval_or n ih vs vals x w uv vv u h ho
    · exact eval_eq n ih vs vals x w uv vv u h ho
    · exact eval_lt n ih vs vals x w uv vv u h ho
    · exact eval_le n ih vs vals x w uv vv u h ho
    · exact eval_add n ih vs vals x w uv vv u h ho
    · exact eval_sub n ih vs vals x w uv vv u h ho
    · exact eval_mul n ih vs vals x w uv vv u h ho
    · exact eval_if n ih vs vals x w uv vv u h ho
    · exact eval_in n ih vs vals x w uv vv u h ho
def RetVE1 (p : Val × Int) (w : World) (e : Ending) (w' : World) : Prop := e = .returned (.tuple #[.agg #[.int .i64 p.1.kind, .int .i64 p.1.n, .string p.1.s], .int .i64 p.2]) ∧ Below w.heap.size w w'
theorem given_ok {vs : List Var} {x : Ex} (h : (givenE vs x).2 = 0) : validX x = true ∧ varsB vs = true ∧ (typX vs x).2 = 0 := by
  unfold givenE at h
  split at h
  · rename_i hh
    rw [Bool.and_eq_true] at hh
    exact ⟨hh.1, hh.2, h⟩
  · cases h
set_option maxHeartbeats 4000000 in
set_option maxRecDepth 100000 in
theorem evalE_any (n : Nat) (vs : List Var) (vals : List Val) (x : Ex) (w : World) (uv vv u : Value) (hvs : SlX (Lt w.heap.size) w uv vs) (hvl : SlV (Lt w.heap.size) w vv vals) (hx : IsEx n (Lt w.heap.size) w u x) (hl : vs.length ≤ 1000000) :
    Calls Tryz.prog 15 #[uv, vv, u] w (RetVE1 (evalE vs vals x) w) := by
  have hxx := hx
  obtain ⟨Av, cv, rfl, v1, v2, hvs⟩ := hvs.open_
  obtain ⟨Aw, cw, rfl, v3, v4, hvl⟩ := hvl.open_
  obtain ⟨lv, rfl, h1, h2, h3, h4⟩ := hx
  obtain ⟨A, c, rfl, l1, l2, h4⟩ := h4.open_
  have hb := bbox (bone w (.cells #[.int .i64 x.op, .int .i64 x.v.kind, .int .i64 x.v.n, .string x.v.s, .string x.s, .slice A x.l.length c] 28)) (.cells #[.int .i64 0, .int .i64 0, .string ⟨#[]⟩] 25)
  have hB := (Blk.new w 28 #[.int .i64 x.op, .int .i64 x.v.kind, .int .i64 x.v.n, .string x.v.s, .string x.s, .slice A x.l.length c]).alloc (.cells #[.int .i64 0, .int .i64 0, .string ⟨#[]⟩] 25)
  have hR := Blk.new_at (t := 25) (cs := #[.int .i64 0, .int .i64 0, .string ⟨#[]⟩]) (w := w.alloc (.cells #[.int .i64 x.op, .int .i64 x.v.kind, .int .i64 x.v.n, .string x.v.s, .string x.s, .slice A x.l.length c] 28)) (s := w.heap.size + 1) (by simp)
  have hx1 := hxx.now hb
  have hv1 := hvs.now hb
  have hw1 := hvl.now hb
  clear h4 hvs hvl hxx
  have HE : Hid (evalE vs vals x = if (givenE vs x).2 ≠ 0 then (noV, (givenE vs x).2)
    else if (inAllE vs vals).2 = 0 ∧ (inAllE vs vals).1 = true then (match evX vs vals x with | some a => (a, 0) | none => (noV, 6)) else (noV, 11)) := rfl
  go_enter Tryz.func15, Tryz.ntmps15
  go_upto_region 1 with fail
  generalize hww : (w.alloc (.cells #[.int .i64 x.op, .int .i64 x.v.kind, .int .i64 x.v.n, .string x.v.s, .string x.s, .slice A x.l.length c] 28)).alloc (.cells #[.int .i64 0, .int .i64 0, .string ⟨#[]⟩] 25) = w1 at *
  clear hww
  have HST : Hid (∀ (W : World) (x y z : Value), Below w1.heap.size w1 W →
      (W.frozen? ⟨w.heap.size + 1, 0, none⟩ = false ∧ W.frozen? ⟨w.heap.size + 1, 1, none⟩ = false ∧ W.frozen? ⟨w.heap.size + 1, 2, none⟩ = false) ∧
      Blk (((W.setCell ⟨w.heap.size + 1, 0, none⟩ x).setCell ⟨w.heap.size + 1, 1, none⟩ y).setCell ⟨w.heap.size + 1, 2, none⟩ z) (w.heap.size + 1) 25 #[x, y, z] ∧
      (W.cell? ⟨w.heap.size + 1, 0, none⟩ = some (.int .i64 0) ∧ W.cell? ⟨w.heap.size + 1, 1, none⟩ = some (.int .i64 0) ∧ W.cell? ⟨w.heap.size + 1, 2, none⟩ = some (.string ⟨#[]⟩)) ∧
      Below w.heap.size w (((W.setCell ⟨w.heap.size + 1, 0, none⟩ x).setCell ⟨w.heap.size + 1, 1, none⟩ y).setCell ⟨w.heap.size + 1, 2, none⟩ z)) :=
    fun W x y z hW => ⟨⟨(hR.now hW).frozen 0, (hR.now hW).frozen 1, (hR.now hW).frozen 2⟩, (hR.now hW).set3 _ _ _, (hR.now hW).c3, bset3 (bthen hb hW) (by omega) _ _ _⟩
  obtain ⟨q0, q1, q2, q3, q4, q5⟩ := hB.c6
  go_wp2_with fail
  refine (given_any n vs x _ _ _ hv1 hx1 hl).mono ?_
  rintro e w2 ⟨rfl, _, hb2⟩
  by_cases hg : (givenE vs x).2 = 0
  · obtain ⟨hvx, hvv, hty⟩ := given_ok hg
    rw [hg]
    have HG := Lib.hid hg
    have HTY := Lib.hid hty
    have HOK := Lib.hid (valid_ok hvx)
    generalize (givenE vs x).1 = gk at *
    clear hg hvx hvv hty
    go_wp2_with fail
    refine (inAllE_any vs vals _ _ _ (hv1.now hb2) (hw1.now hb2) hl).mono ?_
    rintro e w3 ⟨rfl, hb3⟩
    have hb13 := bthen hb2 hb3
    have hx3 := hx1.now hb13
    have hv3 := hv1.now hb13
    have hw3 := hw1.now hb13
    have hB3 := hB.now hb13
    clear q0 q1 q2 q3 q4 q5
    obtain ⟨q0, q1, q2, q3, q4, q5⟩ := hB3.c6
    by_cases hin : (inAllE vs vals).2 = 0 ∧ (inAllE vs vals).1 = true
    · have hasg := asg_of hin
      have HE2 : Hid (evalE vs vals x = match evX vs vals x with | some a => (a, 0) | none => (noV, 6)) := by show _ = _; rw [HE.out, if_neg (by rw [HG.out]; simp), if_pos hin]
      rw [hin.1, hin.2]
      clear hin HE
      have hcall := Lib.hid (eval_any n vs vals x w3 _ _ _ ⟨hv3, hw3, hx3, HOK.out, HTY.out, hasg⟩)
      clear hx1 hv1 hw1 hx3 hv3 hw3 hasg
      go_wp2_with fail
      refine hcall.out.mono ?_
      rintro e w4 ⟨v, rfl, hv, hb4⟩
      have hb5 := bone w4 (.cells #[.int .i64 v.kind, .int .i64 v.n, .string v.s] 25)
      have hF := Blk.new w4 25 #[.int .i64 v.kind, .int .i64 v.n, .string v.s]
      have hb15 := bthen hb13 (bthen hb4 hb5)
      have l5 := hF.lt
      clear q0 q1 q2 q3 q4 q5
      go_upto_region 8 with fail
      generalize hw5 : w4.alloc (.cells #[.int .i64 v.kind, .int .i64 v.n, .string v.s] 25) = w5 at *
      clear hw5
      obtain ⟨f0, f1, f2⟩ := hF.c3
      generalize evX vs vals x = r at *
      cases r with
      | none =>
        have HR : Hid (evalE vs vals x = (noV, 6)) := HE2.out
        clear f0 f1 f2
        obtain ⟨⟨k0, k1, k2⟩, hS, ⟨y0, y1, y2⟩, hbS⟩ := HST.out w5 (.int .i64 0) (.int .i64 0) (.string ⟨#[]⟩) hb15
        go_wp2_with fail
        obtain ⟨t0, t1, t2⟩ := hS.c3
        refine bodyPost_ret (v := .tuple #[.agg #[.int .i64 0, .int .i64 0, .string ⟨#[]⟩], .int .i64 6]) (by simp [results, Tryz.results15, go_sem, t0, t1, t2]) rfl ?_
        exact ⟨by rw [HR.out]; rfl, hbS⟩

      | some a =>
        obtain rfl : v = a := hv a rfl
        have HR : Hid (evalE vs vals x = (v, 0)) := HE2.out
        obtain ⟨⟨k0, k1, k2⟩, hS, ⟨y0, y1, y2⟩, hbS⟩ := HST.out w5 (.int .i64 v.kind) (.int .i64 v.n) (.string v.s) hb15
        go_wp2_with fail
        obtain ⟨t0, t1, t2⟩ := hS.c3
        refine bodyPost_ret (v := .tuple #[.agg #[.int .i64 v.kind, .int .i64 v.n, .string v.s], .int .i64 0]) (by simp [results, Tryz.results15, go_sem, t0, t1, t2]) rfl ?_
        exact ⟨by rw [HR.out], hbS⟩

    · have HR : Hid (evalE vs vals x = (noV, 11)) := by show _ = _; rw [HE.out, if_neg (by rw [HG.out]; simp), if_neg hin]
      clear hx1 hv1 hw1 hx3 hv3 hw3 HE
      generalize inAllE vs vals = p at *
      obtain ⟨b, z⟩ := p
      dsimp only at *
      have HG2 : Hid (∀ Q : Prop, ((z != 0) = true → Q) → ((z != 0) = false → b = false → Q) → Q) := by
        intro Q a1 a2
        by_cases hz : z = 0
        · refine a2 (by simp [hz]) ?_
          cases b
          · rfl
          · exact absurd ⟨hz, rfl⟩ hin
        · exact a1 (by simpa using hz)
      clear hin
      refine HG2.out _ (fun b1 => ?_) (fun b1 b2 => ?_)
      all_goals
        try subst b2
        obtain ⟨⟨k0, k1, k2⟩, hS, ⟨y0, y1, y2⟩, hbS⟩ := HST.out w3 (.int .i64 0) (.int .i64 0) (.string ⟨#[]⟩) hb13
        go_wp2_with fail
        obtain ⟨t0, t1, t2⟩ := hS.c3
        refine bodyPost_ret (v := .tuple #[.agg #[.int .i64 0, .int .i64 0, .string ⟨#[]⟩], .int .i64 11]) (by simp [results, Tryz.results15, go_sem, t0, t1, t2]) rfl ?_
        exact ⟨by rw [HR.out]; rfl, hbS⟩

  · have HR : Hid (evalE vs vals x = (noV, (givenE vs x).2)) := by show _ = _; rw [HE.out, if_pos hg]
    have b1 : ((givenE vs x).2 != 0) = true := by simpa using hg
    clear hx1 hv1 hw1 HE hg
    generalize (givenE vs x).2 = z at *
    generalize (givenE vs x).1 = gk at *
    obtain ⟨⟨k0, k1, k2⟩, hS, ⟨y0, y1, y2⟩, hbS⟩ := HST.out w2 (.int .i64 0) (.int .i64 0) (.string ⟨#[]⟩) hb2
    go_wp2_with fail
    obtain ⟨t0, t1, t2⟩ := hS.c3
    refine bodyPost_ret (v := .tuple #[.agg #[.int .i64 0, .int .i64 0, .string ⟨#[]⟩], .int .i64 z]) (by simp [results, Tryz.results15, go_sem, t0, t1, t2]) rfl ?_
    exact ⟨by rw [HR.out]; rfl, hbS⟩
end Go.Proofs.YtijmnenojbfdnaaGreatDoor

namespace Go.Proofs.YtijmnenojbfdnaaGreatDoor
open Go.RowKit
def ms (l : List Var) (x : Ex) (d : List (List Val)) : List (List Val) := d.filter (isM l x)
theorem ms_yes {l : List Var} {x : Ex} {d : List (List Val)} {v : List Val} (h : isM l x v = true) : ms l x (d ++ [v]) = ms l x d ++ [v] := by unfold ms; rw [List.filter_append]; simp [h]
theorem ms_no {l : List Var} {x : Ex} {d : List (List Val)} {v : List Val} (h : isM l x v = false) : ms l x (d ++ [v]) = ms l x d := by unfold ms; rw [List.filter_append]; simp [h]
theorem ms_len (l : List Var) (x : Ex) (d : List (List Val)) : (ms l x d).length ≤ d.length := List.length_filter_le _ _
structure MdI (l : List Var) (x : Ex) (n B g c : Nat) (Av Ax : Option Addr) (cv cx : Nat) (d : List (List Val)) (w : World) : Prop where
  bv : Blk w g 22 #[.slice Av l.length cv]
  bx : Blk w (g + 1) 28 #[.int .i64 x.op, .int .i64 x.v.kind, .int .i64 x.v.n, .string x.v.s, .string x.s, .slice Ax x.l.length cx]
  hv : SlX (Lt B) w (.slice Av l.length cv) l
  hx : IsEx n (Lt B) w (exV x (.slice Ax x.l.length cx)) x
  cnt : Blk w c 3 #[.int .i64 ((ms l x d).length : Int)]
  fst : ∃ fv, Blk w (c + 1) 23 #[fv] ∧ SlV (DT c (c + 1) w) w fv ((ms l x d).head?.getD [])
theorem MdI.now {l : List Var} {x : Ex} {n B g c : Nat} {Av Ax : Option Addr} {cv cx : Nat} {d : List (List Val)} {w w' : World} (h : MdI l x n B g c Av Ax cv cx d w) (hBg : B ≤ g) (hb : Below w.heap.size w w') : MdI l x n B g c Av Ax cv cx d w' := by
  have hB : B ≤ w.heap.size := by have := h.bv.lt; omega
  obtain ⟨fv, h1, h2⟩ := h.fst
  exact ⟨h.bv.now hb, h.bx.now hb, Sl.below h.hv RVar.kept (hb.mono hB) (Nat.le_refl _), h.hx.below (hb.mono hB) (Nat.le_refl _), h.cnt.now hb, fv, h1.now hb, Sl.keep h2 (fun _ _ _ _ _ _ _ _ h => h) (DT.up hb.size) (Two.of_below hb).same⟩
theorem MdI.put {l : List Var} {x : Ex} {n B g c : Nat} {Av Ax : Option Addr} {cv cx : Nat} {d d' : List (List Val)} {w w' : World} (h : MdI l x n B g c Av Ax cv cx d w) (hBg : B ≤ g) (hgc : g + 2 ≤ c) (hT : Two c (c + 1) w w')
    (hc : Blk w' c 3 #[.int .i64 ((ms l x d').length : Int)]) (hf : ∃ fv, Blk w' (c + 1) 23 #[fv] ∧ SlV (DT c (c + 1) w') w' fv ((ms l x d').head?.getD [])) : MdI l x n B g c Av Ax cv cx d' w' := by
  have hB : B ≤ w.heap.size := by have := h.bv.lt; omega
  have hb := hT.below hB (show B ≤ c by omega) (show B ≤ c + 1 by omega)
  have g1 := h.bv.lt
  have g2 := h.bx.lt
  exact ⟨(hT.block g g1 (by omega) (by omega)).trans h.bv, (hT.block (g + 1) g2 (by omega) (by omega)).trans h.bx, Sl.below h.hv RVar.kept hb (Nat.le_refl _), h.hx.below hb (Nat.le_refl _), hc, hf⟩
set_option maxHeartbeats 2000000 in
set_option maxRecDepth 100000 in
theorem models1_any (l : List Var) (x : Ex) (n B g c : Nat) (Av Ax : Option Addr) (cv cx : Nat) (hok : okX x = true) (hty : (typX l x).2 = 0) (hBg : B ≤ g) (hgc : g + 2 ≤ c) (hp : prodL l ≤ 10000) (h8 : l.length ≤ 8) (d : List (List Val)) (v : List Val) (vv : Value) (w : World)
    (hI : MdI l x n B g c Av Ax cv cx d w) (hd : d.length < prodL l) (hgood : Good l v) (hvv : SlV (DT c (c + 1) w) w vv v) :
    Calls Tryz.prog 63 #[vv, .pointer (some ⟨g, 0, none⟩), .pointer (some ⟨g + 1, 0, none⟩), .pointer (some ⟨c, 0, none⟩), .pointer (some ⟨c + 1, 0, none⟩)] w
      fun e w' => e = .returned (.bool true) ∧ MdI l x n B g c Av Ax cv cx (d ++ [v]) w' ∧ Two c (c + 1) w w' := by
  have hBw : B ≤ w.heap.size := by have := hI.bv.lt; omega
  have hev := Lib.hid (eval_any n l v x w (.slice Av l.length cv) vv (exV x (.slice Ax x.l.length cx)) ⟨Sl.below hI.hv RVar.kept (Below.refl _ _) hBw, hvv.lt, hI.hx.below (Below.refl _ _) hBw, hok, hty, hgood.asg⟩)
  have HIS : Hid (isM l x v = match evX l v x with | some a => decide (a.n = 1) | none => false) := rfl
  have c0 := hI.bv.c1
  obtain ⟨q0, q1, q2, q3, q4, q5⟩ := hI.bx.c6
  go_enter Tryz.func63, Tryz.ntmps63
  go_wp2_with fail
  (with_reducible refine hev.out.mono ?_)
  rintro e w2 ⟨a, rfl, ha, hb2⟩
  have hI2 := hI.now hBg hb2
  have hT2 : Two c (c + 1) w w2 := Two.of_below hb2
  have hb3 := bone w2 (.cells #[.int .i64 a.kind, .int .i64 a.n, .string a.s] 25)
  have hA3 := Blk.new w2 25 #[.int .i64 a.kind, .int .i64 a.n, .string a.s]
  have hI3 := hI2.now hBg hb3
  have hT3 : Two c (c + 1) w _ := hT2.trans (Two.of_below hb3)
  have hvv3 : SlV (DT c (c + 1) _) _ vv v := Sl.keep hvv (fun _ _ _ _ _ _ _ _ h => h) (DT.up hT3.size) hT3.same
  clear c0 q0 q1 q2 q3 q4 q5 hev hT2 hI2 hb2 hvv hI
  go_upto_region 2 with fail
  generalize hw3 : w2.alloc (.cells #[.int .i64 a.kind, .int .i64 a.n, .string a.s] 25) = w3 at *
  clear hw3 hb3
  obtain ⟨f0, f1, f2⟩ := hA3.c3
  have hcl := ms_len l x d
  have c2 := hI3.cnt.c1
  have fz2 := hI3.cnt.frozen 0
  cases hr : evX l v x with
  | none =>
    rw [hr] at HIS
    have hno : Hid (isM l x v = false) := HIS.out
    clear hr
    go_wp2_with fail
    go_ret
    obtain ⟨fv, h1, h2⟩ := hI3.fst
    exact ⟨rfl, hI3.put hBg hgc (Two.refl _ _ _) (by rw [ms_no hno.out]; exact hI3.cnt) (by rw [ms_no hno.out]; exact hI3.fst), hT3⟩
  | some a' =>
    obtain rfl : a = a' := ha a' hr
    rw [hr] at HIS
    by_cases h1 : a.n = 1
    · have hyes : Hid (isM l x v = true) := by show _ = _; rw [HIS.out]; exact decide_eq_true h1
      have h1' : (a.n == 1) = true := by rw [h1]; rfl
      clear hr
      have hlen1 : Hid ((ms l x (d ++ [v])).length = (ms l x d).length + 1) := by show _ = _; rw [ms_yes hyes.out, List.length_append]; rfl
      have hhd : Hid ((ms l x (d ++ [v])).head?.getD [] = if (ms l x d).length = 0 then v else (ms l x d).head?.getD []) := by
        show _ = _
        rw [ms_yes hyes.out]
        cases hm : ms l x d with
        | nil => rfl
        | cons a b => rw [if_neg (by simp)]; rfl
      obtain ⟨fv, hF, hfv⟩ := hI3.fst
      have hFF := hF
      have hm1 : (ms l x d).length ≤ 10000 := by omega
      clear HIS hcl
      generalize (ms l x d).length = m at *
      generalize (ms l x d).head?.getD [] = fs at *
      have hC3 := hI3.cnt
      have hcs := hI3.cnt.set_ 0 (.int .i64 ((m : Int) + 1))
      have hT4 : Two c (c + 1) w3 (w3.setCell ⟨c, 0, none⟩ (.int .i64 ((m : Int) + 1))) := (Two.refl _ _ _).set_g 0 _
      have hF4 := hF.far (p := ⟨c, 0, none⟩) (show c + 1 ≠ c by omega) (.int .i64 ((m : Int) + 1))
      have hfv4 : SlV (DT c (c + 1) _) _ fv fs := Sl.keep hfv (fun _ _ _ _ _ _ _ _ h => h) (DT.up hT4.size) hT4.same
      have hvv4 : SlV (DT c (c + 1) _) _ vv v := Sl.keep hvv3 (fun _ _ _ _ _ _ _ _ h => h) (DT.up hT4.size) hT4.same
      have hsz : (w3.setCell ⟨c, 0, none⟩ (.int .i64 ((m : Int) + 1))).heap.size = w3.heap.size := by simp
      have hCC : Blk (w3.setCell ⟨c, 0, none⟩ (.int .i64 ((m : Int) + 1))) c 3 #[.int .i64 ((m : Int) + 1)] := hcs
      clear hcs hF hfv hvv3
      go_upto_region 4 with fail
      generalize hw4 : w3.setCell ⟨c, 0, none⟩ (.int .i64 ((m : Int) + 1)) = w4 at *
      clear hw4
      have c4 := hCC.c1
      by_cases hm0 : m = 0
      · have hmb : ((m : Int) + 1 == 1) = true := by rw [hm0]; rfl
        have hmb' : ((m : Int) + 1) ≤ 1 := by omega
        have hmb2 : 1 ≤ ((m : Int) + 1) := by omega
        have hHD : Hid ((ms l x (d ++ [v])).head?.getD [] = v) := by show _ = _; rw [hhd.out, if_pos hm0]
        have HM0 := Lib.hid hm0
        clear hm0
        have hcl := cloneV vv v w4 hvv4.lt (by have := hgood.len; omega)
        have HCL := Lib.hid hcl
        clear hcl
        go_wp2_with fail
        (with_reducible refine HCL.out.mono ?_)
        rintro e w5 ⟨ov, rfl, hown, hb5⟩
        have hov := hown.sl hvv4.fits
        obtain ⟨Ao, co, rfl, o1, o2, hov⟩ := hov.open_
        have hC5 := hCC.now hb5
        have hF5 := hF4.now hb5
        have hov5 := hov.two hC5 hF5
        have fz3 := hF5.frozen 0
        have d3 := hF5.c1
        have hT5 : Two c (c + 1) w5 (w5.setCell ⟨c + 1, 0, none⟩ (.slice Ao v.length co)) := (Two.refl _ _ _).set_h 0 _
        have hCT := hC5.far (p := ⟨c + 1, 0, none⟩) (show c ≠ c + 1 by omega) (.slice Ao v.length co)
        have hFT : Blk _ (c + 1) 23 #[.slice Ao v.length co] := hF5.set_ 0 (.slice Ao v.length co)
        have hovT : SlV (DT c (c + 1) _) _ (.slice Ao v.length co) v := Sl.keep hov5 (fun _ _ _ _ _ _ _ _ h => h) (DT.up hT5.size) hT5.same
        clear c4 HCL
        go_wp2_with fail
        go_ret
        have hTT := (hT4.trans (Two.of_below hb5)).trans hT5
        exact ⟨rfl, hI3.put hBg hgc hTT (by rw [hlen1.out]; exact hCT) (by rw [hHD.out]; exact ⟨_, hFT, hovT⟩), hT3.trans hTT⟩
      · have hmb : ((m : Int) + 1 == 1) = false := by simp; omega
        have hHD : Hid ((ms l x (d ++ [v])).head?.getD [] = fs) := by show _ = _; rw [hhd.out, if_neg hm0]
        have HM0 := Lib.hid hm0
        clear hm0
        go_wp2_with fail
        go_ret
        exact ⟨rfl, hI3.put hBg hgc hT4 (by rw [hlen1.out]; exact hCC) (by rw [hHD.out]; exact ⟨_, hF4, hfv4⟩), hT3.trans hT4⟩
    · have hno : Hid (isM l x v = false) := by show _ = _; rw [HIS.out]; exact decide_eq_false h1
      have h1' : (a.n == 1) = false := by simpa using h1
      clear hr
      go_wp2_with fail
      go_ret
      exact ⟨rfl, hI3.put hBg hgc (Two.refl _ _ _) (by rw [ms_no hno.out]; exact hI3.cnt) (by rw [ms_no hno.out]; exact hI3.fst), hT3⟩
def RetIVE (r : Int × List Val × Int) (w : World) (e : Ending) (w' : World) : Prop := ∃ v, e = .returned (.tuple #[.int .i64 r.1, v, .int .i64 r.2.2]) ∧ SlV (Lt w'.heap.size) w' v r.2.1 ∧ Below w.heap.size w w'
theorem RetIVE.none_ {r : Int × List Val × Int} {w w' : World} {e : Int} (h : r = (0, [], e)) (hb : Below w.heap.size w w') : RetIVE r w (.returned (.tuple #[.int .i64 0, .slice none 0 0, .int .i64 e])) w' := by
  subst h; exact ⟨_, rfl, Sl.none_, hb⟩
set_option maxHeartbeats 2000000 in
set_option maxRecDepth 100000 in
theorem models_any (n : Nat) (l : List Var) (x : Ex) (uv u : Value) (w : World) (hvs : SlX (Lt w.heap.size) w uv l) (hx : IsEx n (Lt w.heap.size) w u x) (hl : l.length ≤ 1000000) :
    Calls Tryz.prog 25 #[uv, u] w (RetIVE (modelsE l x) w) := by
  have hxx := hx
  obtain ⟨Av, cv, rfl, v1, v2, hvs⟩ := hvs.open_
  obtain ⟨lv, rfl, _, Ax, cx, rfl⟩ := hx.cells
  have hb := bbox (bone w (.cells #[.slice Av l.length cv] 22)) (.cells #[.int .i64 x.op, .int .i64 x.v.kind, .int .i64 x.v.n, .string x.v.s, .string x.s, .slice Ax x.l.length cx] 28)
  have hBv := (Blk.new w 22 #[.slice Av l.length cv]).alloc (.cells #[.int .i64 x.op, .int .i64 x.v.kind, .int .i64 x.v.n, .string x.v.s, .string x.s, .slice Ax x.l.length cx] 28)
  have hBx := Blk.new_at (t := 28) (cs := #[.int .i64 x.op, .int .i64 x.v.kind, .int .i64 x.v.n, .string x.v.s, .string x.s, .slice Ax x.l.length cx]) (w := w.alloc (.cells #[.slice Av l.length cv] 22)) (s := w.heap.size + 1) (World.size_alloc _ _)
  have hx1 := hxx.now hb
  have hv1 := hvs.now hb
  have hsz1 : ((w.alloc (.cells #[.slice Av l.length cv] 22)).alloc (.cells #[.int .i64 x.op, .int .i64 x.v.kind, .int .i64 x.v.n, .string x.v.s, .string x.s, .slice Ax x.l.length cx] 28)).heap.size = w.heap.size + 2 := by rw [World.size_alloc, World.size_alloc]
  have HG := Lib.hid (given_any n l x _ _ _ hv1 hx1 hl)
  have HE : Hid (modelsE l x = if (givenE l x).2 ≠ 0 then (0, [], (givenE l x).2) else if (givenE l x).1 ≠ 1 then (0, [], 11) else if plentyB l then (0, [], 13) else (((((asgL l).filter (isM l x)).length : Nat) : Int), ((asgL l).filter (isM l x)).head?.getD [], 0)) := rfl
  have HS1 := Lib.hid hsz1
  have HGO := Lib.hid (fun h => given_ok (vs := l) (x := x) h)
  have HVS := Lib.hid hvs
  have HXX := Lib.hid hxx
  clear hx hvs hxx hsz1
  go_enter Tryz.func25, Tryz.ntmps25
  go_upto_region 1 with fail
  generalize hww : (w.alloc (.cells #[.slice Av l.length cv] 22)).alloc (.cells #[.int .i64 x.op, .int .i64 x.v.kind, .int .i64 x.v.n, .string x.v.s, .string x.s, .slice Ax x.l.length cx] 28) = w1 at *
  clear hww
  have b0 := hBv.c1
  obtain ⟨q0, q1, q2, q3, q4, q5⟩ := hBx.c6
  go_wp2_with fail
  (with_reducible refine HG.out.mono ?_)
  rintro e w2 ⟨rfl, hfit, hb2⟩
  have hbw2 := bthen hb hb2
  have hv2 := hv1.now hb2
  have hBv2 := hBv.now hb2
  have hBx2 := hBx.now hb2
  clear HG b0 q0 q1 q2 q3 q4 q5
  have b0 := hBv2.c1
  by_cases hg : (givenE l x).2 = 0
  · obtain ⟨hvx, hvv, hty⟩ := HGO.out hg
    have HG0 := Lib.hid hg
    rw [hg]
    clear hg
    by_cases hk : (givenE l x).1 = 1
    · have HK := Lib.hid hk
      rw [hk]
      clear hk hfit
      have HPL := Lib.hid (plenty_any l _ w2 hv2 hvv)
      have HVV := Lib.hid hvv
      clear hvv
      go_wp2_with fail
      (with_reducible refine HPL.out.mono ?_)
      rintro e w3 ⟨rfl, hb3⟩
      cases hpl : plentyB l
      · have HR : Hid (modelsE l x = ((((ms l x (asgL l)).length : Nat) : Int), (ms l x (asgL l)).head?.getD [], 0)) := by
          show _ = _
          rw [HE.out, if_neg (by rw [HG0.out]; simp), if_neg (by rw [HK.out]; simp), hpl, if_neg Bool.false_ne_true]; rfl
        have hp1 : prodL l ≤ 10000 := by unfold plentyB at hpl; rw [decide_eq_false_iff_not] at hpl; omega
        have HP1 := Lib.hid hp1
        have hBv3 := hBv2.now hb3
        have hBx3 := hBx2.now hb3
        have hbw3 := bthen hbw2 hb3
        have h8 := vars_len HVV.out
        clear b0 hpl hp1 HE HPL hv2 hBv2 hBx2 hv1 hx1 hBv hBx
        have b0 := hBv3.c1
        have hb4 := bbox (bone w3 (.cells #[.int .i64 0] 3)) (.cells #[.slice none 0 0] 23)
        have hC4 := (Blk.new w3 3 #[.int .i64 0]).alloc (.cells #[.slice none 0 0] 23)
        have hF4 := Blk.new_at (t := 23) (cs := #[.slice none 0 0]) (w := w3.alloc (.cells #[.int .i64 0] 3)) (s := w3.heap.size + 1) (World.size_alloc _ _)
        go_upto_region 10 with fail
        generalize hw4 : (w3.alloc (.cells #[.int .i64 0] 3)).alloc (.cells #[.slice none 0 0] 23) = w4 at *
        clear hw4
        have hBv4 := hBv3.now hb4
        have hBx4 := hBx3.now hb4
        have hbw4 := bthen hbw3 hb4
        have hg3 : w.heap.size + 2 ≤ w3.heap.size := hBx3.lt
        have hg4 : w3.heap.size + 2 ≤ w4.heap.size := hF4.lt
        have hI : MdI l x n w.heap.size w.heap.size w3.heap.size Av Ax cv cx [] w4 :=
          ⟨hBv4, hBx4, Sl.below HVS.out RVar.kept hbw4 (Nat.le_refl _), HXX.out.below hbw4 (Nat.le_refl _), hC4, _, hF4, Sl.none_⟩
        have hVis : Visits l 63 #[.pointer (some ⟨w.heap.size, 0, none⟩), .pointer (some ⟨w.heap.size + 1, 0, none⟩), .pointer (some ⟨w3.heap.size, 0, none⟩), .pointer (some ⟨w3.heap.size + 1, 0, none⟩)] w3.heap.size (w3.heap.size + 1) (fun _ => true) (MdI l x n w.heap.size w.heap.size w3.heap.size Av Ax cv cx) :=
          ⟨fun z w => enters_of Tryz.func63 (by kernel_rfl) rfl _ w, fun d W W' h hb => h.now (Nat.le_refl _) hb, fun d W h => ⟨⟨_, _, h.cnt⟩, by obtain ⟨fv, h1, _⟩ := h.fst; exact ⟨_, _, h1⟩⟩,
            fun d v vv W h hd hg hs => models1_any l x n w.heap.size w.heap.size w3.heap.size Av Ax cv cx (valid_ok hvx) hty (Nat.le_refl _) hg3 HP1.out h8 d v vv W h hd hg hs⟩
        have hec := each_any l _ _ _ _ _ _ hVis (.slice Av l.length cv) w4 w.heap.size HVV.out hbw4.size (by omega) (by omega) hI.hv hI
        have HEC := Lib.hid hec
        have b4 := hBv4.c1
        have c4 := hC4.c1
        have d4 := hF4.c1
        clear hec hVis hI b0
        go_wp2_with fail
        (with_reducible refine HEC.out.mono ?_)
        rintro e w5 ⟨rfl, hI5, hT5⟩
        obtain ⟨fv, hF5, hfv5⟩ := hI5.fst
        have hfl := hfv5.lt
        obtain ⟨Af, cf, rfl, _, _, hfl⟩ := hfl.open_
        have e5 := hI5.cnt.c1
        have e6 := hF5.c1
        have hbw5 : Below w.heap.size w w5 := hbw4.trans (hT5.below hbw4.size (by omega) (by omega))
        clear b4 c4 d4 HEC
        go_wp2_with fail
        go_quiet (fail)
        go_wp2_with fail
        go_ret3
        rw [HR.out]
        exact ⟨_, rfl, hfl, bdrawn hbw5 _⟩
      · have HR : Hid (modelsE l x = (0, [], 13)) := by show _ = _; rw [HE.out, if_neg (by rw [HG0.out]; simp), if_neg (by rw [HK.out]; simp), hpl, if_pos rfl]
        go_wp2_with fail
        go_ret3
        exact RetIVE.none_ HR.out (bthen hbw2 hb3)
    · have HR : Hid (modelsE l x = (0, [], 11)) := by show _ = _; rw [HE.out, if_neg (by rw [HG0.out]; simp), if_pos hk]
      have hk' : ((givenE l x).1 != 1) = true := by simpa using hk
      clear hk
      generalize (givenE l x).1 = gk at *
      go_wp2_with fail
      go_ret3
      exact RetIVE.none_ HR.out hbw2
  · have HR : Hid (modelsE l x = (0, [], (givenE l x).2)) := by show _ = _; rw [HE.out, if_pos hg]
    have hk' : ((givenE l x).2 != 0) = true := by simpa using hg
    clear hg HE
    generalize (givenE l x).2 = ge at *
    generalize (givenE l x).1 = gk at *
    go_wp2_with fail
    go_ret3
    exact RetIVE.none_ HR.out hbw2
end Go.Proofs.YtijmnenojbfdnaaGreatDoor

namespace Go.Proofs.YtijmnenojbfdnaaGreatDoor
open Go.RowKit
theorem txA (m : Nat) (h : 20 ≤ m) : txE m exA = (⟨#[110, 111, 116, 32, 110, 32, 43, 32, 49, 32, 61, 32, 51]⟩, 0) := by
  show _ = (ex1, 0)
  unfold txE
  have e : txB (m + 1) exA 0 = ex1.data.toList := by
    rw [txB_fuel (m + 1) 10 exA 0 okA (by have := depA; omega) depA]; exact tx1
  rw [validA, if_pos rfl, e, if_neg (by decide)]
theorem exVars_sl (w : World) : SlX (Lt (w.alloc (.cells #[.string ⟨#[110]⟩, .int .i64 2, .int .i64 0, .int .i64 3, .slice none 0 0] 68)).heap.size) (w.alloc (.cells #[.string ⟨#[110]⟩, .int .i64 2, .int .i64 0, .int .i64 3, .slice none 0 0] 68)) (.slice (some ⟨w.heap.size, 0, none⟩) 1 1) [exVar] :=
  Sl.ofBlk (R := RVar) (size := 5) (xs := [exVar]) (cs := [.string ⟨#[110]⟩, .int .i64 2, .int .i64 0, .int .i64 3, .slice none 0 0]) (Blk.new w 68 _) (by unfold maxLen; decide) (fun i x hx => by
    match i, hx with
    | 0, hx =>
      injection hx with hx; subst hx
      exact ⟨[.string ⟨#[110]⟩, .int .i64 2, .int .i64 0, .int .i64 3, .slice none 0 0], rfl, fun j u hu => by simpa using hu, _, rfl, by unfold maxLen; decide, by unfold Fit; decide, by unfold Fit; decide, by unfold Fit; decide, Sl.none_⟩
    | i + 1, hx => simp at hx)
set_option maxHeartbeats 2000000 in
set_option maxRecDepth 100000 in
theorem exAwake_any (w : World) (hA : Amb w) : Calls Tryz.prog 8 #[] w fun e w' => e = .returned (.bool true) ∧ Below w.heap.size w w' := by
  have HP1 := Lib.hid (parse_any ex1 w (by decide) 20 20 toks1 exA 6 _ (by omega) lex1 tokOk1 (by decide) (by omega) pars1 rfl rfl validA)
  have HP2 := Lib.hid (fun W => parse_any ex2 W (by decide) 20 20 toks2 exC 14 _ (by omega) lex2 tokOk2 (by decide) (by omega) pars2 rfl rfl validC)
  have HA := Lib.hid hA
  clear hA
  go_enter Tryz.func8, Tryz.ntmps8
  go_wp2_with fail
  refine HP1.out.mono ?_
  rintro e w2 ⟨m, v, rfl, hx2, hb2⟩
  have hx2 := hx2.up (show m ≤ max m 20 by omega)
  have hm20 : 20 ≤ max m 20 := by omega
  generalize max m 20 = n at *
  obtain ⟨lv, rfl, _, Ax, cx, rfl⟩ := hx2.cells
  clear HP1
  have hA2 := HA.out.now hb2
  have hb3 := bbox (bone w2 (.cells #[.int .i64 exA.op, .int .i64 exA.v.kind, .int .i64 exA.v.n, .string exA.v.s, .string exA.s, .slice Ax exA.l.length cx] 28)) (.cells #[.int .i64 0, .int .i64 0] 74)
  have hN3 := (Blk.new w2 28 #[.int .i64 exA.op, .int .i64 exA.v.kind, .int .i64 exA.v.n, .string exA.v.s, .string exA.s, .slice Ax exA.l.length cx]).alloc (.cells #[.int .i64 0, .int .i64 0] 74)
  go_upto_region 2 with fail
  generalize hw3 : (w2.alloc (.cells #[.int .i64 exA.op, .int .i64 exA.v.kind, .int .i64 exA.v.n, .string exA.v.s, .string exA.s, .slice Ax exA.l.length cx] 28)).alloc (.cells #[.int .i64 0, .int .i64 0] 74) = w3 at *
  clear hw3
  have hx3 := hx2.now hb3
  have hb3w := bthen hb2 hb3
  have hT := exText_any n exA _ w3 hx3 (hA2.now hb3)
  rw [txA n hm20] at hT
  have HT := Lib.hid hT
  clear hT hx2 hx3 hA2 hb2 hb3 hm20
  obtain ⟨n0, n1, n2, n3, n4, n5⟩ := hN3.c6
  go_wp2_with fail
  (with_reducible refine HT.out.mono ?_)
  rintro e w4 ⟨rfl, hb4⟩
  have hN4 := hN3.now hb4
  have hb4w := bthen hb3w hb4
  clear HT n0 n1 n2 n3 n4 n5 hN3 hb3w hb4
  go_wp2_with fail
  refine (HP2.out _).mono ?_
  rintro e w5 ⟨m2, v2, rfl, hx5, hb5⟩
  obtain ⟨lv, rfl, _, Ay, cy, rfl⟩ := hx5.cells
  have hN5 := hN4.now hb5
  have hb5w := bthen hb4w hb5
  have hb6 := bbox (bone w5 (.cells #[.int .i64 exC.op, .int .i64 exC.v.kind, .int .i64 exC.v.n, .string exC.v.s, .string exC.s, .slice Ay exC.l.length cy] 28)) (.cells #[.int .i64 0, .int .i64 0] 74)
  have hY6 := (Blk.new w5 28 #[.int .i64 exC.op, .int .i64 exC.v.kind, .int .i64 exC.v.n, .string exC.v.s, .string exC.s, .slice Ay exC.l.length cy]).alloc (.cells #[.int .i64 0, .int .i64 0] 74)
  clear HP2 hN4 hb4w hb5
  go_upto_region 4 with fail
  generalize hw6 : (w5.alloc (.cells #[.int .i64 exC.op, .int .i64 exC.v.kind, .int .i64 exC.v.n, .string exC.v.s, .string exC.s, .slice Ay exC.l.length cy] 28)).alloc (.cells #[.int .i64 0, .int .i64 0] 74) = w6 at *
  clear hw6
  have hN6 := hN5.now hb6
  have hx6 := hx5.now hb6
  have hb6w := bthen hb5w hb6
  clear hN5 hx5 hb5w hb6
  have hb7 := bone w6 (.cells #[.string ⟨#[110]⟩, .int .i64 2, .int .i64 0, .int .i64 3, .slice none 0 0] 68)
  have hV7 := Blk.new w6 68 #[.string ⟨#[110]⟩, .int .i64 2, .int .i64 0, .int .i64 3, .slice none 0 0]
  have hsl := exVars_sl w6
  have hM := models_any m2 [exVar] exC _ _ _ hsl (hx6.now hb7) (by decide)
  rw [md1] at hM
  have HM := Lib.hid hM
  have hY7 := hY6.now hb7
  have hN7 := hN6.now hb7
  have hb7w := bthen hb6w hb7
  clear hM hsl hV7 hb7 hx6
  obtain ⟨n0, n1, n2, n3, n4, n5⟩ := hY6.c6
  obtain ⟨k0, k1, k2, k3, k4, k5⟩ := hY7.c6
  go_wp2_with fail
  (with_reducible refine HM.out.mono ?_)
  rintro e w8 ⟨fv, rfl, hfv, hb8⟩
  have hN8 := hN7.now hb8
  have hb8w := bthen hb7w hb8
  obtain ⟨Af, cf, rfl, _, _, hfl⟩ := hfv.open_
  obtain ⟨bf, of, z, rfl, _, hz, _, f0, f1, f2⟩ := SlV.at_ hfl (k := 0) (by decide)
  have hz' : z = ⟨2, 0, ⟨#[]⟩⟩ := by injection hz with hz; exact hz.symm
  subst hz'
  have k0' : w8.cell? ⟨w2.heap.size, 0, none⟩ = some (.int .i64 3) := hN8.c6.1
  have f1' : w8.cell? ⟨bf, of + 1, none⟩ = some (.int .i64 0) := by simpa using f1
  clear HM n0 n1 n2 n3 n4 n5 k0 k1 k2 k3 k4 k5 f0 f1 f2 hfl hfv hz hN7 hN8 hY7 hY6 hN6
  go_wp2_with fail
  go_ret
  exact ⟨rfl, hb8w⟩
end Go.Proofs.YtijmnenojbfdnaaGreatDoor

namespace Go.Proofs.YtijmnenojbfdnaaGreatDoor
open Go.RowKit
theorem gw_set (w : World) (g k : Nat) (u : Value) : w.grownBy (w.setCell ⟨g, k, none⟩ u) (some g) :=
  ⟨rfl, rfl, rfl, by rw [World.size_setCell]; exact Nat.le_refl _, fun i _ hne => Below.heap_setCell w ⟨g, k, none⟩ u i (fun e => hne (by rw [e]))⟩
theorem gw_trans {a b c : World} {row : Option Nat} (h : a.grownBy b row) (k : b.grownBy c row) : a.grownBy c row :=
  ⟨k.os.trans h.os, k.tape.trans h.tape, k.output.trans h.output, Nat.le_trans h.size k.size, fun i hi hne => (k.block i (Nat.lt_of_lt_of_le hi h.size) hne).trans (h.block i hi hne)⟩
theorem gw_below {a b c : World} {row : Option Nat} (h : a.grownBy b row) (k : Below b.heap.size b c) : a.grownBy c row := gw_trans h (grown_of_below k row)
theorem grown_drewN' {a b : World} {row : Option Nat} (h : a.grownBy b row) (n : Nat) : a.grownBy (b.drewN n) row := ⟨h.os, h.tape, h.output, h.size, h.block⟩
def RetQ (w : World) (e : Ending) (w' : World) : Prop := ∃ b, e = .returned (.bool b) ∧ Below w.heap.size w w'
def Bu (g : Nat) (w : World) (b : Nat) : Prop := b < w.heap.size ∧ b ≠ g
theorem bu_now {g : Nat} {w w' : World} (h : w.grownBy w' (some g)) : (∀ b, Bu g w b → Bu g w' b) ∧ Same (Bu g w) w w' :=
  ⟨fun _ hb => ⟨Nat.lt_of_lt_of_le hb.1 h.size, hb.2⟩, fun b hb => h.block b hb.1 (fun e => hb.2 (by cases e; rfl))⟩
def SzR (g : Nat) (w : World) (e : Ending) (w' : World) : Prop := ∃ b k, e = .returned (.bool b) ∧ Blk w' g 3 #[.int .i64 k] ∧ w.grownBy w' (some g) ∧ (b = true → 0 ≤ k ∧ k ≤ 500)
set_option maxHeartbeats 4000000 in
set_option maxRecDepth 100000 in
theorem few_any : ∀ (n : Nat) (x : Ex) (u : Value) (w : World) (g : Nat) (l d : Int), IsEx n (Bu g w) w u x → Blk w g 3 #[.int .i64 l] → 0 ≤ l → l ≤ 500 → 0 ≤ d → d ≤ 101 →
    Calls Tryz.prog 38 #[u, .pointer (some ⟨g, 0, none⟩), .int .i64 d] w (SzR g w) := by
  intro n
  induction n using Nat.strongRecOn with
  | _ n ih =>
    intro x u w g l d h hG ha1 ha2 hd1 hd2
    obtain ⟨lv, rfl, h1, h2, h3, h4⟩ := h
    obtain ⟨A, c, rfl, l1, l2, h4⟩ := SlE.open_ h4
    have hgl := hG.lt
    have hb := bone w (.cells #[.int .i64 x.op, .int .i64 x.v.kind, .int .i64 x.v.n, .string x.v.s, .string x.s, .slice A x.l.length c] 28)
    have hB := Blk.new w 28 #[.int .i64 x.op, .int .i64 x.v.kind, .int .i64 x.v.n, .string x.v.s, .string x.s, .slice A x.l.length c]
    have hgw := grown_of_below hb (some g)
    have hl1 := Sl.keep h4 (RExN.kept n) (bu_now hgw).1 (bu_now hgw).2
    have hG1 := hG.now hb
    clear h4
    generalize hw1 : w.alloc (.cells #[.int .i64 x.op, .int .i64 x.v.kind, .int .i64 x.v.n, .string x.v.s, .string x.s, .slice A x.l.length c] 28) = w1 at *
    obtain ⟨q0, q1, q2, q3, q4, q5⟩ := hB.c6
    have p0 := hG1.c1
    have p1 := hG1.frozen 0
    obtain ⟨_, _, hsv⟩ := h2
    unfold maxLen at h3 hsv
    have wp1 : IntKind.i64.wrap ((x.s.size : Int) / 100) = (x.s.size : Int) / 100 := IntWalk.i64_in _ (by omega)
    have wp2 : IntKind.i64.wrap (1 + (x.s.size : Int) / 100) = 1 + (x.s.size : Int) / 100 := IntWalk.i64_in _ (by omega)
    have wp3 : IntKind.i64.wrap ((x.v.s.size : Int) / 100) = (x.v.s.size : Int) / 100 := IntWalk.i64_in _ (by omega)
    have wp4 : IntKind.i64.wrap (1 + (x.s.size : Int) / 100 + (x.v.s.size : Int) / 100) = 1 + (x.s.size : Int) / 100 + (x.v.s.size : Int) / 100 := IntWalk.i64_in _ (by omega)
    have wp5 : IntKind.i64.wrap (l - (1 + (x.s.size : Int) / 100 + (x.v.s.size : Int) / 100)) = l - (1 + (x.s.size : Int) / 100 + (x.v.s.size : Int) / 100) := IntWalk.i64_in _ (by omega)
    have hle : l - (1 + (x.s.size : Int) / 100 + (x.v.s.size : Int) / 100) ≤ 500 := by omega
    have HW := Lib.hid (And.intro wp1 (And.intro wp2 (And.intro wp3 (And.intro wp4 wp5))))
    clear h3 hsv h1
    go_enter Tryz.func38, Tryz.ntmps38
    go_wp2_with fail
    go_still_tail 16, (by kernel_rfl)
    change wpList _ _ _ _ _ w1.drew
    go_upto_region 2 with fail
    clear wp1 wp2 wp3 wp4 wp5 p0 p1 q0 q1 q2 q3 q4 q5
    generalize hl' : l - (1 + (x.s.size : Int) / 100 + (x.v.s.size : Int) / 100) = l' at *
    have hgs := gw_trans hgw (gw_set w1 g 0 (.int .i64 l'))
    have hgs2 := gw_set w1 g 0 (.int .i64 l')
    have hG2 : Blk (w1.setCell ⟨g, 0, none⟩ (.int .i64 l')).drew g 3 #[.int .i64 l'] := (hG1.set_ 0 (.int .i64 l')).drew
    have hB2 : Blk (w1.setCell ⟨g, 0, none⟩ (.int .i64 l')).drew w.heap.size 28 _ := (hB.grown hgs2 (by intro e; injection e with e; omega)).drew
    have hgs3 := grown_drewN' hgs 1
    have hl2 : Sl 6 (RExN n) (Bu g (w1.setCell ⟨g, 0, none⟩ (.int .i64 l')).drew) (w1.setCell ⟨g, 0, none⟩ (.int .i64 l')).drew (.slice A x.l.length c) x.l := Sl.keep (Sl.keep hl1 (RExN.kept n) (bu_now hgs2).1 (bu_now hgs2).2) (RExN.kept n) (fun _ h => h) (fun _ _ => rfl)
    have hgw2 : w.grownBy (w1.setCell ⟨g, 0, none⟩ (.int .i64 l')).drew (some g) := grown_drewN' hgs 1
    clear hgs hgs2 hgs3 hB hG1 hl1 hgw hb hw1
    generalize (w1.setCell ⟨g, 0, none⟩ (.int .i64 l')).drew = w2 at *
    obtain ⟨q0, q1, q2, q3, q4, q5⟩ := hB2.c6
    have p0 := hG2.c1
    by_cases c1 : l' < 0
    · go_wp2_with fail
      go_ret
      exact ⟨false, l', rfl, hG2, hgw2, fun h => by cases h⟩
    by_cases c2 : d > 100
    · go_wp2_with fail
      go_ret
      exact ⟨false, l', rfl, hG2, hgw2, fun h => by cases h⟩
    go_wp2_with fail
    go_loopw [36] (fun i wr => ∃ (k : Nat) (z : Int), k ≤ x.l.length ∧ i = .int .i64 k ∧ 0 ≤ z ∧ z ≤ 500 ∧ Blk wr g 3 #[.int .i64 z] ∧ w.grownBy wr (some g) ∧ w2.grownBy wr (some g)) (fun i _ => x.l.length - (intOf i).toNat)
    case atStart => exact ⟨0, l', Nat.zero_le _, rfl, by omega, by omega, hG2, hgw2, World.grownBy.refl _ _⟩
    case round =>
      obtain ⟨k, z, hk, rfl, z1, z2, hGr, hgr, hgr2⟩ := hrel
      by_cases hlt : k < x.l.length
      · have hlr : SlE n (Bu g wr) wr (.slice A x.l.length c) x.l := Sl.keep hl2 (RExN.kept n) (bu_now hgr2).1 (bu_now hgr2).2
        obtain ⟨b, o, y, lv, n', hn, rfl, hD, hx, hex, hfv, hsl, e0, e1, e2, e3, e4, e5⟩ := hlr.at_ hlt
        have hsl := hsl
        obtain ⟨A2, c2', rfl, m1, m2, _⟩ := SlE.open_ hsl
        have hb3 := bone wr (.cells #[.int .i64 y.op, .int .i64 y.v.kind, .int .i64 y.v.n, .string y.v.s, .string y.s, .slice A2 y.l.length c2'] 28)
        have hg3 := grown_of_below hb3 (some g)
        have wd : IntKind.i64.wrap (d + 1) = d + 1 := IntWalk.i64_in _ (by omega)
        have hcall := Lib.hid (ih n' (by omega) y _ _ g z (d + 1) (hex.keepD (bu_now hg3).1 (bu_now hg3).2) (hGr.now hb3) z1 z2 (by omega) (by omega))
        clear hx hex hfv hsl hn hlr hD
        go_wp2_with fail
        refine hcall.out.mono ?_
        rintro e w4 ⟨ok, z', rfl, hG4, hg4, hz⟩
        have hgw4 : w.grownBy w4 (some g) := gw_trans (gw_below hgr hb3) hg4
        have hgw4' : w2.grownBy w4 (some g) := gw_trans (gw_below hgr2 hb3) hg4
        cases ok
        · go_wp2_with fail
          go_ret
          exact ⟨false, z', rfl, hG4, hgw4, fun h => by cases h⟩
        · have hz' := hz rfl
          clear hz
          go_wp2_with fail
          go_roundw
          case rel => exact ⟨k + 1, z', by omega, by go_num, hz'.1, hz'.2, hG4, hgw4, hgw4'⟩
          case measure => simp [intOf]; omega
      · go_wp2_with fail
        go_ret
        exact ⟨true, z, rfl, hGr, hgr, fun _ => ⟨z1, z2⟩⟩
def AsksXW (k : FuncId) (w : World) : Prop := ∀ (x : Var) (v : Value) (W : World), Below w.heap.size w W → IsVar (Lt W.heap.size) W v x → Calls Tryz.prog k #[v] W (RetQ W)
set_option maxHeartbeats 1000000 in
theorem indexXW (k : FuncId) (eg : ∀ args w, (callFunc k args).run Tryz.prog w = .ok (.enter k args) w) (tv : Value) (ts : List Var) (w : World) (ht : SlX (Lt w.heap.size) w tv ts) (hf : AsksXW k w) :
    Calls Tryz.prog 76 #[tv, .func (.func k) #[] #[]] w fun e w' => ∃ z : Int, e = .returned (.int .i64 z) ∧ Below w.heap.size w w' := by
  obtain ⟨A, c, rfl, h1, h2, ht⟩ := ht.open_
  have HF := Lib.hid hf
  clear hf
  go_enter Tryz.func76, Tryz.ntmps76
  go_wp2_with fail
  go_loopw [8] (fun i wr => ∃ j : Nat, j ≤ ts.length ∧ i = .int .i64 j ∧ Below w.heap.size w wr) (fun i _ => ts.length - (intOf i).toNat)
  case atStart => exact ⟨0, Nat.zero_le _, rfl, Below.refl _ _⟩
  case round =>
    obtain ⟨j, hj, rfl, hb⟩ := hrel
    by_cases hlt : j < ts.length
    · obtain ⟨b, o, x, iv, rfl, hD, hx, hvar, hiv, c0, c1, c2, c3, c4⟩ := (ht.now hb).at_ hlt
      have HC := Lib.hid (HF.out x _ wr hb hvar)
      go_wp2_with (go_at_fn k; refine HC.out.mono ?_; rintro e w' ⟨q, rfl, hb'⟩)
      · go_ret
        exact ⟨_, rfl, bthen hb hb'⟩
      · go_roundw
        case rel => exact ⟨j + 1, by omega, by go_num, bthen hb hb'⟩
        case measure => simp [intOf]; omega
    · go_wp2_with fail
      go_ret
      exact ⟨_, rfl, hb⟩
theorem containsXW (k : FuncId) (eg : ∀ args w, (callFunc k args).run Tryz.prog w = .ok (.enter k args) w) (tv : Value) (ts : List Var) (w : World) (ht : SlX (Lt w.heap.size) w tv ts) (hf : AsksXW k w) :
    Calls Tryz.prog 39 #[tv, .func (.func k) #[] #[]] w (RetQ w) := by
  have HC := Lib.hid (indexXW k eg tv ts w ht hf)
  clear hf ht
  go_enter Tryz.func39, Tryz.ntmps39
  go_wp2_with (go_at_call 76; refine HC.out.mono ?_; rintro e w' ⟨z, rfl, hb'⟩)
  go_ret
  exact ⟨_, rfl, hb'⟩
theorem small1_any (n : Nat) (x : Ex) (u : Value) (w : World) (g : Nat) (l : Int) (h : IsEx n (Bu g w) w u x) (hG : Blk w g 3 #[.int .i64 l]) (h0 : 0 ≤ l) (h1 : l ≤ 500) :
    Calls Tryz.prog 37 #[u, .pointer (some ⟨g, 0, none⟩)] w fun e w' => ∃ b k, e = .returned (.bool b) ∧ Blk w' g 3 #[.int .i64 k] ∧ w.grownBy w' (some g) ∧ (b = false → 0 ≤ k ∧ k ≤ 500) := by
  have hx := h
  obtain ⟨lv, rfl, h1', h2, h3, h4⟩ := h
  obtain ⟨A, c, rfl, l1, l2, h4⟩ := SlE.open_ h4
  have hgl := hG.lt
  have hb := bone w (.cells #[.int .i64 x.op, .int .i64 x.v.kind, .int .i64 x.v.n, .string x.v.s, .string x.s, .slice A x.l.length c] 28)
  have hB := Blk.new w 28 #[.int .i64 x.op, .int .i64 x.v.kind, .int .i64 x.v.n, .string x.v.s, .string x.s, .slice A x.l.length c]
  have hgw := grown_of_below hb (some g)
  have hx1 := hx.keepD (bu_now hgw).1 (bu_now hgw).2
  have HC := Lib.hid (few_any n x _ _ g l 0 hx1 (hG.now hb) h0 h1 (by omega) (by omega))
  clear hx hx1 h4
  obtain ⟨q0, q1, q2, q3, q4, q5⟩ := hB.c6
  go_enter Tryz.func37, Tryz.ntmps37
  go_wp2_with fail
  (with_reducible refine HC.out.mono ?_)
  rintro e w2 ⟨b, k, rfl, hG2, hg2, hz⟩
  have hgw2 := gw_trans hgw hg2
  clear q0 q1 q2 q3 q4 q5
  go_wp2_with fail
  go_ret
  refine ⟨_, k, rfl, hG2, hgw2, fun h => hz ?_⟩
  cases b
  · cases h
  · rfl
set_option maxHeartbeats 1000000 in
set_option maxRecDepth 100000 in
theorem indexSm (n : Nat) (tv : Value) (ts : List Ex) (w : World) (g : Nat) (ht : SlE n (Bu g w) w tv ts) (hG : Blk w g 3 #[.int .i64 500]) :
    Calls Tryz.prog 75 #[tv, .func (.func 37) #[] #[.pointer (some ⟨g, 0, none⟩)]] w fun e w' => ∃ z : Int, e = .returned (.int .i64 z) ∧ w.grownBy w' (some g) := by
  have eg : ∀ z w, (callFunc 37 (#[z] ++ #[.pointer (some ⟨g, 0, none⟩)])).run Tryz.prog w = .ok (.enter 37 (#[z] ++ #[.pointer (some ⟨g, 0, none⟩)])) w := fun z w => enters_of Tryz.func37 (by kernel_rfl) rfl _ w
  obtain ⟨A, c, rfl, h1, h2, ht⟩ := ht.open_
  go_enter Tryz.func75, Tryz.ntmps75
  go_wp2_with fail
  go_loopw [8] (fun i wr => ∃ (j : Nat) (k : Int), j ≤ ts.length ∧ i = .int .i64 j ∧ 0 ≤ k ∧ k ≤ 500 ∧ Blk wr g 3 #[.int .i64 k] ∧ w.grownBy wr (some g)) (fun i _ => ts.length - (intOf i).toNat)
  case atStart => exact ⟨0, 500, Nat.zero_le _, rfl, by omega, by omega, hG, World.grownBy.refl _ _⟩
  case round =>
    obtain ⟨j, k, hj, rfl, k1, k2, hGr, hgr⟩ := hrel
    by_cases hlt : j < ts.length
    · have hlr : SlE n (Bu g wr) wr (.slice A ts.length c) ts := Sl.keep ht (RExN.kept n) (bu_now hgr).1 (bu_now hgr).2
      obtain ⟨b, o, t, lv, n', rfl, rfl, hD, hx, hex, hfv, hsl, c0, c1, c2, c3, c4, c5⟩ := hlr.at_ hlt
      have HC := Lib.hid (small1_any n' t _ wr g k hex hGr k1 k2)
      clear hx hex hfv hsl hlr
      go_wp2_with fail
      (with_reducible refine HC.out.mono ?_)
      rintro e w2 ⟨q, z, rfl, hG2, hg2, hz⟩
      have hgw2 := gw_trans hgr hg2
      cases q
      · obtain ⟨z1, z2⟩ := hz rfl
        clear hz
        go_wp2_with fail
        go_roundw
        case rel => exact ⟨j + 1, z, by omega, by go_num, z1, z2, hG2, hgw2⟩
        case measure => simp [intOf]; omega
      · clear hz
        go_wp2_with fail
        go_ret
        exact ⟨_, rfl, hgw2⟩
    · go_wp2_with fail
      go_ret
      exact ⟨_, rfl, hgr⟩
theorem containsSm (n : Nat) (tv : Value) (ts : List Ex) (w : World) (g : Nat) (ht : SlE n (Bu g w) w tv ts) (hG : Blk w g 3 #[.int .i64 500]) :
    Calls Tryz.prog 36 #[tv, .func (.func 37) #[] #[.pointer (some ⟨g, 0, none⟩)]] w fun e w' => ∃ b : Bool, e = .returned (.bool b) ∧ w.grownBy w' (some g) := by
  have HC := Lib.hid (indexSm n tv ts w g ht hG)
  clear ht
  go_enter Tryz.func36, Tryz.ntmps36
  go_wp2_with (go_at_call 75; refine HC.out.mono ?_; rintro e w' ⟨z, rfl, hb'⟩)
  go_ret
  exact ⟨_, rfl, hb'⟩
theorem small_any (n : Nat) (tv : Value) (ts : List Ex) (w : World) (ht : SlE n (Lt w.heap.size) w tv ts) : Calls Tryz.prog 9 #[tv] w (RetQ w) := by
  have hb1 := bone w (.cells #[.int .i64 500] 3)
  have hG := Blk.new w 3 #[.int .i64 500]
  have ht1 : SlE n (Bu w.heap.size (w.alloc (.cells #[.int .i64 500] 3))) (w.alloc (.cells #[.int .i64 500] 3)) tv ts :=
    Sl.keep ht (RExN.kept n) (fun b hb => ⟨Nat.lt_of_lt_of_le hb hb1.size, Nat.ne_of_lt hb⟩) (Same.of_below hb1)
  have HC := Lib.hid (containsSm n tv ts _ _ ht1 hG)
  obtain ⟨A, c, rfl, _, _, _⟩ := ht.open_
  clear ht ht1
  go_enter Tryz.func9, Tryz.ntmps9
  go_wp2_with fail
  (with_reducible refine HC.out.mono ?_)
  rintro e w2 ⟨b, rfl, hg2⟩
  have hb2 := hb1.trans (below_of_grown hg2 hb1.size (fun g e => by injection e with e; omega))
  go_wp2_with fail
  go_ret
  exact ⟨_, rfl, hb2⟩
theorem list2_any (s : ByteArray) (w : World) : Calls Tryz.prog 42 #[.string s] w fun e w' => e = .returned (.bool (decide (300 < (s.size : Int)))) ∧ Below w.heap.size w w' := by
  go_enter Tryz.func42, Tryz.ntmps42
  go_wp2_with fail
  go_ret
  exact ⟨rfl, Below.refl _ _⟩
theorem list1_any (w0 : World) : AsksXW 40 w0 := by
  rintro x v w hb0 ⟨iv, rfl, a1, a2, a3, a4, hi⟩
  obtain ⟨A, c, rfl, h1, h2, hi⟩ := hi.open_
  have eg : ∀ args w, (callFunc 42 args).run Tryz.prog w = .ok (.enter 42 args) w := enters_of Tryz.func42 (by kernel_rfl) rfl
  have hb1 := bone w (.cells #[.string x.name, .int .i64 x.kind, .int .i64 x.low, .int .i64 x.high, .slice A x.items.length c] 68)
  have hB1 := Blk.new w 68 #[.string x.name, .int .i64 x.kind, .int .i64 x.low, .int .i64 x.high, .slice A x.items.length c]
  have HC := Lib.hid (containsFuncS 42 eg _ x.items (fun s => decide (300 < (s.size : Int))) _ (hi.now hb1) (fun s W _ _ _ => list2_any s W))
  generalize x.items.any _ = q at HC
  unfold maxLen at a1
  clear hi
  obtain ⟨q0, q1, q2, q3, q4⟩ := hB1.c5
  go_enter Tryz.func40, Tryz.ntmps40
  by_cases c1 : 1100 < x.items.length
  · go_wp2_with fail
    go_ret
    exact ⟨_, rfl, hb1⟩
  by_cases c2 : 200 < x.name.size
  · go_wp2_with fail
    go_ret
    exact ⟨_, rfl, hb1⟩
  go_wp2_with fail
  (with_reducible refine HC.out.mono ?_)
  rintro e w2 ⟨rfl, hb2⟩
  have hb2w := bthen hb1 hb2
  clear q0 q1 q2 q3 q4
  go_wp2_with fail
  go_ret
  exact ⟨_, rfl, hb2w⟩
def RetList (l : List Var) (w : World) (e : Ending) (w' : World) : Prop := ∃ b, e = .returned (.bool b) ∧ (b = true → l.length ≤ 10) ∧ Below w.heap.size w w'
theorem list_any (l : List Var) (v : Value) (w : World) (h : SlX (Lt w.heap.size) w v l) : Calls Tryz.prog 10 #[v] w (RetList l w) := by
  have eg : ∀ args w, (callFunc 40 args).run Tryz.prog w = .ok (.enter 40 args) w := enters_of Tryz.func40 (by kernel_rfl) rfl
  have HC := Lib.hid (containsXW 40 eg _ l w h (list1_any w))
  obtain ⟨A, c, rfl, _, _, _⟩ := h.open_
  clear h
  go_enter Tryz.func10, Tryz.ntmps10
  by_cases c1 : l.length ≤ 10
  · go_wp2_with fail
    (with_reducible refine HC.out.mono ?_)
    rintro e w2 ⟨b, rfl, hb2⟩
    go_wp2_with fail
    go_ret
    exact ⟨_, rfl, fun _ => c1, hb2⟩
  · go_wp2_with fail
    go_ret
    exact ⟨_, rfl, fun h => (by cases h), Below.refl _ _⟩
end Go.Proofs.YtijmnenojbfdnaaGreatDoor
