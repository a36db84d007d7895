/- Texts of this seat, merged. -/
import Derived.Test.YtijmnenojbfdnaaGreatDoorEq01
import Derived.Test.YtijmnenojbfdnaaGreatDoorEq02
import Derived.Test.YtijmnenojbfdnaaGreatDoorEq03
import Derived.Test.YtijmnenojbfdnaaGreatDoorEq04
import Derived.Test.YtijmnenojbfdnaaGreatDoorEq05
import Derived.Test.YtijmnenojbfdnaaGreatDoorEq06
import Derived.Test.YtijmnenojbfdnaaGreatDoorEq07
import Derived.Test.YtijmnenojbfdnaaGreatDoorEq08
import Derived.Test.YtijmnenojbfdnaaGreatDoorEq09
import Derived.Test.YtijmnenojbfdnaaGreatDoorEq10
import Derived.Test.YtijmnenojbfdnaaGreatDoorEq11
import Derived.Test.YtijmnenojbfdnaaGreatDoorEq12
import Derived.Test.YtijmnenojbfdnaaGreatDoorEq13
import Derived.Test.YtijmnenojbfdnaaGreatDoorEq14
import Derived.Test.YtijmnenojbfdnaaGreatDoorEq15
import Derived.Test.YtijmnenojbfdnaaGreatDoorEq22
import Derived.Test.YtijmnenojbfdnaaGreatDoorEq23
import Derived.Test.YtijmnenojbfdnaaGreatDoorEq24
set_option linter.unusedSimpArgs false
set_option linter.unusedVariables false
namespace Go.Proofs.YtijmnenojbfdnaaGreatDoor
open Go.RowKit
set_option maxHeartbeats 1000000 in
theorem given_any (n : Nat) (vs : List Var) (x : Ex) (uv u : Value) (w : World) (hv : SlX (Lt w.heap.size) w uv vs) (h : IsEx n (Lt w.heap.size) w u x) (hl : vs.length ≤ 1000000) :
    Calls Tryz.prog 44 #[uv, u] w fun e w' => e = .returned (.tuple #[.int .i64 (givenE vs x).1, .int .i64 (givenE vs x).2]) ∧ Fit (givenE vs x).1 ∧ Below w.heap.size w w' := by
  have h0 := h
  obtain ⟨lv, rfl, h1, h2, h3, h4⟩ := h
  have hb := bone w (.cells #[.int .i64 x.op, .int .i64 x.v.kind, .int .i64 x.v.n, .string x.v.s, .string x.s, lv] 28)
  have hB := Blk.new w 28 #[.int .i64 x.op, .int .i64 x.v.kind, .int .i64 x.v.n, .string x.v.s, .string x.s, lv]
  have hx1 := h0.now hb
  have hv1 := hv.now hb
  have hx0 := Lib.hid (And.intro hx1 hv1)
  have HE : Hid (givenE vs x = if validX x && varsB vs then typX vs x else (0, 1)) := rfl
  clear h0 hv h4
  obtain ⟨q0, q1, q2, q3, q4, q5⟩ := hB.c6
  go_enter Tryz.func44, Tryz.ntmps44
  go_upto_region 1 with fail
  generalize hw1 : w.alloc (.cells #[.int .i64 x.op, .int .i64 x.v.kind, .int .i64 x.v.n, .string x.v.s, .string x.s, lv] 28) = w1 at *
  clear hw1
  go_wp2_with fail
  refine (validX_any n x _ _ hx1).mono ?_
  rintro e w2 ⟨rfl, hb2⟩
  have hbw2 := bthen hb hb2
  have hB2 := hB.now hb2
  have hx2 := hx1.now hb2
  have hv2 := hv1.now hb2
  generalize hq : validX x = q at *
  clear q0 q1 q2 q3 q4 q5 hx0
  obtain ⟨q0, q1, q2, q3, q4, q5⟩ := hB2.c6
  cases q
  · have HR : Hid (givenE vs x = (0, 1)) := HE.out
    clear hx1 hv1 hx2 hv2
    go_wp2_with fail
    go_ret2
    rw [HR.out]
    exact ⟨rfl, by unfold Fit; omega, hbw2⟩
  clear hx1 hv1
  go_wp2_with fail
  refine (validVars_any vs _ _ hv2 hl).mono ?_
  rintro e w3 ⟨rfl, hb3⟩
  have hbw3 := bthen hbw2 hb3
  have hB3 := hB2.now hb3
  have hx3 := hx2.now hb3
  have hv3 := hv2.now hb3
  generalize hq2 : varsB vs = q at *
  clear q0 q1 q2 q3 q4 q5
  obtain ⟨q0, q1, q2, q3, q4, q5⟩ := hB3.c6
  cases q
  · have HR : Hid (givenE vs x = (0, 1)) := HE.out
    clear hx2 hv2 hx3 hv3
    go_wp2_with fail
    go_ret2
    rw [HR.out]
    exact ⟨rfl, by unfold Fit; omega, hbw3⟩
  have HR : Hid (givenE vs x = typX vs x) := HE.out
  have HC := Lib.hid (typed_any n vs x _ _ _ hv3 hx3 (valid_ok hq))
  clear hx2 hv2 hx3 hv3 hq
  go_wp2_with fail
  refine HC.out.mono ?_
  rintro e w4 ⟨rfl, hf, hb4⟩
  go_wp2_with fail
  go_ret2
  rw [HR.out]
  exact ⟨rfl, hf, bthen hbw3 hb4⟩
theorem type_any (n : Nat) (vs : List Var) (x : Ex) (uv u : Value) (w : World) (hv : SlX (Lt w.heap.size) w uv vs) (h : IsEx n (Lt w.heap.size) w u x) (hl : vs.length ≤ 1000000) :
    Calls Tryz.prog 13 #[uv, u] w fun e w' => e = .returned (.tuple #[.int .i64 (givenE vs x).1, .int .i64 (givenE vs x).2]) ∧ Fit (givenE vs x).1 ∧ Below w.heap.size w w' := by
  have h0 := h
  obtain ⟨lv, rfl, h1, h2, h3, h4⟩ := h
  have hb := bone w (.cells #[.int .i64 x.op, .int .i64 x.v.kind, .int .i64 x.v.n, .string x.v.s, .string x.s, lv] 28)
  have HC := Lib.hid (given_any n vs x _ _ _ (hv.now hb) (h0.now hb) hl)
  clear h0 hv h4
  go_enter Tryz.func13, Tryz.ntmps13
  go_wp2_with fail
  refine HC.out.mono ?_
  rintro e w1 ⟨rfl, hf, hb1⟩
  go_wp2_with fail
  go_ret2
  exact ⟨rfl, hf, bthen hb hb1⟩
end Go.Proofs.YtijmnenojbfdnaaGreatDoor

namespace Go.Proofs.YtijmnenojbfdnaaGreatDoor
open Go.RowKit
structure EvArgs (n : Nat) (vs : List Var) (vals : List Val) (x : Ex) (w : World) (uv vv u : Value) : Prop where
  hvs : SlX (Lt w.heap.size) w uv vs
  hvl : SlV (Lt w.heap.size) w vv vals
  hx : IsEx n (Lt w.heap.size) w u x
  hok : okX x = true
  hty : (typX vs x).2 = 0
  hA : Asg vs vals
def EvalAt (f : FuncId) (n : Nat) : Prop := ∀ (vs : List Var) (vals : List Val) (x : Ex) (w : World) (uv vv u : Value), EvArgs n vs vals x w uv vv u → Calls Tryz.prog f #[uv, vv, u] w (RetO (evX vs vals x) w)
theorem getD_map {f : Ex → Option Val} {l : List Ex} {i : Nat} {y : Ex} (h : l[i]? = some y) : (l.map f).getD i none = f y := by
  rw [List.getD_eq_getElem?_getD, List.getElem?_map, h]; rfl
theorem ev_key (vs : List Var) (vals : List Val) (x : Ex) : evX vs vals x = evO vs vals x (x.l.map (evX vs vals)) := by rw [evX_eq, evL_eq]
theorem types_of {vs : List Var} {x : Ex} (h : (typX vs x).2 = 0) : (∀ y ∈ x.l, (typX vs y).2 = 0) ∧ (typO vs x (kindsOf vs x.l)).2 = 0 := by
  rw [typX_eq] at h
  by_cases h0 : (typL vs x.l).2 ≠ 0
  · rw [if_pos h0] at h; exact absurd h h0
  · rw [if_neg h0] at h
    obtain ⟨k1, k2⟩ := typL_ok (vs := vs) (l := x.l) (by simpa using h0)
    rw [k1] at h
    exact ⟨k2, h⟩
theorem EvArgs.part {n n' : Nat} {vs : List Var} {vals : List Val} {x y : Ex} {w w' : World} {uv vv u u' : Value} (h : EvArgs n vs vals x w uv vv u) (hy : y ∈ x.l) (hb : Below w.heap.size w w') (hx : IsEx n' (Lt w'.heap.size) w' u' y) : EvArgs n' vs vals y w' uv vv u' :=
  ⟨h.hvs.now hb, h.hvl.now hb, hx, by
    have hk := okX_eq x
    rw [h.hok] at hk
    replace hk := hk.symm
    simp only [Bool.and_eq_true] at hk
    exact okL_mem hk.2 y hy, (types_of h.hty).1 y hy, h.hA⟩
theorem EvArgs.shape {n : Nat} {vs : List Var} {vals : List Val} {x : Ex} {w : World} {uv vv u : Value} (h : EvArgs n vs vals x w uv vv u) : shapeX x = true := by
  have hk := okX_eq x
  rw [h.hok] at hk
  replace hk := hk.symm
  simp only [Bool.and_eq_true] at hk
  exact hk.1.1
theorem kinds_at {vs : List Var} {l : List Ex} {i : Nat} {y : Ex} (h : l[i]? = some y) : (kindsOf vs l).getD i 0 = (typX vs y).1 := by
  unfold kindsOf
  rw [List.getD_eq_getElem?_getD, List.getElem?_map, h]; rfl
theorem kinds_all {vs : List Var} {l : List Ex} {k : Int} (h : (kindsOf vs l).all (fun z => z == k) = true) {y : Ex} (hy : y ∈ l) : (typX vs y).1 = k := by
  rw [List.all_eq_true] at h
  exact eq_of_beq (h _ (List.mem_map.2 ⟨y, hy, rfl⟩))
theorem EvArgs.val {n : Nat} {vs : List Var} {vals : List Val} {x y : Ex} {w : World} {uv vv u : Value} (h : EvArgs n vs vals x w uv vv u) (hy : y ∈ x.l) {a : Val} (ha : evX vs vals y = some a) : a.kind = (typX vs y).1 ∧ validV a = true := by
  have hk := okX_eq x
  rw [h.hok] at hk
  replace hk := hk.symm
  simp only [Bool.and_eq_true] at hk
  exact ev_typed h.hA y (okL_mem hk.2 y hy) ((types_of h.hty).1 y hy) a ha
theorem if_ok {p : Prop} [Decidable p] {k : Int} (h : (if p then (k, (0 : Int)) else (0, 11)).2 = 0) : p := by
  by_cases hp : p
  · exact hp
  · rw [if_neg hp] at h; cases h
theorem EvArgs.nums {n : Nat} {vs : List Var} {vals : List Val} {x : Ex} {w : World} {uv vv u : Value} (h : EvArgs n vs vals x w uv vv u) (ho : 7 ≤ x.op ∧ x.op ≤ 11) {y : Ex} (hy : y ∈ x.l) : (typX vs y).1 = 2 := by
  have ht := (types_of h.hty).2
  unfold typO at ht
  rw [if_neg (by omega), if_neg (by omega)] at ht
  by_cases h9 : x.op = 9 ∨ x.op = 10 ∨ x.op = 11
  · rw [if_pos h9] at ht
    exact kinds_all (if_ok ht) hy
  · rw [if_neg h9, if_pos (by omega)] at ht
    exact kinds_all (if_ok ht) hy
theorem EvArgs.truths {n : Nat} {vs : List Var} {vals : List Val} {x : Ex} {w : World} {uv vv u : Value} (h : EvArgs n vs vals x w uv vv u) (ho : 3 ≤ x.op ∧ x.op ≤ 5) {y : Ex} (hy : y ∈ x.l) : (typX vs y).1 = 1 := by
  have ht := (types_of h.hty).2
  unfold typO at ht
  rw [if_neg (by omega), if_neg (by omega), if_neg (by omega), if_neg (by omega), if_pos (by omega)] at ht
  exact kinds_all (if_ok ht) hy
theorem EvArgs.cond {n : Nat} {vs : List Var} {vals : List Val} {x : Ex} {w : World} {uv vv u : Value} (h : EvArgs n vs vals x w uv vv u) (ho : x.op = 12) {y : Ex} (hy : x.l[0]? = some y) : (typX vs y).1 = 1 := by
  have ht := (types_of h.hty).2
  unfold typO at ht
  rw [if_neg (by omega), if_neg (by omega), if_neg (by omega), if_neg (by omega), if_neg (by omega), if_pos ho] at ht
  have := (if_ok ht).1
  rwa [kinds_at hy] at this
set_option maxHeartbeats 4000000 in
set_option maxRecDepth 100000 in
theorem eval_const (n : Nat) (vs : List Var) (vals : List Val) (x : Ex) (w : World) (uv vv u : Value) (h : EvArgs n vs vals x w uv vv u) (ho : x.op = 1) : Calls Tryz.prog 46 #[uv, vv, u] w (RetO (evX vs vals x) w) := by
  have HO := Lib.hid ho
  clear ho
  have h0 := h
  obtain ⟨hvs, hvl, hx, _, _, hA⟩ := h
  obtain ⟨Av, cv, rfl, v1, v2, hvs⟩ := hvs.open_
  obtain ⟨Aw, cw, rfl, v3, v4, hvl⟩ := hvl.open_
  obtain ⟨lv, rfl, h1, h2, h3, h4⟩ := hx
  obtain ⟨A, c, rfl, l1, l2, h4⟩ := h4.open_
  have hb := bbox (bone w (.cells #[.int .i64 x.op, .int .i64 x.v.kind, .int .i64 x.v.n, .string x.v.s, .string x.s, .slice A x.l.length c] 28)) (.cells #[.int .i64 0, .int .i64 0, .string ⟨#[]⟩] 25)
  have hB := (Blk.new w 28 #[.int .i64 x.op, .int .i64 x.v.kind, .int .i64 x.v.n, .string x.v.s, .string x.s, .slice A x.l.length c]).alloc (.cells #[.int .i64 0, .int .i64 0, .string ⟨#[]⟩] 25)
  have hR := Blk.new_at (t := 25) (cs := #[.int .i64 0, .int .i64 0, .string ⟨#[]⟩]) (w := w.alloc (.cells #[.int .i64 x.op, .int .i64 x.v.kind, .int .i64 x.v.n, .string x.v.s, .string x.s, .slice A x.l.length c] 28)) (s := w.heap.size + 1) (by simp)
  have hl1 := SlE.now h4 hb
  have hv1 := hvs.now hb
  have hw1 := hvl.now hb
  clear h4 hvs hvl
  go_enter Tryz.func46, Tryz.ntmps46
  go_upto_region 1 with fail
  generalize hww : (w.alloc (.cells #[.int .i64 x.op, .int .i64 x.v.kind, .int .i64 x.v.n, .string x.v.s, .string x.s, .slice A x.l.length c] 28)).alloc (.cells #[.int .i64 0, .int .i64 0, .string ⟨#[]⟩] 25) = w1 at *
  clear hww
  have ho := HO.out
  have HST : Hid (∀ (W : World) (x y z : Value), Below w1.heap.size w1 W →
      (W.frozen? ⟨w.heap.size + 1, 0, none⟩ = false ∧ W.frozen? ⟨w.heap.size + 1, 1, none⟩ = false ∧ W.frozen? ⟨w.heap.size + 1, 2, none⟩ = false) ∧
      Blk (((W.setCell ⟨w.heap.size + 1, 0, none⟩ x).setCell ⟨w.heap.size + 1, 1, none⟩ y).setCell ⟨w.heap.size + 1, 2, none⟩ z) (w.heap.size + 1) 25 #[x, y, z] ∧
      (W.cell? ⟨w.heap.size + 1, 0, none⟩ = some (.int .i64 0) ∧ W.cell? ⟨w.heap.size + 1, 1, none⟩ = some (.int .i64 0) ∧ W.cell? ⟨w.heap.size + 1, 2, none⟩ = some (.string ⟨#[]⟩)) ∧
      Below w.heap.size w (((W.setCell ⟨w.heap.size + 1, 0, none⟩ x).setCell ⟨w.heap.size + 1, 1, none⟩ y).setCell ⟨w.heap.size + 1, 2, none⟩ z)) :=
    fun W x y z hW => ⟨⟨(hR.now hW).frozen 0, (hR.now hW).frozen 1, (hR.now hW).frozen 2⟩, (hR.now hW).set3 _ _ _, (hR.now hW).c3, bset3 (bthen hb hW) (by omega) _ _ _⟩
  obtain ⟨q0, q1, q2, q3, q4, q5⟩ := hB.c6
  have HKEY := Lib.hid (ev_key vs vals x)
  have HSL := Lib.hid (shape_len h0.shape)
  have HR : Hid (evX vs vals x = some x.v) := by show _ = _; rw [HKEY.out]; unfold evO; rw [if_pos ho]
  obtain ⟨⟨k0, k1, k2⟩, hS, ⟨y0, y1, y2⟩, hbS⟩ := HST.out w1 (.int .i64 x.v.kind) (.int .i64 x.v.n) (.string x.v.s) (Below.refl _ _)
  go_wp2_with fail
  obtain ⟨t0, t1, t2⟩ := hS.c3
  refine bodyPost_ret (v := .tuple #[.agg #[.int .i64 x.v.kind, .int .i64 x.v.n, .string x.v.s], .bool true]) (by simp [results, Tryz.results46, go_sem, t0, t1, t2]) rfl ?_
  exact RetO.cast HR.out ⟨x.v, rfl, fun a h => (by injection h), hbS⟩
set_option maxHeartbeats 4000000 in
set_option maxRecDepth 100000 in
theorem eval_var (n : Nat) (vs : List Var) (vals : List Val) (x : Ex) (w : World) (uv vv u : Value) (h : EvArgs n vs vals x w uv vv u) (ho : x.op = 2) : Calls Tryz.prog 46 #[uv, vv, u] w (RetO (evX vs vals x) w) := by
  have HO := Lib.hid ho
  clear ho
  have h0 := h
  obtain ⟨hvs, hvl, hx, _, _, hA⟩ := h
  obtain ⟨Av, cv, rfl, v1, v2, hvs⟩ := hvs.open_
  obtain ⟨Aw, cw, rfl, v3, v4, hvl⟩ := hvl.open_
  obtain ⟨lv, rfl, h1, h2, h3, h4⟩ := hx
  obtain ⟨A, c, rfl, l1, l2, h4⟩ := h4.open_
  have hb := bbox (bone w (.cells #[.int .i64 x.op, .int .i64 x.v.kind, .int .i64 x.v.n, .string x.v.s, .string x.s, .slice A x.l.length c] 28)) (.cells #[.int .i64 0, .int .i64 0, .string ⟨#[]⟩] 25)
  have hB := (Blk.new w 28 #[.int .i64 x.op, .int .i64 x.v.kind, .int .i64 x.v.n, .string x.v.s, .string x.s, .slice A x.l.length c]).alloc (.cells #[.int .i64 0, .int .i64 0, .string ⟨#[]⟩] 25)
  have hR := Blk.new_at (t := 25) (cs := #[.int .i64 0, .int .i64 0, .string ⟨#[]⟩]) (w := w.alloc (.cells #[.int .i64 x.op, .int .i64 x.v.kind, .int .i64 x.v.n, .string x.v.s, .string x.s, .slice A x.l.length c] 28)) (s := w.heap.size + 1) (by simp)
  have hl1 := SlE.now h4 hb
  have hv1 := hvs.now hb
  have hw1 := hvl.now hb
  clear h4 hvs hvl
  go_enter Tryz.func46, Tryz.ntmps46
  go_upto_region 1 with fail
  generalize hww : (w.alloc (.cells #[.int .i64 x.op, .int .i64 x.v.kind, .int .i64 x.v.n, .string x.v.s, .string x.s, .slice A x.l.length c] 28)).alloc (.cells #[.int .i64 0, .int .i64 0, .string ⟨#[]⟩] 25) = w1 at *
  clear hww
  have ho := HO.out
  have HST : Hid (∀ (W : World) (x y z : Value), Below w1.heap.size w1 W →
      (W.frozen? ⟨w.heap.size + 1, 0, none⟩ = false ∧ W.frozen? ⟨w.heap.size + 1, 1, none⟩ = false ∧ W.frozen? ⟨w.heap.size + 1, 2, none⟩ = false) ∧
      Blk (((W.setCell ⟨w.heap.size + 1, 0, none⟩ x).setCell ⟨w.heap.size + 1, 1, none⟩ y).setCell ⟨w.heap.size + 1, 2, none⟩ z) (w.heap.size + 1) 25 #[x, y, z] ∧
      (W.cell? ⟨w.heap.size + 1, 0, none⟩ = some (.int .i64 0) ∧ W.cell? ⟨w.heap.size + 1, 1, none⟩ = some (.int .i64 0) ∧ W.cell? ⟨w.heap.size + 1, 2, none⟩ = some (.string ⟨#[]⟩)) ∧
      Below w.heap.size w (((W.setCell ⟨w.heap.size + 1, 0, none⟩ x).setCell ⟨w.heap.size + 1, 1, none⟩ y).setCell ⟨w.heap.size + 1, 2, none⟩ z)) :=
    fun W x y z hW => ⟨⟨(hR.now hW).frozen 0, (hR.now hW).frozen 1, (hR.now hW).frozen 2⟩, (hR.now hW).set3 _ _ _, (hR.now hW).c3, bset3 (bthen hb hW) (by omega) _ _ _⟩
  obtain ⟨q0, q1, q2, q3, q4, q5⟩ := hB.c6
  have HKEY := Lib.hid (ev_key vs vals x)
  have HSL := Lib.hid (shape_len h0.shape)
  have hf : ¬ findV vs x.s < 0 := by
    intro hf
    have ht := (types_of h0.hty).2
    unfold typO at ht
    rw [if_neg (by omega), if_pos ho, if_pos hf] at ht
    cases ht
  obtain ⟨i, z, hi, hz⟩ := find_at hf
  have hil : i < vals.length := by
    rw [hA.len]
    rcases Nat.lt_or_ge i vs.length with h | h
    · exact h
    · rw [List.getElem?_eq_none h] at hz; cases hz
  have HFI := Lib.hid hi
  clear hf hi hz
  go_wp2_with fail
  refine (find_any vs x.s _ _ hv1).mono ?_
  rintro e w2 ⟨rfl, hb2⟩
  rw [HFI.out]
  obtain ⟨b, o, v, rfl, hD, hv, hfv, c0, c1, c2⟩ := (hw1.now hb2).at_ hil
  have HR : Hid (evX vs vals x = some v) := by
    show _ = _
    rw [HKEY.out]
    unfold evO
    rw [if_neg (by omega), if_pos ho]
    unfold varV
    rw [HFI.out, Int.toNat_natCast, List.getD_eq_getElem?_getD, hv]; rfl
  have i1 : (0 : Int) ≤ (i : Int) := by omega
  have i2 : (i : Int) < (vals.length : Int) := by omega
  clear hv q0 q1 q2 q3 q4 q5
  obtain ⟨⟨k0, k1, k2⟩, hS, ⟨y0, y1, y2⟩, hbS⟩ := HST.out w2 (.int .i64 v.kind) (.int .i64 v.n) (.string v.s) hb2
  go_wp2_with fail
  obtain ⟨t0, t1, t2⟩ := hS.c3
  refine bodyPost_ret (v := .tuple #[.agg #[.int .i64 v.kind, .int .i64 v.n, .string v.s], .bool true]) (by simp [results, Tryz.results46, go_sem, t0, t1, t2]) rfl ?_
  exact RetO.cast HR.out ⟨v, rfl, fun a h => (by injection h), hbS⟩
set_option maxHeartbeats 4000000 in
set_option maxRecDepth 100000 in
theorem eval_not (n : Nat) (ih : ∀ m, m < n → EvalAt 46 m) (vs : List Var) (vals : List Val) (x : Ex) (w : World) (uv vv u : Value) (h : EvArgs n vs vals x w uv vv u) (ho : x.op = 3) : Calls Tryz.prog 46 #[uv, vv, u] w (RetO (evX vs vals x) w) := by
  have HO := Lib.hid ho
  clear ho
  have h0 := h
  obtain ⟨hvs, hvl, hx, _, _, hA⟩ := h
  obtain ⟨Av, cv, rfl, v1, v2, hvs⟩ := hvs.open_
  obtain ⟨Aw, cw, rfl, v3, v4, hvl⟩ := hvl.open_
  obtain ⟨lv, rfl, h1, h2, h3, h4⟩ := hx
  obtain ⟨A, c, rfl, l1, l2, h4⟩ := h4.open_
  have hb := bbox (bone w (.cells #[.int .i64 x.op, .int .i64 x.v.kind, .int .i64 x.v.n, .string x.v.s, .string x.s, .slice A x.l.length c] 28)) (.cells #[.int .i64 0, .int .i64 0, .string ⟨#[]⟩] 25)
  have hB := (Blk.new w 28 #[.int .i64 x.op, .int .i64 x.v.kind, .int .i64 x.v.n, .string x.v.s, .string x.s, .slice A x.l.length c]).alloc (.cells #[.int .i64 0, .int .i64 0, .string ⟨#[]⟩] 25)
  have hR := Blk.new_at (t := 25) (cs := #[.int .i64 0, .int .i64 0, .string ⟨#[]⟩]) (w := w.alloc (.cells #[.int .i64 x.op, .int .i64 x.v.kind, .int .i64 x.v.n, .string x.v.s, .string x.s, .slice A x.l.length c] 28)) (s := w.heap.size + 1) (by simp)
  have hl1 := SlE.now h4 hb
  have hv1 := hvs.now hb
  have hw1 := hvl.now hb
  clear h4 hvs hvl
  go_enter Tryz.func46, Tryz.ntmps46
  go_upto_region 1 with fail
  generalize hww : (w.alloc (.cells #[.int .i64 x.op, .int .i64 x.v.kind, .int .i64 x.v.n, .string x.v.s, .string x.s, .slice A x.l.length c] 28)).alloc (.cells #[.int .i64 0, .int .i64 0, .string ⟨#[]⟩] 25) = w1 at *
  clear hww
  have ho := HO.out
  have HST : Hid (∀ (W : World) (x y z : Value), Below w1.heap.size w1 W →
      (W.frozen? ⟨w.heap.size + 1, 0, none⟩ = false ∧ W.frozen? ⟨w.heap.size + 1, 1, none⟩ = false ∧ W.frozen? ⟨w.heap.size + 1, 2, none⟩ = false) ∧
      Blk (((W.setCell ⟨w.heap.size + 1, 0, none⟩ x).setCell ⟨w.heap.size + 1, 1, none⟩ y).setCell ⟨w.heap.size + 1, 2, none⟩ z) (w.heap.size + 1) 25 #[x, y, z] ∧
      (W.cell? ⟨w.heap.size + 1, 0, none⟩ = some (.int .i64 0) ∧ W.cell? ⟨w.heap.size + 1, 1, none⟩ = some (.int .i64 0) ∧ W.cell? ⟨w.heap.size + 1, 2, none⟩ = some (.string ⟨#[]⟩)) ∧
      Below w.heap.size w (((W.setCell ⟨w.heap.size + 1, 0, none⟩ x).setCell ⟨w.heap.size + 1, 1, none⟩ y).setCell ⟨w.heap.size + 1, 2, none⟩ z)) :=
    fun W x y z hW => ⟨⟨(hR.now hW).frozen 0, (hR.now hW).frozen 1, (hR.now hW).frozen 2⟩, (hR.now hW).set3 _ _ _, (hR.now hW).c3, bset3 (bthen hb hW) (by omega) _ _ _⟩
  obtain ⟨q0, q1, q2, q3, q4, q5⟩ := hB.c6
  have HKEY := Lib.hid (ev_key vs vals x)
  have HSL := Lib.hid (shape_len h0.shape)
  have hlen : 1 ≤ x.l.length := by have := HSL.out; omega
  obtain ⟨b, o, y, ylv, n', hn, rfl, hD, hy, hex, hfv, hsl, e0, e1, e2, e3, e4, e5⟩ := hl1.at_ (k := 0) (by omega)
  have HY := Lib.hid hy
  have hym := List.mem_of_getElem? hy
  obtain ⟨A2, c2', rfl, m1, m2, _⟩ := hsl.open_
  have hcall := Lib.hid (ih n' (by omega) vs vals y _ _ _ _ (h0.part hym hb hex))
  have HV0 := Lib.hid (fun (a : Val) (h : evX vs vals y = some a) => h0.val hym h)
  have i0 : (0 : Int) < (x.l.length : Int) := by omega
  have e0' : w1.cell? ⟨b, o, none⟩ = some (.int .i64 y.op) := by simpa using e0
  have e1' : w1.cell? ⟨b, o + 1, none⟩ = some (.int .i64 y.v.kind) := by simpa using e1
  have e2' : w1.cell? ⟨b, o + 2, none⟩ = some (.int .i64 y.v.n) := by simpa using e2
  have e3' : w1.cell? ⟨b, o + 3, none⟩ = some (.string y.v.s) := by simpa using e3
  have e4' : w1.cell? ⟨b, o + 4, none⟩ = some (.string y.s) := by simpa using e4
  have e5' : w1.cell? ⟨b, o + 5, none⟩ = some (.slice A2 y.l.length c2') := by simpa using e5
  clear hy hex hsl hfv e0 e1 e2 e3 e4 e5 hn
  go_wp2_with fail
  refine hcall.out.mono ?_
  clear hcall e0' e1' e2' e3' e4' e5'
  rintro e w2 ⟨v0, rfl, hv0, hb2⟩
  have HG0 := Lib.hid (getD_map (f := evX vs vals) HY.out)
  generalize hr0 : evX vs vals y = r0 at *
  have hb3 := bone w2 (.cells #[.int .i64 v0.kind, .int .i64 v0.n, .string v0.s] 25)
  have hF := Blk.new w2 25 #[.int .i64 v0.kind, .int .i64 v0.n, .string v0.s]
  have hb13 := bthen hb2 hb3
  have hB3 := hB.now hb13
  have hl3 := SlE.now hl1 hb13
  clear q0 q1 q2 q3 q4 q5
  have l2' := hF.lt
  go_upto_region 7 with fail
  generalize hw3 : w2.alloc (.cells #[.int .i64 v0.kind, .int .i64 v0.n, .string v0.s] 25) = w3 at *
  clear hw3
  obtain ⟨q0, q1, q2, q3, q4, q5⟩ := hB3.c6
  obtain ⟨f0, f1, f2⟩ := hF.c3
  cases r0 with
  | none =>
    have HR : Hid (evX vs vals x = none) := by
      show _ = _
      rw [HKEY.out]
      unfold evO
      rw [if_neg (by omega), if_neg (by omega), HG0.out]
    clear f0 f1 f2 q0 q1 q2 q3 q4 q5
    obtain ⟨⟨k0, k1, k2⟩, hS, ⟨y0, y1, y2⟩, hbS⟩ := HST.out w3 (.int .i64 0) (.int .i64 0) (.string ⟨#[]⟩) hb13
    go_wp2_with fail
    obtain ⟨t0, t1, t2⟩ := hS.c3
    refine bodyPost_ret (v := .tuple #[.agg #[.int .i64 0, .int .i64 0, .string ⟨#[]⟩], .bool false]) (by simp [results, Tryz.results46, go_sem, t0, t1, t2]) rfl ?_
    exact RetO.cast HR.out ⟨⟨0, 0, ⟨#[]⟩⟩, rfl, fun a h => (by cases h), hbS⟩

  | some a =>
    obtain rfl : v0 = a := hv0 a rfl
    have HVA := Lib.hid (HV0.out _ rfl)
    clear hv0
    have HR : Hid (evX vs vals x = some (truthV (decide (v0.n = 0)))) := by
      show _ = _
      rw [HKEY.out]
      unfold evO
      rw [if_neg (by omega), if_neg (by omega), HG0.out]
      exact if_pos ho
    generalize hd : decide (v0.n = 0) = d at *
    have hd' : (v0.n == 0) = d := hd
    clear hd
    go_wp2_with fail
    refine (truth_any d _).mono ?_
    rintro e w4 ⟨rfl, hb4⟩
    clear f0 f1 f2 q0 q1 q2 q3 q4 q5
    have ev : valV (truthV d) = .agg #[.int .i64 (truthV d).kind, .int .i64 (truthV d).n, .string (truthV d).s] := rfl
    rw [ev]
    generalize truthV d = tv at *
    obtain ⟨⟨k0, k1, k2⟩, hS, ⟨y0, y1, y2⟩, hbS⟩ := HST.out w4 (.int .i64 tv.kind) (.int .i64 tv.n) (.string tv.s) (bthen hb13 hb4)
    go_wp2_with fail
    obtain ⟨t0, t1, t2⟩ := hS.c3
    refine bodyPost_ret (v := .tuple #[.agg #[.int .i64 tv.kind, .int .i64 tv.n, .string tv.s], .bool true]) (by simp [results, Tryz.results46, go_sem, t0, t1, t2]) rfl ?_
    exact RetO.cast HR.out ⟨tv, rfl, fun a h => (by injection h), hbS⟩
end Go.Proofs.YtijmnenojbfdnaaGreatDoor
