/- Texts of this seat, merged. -/
import Derived.Test.YtijmnenojbfdnaaGreatDoorEq01
import Derived.Test.YtijmnenojbfdnaaGreatDoorEq02
import Derived.Test.YtijmnenojbfdnaaGreatDoorEq03
import Derived.Test.YtijmnenojbfdnaaGreatDoorEq04
import Derived.Test.YtijmnenojbfdnaaGreatDoorEq05
import Derived.Test.YtijmnenojbfdnaaGreatDoorEq06
import Derived.Test.YtijmnenojbfdnaaGreatDoorEq07
import Derived.Test.YtijmnenojbfdnaaGreatDoorEq08
import Derived.Test.YtijmnenojbfdnaaGreatDoorEq09
import Derived.Test.YtijmnenojbfdnaaGreatDoorEq10
import Derived.Test.YtijmnenojbfdnaaGreatDoorEq11
import Derived.Test.YtijmnenojbfdnaaGreatDoorEq12
import Derived.Test.YtijmnenojbfdnaaGreatDoorEq13
set_option linter.unusedSimpArgs false
set_option linter.unusedVariables false
namespace Go.Proofs.YtijmnenojbfdnaaGreatDoor
open Go.RowKit
def AsksE (k : FuncId) (caps : Array Value) (n : Nat) (w : World) (xs : List Ex) (p : Ex → Bool) : Prop :=
  ∀ (x : Ex) (u : Value) (w1 : World), x ∈ xs → IsEx n (Lt w1.heap.size) w1 u x → Below w.heap.size w w1 → Calls Tryz.prog k (#[u] ++ caps) w1 fun e w2 => e = .returned (.bool (p x)) ∧ Below w1.heap.size w1 w2
set_option maxHeartbeats 400000 in
theorem formed1_any (n : Nat) (x : Ex) (u : Value) (w : World) (h : IsEx n (Lt w.heap.size) w u x) :
    Calls Tryz.prog 148 #[u] w fun e w' => e = .returned (.bool (!decide (x.op = 1))) ∧ Below w.heap.size w w' := by
  obtain ⟨lv, rfl, h1, h2, h3, h4⟩ := h
  have hb := bone w (.cells #[.int .i64 x.op, .int .i64 x.v.kind, .int .i64 x.v.n, .string x.v.s, .string x.s, lv] 28)
  by_cases h : x.op = 1
  · rw [decide_eq_true h]
    have b1 : (x.op != 1) = false := by simp [h]
    clear h
    go_enter Tryz.func148, Tryz.ntmps148
    go_wp2_with fail
    go_ret
    exact ⟨rfl, hb⟩
  · rw [decide_eq_false h]
    have b1 : (x.op != 1) = true := by simp [h]
    clear h
    go_enter Tryz.func148, Tryz.ntmps148
    go_wp2_with fail
    go_ret
    exact ⟨rfl, hb⟩
set_option maxHeartbeats 1000000 in
theorem indexFuncE (k : FuncId) (caps : Array Value) (n : Nat) (eg : ∀ a w, (callFunc k (#[a] ++ caps)).run Tryz.prog w = .ok (.enter k (#[a] ++ caps)) w) (tv : Value) (ts : List Ex) (p : Ex → Bool) (w : World) (ht : SlE n (Lt w.heap.size) w tv ts) (hf : AsksE k caps (n - 1) w ts p) :
    Calls Tryz.prog 75 #[tv, .func (.func k) #[] caps] w fun e w' => ∃ z : Int, e = .returned (.int .i64 z) ∧ decide (0 ≤ z) = ts.any p ∧ Below w.heap.size w w' := by
  obtain ⟨A, c, rfl, h1, h2, ht⟩ := ht.open_
  have HF := Lib.hid hf
  clear hf
  go_enter Tryz.func75, Tryz.ntmps75
  go_wp2_with fail
  go_loopw [8] (fun i wr => ∃ j : Nat, j ≤ ts.length ∧ i = .int .i64 j ∧ (∀ q t, q < j → ts[q]? = some t → p t = false) ∧ Below w.heap.size w wr) (fun i _ => ts.length - (intOf i).toNat)
  case atStart => exact ⟨0, Nat.zero_le _, rfl, fun q _ h => absurd h (by omega), Below.refl _ _⟩
  case round =>
    obtain ⟨j, hj, rfl, hp, hb⟩ := hrel
    have HP := Lib.hid hp
    clear hp
    by_cases hlt : j < ts.length
    · obtain ⟨b, o, t, lv, n', rfl, rfl, hD, hx, hex, hfv, hsl, c0, c1, c2, c3, c4, c5⟩ := (ht.now hb).at_ hlt
      have hcall := HF.out t _ wr (List.mem_of_getElem? hx) hex hb
      have HX := Lib.hid hx
      clear hx hex hsl hfv
      generalize hq : p t = q at *
      have HQ := Lib.hid hq
      have HC := Lib.hid hcall
      clear hcall hq
      cases q
      · go_wp2_with (go_at_fn k; refine HC.out.mono ?_; rintro e w' ⟨rfl, hb'⟩)
        go_roundw
        case rel =>
          refine ⟨j + 1, by omega, by go_num, fun q y hq hy => ?_, bthen hb hb'⟩
          by_cases e : q = j
          · subst e; rw [HX.out] at hy; injection hy with hy; subst hy; exact HQ.out
          · exact HP.out q y (by omega) hy
        case measure => simp [intOf]; omega
      · go_wp2_with (go_at_fn k; refine HC.out.mono ?_; rintro e w' ⟨rfl, hb'⟩)
        go_ret
        refine ⟨_, rfl, ?_, bthen hb hb'⟩
        rw [List.any_eq_true.2 ⟨t, List.mem_of_getElem? HX.out, HQ.out⟩]
        simp
    · go_wp2_with fail
      go_ret
      refine ⟨_, rfl, ?_, hb⟩
      rw [any_false_of _ ts (fun q y hq hy => HP.out q y (by omega) hy)]
      simp
theorem containsFuncE (k : FuncId) (caps : Array Value) (n : Nat) (eg : ∀ a w, (callFunc k (#[a] ++ caps)).run Tryz.prog w = .ok (.enter k (#[a] ++ caps)) w) (tv : Value) (ts : List Ex) (p : Ex → Bool) (w : World) (ht : SlE n (Lt w.heap.size) w tv ts) (hf : AsksE k caps (n - 1) w ts p) :
    Calls Tryz.prog 36 #[tv, .func (.func k) #[] caps] w fun e w' => e = .returned (.bool (ts.any p)) ∧ Below w.heap.size w w' := by
  have HC := Lib.hid (indexFuncE k caps n eg tv ts p w ht hf)
  clear hf ht
  go_enter Tryz.func36, Tryz.ntmps36
  go_wp2_with (go_at_call 75; refine HC.out.mono ?_; rintro e w' ⟨z, rfl, hz, hb'⟩)
  go_ret
  exact ⟨rfl, hb'⟩
theorem SlE.tail {n : Nat} {D : Nat → Prop} {w : World} {b o : Nat} {m c : Nat} {zs : List Ex} (h : SlE n D w (.slice (some ⟨b, o, none⟩) m c) zs) (hm : 1 ≤ m) :
    SlE n D w (.slice (some ⟨b, o + 6, none⟩) (m - 1) (c - 1)) (zs.drop 1) := by
  obtain ⟨A, c', hv, h1, h2, h3⟩ := h
  injection hv with hA hn hc
  subst hA hn hc
  have hl : (zs.drop 1).length = zs.length - 1 := List.length_drop
  refine ⟨some ⟨b, o + 6, none⟩, c - 1, by rw [hl], by rw [hl]; omega, by omega, fun i x hx => ?_⟩
  rw [List.getElem?_drop] at hx
  obtain ⟨b', o', cs, hA, hD, hlen, hr, hcell⟩ := h3 (1 + i) x hx
  injection hA with hA
  injection hA with e1 e2 _
  subst e1 e2
  refine ⟨b, o + 6, cs, rfl, hD, hlen, hr, fun j u hu => ?_⟩
  have := hcell j u hu
  have e : o + 6 + i * 6 + j = o + (1 + i) * 6 + j := by omega
  rw [e]; exact this
theorem drop_any_not (l : List Ex) : (l.any fun y => !decide (y.op = 1)) = !(l.all fun y => decide (y.op = 1)) := by
  induction l with
  | nil => rfl
  | cons a m ih => simp [List.any_cons, List.all_cons, ih]
set_option maxHeartbeats 8000000 in
theorem formed_any (n : Nat) (x : Ex) (u : Value) (w : World) (h : IsEx n (Lt w.heap.size) w u x) :
    Calls Tryz.prog 99 #[u] w fun e w' => e = .returned (.bool (shapeX x)) ∧ Below w.heap.size w w' := by
  have eg : ∀ a w, (callFunc 148 (#[a] ++ #[])).run Tryz.prog w = .ok (.enter 148 (#[a] ++ #[])) w := fun a w => enters_of Tryz.func148 (by kernel_rfl) rfl _ w
  obtain ⟨lv, rfl, h1, h2, h3, h4⟩ := h
  obtain ⟨A, c, rfl, l1, l2, h4⟩ := h4.open_
  obtain ⟨o, v, s, l⟩ := x
  simp only [Ex.op, Ex.v, Ex.s, Ex.l] at *
  have HE : Hid (shapeX (.mk o v s l) = if o = 1 then decide (l.length = 0) && noS s && validV v
    else if o = 2 then decide (l.length = 0) && zeroV v && isNameB s && !keyB s
    else zeroV v && noS s &&
      (if o = 3 then decide (l.length = 1)
       else if 4 ≤ o ∧ o ≤ 11 then decide (l.length = 2)
       else if o = 12 then decide (l.length = 3)
       else if o = 13 then decide (2 ≤ l.length) && (l.drop 1).all fun y => decide (y.op = 1)
       else false)) := rfl
  generalize shapeX (.mk o v s l) = R at *
  have hne : ∀ W, (binOp .neq 25 (.agg #[.int .i64 v.kind, .int .i64 v.n, .string v.s]) (.agg #[.int .i64 0, .int .i64 0, .string ⟨#[]⟩])).run Tryz.prog W = .ok (.bool (!zeroV v)) W := fun W => run_neV W v noV
  have hb := bone w (.cells #[.int .i64 o, .int .i64 v.kind, .int .i64 v.n, .string v.s, .string s, .slice A l.length c] 28)
  have hB := Blk.new w 28 #[.int .i64 o, .int .i64 v.kind, .int .i64 v.n, .string v.s, .string s, .slice A l.length c]
  have HL := Lib.hid (h4.now hb)
  clear h4
  generalize hw1 : w.alloc (.cells #[.int .i64 o, .int .i64 v.kind, .int .i64 v.n, .string v.s, .string s, .slice A l.length c] 28) = w1 at *
  obtain ⟨q0, q1, q2, q3, q4, q5⟩ := hB.c6
  have HS : Hid (noS s = s.toList.isEmpty) := rfl
  generalize hz : zeroV v = zv at *
  generalize hs : s.toList.isEmpty = sz at *
  have HLEN : Hid (∀ k : Nat, ((l.length : Int) == (k : Int)) = decide (l.length = k)) := fun k => by rw [Bool.eq_iff_iff]; simp only [beq_iff_eq, decide_eq_true_eq]; omega
  by_cases c1 : o = 1
  · subst c1
    cases sz
    · have HR : Hid (R = false) := by show _ = _; rw [HE.out, if_pos rfl, HS.out]; simp
      go_enter Tryz.func99, Tryz.ntmps99
      go_wp2_with fail
      go_ret
      exact ⟨ret_bool HR.out.symm, hb⟩
    · generalize hq : decide (l.length = 0) = q at *
      have b0 : ((l.length : Int) == 0) = q := (HLEN.out 0).trans hq
      have HR : Hid (R = (q && validV v)) := by show _ = _; rw [HE.out, if_pos rfl, HS.out, Bool.and_true]
      clear hq
      cases q
      · have HR : Hid (R = false) := HR.out
        go_enter Tryz.func99, Tryz.ntmps99
        go_wp2_with fail
        go_ret
        exact ⟨ret_bool HR.out.symm, hb⟩
      · have hcall := validV_any v w1 h2
        unfold valV at hcall
        have HC := Lib.hid hcall
        clear hcall
        go_enter Tryz.func99, Tryz.ntmps99
        go_wp2_with fail
        refine HC.out.mono ?_
        rintro e w2 ⟨rfl, hb2⟩
        generalize validV v = vv at *
        go_wp2_with fail
        go_ret
        exact ⟨ret_bool (by rw [HR.out]; rfl), bthen hb hb2⟩
  by_cases c2 : o = 2
  · subst c2
    clear c1
    cases zv
    · have HR : Hid (R = false) := by show _ = _; rw [HE.out, if_neg (by decide), if_pos rfl]; simp
      go_enter Tryz.func99, Tryz.ntmps99
      go_wp2_with fail
      go_ret
      exact ⟨ret_bool HR.out.symm, hb⟩
    · generalize hq : decide (l.length = 0) = q at *
      have b0 : ((l.length : Int) == 0) = q := (HLEN.out 0).trans hq
      have HR : Hid (R = (q && isNameB s && !keyB s)) := by show _ = _; rw [HE.out, if_neg (by decide), if_pos rfl, Bool.and_true]
      clear hq
      cases q
      · have HR : Hid (R = false) := HR.out
        go_enter Tryz.func99, Tryz.ntmps99
        go_wp2_with fail
        go_ret
        exact ⟨ret_bool HR.out.symm, hb⟩
      · have HC := Lib.hid (fun W => isName_any s W h3)
        have HK := Lib.hid (fun W => key_any s W)
        generalize isNameB s = nm at *
        generalize keyB s = ky at *
        go_enter Tryz.func99, Tryz.ntmps99
        go_wp2_with fail
        refine (HC.out _).mono ?_
        rintro e w2 ⟨rfl, rfl⟩
        cases nm
        · have HR : Hid (R = false) := HR.out
          go_wp2_with fail
          go_ret
          exact ⟨ret_bool HR.out.symm, hb⟩
        · go_wp2_with fail
          refine (HK.out _).mono ?_
          rintro e w2 ⟨rfl, rfl⟩
          go_wp2_with fail
          go_ret
          exact ⟨ret_bool (by rw [HR.out]; rfl), hb⟩
  cases zv
  · have HR : Hid (R = false) := by show _ = _; rw [HE.out, if_neg c1, if_neg c2]; rfl
    go_enter Tryz.func99, Tryz.ntmps99
    go_wp2_with fail
    go_ret
    exact ⟨ret_bool HR.out.symm, hb⟩
  cases sz
  · have HR : Hid (R = false) := by show _ = _; rw [HE.out, if_neg c1, if_neg c2, HS.out]; rfl
    go_enter Tryz.func99, Tryz.ntmps99
    go_wp2_with fail
    go_ret
    exact ⟨ret_bool HR.out.symm, hb⟩
  have HE2 : Hid (R = (if o = 3 then decide (l.length = 1)
       else if 4 ≤ o ∧ o ≤ 11 then decide (l.length = 2)
       else if o = 12 then decide (l.length = 3)
       else if o = 13 then decide (2 ≤ l.length) && (l.drop 1).all fun y => decide (y.op = 1)
       else false)) := by show _ = _; rw [HE.out, if_neg c1, if_neg c2, HS.out]; rfl
  clear HE HS
  by_cases c3 : o = 3
  · subst c3
    clear c1 c2
    generalize hq : decide (l.length = 1) = q at *
    have b0 : ((l.length : Int) == 1) = q := (HLEN.out 1).trans hq
    have HR : Hid (R = q) := by show _ = _; rw [HE2.out]; rw [if_pos rfl]
    clear hq HE2
    go_enter Tryz.func99, Tryz.ntmps99
    go_wp2_with fail
    go_ret
    exact ⟨ret_bool HR.out.symm, hb⟩
  by_cases c4 : o = 4
  · subst c4
    clear c1 c2
    generalize hq : decide (l.length = 2) = q at *
    have b0 : ((l.length : Int) == 2) = q := (HLEN.out 2).trans hq
    have HR : Hid (R = q) := by show _ = _; rw [HE2.out]; rw [if_neg (by decide), if_pos (by decide)]
    clear hq HE2
    go_enter Tryz.func99, Tryz.ntmps99
    go_wp2_with fail
    go_ret
    exact ⟨ret_bool HR.out.symm, hb⟩
  by_cases c5 : o = 5
  · subst c5
    clear c1 c2
    generalize hq : decide (l.length = 2) = q at *
    have b0 : ((l.length : Int) == 2) = q := (HLEN.out 2).trans hq
    have HR : Hid (R = q) := by show _ = _; rw [HE2.out]; rw [if_neg (by decide), if_pos (by decide)]
    clear hq HE2
    go_enter Tryz.func99, Tryz.ntmps99
    go_wp2_with fail
    go_ret
    exact ⟨ret_bool HR.out.symm, hb⟩
  by_cases c6 : o = 6
  · subst c6
    clear c1 c2
    generalize hq : decide (l.length = 2) = q at *
    have b0 : ((l.length : Int) == 2) = q := (HLEN.out 2).trans hq
    have HR : Hid (R = q) := by show _ = _; rw [HE2.out]; rw [if_neg (by decide), if_pos (by decide)]
    clear hq HE2
    go_enter Tryz.func99, Tryz.ntmps99
    go_wp2_with fail
    go_ret
    exact ⟨ret_bool HR.out.symm, hb⟩
  by_cases c7 : o = 7
  · subst c7
    clear c1 c2
    generalize hq : decide (l.length = 2) = q at *
    have b0 : ((l.length : Int) == 2) = q := (HLEN.out 2).trans hq
    have HR : Hid (R = q) := by show _ = _; rw [HE2.out]; rw [if_neg (by decide), if_pos (by decide)]
    clear hq HE2
    go_enter Tryz.func99, Tryz.ntmps99
    go_wp2_with fail
    go_ret
    exact ⟨ret_bool HR.out.symm, hb⟩
  by_cases c8 : o = 8
  · subst c8
    clear c1 c2
    generalize hq : decide (l.length = 2) = q at *
    have b0 : ((l.length : Int) == 2) = q := (HLEN.out 2).trans hq
    have HR : Hid (R = q) := by show _ = _; rw [HE2.out]; rw [if_neg (by decide), if_pos (by decide)]
    clear hq HE2
    go_enter Tryz.func99, Tryz.ntmps99
    go_wp2_with fail
    go_ret
    exact ⟨ret_bool HR.out.symm, hb⟩
  by_cases c9 : o = 9
  · subst c9
    clear c1 c2
    generalize hq : decide (l.length = 2) = q at *
    have b0 : ((l.length : Int) == 2) = q := (HLEN.out 2).trans hq
    have HR : Hid (R = q) := by show _ = _; rw [HE2.out]; rw [if_neg (by decide), if_pos (by decide)]
    clear hq HE2
    go_enter Tryz.func99, Tryz.ntmps99
    go_wp2_with fail
    go_ret
    exact ⟨ret_bool HR.out.symm, hb⟩
  by_cases c10 : o = 10
  · subst c10
    clear c1 c2
    generalize hq : decide (l.length = 2) = q at *
    have b0 : ((l.length : Int) == 2) = q := (HLEN.out 2).trans hq
    have HR : Hid (R = q) := by show _ = _; rw [HE2.out]; rw [if_neg (by decide), if_pos (by decide)]
    clear hq HE2
    go_enter Tryz.func99, Tryz.ntmps99
    go_wp2_with fail
    go_ret
    exact ⟨ret_bool HR.out.symm, hb⟩
  by_cases c11 : o = 11
  · subst c11
    clear c1 c2
    generalize hq : decide (l.length = 2) = q at *
    have b0 : ((l.length : Int) == 2) = q := (HLEN.out 2).trans hq
    have HR : Hid (R = q) := by show _ = _; rw [HE2.out]; rw [if_neg (by decide), if_pos (by decide)]
    clear hq HE2
    go_enter Tryz.func99, Tryz.ntmps99
    go_wp2_with fail
    go_ret
    exact ⟨ret_bool HR.out.symm, hb⟩
  by_cases c12 : o = 12
  · subst c12
    clear c1 c2
    generalize hq : decide (l.length = 3) = q at *
    have b0 : ((l.length : Int) == 3) = q := (HLEN.out 3).trans hq
    have HR : Hid (R = q) := by show _ = _; rw [HE2.out]; rw [if_neg (by decide), if_neg (by decide), if_pos rfl]
    clear hq HE2
    go_enter Tryz.func99, Tryz.ntmps99
    go_wp2_with fail
    go_ret
    exact ⟨ret_bool HR.out.symm, hb⟩
  by_cases c13 : o = 13
  · subst c13
    clear c1 c2 c3 c4 c5 c6 c7 c8 c9 c10 c11 c12
    have HR : Hid (R = (decide (2 ≤ l.length) && (l.drop 1).all fun y => decide (y.op = 1))) := by show _ = _; rw [HE2.out, if_neg (by decide), if_neg (by decide), if_neg (by decide), if_pos rfl]
    clear HE2
    by_cases h2l : 2 ≤ l.length
    · obtain ⟨b, o', _, _, _, _, rfl, _⟩ := HL.out.at_ (k := 0) (by omega)
      have HT := Lib.hid (SlE.tail HL.out (by omega))
      have HRR : Hid (R = (l.drop 1).all fun y => decide (y.op = 1)) := by show _ = _; rw [HR.out, decide_eq_true h2l, Bool.true_and]
      have i1 : (1 : Int) ≤ (l.length : Int) := by omega
      have i2 : (2 : Int) ≤ (l.length : Int) := by omega
      have i3 : (l.length : Int) ≤ (c : Int) := by omega
      go_enter Tryz.func99, Tryz.ntmps99
      go_wp2_with fail
      refine (containsFuncE 148 #[] n eg _ (l.drop 1) (fun y => !decide (y.op = 1)) w1 HT.out (fun y u W _ hex _ => by have := formed1_any _ y u W hex; exact this)).mono ?_
      rintro e w2 ⟨rfl, hb2⟩
      rw [drop_any_not]
      generalize (l.drop 1).all (fun y => decide (y.op = 1)) = q at *
      go_wp2_with fail
      go_ret
      exact ⟨ret_bool (by rw [HRR.out] <;> simp), bthen hb hb2⟩
    · have HRR : Hid (R = false) := by show _ = _; rw [HR.out, decide_eq_false h2l]; rfl
      have i2 : (l.length : Int) < 2 := by omega
      go_enter Tryz.func99, Tryz.ntmps99
      go_wp2_with fail
      go_ret
      exact ⟨ret_bool HRR.out.symm, hb⟩
  have HR : Hid (R = false) := by show _ = _; rw [HE2.out, if_neg c3, if_neg (by omega), if_neg c12, if_neg c13]
  clear HE2
  go_enter Tryz.func99, Tryz.ntmps99
  go_wp2_with fail
  go_ret
  exact ⟨ret_bool HR.out.symm, hb⟩
end Go.Proofs.YtijmnenojbfdnaaGreatDoor
