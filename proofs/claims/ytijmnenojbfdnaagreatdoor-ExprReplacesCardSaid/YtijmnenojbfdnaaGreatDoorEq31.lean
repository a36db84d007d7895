/- Texts of this seat, merged. -/
import Derived.Test.YtijmnenojbfdnaaGreatDoorEq01
import Derived.Test.YtijmnenojbfdnaaGreatDoorEq02
import Derived.Test.YtijmnenojbfdnaaGreatDoorEq03
import Derived.Test.YtijmnenojbfdnaaGreatDoorEq04
import Derived.Test.YtijmnenojbfdnaaGreatDoorEq05
import Derived.Test.YtijmnenojbfdnaaGreatDoorEq06
import Derived.Test.YtijmnenojbfdnaaGreatDoorEq07
import Derived.Test.YtijmnenojbfdnaaGreatDoorEq08
import Derived.Test.YtijmnenojbfdnaaGreatDoorEq09
import Derived.Test.YtijmnenojbfdnaaGreatDoorEq10
import Derived.Test.YtijmnenojbfdnaaGreatDoorEq11
import Derived.Test.YtijmnenojbfdnaaGreatDoorEq12
import Derived.Test.YtijmnenojbfdnaaGreatDoorEq13
import Derived.Test.YtijmnenojbfdnaaGreatDoorEq14
import Derived.Test.YtijmnenojbfdnaaGreatDoorEq15
import Derived.Test.YtijmnenojbfdnaaGreatDoorEq22
import Derived.Test.YtijmnenojbfdnaaGreatDoorEq23
import Derived.Test.YtijmnenojbfdnaaGreatDoorEq24
import Derived.Test.YtijmnenojbfdnaaGreatDoorEq25
import Derived.Test.YtijmnenojbfdnaaGreatDoorEq26
import Derived.Test.YtijmnenojbfdnaaGreatDoorEq27
import Derived.Test.YtijmnenojbfdnaaGreatDoorEq28
set_option linter.unusedSimpArgs false
set_option linter.unusedVariables false
namespace Go.Proofs.YtijmnenojbfdnaaGreatDoor
open Go.RowKit
theorem all_drop {l : List Ex} (h : ∀ j y, 1 ≤ j → l[j]? = some y → y.op = 1) : ((l.drop 1).all fun y => decide (y.op = 1)) = true := by
  rw [List.all_eq_true]
  intro y hy
  obtain ⟨j, hj, rfl⟩ := List.mem_iff_getElem.1 hy
  have := h (1 + j) _ (by omega) (by rw [← List.getElem?_drop]; exact List.getElem?_eq_getElem hj)
  simpa using this
theorem all_drop_not {l : List Ex} {j : Nat} {y : Ex} (hj : 1 ≤ j) (hy : l[j]? = some y) (h : y.op ≠ 1) : ((l.drop 1).all fun y => decide (y.op = 1)) = false := by
  rw [List.all_eq_false]
  refine ⟨y, ?_, by simpa using h⟩
  have : (l.drop 1)[j - 1]? = some y := by rw [List.getElem?_drop]; rw [show 1 + (j - 1) = j by omega]; exact hy
  exact List.mem_of_getElem? this
set_option maxHeartbeats 8000000 in
set_option maxRecDepth 100000 in
theorem shape_ref (n : Nat) (x : Ex) (u : Value) (w : World) (h : IsEx n (Lt w.heap.size) w u x) :
    Calls Tryz.prog 98 #[u] w fun e w' => e = .returned (.bool (shapeX x)) ∧ Below w.heap.size w w' := by
  obtain ⟨lv, rfl, h1, h2, h3, h4⟩ := h
  obtain ⟨A, c, rfl, l1, l2, h4⟩ := h4.open_
  obtain ⟨o, v, s, l⟩ := x
  simp only [Ex.op, Ex.v, Ex.s, Ex.l] at *
  have HE : Hid (shapeX (.mk o v s l) = if o = 1 then decide (l.length = 0) && noS s && validV v
    else if o = 2 then decide (l.length = 0) && zeroV v && isNameB s && !keyB s
    else zeroV v && noS s &&
      (if o = 3 then decide (l.length = 1)
       else if 4 ≤ o ∧ o ≤ 11 then decide (l.length = 2)
       else if o = 12 then decide (l.length = 3)
       else if o = 13 then decide (2 ≤ l.length) && (l.drop 1).all fun y => decide (y.op = 1)
       else false)) := rfl
  generalize shapeX (.mk o v s l) = R at *
  have hne : ∀ W, (binOp .eql 25 (.agg #[.int .i64 v.kind, .int .i64 v.n, .string v.s]) (.agg #[.int .i64 0, .int .i64 0, .string ⟨#[]⟩])).run Tryz.prog W = .ok (.bool (zeroV v)) W := fun W => run_eqV W v noV
  have hb := bone w (.cells #[.int .i64 o, .int .i64 v.kind, .int .i64 v.n, .string v.s, .string s, .slice A l.length c] 28)
  have hB := Blk.new w 28 #[.int .i64 o, .int .i64 v.kind, .int .i64 v.n, .string v.s, .string s, .slice A l.length c]
  have hL1 := h4.now hb
  have HL := Lib.hid hL1
  clear h4 hL1
  generalize hw1 : w.alloc (.cells #[.int .i64 o, .int .i64 v.kind, .int .i64 v.n, .string v.s, .string s, .slice A l.length c] 28) = w1 at *
  obtain ⟨q0, q1, q2, q3, q4, q5⟩ := hB.c6
  have HS : Hid (noS s = s.toList.isEmpty) := rfl
  generalize hz : zeroV v = zv at *
  generalize hs : s.toList.isEmpty = sz at *
  have HLEN : Hid (∀ k : Nat, ((l.length : Int) == (k : Int)) = decide (l.length = k)) := fun k => by rw [Bool.eq_iff_iff]; simp only [beq_iff_eq, decide_eq_true_eq]; omega
  by_cases c1 : o = 1
  · subst c1
    generalize hq : decide (l.length = 0) = q at *
    have b0 : ((l.length : Int) == 0) = q := (HLEN.out 0).trans hq
    have HR : Hid (R = (q && sz && validV v)) := by show _ = _; rw [HE.out, if_pos rfl, HS.out]
    clear hq
    cases q
    · have HR : Hid (R = false) := HR.out
      go_enter Tryz.func98, Tryz.ntmps98
      go_wp2_with fail
      go_ret
      exact ⟨ret_bool HR.out.symm, hb⟩

    cases sz
    · have HR : Hid (R = false) := HR.out
      go_enter Tryz.func98, Tryz.ntmps98
      go_wp2_with fail
      go_ret
      exact ⟨ret_bool HR.out.symm, hb⟩

    · have hcall := validV_ref v w1 h2
      unfold valV at hcall
      have HC := Lib.hid hcall
      clear hcall
      go_enter Tryz.func98, Tryz.ntmps98
      go_wp2_with fail
      refine HC.out.mono ?_
      rintro e w2 ⟨rfl, hb2⟩
      generalize validV v = vv at *
      go_wp2_with fail
      go_ret
      exact ⟨ret_bool (by rw [HR.out]; rfl), bthen hb hb2⟩
  by_cases c2 : o = 2
  · subst c2
    clear c1
    generalize hq : decide (l.length = 0) = q at *
    have b0 : ((l.length : Int) == 0) = q := (HLEN.out 0).trans hq
    have HR : Hid (R = (q && zv && isNameB s && !keyB s)) := by show _ = _; rw [HE.out, if_neg (by decide), if_pos rfl]
    clear hq
    cases q
    · have HR : Hid (R = false) := HR.out
      go_enter Tryz.func98, Tryz.ntmps98
      go_wp2_with fail
      go_ret
      exact ⟨ret_bool HR.out.symm, hb⟩

    cases zv
    · have HR : Hid (R = false) := HR.out
      go_enter Tryz.func98, Tryz.ntmps98
      go_wp2_with fail
      go_ret
      exact ⟨ret_bool HR.out.symm, hb⟩

    · have HC := Lib.hid (fun W => isName_ref s W h3)
      have HK := Lib.hid (fun W => key_ref s W)
      generalize isNameB s = nm at *
      generalize keyB s = ky at *
      go_enter Tryz.func98, Tryz.ntmps98
      go_wp2_with fail
      refine (HC.out _).mono ?_
      rintro e w2 ⟨rfl, rfl⟩
      cases nm
      · have HR : Hid (R = false) := HR.out
        go_wp2_with fail
        go_ret
        exact ⟨ret_bool HR.out.symm, hb⟩
      · go_wp2_with fail
        refine (HK.out _).mono ?_
        rintro e w2 ⟨rfl, hb2⟩
        go_wp2_with fail
        go_ret
        exact ⟨ret_bool (by rw [HR.out]; rfl), bthen hb hb2⟩
  have HE2 : Hid (R = (zv && sz && (if o = 3 then decide (l.length = 1)
       else if 4 ≤ o ∧ o ≤ 11 then decide (l.length = 2)
       else if o = 12 then decide (l.length = 3)
       else if o = 13 then decide (2 ≤ l.length) && (l.drop 1).all fun y => decide (y.op = 1)
       else false))) := by show _ = _; rw [HE.out, if_neg c1, if_neg c2, HS.out]
  clear HE HS
  by_cases c3 : o = 3
  · subst c3
    clear c1 c2
    generalize hq : decide (l.length = 1) = q at *
    have b0 : ((l.length : Int) == 1) = q := (HLEN.out 1).trans hq
    have HR : Hid (R = (zv && sz && q)) := by show _ = _; rw [HE2.out]; rw [if_pos rfl]
    clear hq HE2
    cases q
    · have HR : Hid (R = false) := by show _ = _; rw [HR.out, Bool.and_false]
      go_enter Tryz.func98, Tryz.ntmps98
      go_wp2_with fail
      go_ret
      exact ⟨ret_bool HR.out.symm, hb⟩

    cases zv
    · have HR : Hid (R = false) := HR.out
      go_enter Tryz.func98, Tryz.ntmps98
      go_wp2_with fail
      go_ret
      exact ⟨ret_bool HR.out.symm, hb⟩

    have HR : Hid (R = sz) := by show _ = _; rw [HR.out, Bool.and_true]; rfl
    go_enter Tryz.func98, Tryz.ntmps98
    go_wp2_with fail
    go_ret
    exact ⟨ret_bool HR.out.symm, hb⟩

  by_cases c4 : o = 4
  · subst c4
    clear c1 c2
    generalize hq : decide (l.length = 2) = q at *
    have b0 : ((l.length : Int) == 2) = q := (HLEN.out 2).trans hq
    have HR : Hid (R = (zv && sz && q)) := by show _ = _; rw [HE2.out]; rw [if_neg (by decide), if_pos (by decide)]
    clear hq HE2
    cases q
    · have HR : Hid (R = false) := by show _ = _; rw [HR.out, Bool.and_false]
      go_enter Tryz.func98, Tryz.ntmps98
      go_wp2_with fail
      go_ret
      exact ⟨ret_bool HR.out.symm, hb⟩

    cases zv
    · have HR : Hid (R = false) := HR.out
      go_enter Tryz.func98, Tryz.ntmps98
      go_wp2_with fail
      go_ret
      exact ⟨ret_bool HR.out.symm, hb⟩

    have HR : Hid (R = sz) := by show _ = _; rw [HR.out, Bool.and_true]; rfl
    go_enter Tryz.func98, Tryz.ntmps98
    go_wp2_with fail
    go_ret
    exact ⟨ret_bool HR.out.symm, hb⟩

  by_cases c5 : o = 5
  · subst c5
    clear c1 c2
    generalize hq : decide (l.length = 2) = q at *
    have b0 : ((l.length : Int) == 2) = q := (HLEN.out 2).trans hq
    have HR : Hid (R = (zv && sz && q)) := by show _ = _; rw [HE2.out]; rw [if_neg (by decide), if_pos (by decide)]
    clear hq HE2
    cases q
    · have HR : Hid (R = false) := by show _ = _; rw [HR.out, Bool.and_false]
      go_enter Tryz.func98, Tryz.ntmps98
      go_wp2_with fail
      go_ret
      exact ⟨ret_bool HR.out.symm, hb⟩

    cases zv
    · have HR : Hid (R = false) := HR.out
      go_enter Tryz.func98, Tryz.ntmps98
      go_wp2_with fail
      go_ret
      exact ⟨ret_bool HR.out.symm, hb⟩

    have HR : Hid (R = sz) := by show _ = _; rw [HR.out, Bool.and_true]; rfl
    go_enter Tryz.func98, Tryz.ntmps98
    go_wp2_with fail
    go_ret
    exact ⟨ret_bool HR.out.symm, hb⟩

  by_cases c6 : o = 6
  · subst c6
    clear c1 c2
    generalize hq : decide (l.length = 2) = q at *
    have b0 : ((l.length : Int) == 2) = q := (HLEN.out 2).trans hq
    have HR : Hid (R = (zv && sz && q)) := by show _ = _; rw [HE2.out]; rw [if_neg (by decide), if_pos (by decide)]
    clear hq HE2
    cases q
    · have HR : Hid (R = false) := by show _ = _; rw [HR.out, Bool.and_false]
      go_enter Tryz.func98, Tryz.ntmps98
      go_wp2_with fail
      go_ret
      exact ⟨ret_bool HR.out.symm, hb⟩

    cases zv
    · have HR : Hid (R = false) := HR.out
      go_enter Tryz.func98, Tryz.ntmps98
      go_wp2_with fail
      go_ret
      exact ⟨ret_bool HR.out.symm, hb⟩

    have HR : Hid (R = sz) := by show _ = _; rw [HR.out, Bool.and_true]; rfl
    go_enter Tryz.func98, Tryz.ntmps98
    go_wp2_with fail
    go_ret
    exact ⟨ret_bool HR.out.symm, hb⟩

  by_cases c7 : o = 7
  · subst c7
    clear c1 c2
    generalize hq : decide (l.length = 2) = q at *
    have b0 : ((l.length : Int) == 2) = q := (HLEN.out 2).trans hq
    have HR : Hid (R = (zv && sz && q)) := by show _ = _; rw [HE2.out]; rw [if_neg (by decide), if_pos (by decide)]
    clear hq HE2
    cases q
    · have HR : Hid (R = false) := by show _ = _; rw [HR.out, Bool.and_false]
      go_enter Tryz.func98, Tryz.ntmps98
      go_wp2_with fail
      go_ret
      exact ⟨ret_bool HR.out.symm, hb⟩

    cases zv
    · have HR : Hid (R = false) := HR.out
      go_enter Tryz.func98, Tryz.ntmps98
      go_wp2_with fail
      go_ret
      exact ⟨ret_bool HR.out.symm, hb⟩

    have HR : Hid (R = sz) := by show _ = _; rw [HR.out, Bool.and_true]; rfl
    go_enter Tryz.func98, Tryz.ntmps98
    go_wp2_with fail
    go_ret
    exact ⟨ret_bool HR.out.symm, hb⟩

  by_cases c8 : o = 8
  · subst c8
    clear c1 c2
    generalize hq : decide (l.length = 2) = q at *
    have b0 : ((l.length : Int) == 2) = q := (HLEN.out 2).trans hq
    have HR : Hid (R = (zv && sz && q)) := by show _ = _; rw [HE2.out]; rw [if_neg (by decide), if_pos (by decide)]
    clear hq HE2
    cases q
    · have HR : Hid (R = false) := by show _ = _; rw [HR.out, Bool.and_false]
      go_enter Tryz.func98, Tryz.ntmps98
      go_wp2_with fail
      go_ret
      exact ⟨ret_bool HR.out.symm, hb⟩

    cases zv
    · have HR : Hid (R = false) := HR.out
      go_enter Tryz.func98, Tryz.ntmps98
      go_wp2_with fail
      go_ret
      exact ⟨ret_bool HR.out.symm, hb⟩

    have HR : Hid (R = sz) := by show _ = _; rw [HR.out, Bool.and_true]; rfl
    go_enter Tryz.func98, Tryz.ntmps98
    go_wp2_with fail
    go_ret
    exact ⟨ret_bool HR.out.symm, hb⟩

  by_cases c9 : o = 9
  · subst c9
    clear c1 c2
    generalize hq : decide (l.length = 2) = q at *
    have b0 : ((l.length : Int) == 2) = q := (HLEN.out 2).trans hq
    have HR : Hid (R = (zv && sz && q)) := by show _ = _; rw [HE2.out]; rw [if_neg (by decide), if_pos (by decide)]
    clear hq HE2
    cases q
    · have HR : Hid (R = false) := by show _ = _; rw [HR.out, Bool.and_false]
      go_enter Tryz.func98, Tryz.ntmps98
      go_wp2_with fail
      go_ret
      exact ⟨ret_bool HR.out.symm, hb⟩

    cases zv
    · have HR : Hid (R = false) := HR.out
      go_enter Tryz.func98, Tryz.ntmps98
      go_wp2_with fail
      go_ret
      exact ⟨ret_bool HR.out.symm, hb⟩

    have HR : Hid (R = sz) := by show _ = _; rw [HR.out, Bool.and_true]; rfl
    go_enter Tryz.func98, Tryz.ntmps98
    go_wp2_with fail
    go_ret
    exact ⟨ret_bool HR.out.symm, hb⟩

  by_cases c10 : o = 10
  · subst c10
    clear c1 c2
    generalize hq : decide (l.length = 2) = q at *
    have b0 : ((l.length : Int) == 2) = q := (HLEN.out 2).trans hq
    have HR : Hid (R = (zv && sz && q)) := by show _ = _; rw [HE2.out]; rw [if_neg (by decide), if_pos (by decide)]
    clear hq HE2
    cases q
    · have HR : Hid (R = false) := by show _ = _; rw [HR.out, Bool.and_false]
      go_enter Tryz.func98, Tryz.ntmps98
      go_wp2_with fail
      go_ret
      exact ⟨ret_bool HR.out.symm, hb⟩

    cases zv
    · have HR : Hid (R = false) := HR.out
      go_enter Tryz.func98, Tryz.ntmps98
      go_wp2_with fail
      go_ret
      exact ⟨ret_bool HR.out.symm, hb⟩

    have HR : Hid (R = sz) := by show _ = _; rw [HR.out, Bool.and_true]; rfl
    go_enter Tryz.func98, Tryz.ntmps98
    go_wp2_with fail
    go_ret
    exact ⟨ret_bool HR.out.symm, hb⟩

  by_cases c11 : o = 11
  · subst c11
    clear c1 c2
    generalize hq : decide (l.length = 2) = q at *
    have b0 : ((l.length : Int) == 2) = q := (HLEN.out 2).trans hq
    have HR : Hid (R = (zv && sz && q)) := by show _ = _; rw [HE2.out]; rw [if_neg (by decide), if_pos (by decide)]
    clear hq HE2
    cases q
    · have HR : Hid (R = false) := by show _ = _; rw [HR.out, Bool.and_false]
      go_enter Tryz.func98, Tryz.ntmps98
      go_wp2_with fail
      go_ret
      exact ⟨ret_bool HR.out.symm, hb⟩

    cases zv
    · have HR : Hid (R = false) := HR.out
      go_enter Tryz.func98, Tryz.ntmps98
      go_wp2_with fail
      go_ret
      exact ⟨ret_bool HR.out.symm, hb⟩

    have HR : Hid (R = sz) := by show _ = _; rw [HR.out, Bool.and_true]; rfl
    go_enter Tryz.func98, Tryz.ntmps98
    go_wp2_with fail
    go_ret
    exact ⟨ret_bool HR.out.symm, hb⟩

  by_cases c12 : o = 12
  · subst c12
    clear c1 c2
    generalize hq : decide (l.length = 3) = q at *
    have b0 : ((l.length : Int) == 3) = q := (HLEN.out 3).trans hq
    have HR : Hid (R = (zv && sz && q)) := by show _ = _; rw [HE2.out]; rw [if_neg (by decide), if_neg (by decide), if_pos rfl]
    clear hq HE2
    cases q
    · have HR : Hid (R = false) := by show _ = _; rw [HR.out, Bool.and_false]
      go_enter Tryz.func98, Tryz.ntmps98
      go_wp2_with fail
      go_ret
      exact ⟨ret_bool HR.out.symm, hb⟩

    cases zv
    · have HR : Hid (R = false) := HR.out
      go_enter Tryz.func98, Tryz.ntmps98
      go_wp2_with fail
      go_ret
      exact ⟨ret_bool HR.out.symm, hb⟩

    have HR : Hid (R = sz) := by show _ = _; rw [HR.out, Bool.and_true]; rfl
    go_enter Tryz.func98, Tryz.ntmps98
    go_wp2_with fail
    go_ret
    exact ⟨ret_bool HR.out.symm, hb⟩

  by_cases c13 : o = 13
  · subst c13
    clear c1 c2 c3 c4 c5 c6 c7 c8 c9 c10 c11 c12
    have HR : Hid (R = (zv && sz && (decide (2 ≤ l.length) && (l.drop 1).all fun y => decide (y.op = 1)))) := by show _ = _; rw [HE2.out, if_neg (by decide), if_neg (by decide), if_neg (by decide), if_pos rfl]
    clear HE2
    go_enter Tryz.func98, Tryz.ntmps98
    go_wp2_with fail
    go_loop [5] (fun i => ∃ j : Nat, 1 ≤ j ∧ (j ≤ l.length ∨ j = 1) ∧ i = .int .i64 j ∧ ∀ k y, 1 ≤ k → k < j → l[k]? = some y → y.op = 1) (fun i => l.length - (intOf i).toNat)
    case atStart => exact ⟨1, Nat.le_refl _, .inr rfl, rfl, fun k y h1 h2 _ => by omega⟩
    case round =>
      obtain ⟨j, hj1, hj, rfl, hp⟩ := hrel
      have HP := Lib.hid hp
      clear hp
      by_cases hlt : j < l.length
      · obtain ⟨b, o', y, lv, n', hn, rfl, hD, hx, hex, hfv, hsl, e0, e1, e2, e3, e4, e5⟩ := HL.out.at_ hlt
        have HX := Lib.hid hx
        have i1 : (0 : Int) ≤ (j : Int) := by omega
        have i2 : (j : Int) < (l.length : Int) := by omega
        clear hx hex hfv hsl hn e1 e2 e3 e4 e5
        by_cases ho : y.op = 1
        · have HO := Lib.hid ho
          have f1 : (y.op != 1) = false := by simp [ho]
          clear ho
          go_wp2_with fail
          go_round
          case rel =>
            refine ⟨j + 1, by omega, by omega, by go_num, fun k z h1 hk hz => ?_⟩
            by_cases e : k = j
            · subst e; rw [HX.out] at hz; injection hz with hz; subst hz; exact HO.out
            · exact HP.out k z h1 (by omega) hz
          case measure => simp [intOf]; omega
        · have HRR : Hid (R = false) := by
            show _ = _
            rw [HR.out, all_drop_not hj1 HX.out ho, Bool.and_false, Bool.and_false]
          have f1 : (y.op != 1) = true := by simpa using ho
          clear ho
          go_wp2_with fail
          go_ret
          exact ⟨ret_bool HRR.out.symm, hb⟩
      · have i2 : (l.length : Int) ≤ (j : Int) := by omega
        have HRR : Hid (R = (zv && sz && decide (2 ≤ l.length))) := by
          show _ = _
          rw [HR.out, all_drop (fun k y h1 hy => HP.out k y h1 (by
            have : k < l.length := by
              rcases Nat.lt_or_ge k l.length with h | h
              · exact h
              · rw [List.getElem?_eq_none h] at hy; cases hy
            omega) hy), Bool.and_true]
        clear HR
        by_cases h2l : 2 ≤ l.length
        · rw [decide_eq_true h2l] at HRR
          have i3 : (2 : Int) ≤ (l.length : Int) := by omega
          cases zv
          · have HRR : Hid (R = false) := HRR.out
            go_wp2_with fail
            go_ret
            exact ⟨ret_bool HRR.out.symm, hb⟩
          · have HRR : Hid (R = sz) := by show _ = _; rw [HRR.out, Bool.and_true]; rfl
            go_wp2_with fail
            go_ret
            exact ⟨ret_bool HRR.out.symm, hb⟩
        · rw [decide_eq_false h2l, Bool.and_false] at HRR
          have i3 : (l.length : Int) < 2 := by omega
          go_wp2_with fail
          go_ret
          exact ⟨ret_bool HRR.out.symm, hb⟩
  have HR : Hid (R = false) := by show _ = _; rw [HE2.out, if_neg c3, if_neg (by omega), if_neg c12, if_neg c13, Bool.and_false]
  clear HE2
  go_enter Tryz.func98, Tryz.ntmps98
  go_wp2_with fail
  go_ret
  exact ⟨ret_bool HR.out.symm, hb⟩
end Go.Proofs.YtijmnenojbfdnaaGreatDoor
