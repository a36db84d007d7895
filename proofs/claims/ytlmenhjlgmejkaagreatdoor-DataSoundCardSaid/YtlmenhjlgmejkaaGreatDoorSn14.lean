/- Merged texts. -/
import Derived.Maps.Keyed
import Derived.Test.YtlmenhjlgmejkaaGreatDoorSn13
set_option linter.all false
namespace Go.Proofs.YtlmenhjlgmejkaaGreatDoor
open Go.RowKit
theorem all_drop {l : List Ex} (h : ∀ j y, 1 ≤ j → l[j]? = some y → y.op = 1) : ((l.drop 1).all fun y => decide (y.op = 1)) = true := by
 rw [List.all_eq_true]
 intro y hy
 obtain ⟨j, hj, rfl⟩ := List.mem_iff_getElem.1 hy
 have := h (1 + j) _ (by omega) (by rw [← List.getElem?_drop]; exact List.getElem?_eq_getElem hj)
 simpa using this
theorem all_drop_not {l : List Ex} {j : Nat} {y : Ex} (hj : 1 ≤ j) (hy : l[j]? = some y) (h : y.op ≠ 1) : ((l.drop 1).all fun y => decide (y.op = 1)) = false := by
 rw [List.all_eq_false]
 refine ⟨y, ?_, by simpa using h⟩
 have : (l.drop 1)[j - 1]? = some y := by rw [List.getElem?_drop]; rw [show 1 + (j - 1) = j by omega]; exact hy
 exact List.mem_of_getElem? this
set_option maxHeartbeats 8000000 in
set_option maxRecDepth 100000 in
theorem shape_ref (n : Nat) (x : Ex) (u : Value) (w : World) (h : IsEx n (Lt w.heap.size) w u x) :
    Calls Tryz.prog 181 #[u] w fun e w' => e = .returned (.bool (shapeX x)) ∧ Below w.heap.size w w' := by
  obtain ⟨lv, rfl, h1, h2, h3, h4⟩ := h
  obtain ⟨A, c, rfl, l1, l2, h4⟩ := h4.open_
  obtain ⟨o, v, s, l⟩ := x
  simp only [Ex.op, Ex.v, Ex.s, Ex.l] at *
  have HE : Hid (shapeX (.mk o v s l) = if o = 1 then decide (l.length = 0) && noS s && validV v
    else if o = 2 then decide (l.length = 0) && zeroV v && isNameB s && !keyB s
    else zeroV v && noS s &&
      (if o = 3 then decide (l.length = 1)
       else if 4 ≤ o ∧ o ≤ 11 then decide (l.length = 2)
       else if o = 12 then decide (l.length = 3)
       else if o = 13 then decide (2 ≤ l.length) && (l.drop 1).all fun y => decide (y.op = 1)
       else false)) := rfl
  generalize shapeX (.mk o v s l) = R at *
  have hne : ∀ W, (binOp .eql 63 (.agg #[.int .i64 v.kind, .int .i64 v.n, .string v.s]) (.agg #[.int .i64 0, .int .i64 0, .string ⟨#[]⟩])).run Tryz.prog W = .ok (.bool (zeroV v)) W := fun W => run_eqV W v noV
  have hb := bone w (.cells #[.int .i64 o, .int .i64 v.kind, .int .i64 v.n, .string v.s, .string s, .slice A l.length c] 65)
  have hB := Blk.new w 65 #[.int .i64 o, .int .i64 v.kind, .int .i64 v.n, .string v.s, .string s, .slice A l.length c]
  have hL1 := h4.now hb
  have HL := Lib.hid hL1
  clear h4 hL1
  generalize hw1 : w.alloc (.cells #[.int .i64 o, .int .i64 v.kind, .int .i64 v.n, .string v.s, .string s, .slice A l.length c] 65) = w1 at *
  obtain ⟨q0, q1, q2, q3, q4, q5⟩ := hB.c6
  have HS : Hid (noS s = s.toList.isEmpty) := rfl
  generalize hz : zeroV v = zv at *
  generalize hs : s.toList.isEmpty = sz at *
  have HLEN : Hid (∀ k : Nat, ((l.length : Int) == (k : Int)) = decide (l.length = k)) := fun k => by rw [Bool.eq_iff_iff]; simp only [beq_iff_eq, decide_eq_true_eq]; omega
  by_cases c1 : o = 1
  · subst c1
    generalize hq : decide (l.length = 0) = q at *
    have b0 : ((l.length : Int) == 0) = q := (HLEN.out 0).trans hq
    have HR : Hid (R = (q && sz && validV v)) := by show _ = _; rw [HE.out, if_pos rfl, HS.out]
    clear hq
    cases q
    · have HR : Hid (R = false) := HR.out
      go_enter Tryz.func181, Tryz.ntmps181
      go_wp2_with fail
      go_ret
      exact ⟨ret_bool HR.out.symm, hb⟩

    cases sz
    · have HR : Hid (R = false) := HR.out
      go_enter Tryz.func181, Tryz.ntmps181
      go_wp2_with fail
      go_ret
      exact ⟨ret_bool HR.out.symm, hb⟩

    · have hcall := validV_ref v w1 h2
      unfold valV at hcall
      have HC := Lib.hid hcall
      clear hcall
      go_enter Tryz.func181, Tryz.ntmps181
      go_wp2_with fail
      refine HC.out.mono ?_
      rintro e w2 ⟨rfl, hb2⟩
      generalize validV v = vv at *
      go_wp2_with fail
      go_ret
      exact ⟨ret_bool (by rw [HR.out]; rfl), bthen hb hb2⟩
  by_cases c2 : o = 2
  · subst c2
    clear c1
    generalize hq : decide (l.length = 0) = q at *
    have b0 : ((l.length : Int) == 0) = q := (HLEN.out 0).trans hq
    have HR : Hid (R = (q && zv && isNameB s && !keyB s)) := by show _ = _; rw [HE.out, if_neg (by decide), if_pos rfl]
    clear hq
    cases q
    · have HR : Hid (R = false) := HR.out
      go_enter Tryz.func181, Tryz.ntmps181
      go_wp2_with fail
      go_ret
      exact ⟨ret_bool HR.out.symm, hb⟩

    cases zv
    · have HR : Hid (R = false) := HR.out
      go_enter Tryz.func181, Tryz.ntmps181
      go_wp2_with fail
      go_ret
      exact ⟨ret_bool HR.out.symm, hb⟩

    · have HC := Lib.hid (fun W => isName_ref s W h3)
      have HK := Lib.hid (fun W => key_ref s W)
      generalize isNameB s = nm at *
      generalize keyB s = ky at *
      go_enter Tryz.func181, Tryz.ntmps181
      go_wp2_with fail
      refine (HC.out _).mono ?_
      rintro e w2 ⟨rfl, rfl⟩
      cases nm
      · have HR : Hid (R = false) := HR.out
        go_wp2_with fail
        go_ret
        exact ⟨ret_bool HR.out.symm, hb⟩
      · go_wp2_with fail
        refine (HK.out _).mono ?_
        rintro e w2 ⟨rfl, hb2⟩
        go_wp2_with fail
        go_ret
        exact ⟨ret_bool (by rw [HR.out]; rfl), bthen hb hb2⟩
  have HE2 : Hid (R = (zv && sz && (if o = 3 then decide (l.length = 1)
       else if 4 ≤ o ∧ o ≤ 11 then decide (l.length = 2)
       else if o = 12 then decide (l.length = 3)
       else if o = 13 then decide (2 ≤ l.length) && (l.drop 1).all fun y => decide (y.op = 1)
       else false))) := by show _ = _; rw [HE.out, if_neg c1, if_neg c2, HS.out]
  clear HE HS
  by_cases c3 : o = 3
  · subst c3
    clear c1 c2
    generalize hq : decide (l.length = 1) = q at *
    have b0 : ((l.length : Int) == 1) = q := (HLEN.out 1).trans hq
    have HR : Hid (R = (zv && sz && q)) := by show _ = _; rw [HE2.out]; rw [if_pos rfl]
    clear hq HE2
    cases q
    · have HR : Hid (R = false) := by show _ = _; rw [HR.out, Bool.and_false]
      go_enter Tryz.func181, Tryz.ntmps181
      go_wp2_with fail
      go_ret
      exact ⟨ret_bool HR.out.symm, hb⟩

    cases zv
    · have HR : Hid (R = false) := HR.out
      go_enter Tryz.func181, Tryz.ntmps181
      go_wp2_with fail
      go_ret
      exact ⟨ret_bool HR.out.symm, hb⟩

    have HR : Hid (R = sz) := by show _ = _; rw [HR.out, Bool.and_true]; rfl
    go_enter Tryz.func181, Tryz.ntmps181
    go_wp2_with fail
    go_ret
    exact ⟨ret_bool HR.out.symm, hb⟩

  by_cases c4 : o = 4
  · subst c4
    clear c1 c2
    generalize hq : decide (l.length = 2) = q at *
    have b0 : ((l.length : Int) == 2) = q := (HLEN.out 2).trans hq
    have HR : Hid (R = (zv && sz && q)) := by show _ = _; rw [HE2.out]; rw [if_neg (by decide), if_pos (by decide)]
    clear hq HE2
    cases q
    · have HR : Hid (R = false) := by show _ = _; rw [HR.out, Bool.and_false]
      go_enter Tryz.func181, Tryz.ntmps181
      go_wp2_with fail
      go_ret
      exact ⟨ret_bool HR.out.symm, hb⟩

    cases zv
    · have HR : Hid (R = false) := HR.out
      go_enter Tryz.func181, Tryz.ntmps181
      go_wp2_with fail
      go_ret
      exact ⟨ret_bool HR.out.symm, hb⟩

    have HR : Hid (R = sz) := by show _ = _; rw [HR.out, Bool.and_true]; rfl
    go_enter Tryz.func181, Tryz.ntmps181
    go_wp2_with fail
    go_ret
    exact ⟨ret_bool HR.out.symm, hb⟩

  by_cases c5 : o = 5
  · subst c5
    clear c1 c2
    generalize hq : decide (l.length = 2) = q at *
    have b0 : ((l.length : Int) == 2) = q := (HLEN.out 2).trans hq
    have HR : Hid (R = (zv && sz && q)) := by show _ = _; rw [HE2.out]; rw [if_neg (by decide), if_pos (by decide)]
    clear hq HE2
    cases q
    · have HR : Hid (R = false) := by show _ = _; rw [HR.out, Bool.and_false]
      go_enter Tryz.func181, Tryz.ntmps181
      go_wp2_with fail
      go_ret
      exact ⟨ret_bool HR.out.symm, hb⟩

    cases zv
    · have HR : Hid (R = false) := HR.out
      go_enter Tryz.func181, Tryz.ntmps181
      go_wp2_with fail
      go_ret
      exact ⟨ret_bool HR.out.symm, hb⟩

    have HR : Hid (R = sz) := by show _ = _; rw [HR.out, Bool.and_true]; rfl
    go_enter Tryz.func181, Tryz.ntmps181
    go_wp2_with fail
    go_ret
    exact ⟨ret_bool HR.out.symm, hb⟩

  by_cases c6 : o = 6
  · subst c6
    clear c1 c2
    generalize hq : decide (l.length = 2) = q at *
    have b0 : ((l.length : Int) == 2) = q := (HLEN.out 2).trans hq
    have HR : Hid (R = (zv && sz && q)) := by show _ = _; rw [HE2.out]; rw [if_neg (by decide), if_pos (by decide)]
    clear hq HE2
    cases q
    · have HR : Hid (R = false) := by show _ = _; rw [HR.out, Bool.and_false]
      go_enter Tryz.func181, Tryz.ntmps181
      go_wp2_with fail
      go_ret
      exact ⟨ret_bool HR.out.symm, hb⟩

    cases zv
    · have HR : Hid (R = false) := HR.out
      go_enter Tryz.func181, Tryz.ntmps181
      go_wp2_with fail
      go_ret
      exact ⟨ret_bool HR.out.symm, hb⟩

    have HR : Hid (R = sz) := by show _ = _; rw [HR.out, Bool.and_true]; rfl
    go_enter Tryz.func181, Tryz.ntmps181
    go_wp2_with fail
    go_ret
    exact ⟨ret_bool HR.out.symm, hb⟩

  by_cases c7 : o = 7
  · subst c7
    clear c1 c2
    generalize hq : decide (l.length = 2) = q at *
    have b0 : ((l.length : Int) == 2) = q := (HLEN.out 2).trans hq
    have HR : Hid (R = (zv && sz && q)) := by show _ = _; rw [HE2.out]; rw [if_neg (by decide), if_pos (by decide)]
    clear hq HE2
    cases q
    · have HR : Hid (R = false) := by show _ = _; rw [HR.out, Bool.and_false]
      go_enter Tryz.func181, Tryz.ntmps181
      go_wp2_with fail
      go_ret
      exact ⟨ret_bool HR.out.symm, hb⟩

    cases zv
    · have HR : Hid (R = false) := HR.out
      go_enter Tryz.func181, Tryz.ntmps181
      go_wp2_with fail
      go_ret
      exact ⟨ret_bool HR.out.symm, hb⟩

    have HR : Hid (R = sz) := by show _ = _; rw [HR.out, Bool.and_true]; rfl
    go_enter Tryz.func181, Tryz.ntmps181
    go_wp2_with fail
    go_ret
    exact ⟨ret_bool HR.out.symm, hb⟩

  by_cases c8 : o = 8
  · subst c8
    clear c1 c2
    generalize hq : decide (l.length = 2) = q at *
    have b0 : ((l.length : Int) == 2) = q := (HLEN.out 2).trans hq
    have HR : Hid (R = (zv && sz && q)) := by show _ = _; rw [HE2.out]; rw [if_neg (by decide), if_pos (by decide)]
    clear hq HE2
    cases q
    · have HR : Hid (R = false) := by show _ = _; rw [HR.out, Bool.and_false]
      go_enter Tryz.func181, Tryz.ntmps181
      go_wp2_with fail
      go_ret
      exact ⟨ret_bool HR.out.symm, hb⟩

    cases zv
    · have HR : Hid (R = false) := HR.out
      go_enter Tryz.func181, Tryz.ntmps181
      go_wp2_with fail
      go_ret
      exact ⟨ret_bool HR.out.symm, hb⟩

    have HR : Hid (R = sz) := by show _ = _; rw [HR.out, Bool.and_true]; rfl
    go_enter Tryz.func181, Tryz.ntmps181
    go_wp2_with fail
    go_ret
    exact ⟨ret_bool HR.out.symm, hb⟩

  by_cases c9 : o = 9
  · subst c9
    clear c1 c2
    generalize hq : decide (l.length = 2) = q at *
    have b0 : ((l.length : Int) == 2) = q := (HLEN.out 2).trans hq
    have HR : Hid (R = (zv && sz && q)) := by show _ = _; rw [HE2.out]; rw [if_neg (by decide), if_pos (by decide)]
    clear hq HE2
    cases q
    · have HR : Hid (R = false) := by show _ = _; rw [HR.out, Bool.and_false]
      go_enter Tryz.func181, Tryz.ntmps181
      go_wp2_with fail
      go_ret
      exact ⟨ret_bool HR.out.symm, hb⟩

    cases zv
    · have HR : Hid (R = false) := HR.out
      go_enter Tryz.func181, Tryz.ntmps181
      go_wp2_with fail
      go_ret
      exact ⟨ret_bool HR.out.symm, hb⟩

    have HR : Hid (R = sz) := by show _ = _; rw [HR.out, Bool.and_true]; rfl
    go_enter Tryz.func181, Tryz.ntmps181
    go_wp2_with fail
    go_ret
    exact ⟨ret_bool HR.out.symm, hb⟩

  by_cases c10 : o = 10
  · subst c10
    clear c1 c2
    generalize hq : decide (l.length = 2) = q at *
    have b0 : ((l.length : Int) == 2) = q := (HLEN.out 2).trans hq
    have HR : Hid (R = (zv && sz && q)) := by show _ = _; rw [HE2.out]; rw [if_neg (by decide), if_pos (by decide)]
    clear hq HE2
    cases q
    · have HR : Hid (R = false) := by show _ = _; rw [HR.out, Bool.and_false]
      go_enter Tryz.func181, Tryz.ntmps181
      go_wp2_with fail
      go_ret
      exact ⟨ret_bool HR.out.symm, hb⟩

    cases zv
    · have HR : Hid (R = false) := HR.out
      go_enter Tryz.func181, Tryz.ntmps181
      go_wp2_with fail
      go_ret
      exact ⟨ret_bool HR.out.symm, hb⟩

    have HR : Hid (R = sz) := by show _ = _; rw [HR.out, Bool.and_true]; rfl
    go_enter Tryz.func181, Tryz.ntmps181
    go_wp2_with fail
    go_ret
    exact ⟨ret_bool HR.out.symm, hb⟩

  by_cases c11 : o = 11
  · subst c11
    clear c1 c2
    generalize hq : decide (l.length = 2) = q at *
    have b0 : ((l.length : Int) == 2) = q := (HLEN.out 2).trans hq
    have HR : Hid (R = (zv && sz && q)) := by show _ = _; rw [HE2.out]; rw [if_neg (by decide), if_pos (by decide)]
    clear hq HE2
    cases q
    · have HR : Hid (R = false) := by show _ = _; rw [HR.out, Bool.and_false]
      go_enter Tryz.func181, Tryz.ntmps181
      go_wp2_with fail
      go_ret
      exact ⟨ret_bool HR.out.symm, hb⟩

    cases zv
    · have HR : Hid (R = false) := HR.out
      go_enter Tryz.func181, Tryz.ntmps181
      go_wp2_with fail
      go_ret
      exact ⟨ret_bool HR.out.symm, hb⟩

    have HR : Hid (R = sz) := by show _ = _; rw [HR.out, Bool.and_true]; rfl
    go_enter Tryz.func181, Tryz.ntmps181
    go_wp2_with fail
    go_ret
    exact ⟨ret_bool HR.out.symm, hb⟩

  by_cases c12 : o = 12
  · subst c12
    clear c1 c2
    generalize hq : decide (l.length = 3) = q at *
    have b0 : ((l.length : Int) == 3) = q := (HLEN.out 3).trans hq
    have HR : Hid (R = (zv && sz && q)) := by show _ = _; rw [HE2.out]; rw [if_neg (by decide), if_neg (by decide), if_pos rfl]
    clear hq HE2
    cases q
    · have HR : Hid (R = false) := by show _ = _; rw [HR.out, Bool.and_false]
      go_enter Tryz.func181, Tryz.ntmps181
      go_wp2_with fail
      go_ret
      exact ⟨ret_bool HR.out.symm, hb⟩

    cases zv
    · have HR : Hid (R = false) := HR.out
      go_enter Tryz.func181, Tryz.ntmps181
      go_wp2_with fail
      go_ret
      exact ⟨ret_bool HR.out.symm, hb⟩

    have HR : Hid (R = sz) := by show _ = _; rw [HR.out, Bool.and_true]; rfl
    go_enter Tryz.func181, Tryz.ntmps181
    go_wp2_with fail
    go_ret
    exact ⟨ret_bool HR.out.symm, hb⟩

  by_cases c13 : o = 13
  · subst c13
    clear c1 c2 c3 c4 c5 c6 c7 c8 c9 c10 c11 c12
    have HR : Hid (R = (zv && sz && (decide (2 ≤ l.length) && (l.drop 1).all fun y => decide (y.op = 1)))) := by show _ = _; rw [HE2.out, if_neg (by decide), if_neg (by decide), if_neg (by decide), if_pos rfl]
    clear HE2
    go_enter Tryz.func181, Tryz.ntmps181
    go_wp2_with fail
    go_loop [5] (fun i => ∃ j : Nat, 1 ≤ j ∧ (j ≤ l.length ∨ j = 1) ∧ i = .int .i64 j ∧ ∀ k y, 1 ≤ k → k < j → l[k]? = some y → y.op = 1) (fun i => l.length - (intOf i).toNat)
    case atStart => exact ⟨1, Nat.le_refl _, .inr rfl, rfl, fun k y h1 h2 _ => by omega⟩
    case round =>
      obtain ⟨j, hj1, hj, rfl, hp⟩ := hrel
      have HP := Lib.hid hp
      clear hp
      by_cases hlt : j < l.length
      · obtain ⟨b, o', y, lv, n', hn, rfl, hD, hx, hex, hfv, hsl, e0, e1, e2, e3, e4, e5⟩ := HL.out.at_ hlt
        have HX := Lib.hid hx
        have i1 : (0 : Int) ≤ (j : Int) := by omega
        have i2 : (j : Int) < (l.length : Int) := by omega
        clear hx hex hfv hsl hn e1 e2 e3 e4 e5
        by_cases ho : y.op = 1
        · have HO := Lib.hid ho
          have f1 : (y.op != 1) = false := by simp [ho]
          clear ho
          go_wp2_with fail
          go_round
          case rel =>
            refine ⟨j + 1, by omega, by omega, by go_num, fun k z h1 hk hz => ?_⟩
            by_cases e : k = j
            · subst e; rw [HX.out] at hz; injection hz with hz; subst hz; exact HO.out
            · exact HP.out k z h1 (by omega) hz
          case measure => simp [intOf]; omega
        · have HRR : Hid (R = false) := by
            show _ = _
            rw [HR.out, all_drop_not hj1 HX.out ho, Bool.and_false, Bool.and_false]
          have f1 : (y.op != 1) = true := by simpa using ho
          clear ho
          go_wp2_with fail
          go_ret
          exact ⟨ret_bool HRR.out.symm, hb⟩
      · have i2 : (l.length : Int) ≤ (j : Int) := by omega
        have HRR : Hid (R = (zv && sz && decide (2 ≤ l.length))) := by
          show _ = _
          rw [HR.out, all_drop (fun k y h1 hy => HP.out k y h1 (by
            have : k < l.length := by
              rcases Nat.lt_or_ge k l.length with h | h
              · exact h
              · rw [List.getElem?_eq_none h] at hy; cases hy
            omega) hy), Bool.and_true]
        clear HR
        by_cases h2l : 2 ≤ l.length
        · rw [decide_eq_true h2l] at HRR
          have i3 : (2 : Int) ≤ (l.length : Int) := by omega
          cases zv
          · have HRR : Hid (R = false) := HRR.out
            go_wp2_with fail
            go_ret
            exact ⟨ret_bool HRR.out.symm, hb⟩
          · have HRR : Hid (R = sz) := by show _ = _; rw [HRR.out, Bool.and_true]; rfl
            go_wp2_with fail
            go_ret
            exact ⟨ret_bool HRR.out.symm, hb⟩
        · rw [decide_eq_false h2l, Bool.and_false] at HRR
          have i3 : (l.length : Int) < 2 := by omega
          go_wp2_with fail
          go_ret
          exact ⟨ret_bool HRR.out.symm, hb⟩
  have HR : Hid (R = false) := by show _ = _; rw [HE2.out, if_neg c3, if_neg (by omega), if_neg c12, if_neg c13, Bool.and_false]
  clear HE2
  go_enter Tryz.func181, Tryz.ntmps181
  go_wp2_with fail
  go_ret
  exact ⟨ret_bool HR.out.symm, hb⟩
set_option maxHeartbeats 4000000 in
theorem count_ref : ∀ (n : Nat) (x : Ex) (u : Value) (w : World) (a d : Int), IsEx n (Lt w.heap.size) w u x → -1 ≤ a → a ≤ 400 → -1 ≤ d → d ≤ 60 →
  Calls Tryz.prog 159 #[u, .int .i64 a, .int .i64 d] w fun e w' => e = .returned (.int .i64 (cntX x a d)) ∧ Below w.heap.size w w' := by
 intro n
 induction n using Nat.strongRecOn with
 | _ n ih =>
  intro x u w a d h ha1 ha2 hd1 hd2
  have h0 := h
  obtain ⟨lv, rfl, h1, h2, h3, h4⟩ := h
  obtain ⟨A, c, rfl, l1, l2, h4⟩ := h4.open_
  have HE := Lib.hid (cntX_eq x a d)
  have hb := bone w (.cells #[.int .i64 x.op, .int .i64 x.v.kind, .int .i64 x.v.n, .string x.v.s, .string x.s, .slice A x.l.length c] 65)
  have hB := Blk.new w 65 #[.int .i64 x.op, .int .i64 x.v.kind, .int .i64 x.v.n, .string x.v.s, .string x.s, .slice A x.l.length c]
  have hx1 := h0.now hb
  have hl1 := SlE.now h4 hb
  clear h0 h4
  have wa : IntKind.i64.wrap (a - 1) = a - 1 := IntWalk.i64_in _ (by omega)
  have wd : IntKind.i64.wrap (d - 1) = d - 1 := IntWalk.i64_in _ (by omega)
  generalize hw1 : w.alloc (.cells #[.int .i64 x.op, .int .i64 x.v.kind, .int .i64 x.v.n, .string x.v.s, .string x.s, .slice A x.l.length c] 65) = w1 at *
  obtain ⟨q0, q1, q2, q3, q4, q5⟩ := hB.c6
  by_cases c1 : a ≤ 0
  ·have HR : Hid (cntX x a d = -1) := by show _ = _; rw [HE.out, if_pos (.inl c1)]
   have c1' : a - 1 < 0 := by omega
   clear c1
   go_enter Tryz.func159, Tryz.ntmps159
   go_wp2_with fail
   go_ret
   exact ⟨by rw [HR.out]; rfl, hb⟩
  have c1' : 0 ≤ a - 1 := by omega
  by_cases c2 : d ≤ 0
  ·have HR : Hid (cntX x a d = -1) := by show _ = _; rw [HE.out, if_pos (.inr (.inl c2))]
   have c2' : d < 1 := by omega
   clear c1 c2
   go_enter Tryz.func159, Tryz.ntmps159
   go_wp2_with fail
   go_ret
   exact ⟨by rw [HR.out]; rfl, hb⟩
  have c2' : 1 ≤ d := by omega
  go_enter Tryz.func159, Tryz.ntmps159
  go_wp2_with fail
  refine (shape_ref _ x _ _ hx1).mono ?_
  rintro e w2 ⟨rfl, hb2⟩
  have hbw2 := bthen hb hb2
  have hl2 := SlE.now hl1 hb2
  have hB2 := hB.now hb2
  clear q0 q1 q2 q3 q4 q5 hB hl1 hx1
  obtain ⟨q0, q1, q2, q3, q4, q5⟩ := hB2.c6
  generalize hs : shapeX x = sh at *
  cases sh
  ·have HR : Hid (cntX x a d = -1) := by show _ = _; rw [HE.out, if_pos (.inr (.inr rfl))]
   go_wp2_with fail
   go_ret
   exact ⟨by rw [HR.out]; rfl, hbw2⟩
  have HR : Hid (cntX x a d = cntL (x.l.drop 0) (a - 1) (d - 1)) := by show _ = _; rw [HE.out, if_neg (by simp [c1, c2]), List.drop_zero]
  clear HE hs
  go_wp2_with fail
  go_loopw [1, 7] (fun av i wr => ∃ (k : Nat) (a' : Int), k ≤ x.l.length ∧ i = .int .i64 k ∧ av = .int .i64 a' ∧ -1 ≤ a' ∧ a' ≤ 400 ∧ (0 ≤ a' → cntX x a d = cntL (x.l.drop k) a' (d - 1)) ∧ (a' < 0 → cntX x a d = a') ∧ Below w2.heap.size w2 wr) (fun _ i _ => x.l.length - (intOf i).toNat)
  case atStart => exact ⟨0, a - 1, Nat.zero_le _, rfl, rfl, by omega, by omega, fun _ => HR.out, fun h => by omega, Below.refl _ _⟩
  case round =>
   obtain ⟨k, a', hk, rfl, rfl, a1, a2, hc, hn, hbr2⟩ := hrel
   have HC := Lib.hid hc
   have HN := Lib.hid hn
   have hbr := bthen hbw2 hbr2
   have hBr := hB2.now hbr2
   clear hc hn HR q0 q1 q2 q3 q4 q5
   obtain ⟨q0, q1, q2, q3, q4, q5⟩ := hBr.c6
   by_cases hlt : k < x.l.length
   ·have i1 : (0 : Int) ≤ (k : Int) := by omega
    have i2 : (k : Int) < (x.l.length : Int) := by omega
    by_cases hz0 : a' < 0
    ·have HRR := Lib.hid (HN.out hz0)
     go_wp2_with fail
     go_ret
     exact ⟨by rw [HRR.out]; rfl, hbr⟩
    have hz0' : 0 ≤ a' := by omega
    obtain ⟨b, o, y, lv, n', hn, rfl, hD, hx, hex, hfv, hsl, e0, e1, e2, e3, e4, e5⟩ := (SlE.now hl2 hbr2).at_ hlt
    have HX := Lib.hid (cntL_drop hx a' (d - 1))
    have HLO := Lib.hid (cnt_low y a' (d - 1))
    have HRG := Lib.hid (cnt_range y a' (d - 1) a2)
    obtain ⟨A2, c2', rfl, m1, m2, _⟩ := hsl.open_
    have hcall := Lib.hid (ih n' (by omega) y _ _ a' (d - 1) hex (by omega) a2 (by omega) (by omega))
    clear hx hex hfv hsl hn
    generalize cntX y a' (d - 1) = z at *
    go_wp2_with fail
    refine hcall.out.mono ?_
    rintro e w4 ⟨rfl, hb4⟩
    have hbw4' : Below w2.heap.size w2 w4 := bthen hbr2 hb4
    have HRR : Hid (cntX x a d = if z < 0 then -1 else cntL (x.l.drop (k + 1)) z (d - 1)) := by show _ = _; rw [HC.out hz0', HX.out]
    clear hz0 q0 q1 q2 q3 q4 q5
    go_wp2_with fail
    go_roundw
    case rel =>
     refine ⟨k + 1, z, by omega, by go_num, rfl, ?_, ?_, fun h => by rw [HRR.out, if_neg (by omega)], fun h => by rw [HRR.out, if_pos h, HLO.out h], hbw4'⟩
     ·rcases Int.lt_or_le z 0 with h | h
      ·have := HLO.out h; omega
      ·omega
     ·have := HRG.out; omega
    case measure => simp [intOf]; omega
   ·have i2 : (x.l.length : Int) ≤ (k : Int) := by omega
    have HRR : Hid (cntX x a d = a') := by
     show _ = _
     rcases Int.lt_or_le a' 0 with h | h
     ·exact HN.out h
     ·rw [HC.out h, List.drop_eq_nil_of_le (by omega), cntL_nil]
    go_wp2_with fail
    go_ret
    exact ⟨by rw [HRR.out]; rfl, hbr⟩
theorem validX_ref (n : Nat) (x : Ex) (u : Value) (w : World) (h : IsEx n (Lt w.heap.size) w u x) :
  Calls Tryz.prog 127 #[u] w fun e w' => e = .returned (.bool (validX x)) ∧ Below w.heap.size w w' := by
 have h0 := h
 obtain ⟨lv, rfl, h1, h2, h3, h4⟩ := h
 have hb := bone w (.cells #[.int .i64 x.op, .int .i64 x.v.kind, .int .i64 x.v.n, .string x.v.s, .string x.s, lv] 65)
 have hc := count_ref n x _ _ 400 60 (h0.now hb) (by omega) (by omega) (by omega) (by omega)
 have HC := Lib.hid hc
 have HV : Hid (validX x = decide (0 ≤ cntX x 400 60)) := rfl
 clear hc h4 h0
 generalize cntX x 400 60 = z at *
 go_enter Tryz.func127, Tryz.ntmps127
 go_wp2_with fail
 refine HC.out.mono ?_
 rintro e w2 ⟨rfl, hb2⟩
 have hbw := bthen hb hb2
 clear hb hb2 HC
 go_wp2_with fail
 go_ret
 exact ⟨ret_bool HV.out.symm, hbw⟩
set_option maxHeartbeats 1000000 in
theorem fault_ref (n : Nat) (vs : List Var) (x : Ex) (uv u : Value) (w : World) (hv : SlX (Lt w.heap.size) w uv vs) (h : IsEx n (Lt w.heap.size) w u x) :
  Calls Tryz.prog 82 #[uv, u] w fun e w' => e = .returned (.tuple #[.int .i64 (givenE vs x).1, .int .i64 (givenE vs x).2]) ∧ Fit (givenE vs x).1 ∧ Below w.heap.size w w' := by
 have h0 := h
 obtain ⟨lv, rfl, h1, h2, h3, h4⟩ := h
 have hb := bone w (.cells #[.int .i64 x.op, .int .i64 x.v.kind, .int .i64 x.v.n, .string x.v.s, .string x.s, lv] 65)
 have hB := Blk.new w 65 #[.int .i64 x.op, .int .i64 x.v.kind, .int .i64 x.v.n, .string x.v.s, .string x.s, lv]
 have hx1 := h0.now hb
 have hv1 := hv.now hb
 have HE : Hid (givenE vs x = if validX x && varsB vs then typX vs x else (0, 1)) := rfl
 clear h0 hv h4
 go_enter Tryz.func82, Tryz.ntmps82
 go_upto_region 1 with fail
 generalize hw1 : w.alloc (.cells #[.int .i64 x.op, .int .i64 x.v.kind, .int .i64 x.v.n, .string x.v.s, .string x.s, lv] 65) = w1 at *
 clear hw1
 go_wp2_with fail
 refine (validVars_ref vs _ _ hv1).mono ?_
 rintro e w2 ⟨rfl, hb2⟩
 have hbw2 := bthen hb hb2
 have hB2 := hB.now hb2
 have hx2 := hx1.now hb2
 have hv2 := hv1.now hb2
 generalize hq2 : varsB vs = q at *
 obtain ⟨q0, q1, q2, q3, q4, q5⟩ := hB2.c6
 cases q
 ·have HR : Hid (givenE vs x = (0, 1)) := by show _ = _; rw [HE.out, Bool.and_false]; rfl
  clear hx1 hv1 hx2 hv2
  go_wp2_with fail
  go_ret2
  rw [HR.out]
  exact ⟨rfl, by unfold Fit; omega, hbw2⟩
 clear hx1 hv1
 go_wp2_with fail
 refine (validX_ref n x _ _ hx2).mono ?_
 rintro e w3 ⟨rfl, hb3⟩
 have hbw3 := bthen hbw2 hb3
 have hB3 := hB2.now hb3
 have hx3 := hx2.now hb3
 have hv3 := hv2.now hb3
 generalize hq : validX x = q at *
 clear q0 q1 q2 q3 q4 q5
 obtain ⟨q0, q1, q2, q3, q4, q5⟩ := hB3.c6
 cases q
 ·have HR : Hid (givenE vs x = (0, 1)) := HE.out
  clear hx2 hv2 hx3 hv3
  go_wp2_with fail
  go_ret2
  rw [HR.out]
  exact ⟨rfl, by unfold Fit; omega, hbw3⟩
 have HR : Hid (givenE vs x = typX vs x) := HE.out
 have HC := Lib.hid (type_ref n vs x _ _ _ hv3 hx3 (valid_ok hq))
 clear hx2 hv2 hx3 hv3 hq
 go_wp2_with fail
 refine HC.out.mono ?_
 rintro e w4 ⟨rfl, hf, hb4⟩
 go_wp2_with fail
 go_ret2
 rw [HR.out]
 exact ⟨rfl, hf, bthen hbw3 hb4⟩
theorem typed_ref (n : Nat) (vs : List Var) (x : Ex) (uv u : Value) (w : World) (hv : SlX (Lt w.heap.size) w uv vs) (h : IsEx n (Lt w.heap.size) w u x) :
  Calls Tryz.prog 29 #[uv, u] w fun e w' => e = .returned (.tuple #[.int .i64 (givenE vs x).1, .int .i64 (givenE vs x).2]) ∧ Fit (givenE vs x).1 ∧ Below w.heap.size w w' := by
 have h0 := h
 obtain ⟨lv, rfl, h1, h2, h3, h4⟩ := h
 have hb := bone w (.cells #[.int .i64 x.op, .int .i64 x.v.kind, .int .i64 x.v.n, .string x.v.s, .string x.s, lv] 65)
 have HC := Lib.hid (fault_ref n vs x _ _ _ (hv.now hb) (h0.now hb))
 clear h0 hv h4
 go_enter Tryz.func29, Tryz.ntmps29
 go_wp2_with fail
 refine HC.out.mono ?_
 rintro e w1 ⟨rfl, hf, hb1⟩
 go_wp2_with fail
 go_ret2
 exact ⟨rfl, hf, bthen hb hb1⟩
def RWr (n : Nat) : ElemR Wr := fun D w x cs => ∃ lv, cs = [.int .i64 x.var, .int .i64 x.x.op, .int .i64 x.x.v.kind, .int .i64 x.x.v.n, .string x.x.v.s, .string x.x.s, lv] ∧ Fit x.var ∧
 IsEx n D w (.agg #[.int .i64 x.x.op, .int .i64 x.x.v.kind, .int .i64 x.x.v.n, .string x.x.v.s, .string x.x.s, lv]) x.x
theorem IsEx.keep {n : Nat} {D D' : Nat → Prop} {w w' : World} {u : Value} {x : Ex} (h : IsEx n D w u x) (hd : ∀ b, D b → D' b) (hs : Same D w w') : IsEx n D' w' u x := by
 obtain ⟨lv, e, h1, h2, h3, h4⟩ := h
 exact ⟨lv, e, h1, h2, h3, Sl.keep h4 (RExN.kept n) hd hs⟩
theorem RWr.kept (n : Nat) : ElemR.Kept (RWr n) := by
 rintro D D' w w' x cs hd hs ⟨lv, rfl, h1, h2⟩
 exact ⟨lv, rfl, h1, h2.keep hd hs⟩
def SlW (n : Nat) := Sl 7 (RWr n)
def RWRow (n : Nat) : ElemR (List Wr) := fun D w r cs => ∃ v, cs = [v] ∧ SlW n D w v r
theorem RWRow.kept (n : Nat) : ElemR.Kept (RWRow n) := by
 rintro D D' w w' x cs hd hs ⟨v, rfl, h⟩
 exact ⟨v, rfl, Sl.keep h (RWr.kept n) hd hs⟩
def SlWW (n : Nat) := Sl 1 (RWRow n)
def IsDn (n : Nat) (D : Nat → Prop) (w : World) (u : Value) (d : DNet) : Prop :=
 ∃ tv xv iv gv wv, u = .agg #[.int .i64 d.net.places, tv, .int .i64 d.net.source, .int .i64 d.net.sink, xv, iv, gv, wv] ∧ IsNet D w (.agg #[.int .i64 d.net.places, tv, .int .i64 d.net.source, .int .i64 d.net.sink]) d.net ∧
  SlX D w xv d.vars ∧ SlV D w iv d.init ∧ SlE n D w gv d.guards ∧ SlWW n D w wv d.writes
def IsSt (D : Nat → Prop) (w : World) (u : Value) (s : St) : Prop := ∃ mv vv, u = .agg #[mv, vv] ∧ SlI D w mv s.marks ∧ SlV D w vv s.vals
def RSt : ElemR St := fun D w s cs => ∃ mv vv, cs = [mv, vv] ∧ SlI D w mv s.marks ∧ SlV D w vv s.vals
theorem RSt.kept : ElemR.Kept RSt := by
 rintro D D' w w' x cs hd hs ⟨mv, vv, rfl, h1, h2⟩
 exact ⟨mv, vv, rfl, Sl.keep h1 RInt.kept hd hs, Sl.keep h2 RVal.kept hd hs⟩
def SlSt := Sl 2 RSt
section
variable {w w' : World} {u : Value} {n : Nat}
theorem SlW.now {zs : List Wr} (h : SlW n (Lt w.heap.size) w u zs) (hb : Below w.heap.size w w') : SlW n (Lt w'.heap.size) w' u zs := Sl.below h (RWr.kept n) hb hb.size
theorem SlWW.now {zs : List (List Wr)} (h : SlWW n (Lt w.heap.size) w u zs) (hb : Below w.heap.size w w') : SlWW n (Lt w'.heap.size) w' u zs := Sl.below h (RWRow.kept n) hb hb.size
theorem SlSt.now {zs : List St} (h : SlSt (Lt w.heap.size) w u zs) (hb : Below w.heap.size w w') : SlSt (Lt w'.heap.size) w' u zs := Sl.below h RSt.kept hb hb.size
theorem IsDn.now {d : DNet} (h : IsDn n (Lt w.heap.size) w u d) (hb : Below w.heap.size w w') : IsDn n (Lt w'.heap.size) w' u d := by
 obtain ⟨tv, xv, iv, gv, wv, e, h1, h2, h3, h4, h5⟩ := h
 exact ⟨tv, xv, iv, gv, wv, e, h1.now hb, h2.now hb, h3.now hb, SlE.now h4 hb, SlWW.now h5 hb⟩
theorem IsSt.now {s : St} (h : IsSt (Lt w.heap.size) w u s) (hb : Below w.heap.size w w') : IsSt (Lt w'.heap.size) w' u s := by
 obtain ⟨mv, vv, e, h1, h2⟩ := h
 exact ⟨mv, vv, e, h1.now hb, h2.now hb⟩
variable {D : Nat → Prop}
theorem SlWW.at_ {zs : List (List Wr)} {A : Option Addr} {m c k : Nat} (h : SlWW n D w (.slice A m c) zs) (hk : k < m) :
  ∃ b o r v, A = some ⟨b, o, none⟩ ∧ D b ∧ zs[k]? = some r ∧ SlW n D w v r ∧ w.cell? ⟨b, o + k, none⟩ = some v := by
 obtain ⟨b, o, x, u, hA, hD, hx, ⟨u', hu, hf⟩, hc⟩ := Sl.at1 h hk
 injection hu with hu; subst hu
 exact ⟨b, o, x, u, hA, hD, hx, hf, hc⟩
theorem SlSt.at_ {zs : List St} {A : Option Addr} {m c k : Nat} (h : SlSt D w (.slice A m c) zs) (hk : k < m) :
  ∃ b o s mv vv, A = some ⟨b, o, none⟩ ∧ D b ∧ zs[k]? = some s ∧ SlI D w mv s.marks ∧ SlV D w vv s.vals ∧ w.cell? ⟨b, o + k * 2, none⟩ = some mv ∧ w.cell? ⟨b, o + k * 2 + 1, none⟩ = some vv := by
 obtain ⟨b, o, x, u0, u1, hA, hD, hx, ⟨mv, vv, hu, h1, h2⟩, hc0, hc1⟩ := Sl.at2 h hk
 injection hu with e0 hu; injection hu with e1 hu
 subst e0 e1
 exact ⟨b, o, x, u0, u1, hA, hD, hx, h1, h2, hc0, hc1⟩
theorem SlW.at_ {zs : List Wr} {A : Option Addr} {m c k : Nat} (h : SlW n D w (.slice A m c) zs) (hk : k < m) :
  ∃ b o x lv, A = some ⟨b, o, none⟩ ∧ D b ∧ zs[k]? = some x ∧ Fit x.var ∧ IsEx n D w (.agg #[.int .i64 x.x.op, .int .i64 x.x.v.kind, .int .i64 x.x.v.n, .string x.x.v.s, .string x.x.s, lv]) x.x ∧
   w.cell? ⟨b, o + k * 7, none⟩ = some (.int .i64 x.var) ∧ w.cell? ⟨b, o + k * 7 + 1, none⟩ = some (.int .i64 x.x.op) ∧ w.cell? ⟨b, o + k * 7 + 2, none⟩ = some (.int .i64 x.x.v.kind) ∧ w.cell? ⟨b, o + k * 7 + 3, none⟩ = some (.int .i64 x.x.v.n) ∧
   w.cell? ⟨b, o + k * 7 + 4, none⟩ = some (.string x.x.v.s) ∧ w.cell? ⟨b, o + k * 7 + 5, none⟩ = some (.string x.x.s) ∧ w.cell? ⟨b, o + k * 7 + 6, none⟩ = some lv := by
 obtain ⟨A', c', hv, h1, h2, h3⟩ := h
 injection hv with hA hn hc
 subst hA hn hc
 obtain ⟨b, o, cs, hA, hD, hl, ⟨lv, rfl, hf, hx⟩, hcell⟩ := h3 k zs[k] (List.getElem?_eq_getElem hk)
 exact ⟨b, o, zs[k], lv, hA, hD, List.getElem?_eq_getElem hk, hf, hx, hcell 0 _ rfl, hcell 1 _ rfl, hcell 2 _ rfl, hcell 3 _ rfl, hcell 4 _ rfl, hcell 5 _ rfl, hcell 6 _ rfl⟩
end
set_option maxHeartbeats 1000000 in
theorem dtyped_any (n : Nat) (vs : List Var) (x : Ex) (k : Int) (uv u : Value) (w : World) (hv : SlX (Lt w.heap.size) w uv vs) (h : IsEx n (Lt w.heap.size) w u x) (hl : vs.length ≤ 1000000) :
  Calls Tryz.prog 81 #[uv, u, .int .i64 k] w fun e w' => e = .returned (.bool (typedB vs x k)) ∧ Below w.heap.size w w' := by
 have h0 := h
 obtain ⟨lv, rfl, h1, h2, h3, h4⟩ := h
 have hb := bone w (.cells #[.int .i64 x.op, .int .i64 x.v.kind, .int .i64 x.v.n, .string x.v.s, .string x.s, lv] 65)
 have HC := Lib.hid (type_any n vs x _ _ _ (hv.now hb) (h0.now hb) hl)
 have HT : Hid (typedB vs x k = (decide ((givenE vs x).2 = 0) && decide ((givenE vs x).1 = k))) := rfl
 clear h0 hv h4
 generalize givenE vs x = p at *
 obtain ⟨a, z⟩ := p
 dsimp only at *
 go_enter Tryz.func81, Tryz.ntmps81
 go_wp2_with fail
 refine HC.out.mono ?_
 rintro e w1 ⟨rfl, hf, hb1⟩
 have hbw := bthen hb hb1
 by_cases hz : z = 0
 ·have b1 : (z == 0) = true := by simp [hz]
  have HR : Hid (typedB vs x k = (a == k)) := by show _ = _; rw [HT.out, decide_eq_true hz, Bool.true_and]; rfl
  clear hz
  go_wp2_with fail
  go_ret
  exact ⟨ret_bool HR.out.symm, hbw⟩
 ·have b1 : (z == 0) = false := by simpa using hz
  have HR : Hid (typedB vs x k = false) := by show _ = _; rw [HT.out, decide_eq_false hz]; rfl
  clear hz
  go_wp2_with fail
  go_ret
  exact ⟨ret_bool HR.out.symm, hbw⟩
set_option maxHeartbeats 1000000 in
theorem dtyped_ref (n : Nat) (vs : List Var) (x : Ex) (k : Int) (uv u : Value) (w : World) (hv : SlX (Lt w.heap.size) w uv vs) (h : IsEx n (Lt w.heap.size) w u x) :
  Calls Tryz.prog 77 #[uv, u, .int .i64 k] w fun e w' => e = .returned (.bool (typedB vs x k)) ∧ Below w.heap.size w w' := by
 have h0 := h
 obtain ⟨lv, rfl, h1, h2, h3, h4⟩ := h
 have hb := bone w (.cells #[.int .i64 x.op, .int .i64 x.v.kind, .int .i64 x.v.n, .string x.v.s, .string x.s, lv] 65)
 have HC := Lib.hid (typed_ref n vs x _ _ _ (hv.now hb) (h0.now hb))
 have HT : Hid (typedB vs x k = (decide ((givenE vs x).2 = 0) && decide ((givenE vs x).1 = k))) := rfl
 clear h0 hv h4
 generalize givenE vs x = p at *
 obtain ⟨a, z⟩ := p
 dsimp only at *
 go_enter Tryz.func77, Tryz.ntmps77
 go_wp2_with fail
 refine HC.out.mono ?_
 rintro e w1 ⟨rfl, hf, hb1⟩
 have hbw := bthen hb hb1
 by_cases hz : z = 0
 ·have b1 : (z == 0) = true := by simp [hz]
  have HR : Hid (typedB vs x k = (a == k)) := by show _ = _; rw [HT.out, decide_eq_true hz, Bool.true_and]; rfl
  clear hz
  go_wp2_with fail
  go_ret
  exact ⟨ret_bool HR.out.symm, hbw⟩
 ·have b1 : (z == 0) = false := by simpa using hz
  have HR : Hid (typedB vs x k = false) := by show _ = _; rw [HT.out, decide_eq_false hz]; rfl
  clear hz
  go_wp2_with fail
  go_ret
  exact ⟨ret_bool HR.out.symm, hbw⟩
theorem dassigned_any (vs : List Var) (vals : List Val) (uv vv : Value) (w : World) (hv : SlX (Lt w.heap.size) w uv vs) (hw : SlV (Lt w.heap.size) w vv vals) (hl : vs.length ≤ 1000000) :
  Calls Tryz.prog 78 #[uv, vv] w fun e w' => e = .returned (.bool (asgB vs vals)) ∧ Below w.heap.size w w' := by
 have HC := Lib.hid (inAllE_any vs vals uv vv w hv hw hl)
 have HT : Hid (asgB vs vals = (decide ((inAllE vs vals).2 = 0) && (inAllE vs vals).1)) := rfl
 generalize inAllE vs vals = p at *
 obtain ⟨b, z⟩ := p
 dsimp only at *
 clear hv hw
 go_enter Tryz.func78, Tryz.ntmps78
 go_wp2_with fail
 refine HC.out.mono ?_
 rintro e w1 ⟨rfl, hb1⟩
 by_cases hz : z = 0
 ·have b1 : (z == 0) = true := by simp [hz]
  have HR : Hid (asgB vs vals = b) := by show _ = _; rw [HT.out, decide_eq_true hz, Bool.true_and]
  clear hz
  go_wp2_with fail
  go_ret
  exact ⟨ret_bool HR.out.symm, hb1⟩
 ·have b1 : (z == 0) = false := by simpa using hz
  have HR : Hid (asgB vs vals = false) := by show _ = _; rw [HT.out, decide_eq_false hz]; rfl
  clear hz
  go_wp2_with fail
  go_ret
  exact ⟨ret_bool HR.out.symm, hb1⟩
theorem asg_ref {vs : List Var} {vals : List Val} (h : varsB vs = true) : asgB vs vals = (vals.all validV && assignedB vs vals) := by
 unfold asgB inAllE okB
 rw [h, Bool.true_and]
 cases vals.all validV <;> rfl
theorem dassign_ref (vs : List Var) (vals : List Val) (uv vv : Value) (w : World) (hv : SlX (Lt w.heap.size) w uv vs) (hw : SlV (Lt w.heap.size) w vv vals) (hl : varsB vs = true) :
  Calls Tryz.prog 76 #[uv, vv] w fun e w' => e = .returned (.bool (asgB vs vals)) ∧ Below w.heap.size w w' := by
 have HT := Lib.hid (asg_ref (vals := vals) hl)
 have HA := Lib.hid (fun (W : World) (h1 : SlX (Lt W.heap.size) W uv vs) (h2 : SlV (Lt W.heap.size) W vv vals) => inAll_ref vs vals uv vv W h1 h2 hl)
 go_enter Tryz.func76, Tryz.ntmps76
 go_wp2_with fail
 refine (validAll_ref vals vv _ hw).mono ?_
 rintro e w1 ⟨rfl, hb1⟩
 generalize vals.all validV = q at *
 cases q
 ·have HR : Hid (asgB vs vals = false) := HT.out
  go_wp2_with fail
  go_ret
  exact ⟨ret_bool HR.out.symm, hb1⟩
 ·have HR : Hid (asgB vs vals = assignedB vs vals) := HT.out
  go_wp2_with fail
  refine (HA.out _ (hv.now hb1) (hw.now hb1)).mono ?_
  rintro e w2 ⟨rfl, hb2⟩
  go_wp2_with fail
  go_ret
  exact ⟨ret_bool HR.out.symm, bthen hb1 hb2⟩
structure Mv where
 src : Nat
 dst : Nat
 sym : Nat
deriving DecidableEq
structure Sp where
 states : List St
 moves : List Mv
 full : Bool
deriving DecidableEq
def noSp : Sp := ⟨[], [], false⟩
def idxS (l : List St) (s : St) : Option Nat := l.findIdx? (fun x => decide (x = s))
def exT (n : DNet) (most i : Nat) (s : St) (t : Nat) (p : Sp) : Option Sp :=
 if (fireD n s (t : Int)).2 ≠ 0 then some ⟨p.states, p.moves, p.full && decide ((fireD n s (t : Int)).2 ≠ 5)⟩
 else match idxS p.states (fireD n s (t : Int)).1 with
  | some k => if p.moves.length < 20000 then some ⟨p.states, p.moves ++ [⟨i, k, t⟩], p.full⟩ else none
  | none => if p.states.length < most then (if p.moves.length < 20000 then some ⟨p.states ++ [(fireD n s (t : Int)).1], p.moves ++ [⟨i, p.states.length, t⟩], p.full⟩ else none)
   else some ⟨p.states, p.moves, false⟩
def exRow (n : DNet) (most i : Nat) (s : St) : Nat → Nat → Sp → Option Sp
 | 0, _, p => some p
 | f + 1, t, p => (exT n most i s t p).bind fun q => exRow n most i s f (t + 1) q
def exAll (n : DNet) (most : Nat) : Nat → Nat → Sp → Option Sp
 | 0, _, p => some p
 | f + 1, i, p => match p.states[i]? with
  | none => some p
  | some s => (exRow n most i s n.net.trans.length 0 p).bind fun q => exAll n most f (i + 1) q
def exFrom (n : DNet) (s : St) (most : Nat) : Option Sp := exAll n most (most + 1) 0 ⟨[s], [], true⟩
def dexplE (n : DNet) (s : St) (most : Int) : Sp × Int :=
 if vstateB n s = false then (noSp, 1)
 else if most < 1 ∨ 2000 < most then (noSp, 2)
 else match exFrom n s most.toNat with
  | none => (noSp, 13)
  | some p => (p, 0)
def dwholeE (n : DNet) (most : Int) : Sp × Int :=
 if dvalidB n = false then (noSp, 1)
 else if (dexplE n ⟨oneB n.net n.net.source, n.init⟩ most).2 = 0 ∧ (dexplE n ⟨oneB n.net n.net.source, n.init⟩ most).1.full = false then (noSp, 13)
 else dexplE n ⟨oneB n.net n.net.source, n.init⟩ most
def canStep (mv : List Mv) (c : List Bool) : List Bool := (List.range c.length).map fun i => (c.getD i false) || mv.any fun m => decide (m.src = i) && c.getD m.dst false
def canIter (mv : List Mv) : Nat → List Bool → List Bool
 | 0, c => c
 | k + 1, c => canIter mv k (canStep mv c)
def goodL (n : DNet) (p : Sp) : List Bool := canIter p.moves p.states.length (p.states.map fun s => finalM n s.marks)
def badS (n : DNet) (s : St) (good : Bool) : Bool := !good || (decide (0 < s.marks.getD n.net.sink.toNat 0) && !finalM n s.marks)
def badAt (n : DNet) (p : Sp) (i : Nat) : Bool := badS n (p.states.getD i noSt) ((goodL n p).getD i false)
def byM (mv : List Mv) (k : Nat) : Option Mv := mv.find? fun m => decide (m.dst = k) && decide (m.src < m.dst)
def backD (mv : List Mv) : Nat → Nat → List Nat
 | 0, _ => []
 | f + 1, k => if k = 0 then [] else match byM mv k with
  | none => [0]
  | some m => m.sym :: backD mv f m.src
def pathD (mv : List Mv) (k : Nat) : List Int := (backD mv k k).reverse.map fun (t : Nat) => (t : Int)
def firstBad (n : DNet) (p : Sp) : Option Nat := (List.range p.states.length).find? (badAt n p)
def dsoundE (n : DNet) (most : Int) : Bool × List Int × Int :=
 if (dwholeE n most).2 ≠ 0 then (false, [], (dwholeE n most).2)
 else match firstBad n (dwholeE n most).1 with
  | none => (true, [], 0)
  | some i => (false, pathD (dwholeE n most).1.moves i, 0)
def deadL (n : DNet) (mv : List Mv) : List Int := ((List.range n.net.trans.length).filter fun t => !(mv.any fun m => decide (m.sym = t))).map fun (t : Nat) => (t : Int)
def ddeadE (n : DNet) (most : Int) : List Int × Int :=
 if (dwholeE n most).2 ≠ 0 then ([], (dwholeE n most).2) else (deadL n (dwholeE n most).1.moves, 0)
def keyM (m : List Int) : List UInt8 := m.flatMap fun k => Lib.itoa k ++ [32]
def keyV (vs : List Val) : List UInt8 := vs.flatMap fun v => (textE v).1.data.toList ++ [32]
def keyS (s : St) : List UInt8 := keyM s.marks ++ keyV s.vals
theorem itoa_noblank (k : Int) : ∀ b ∈ Lib.itoa k, b ≠ 32 := by
 intro b hb e
 subst e
 unfold Lib.itoa at hb
 split at hb
 ·rcases List.mem_cons.1 hb with h | h
  ·cases h
  ·have := decDigits_digit _ _ h
   simp at this
 ·have := decDigits_digit _ _ hb
  simp at this
theorem cut_blank {a b r t : List UInt8} (ha : ∀ c ∈ a, c ≠ 32) (hb : ∀ c ∈ b, c ≠ 32) (h : a ++ 32 :: r = b ++ 32 :: t) : a = b ∧ r = t := by
 induction a generalizing b with
 | nil =>
  cases b with
  | nil => exact ⟨rfl, by simpa using h⟩
  | cons c b =>
   simp only [List.nil_append, List.cons_append, List.cons.injEq] at h
   exact absurd h.1.symm (hb c (by simp))
 | cons c a ih =>
  cases b with
  | nil =>
   simp only [List.nil_append, List.cons_append, List.cons.injEq] at h
   exact absurd h.1 (ha c (by simp))
  | cons d b =>
   simp only [List.cons_append, List.cons.injEq] at h
   obtain ⟨h1, h2⟩ := ih (fun x hx => ha x (by simp [hx])) (fun x hx => hb x (by simp [hx])) h.2
   exact ⟨by rw [h.1, h1], h2⟩
theorem keyM_cons (k : Int) (m : List Int) (r : List UInt8) : keyM (k :: m) ++ r = Lib.itoa k ++ 32 :: (keyM m ++ r) := by simp [keyM]
theorem keyM_inj : ∀ {m m' : List Int} {r r' : List UInt8}, m.length = m'.length → keyM m ++ r = keyM m' ++ r' → m = m' ∧ r = r' := by
 intro m
 induction m with
 | nil =>
  intro m' r r' hl h
  cases m' with
  | nil => exact ⟨rfl, by simpa [keyM] using h⟩
  | cons => simp at hl
 | cons k m ih =>
  intro m' r r' hl h
  cases m' with
  | nil => simp at hl
  | cons k' m' =>
   rw [keyM_cons, keyM_cons] at h
   obtain ⟨h1, h2⟩ := cut_blank (itoa_noblank k) (itoa_noblank k') h
   obtain ⟨h3, h4⟩ := ih (by simpa using hl) h2
   exact ⟨by rw [itoa_inj h1, h3], h4⟩
theorem empty_noS {s : ByteArray} (h : noS s = true) : s = emptyS := by
 unfold noS at h
 have : s.toList = [] := by simpa using h
 rw [Lib.toList_data] at this
 cases s
 unfold emptyS
 congr 1
 exact Array.toList_inj.1 this
inductive Kinds : Val → Prop where
 | no : Kinds ⟨1, 0, emptyS⟩
 | yes : Kinds ⟨1, 1, emptyS⟩
 | num (n : Int) : Kinds ⟨2, n, emptyS⟩
 | txt (s : ByteArray) : Kinds ⟨3, 0, s⟩
theorem kinds_of {v : Val} (h : validV v = true) : Kinds v := by
 obtain ⟨k, n, s⟩ := v
 by_cases k1 : k = 1
 ·subst k1
  obtain ⟨hn, hs⟩ := valid1 h rfl
  dsimp only at hn hs
  have := empty_noS hs
  subst this
  rcases hn with rfl | rfl
  ·exact .no
  ·exact .yes
 by_cases k2 : k = 2
 ·subst k2
  obtain ⟨hn, hs⟩ := valid2 h rfl
  dsimp only at hn hs
  have := empty_noS hs
  subst this
  exact .num n
 ·obtain ⟨k3, n0, ht⟩ := valid3 h k1 k2
  dsimp only at k3 n0 ht
  subst k3 n0
  exact .txt s
def heads (l : List UInt8) : Nat := match l with
 | c :: _ => if c.toNat = 34 then 2 else if c.toNat ≤ 57 then 1 else c.toNat
 | [] => 0
theorem heads_num (n : Int) (r : List UInt8) : heads (Lib.itoa n ++ r) = 1 := by
 unfold Lib.itoa
 split
 ·rfl
 ·obtain ⟨d, q, hd, h1, h2⟩ := decDigits_head n.toNat
  rw [hd]
  show (if d.toNat = 34 then 2 else if d.toNat ≤ 57 then 1 else d.toNat) = 1
  rw [if_neg (by omega), if_pos h2]
theorem text_cut {v v' : Val} (h : validV v = true) (h' : validV v' = true) {r t : List UInt8} (e : (textV v).data.toList ++ 32 :: r = (textV v').data.toList ++ 32 :: t) : v = v' ∧ r = t := by
 have hh : heads ((textV v).data.toList ++ 32 :: r) = heads ((textV v').data.toList ++ 32 :: t) := by rw [e]
 have hN : ∀ n : Int, (textV ⟨2, n, emptyS⟩).data.toList = Lib.itoa n := fun n => rfl
 have hQ : ∀ s : ByteArray, (textV ⟨3, 0, s⟩).data.toList = quoteL s.data.toList := fun n => rfl
 have h0 : (textV ⟨1, 0, emptyS⟩).data.toList = falseS.data.toList := rfl
 have h1 : (textV ⟨1, 1, emptyS⟩).data.toList = trueS.data.toList := rfl
 have b0 : ∀ c ∈ falseS.data.toList, c ≠ 32 := by decide
 have b1 : ∀ c ∈ trueS.data.toList, c ≠ 32 := by decide
 have g0 : ∀ q, heads (falseS.data.toList ++ q) = 102 := fun q => rfl
 have g1 : ∀ q, heads (trueS.data.toList ++ q) = 116 := fun q => rfl
 have g2 : ∀ s q, heads (quoteL s ++ q) = 2 := fun s q => rfl
 cases kinds_of h with
 | no =>
  cases kinds_of h' with
  | no => exact ⟨rfl, (cut_blank b0 b0 e).2⟩
  | yes => rw [h0, h1, g0, g1] at hh; cases hh
  | num n => rw [h0, hN, g0, heads_num] at hh; cases hh
  | txt s => rw [h0, hQ, g0, g2] at hh; cases hh
 | yes =>
  cases kinds_of h' with
  | no => rw [h0, h1, g0, g1] at hh; cases hh
  | yes => exact ⟨rfl, (cut_blank b1 b1 e).2⟩
  | num n => rw [h1, hN, g1, heads_num] at hh; cases hh
  | txt s => rw [h1, hQ, g1, g2] at hh; cases hh
 | num n =>
  cases kinds_of h' with
  | no => rw [h0, hN, g0, heads_num] at hh; cases hh
  | yes => rw [h1, hN, g1, heads_num] at hh; cases hh
  | num n' =>
   rw [hN, hN] at e
   obtain ⟨e1, e2⟩ := cut_blank (itoa_noblank n) (itoa_noblank n') e
   rw [itoa_inj e1]
   exact ⟨rfl, e2⟩
  | txt s => rw [hN, hQ, heads_num, g2] at hh; cases hh
 | txt s =>
  cases kinds_of h' with
  | no => rw [h0, hQ, g0, g2] at hh; cases hh
  | yes => rw [h1, hQ, g1, g2] at hh; cases hh
  | num n => rw [hN, hQ, heads_num, g2] at hh; cases hh
  | txt s' =>
   rw [hQ, hQ] at e
   unfold quoteL at e
   simp only [List.cons_append, List.append_assoc, List.nil_append, List.cons.injEq, true_and] at e
   have q1 := read_quote s.data.toList (32 :: r) []
   have q2 := read_quote s'.data.toList (32 :: t) []
   rw [e, q2] at q1
   simp only [Prod.mk.injEq, List.nil_append, List.cons.injEq, true_and] at q1
   obtain ⟨q3, q4⟩ := q1
   have : s = s' := by
    cases s; cases s'
    congr 1
    exact Array.toList_inj.1 q3.symm
   subst this
   exact ⟨rfl, q4.symm⟩
theorem keyV_cons {v : Val} (h : validV v = true) (vs : List Val) : keyV (v :: vs) = (textV v).data.toList ++ 32 :: keyV vs := by
 have : textE v = (textV v, 0) := by unfold textE; rw [h]; rfl
 unfold keyV
 rw [List.flatMap_cons, this, List.append_assoc]
 rfl
theorem keyV_inj : ∀ {m m' : List Val}, m.length = m'.length → (∀ v ∈ m, validV v = true) → (∀ v ∈ m', validV v = true) → keyV m = keyV m' → m = m' := by
 intro m
 induction m with
 | nil =>
  intro m' hl _ _ h
  cases m' with
  | nil => rfl
  | cons => simp at hl
 | cons k m ih =>
  intro m' hl a a' h
  cases m' with
  | nil => simp at hl
  | cons k' m' =>
   rw [keyV_cons (a k (by simp)), keyV_cons (a' k' (by simp))] at h
   obtain ⟨h1, h2⟩ := text_cut (a k (by simp)) (a' k' (by simp)) h
   have h3 := ih (by simpa using hl) (fun v hv => a v (by simp [hv])) (fun v hv => a' v (by simp [hv])) h2
   rw [h1, h3]
theorem keyS_inj {s s' : St} (hm : s.marks.length = s'.marks.length) (hv : s.vals.length = s'.vals.length) (a : ∀ v ∈ s.vals, validV v = true) (a' : ∀ v ∈ s'.vals, validV v = true) (h : keyS s = keyS s') : s = s' := by
 obtain ⟨h1, h2⟩ := keyM_inj hm h
 have h3 := keyV_inj hv a a' h2
 cases s; cases s'
 simp only at h1 h3
 rw [h1, h3]
theorem typed_given {vs : List Var} {x : Ex} {k : Int} (h : typedB vs x k = true) : validX x = true ∧ varsB vs = true ∧ (typX vs x).2 = 0 ∧ (typX vs x).1 = k := by
 unfold typedB givenE at h
 rw [Bool.and_eq_true, decide_eq_true_eq, decide_eq_true_eq] at h
 by_cases hc : (validX x && varsB vs) = true
 ·rw [if_pos hc] at h
  rw [Bool.and_eq_true] at hc
  exact ⟨hc.1, hc.2, h.1, h.2⟩
 ·rw [if_neg hc] at h
  exact absurd h.1 (by decide)
theorem asg_parts {vs : List Var} {vals : List Val} (h : asgB vs vals = true) : varsB vs = true ∧ (∀ v ∈ vals, validV v = true) ∧ vals.length = vs.length ∧ PlacedTo vs vals vs.length := by
 unfold asgB inAllE at h
 by_cases ho : okB vs vals = true
 ·rw [if_pos ho] at h
  obtain ⟨h1, h2⟩ := ok_vars ho
  obtain ⟨h3, h4⟩ := assigned_at (l := vs) (vs := vals) (by simpa using h)
  exact ⟨h1, h2, h3, h4⟩
 ·rw [if_neg ho] at h; simp at h
theorem asg_mk {vs : List Var} {vals : List Val} (h1 : varsB vs = true) (h2 : ∀ v ∈ vals, validV v = true) (h3 : vals.length = vs.length) (h4 : PlacedTo vs vals vs.length) : asgB vs vals = true := by
 have ho : okB vs vals = true := by unfold okB; rw [h1, Bool.true_and, List.all_eq_true]; exact h2
 unfold asgB inAllE
 rw [if_pos ho, assigned_yes h3 h4]; rfl
theorem asg_typed {vs : List Var} {vals : List Val} (h : asgB vs vals = true) : Asg vs vals := by
 unfold asgB at h
 rw [Bool.and_eq_true, decide_eq_true_eq] at h
 exact asg_of h
theorem wrsV_ok {vs : List Var} {vals : List Val} (hA : Asg vs vals) : ∀ (l : List Wr) (a : Int) (cur out : List Val), -1 ≤ a → wrsB vs a l = true → cur.length = vs.length → (∀ v ∈ cur, validV v = true) → PlacedTo vs cur vs.length →
  wrsV vs vals l cur = some out → out.length = vs.length ∧ (∀ v ∈ out, validV v = true) ∧ PlacedTo vs out vs.length := by
 intro l
 induction l with
 | nil =>
  intro a cur out _ _ h1 h2 h3 h
  injection h with h
  subst h
  exact ⟨h1, h2, h3⟩
 | cons y l ih =>
  intro a cur out ha hw h1 h2 h3 h
  rw [wrsB] at hw
  simp only [Bool.and_eq_true, decide_eq_true_eq] at hw
  obtain ⟨⟨⟨w1, w2⟩, w3⟩, w4⟩ := hw
  obtain ⟨g1, g2, g3, _⟩ := typed_given w3
  rw [wrsV] at h
  cases he : evX vs vals y.x with
  | none => rw [he] at h; cases h
  | some b =>
   rw [he] at h
   dsimp only at h
   split at h
   ·rename_i hp
    obtain ⟨k, hk⟩ := Int.eq_ofNat_of_zero_le (show 0 ≤ y.var by omega)
    have hkl : k < vs.length := by omega
    have hb := (ev_typed hA y.x (valid_ok g1) g3 b he).2
    have hpl : placeW vs y.var b = placeV vs[k] b := by
     unfold placeW; rw [hk, Int.toNat_natCast, List.getElem?_eq_getElem hkl]
    rw [hpl] at hp
    refine ih y.var _ out (by omega) w4 (by simpa using h1) ?_ ?_ h
    ·intro v hv
     rcases List.mem_or_eq_of_mem_set hv with h' | h'
     ·exact h2 v h'
     ·rw [h']; exact hb
    ·intro j x v hj hx hv
     rw [hk, Int.toNat_natCast, List.getElem?_set] at hv
     split at hv
     ·rename_i hkj
      subst hkj
      rw [if_pos (by omega)] at hv
      injection hv with hv
      rw [List.getElem?_eq_getElem hkl] at hx
      injection hx with hx
      rw [← hx, ← hv]; exact hp
     ·exact h3 j x v hj hx hv
   ·cases h
theorem writes_at {n : DNet} (h : n.writes.all (wrsB n.vars (-1)) = true) (t : Nat) : wrsB n.vars (-1) ((n.writes[t]?).getD []) = true := by
 cases hw : n.writes[t]? with
 | none => rfl
 | some l =>
  rw [List.all_eq_true] at h
  exact h l (List.mem_of_getElem? hw)
theorem state_parts {n : DNet} {s : St} (h : stateB n s = true) : validB n.net = true ∧ markingB n.net.places s.marks = true ∧ asgB n.vars s.vals = true := by
 unfold stateB at h
 simp only [Bool.and_eq_true] at h
 exact ⟨h.1.1, h.1.2, h.2⟩
theorem state_mk {n : DNet} {s : St} (h1 : validB n.net = true) (h2 : markingB n.net.places s.marks = true) (h3 : asgB n.vars s.vals = true) : stateB n s = true := by
 unfold stateB; rw [h1, h2, h3]; rfl
theorem fire_parts {n : DNet} {s : St} {t : Int} (h : (fireD n s t).2 = 0) : 0 ≤ t ∧ t < n.net.trans.length ∧ (fireB n.net s.marks t).2 = 0 ∧ guardB n.vars s.vals ((n.guards[t.toNat]?).getD (.mk 0 noV emptyS [])) = true ∧
  ∃ vs, wrsV n.vars s.vals ((n.writes[t.toNat]?).getD []) s.vals = some vs ∧ fireD n s t = (⟨(fireB n.net s.marks t).1, vs⟩, 0) := by
 unfold fireD at h ⊢
 by_cases h1 : t < 0 ∨ (n.net.trans.length : Int) ≤ t
 ·rw [if_pos h1] at h; cases h
 rw [if_neg h1] at h ⊢
 by_cases h2 : (fireB n.net s.marks t).2 = 12
 ·rw [if_pos h2] at h; cases h
 rw [if_neg h2] at h ⊢
 by_cases h3 : guardB n.vars s.vals ((n.guards[t.toNat]?).getD (.mk 0 noV emptyS [])) = false
 ·rw [if_pos h3] at h; cases h
 rw [if_neg h3] at h ⊢
 cases hw : wrsV n.vars s.vals ((n.writes[t.toNat]?).getD []) s.vals with
 | none => rw [hw] at h; cases h
 | some vs =>
  rw [hw] at h
  dsimp only at h ⊢
  by_cases h4 : (fireB n.net s.marks t).2 ≠ 0
  ·rw [if_pos h4] at h; exact absurd h h4
  rw [if_neg h4]
  exact ⟨by omega, by omega, by omega, by simpa using h3, vs, rfl, rfl⟩
theorem fire_state {n : DNet} {s : St} {t : Int} (hv : dvalidB n = true) (hs : stateB n s = true) (h : (fireD n s t).2 = 0) : stateB n (fireD n s t).1 = true := by
 obtain ⟨s1, s2, s3⟩ := state_parts hs
 obtain ⟨_, _, f3, _, vs, hw, e⟩ := fire_parts h
 rw [e]
 have hwr : n.writes.all (wrsB n.vars (-1)) = true := by
  unfold dvalidB at hv
  simp only [Bool.and_eq_true] at hv
  exact hv.2
 obtain ⟨a1, a2, a3, a4⟩ := asg_parts s3
 obtain ⟨o1, o2, o3⟩ := wrsV_ok (asg_typed s3) _ (-1) s.vals vs (by omega) (writes_at hwr t.toNat) a3 a2 a4 hw
 exact state_mk s1 (fire_mark s1 s2 f3) (asg_mk a1 o2 o1 o3)
theorem key_state {n : DNet} {s s' : St} (h : stateB n s = true) (h' : stateB n s' = true) (hk : keyS s = keyS s') : s = s' := by
 obtain ⟨_, m, a⟩ := state_parts h
 obtain ⟨_, m', a'⟩ := state_parts h'
 obtain ⟨_, a2, a3, _⟩ := asg_parts a
 obtain ⟨_, b2, b3, _⟩ := asg_parts a'
 refine keyS_inj ?_ (by omega) a2 b2 hk
 have e := (markOk (n := n.net) m).1
 have e' := (markOk (n := n.net) m').1
 omega
end Go.Proofs.YtlmenhjlgmejkaaGreatDoor
namespace Go.Proofs.YtlmenhjlgmejkaaGreatDoor
open Go.RowKit Go.Maps Go.WideMaps
def posB (l : List (List UInt8)) (s : List UInt8) : Option Nat := l.findIdx? (fun x => decide (x = s))
theorem posB_snoc_same {l : List (List UInt8)} {s : List UInt8} (h : posB l s = none) : posB (l ++ [s]) s = some l.length := by
 unfold posB at h ⊢
 rw [List.findIdx?_append, h]
 simp
theorem posB_snoc_other {l : List (List UInt8)} {s t : List UInt8} (h : t ≠ s) : posB (l ++ [s]) t = posB l t := by
 unfold posB
 rw [List.findIdx?_append]
 have : List.findIdx? (fun x => decide (x = t)) [s] = none := by simp; exact fun e => h e.symm
 rw [this]
 cases List.findIdx? (fun x => decide (x = t)) l <;> rfl
theorem wf_nat {k : Nat} (hk : k < 10000000) : (Lit.int .i64 (k : Int)).wf = true := by
 unfold Lit.wf
 rw [Bool.and_eq_true, decide_eq_true_eq, decide_eq_true_eq]
 have h1 : IntKind.i64.min = -9223372036854775808 := by decide
 have h2 : IntKind.i64.max = 9223372036854775807 := by decide
 omega
section
variable {P : Program} {t k e : TypeId}
def PosP (P : Program) (k e : TypeId) (w : World) (b n : Nat) (l : List (List UInt8)) : Prop :=
 ∃ D : DataW Unit, w.ownsMap P k (plainElem P e) b n D ∧ IsMap D ∧ (∀ s : List UInt8, has D (.string s) = (posB l s).isSome) ∧ ∀ (s : List UInt8) (i : Nat), posB l s = some i → D.atKey (.string s) (.lit (.int .i64 0)) = .lit (.int .i64 i)
theorem PosP.made (w : World) : PosP P k e (w.alloc (.map #[] 0)) w.heap.size 0 [] :=
 ⟨.map [], World.ownsMap_made w _ _ _, isMap_empty, fun s => rfl, fun s i h => by cases h⟩
theorem PosP.now {w w' : World} {b n : Nat} {l : List (List UInt8)} (h : PosP P k e w b n l) (hb : Below w.heap.size w w') : PosP P k e w' b n l := by
 obtain ⟨D, h1, h2, h3⟩ := h
 exact ⟨D, h1.kept (grown_of_below hb none) (by simp), h2, h3⟩
theorem PosP.grown {w w' : World} {b n : Nat} {l : List (List UInt8)} {row : Option Nat} (h : PosP P k e w b n l) (hb : w.grownBy w' row) (hne : some b ≠ row) : PosP P k e w' b n l := by
 obtain ⟨D, h1, h2, h3⟩ := h
 exact ⟨D, h1.kept hb hne, h2, h3⟩
theorem PosP.lt {w : World} {b n : Nat} {l : List (List UInt8)} (h : PosP P k e w b n l) : b < w.heap.size := by
 obtain ⟨D, h1, _⟩ := h
 exact h1.lt
theorem PosP.look {w : World} {b n : Nat} {l : List (List UInt8)} (h : PosP P k e w b n l) (ht : P.underlying t = some (.map k e)) (hk : P.underlying k = some .string) (he : P.underlying e = some (.int .i64)) (hz : (zeroValue e).run P w = .ok (.int .i64 0) w) {s : ByteArray} (hs : s.size ≤ maxLen) :
  ∃ c : Int, (Instr.lookup t (.map (some b)) (.string s) true).run P w = .ok (.tuple #[.int .i64 c, .bool (posB l s.data.toList).isSome]) w ∧ ∀ i, posB l s.data.toList = some i → c = i := by
 obtain ⟨D, h1, h2, h3, h4⟩ := h
 obtain ⟨v, ps, hrun, hv⟩ := h1.look_ok (string_keyed hk) ht hz (plainElem_int he (by decide)) (keyOf_string_mk hk hs)
 obtain ⟨c, rfl, hc, _⟩ := plainElem_int_inv he hv
 rw [h3] at hrun
 refine ⟨c, hrun, fun i hi => ?_⟩
 have h5 := h4 _ i hi
 rw [h5] at hc
 simp only [Prod.mk.injEq, DataW.lit.injEq, Lit.int.injEq] at hc
 exact hc.1.2.symm
theorem PosP.put {w : World} {b n : Nat} {l : List (List UInt8)} (h : PosP P k e w b n l) (ht : P.underlying t = some (.map k e)) (hk : P.underlying k = some .string) (he : P.underlying e = some (.int .i64)) {s : ByteArray} (hs : s.size ≤ maxLen) (hn : n < maxLen) (hl : l.length < 10000000) (hp : posB l s.data.toList = none) :
  ∃ w', (Instr.mapUpdate t (.map (some b)) (.string s) (.int .i64 l.length)).run P w = .ok () w' ∧ PosP P k e w' b (n + 1) (l ++ [s.data.toList]) ∧ w.grownBy w' (some b) := by
 obtain ⟨D, h1, h2, h3, h4⟩ := h
 obtain ⟨w', r0, r1, r2⟩ := h1.update (string_keyed hk) ht hn (keyOf_string_mk hk hs) (plainElem_int he (wf_nat hl))
 refine ⟨w', r0, ⟨_, r1, h2.put _ _, fun t => ?_, fun t i hi => ?_⟩, r2⟩
 ·by_cases e : t = s.data.toList
  ·subst e
   rw [has_put_same h2 (by simp [WideAt.IsKeyLit]), posB_snoc_same hp]; rfl
  ·rw [has_put_other (by simpa using e), h3, posB_snoc_other e]
 ·by_cases e : t = s.data.toList
  ·subst e
   rw [posB_snoc_same hp] at hi
   injection hi with hi
   subst hi
   rw [atKey_put_same h2 (by simp [WideAt.IsKeyLit])]
  ·rw [posB_snoc_other e] at hi
   rw [atKey_put_other (by simpa using e)]
   exact h4 t i hi
def mvV (m : Mv) : Value := .agg #[.int .i64 (m.src : Int), .int .i64 (m.dst : Int), .int .i64 (m.sym : Int)]
def mvList (l : List Value) : Option (DataW Unit × List MemPlace) := match l with
 | [.int .i64 a, .int .i64 b, .int .i64 c] => some (.agg [.lit (.int .i64 a), .lit (.int .i64 b), .lit (.int .i64 c)], [])
 | _ => none
def mvElem (v : Value) : Option (DataW Unit × List MemPlace) := match v with
 | .agg cs => mvList cs.toList
 | _ => none
theorem mvElem_inv {v : Value} {a b c : Int} {ps : List MemPlace} (h : mvElem v = some (.agg [.lit (.int .i64 a), .lit (.int .i64 b), .lit (.int .i64 c)], ps)) : v = .agg #[.int .i64 a, .int .i64 b, .int .i64 c] := by
 unfold mvElem at h
 split at h
 ·rename_i cs
  unfold mvList at h
  split at h
  ·rename_i a' b' c' e
   simp only [Option.some.injEq, Prod.mk.injEq, DataW.agg.injEq, List.cons.injEq, DataW.lit.injEq, Lit.int.injEq, true_and, and_true] at h
   obtain ⟨⟨rfl, rfl, rfl⟩, _⟩ := h
   congr 1
   exact Array.toList_inj.1 e
  ·cases h
 ·cases h
def mvD (m : Option Mv) : DataW Unit := match m with
 | some m => .agg [.lit (.int .i64 (m.src : Int)), .lit (.int .i64 (m.dst : Int)), .lit (.int .i64 (m.sym : Int))]
 | none => .agg [.lit (.int .i64 0), .lit (.int .i64 0), .lit (.int .i64 0)]
def ByP (P : Program) (k : TypeId) (w : World) (b n : Nat) (f : Nat → Option Mv) : Prop :=
 ∃ D : DataW Unit, w.ownsMap P k mvElem b n D ∧ IsMap D ∧ (∀ i : Nat, has D (.int .i64 (i : Int)) = (f i).isSome) ∧ ∀ (i : Nat), D.atKey (.int .i64 (i : Int)) (mvD none) = mvD (f i)
theorem ByP.made (w : World) : ByP P k (w.alloc (.map #[] 0)) w.heap.size 0 fun _ => none :=
 ⟨.map [], World.ownsMap_made w _ _ _, isMap_empty, fun s => rfl, fun s => rfl⟩
theorem ByP.now {w w' : World} {b n : Nat} {f : Nat → Option Mv} (h : ByP P k w b n f) (hb : Below w.heap.size w w') : ByP P k w' b n f := by
 obtain ⟨D, h1, h2, h3⟩ := h
 exact ⟨D, h1.kept (grown_of_below hb none) (by simp), h2, h3⟩
theorem ByP.grown {w w' : World} {b n : Nat} {f : Nat → Option Mv} {row : Option Nat} (h : ByP P k w b n f) (hb : w.grownBy w' row) (hne : some b ≠ row) : ByP P k w' b n f := by
 obtain ⟨D, h1, h2, h3⟩ := h
 exact ⟨D, h1.kept hb hne, h2, h3⟩
theorem ByP.lt {w : World} {b n : Nat} {f : Nat → Option Mv} (h : ByP P k w b n f) : b < w.heap.size := by
 obtain ⟨D, h1, _⟩ := h
 exact h1.lt
theorem ByP.val {w : World} {D : DataW Unit} {v : Value} {ps : List MemPlace} {f : Option Mv} (hv : mvElem v = some (mvD f, ps)) : v = mvV (f.getD ⟨0, 0, 0⟩) := by
 cases f with
 | none => exact mvElem_inv hv
 | some m => exact mvElem_inv hv
theorem ByP.look {w : World} {b n : Nat} {f : Nat → Option Mv} (h : ByP P k w b n f) (ht : P.underlying t = some (.map k e)) (hk : P.underlying k = some (.int .i64)) (hz : (zeroValue e).run P w = .ok (.agg #[.int .i64 0, .int .i64 0, .int .i64 0]) w) {i : Nat} (hi : i < 10000000) :
  (Instr.lookup t (.map (some b)) (.int .i64 (i : Int)) false).run P w = .ok (mvV ((f i).getD ⟨0, 0, 0⟩)) w := by
 obtain ⟨D, h1, h2, h3, h4⟩ := h
 obtain ⟨v, ps, hrun, hv⟩ := h1.lookup (int_keyed hk) ht hz (zd := mvD none) (zp := []) rfl (keyOf_int_mk hk (wf_nat hi))
 rw [h4] at hv
 rw [← ByP.val (w := w) (D := D) hv]
 exact hrun
theorem ByP.look_ok {w : World} {b n : Nat} {f : Nat → Option Mv} (h : ByP P k w b n f) (ht : P.underlying t = some (.map k e)) (hk : P.underlying k = some (.int .i64)) (hz : (zeroValue e).run P w = .ok (.agg #[.int .i64 0, .int .i64 0, .int .i64 0]) w) {i : Nat} (hi : i < 10000000) :
  (Instr.lookup t (.map (some b)) (.int .i64 (i : Int)) true).run P w = .ok (.tuple #[mvV ((f i).getD ⟨0, 0, 0⟩), .bool (f i).isSome]) w := by
 obtain ⟨D, h1, h2, h3, h4⟩ := h
 obtain ⟨v, ps, hrun, hv⟩ := h1.look_ok (int_keyed hk) ht hz (zd := mvD none) (zp := []) rfl (keyOf_int_mk hk (wf_nat hi))
 rw [h4] at hv
 rw [← ByP.val (w := w) (D := D) hv, ← h3]
 exact hrun
theorem ByP.put {w : World} {b n : Nat} {f : Nat → Option Mv} (h : ByP P k w b n f) (ht : P.underlying t = some (.map k e)) (hk : P.underlying k = some (.int .i64)) {i : Nat} (hi : i < 10000000) (hn : n < maxLen) (m : Mv) :
  ∃ w', (Instr.mapUpdate t (.map (some b)) (.int .i64 (i : Int)) (mvV m)).run P w = .ok () w' ∧ ByP P k w' b (n + 1) (fun j => if j = i then some m else f j) ∧ w.grownBy w' (some b) := by
 obtain ⟨D, h1, h2, h3, h4⟩ := h
 obtain ⟨w', r0, r1, r2⟩ := h1.update (int_keyed hk) ht hn (keyOf_int_mk hk (wf_nat hi)) (val := mvV m) (d := mvD (some m)) (ps := []) rfl
 refine ⟨w', r0, ⟨_, r1, h2.put _ _, fun j => ?_, fun j => ?_⟩, r2⟩
 ·by_cases e : j = i
  ·subst e
   rw [has_put_same h2 (by simp [WideAt.IsKeyLit])]; dsimp only; rw [if_pos rfl]; rfl
  ·rw [has_put_other (by simpa using (by omega : ¬ (j : Int) = i)), h3]; dsimp only; rw [if_neg e]
 ·by_cases e : j = i
  ·subst e
   rw [atKey_put_same h2 (by simp [WideAt.IsKeyLit])]; dsimp only; rw [if_pos rfl]
  ·rw [atKey_put_other (by simpa using (by omega : ¬ (j : Int) = i)), h4]; dsimp only; rw [if_neg e]
end
end Go.Proofs.YtlmenhjlgmejkaaGreatDoor
