/- Texts of this seat, merged. -/
import Derived.Test.YtlmenhjlgmejkaaGreatDoorIn15
import Derived.Test.YtlmenhjlgmejkaaGreatDoorIn14
import Derived.Test.YtlmenhjlgmejkaaGreatDoorIn13
import Derived.Test.YtlmenhjlgmejkaaGreatDoorIn12
import Derived.BigQuiet
import Derived.Test.YtlmenhjlgmejkaaGreatDoorIn11
import Derived.Test.YtlmenhjlgmejkaaGreatDoorIn10
import Derived.Test.YtlmenhjlgmejkaaGreatDoorIn06
import Derived.Test.YtlmenhjlgmejkaaGreatDoorIn05
import Derived.Test.YtlmenhjlgmejkaaGreatDoorIn02
import Derived.WalkKit
import Derived.WalkSpells
import Derived.WalkLawsBesides
import Derived.Lib.Hide
import Derived.Deep.Draws
import Derived.Deep.OwnRows
import Derived.Test.YtlmenhjlgmejkaaGreatDoorIn01
import Derived.Test.YtlmenhjlgmejkaaGreatDoorProg
import Derived.Outline
import Derived.Deep.Light
import Derived.Lib.SlicesCompact
import Derived.Deep.RegionWith
import Derived.Test.YtlmenhjlgmejkaaGreatDoorIn04
import Derived.Deep.QuietTactic
import Derived.Deep.RegionHeld3
import Derived.Test.YtlmenhjlgmejkaaGreatDoorIn03
import Derived.Shelf.Abstract
import Derived.Laws.IdiomStrings
import Derived.Maps.AppendAt
import Derived.Deep.AppendLies
import Derived.RegionTactic
import Derived.OwnWalk
import Derived.Sort.OwnSorted
import Derived.Lib.Bytes
import Derived.Shelf.Strings.Builder1
import Derived.Shelf.Small.Bits
import Derived.Shelf.Small.Wraps
import Derived.Shelf.Strings.BuilderF
import Derived.Shelf.Strings.BuilderK
import Derived.Shelf.Strconv.Itoa0
import Derived.Shelf.Strconv.Itoa1
import Derived.Shelf.LaysM
import Derived.Shelf.Strconv.Itoa2
import Derived.Shelf.Strconv.Itoa3
import Derived.Shelf.Sort.Plain
import Derived.Shelf.Strings.BuilderCap
import Derived.Shelf.Slices.Turned
import Derived.Shelf.Slices.Reverse
import Derived.Shelf.Slices.Equal
import Derived.Ground.Names2Prog
import Derived.Shelf.Slices.Clone
import Derived.Shelf.Slices.CompactS
import Derived.Shelf.Slices.Cells
import Derived.Shelf.Slices.In.SortNone
import Derived.Shelf.Slices.Empties2
import Derived.Maps.OwnOps
import Derived.Maps.OwnSet
import Derived.Maps.Views
import Derived.StringKeys
import Derived.Lib.Builder
import Derived.Lib.AppendStr
import Derived.Lib.UnsafeStr
import Derived.Lib.FrozenHead2
import Derived.Lib.OthersKept
import Derived.Laws.Externs
import Derived.Test.YtlmenhjlgmejkaaGreatDoorIn09
import Derived.Lib.Slices
import Derived.Test.YtlmenhjlgmejkaaGreatDoorIn08
import Derived.Test.YtlmenhjlgmejkaaGreatDoorIn07
import Derived.Laws.MakeOwn
import Derived.Laws.Entries
import Derived.Test.YtlmenhjlgmejkaaGreatDoorIn16
import Derived.Test.YtlmenhjlgmejkaaGreatDoorIn18
import Derived.Lib.ItoaNum
import Derived.Lib.ItoaMem
import Derived.Lib.AtoiTie
import Derived.IntWalk
import Derived.Test.YtlmenhjlgmejkaaGreatDoorIn28
import Derived.Laws.StructEq
import Derived.Deep.DeepCutAuto
import Derived.Test.YtlmenhjlgmejkaaGreatDoorIn23
import Derived.Test.YtlmenhjlgmejkaaGreatDoorIn22
import Derived.Test.YtlmenhjlgmejkaaGreatDoorIn21
import Derived.Test.YtlmenhjlgmejkaaGreatDoorIn20
import Derived.Test.YtlmenhjlgmejkaaGreatDoorIn19
import Derived.Test.YtlmenhjlgmejkaaGreatDoorIn17
import Derived.StillTailTactics
import Derived.Deep.RegionHeld
import Derived.Orders
import Derived.Deep.Quiet
import Derived.StillTail
import Derived.Maps.Keyed
import Derived.Test.YtlmenhjlgmejkaaGreatDoorGu01
import Derived.Test.YtlmenhjlgmejkaaGreatDoorGu02
import Derived.Test.YtlmenhjlgmejkaaGreatDoorGu03
import Derived.Test.YtlmenhjlgmejkaaGreatDoorGu04
import Derived.Test.YtlmenhjlgmejkaaGreatDoorGu05
import Derived.Test.YtlmenhjlgmejkaaGreatDoorGu06
import Derived.Test.YtlmenhjlgmejkaaGreatDoorGu07
import Derived.Test.YtlmenhjlgmejkaaGreatDoorGu08
import Derived.Test.YtlmenhjlgmejkaaGreatDoorGu09
set_option linter.unusedSimpArgs false
set_option linter.unusedVariables false
namespace Go.Proofs.YtlmenhjlgmejkaaGreatDoor
open Go.RowKit
theorem all_drop {l : List Ex} (h : ∀ j y, 1 ≤ j → l[j]? = some y → y.op = 1) : ((l.drop 1).all fun y => decide (y.op = 1)) = true := by
  rw [List.all_eq_true]
  intro y hy
  obtain ⟨j, hj, rfl⟩ := List.mem_iff_getElem.1 hy
  have := h (1 + j) _ (by omega) (by rw [← List.getElem?_drop]; exact List.getElem?_eq_getElem hj)
  simpa using this
theorem all_drop_not {l : List Ex} {j : Nat} {y : Ex} (hj : 1 ≤ j) (hy : l[j]? = some y) (h : y.op ≠ 1) : ((l.drop 1).all fun y => decide (y.op = 1)) = false := by
  rw [List.all_eq_false]
  refine ⟨y, ?_, by simpa using h⟩
  have : (l.drop 1)[j - 1]? = some y := by rw [List.getElem?_drop]; rw [show 1 + (j - 1) = j by omega]; exact hy
  exact List.mem_of_getElem? this
set_option maxHeartbeats 8000000 in
set_option maxRecDepth 100000 in
theorem shape_ref (n : Nat) (x : Ex) (u : Value) (w : World) (h : IsEx n (Lt w.heap.size) w u x) :
    Calls Tryz.prog 181 #[u] w fun e w' => e = .returned (.bool (shapeX x)) ∧ Below w.heap.size w w' := by
  obtain ⟨lv, rfl, h1, h2, h3, h4⟩ := h
  obtain ⟨A, c, rfl, l1, l2, h4⟩ := h4.open_
  obtain ⟨o, v, s, l⟩ := x
  simp only [Ex.op, Ex.v, Ex.s, Ex.l] at *
  have HE : Hid (shapeX (.mk o v s l) = if o = 1 then decide (l.length = 0) && noS s && validV v
    else if o = 2 then decide (l.length = 0) && zeroV v && isNameB s && !keyB s
    else zeroV v && noS s &&
      (if o = 3 then decide (l.length = 1)
       else if 4 ≤ o ∧ o ≤ 11 then decide (l.length = 2)
       else if o = 12 then decide (l.length = 3)
       else if o = 13 then decide (2 ≤ l.length) && (l.drop 1).all fun y => decide (y.op = 1)
       else false)) := rfl
  generalize shapeX (.mk o v s l) = R at *
  have hne : ∀ W, (binOp .eql 63 (.agg #[.int .i64 v.kind, .int .i64 v.n, .string v.s]) (.agg #[.int .i64 0, .int .i64 0, .string ⟨#[]⟩])).run Tryz.prog W = .ok (.bool (zeroV v)) W := fun W => run_eqV W v noV
  have hb := bone w (.cells #[.int .i64 o, .int .i64 v.kind, .int .i64 v.n, .string v.s, .string s, .slice A l.length c] 65)
  have hB := Blk.new w 65 #[.int .i64 o, .int .i64 v.kind, .int .i64 v.n, .string v.s, .string s, .slice A l.length c]
  have hL1 := h4.now hb
  have HL := Lib.hid hL1
  clear h4 hL1
  generalize hw1 : w.alloc (.cells #[.int .i64 o, .int .i64 v.kind, .int .i64 v.n, .string v.s, .string s, .slice A l.length c] 65) = w1 at *
  obtain ⟨q0, q1, q2, q3, q4, q5⟩ := hB.c6
  have HS : Hid (noS s = s.toList.isEmpty) := rfl
  generalize hz : zeroV v = zv at *
  generalize hs : s.toList.isEmpty = sz at *
  have HLEN : Hid (∀ k : Nat, ((l.length : Int) == (k : Int)) = decide (l.length = k)) := fun k => by rw [Bool.eq_iff_iff]; simp only [beq_iff_eq, decide_eq_true_eq]; omega
  by_cases c1 : o = 1
  · subst c1
    generalize hq : decide (l.length = 0) = q at *
    have b0 : ((l.length : Int) == 0) = q := (HLEN.out 0).trans hq
    have HR : Hid (R = (q && sz && validV v)) := by show _ = _; rw [HE.out, if_pos rfl, HS.out]
    clear hq
    cases q
    · have HR : Hid (R = false) := HR.out
      go_enter Tryz.func181, Tryz.ntmps181
      go_wp2_with fail
      go_ret
      exact ⟨ret_bool HR.out.symm, hb⟩

    cases sz
    · have HR : Hid (R = false) := HR.out
      go_enter Tryz.func181, Tryz.ntmps181
      go_wp2_with fail
      go_ret
      exact ⟨ret_bool HR.out.symm, hb⟩

    · have hcall := validV_ref v w1 h2
      unfold valV at hcall
      have HC := Lib.hid hcall
      clear hcall
      go_enter Tryz.func181, Tryz.ntmps181
      go_wp2_with fail
      refine HC.out.mono ?_
      rintro e w2 ⟨rfl, hb2⟩
      generalize validV v = vv at *
      go_wp2_with fail
      go_ret
      exact ⟨ret_bool (by rw [HR.out]; rfl), bthen hb hb2⟩
  by_cases c2 : o = 2
  · subst c2
    clear c1
    generalize hq : decide (l.length = 0) = q at *
    have b0 : ((l.length : Int) == 0) = q := (HLEN.out 0).trans hq
    have HR : Hid (R = (q && zv && isNameB s && !keyB s)) := by show _ = _; rw [HE.out, if_neg (by decide), if_pos rfl]
    clear hq
    cases q
    · have HR : Hid (R = false) := HR.out
      go_enter Tryz.func181, Tryz.ntmps181
      go_wp2_with fail
      go_ret
      exact ⟨ret_bool HR.out.symm, hb⟩

    cases zv
    · have HR : Hid (R = false) := HR.out
      go_enter Tryz.func181, Tryz.ntmps181
      go_wp2_with fail
      go_ret
      exact ⟨ret_bool HR.out.symm, hb⟩

    · have HC := Lib.hid (fun W => isName_ref s W h3)
      have HK := Lib.hid (fun W => key_ref s W)
      generalize isNameB s = nm at *
      generalize keyB s = ky at *
      go_enter Tryz.func181, Tryz.ntmps181
      go_wp2_with fail
      refine (HC.out _).mono ?_
      rintro e w2 ⟨rfl, rfl⟩
      cases nm
      · have HR : Hid (R = false) := HR.out
        go_wp2_with fail
        go_ret
        exact ⟨ret_bool HR.out.symm, hb⟩
      · go_wp2_with fail
        refine (HK.out _).mono ?_
        rintro e w2 ⟨rfl, hb2⟩
        go_wp2_with fail
        go_ret
        exact ⟨ret_bool (by rw [HR.out]; rfl), bthen hb hb2⟩
  have HE2 : Hid (R = (zv && sz && (if o = 3 then decide (l.length = 1)
       else if 4 ≤ o ∧ o ≤ 11 then decide (l.length = 2)
       else if o = 12 then decide (l.length = 3)
       else if o = 13 then decide (2 ≤ l.length) && (l.drop 1).all fun y => decide (y.op = 1)
       else false))) := by show _ = _; rw [HE.out, if_neg c1, if_neg c2, HS.out]
  clear HE HS
  by_cases c3 : o = 3
  · subst c3
    clear c1 c2
    generalize hq : decide (l.length = 1) = q at *
    have b0 : ((l.length : Int) == 1) = q := (HLEN.out 1).trans hq
    have HR : Hid (R = (zv && sz && q)) := by show _ = _; rw [HE2.out]; rw [if_pos rfl]
    clear hq HE2
    cases q
    · have HR : Hid (R = false) := by show _ = _; rw [HR.out, Bool.and_false]
      go_enter Tryz.func181, Tryz.ntmps181
      go_wp2_with fail
      go_ret
      exact ⟨ret_bool HR.out.symm, hb⟩

    cases zv
    · have HR : Hid (R = false) := HR.out
      go_enter Tryz.func181, Tryz.ntmps181
      go_wp2_with fail
      go_ret
      exact ⟨ret_bool HR.out.symm, hb⟩

    have HR : Hid (R = sz) := by show _ = _; rw [HR.out, Bool.and_true]; rfl
    go_enter Tryz.func181, Tryz.ntmps181
    go_wp2_with fail
    go_ret
    exact ⟨ret_bool HR.out.symm, hb⟩

  by_cases c4 : o = 4
  · subst c4
    clear c1 c2
    generalize hq : decide (l.length = 2) = q at *
    have b0 : ((l.length : Int) == 2) = q := (HLEN.out 2).trans hq
    have HR : Hid (R = (zv && sz && q)) := by show _ = _; rw [HE2.out]; rw [if_neg (by decide), if_pos (by decide)]
    clear hq HE2
    cases q
    · have HR : Hid (R = false) := by show _ = _; rw [HR.out, Bool.and_false]
      go_enter Tryz.func181, Tryz.ntmps181
      go_wp2_with fail
      go_ret
      exact ⟨ret_bool HR.out.symm, hb⟩

    cases zv
    · have HR : Hid (R = false) := HR.out
      go_enter Tryz.func181, Tryz.ntmps181
      go_wp2_with fail
      go_ret
      exact ⟨ret_bool HR.out.symm, hb⟩

    have HR : Hid (R = sz) := by show _ = _; rw [HR.out, Bool.and_true]; rfl
    go_enter Tryz.func181, Tryz.ntmps181
    go_wp2_with fail
    go_ret
    exact ⟨ret_bool HR.out.symm, hb⟩

  by_cases c5 : o = 5
  · subst c5
    clear c1 c2
    generalize hq : decide (l.length = 2) = q at *
    have b0 : ((l.length : Int) == 2) = q := (HLEN.out 2).trans hq
    have HR : Hid (R = (zv && sz && q)) := by show _ = _; rw [HE2.out]; rw [if_neg (by decide), if_pos (by decide)]
    clear hq HE2
    cases q
    · have HR : Hid (R = false) := by show _ = _; rw [HR.out, Bool.and_false]
      go_enter Tryz.func181, Tryz.ntmps181
      go_wp2_with fail
      go_ret
      exact ⟨ret_bool HR.out.symm, hb⟩

    cases zv
    · have HR : Hid (R = false) := HR.out
      go_enter Tryz.func181, Tryz.ntmps181
      go_wp2_with fail
      go_ret
      exact ⟨ret_bool HR.out.symm, hb⟩

    have HR : Hid (R = sz) := by show _ = _; rw [HR.out, Bool.and_true]; rfl
    go_enter Tryz.func181, Tryz.ntmps181
    go_wp2_with fail
    go_ret
    exact ⟨ret_bool HR.out.symm, hb⟩

  by_cases c6 : o = 6
  · subst c6
    clear c1 c2
    generalize hq : decide (l.length = 2) = q at *
    have b0 : ((l.length : Int) == 2) = q := (HLEN.out 2).trans hq
    have HR : Hid (R = (zv && sz && q)) := by show _ = _; rw [HE2.out]; rw [if_neg (by decide), if_pos (by decide)]
    clear hq HE2
    cases q
    · have HR : Hid (R = false) := by show _ = _; rw [HR.out, Bool.and_false]
      go_enter Tryz.func181, Tryz.ntmps181
      go_wp2_with fail
      go_ret
      exact ⟨ret_bool HR.out.symm, hb⟩

    cases zv
    · have HR : Hid (R = false) := HR.out
      go_enter Tryz.func181, Tryz.ntmps181
      go_wp2_with fail
      go_ret
      exact ⟨ret_bool HR.out.symm, hb⟩

    have HR : Hid (R = sz) := by show _ = _; rw [HR.out, Bool.and_true]; rfl
    go_enter Tryz.func181, Tryz.ntmps181
    go_wp2_with fail
    go_ret
    exact ⟨ret_bool HR.out.symm, hb⟩

  by_cases c7 : o = 7
  · subst c7
    clear c1 c2
    generalize hq : decide (l.length = 2) = q at *
    have b0 : ((l.length : Int) == 2) = q := (HLEN.out 2).trans hq
    have HR : Hid (R = (zv && sz && q)) := by show _ = _; rw [HE2.out]; rw [if_neg (by decide), if_pos (by decide)]
    clear hq HE2
    cases q
    · have HR : Hid (R = false) := by show _ = _; rw [HR.out, Bool.and_false]
      go_enter Tryz.func181, Tryz.ntmps181
      go_wp2_with fail
      go_ret
      exact ⟨ret_bool HR.out.symm, hb⟩

    cases zv
    · have HR : Hid (R = false) := HR.out
      go_enter Tryz.func181, Tryz.ntmps181
      go_wp2_with fail
      go_ret
      exact ⟨ret_bool HR.out.symm, hb⟩

    have HR : Hid (R = sz) := by show _ = _; rw [HR.out, Bool.and_true]; rfl
    go_enter Tryz.func181, Tryz.ntmps181
    go_wp2_with fail
    go_ret
    exact ⟨ret_bool HR.out.symm, hb⟩

  by_cases c8 : o = 8
  · subst c8
    clear c1 c2
    generalize hq : decide (l.length = 2) = q at *
    have b0 : ((l.length : Int) == 2) = q := (HLEN.out 2).trans hq
    have HR : Hid (R = (zv && sz && q)) := by show _ = _; rw [HE2.out]; rw [if_neg (by decide), if_pos (by decide)]
    clear hq HE2
    cases q
    · have HR : Hid (R = false) := by show _ = _; rw [HR.out, Bool.and_false]
      go_enter Tryz.func181, Tryz.ntmps181
      go_wp2_with fail
      go_ret
      exact ⟨ret_bool HR.out.symm, hb⟩

    cases zv
    · have HR : Hid (R = false) := HR.out
      go_enter Tryz.func181, Tryz.ntmps181
      go_wp2_with fail
      go_ret
      exact ⟨ret_bool HR.out.symm, hb⟩

    have HR : Hid (R = sz) := by show _ = _; rw [HR.out, Bool.and_true]; rfl
    go_enter Tryz.func181, Tryz.ntmps181
    go_wp2_with fail
    go_ret
    exact ⟨ret_bool HR.out.symm, hb⟩

  by_cases c9 : o = 9
  · subst c9
    clear c1 c2
    generalize hq : decide (l.length = 2) = q at *
    have b0 : ((l.length : Int) == 2) = q := (HLEN.out 2).trans hq
    have HR : Hid (R = (zv && sz && q)) := by show _ = _; rw [HE2.out]; rw [if_neg (by decide), if_pos (by decide)]
    clear hq HE2
    cases q
    · have HR : Hid (R = false) := by show _ = _; rw [HR.out, Bool.and_false]
      go_enter Tryz.func181, Tryz.ntmps181
      go_wp2_with fail
      go_ret
      exact ⟨ret_bool HR.out.symm, hb⟩

    cases zv
    · have HR : Hid (R = false) := HR.out
      go_enter Tryz.func181, Tryz.ntmps181
      go_wp2_with fail
      go_ret
      exact ⟨ret_bool HR.out.symm, hb⟩

    have HR : Hid (R = sz) := by show _ = _; rw [HR.out, Bool.and_true]; rfl
    go_enter Tryz.func181, Tryz.ntmps181
    go_wp2_with fail
    go_ret
    exact ⟨ret_bool HR.out.symm, hb⟩

  by_cases c10 : o = 10
  · subst c10
    clear c1 c2
    generalize hq : decide (l.length = 2) = q at *
    have b0 : ((l.length : Int) == 2) = q := (HLEN.out 2).trans hq
    have HR : Hid (R = (zv && sz && q)) := by show _ = _; rw [HE2.out]; rw [if_neg (by decide), if_pos (by decide)]
    clear hq HE2
    cases q
    · have HR : Hid (R = false) := by show _ = _; rw [HR.out, Bool.and_false]
      go_enter Tryz.func181, Tryz.ntmps181
      go_wp2_with fail
      go_ret
      exact ⟨ret_bool HR.out.symm, hb⟩

    cases zv
    · have HR : Hid (R = false) := HR.out
      go_enter Tryz.func181, Tryz.ntmps181
      go_wp2_with fail
      go_ret
      exact ⟨ret_bool HR.out.symm, hb⟩

    have HR : Hid (R = sz) := by show _ = _; rw [HR.out, Bool.and_true]; rfl
    go_enter Tryz.func181, Tryz.ntmps181
    go_wp2_with fail
    go_ret
    exact ⟨ret_bool HR.out.symm, hb⟩

  by_cases c11 : o = 11
  · subst c11
    clear c1 c2
    generalize hq : decide (l.length = 2) = q at *
    have b0 : ((l.length : Int) == 2) = q := (HLEN.out 2).trans hq
    have HR : Hid (R = (zv && sz && q)) := by show _ = _; rw [HE2.out]; rw [if_neg (by decide), if_pos (by decide)]
    clear hq HE2
    cases q
    · have HR : Hid (R = false) := by show _ = _; rw [HR.out, Bool.and_false]
      go_enter Tryz.func181, Tryz.ntmps181
      go_wp2_with fail
      go_ret
      exact ⟨ret_bool HR.out.symm, hb⟩

    cases zv
    · have HR : Hid (R = false) := HR.out
      go_enter Tryz.func181, Tryz.ntmps181
      go_wp2_with fail
      go_ret
      exact ⟨ret_bool HR.out.symm, hb⟩

    have HR : Hid (R = sz) := by show _ = _; rw [HR.out, Bool.and_true]; rfl
    go_enter Tryz.func181, Tryz.ntmps181
    go_wp2_with fail
    go_ret
    exact ⟨ret_bool HR.out.symm, hb⟩

  by_cases c12 : o = 12
  · subst c12
    clear c1 c2
    generalize hq : decide (l.length = 3) = q at *
    have b0 : ((l.length : Int) == 3) = q := (HLEN.out 3).trans hq
    have HR : Hid (R = (zv && sz && q)) := by show _ = _; rw [HE2.out]; rw [if_neg (by decide), if_neg (by decide), if_pos rfl]
    clear hq HE2
    cases q
    · have HR : Hid (R = false) := by show _ = _; rw [HR.out, Bool.and_false]
      go_enter Tryz.func181, Tryz.ntmps181
      go_wp2_with fail
      go_ret
      exact ⟨ret_bool HR.out.symm, hb⟩

    cases zv
    · have HR : Hid (R = false) := HR.out
      go_enter Tryz.func181, Tryz.ntmps181
      go_wp2_with fail
      go_ret
      exact ⟨ret_bool HR.out.symm, hb⟩

    have HR : Hid (R = sz) := by show _ = _; rw [HR.out, Bool.and_true]; rfl
    go_enter Tryz.func181, Tryz.ntmps181
    go_wp2_with fail
    go_ret
    exact ⟨ret_bool HR.out.symm, hb⟩

  by_cases c13 : o = 13
  · subst c13
    clear c1 c2 c3 c4 c5 c6 c7 c8 c9 c10 c11 c12
    have HR : Hid (R = (zv && sz && (decide (2 ≤ l.length) && (l.drop 1).all fun y => decide (y.op = 1)))) := by show _ = _; rw [HE2.out, if_neg (by decide), if_neg (by decide), if_neg (by decide), if_pos rfl]
    clear HE2
    go_enter Tryz.func181, Tryz.ntmps181
    go_wp2_with fail
    go_loop [5] (fun i => ∃ j : Nat, 1 ≤ j ∧ (j ≤ l.length ∨ j = 1) ∧ i = .int .i64 j ∧ ∀ k y, 1 ≤ k → k < j → l[k]? = some y → y.op = 1) (fun i => l.length - (intOf i).toNat)
    case atStart => exact ⟨1, Nat.le_refl _, .inr rfl, rfl, fun k y h1 h2 _ => by omega⟩
    case round =>
      obtain ⟨j, hj1, hj, rfl, hp⟩ := hrel
      have HP := Lib.hid hp
      clear hp
      by_cases hlt : j < l.length
      · obtain ⟨b, o', y, lv, n', hn, rfl, hD, hx, hex, hfv, hsl, e0, e1, e2, e3, e4, e5⟩ := HL.out.at_ hlt
        have HX := Lib.hid hx
        have i1 : (0 : Int) ≤ (j : Int) := by omega
        have i2 : (j : Int) < (l.length : Int) := by omega
        clear hx hex hfv hsl hn e1 e2 e3 e4 e5
        by_cases ho : y.op = 1
        · have HO := Lib.hid ho
          have f1 : (y.op != 1) = false := by simp [ho]
          clear ho
          go_wp2_with fail
          go_round
          case rel =>
            refine ⟨j + 1, by omega, by omega, by go_num, fun k z h1 hk hz => ?_⟩
            by_cases e : k = j
            · subst e; rw [HX.out] at hz; injection hz with hz; subst hz; exact HO.out
            · exact HP.out k z h1 (by omega) hz
          case measure => simp [intOf]; omega
        · have HRR : Hid (R = false) := by
            show _ = _
            rw [HR.out, all_drop_not hj1 HX.out ho, Bool.and_false, Bool.and_false]
          have f1 : (y.op != 1) = true := by simpa using ho
          clear ho
          go_wp2_with fail
          go_ret
          exact ⟨ret_bool HRR.out.symm, hb⟩
      · have i2 : (l.length : Int) ≤ (j : Int) := by omega
        have HRR : Hid (R = (zv && sz && decide (2 ≤ l.length))) := by
          show _ = _
          rw [HR.out, all_drop (fun k y h1 hy => HP.out k y h1 (by
            have : k < l.length := by
              rcases Nat.lt_or_ge k l.length with h | h
              · exact h
              · rw [List.getElem?_eq_none h] at hy; cases hy
            omega) hy), Bool.and_true]
        clear HR
        by_cases h2l : 2 ≤ l.length
        · rw [decide_eq_true h2l] at HRR
          have i3 : (2 : Int) ≤ (l.length : Int) := by omega
          cases zv
          · have HRR : Hid (R = false) := HRR.out
            go_wp2_with fail
            go_ret
            exact ⟨ret_bool HRR.out.symm, hb⟩
          · have HRR : Hid (R = sz) := by show _ = _; rw [HRR.out, Bool.and_true]; rfl
            go_wp2_with fail
            go_ret
            exact ⟨ret_bool HRR.out.symm, hb⟩
        · rw [decide_eq_false h2l, Bool.and_false] at HRR
          have i3 : (l.length : Int) < 2 := by omega
          go_wp2_with fail
          go_ret
          exact ⟨ret_bool HRR.out.symm, hb⟩
  have HR : Hid (R = false) := by show _ = _; rw [HE2.out, if_neg c3, if_neg (by omega), if_neg c12, if_neg c13, Bool.and_false]
  clear HE2
  go_enter Tryz.func181, Tryz.ntmps181
  go_wp2_with fail
  go_ret
  exact ⟨ret_bool HR.out.symm, hb⟩
end Go.Proofs.YtlmenhjlgmejkaaGreatDoor

namespace Go.Proofs.YtlmenhjlgmejkaaGreatDoor
open Go.RowKit
theorem all_two {z0 z1 k : Int} {ks : List Int} (h : ks = [z0, z1]) : ks.all (fun z => z == k) = (decide (z0 = k) && decide (z1 = k)) := by
  subst h
  rw [List.all_cons, List.all_cons, List.all_nil, Bool.and_true]
  rw [Bool.eq_iff_iff]; simp
theorem list_two {ks : List Int} {z0 z1 : Int} (h : ks.length = 2) (h0 : ks[0]? = some z0) (h1 : ks[1]? = some z1) : ks = [z0, z1] := by
  match ks, h with
  | [a, b], _ =>
    injection h0 with h0
    injection h1 with h1
    rw [h0, h1]
theorem like_all {ks : List Int} {z0 : Int} {t : Bool} (h : LikeTo ks z0 t ks.length) : ks.all (fun z => z == (if t then 1 else z0)) = true := by
  rw [List.all_eq_true]
  intro z hz
  obtain ⟨j, hj, rfl⟩ := List.mem_iff_getElem.1 hz
  have := h j _ hj (List.getElem?_eq_getElem hj)
  cases t
  · simpa using this.1
  · simpa using this.2 rfl
theorem like_not {ks : List Int} {z0 z : Int} {t : Bool} {k : Nat} (h0 : ks[0]? = some z0) (hz : ks[k]? = some z) (h : z ≠ z0 ∨ (t = true ∧ z ≠ 1)) : ks.all (fun y => y == (if t then 1 else z0)) = false := by
  rw [Bool.eq_false_iff]
  intro ha
  rw [List.all_eq_true] at ha
  have a0 := ha z0 (List.mem_of_getElem? h0)
  have a1 := ha z (List.mem_of_getElem? hz)
  cases t
  · rcases h with h | h
    · exact h (by simpa using a1)
    · cases h.1
  · rcases h with h | h
    · exact h (by have e0 : z0 = 1 := by simpa using a0
                  have e1 : z = 1 := by simpa using a1
                  rw [e0, e1])
    · exact h.2 (by simpa using a1)
set_option maxHeartbeats 8000000 in
set_option maxRecDepth 100000 in
theorem type_ref : ∀ (n : Nat) (vs : List Var) (x : Ex) (uv u : Value) (w : World), SlX (Lt w.heap.size) w uv vs → IsEx n (Lt w.heap.size) w u x → okX x = true →
    Calls Tryz.prog 128 #[uv, u] w (RetT vs x w) := by
  intro n
  induction n using Nat.strongRecOn with
  | _ n ih =>
    intro vs x uv u w hvs h hok
    obtain ⟨Av, cv, rfl, v1, v2, hvs⟩ := hvs.open_
    obtain ⟨lv, rfl, h1, h2, h3, h4⟩ := h
    obtain ⟨A, c, rfl, l1, l2, h4⟩ := h4.open_
    have hk := okX_eq x
    rw [hok] at hk
    replace hk := hk.symm
    simp only [Bool.and_eq_true, decide_eq_true_eq] at hk
    obtain ⟨⟨hsh, hlen⟩, hokl⟩ := hk
    have HSH := Lib.hid (shape_len hsh)
    have HOK := Lib.hid (okL_mem hokl)
    clear hsh hokl hok
    have hb0 := bone w (.cells #[.int .i64 x.op, .int .i64 x.v.kind, .int .i64 x.v.n, .string x.v.s, .string x.s, .slice A x.l.length c] 65)
    have hB0 := Blk.new w 65 #[.int .i64 x.op, .int .i64 x.v.kind, .int .i64 x.v.n, .string x.v.s, .string x.s, .slice A x.l.length c]
    have hl0 := SlE.now h4 hb0
    have hv0 := hvs.now hb0
    clear h4 hvs
    go_enter Tryz.func128, Tryz.ntmps128
    go_upto_region 1 with fail
    generalize hw1 : w.alloc (.cells #[.int .i64 x.op, .int .i64 x.v.kind, .int .i64 x.v.n, .string x.v.s, .string x.s, .slice A x.l.length c] 65) = w1 at *
    clear hw1
    go_wp2_with fail
    go_loopw [6, 7] (fun kv i wr => ∃ (k : Nat), k ≤ x.l.length ∧ i = .int .i64 k ∧ wr.ownsRow w1.heap.size 3 1 kv k ((kindsOf vs (x.l.take k)).map (Value.int .i64)) ∧ (∀ y ∈ x.l.take k, (typX vs y).2 = 0) ∧ (∀ z ∈ kindsOf vs (x.l.take k), Fit z) ∧ Below w1.heap.size w1 wr) (fun _ i _ => x.l.length - (intOf i).toNat)
    case atStart => exact ⟨0, Nat.zero_le _, rfl, World.ownsRow_nil _ _ _ _, fun y hy => by simp at hy, fun z hz => by simp [kindsOf] at hz, Below.refl _ _⟩
    case round =>
      obtain ⟨k, hk, rfl, hrow, hp, hfit, hb⟩ := hrel
      have HP := Lib.hid hp
      have HF := Lib.hid hfit
      clear hp hfit
      have hbw := bthen hb0 hb
      have hsz := hb.size
      have hBr := hB0.now hb
      obtain ⟨q0, q1, q2, q3, q4, q5⟩ := hBr.c6
      by_cases hlt : k < x.l.length
      · obtain ⟨b, o, y, lv, n', hn, rfl, hD, hx, hex, hfv, hsl, e0, e1, e2, e3, e4, e5⟩ := (SlE.now hl0 hb).at_ hlt
        have HX := Lib.hid hx
        have hoky := HOK.out y (List.mem_of_getElem? hx)
        obtain ⟨A2, c2', rfl, m1, m2, _⟩ := hsl.open_
        have hcall := Lib.hid (ih n' (by omega) vs y _ _ _ (hv0.now hb) hex hoky)
        have i1 : (0 : Int) ≤ (k : Int) := by omega
        have i2 : (k : Int) < (x.l.length : Int) := by omega
        clear hx hex hfv hsl hoky
        go_wp2_with fail
        refine hcall.out.mono ?_
        clear hcall
        rintro e w4 ⟨rfl, hft, hb4⟩
        have hbw4 := bthen hbw hb4
        have hb4' := bthen hb hb4
        have hrow4 := own_now hrow hb4
        by_cases hz : (typX vs y).2 = 0
        · have HST := Lib.hid (typed_step HX.out hz HP.out)
          have HFT := Lib.hid (kinds_fit HX.out hft HF.out)
          have HSN := Lib.hid (kinds_snoc (vs := vs) HX.out)
          rw [hz]
          clear hz
          generalize (typX vs y).1 = ty at *
          have hsz4 := hb4'.size
          go_wp2_with (at_builtin; first | refine wpList_push appInts rfl (.tmp 33) (.tmp 35) rfl w4 [.int .i64 ty] rfl (by simp [Value.oneCell']) _ k _ rfl hrow4 rfl (by omega) hsz4 ?_)
          intro v5 w5 hrow5 hg5 _
          have hb5 : Below w1.heap.size w1 w5 := hb4'.trans (below_of_grown hg5 hsz4 (fun g hg => (World.ownsRow.lt hrow4 g hg).1))
          go_wp2_with fail
          go_roundw
          case rel =>
            refine ⟨k + 1, by omega, by go_num, ?_, HST.out, HFT.out, hb5⟩
            rw [HSN.out, List.map_append]
            exact hrow5
          case measure => simp [intOf]; omega
        · have HR := Lib.hid (typX_stop HX.out hz HP.out)
          have b1 : ((typX vs y).2 != 0) = true := by simpa using hz
          clear hz
          go_wp2_with fail
          go_ret2
          exact ret_T HR.out (by unfold Fit; omega) hbw4
      · obtain rfl : k = x.l.length := by omega
        rw [List.take_of_length_le (Nat.le_refl _)] at hrow
        have hpp := HP.out
        have hff := HF.out
        rw [List.take_of_length_le (Nat.le_refl _)] at hpp hff
        have HT := Lib.hid (typX_all hpp)
        have hks := SlI.of_own hrow hff
        have HKL := Lib.hid (kinds_len vs x.l)
        clear hpp hff HP HF hrow
        generalize hkg : kindsOf vs x.l = ks at *
        clear hkg
        have hvr := hv0.now hb
        have HTO := HT.out
        unfold typO at HTO
        have HTO := Lib.hid HTO
        have hfk := h2.kind
        clear HT ih hl0 HOK
        obtain ⟨A3, c3', rfl, m1, m2, hks⟩ := hks.open_
        generalize x.op = o at *
        by_cases c1 : o = 1
        · subst c1
          have HR : Hid (typX vs x = (x.v.kind, 0)) := by show _ = _; rw [HTO.out, if_pos rfl]
          clear HTO
          go_wp2_with fail
          go_ret2
          exact ret_T HR.out hfk hbw
        by_cases c2 : o = 2
        · subst c2
          have HR : Hid (typX vs x = if findV vs x.s < 0 then (0, 8) else (kindAt vs (findV vs x.s), 0)) := by show _ = _; rw [HTO.out, if_neg (by decide), if_pos rfl]
          have HFI := Lib.hid (findV_any vs x.s)
          clear HTO
          go_wp2_with fail
          refine (find_ref vs x.s _ _ hvr).mono ?_
          rintro e w3 ⟨rfl, rfl⟩
          generalize findV vs x.s = z at *
          rcases HFI.out with hz | ⟨i, rfl, hi⟩
          · have HR : Hid (typX vs x = (0, 8)) := by show _ = _; rw [HR.out, if_pos hz]
            go_wp2_with fail
            go_ret2
            exact ret_T HR.out (by unfold Fit; omega) hbw
          · obtain ⟨b, o', y, iv, rfl, hD, hx, hvar, hiv, e0, e1, e2, e3, e4⟩ := hvr.at_ hi
            have hfy : Fit y.kind := by obtain ⟨_, _, _, hf, _⟩ := hvar; exact hf
            have HR : Hid (typX vs x = (y.kind, 0)) := by
              show _ = _
              rw [HR.out, if_neg (by omega)]
              unfold kindAt
              rw [Int.toNat_natCast, hx]; rfl
            have i1 : (0 : Int) ≤ (i : Int) := by omega
            have i2 : (i : Int) < (vs.length : Int) := by omega
            clear hx hvar hiv
            go_wp2_with fail
            go_ret2
            exact ret_T HR.out hfy hbw
        have hln : 1 ≤ ks.length := by have := HKL.out; have := HSH.out; omega
        obtain ⟨b, o', z0, rfl, hD, hx0, hf0, e0⟩ := hks.at_ (k := 0) (by omega)
        have e0' : wr.cell? ⟨b, o', none⟩ = some (.int .i64 z0) := e0
        have i0 : (0 : Int) < (ks.length : Int) := by omega
        have HX0 := Lib.hid hx0
        clear e0 hx0
        by_cases cA : o = 9 ∨ o = 10 ∨ o = 11 ∨ o = 7 ∨ o = 8
        · have hl2 : ks.length = 2 := by have := HKL.out; have := HSH.out; omega
          obtain ⟨b1, o1, z1, hA1, _, hx1, hf1, e1⟩ := hks.at_ (k := 1) (by omega)
          injection hA1 with hA1; injection hA1 with g1 g2 _; subst g1 g2
          have HAT := Lib.hid (fun k => all_two (k := k) (list_two hl2 HX0.out hx1))
          have i1 : (1 : Int) < (ks.length : Int) := by omega
          clear hx1 hl2
          have HG : Hid (∀ Q : Prop, ((z0 != 2) = true → z0 ≠ 2 → Q) → ((z0 != 2) = false → (z1 != 2) = true → z1 ≠ 2 → Q) → ((z0 != 2) = false → (z1 != 2) = false → z0 = 2 → z1 = 2 → Q) → Q) := by
            intro Q a1 a2 a3
            by_cases h0 : z0 = 2
            · by_cases h1 : z1 = 2
              · exact a3 (by simp [h0]) (by simp [h1]) h0 h1
              · exact a2 (by simp [h0]) (by simpa using h1) h1
            · exact a1 (by simpa using h0) h0
          by_cases c9 : o = 9
          · subst c9
            have HR : Hid (typX vs x = if (decide (z0 = 2) && decide (z1 = 2)) = true then (2, 0) else (0, 11)) := by show _ = _; rw [HTO.out, if_neg (by decide), if_neg (by decide), if_pos (by decide), HAT.out]
            clear HTO
            refine HG.out _ (fun b1 n1 => ?_) (fun b1 b2 n2 => ?_) (fun b1 b2 n1 n2 => ?_)
            · have HR : Hid (typX vs x = (0, 11)) := by show _ = _; rw [HR.out, decide_eq_false n1]; rfl
              clear n1
              go_wp2_with fail
              go_ret2
              exact ret_T HR.out (by unfold Fit; omega) hbw
            · have HR : Hid (typX vs x = (0, 11)) := by show _ = _; rw [HR.out, decide_eq_false n2, Bool.and_false]; rfl
              clear n2
              go_wp2_with fail
              go_ret2
              exact ret_T HR.out (by unfold Fit; omega) hbw
            · have HR : Hid (typX vs x = (2, 0)) := by show _ = _; rw [HR.out, decide_eq_true n1, decide_eq_true n2]; rfl
              clear n1 n2
              go_wp2_with fail
              go_ret2
              exact ret_T HR.out (by unfold Fit; omega) hbw
          by_cases c10 : o = 10
          · subst c10
            have HR : Hid (typX vs x = if (decide (z0 = 2) && decide (z1 = 2)) = true then (2, 0) else (0, 11)) := by show _ = _; rw [HTO.out, if_neg (by decide), if_neg (by decide), if_pos (by decide), HAT.out]
            clear HTO
            refine HG.out _ (fun b1 n1 => ?_) (fun b1 b2 n2 => ?_) (fun b1 b2 n1 n2 => ?_)
            · have HR : Hid (typX vs x = (0, 11)) := by show _ = _; rw [HR.out, decide_eq_false n1]; rfl
              clear n1
              go_wp2_with fail
              go_ret2
              exact ret_T HR.out (by unfold Fit; omega) hbw
            · have HR : Hid (typX vs x = (0, 11)) := by show _ = _; rw [HR.out, decide_eq_false n2, Bool.and_false]; rfl
              clear n2
              go_wp2_with fail
              go_ret2
              exact ret_T HR.out (by unfold Fit; omega) hbw
            · have HR : Hid (typX vs x = (2, 0)) := by show _ = _; rw [HR.out, decide_eq_true n1, decide_eq_true n2]; rfl
              clear n1 n2
              go_wp2_with fail
              go_ret2
              exact ret_T HR.out (by unfold Fit; omega) hbw
          by_cases c11 : o = 11
          · subst c11
            have HR : Hid (typX vs x = if (decide (z0 = 2) && decide (z1 = 2)) = true then (2, 0) else (0, 11)) := by show _ = _; rw [HTO.out, if_neg (by decide), if_neg (by decide), if_pos (by decide), HAT.out]
            clear HTO
            refine HG.out _ (fun b1 n1 => ?_) (fun b1 b2 n2 => ?_) (fun b1 b2 n1 n2 => ?_)
            · have HR : Hid (typX vs x = (0, 11)) := by show _ = _; rw [HR.out, decide_eq_false n1]; rfl
              clear n1
              go_wp2_with fail
              go_ret2
              exact ret_T HR.out (by unfold Fit; omega) hbw
            · have HR : Hid (typX vs x = (0, 11)) := by show _ = _; rw [HR.out, decide_eq_false n2, Bool.and_false]; rfl
              clear n2
              go_wp2_with fail
              go_ret2
              exact ret_T HR.out (by unfold Fit; omega) hbw
            · have HR : Hid (typX vs x = (2, 0)) := by show _ = _; rw [HR.out, decide_eq_true n1, decide_eq_true n2]; rfl
              clear n1 n2
              go_wp2_with fail
              go_ret2
              exact ret_T HR.out (by unfold Fit; omega) hbw
          by_cases c7 : o = 7
          · subst c7
            have HR : Hid (typX vs x = if (decide (z0 = 2) && decide (z1 = 2)) = true then (1, 0) else (0, 11)) := by show _ = _; rw [HTO.out, if_neg (by decide), if_neg (by decide), if_neg (by decide), if_pos (by decide), HAT.out]
            clear HTO
            refine HG.out _ (fun b1 n1 => ?_) (fun b1 b2 n2 => ?_) (fun b1 b2 n1 n2 => ?_)
            · have HR : Hid (typX vs x = (0, 11)) := by show _ = _; rw [HR.out, decide_eq_false n1]; rfl
              clear n1
              go_wp2_with fail
              go_ret2
              exact ret_T HR.out (by unfold Fit; omega) hbw
            · have HR : Hid (typX vs x = (0, 11)) := by show _ = _; rw [HR.out, decide_eq_false n2, Bool.and_false]; rfl
              clear n2
              go_wp2_with fail
              go_ret2
              exact ret_T HR.out (by unfold Fit; omega) hbw
            · have HR : Hid (typX vs x = (1, 0)) := by show _ = _; rw [HR.out, decide_eq_true n1, decide_eq_true n2]; rfl
              clear n1 n2
              go_wp2_with fail
              go_ret2
              exact ret_T HR.out (by unfold Fit; omega) hbw
          by_cases c8 : o = 8
          · subst c8
            have HR : Hid (typX vs x = if (decide (z0 = 2) && decide (z1 = 2)) = true then (1, 0) else (0, 11)) := by show _ = _; rw [HTO.out, if_neg (by decide), if_neg (by decide), if_neg (by decide), if_pos (by decide), HAT.out]
            clear HTO
            refine HG.out _ (fun b1 n1 => ?_) (fun b1 b2 n2 => ?_) (fun b1 b2 n1 n2 => ?_)
            · have HR : Hid (typX vs x = (0, 11)) := by show _ = _; rw [HR.out, decide_eq_false n1]; rfl
              clear n1
              go_wp2_with fail
              go_ret2
              exact ret_T HR.out (by unfold Fit; omega) hbw
            · have HR : Hid (typX vs x = (0, 11)) := by show _ = _; rw [HR.out, decide_eq_false n2, Bool.and_false]; rfl
              clear n2
              go_wp2_with fail
              go_ret2
              exact ret_T HR.out (by unfold Fit; omega) hbw
            · have HR : Hid (typX vs x = (1, 0)) := by show _ = _; rw [HR.out, decide_eq_true n1, decide_eq_true n2]; rfl
              clear n1 n2
              go_wp2_with fail
              go_ret2
              exact ret_T HR.out (by unfold Fit; omega) hbw
          exfalso; omega
        by_cases c12 : o = 12
        · subst c12
          have hl3 : ks.length = 3 := by have := HKL.out; have := HSH.out; omega
          obtain ⟨b1, o1, z1, hA1, _, hx1, hf1, e1⟩ := hks.at_ (k := 1) (by omega)
          injection hA1 with hA1; injection hA1 with g1 g2 _; subst g1 g2
          obtain ⟨b2, o2, z2, hA2, _, hx2, hf2, e2⟩ := hks.at_ (k := 2) (by omega)
          injection hA2 with hA2; injection hA2 with g1 g2 _; subst g1 g2
          have hx0 := HX0.out
          have d0 : ks.getD 0 0 = z0 := by rw [List.getD_eq_getElem?_getD, hx0]; rfl
          have d1 : ks.getD 1 0 = z1 := by rw [List.getD_eq_getElem?_getD, hx1]; rfl
          have d2 : ks.getD 2 0 = z2 := by rw [List.getD_eq_getElem?_getD, hx2]; rfl
          have HR : Hid (typX vs x = if z0 = 1 ∧ z1 = z2 then (z1, 0) else (0, 11)) := by show _ = _; rw [HTO.out, if_neg (by decide), if_neg (by decide), if_neg (by decide), if_neg (by decide), if_neg (by decide), if_pos (by decide), d0, d1, d2]
          have i1 : (1 : Int) < (ks.length : Int) := by omega
          have i2 : (2 : Int) < (ks.length : Int) := by omega
          clear HTO hx0 hx1 hx2 d0 d1 d2 hl3
          by_cases hz0 : z0 = 1
          · by_cases hz : z1 = z2
            · have HR : Hid (typX vs x = (z1, 0)) := by show _ = _; rw [HR.out, if_pos ⟨hz0, hz⟩]
              have b0 : (z0 != 1) = false := by simp [hz0]
              have b1 : (z1 != z2) = false := by simp [hz]
              clear hz0 hz
              go_upto_region 29 with fail
              go_quiet (fail)
              go_wp2_with fail
              go_ret2
              exact ret_T HR.out hf1 (bdrawn hbw _)
            · have HR : Hid (typX vs x = (0, 11)) := by show _ = _; rw [HR.out, if_neg (fun h => hz h.2)]
              have b0 : (z0 != 1) = false := by simp [hz0]
              have b1 : (z1 != z2) = true := by simpa using hz
              clear hz0 hz
              go_upto_region 29 with fail
              go_quiet (fail)
              go_wp2_with fail
              go_ret2
              exact ret_T HR.out (by unfold Fit; omega) (bdrawn hbw _)
          · have HR : Hid (typX vs x = (0, 11)) := by show _ = _; rw [HR.out, if_neg (fun h => hz0 h.1)]
            have b0 : (z0 != 1) = true := by simpa using hz0
            clear hz0
            go_upto_region 29 with fail
            go_quiet (fail)
            go_wp2_with fail
            go_ret2
            exact ret_T HR.out (by unfold Fit; omega) (bdrawn hbw _)
        have hx0 := HX0.out
        have d0 : ks.getD 0 0 = z0 := by rw [List.getD_eq_getElem?_getD, hx0]; rfl
        generalize ht : decide (o = 3 ∨ o = 4 ∨ o = 5) = t
        have HR : Hid (typX vs x = if ks.all (fun y => y == (if t then 1 else z0)) = true then (1, 0) else (0, 11)) := by
          show _ = _
          rw [HTO.out, if_neg c1, if_neg c2, if_neg (by omega), if_neg (by omega)]
          by_cases h3 : o = 3 ∨ o = 4 ∨ o = 5
          · rw [decide_eq_true h3] at ht
            subst ht
            rw [if_pos h3]; rfl
          · rw [decide_eq_false h3] at ht
            subst ht
            rw [if_neg h3, if_neg c12, d0]; rfl
        have b1 : (o == 1) = false := by simpa using c1
        have b2 : (o == 2) = false := by simpa using c2
        have b9 : (o == 9) = false := by rw [beq_eq_false_iff_ne]; omega
        have b10 : (o == 10) = false := by rw [beq_eq_false_iff_ne]; omega
        have b11 : (o == 11) = false := by rw [beq_eq_false_iff_ne]; omega
        have b7 : (o == 7) = false := by rw [beq_eq_false_iff_ne]; omega
        have b8 : (o == 8) = false := by rw [beq_eq_false_iff_ne]; omega
        have b12 : (o == 12) = false := by rw [beq_eq_false_iff_ne]; omega
        have HOP : Hid (∀ Q : Prop, ((o != 6) = false → t = false → Q) → ((o != 6) = true → (o != 13) = false → t = false → Q) → ((o != 6) = true → (o != 13) = true → t = true → Q) → Q) := by
          intro Q a1 a2 a3
          by_cases h6 : o = 6
          · exact a1 (by simp [h6]) (by rw [← ht]; simp [h6])
          · by_cases h13 : o = 13
            · exact a2 (by simpa using h6) (by simp [h13]) (by rw [← ht]; simp [h13])
            · exact a3 (by simpa using h6) (by simpa using h13) (by rw [← ht]; have := HSH.out; simp; omega)
        clear HTO d0 ht c1 c2 cA c12 hx0
        refine HOP.out _ (fun g6 ht => ?_) (fun g6 g13 ht => ?_) (fun g6 g13 ht => ?_)
        all_goals
          have HTT := Lib.hid ht
          clear HOP ht
          go_wp2_with fail
          go_loopw [12] (fun i wx => ∃ (j : Nat), j ≤ ks.length ∧ i = .int .i64 j ∧ LikeTo ks z0 t j ∧ Below wr.heap.size wr wx) (fun i _ => ks.length - (intOf i).toNat)
          case atStart => exact ⟨0, Nat.zero_le _, rfl, fun j z h _ => absurd h (by omega), Below.refl _ _⟩
          case round =>
            obtain ⟨j, hj, rfl, hlk, hbx⟩ := hrel
            have HLK := Lib.hid hlk
            clear hlk
            have hksx := hks.now hbx
            have hBx := hBr.now hbx
            have hbwx := bthen hbw hbx
            have e0x : wr.cell? ⟨b, o', none⟩ = some (.int .i64 z0) := by
              obtain ⟨b1, o1, z1, hA1, _, hx1, _, e1⟩ := hksx.at_ (k := 0) (by omega)
              injection hA1 with hA1; injection hA1 with g1 g2 _; subst g1 g2
              rw [HX0.out] at hx1; injection hx1 with hx1; subst hx1
              exact e1
            obtain ⟨p0, p1, p2, p3, p4, p5⟩ := hBx.c6
            by_cases hlt : j < ks.length
            · obtain ⟨b1, o1, z, hA1, _, hxz, hfz, ez⟩ := hksx.at_ hlt
              injection hA1 with hA1; injection hA1 with g1 g2 _; subst g1 g2
              have HXZ := Lib.hid hxz
              have j1 : (0 : Int) ≤ (j : Int) := by omega
              have j2 : (j : Int) < (ks.length : Int) := by omega
              clear hxz q0 q1 q2 q3 q4 q5 e0' hksx hBx
              by_cases hz : z = z0
              · have f1 : (z != z0) = false := by simp [hz]
                by_cases hz1 : z = 1
                · have f2 : (z != 1) = false := by simp [hz1]
                  have HN := Lib.hid (And.intro hz (fun _ : t = true => hz1))
                  clear hz hz1
                  go_upto_region 35 with fail
                  go_quiet (fail)
                  go_wp2_with fail
                  go_roundw
                  case rel =>
                    refine ⟨j + 1, by omega, by go_num, fun i y hi hy => ?_, bdrawn hbx _⟩
                    by_cases e : i = j
                    · subst e; rw [HXZ.out] at hy; injection hy with hy; subst hy; exact HN.out
                    · exact HLK.out i y (by omega) hy
                  case measure => simp [intOf]; omega
                · have f2 : (z != 1) = true := by simpa using hz1
                  first
                    | (have HN := Lib.hid (like_not HX0.out HXZ.out (.inr ⟨HTT.out, hz1⟩))
                       have HRR : Hid (typX vs x = (0, 11)) := by show _ = _; rw [HR.out]; exact (if_neg (by rw [HN.out]; simp))
                       clear hz hz1
                       go_upto_region 35 with fail
                       go_quiet (fail)
                       go_wp2_with fail
                       go_ret2
                       exact ret_T HRR.out (by unfold Fit; omega) (bdrawn hbwx _))
                    | (have HN : Hid (z = z0 ∧ (t = true → z = 1)) := ⟨hz, fun h => by rw [HTT.out] at h; cases h⟩
                       clear hz hz1
                       go_upto_region 35 with fail
                       go_quiet (fail)
                       go_wp2_with fail
                       go_roundw
                       case rel =>
                         refine ⟨j + 1, by omega, by go_num, fun i y hi hy => ?_, bdrawn hbx _⟩
                         by_cases e : i = j
                         · subst e; rw [HXZ.out] at hy; injection hy with hy; subst hy; exact HN.out
                         · exact HLK.out i y (by omega) hy
                       case measure => simp [intOf]; omega)
              · have f1 : (z != z0) = true := by simpa using hz
                have HN := Lib.hid (like_not (t := t) HX0.out HXZ.out (.inl hz))
                have HRR : Hid (typX vs x = (0, 11)) := by show _ = _; rw [HR.out]; exact (if_neg (by rw [HN.out]; simp))
                clear hz
                go_upto_region 35 with fail
                go_quiet (fail)
                go_wp2_with fail
                go_ret2
                exact ret_T HRR.out (by unfold Fit; omega) (bdrawn hbwx _)
            · obtain rfl : j = ks.length := by omega
              have HRR : Hid (typX vs x = (1, 0)) := by show _ = _; rw [HR.out]; exact if_pos (like_all HLK.out)
              go_wp2_with fail
              go_ret2
              exact ret_T HRR.out (by unfold Fit; omega) hbwx
end Go.Proofs.YtlmenhjlgmejkaaGreatDoor

namespace Go.Proofs.YtlmenhjlgmejkaaGreatDoor
open Go.RowKit
set_option maxHeartbeats 4000000 in
theorem count_ref : ∀ (n : Nat) (x : Ex) (u : Value) (w : World) (a d : Int), IsEx n (Lt w.heap.size) w u x → -1 ≤ a → a ≤ 400 → -1 ≤ d → d ≤ 60 →
    Calls Tryz.prog 159 #[u, .int .i64 a, .int .i64 d] w fun e w' => e = .returned (.int .i64 (cntX x a d)) ∧ Below w.heap.size w w' := by
  intro n
  induction n using Nat.strongRecOn with
  | _ n ih =>
    intro x u w a d h ha1 ha2 hd1 hd2
    have h0 := h
    obtain ⟨lv, rfl, h1, h2, h3, h4⟩ := h
    obtain ⟨A, c, rfl, l1, l2, h4⟩ := h4.open_
    have HE := Lib.hid (cntX_eq x a d)
    have hb := bone w (.cells #[.int .i64 x.op, .int .i64 x.v.kind, .int .i64 x.v.n, .string x.v.s, .string x.s, .slice A x.l.length c] 65)
    have hB := Blk.new w 65 #[.int .i64 x.op, .int .i64 x.v.kind, .int .i64 x.v.n, .string x.v.s, .string x.s, .slice A x.l.length c]
    have hx1 := h0.now hb
    have hl1 := SlE.now h4 hb
    clear h0 h4
    have wa : IntKind.i64.wrap (a - 1) = a - 1 := IntWalk.i64_in _ (by omega)
    have wd : IntKind.i64.wrap (d - 1) = d - 1 := IntWalk.i64_in _ (by omega)
    generalize hw1 : w.alloc (.cells #[.int .i64 x.op, .int .i64 x.v.kind, .int .i64 x.v.n, .string x.v.s, .string x.s, .slice A x.l.length c] 65) = w1 at *
    obtain ⟨q0, q1, q2, q3, q4, q5⟩ := hB.c6
    by_cases c1 : a ≤ 0
    · have HR : Hid (cntX x a d = -1) := by show _ = _; rw [HE.out, if_pos (.inl c1)]
      have c1' : a - 1 < 0 := by omega
      clear c1
      go_enter Tryz.func159, Tryz.ntmps159
      go_wp2_with fail
      go_ret
      exact ⟨by rw [HR.out]; rfl, hb⟩
    have c1' : 0 ≤ a - 1 := by omega
    by_cases c2 : d ≤ 0
    · have HR : Hid (cntX x a d = -1) := by show _ = _; rw [HE.out, if_pos (.inr (.inl c2))]
      have c2' : d < 1 := by omega
      clear c1 c2
      go_enter Tryz.func159, Tryz.ntmps159
      go_wp2_with fail
      go_ret
      exact ⟨by rw [HR.out]; rfl, hb⟩
    have c2' : 1 ≤ d := by omega
    go_enter Tryz.func159, Tryz.ntmps159
    go_wp2_with fail
    refine (shape_ref _ x _ _ hx1).mono ?_
    rintro e w2 ⟨rfl, hb2⟩
    have hbw2 := bthen hb hb2
    have hl2 := SlE.now hl1 hb2
    have hB2 := hB.now hb2
    clear q0 q1 q2 q3 q4 q5 hB hl1 hx1
    obtain ⟨q0, q1, q2, q3, q4, q5⟩ := hB2.c6
    generalize hs : shapeX x = sh at *
    cases sh
    · have HR : Hid (cntX x a d = -1) := by show _ = _; rw [HE.out, if_pos (.inr (.inr rfl))]
      go_wp2_with fail
      go_ret
      exact ⟨by rw [HR.out]; rfl, hbw2⟩
    have HR : Hid (cntX x a d = cntL (x.l.drop 0) (a - 1) (d - 1)) := by show _ = _; rw [HE.out, if_neg (by simp [c1, c2]), List.drop_zero]
    clear HE hs
    go_wp2_with fail
    go_loopw [1, 7] (fun av i wr => ∃ (k : Nat) (a' : Int), k ≤ x.l.length ∧ i = .int .i64 k ∧ av = .int .i64 a' ∧ -1 ≤ a' ∧ a' ≤ 400 ∧ (0 ≤ a' → cntX x a d = cntL (x.l.drop k) a' (d - 1)) ∧ (a' < 0 → cntX x a d = a') ∧ Below w2.heap.size w2 wr) (fun _ i _ => x.l.length - (intOf i).toNat)
    case atStart => exact ⟨0, a - 1, Nat.zero_le _, rfl, rfl, by omega, by omega, fun _ => HR.out, fun h => by omega, Below.refl _ _⟩
    case round =>
      obtain ⟨k, a', hk, rfl, rfl, a1, a2, hc, hn, hbr2⟩ := hrel
      have HC := Lib.hid hc
      have HN := Lib.hid hn
      have hbr := bthen hbw2 hbr2
      have hBr := hB2.now hbr2
      clear hc hn HR q0 q1 q2 q3 q4 q5
      obtain ⟨q0, q1, q2, q3, q4, q5⟩ := hBr.c6
      by_cases hlt : k < x.l.length
      · have i1 : (0 : Int) ≤ (k : Int) := by omega
        have i2 : (k : Int) < (x.l.length : Int) := by omega
        by_cases hz0 : a' < 0
        · have HRR := Lib.hid (HN.out hz0)
          go_wp2_with fail
          go_ret
          exact ⟨by rw [HRR.out]; rfl, hbr⟩
        have hz0' : 0 ≤ a' := by omega
        obtain ⟨b, o, y, lv, n', hn, rfl, hD, hx, hex, hfv, hsl, e0, e1, e2, e3, e4, e5⟩ := (SlE.now hl2 hbr2).at_ hlt
        have HX := Lib.hid (cntL_drop hx a' (d - 1))
        have HLO := Lib.hid (cnt_low y a' (d - 1))
        have HRG := Lib.hid (cnt_range y a' (d - 1) a2)
        obtain ⟨A2, c2', rfl, m1, m2, _⟩ := hsl.open_
        have hcall := Lib.hid (ih n' (by omega) y _ _ a' (d - 1) hex (by omega) a2 (by omega) (by omega))
        clear hx hex hfv hsl hn
        generalize cntX y a' (d - 1) = z at *
        go_wp2_with fail
        refine hcall.out.mono ?_
        rintro e w4 ⟨rfl, hb4⟩
        have hbw4' : Below w2.heap.size w2 w4 := bthen hbr2 hb4
        have HRR : Hid (cntX x a d = if z < 0 then -1 else cntL (x.l.drop (k + 1)) z (d - 1)) := by show _ = _; rw [HC.out hz0', HX.out]
        clear hz0 q0 q1 q2 q3 q4 q5
        go_wp2_with fail
        go_roundw
        case rel =>
          refine ⟨k + 1, z, by omega, by go_num, rfl, ?_, ?_, fun h => by rw [HRR.out, if_neg (by omega)], fun h => by rw [HRR.out, if_pos h, HLO.out h], hbw4'⟩
          · rcases Int.lt_or_le z 0 with h | h
            · have := HLO.out h; omega
            · omega
          · have := HRG.out; omega
        case measure => simp [intOf]; omega
      · have i2 : (x.l.length : Int) ≤ (k : Int) := by omega
        have HRR : Hid (cntX x a d = a') := by
          show _ = _
          rcases Int.lt_or_le a' 0 with h | h
          · exact HN.out h
          · rw [HC.out h, List.drop_eq_nil_of_le (by omega), cntL_nil]
        go_wp2_with fail
        go_ret
        exact ⟨by rw [HRR.out]; rfl, hbr⟩
theorem validX_ref (n : Nat) (x : Ex) (u : Value) (w : World) (h : IsEx n (Lt w.heap.size) w u x) :
    Calls Tryz.prog 127 #[u] w fun e w' => e = .returned (.bool (validX x)) ∧ Below w.heap.size w w' := by
  have h0 := h
  obtain ⟨lv, rfl, h1, h2, h3, h4⟩ := h
  have hb := bone w (.cells #[.int .i64 x.op, .int .i64 x.v.kind, .int .i64 x.v.n, .string x.v.s, .string x.s, lv] 65)
  have hc := count_ref n x _ _ 400 60 (h0.now hb) (by omega) (by omega) (by omega) (by omega)
  have HC := Lib.hid hc
  have HV : Hid (validX x = decide (0 ≤ cntX x 400 60)) := rfl
  clear hc h4 h0
  generalize cntX x 400 60 = z at *
  go_enter Tryz.func127, Tryz.ntmps127
  go_wp2_with fail
  refine HC.out.mono ?_
  rintro e w2 ⟨rfl, hb2⟩
  have hbw := bthen hb hb2
  clear hb hb2 HC
  go_wp2_with fail
  go_ret
  exact ⟨ret_bool HV.out.symm, hbw⟩
set_option maxHeartbeats 1000000 in
theorem fault_ref (n : Nat) (vs : List Var) (x : Ex) (uv u : Value) (w : World) (hv : SlX (Lt w.heap.size) w uv vs) (h : IsEx n (Lt w.heap.size) w u x) :
    Calls Tryz.prog 82 #[uv, u] w fun e w' => e = .returned (.tuple #[.int .i64 (givenE vs x).1, .int .i64 (givenE vs x).2]) ∧ Fit (givenE vs x).1 ∧ Below w.heap.size w w' := by
  have h0 := h
  obtain ⟨lv, rfl, h1, h2, h3, h4⟩ := h
  have hb := bone w (.cells #[.int .i64 x.op, .int .i64 x.v.kind, .int .i64 x.v.n, .string x.v.s, .string x.s, lv] 65)
  have hB := Blk.new w 65 #[.int .i64 x.op, .int .i64 x.v.kind, .int .i64 x.v.n, .string x.v.s, .string x.s, lv]
  have hx1 := h0.now hb
  have hv1 := hv.now hb
  have HE : Hid (givenE vs x = if validX x && varsB vs then typX vs x else (0, 1)) := rfl
  clear h0 hv h4
  go_enter Tryz.func82, Tryz.ntmps82
  go_upto_region 1 with fail
  generalize hw1 : w.alloc (.cells #[.int .i64 x.op, .int .i64 x.v.kind, .int .i64 x.v.n, .string x.v.s, .string x.s, lv] 65) = w1 at *
  clear hw1
  go_wp2_with fail
  refine (validVars_ref vs _ _ hv1).mono ?_
  rintro e w2 ⟨rfl, hb2⟩
  have hbw2 := bthen hb hb2
  have hB2 := hB.now hb2
  have hx2 := hx1.now hb2
  have hv2 := hv1.now hb2
  generalize hq2 : varsB vs = q at *
  obtain ⟨q0, q1, q2, q3, q4, q5⟩ := hB2.c6
  cases q
  · have HR : Hid (givenE vs x = (0, 1)) := by show _ = _; rw [HE.out, Bool.and_false]; rfl
    clear hx1 hv1 hx2 hv2
    go_wp2_with fail
    go_ret2
    rw [HR.out]
    exact ⟨rfl, by unfold Fit; omega, hbw2⟩
  clear hx1 hv1
  go_wp2_with fail
  refine (validX_ref n x _ _ hx2).mono ?_
  rintro e w3 ⟨rfl, hb3⟩
  have hbw3 := bthen hbw2 hb3
  have hB3 := hB2.now hb3
  have hx3 := hx2.now hb3
  have hv3 := hv2.now hb3
  generalize hq : validX x = q at *
  clear q0 q1 q2 q3 q4 q5
  obtain ⟨q0, q1, q2, q3, q4, q5⟩ := hB3.c6
  cases q
  · have HR : Hid (givenE vs x = (0, 1)) := HE.out
    clear hx2 hv2 hx3 hv3
    go_wp2_with fail
    go_ret2
    rw [HR.out]
    exact ⟨rfl, by unfold Fit; omega, hbw3⟩
  have HR : Hid (givenE vs x = typX vs x) := HE.out
  have HC := Lib.hid (type_ref n vs x _ _ _ hv3 hx3 (valid_ok hq))
  clear hx2 hv2 hx3 hv3 hq
  go_wp2_with fail
  refine HC.out.mono ?_
  rintro e w4 ⟨rfl, hf, hb4⟩
  go_wp2_with fail
  go_ret2
  rw [HR.out]
  exact ⟨rfl, hf, bthen hbw3 hb4⟩
theorem typed_ref (n : Nat) (vs : List Var) (x : Ex) (uv u : Value) (w : World) (hv : SlX (Lt w.heap.size) w uv vs) (h : IsEx n (Lt w.heap.size) w u x) :
    Calls Tryz.prog 29 #[uv, u] w fun e w' => e = .returned (.tuple #[.int .i64 (givenE vs x).1, .int .i64 (givenE vs x).2]) ∧ Fit (givenE vs x).1 ∧ Below w.heap.size w w' := by
  have h0 := h
  obtain ⟨lv, rfl, h1, h2, h3, h4⟩ := h
  have hb := bone w (.cells #[.int .i64 x.op, .int .i64 x.v.kind, .int .i64 x.v.n, .string x.v.s, .string x.s, lv] 65)
  have HC := Lib.hid (fault_ref n vs x _ _ _ (hv.now hb) (h0.now hb))
  clear h0 hv h4
  go_enter Tryz.func29, Tryz.ntmps29
  go_wp2_with fail
  refine HC.out.mono ?_
  rintro e w1 ⟨rfl, hf, hb1⟩
  go_wp2_with fail
  go_ret2
  exact ⟨rfl, hf, bthen hb hb1⟩
end Go.Proofs.YtlmenhjlgmejkaaGreatDoor

namespace Go.Proofs.YtlmenhjlgmejkaaGreatDoor
open Go.RowKit
section
variable {w w' : World} {u : Value} {n : Nat}
variable {D : Nat → Prop}
end
set_option maxHeartbeats 1000000 in
theorem dtyped_ref (n : Nat) (vs : List Var) (x : Ex) (k : Int) (uv u : Value) (w : World) (hv : SlX (Lt w.heap.size) w uv vs) (h : IsEx n (Lt w.heap.size) w u x) :
    Calls Tryz.prog 77 #[uv, u, .int .i64 k] w fun e w' => e = .returned (.bool (typedB vs x k)) ∧ Below w.heap.size w w' := by
  have h0 := h
  obtain ⟨lv, rfl, h1, h2, h3, h4⟩ := h
  have hb := bone w (.cells #[.int .i64 x.op, .int .i64 x.v.kind, .int .i64 x.v.n, .string x.v.s, .string x.s, lv] 65)
  have HC := Lib.hid (typed_ref n vs x _ _ _ (hv.now hb) (h0.now hb))
  have HT : Hid (typedB vs x k = (decide ((givenE vs x).2 = 0) && decide ((givenE vs x).1 = k))) := rfl
  clear h0 hv h4
  generalize givenE vs x = p at *
  obtain ⟨a, z⟩ := p
  dsimp only at *
  go_enter Tryz.func77, Tryz.ntmps77
  go_wp2_with fail
  refine HC.out.mono ?_
  rintro e w1 ⟨rfl, hf, hb1⟩
  have hbw := bthen hb hb1
  by_cases hz : z = 0
  · have b1 : (z == 0) = true := by simp [hz]
    have HR : Hid (typedB vs x k = (a == k)) := by show _ = _; rw [HT.out, decide_eq_true hz, Bool.true_and]; rfl
    clear hz
    go_wp2_with fail
    go_ret
    exact ⟨ret_bool HR.out.symm, hbw⟩
  · have b1 : (z == 0) = false := by simpa using hz
    have HR : Hid (typedB vs x k = false) := by show _ = _; rw [HT.out, decide_eq_false hz]; rfl
    clear hz
    go_wp2_with fail
    go_ret
    exact ⟨ret_bool HR.out.symm, hbw⟩
theorem asg_ref {vs : List Var} {vals : List Val} (h : varsB vs = true) : asgB vs vals = (vals.all validV && assignedB vs vals) := by
  unfold asgB inAllE okB
  rw [h, Bool.true_and]
  cases vals.all validV <;> rfl
theorem dassign_ref (vs : List Var) (vals : List Val) (uv vv : Value) (w : World) (hv : SlX (Lt w.heap.size) w uv vs) (hw : SlV (Lt w.heap.size) w vv vals) (hl : varsB vs = true) :
    Calls Tryz.prog 76 #[uv, vv] w fun e w' => e = .returned (.bool (asgB vs vals)) ∧ Below w.heap.size w w' := by
  have HT := Lib.hid (asg_ref (vals := vals) hl)
  have HA := Lib.hid (fun (W : World) (h1 : SlX (Lt W.heap.size) W uv vs) (h2 : SlV (Lt W.heap.size) W vv vals) => inAll_ref vs vals uv vv W h1 h2 hl)
  go_enter Tryz.func76, Tryz.ntmps76
  go_wp2_with fail
  refine (validAll_ref vals vv _ hw).mono ?_
  rintro e w1 ⟨rfl, hb1⟩
  generalize vals.all validV = q at *
  cases q
  · have HR : Hid (asgB vs vals = false) := HT.out
    go_wp2_with fail
    go_ret
    exact ⟨ret_bool HR.out.symm, hb1⟩
  · have HR : Hid (asgB vs vals = assignedB vs vals) := HT.out
    go_wp2_with fail
    refine (HA.out _ (hv.now hb1) (hw.now hb1)).mono ?_
    rintro e w2 ⟨rfl, hb2⟩
    go_wp2_with fail
    go_ret
    exact ⟨ret_bool HR.out.symm, bthen hb1 hb2⟩
end Go.Proofs.YtlmenhjlgmejkaaGreatDoor

namespace Go.Proofs.YtlmenhjlgmejkaaGreatDoor
open Go.RowKit
section
variable {n : DNet} {s0 : St} {most i t : Nat} {s : St} {p q : Sp}
theorem exT_shut (hv : dvalidB n = true) (hp : DInv n s0 most p) (hi : p.states[i]? = some s) (h0 : DShut n p i t) (h : exT n most i s t p = some q) : DShut n q i (t + 1) := by
  have hX := (exT_inv hv hp hi h).2
  have h1 := h0.ext (lt_of_get hi) hX
  intro j u x hj hu hs hf
  by_cases hlt : j < i ∨ (j = i ∧ u < t)
  · exact h1 j u x hlt hu hs hf
  · have : j = i ∧ u = t := by omega
    obtain ⟨rfl, rfl⟩ := this
    have hx := pre_get hX.st hi
    rw [hx] at hs
    injection hs with hs
    subst hs
    unfold exT at h
    split at h
    · rename_i hc
      injection h with h
      subst h
      simp only [Bool.and_eq_true, decide_eq_true_eq] at hf
      exact ⟨hf.2, fun e => absurd e hc⟩
    · rename_i hc
      have hc : (fireD n s (u : Int)).2 = 0 := by simpa using hc
      refine ⟨by omega, fun _ => ?_⟩
      split at h
      · rename_i k hk
        split at h
        · injection h with h
          subst h
          exact ⟨k, by simp, (idxS_some hk).1⟩
        · cases h
      · split at h
        · split at h
          · injection h with h
            subst h
            exact ⟨p.states.length, by simp, by simp⟩
          · cases h
        · injection h with h
          subst h
          cases hf
theorem exRow_shut (hv : dvalidB n = true) : ∀ (f t : Nat) (p : Sp), DInv n s0 most p → p.states[i]? = some s → DShut n p i t → exRow n most i s f t p = some q → DShut n q i (t + f) := by
  intro f
  induction f with
  | zero => intro t p hp _ h0 h; injection h with h; subst h; exact h0
  | succ f ih =>
    intro t p hp hi h0 h
    rw [exRow, Option.bind_eq_some_iff] at h
    obtain ⟨r, h1, h2⟩ := h
    obtain ⟨a, b⟩ := exT_inv hv hp hi h1
    have := ih (t + 1) r a (pre_get b.st hi) (exT_shut hv hp hi h0 h1) h2
    rwa [show t + 1 + f = t + (f + 1) by omega] at this
theorem exAll_shut (hv : dvalidB n = true) : ∀ (f i : Nat) (p : Sp), DInv n s0 most p → most < f + i → DShut n p i 0 → exAll n most f i p = some q → DShut n q q.states.length 0 := by
  intro f
  induction f with
  | zero =>
    intro i p hp hm h0 h
    injection h with h
    subst h
    intro j u s hj hu hs hf
    have := hp.le
    exact h0 j u s (by omega) hu hs hf
  | succ f ih =>
    intro i p hp hm h0 h
    rw [exAll] at h
    split at h
    · rename_i hs
      injection h with h
      subst h
      have := List.getElem?_eq_none_iff.1 hs
      intro j u s hj hu hs hf
      exact h0 j u s (by omega) hu hs hf
    · rename_i s hs
      rw [Option.bind_eq_some_iff] at h
      obtain ⟨r, h1, h2⟩ := h
      obtain ⟨a, b⟩ := exRow_inv hv _ 0 p hp hs h1
      have := exRow_shut hv _ 0 p hp hs h0 h1
      rw [Nat.zero_add] at this
      exact ih (i + 1) r a (by omega) this.next h2
theorem exFrom_shut (hv : dvalidB n = true) (hs : stateB n s0 = true) (hm : 1 ≤ most) (h : exFrom n s0 most = some q) : DShut n q q.states.length 0 := by
  refine exAll_shut hv _ _ _ (s0 := s0) ⟨?_, rfl, hm, by simp, fun m hm => ?_, by simp, fun k h1 h2 => ?_⟩ (by omega) ?_ h
  · intro x hx; rw [List.mem_singleton] at hx; subst hx; exact hs
  · simp at hm
  · simp at h2; omega
  · intro j u s hj; omega
end
section
variable {mv : List Mv}
end
end Go.Proofs.YtlmenhjlgmejkaaGreatDoor

namespace Go.Proofs.YtlmenhjlgmejkaaGreatDoor
open Go.RowKit
theorem sameSt_iff {a b : St} : sameSt a b = true ↔ a = b := by
  obtain ⟨m, v⟩ := a
  obtain ⟨m', v'⟩ := b
  unfold sameSt
  simp
end Go.Proofs.YtlmenhjlgmejkaaGreatDoor

namespace Go.Proofs.YtlmenhjlgmejkaaGreatDoor
open Go.RowKit
def findZ (l : List St) (s : St) : Int := match idxS l s with
  | some k => (k : Int)
  | none => -1
theorem findZ_at {l : List St} {s x : St} {k : Nat} (hp : ∀ j, j < k → l[j]? ≠ some s) (hx : l[k]? = some x) (e : sameSt x s = true) : findZ l s = k := by
  obtain rfl := sameSt_iff.1 e
  have h : idxS l x = some k := by
    unfold idxS
    rw [List.findIdx?_eq_some_iff_getElem]
    have hk := lt_of_get hx
    have hg := List.getElem?_eq_getElem hk
    rw [hx] at hg
    injection hg with hg
    refine ⟨hk, by simp [← hg], fun j hj => ?_⟩
    have hj2 := List.getElem?_eq_getElem (Nat.lt_trans hj hk)
    have := hp j hj
    rw [hj2] at this
    simpa using this
  unfold findZ
  rw [h]
theorem findZ_none {l : List St} {s : St} (hp : ∀ j, j < l.length → l[j]? ≠ some s) : findZ l s = -1 := by
  have h : idxS l s = none := by
    unfold idxS
    rw [List.findIdx?_eq_none_iff]
    intro x hx
    obtain ⟨j, hj⟩ := List.mem_iff_getElem?.1 hx
    simp only [decide_eq_false_iff_not]
    rintro rfl
    exact hp j (lt_of_get hj) hj
  unfold findZ
  rw [h]
set_option maxHeartbeats 4000000 in
set_option maxRecDepth 100000 in
theorem find30_ref (l : List St) (s : St) (lv us : Value) (w : World) (hl : SlSt (Lt w.heap.size) w lv l) (hs : IsSt (Lt w.heap.size) w us s) :
    Calls Tryz.prog 30 #[lv, us] w fun e w' => e = .returned (.int .i64 (findZ l s)) ∧ Below w.heap.size w w' := by
  have hs0 := hs
  obtain ⟨Am, cm, Av, cv, rfl, s1, s2, ⟨t3, t4⟩, t5, t6⟩ := hs.open_
  obtain ⟨Al, cl, rfl, l1, l2, hl⟩ := Sl.open_ hl
  have hl : SlSt (Lt w.heap.size) w (.slice Al l.length cl) l := hl
  clear hs s1 s2
  have hb := bone w (.cells #[.slice Am s.marks.length cm, .slice Av s.vals.length cv] 33)
  have hC := Blk.new w 33 #[.slice Am s.marks.length cm, .slice Av s.vals.length cv]
  have hl1 := hl.now hb
  have hs1 := hs0.now hb
  clear hl hs0
  go_enter Tryz.func30, Tryz.ntmps30
  go_upto_region 1 with fail
  generalize hw1e : w.alloc (.cells #[.slice Am s.marks.length cm, .slice Av s.vals.length cv] 33) = w1 at *
  clear hw1e
  go_wp2_with fail
  go_loopw [5] (fun i wr => ∃ k : Nat, k ≤ l.length ∧ i = .int .i64 k ∧ (∀ j, j < k → l[j]? ≠ some s) ∧ Below w1.heap.size w1 wr) (fun i _ => l.length - (intOf i).toNat)
  case atStart => exact ⟨0, Nat.zero_le _, rfl, fun j h => absurd h (by omega), Below.refl _ _⟩
  case round =>
    obtain ⟨k, hk, rfl, hp, hbr⟩ := hrel
    have HP := Lib.hid hp
    clear hp
    by_cases hlt : k < l.length
    rotate_left
    · have HE := Lib.hid (findZ_none (l := l) (s := s) (fun j hj => HP.out j (by omega)))
      go_wp2_with fail
      go_ret
      rw [HE.out]
      exact ⟨rfl, bthen hb hbr⟩
    have hlr := hl1.now hbr
    have hCr := hC.now hbr
    obtain ⟨b, o, x, mv, vv, rfl, hD, hx, hm, hv, c0, c1⟩ := hlr.at_ hlt
    obtain ⟨Ax, cx, rfl, _, _, hm⟩ := hm.open_
    obtain ⟨Ay, cy, rfl, _, _, hv⟩ := hv.open_
    have HX := Lib.hid hx
    have HCS : Hid (∀ W, Below wr.heap.size wr W → Calls Tryz.prog 16 #[.agg #[.slice Ax x.marks.length cx, .slice Ay x.vals.length cy], .agg #[.slice Am s.marks.length cm, .slice Av s.vals.length cv]] W fun e w' => e = .returned (.bool (sameSt x s)) ∧ Below wr.heap.size wr w') := fun W hW => (sameSt_ref _ _ _ _ W ⟨_, _, rfl, hm.now hW, hv.now hW⟩ ((hs1.now hbr).now hW)).mono fun e w' ⟨he, hb'⟩ => ⟨he, bthen hW hb'⟩
    have HS : Hid (∀ W, Below wr.heap.size wr W → W.cell? ⟨w.heap.size, 0, none⟩ = some (.slice Am s.marks.length cm) ∧ W.cell? ⟨w.heap.size, 1, none⟩ = some (.slice Av s.vals.length cv) ∧ W.cell? ⟨b, o + k * 2, none⟩ = some (.slice Ax x.marks.length cx) ∧ W.cell? ⟨b, o + k * 2 + 1, none⟩ = some (.slice Ay x.vals.length cy)) := fun W hW => ⟨(hCr.now hW).c2.1, (hCr.now hW).c2.2, (hW.cell (p := ⟨b, _, none⟩) hD).trans c0, (hW.cell (p := ⟨b, _, none⟩) hD).trans c1⟩
    have i1 : (0 : Int) ≤ (k : Int) := by omega
    have i2 : (k : Int) < (l.length : Int) := by omega
    clear hx hm hv c0 c1 hlr hCr
    go_upto_region 4 with fail
    have hbd : Below wr.heap.size wr wr.drew := (Below.refl _ _).drew
    obtain ⟨a0, a1, d0, d1⟩ := HS.out _ hbd
    have HQ : Hid (∃ q, q = sameSt x s) := ⟨_, rfl⟩
    obtain ⟨q, hq⟩ := HQ.out
    have HQ := Lib.hid hq
    rw [← hq] at HCS
    clear hq
    go_cut [17] (fun s17 W => s17 = .bool q ∧ Below wr.heap.size wr W)
    case first =>
      go_region_held3 (fun W => W.cell? ⟨w.heap.size, 0, none⟩ = some (.slice Am s.marks.length cm) ∧ W.cell? ⟨w.heap.size, 1, none⟩ = some (.slice Av s.vals.length cv) ∧ W.cell? ⟨b, o + k * 2, none⟩ = some (.slice Ax x.marks.length cx) ∧ W.cell? ⟨b, o + k * 2 + 1, none⟩ = some (.slice Ay x.vals.length cy)) (first | exact HS.out _ (by assumption))
        (first | (go_at_call 16; (with_reducible refine (HCS.out _ (by assumption)).mono ?_); rintro e w6 ⟨rfl, hb6⟩))
      all_goals (go_wp2_with fail; go_meet)
      all_goals exact ⟨rfl, by assumption⟩
    case rest =>
      obtain ⟨rfl, hb6⟩ := hcut
      have hb6 := hbr.trans (hb6.mono hbr.size)
      clear HCS HS
      cases q
      · go_wp2_with fail
        go_roundw
        case rel => exact ⟨k + 1, by omega, by go_num, fun j hj => by
          by_cases e : j = k
          · subst e
            rw [HX.out]
            intro h
            injection h with h
            have h2 := HQ.out
            rw [h, sameSt_self] at h2
            cases h2
          · exact HP.out j (by omega), hb6⟩
        case measure => simp [intOf]; omega
      · have HE := Lib.hid (findZ_at HP.out HX.out HQ.out.symm)
        go_wp2_with fail
        go_ret
        rw [HE.out]
        exact ⟨rfl, bthen hb hb6⟩
end Go.Proofs.YtlmenhjlgmejkaaGreatDoor
