/- Texts of this seat, merged. -/
import Derived.Laws.EntriesVeiled
import Derived.Test.YtijmnenojbfdnaaGreatDoorEq01
import Derived.Test.YtijmnenojbfdnaaGreatDoorEq02
import Derived.Test.YtijmnenojbfdnaaGreatDoorEq03
import Derived.Test.YtijmnenojbfdnaaGreatDoorEq04
import Derived.Test.YtijmnenojbfdnaaGreatDoorEq05
import Derived.Test.YtijmnenojbfdnaaGreatDoorEq06
import Derived.Test.YtijmnenojbfdnaaGreatDoorEq07
import Derived.Test.YtijmnenojbfdnaaGreatDoorEq08
import Derived.Test.YtijmnenojbfdnaaGreatDoorEq09
import Derived.Test.YtijmnenojbfdnaaGreatDoorEq10
import Derived.Test.YtijmnenojbfdnaaGreatDoorEq11
import Derived.Test.YtijmnenojbfdnaaGreatDoorEq12
import Derived.Test.YtijmnenojbfdnaaGreatDoorEq13
import Derived.Test.YtijmnenojbfdnaaGreatDoorEq14
import Derived.Test.YtijmnenojbfdnaaGreatDoorEq15
import Derived.Test.YtijmnenojbfdnaaGreatDoorEq16
import Derived.Test.YtijmnenojbfdnaaGreatDoorEq17
import Derived.Test.YtijmnenojbfdnaaGreatDoorEq18
import Derived.Test.YtijmnenojbfdnaaGreatDoorEq19
import Derived.Test.YtijmnenojbfdnaaGreatDoorEq20
import Derived.Test.YtijmnenojbfdnaaGreatDoorEq21
import Derived.Test.YtijmnenojbfdnaaGreatDoorEq22
import Derived.Test.YtijmnenojbfdnaaGreatDoorEq23
import Derived.Test.YtijmnenojbfdnaaGreatDoorEq24
import Derived.Test.YtijmnenojbfdnaaGreatDoorEq25
import Derived.Test.YtijmnenojbfdnaaGreatDoorEq26
import Derived.Test.YtijmnenojbfdnaaGreatDoorEq27
import Derived.Test.YtijmnenojbfdnaaGreatDoorEq28
import Derived.Test.YtijmnenojbfdnaaGreatDoorEq29
import Derived.Test.YtijmnenojbfdnaaGreatDoorEq30
import Derived.Test.YtijmnenojbfdnaaGreatDoorEq31
import Derived.Test.YtijmnenojbfdnaaGreatDoorEq32
import Derived.Test.YtijmnenojbfdnaaGreatDoorEq33
import Derived.Test.YtijmnenojbfdnaaGreatDoorEq34
import Derived.Test.YtijmnenojbfdnaaGreatDoorEq35
set_option linter.unusedSimpArgs false
set_option linter.unusedVariables false
namespace Go.Proofs.YtijmnenojbfdnaaGreatDoor
open Go.RowKit
theorem ex_three {n : Nat} {x y z : Ex} {Ax Ay Az : Option Addr} {cx cy cz : Nat} {w : World} (hx : IsEx n (Lt w.heap.size) w (exV x (.slice Ax x.l.length cx)) x) (hy : IsEx n (Lt w.heap.size) w (exV y (.slice Ay y.l.length cy)) y) (hz : IsEx n (Lt w.heap.size) w (exV z (.slice Az z.l.length cz)) z) :
    SlE (n + 1) (Lt (w.alloc (.cells ((exC6 x Ax cx) ++ (exC6 y Ay cy) ++ (exC6 z Az cz)) 28)).heap.size) (w.alloc (.cells ((exC6 x Ax cx) ++ (exC6 y Ay cy) ++ (exC6 z Az cz)) 28)) (.slice (some ⟨w.heap.size, 0, none⟩) 3 3) [x, y, z] := by
  have hb := bone w (.cells ((exC6 x Ax cx) ++ (exC6 y Ay cy) ++ (exC6 z Az cz)) 28)
  have hx1 := hx.now hb
  have hy1 := hy.now hb
  have hz1 := hz.now hb
  refine Sl.ofBlk (R := RExN (n + 1)) (size := 6) (xs := [x, y, z]) (cs := (exC6 x Ax cx).toList ++ (exC6 y Ay cy).toList ++ (exC6 z Az cz).toList) (Blk.new w 28 _) (by unfold maxLen; show 3 ≤ _; decide) (fun i q hq => ?_)
  match i, hq with
  | 0, hq =>
    injection hq with hq; subst hq
    refine ⟨(exC6 x Ax cx).toList, rfl, fun j u hu => ?_, isEx_cells hx1⟩
    have hj := (List.getElem?_eq_some_iff.1 hu).1
    rw [Nat.zero_mul, Nat.zero_add, List.append_assoc, List.getElem?_append_left hj]
    exact hu
  | 1, hq =>
    injection hq with hq; subst hq
    refine ⟨(exC6 y Ay cy).toList, rfl, fun j u hu => ?_, isEx_cells hy1⟩
    have hj := (List.getElem?_eq_some_iff.1 hu).1
    rw [List.append_assoc, List.getElem?_append_right (by show 6 ≤ _; omega)]
    have e : 1 * 6 + j - (exC6 x Ax cx).toList.length = j := by show 1 * 6 + j - 6 = j; omega
    rw [e, List.getElem?_append_left hj]
    exact hu
  | 2, hq =>
    injection hq with hq; subst hq
    refine ⟨(exC6 z Az cz).toList, rfl, fun j u hu => ?_, isEx_cells hz1⟩
    rw [List.append_assoc, List.getElem?_append_right (by show 6 ≤ _; omega)]
    have e : 2 * 6 + j - (exC6 x Ax cx).toList.length = 6 + j := by show 2 * 6 + j - 6 = 6 + j; omega
    rw [e, List.getElem?_append_right (by show 6 ≤ _; omega)]
    have e : 6 + j - (exC6 y Ay cy).toList.length = j := by show 6 + j - 6 = j; omega
    rw [e]
    exact hu
  | i + 3, hq => simp at hq
set_option maxHeartbeats 40000000 in
set_option maxRecDepth 100000 in
theorem exprReplaces_law {n1 n2 n3 : Nat} (l : List Var) (x a b : Ex) (u ux ua ub : Value) (w : World) (hl : SlX (Lt w.heap.size) w u l) (hx : IsEx n1 (Lt w.heap.size) w ux x) (ha : IsEx n2 (Lt w.heap.size) w ua a) (hb : IsEx n3 (Lt w.heap.size) w ub b) (hm : Amb w) :
    Calls Tryz.prog 7 #[u, ux, ua, ub] w (RetTr w) := by
  have hx := hx.up (show n1 ≤ max n1 (max n2 n3) by omega)
  have ha := ha.up (show n2 ≤ max n1 (max n2 n3) by omega)
  have hb := hb.up (show n3 ≤ max n1 (max n2 n3) by omega)
  generalize max n1 (max n2 n3) = n at *
  have hxx := hx
  have haa := ha
  have hbb := hb
  obtain ⟨A, c, rfl, h1, h2, hl⟩ := hl.open_
  obtain ⟨lx, rfl, _, Ax, cx, rfl⟩ := hx.cells
  obtain ⟨la, rfl, _, Aa, ca, rfl⟩ := ha.cells
  obtain ⟨lb, rfl, _, Ab, cb, rfl⟩ := hb.cells
  have hbw1 := bbox (bbox (bbox (bone w (.cells #[.slice A l.length c] 22)) (.cells (exC6 x Ax cx) 28)) (.cells (exC6 a Aa ca) 28)) (.cells (exC6 b Ab cb) 28)
  have hBv1 := (((Blk.new w 22 #[.slice A l.length c]).alloc (.cells (exC6 x Ax cx) 28)).alloc (.cells (exC6 a Aa ca) 28)).alloc (.cells (exC6 b Ab cb) 28)
  have hBx1 := ((Blk.new_at (t := 28) (cs := exC6 x Ax cx) (World.size_alloc w (.cells #[.slice A l.length c] 22))).alloc (.cells (exC6 a Aa ca) 28)).alloc (.cells (exC6 b Ab cb) 28)
  have hBa1 := (Blk.new_at (t := 28) (cs := exC6 a Aa ca) (w := (w.alloc (.cells #[.slice A l.length c] 22)).alloc (.cells (exC6 x Ax cx) 28)) (s := w.heap.size + 1 + 1) (by simp)).alloc (.cells (exC6 b Ab cb) 28)
  have hBb1 := Blk.new_at (t := 28) (cs := exC6 b Ab cb) (w := ((w.alloc (.cells #[.slice A l.length c] 22)).alloc (.cells (exC6 x Ax cx) 28)).alloc (.cells (exC6 a Aa ca) 28)) (s := w.heap.size + 1 + 1 + 1) (by simp)
  have hl1 := hl.now hbw1
  have hx1 := hxx.now hbw1
  have ha1 := haa.now hbw1
  have hb1 := hbb.now hbw1
  have HC := Lib.hid (exAwake_any _ (hm.now hbw1))
  clear hx ha hb hl hxx haa hbb
  go_enter Tryz.func7, Tryz.ntmps7
  go_wp2_with fail
  (with_reducible refine HC.out.mono ?_)
  rintro e w2 ⟨rfl, hs2⟩
  have hBv2 := hBv1.now hs2
  have hBx2 := hBx1.now hs2
  have hBa2 := hBa1.now hs2
  have hBb2 := hBb1.now hs2
  have hl2 := hl1.now hs2
  have hx2 := hx1.now hs2
  have ha2 := ha1.now hs2
  have hb2 := hb1.now hs2
  have hbw2 := bthen hbw1 hs2
  clear hBv1 hBx1 hBa1 hBb1 hl1 hx1 ha1 hb1 hbw1 hs2
  clear HC
  have v0 := hBv2.c1
  obtain ⟨x0, x1, x2, x3, x4, x5⟩ := hBx2.c6
  obtain ⟨a0, a1, a2, a3, a4, a5⟩ := hBa2.c6
  obtain ⟨b0, b1, b2, b3, b4, b5⟩ := hBb2.c6
  have hs3 := bone w2 (.cells ((exC6 x Ax cx) ++ (exC6 a Aa ca) ++ (exC6 b Ab cb)) 28)
  have HC := Lib.hid (small_any _ _ _ _ (ex_three hx2 ha2 hb2))
  have hBv3 := hBv2.now hs3
  have hBx3 := hBx2.now hs3
  have hBa3 := hBa2.now hs3
  have hBb3 := hBb2.now hs3
  have hl3 := hl2.now hs3
  have hx3 := hx2.now hs3
  have ha3 := ha2.now hs3
  have hb3 := hb2.now hs3
  have hbw3 := bthen hbw2 hs3
  clear hBv2 hBx2 hBa2 hBb2 hl2 hx2 ha2 hb2 hbw2 hs3
  go_wp2_with fail
  refine HC.out.mono ?_
  rintro e w4 ⟨q, rfl, hs4⟩
  have hBv4 := hBv3.now hs4
  have hBx4 := hBx3.now hs4
  have hBa4 := hBa3.now hs4
  have hBb4 := hBb3.now hs4
  have hl4 := hl3.now hs4
  have hx4 := hx3.now hs4
  have ha4 := ha3.now hs4
  have hb4 := hb3.now hs4
  have hbw4 := bthen hbw3 hs4
  clear hBv3 hBx3 hBa3 hBb3 hl3 hx3 ha3 hb3 hbw3 hs4
  clear HC
  clear v0 x0 x1 x2 x3 x4 x5 a0 a1 a2 a3 a4 a5 b0 b1 b2 b3 b4 b5
  cases q
  · go_wp2_with fail
    go_ret
    exact ⟨rfl, hbw4⟩
  have HC := Lib.hid (narrow_any l _ w4 hl4)
  have v0 := hBv4.c1
  obtain ⟨x0, x1, x2, x3, x4, x5⟩ := hBx4.c6
  obtain ⟨a0, a1, a2, a3, a4, a5⟩ := hBa4.c6
  obtain ⟨b0, b1, b2, b3, b4, b5⟩ := hBb4.c6
  go_wp2_with fail
  (with_reducible refine HC.out.mono ?_)
  rintro e w5 ⟨q, rfl, hq, hs5⟩
  have hBv5 := hBv4.now hs5
  have hBx5 := hBx4.now hs5
  have hBa5 := hBa4.now hs5
  have hBb5 := hBb4.now hs5
  have hl5 := hl4.now hs5
  have hx5 := hx4.now hs5
  have ha5 := ha4.now hs5
  have hb5 := hb4.now hs5
  have hbw5 := bthen hbw4 hs5
  clear hBv4 hBx4 hBa4 hBb4 hl4 hx4 ha4 hb4 hbw4 hs5
  clear HC
  clear v0 x0 x1 x2 x3 x4 x5 a0 a1 a2 a3 a4 a5 b0 b1 b2 b3 b4 b5
  cases q
  · go_wp2_with fail
    go_ret
    exact ⟨rfl, hbw5⟩
  have hl10 := hq rfl
  clear hq
  have HC := Lib.hid (validVars_ref l _ w5 hl5)
  have v0 := hBv5.c1
  obtain ⟨x0, x1, x2, x3, x4, x5⟩ := hBx5.c6
  obtain ⟨a0, a1, a2, a3, a4, a5⟩ := hBa5.c6
  obtain ⟨b0, b1, b2, b3, b4, b5⟩ := hBb5.c6
  generalize hvb : varsB l = vb at HC
  go_wp2_with fail
  (with_reducible refine HC.out.mono ?_)
  rintro e w6 ⟨rfl, hs6⟩
  have hBv6 := hBv5.now hs6
  have hBx6 := hBx5.now hs6
  have hBa6 := hBa5.now hs6
  have hBb6 := hBb5.now hs6
  have hl6 := hl5.now hs6
  have hx6 := hx5.now hs6
  have ha6 := ha5.now hs6
  have hb6 := hb5.now hs6
  have hbw6 := bthen hbw5 hs6
  clear hBv5 hBx5 hBa5 hBb5 hl5 hx5 ha5 hb5 hbw5 hs6
  clear HC
  clear v0 x0 x1 x2 x3 x4 x5 a0 a1 a2 a3 a4 a5 b0 b1 b2 b3 b4 b5
  cases vb
  · go_wp2_with fail
    go_ret
    exact ⟨rfl, hbw6⟩
  have HC := Lib.hid (equiv_any n l a b _ _ _ w6 hl6 ha6 hb6 (by omega))
  have v0 := hBv6.c1
  obtain ⟨x0, x1, x2, x3, x4, x5⟩ := hBx6.c6
  obtain ⟨a0, a1, a2, a3, a4, a5⟩ := hBa6.c6
  obtain ⟨b0, b1, b2, b3, b4, b5⟩ := hBb6.c6
  have HEF := Lib.hid (equiv_fail (l := l) (a := a) (b := b))
  have HEN := Lib.hid (equiv_not (l := l) (a := a) (b := b))
  have HEY := Lib.hid (equiv_yes (l := l) (a := a) (b := b))
  generalize equivE l a b = ee at HC HEF HEN HEY
  obtain ⟨ok, ev, ez⟩ := ee
  go_wp2_with fail
  (with_reducible refine HC.out.mono ?_)
  rintro e w7 ⟨vv, rfl, hvv, hs7⟩
  have hBv7 := hBv6.now hs7
  have hBx7 := hBx6.now hs7
  have hBa7 := hBa6.now hs7
  have hBb7 := hBb6.now hs7
  have hl7 := hl6.now hs7
  have hx7 := hx6.now hs7
  have ha7 := ha6.now hs7
  have hb7 := hb6.now hs7
  have hbw7 := bthen hbw6 hs7
  clear hBv6 hBx6 hBa6 hBb6 hl6 hx6 ha6 hb6 hbw6
  clear HC
  clear v0 x0 x1 x2 x3 x4 x5 a0 a1 a2 a3 a4 a5 b0 b1 b2 b3 b4 b5
  obtain ⟨Av, cv, rfl, v1, v2, hvv⟩ := SlV.open_ hvv
  try dsimp only at hvv v1 v2
  by_cases hz : ez = 0
  rotate_left
  · obtain ⟨e1, e2⟩ := HEF.out hz
    try dsimp only at e1 e2
    subst e1 e2
    go_wp2_with fail
    go_ret
    exact ⟨rfl, hbw7⟩
  subst hz
  cases ok
  · obtain ⟨hp, hq, hpq⟩ := HEN.out rfl rfl
    try dsimp only at hp hq hpq
    have HC := Lib.hid (evalE_any n l ev a w7 _ _ _ hl7 hvv ha7 (by omega))
    have HD : Hid (∀ W, Below w7.heap.size w7 W → Calls Tryz.prog 15 #[.slice A l.length c, .slice Av ev.length cv, exV b (.slice Ab b.l.length cb)] W (RetVE1 (evalE l ev b) W)) := fun W hW => evalE_any n l ev b W _ _ _ (hl7.now hW) (hvv.now hW) (hb7.now hW) (by omega)
    have v0 := hBv7.c1
    obtain ⟨x0, x1, x2, x3, x4, x5⟩ := hBx7.c6
    obtain ⟨a0, a1, a2, a3, a4, a5⟩ := hBa7.c6
    obtain ⟨b0, b1, b2, b3, b4, b5⟩ := hBb7.c6
    have hneq : ∀ W, (binOp .neq 25 (.agg #[.int .i64 (evalE l ev a).1.kind, .int .i64 (evalE l ev a).1.n, .string (evalE l ev a).1.s]) (.agg #[.int .i64 (evalE l ev b).1.kind, .int .i64 (evalE l ev b).1.n, .string (evalE l ev b).1.s])).run Tryz.prog W = .ok (.bool (!decide ((evalE l ev a).1 = (evalE l ev b).1))) W := fun W => run_neV W _ _
    generalize evalE l ev a = pa at *
    generalize evalE l ev b = pb at *
    obtain ⟨⟨pk, pn, ps⟩, pe⟩ := pa
    obtain ⟨⟨qk, qn, qs⟩, qe⟩ := pb
    try dsimp only at hp hq hneq
    go_wp2_with fail
    (with_reducible refine HC.out.mono ?_)
    rintro e w8 ⟨rfl, hs8⟩
    have hs9 := bone w8 (.cells #[.int .i64 pk, .int .i64 pn, .string ps] 25)
    have hE9 := Blk.new w8 25 #[.int .i64 pk, .int .i64 pn, .string ps]
    have hbs := bthen hs8 hs9
    have HC := Lib.hid (HD.out _ hbs)
    have hBv9 := hBv7.now hbs
    have hBb9 := hBb7.now hbs
    clear v0 x0 x1 x2 x3 x4 x5 a0 a1 a2 a3 a4 a5 b0 b1 b2 b3 b4 b5
    have v0 := hBv9.c1
    obtain ⟨b0, b1, b2, b3, b4, b5⟩ := hBb9.c6
    go_wp2_with fail
    (with_reducible refine HC.out.mono ?_)
    rintro e wa ⟨rfl, hsa⟩
    have hEa := hE9.now hsa
    have hsb := bone wa (.cells #[.int .i64 qk, .int .i64 qn, .string qs] 25)
    have hFb := Blk.new wa 25 #[.int .i64 qk, .int .i64 qn, .string qs]
    have hEb := hEa.now hsb
    have hbw := bthen hbw7 (bthen (bthen hbs hsa) hsb)
    clear HC HD v0 b0 b1 b2 b3 b4 b5 hE9 hEa hs9 hbs hBv9 hBb9 hsb hsa hs8
    obtain ⟨r0, r1, r2⟩ := hEb.c3
    obtain ⟨t0, t1, t2⟩ := hFb.c3
    by_cases hfg : pe = qe
    · subst hfg
      have hd : decide ((⟨pk, pn, ps⟩ : Val) = ⟨qk, qn, qs⟩) = false := decide_eq_false fun e => hpq (by rw [e])
      rw [hd] at hneq
      have HNE : ∀ W, (binOp .neq 25 (.agg #[.int .i64 pk, .int .i64 pn, .string ps]) (.agg #[.int .i64 qk, .int .i64 qn, .string qs])).run Tryz.prog W = .ok (.bool true) W := hneq
      clear hneq hd hpq hq
      rcases hp with hp | hp
      · subst hp
        go_wp2_with fail
        go_ret
        exact ⟨rfl, hbw⟩
      · subst hp
        go_wp2_with fail
        go_ret
        exact ⟨rfl, hbw⟩
    · rcases hp with hp | hp
      · rcases hq with hq | hq
        · exact absurd (hp.trans hq.symm) hfg
        · subst hp hq
          go_wp2_with fail
          go_ret
          exact ⟨rfl, hbw⟩
      · rcases hq with hq | hq
        · subst hp hq
          go_wp2_with fail
          go_ret
          exact ⟨rfl, hbw⟩
        · exact absurd (hp.trans hq.symm) hfg
  · obtain ⟨hty, hev, hall⟩ := HEY.out rfl rfl
    try dsimp only at hev
    subst hev
    have HALL := Lib.hid hall
    clear hall
    have HC := Lib.hid (type_any n l a _ _ w7 hl7 ha7 (by omega))
    have v0 := hBv7.c1
    obtain ⟨x0, x1, x2, x3, x4, x5⟩ := hBx7.c6
    obtain ⟨a0, a1, a2, a3, a4, a5⟩ := hBa7.c6
    obtain ⟨b0, b1, b2, b3, b4, b5⟩ := hBb7.c6
    generalize hgv : givenE l a = gv at HC hty
    obtain ⟨k, gz⟩ := gv
    try dsimp only at hty
    subst hty
    go_wp2_with fail
    refine HC.out.mono ?_
    rintro e w8 ⟨rfl, _, hs8⟩
    clear HC
    clear v0 x0 x1 x2 x3 x4 x5 a0 a1 a2 a3 a4 a5 b0 b1 b2 b3 b4 b5
    have hsa := bbox (bone w8 (.cells #[.int .i64 k] 3)) (.cells #[.func (.func 34) #[] #[.pointer (some ⟨w.heap.size, 0, none⟩), .pointer (some ⟨w8.heap.size, 0, none⟩), .pointer (some ⟨w8.heap.size + 1, 0, none⟩)]] 71)
    have hK8 := (Blk.new w8 3 #[.int .i64 k]).alloc (.cells #[.func (.func 34) #[] #[.pointer (some ⟨w.heap.size, 0, none⟩), .pointer (some ⟨w8.heap.size, 0, none⟩), .pointer (some ⟨w8.heap.size + 1, 0, none⟩)]] 71)
    have hF8 := Blk.new_at (t := 71) (cs := #[.func (.func 34) #[] #[.pointer (some ⟨w.heap.size, 0, none⟩), .pointer (some ⟨w8.heap.size, 0, none⟩), .pointer (some ⟨w8.heap.size + 1, 0, none⟩)]]) (World.size_alloc w8 (.cells #[.int .i64 k] 3))
    have hs10 := bthen hs8 hsa
    have hBv10 := hBv7.now hs10
    have hBx10 := hBx7.now hs10
    have hBa10 := hBa7.now hs10
    have hBb10 := hBb7.now hs10
    have hl10' := hl7.now hs10
    have hx10 := hx7.now hs10
    have ha10 := ha7.now hs10
    have hb10 := hb7.now hs10
    have hbw10 := bthen hbw7 hs10
    clear hBv7 hBx7 hBa7 hBb7 hl7 hx7 ha7 hb7 hbw7 hs10 hsa
    go_upto_region 17 with fail
    generalize hw10 : (w8.alloc (.cells #[.int .i64 k] 3)).alloc (.cells #[.func (.func 34) #[] #[.pointer (some ⟨w.heap.size, 0, none⟩), .pointer (some ⟨w8.heap.size, 0, none⟩), .pointer (some ⟨w8.heap.size + 1, 0, none⟩)]] 71) = w10 at *
    clear hw10
    have hC10 : Caps l k w.heap.size w8.heap.size (w8.heap.size + 1) c A w10 := ⟨hBv10, hK8, hF8, hl10'⟩
    have HC := Lib.hid (validX_ref n x _ w10 hx10)
    obtain ⟨x0, x1, x2, x3, x4, x5⟩ := hBx10.c6
    generalize hvx : validX x = vx at HC
    go_wp2_with fail
    (with_reducible refine HC.out.mono ?_)
    rintro e w11 ⟨rfl, hs11⟩
    have hC11 := hC10.now hs11
    have hBv11 := hBv10.now hs11
    have hBx11 := hBx10.now hs11
    have hBa11 := hBa10.now hs11
    have hBb11 := hBb10.now hs11
    have hl11 := hl10'.now hs11
    have hx11 := hx10.now hs11
    have ha11 := ha10.now hs11
    have hb11 := hb10.now hs11
    have hbw11 := bthen hbw10 hs11
    clear HC x0 x1 x2 x3 x4 x5 hC10 hBv10 hBx10 hBa10 hBb10 hl10' hx10 ha10 hb10 hbw10 hs11 hK8 hF8
    cases vx
    · go_wp2_with fail
      go_ret
      exact ⟨rfl, hbw11⟩
    have hnx : nodX x ≤ 1000 := by have := valid_nod hvx; omega
    have HNX := Lib.hid hnx
    clear hnx hvx
    have eg : ∀ args w, (callFunc 34 args).run Tryz.prog w = .ok (.enter 34 args) w := enters_of Tryz.func34 (by kernel_rfl) rfl
    go_wp2_with fail
    refine wp_region_held_tail 16 (fun W => Below w11.heap.size w11 W) (by kernel_rfl) (by kernel_rfl) (Below.refl _ _).drew (fun hHeld => ?_)
    simp only [List.take_succ_cons, List.take_zero]
    refine takeL (v := ?v0) 0 rfl (by kernel_rfl) (by kernel_rfl) (by kernel_rfl) (fun _ _ _ h => h) rfl ?hy0 hHeld ?rest0
    case hy0 => (intro W hW; have v0 := (hBv11.now hW).c1; go_simp <;> rfl)
    simp only [Act.put, List.setIfInBounds_toArray, List.set_cons_zero, List.set_cons_succ]
    refine takeL (v := ?v1) 1 rfl (by kernel_rfl) (by kernel_rfl) (by kernel_rfl) (fun _ _ _ h => h) rfl ?hy1 hHeld ?rest1
    case hy1 => (intro W hW; have v0 := (hC11.bp.now hW).c1; go_simp <;> rfl)
    simp only [Act.put, List.setIfInBounds_toArray, List.set_cons_zero, List.set_cons_succ]
    refine takeL (v := ?v2) 2 rfl (by kernel_rfl) (by kernel_rfl) (by kernel_rfl) (fun _ _ _ h => h) rfl ?hy2 hHeld ?rest2
    case hy2 => (intro W hW; obtain ⟨v0, v1, v2, v3, v4, v5⟩ := (hBx11.now hW).c6; go_simp <;> rfl)
    simp only [Act.put, List.setIfInBounds_toArray, List.set_cons_zero, List.set_cons_succ]
    refine takeL (v := ?v3) 3 rfl (by kernel_rfl) (by kernel_rfl) (by kernel_rfl) (fun _ _ _ h => h) rfl ?hy3 hHeld ?rest3
    case hy3 => (intro W hW; obtain ⟨v0, v1, v2, v3, v4, v5⟩ := (hBa11.now hW).c6; go_simp <;> rfl)
    simp only [Act.put, List.setIfInBounds_toArray, List.set_cons_zero, List.set_cons_succ]
    refine takeL (v := ?v5) 5 rfl (by kernel_rfl) (by kernel_rfl) (by kernel_rfl) (fun _ _ _ h => h) rfl ?hy5 hHeld ?rest5
    case hy5 => (intro W hW; have v0 := (hC11.bp.now hW).c1; go_simp <;> rfl)
    simp only [Act.put, List.setIfInBounds_toArray, List.set_cons_zero, List.set_cons_succ]
    refine takeL (v := ?v6) 6 rfl (by kernel_rfl) (by kernel_rfl) (by kernel_rfl) (fun _ _ _ h => h) rfl ?hy6 hHeld ?rest6
    case hy6 => (intro W hW; obtain ⟨v0, v1, v2, v3, v4, v5⟩ := (hBx11.now hW).c6; go_simp <;> rfl)
    simp only [Act.put, List.setIfInBounds_toArray, List.set_cons_zero, List.set_cons_succ]
    refine takeL (v := ?v7) 7 rfl (by kernel_rfl) (by kernel_rfl) (by kernel_rfl) (fun _ _ _ h => h) rfl ?hy7 hHeld ?rest7
    case hy7 => (intro W hW; obtain ⟨v0, v1, v2, v3, v4, v5⟩ := (hBb11.now hW).c6; go_simp <;> rfl)
    simp only [Act.put, List.setIfInBounds_toArray, List.set_cons_zero, List.set_cons_succ]
    have hdr : Below w11.heap.size w11 w11.drew := (Below.refl _ _).drew
    have hC12 := hC11.now hdr
    have hl12 := hl11.now hdr
    have hx12 := hx11.now hdr
    have ha12 := ha11.now hdr
    have hb12 := hb11.now hdr
    generalize w11.drew = w12 at *
    refine onlyL 4 rfl rfl (by kernel_rfl) (fun K hK => ?_)
    go_simp
    refine (put_any l k _ _ _ c A n (by omega) n (Lt w12.heap.size) x a _ _ w12 HNX.out (fun _ h => h) hC12 hx12 ha12).mono ?_
    rintro e wa ⟨va, rfl, hva, hsa⟩
    have hva := IsEx.keepDn (D' := Lt wa.heap.size) hva (fun b hb => by
      rcases hb with hb | hb
      · exact Nat.lt_of_lt_of_le hb hsa.size
      · exact hb.2) (Same.refl _ _)
    have hda := hdr.trans (hsa.mono hdr.size)
    refine hK.out _ _ hda (fun hHeld => ?_)
    clear hK K
    refine onlyL 8 rfl rfl (by kernel_rfl) (fun K hK => ?_)
    go_simp
    refine (put_any l k _ _ _ c A n (by omega) n (Lt wa.heap.size) x b _ _ wa HNX.out (fun _ h => h) (hC12.now hsa) (hx12.now hsa) (hb12.now hsa)).mono ?_
    rintro e wb ⟨vb, rfl, hvb, hsb⟩
    have hvb := IsEx.keepDn (D' := Lt wb.heap.size) hvb (fun b hb => by
      rcases hb with hb | hb
      · exact Nat.lt_of_lt_of_le hb hsb.size
      · exact hb.2) (Same.refl _ _)
    have hva := hva.now hsb
    have hdb := hda.trans (hsb.mono hda.size)
    refine hK.out _ _ hdb (fun hHeld => ?_)
    clear hK K
    have HPE := Lib.hid (put_equiv (l := l) (a := a) (b := b) (x := x) (c := chooseB l k) HALL.out)
    have HC := Lib.hid (equiv_any (n + n + 1) l (putE (chooseB l k) a x) (putE (chooseB l k) b x) _ _ _ wb (hl12.now (bthen hsa hsb)) hva hvb (by omega))
    have HEF := Lib.hid (equiv_fail (l := l) (a := putE (chooseB l k) a x) (b := putE (chooseB l k) b x))
    generalize equivE l (putE (chooseB l k) a x) (putE (chooseB l k) b x) = ee at *
    obtain ⟨eo, ev, ez⟩ := ee
    refine onlyL 9 rfl rfl (by kernel_rfl) (fun K hK => ?_)
    go_simp
    refine HC.out.mono ?_
    rintro e wc ⟨vv2, rfl, hvv2, hsc⟩
    obtain ⟨Av2, cv2, rfl, u1, u2, hvv2⟩ := SlV.open_ hvv2
    try dsimp only at hvv2 u1 u2
    have hdc := hdb.trans (hsc.mono hdb.size)
    refine hK.out _ _ hdc (fun hHeld => ?_)
    clear hK K HC
    refine takeL (v := ?v10) 10 rfl (by kernel_rfl) (by kernel_rfl) (by kernel_rfl) (fun _ _ _ h => h) rfl ?hy10 hHeld ?rest10
    case hy10 => (intro W hW; go_simp <;> rfl)
    simp only [Act.put, List.setIfInBounds_toArray, List.set_cons_zero, List.set_cons_succ]
    refine takeL (v := ?v11) 11 rfl (by kernel_rfl) (by kernel_rfl) (by kernel_rfl) (fun _ _ _ h => h) rfl ?hy11 hHeld ?rest11
    case hy11 => (intro W hW; go_simp <;> rfl)
    simp only [Act.put, List.setIfInBounds_toArray, List.set_cons_zero, List.set_cons_succ]
    refine takeL (v := ?v12) 12 rfl (by kernel_rfl) (by kernel_rfl) (by kernel_rfl) (fun _ _ _ h => h) rfl ?hy12 hHeld ?rest12
    case hy12 => (intro W hW; go_simp <;> rfl)
    simp only [Act.put, List.setIfInBounds_toArray, List.set_cons_zero, List.set_cons_succ]
    refine takeL (v := ?v13) 13 rfl (by kernel_rfl) (by kernel_rfl) (by kernel_rfl) (fun _ _ _ h => h) rfl ?hy13 hHeld ?rest13
    case hy13 => (intro W hW; go_simp <;> rfl)
    simp only [Act.put, List.setIfInBounds_toArray, List.set_cons_zero, List.set_cons_succ]
    refine takeL (v := ?v14) 14 rfl (by kernel_rfl) (by kernel_rfl) (by kernel_rfl) (fun _ _ _ h => h) rfl ?hy14 hHeld ?rest14
    case hy14 => (intro W hW; go_simp <;> rfl)
    simp only [Act.put, List.setIfInBounds_toArray, List.set_cons_zero, List.set_cons_succ]
    refine takeL (v := ?v15) 15 rfl (by kernel_rfl) (by kernel_rfl) (by kernel_rfl) (fun _ _ _ h => h) rfl ?hy15 hHeld ?rest15
    case hy15 => (intro W hW; go_simp <;> rfl)
    simp only [Act.put, List.setIfInBounds_toArray, List.set_cons_zero, List.set_cons_succ]
    refine doneL (by kernel_rfl) ?_
    simp only [List.drop_succ_cons, List.drop_zero]
    have hbw := bthen hbw11 hdc
    by_cases hz : ez = 0
    · obtain ⟨e1, e2⟩ := HPE.out hz
      try dsimp only at e1 e2
      subst e1 e2 hz
      go_wp2_with fail
      go_ret
      exact ⟨rfl, hbw⟩
    · go_wp2_with fail
      go_ret
      exact ⟨rfl, hbw⟩
end Go.Proofs.YtijmnenojbfdnaaGreatDoor
