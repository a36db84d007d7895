/- Texts of this seat, merged. -/
import Derived.Test.YtijmnenojbfdnaaGreatDoorEq01
import Derived.Test.YtijmnenojbfdnaaGreatDoorEq02
import Derived.Test.YtijmnenojbfdnaaGreatDoorEq03
import Derived.Test.YtijmnenojbfdnaaGreatDoorEq04
import Derived.Test.YtijmnenojbfdnaaGreatDoorEq05
import Derived.Test.YtijmnenojbfdnaaGreatDoorEq06
import Derived.Test.YtijmnenojbfdnaaGreatDoorEq07
import Derived.Test.YtijmnenojbfdnaaGreatDoorEq08
import Derived.Test.YtijmnenojbfdnaaGreatDoorEq09
import Derived.Test.YtijmnenojbfdnaaGreatDoorEq10
import Derived.Test.YtijmnenojbfdnaaGreatDoorEq11
import Derived.Test.YtijmnenojbfdnaaGreatDoorEq12
import Derived.Test.YtijmnenojbfdnaaGreatDoorEq13
import Derived.Test.YtijmnenojbfdnaaGreatDoorEq14
import Derived.Test.YtijmnenojbfdnaaGreatDoorEq15
import Derived.Test.YtijmnenojbfdnaaGreatDoorEq16
import Derived.Test.YtijmnenojbfdnaaGreatDoorEq17
import Derived.Test.YtijmnenojbfdnaaGreatDoorEq18
import Derived.Test.YtijmnenojbfdnaaGreatDoorEq19
import Derived.Test.YtijmnenojbfdnaaGreatDoorEq20
import Derived.Test.YtijmnenojbfdnaaGreatDoorEq21
import Derived.Test.YtijmnenojbfdnaaGreatDoorEq22
import Derived.Test.YtijmnenojbfdnaaGreatDoorEq23
import Derived.Test.YtijmnenojbfdnaaGreatDoorEq24
import Derived.Test.YtijmnenojbfdnaaGreatDoorEq25
import Derived.Test.YtijmnenojbfdnaaGreatDoorEq26
import Derived.Test.YtijmnenojbfdnaaGreatDoorEq27
import Derived.Test.YtijmnenojbfdnaaGreatDoorEq28
import Derived.Test.YtijmnenojbfdnaaGreatDoorEq29
import Derived.Test.YtijmnenojbfdnaaGreatDoorEq30
import Derived.Test.YtijmnenojbfdnaaGreatDoorEq31
import Derived.Test.YtijmnenojbfdnaaGreatDoorEq32
import Derived.Test.YtijmnenojbfdnaaGreatDoorEq33
set_option linter.unusedSimpArgs false
set_option linter.unusedVariables false
namespace Go.Proofs.YtijmnenojbfdnaaGreatDoor
open Go.RowKit
theorem ex_lt {n : Nat} {D : Nat → Prop} {w w' : World} {u : Value} {x : Ex} (h : IsEx n D w u x) (hD : ∀ b, D b → b < w.heap.size) (hb : Below w.heap.size w w') : IsEx n (Lt w'.heap.size) w' u x :=
  (h.nowD hD hb).keepDn (fun b hb' => Nat.lt_of_lt_of_le (hD b hb') hb.size) (Same.refl _ _)
set_option maxHeartbeats 40000000 in
set_option maxRecDepth 100000 in
theorem put_step (l : List Var) (k : Int) (gv gk gp cv : Nat) (Av : Option Addr) (m n : Nat) (hl : l.length ≤ 1000000) (ih : ∀ n', n = n' + 1 → PutC l k gv gk gp cv Av m n') : PutC l k gv gk gp cv Av m n := by
  intro D x y ux uy w hnx hD hC hx hy
  have hyy := hy
  have hnl : nodL x.l ≤ 999 := by rw [nodX_eq] at hnx; omega
  have hxl : x.l.length ≤ 999 := Nat.le_trans (nod_len x.l) hnl
  obtain ⟨lx, rfl, fx1, fx2, fx3, hlx⟩ := hx
  obtain ⟨Ax, cx, rfl, x1, x2, hlx⟩ := SlE.open_ hlx
  obtain ⟨ly, rfl, fy1, fy2, fy3, hly⟩ := hy
  obtain ⟨Ay, cy, rfl, y1, y2, hly⟩ := SlE.open_ hly
  have hb4 := bbox (bbox (bbox (bone w (.cells (exC6 x Ax cx) 28)) (.cells (exC6 y Ay cy) 28)) (.cells #[.int .i64 0, .int .i64 0, .int .i64 0, .string ⟨#[]⟩, .string ⟨#[]⟩, .slice none 0 0] 28)) (.cells #[.int .i64 x.op, .int .i64 x.v.kind, .int .i64 x.v.n, .string x.v.s, .string x.s, .slice none 0 0] 28)
  have hX4 := (((Blk.new w 28 (exC6 x Ax cx)).alloc (.cells (exC6 y Ay cy) 28)).alloc (.cells #[.int .i64 0, .int .i64 0, .int .i64 0, .string ⟨#[]⟩, .string ⟨#[]⟩, .slice none 0 0] 28)).alloc (.cells #[.int .i64 x.op, .int .i64 x.v.kind, .int .i64 x.v.n, .string x.v.s, .string x.s, .slice none 0 0] 28)
  have hY4 := ((Blk.new_at (t := 28) (cs := exC6 y Ay cy) (World.size_alloc w (.cells (exC6 x Ax cx) 28))).alloc (.cells #[.int .i64 0, .int .i64 0, .int .i64 0, .string ⟨#[]⟩, .string ⟨#[]⟩, .slice none 0 0] 28)).alloc (.cells #[.int .i64 x.op, .int .i64 x.v.kind, .int .i64 x.v.n, .string x.v.s, .string x.s, .slice none 0 0] 28)
  have hR4 := (Blk.new_at (t := 28) (cs := #[.int .i64 0, .int .i64 0, .int .i64 0, .string ⟨#[]⟩, .string ⟨#[]⟩, .slice none 0 0]) (w := (w.alloc (.cells (exC6 x Ax cx) 28)).alloc (.cells (exC6 y Ay cy) 28)) (s := w.heap.size + 1 + 1) (by simp)).alloc (.cells #[.int .i64 x.op, .int .i64 x.v.kind, .int .i64 x.v.n, .string x.v.s, .string x.s, .slice none 0 0] 28)
  have hO4 := Blk.new_at (t := 28) (cs := #[.int .i64 x.op, .int .i64 x.v.kind, .int .i64 x.v.n, .string x.v.s, .string x.s, .slice none 0 0]) (w := ((w.alloc (.cells (exC6 x Ax cx) 28)).alloc (.cells (exC6 y Ay cy) 28)).alloc (.cells #[.int .i64 0, .int .i64 0, .int .i64 0, .string ⟨#[]⟩, .string ⟨#[]⟩, .slice none 0 0] 28)) (s := w.heap.size + 1 + 1 + 1) (by simp)
  have eg : ∀ args w, (callFunc 34 args).run Tryz.prog w = .ok (.enter 34 args) w := enters_of Tryz.func34 (by kernel_rfl) rfl
  go_enter Tryz.func34, Tryz.ntmps34
  go_upto_region 3 with fail
  generalize hw4 : (((w.alloc (.cells #[.int .i64 x.op, .int .i64 x.v.kind, .int .i64 x.v.n, .string x.v.s, .string x.s, .slice Ax x.l.length cx] 28)).alloc (.cells #[.int .i64 y.op, .int .i64 y.v.kind, .int .i64 y.v.n, .string y.v.s, .string y.s, .slice Ay y.l.length cy] 28)).alloc (.cells #[.int .i64 0, .int .i64 0, .int .i64 0, .string ⟨#[]⟩, .string ⟨#[]⟩, .slice none 0 0] 28)).alloc (.cells #[.int .i64 x.op, .int .i64 x.v.kind, .int .i64 x.v.n, .string x.v.s, .string x.s, .slice none 0 0] 28) = w4 at *
  have hb4 : Below w.heap.size w w4 := by first | exact hb4 | (rw [← hw4]; exact hb4)
  have hX4 : Blk w4 w.heap.size 28 (exC6 x Ax cx) := by first | exact hX4 | (rw [← hw4]; exact hX4)
  have hY4 : Blk w4 (w.heap.size + 1) 28 (exC6 y Ay cy) := by first | exact hY4 | (rw [← hw4]; exact hY4)
  have hR4 : Blk w4 (w.heap.size + 1 + 1) 28 #[.int .i64 0, .int .i64 0, .int .i64 0, .string ⟨#[]⟩, .string ⟨#[]⟩, .slice none 0 0] := by first | exact hR4 | (rw [← hw4]; exact hR4)
  have hO4 : Blk w4 (w.heap.size + 1 + 1 + 1) 28 #[.int .i64 x.op, .int .i64 x.v.kind, .int .i64 x.v.n, .string x.v.s, .string x.s, .slice none 0 0] := by first | exact hO4 | (rw [← hw4]; exact hO4)
  clear hw4
  obtain ⟨n0, n1, n2, n3, n4, n5⟩ := hX4.c6
  go_wp2_with fail
  clear n0 n1 n2 n3 n4 n5
  go_loopw [18] (fun i wr => ∃ (j : Nat) (v : Value), j ≤ x.l.length ∧ i = .int .i64 j ∧ Blk wr (w.heap.size + 1 + 1 + 1) 28 #[.int .i64 x.op, .int .i64 x.v.kind, .int .i64 x.v.n, .string x.v.s, .string x.s, v] ∧ OwnP (n + m + 1) D w.heap.size (w.heap.size + 1 + 1 + 1) wr v ((putL (chooseB l k) y x.op 0 x.l).take j) ∧ Below (w.heap.size + 1 + 1 + 1) w4 wr) (fun i _ => x.l.length - (intOf i).toNat)
  case atStart => exact ⟨0, _, Nat.zero_le _, rfl, hO4, OwnR.nil, Below.refl _ _⟩
  case round =>
    obtain ⟨j, v, hj, rfl, hO, hP, hbr⟩ := hrel
    have hgO := hO.lt
    have hbw := hb4.trans (hbr.mono (by omega))
    have hXr := hX4.below hbr (by omega)
    have hYr := hY4.below hbr (by omega)
    have hRr := hR4.below hbr (by omega)
    have hCr := hC.now hbw
    by_cases hlt : j < x.l.length
    · obtain ⟨b, o, z, lz, n', rfl, rfl, hDb, hz, hzx, fz, hzl, d0, d1, d2, d3, d4, d5⟩ := hlx.at_ hlt
      have IH := Lib.hid (ih n' rfl)
      obtain ⟨Az, cz, rfl, z1, z2, hzl⟩ := SlE.open_ hzl
      have sm := Same.of_below hbw
      have e0 := (sm.cell (p := ⟨b, o + j * 6, none⟩) (hD b hDb)).trans d0
      have e1 := (sm.cell (p := ⟨b, o + j * 6 + 1, none⟩) (hD b hDb)).trans d1
      have e2 := (sm.cell (p := ⟨b, o + j * 6 + 2, none⟩) (hD b hDb)).trans d2
      have e3 := (sm.cell (p := ⟨b, o + j * 6 + 3, none⟩) (hD b hDb)).trans d3
      have e4 := (sm.cell (p := ⟨b, o + j * 6 + 4, none⟩) (hD b hDb)).trans d4
      have e5 := (sm.cell (p := ⟨b, o + j * 6 + 5, none⟩) (hD b hDb)).trans d5
      have hzn : nodX z ≤ 1000 := by have := nod_mem x.l z (List.mem_of_getElem? hz); omega
      have HSN := Lib.hid (putL_snoc (c := chooseB l k) (y := y) (o := x.op) hz)
      clear d0 d1 d2 d3 d4 d5 sm hz hzl ih
      go_upto_region 6 with fail
      have hb5 : Below wr.heap.size wr (wr.alloc (.cells #[.int .i64 z.op, .int .i64 z.v.kind, .int .i64 z.v.n, .string z.v.s, .string z.s, .slice Az z.l.length cz] 28)) := bone wr _
      have hZ5 := Blk.new wr 28 #[.int .i64 z.op, .int .i64 z.v.kind, .int .i64 z.v.n, .string z.v.s, .string z.s, .slice Az z.l.length cz]
      generalize hw5 : wr.alloc (.cells #[.int .i64 z.op, .int .i64 z.v.kind, .int .i64 z.v.n, .string z.v.s, .string z.s, .slice Az z.l.length cz] 28) = w5 at *
      clear hw5 e0 e1 e2 e3 e4 e5
      have HTY := Lib.hid (type_any _ l z _ _ w5 (hCr.vs.now hb5) (ex_lt hzx hD (bthen hbw hb5)) hl)
      have v0 := (hCr.bv.now hb5).c1
      obtain ⟨e0, e1, e2, e3, e4, e5⟩ := hZ5.c6
      generalize hge : givenE l z = ge at HTY
      obtain ⟨kt, et⟩ := ge
      go_wp2_with fail
      refine HTY.out.mono ?_
      rintro e w6 ⟨rfl, _, hb6⟩
      have hZ6 := hZ5.now hb6
      have hb6r := bthen hb5 hb6
      clear HTY v0 e0 e1 e2 e3 e4 e5 hZ5 hb5 hb6
      have k0 := (hCr.bk.now hb6r).c1
      have x0 : w6.cell? ⟨w.heap.size, 0, none⟩ = some (.int .i64 x.op) := (hXr.now hb6r).cell 0
      obtain ⟨e0, e1, e2, e3, e4, e5⟩ := hZ6.c6
      have HGE := Lib.hid hge
      obtain ⟨Ar, cr, rfl⟩ := OwnR.open_ hP
      have hLj : ((putL (chooseB l k) y x.op 0 x.l).take j).length ≤ j := by rw [List.length_take]; omega
      have hjj : j < 10000000 := by omega
      generalize hLL : (putL (chooseB l k) y x.op 0 x.l).take j = Lj at *
      have q0 : w6.cell? ⟨w.heap.size + 1, 0, none⟩ = some (.int .i64 y.op) := (hYr.now hb6r).cell 0
      have q1 : w6.cell? ⟨w.heap.size + 1, 1, none⟩ = some (.int .i64 y.v.kind) := (hYr.now hb6r).cell 1
      have q2 : w6.cell? ⟨w.heap.size + 1, 2, none⟩ = some (.int .i64 y.v.n) := (hYr.now hb6r).cell 2
      have q3 : w6.cell? ⟨w.heap.size + 1, 3, none⟩ = some (.string y.v.s) := (hYr.now hb6r).cell 3
      have q4 : w6.cell? ⟨w.heap.size + 1, 4, none⟩ = some (.string y.s) := (hYr.now hb6r).cell 4
      have q5 : w6.cell? ⟨w.heap.size + 1, 5, none⟩ = some (.slice Ay y.l.length cy) := (hYr.now hb6r).cell 5
      have f0 := hZ6.frozen 0
      have f1 := hZ6.frozen 1
      have f2 := hZ6.frozen 2
      have f3 := hZ6.frozen 3
      have f4 := hZ6.frozen 4
      have f5 := hZ6.frozen 5
      clear hge hLL
      by_cases hz : z.l.length = 0
      rotate_left
      · have dz : ((z.l.length : Int) == 0) = false := beq_eq_false_iff_ne.2 (by omega)
        have HPC : Hid (putC (chooseB l k) y x.op j z = putE (chooseB l k) y z) := by show _ = _; unfold putC; rw [if_neg]; unfold chooseB; rw [HGE.out]; simp [hz]
        clear hz
        have HC := Lib.hid (IH.out D z y _ _ w6 hzn (fun b hb => Nat.lt_of_lt_of_le (hD b hb) (bthen hbw hb6r).size) (hCr.now hb6r) (hzx.nowD hD (bthen hbw hb6r)) (hyy.nowD hD (bthen hbw hb6r)))
        have p0 := (hCr.bp.now hb6r).c1
        generalize putE (chooseB l k) y z = q at HC HPC
        go_wp2_with fail
        (with_reducible refine HC.out.mono ?_)
        rintro e w7 ⟨vp, rfl, hvp, hb7⟩
        obtain ⟨lq, rfl, t1, t2, t3, hlq⟩ := hvp
        obtain ⟨Aq, cq, rfl, t4, t5, hlq⟩ := SlE.open_ hlq
        have hQ : IsEx (n' + m + 1) (Dn D w6 w7) w7 (exV q (.slice Aq q.l.length cq)) q := ⟨_, rfl, t1, t2, t3, hlq⟩
        have hsz6 := hZ6.lt
        have hQd : ∀ b, Dn D w6 w7 b → D b ∨ (wr.heap.size + 1 ≤ b ∧ b < w7.heap.size) := fun b hb => by
          rcases hb with hb | hb
          · exact .inl hb
          · exact .inr ⟨by omega, hb.2⟩
        have hZ7 := hZ6.now hb7
        have hb7r := bthen hb6r hb7
        have hN : n' + m + 1 + 1 ≤ n' + 1 + m + 1 := by omega
        clear HC p0 x0 k0 q0 q1 q2 q3 q4 q5 e0 e1 e2 e3 e4 e5 f0 f1 f2 f3 f4 f5
        have f0 := hZ7.frozen 0
        have f1 := hZ7.frozen 1
        have f2 := hZ7.frozen 2
        have f3 := hZ7.frozen 3
        have f4 := hZ7.frozen 4
        have f5 := hZ7.frozen 5
        obtain ⟨e0, e1, e2, e3, e4, e5⟩ := hZ7.c6
        go_upto_region 10 with fail
        have hZ8 := hZ7.set6' (.int .i64 q.op) (.int .i64 q.v.kind) (.int .i64 q.v.n) (.string q.v.s) (.string q.s) (.slice Aq q.l.length cq)
        have hb8r := below6 hb7r (Nat.le_refl _) (.int .i64 q.op) (.int .i64 q.v.kind) (.int .i64 q.v.n) (.string q.v.s) (.string q.s) (.slice Aq q.l.length cq)
        have hQ8 := hQ.keepDn (D' := fun b => D b ∨ (wr.heap.size + 1 ≤ b ∧ b < w7.heap.size)) (w' := (((((w7.setCell ⟨wr.heap.size, 0, none⟩ (.int .i64 q.op)).setCell ⟨wr.heap.size, 1, none⟩ (.int .i64 q.v.kind)).setCell ⟨wr.heap.size, 2, none⟩ (.int .i64 q.v.n)).setCell ⟨wr.heap.size, 3, none⟩ (.string q.v.s)).setCell ⟨wr.heap.size, 4, none⟩ (.string q.s)).setCell ⟨wr.heap.size, 5, none⟩ (.slice Aq q.l.length cq)) hQd (fun b hb => heap6 w7 (fun e => by
          rcases hQd b hb with h | h
          · have := hD b h; have := hbw.size; omega
          · omega) (.int .i64 q.op) (.int .i64 q.v.kind) (.int .i64 q.v.n) (.string q.v.s) (.string q.s) (.slice Aq q.l.length cq))
        have hsz8 : ((((((w7.setCell ⟨wr.heap.size, 0, none⟩ (.int .i64 q.op)).setCell ⟨wr.heap.size, 1, none⟩ (.int .i64 q.v.kind)).setCell ⟨wr.heap.size, 2, none⟩ (.int .i64 q.v.n)).setCell ⟨wr.heap.size, 3, none⟩ (.string q.v.s)).setCell ⟨wr.heap.size, 4, none⟩ (.string q.s)).setCell ⟨wr.heap.size, 5, none⟩ (.slice Aq q.l.length cq)).heap.size = w7.heap.size := by simp
        generalize hw8 : (((((w7.setCell ⟨wr.heap.size, 0, none⟩ (.int .i64 q.op)).setCell ⟨wr.heap.size, 1, none⟩ (.int .i64 q.v.kind)).setCell ⟨wr.heap.size, 2, none⟩ (.int .i64 q.v.n)).setCell ⟨wr.heap.size, 3, none⟩ (.string q.v.s)).setCell ⟨wr.heap.size, 4, none⟩ (.string q.s)).setCell ⟨wr.heap.size, 5, none⟩ (.slice Aq q.l.length cq) = w8 at *
        clear hw8
        have hP8 := OwnP.now hP hb8r
        have hO8 := hO.now hb8r
        have hes : RExN (n' + 1 + m + 1) (Off (OutOf D w.heap.size (w.heap.size + 1 + 1 + 1)) w8 (.slice Ar Lj.length cr)) w8 q [.int .i64 q.op, .int .i64 q.v.kind, .int .i64 q.v.n, .string q.v.s, .string q.s, .slice Aq q.l.length cq] := RExN.up _ _ hN _ _ _ _ (isEx_cells (hQ8.keepDn (fun b hb => OwnP.off hP (by omega) hD hb8r.size hgO (by
          rcases hb with hb | hb
          · exact .inl hb
          · exact .inr ⟨by omega, by omega⟩)) (Same.refl _ _)))
        have hsb : w.heap.size + 1 + 1 + 1 + 1 ≤ w8.heap.size := by have := hb8r.size; omega
        have hL7 : Lj.length < 10000000 := by omega
        have HSL := Lib.hid hL7
        clear hsz8 hL7
        clear e0 e1 e2 e3 e4 e5 f0 f1 f2 f3 f4 f5
        obtain ⟨e0, e1, e2, e3, e4, e5⟩ := hZ8.c6
        have o5 : w8.cell? ⟨w.heap.size + 1 + 1 + 1, 5, none⟩ = some (.slice Ar Lj.length cr) := hO8.cell 5
        go_wp2_with (at_builtin; refine wpList_pushR appExR (RExN.kept _) rfl (.tmp 58) (.tmp 60) rfl w8 [.int .i64 q.op, .int .i64 q.v.kind, .int .i64 q.v.n, .string q.v.s, .string q.s, .slice Aq q.l.length cq] rfl (by intro u hu; simp at hu; rcases hu with rfl | rfl | rfl | rfl | rfl | rfl <;> rfl) (.slice Ar Lj.length cr) Lj q rfl hP8 hes rfl HSL.out hsb ?_; intro v9 w9 hP9 hg9 hat9; obtain ⟨A9, c9, rfl⟩ := OwnR.open_ hP9; have hO9 := hO8.grown hg9 (fun e => by have := (OwnP.lt hP8 _ e.symm).1; omega); have fo := hO9.frozen 5; have o9 := hO9.cell 5)
        go_roundw
        case rel =>
          rw [show (Lj ++ [q]).length = Lj.length + 1 by simp] at hP9
          refine ⟨j + 1, _, by omega, by go_num, hO9.set_ 5 _, ?_, ?_⟩
          · rw [HSN.out, HPC.out]; exact OwnP.set_ hP9 (by omega) _
          · exact ((hbr.trans (hb8r.mono (by omega))).trans (below_of_grown hg9 (by omega) (fun g hg => by have := (OwnP.lt hP8 g hg).1; omega))).setCell (p := ⟨w.heap.size + 1 + 1 + 1, 5, none⟩) (Nat.le_refl _) _
        case measure => simp [intOf]; omega
      by_cases he : et = 0
      rotate_left
      · have dz : ((z.l.length : Int) == 0) = true := beq_iff_eq.2 (by omega)
        have de : ((et : Int) == 0) = false := beq_eq_false_iff_ne.2 (by omega)
        have HPC : Hid (putC (chooseB l k) y x.op j z = putE (chooseB l k) y z) := by show _ = _; unfold putC; rw [if_neg]; unfold chooseB; rw [HGE.out]; simp [hz, he]
        clear hz he
        have HC := Lib.hid (IH.out D z y _ _ w6 hzn (fun b hb => Nat.lt_of_lt_of_le (hD b hb) (bthen hbw hb6r).size) (hCr.now hb6r) (hzx.nowD hD (bthen hbw hb6r)) (hyy.nowD hD (bthen hbw hb6r)))
        have p0 := (hCr.bp.now hb6r).c1
        generalize putE (chooseB l k) y z = q at HC HPC
        go_wp2_with fail
        (with_reducible refine HC.out.mono ?_)
        rintro e w7 ⟨vp, rfl, hvp, hb7⟩
        obtain ⟨lq, rfl, t1, t2, t3, hlq⟩ := hvp
        obtain ⟨Aq, cq, rfl, t4, t5, hlq⟩ := SlE.open_ hlq
        have hQ : IsEx (n' + m + 1) (Dn D w6 w7) w7 (exV q (.slice Aq q.l.length cq)) q := ⟨_, rfl, t1, t2, t3, hlq⟩
        have hsz6 := hZ6.lt
        have hQd : ∀ b, Dn D w6 w7 b → D b ∨ (wr.heap.size + 1 ≤ b ∧ b < w7.heap.size) := fun b hb => by
          rcases hb with hb | hb
          · exact .inl hb
          · exact .inr ⟨by omega, hb.2⟩
        have hZ7 := hZ6.now hb7
        have hb7r := bthen hb6r hb7
        have hN : n' + m + 1 + 1 ≤ n' + 1 + m + 1 := by omega
        clear HC p0 x0 k0 q0 q1 q2 q3 q4 q5 e0 e1 e2 e3 e4 e5 f0 f1 f2 f3 f4 f5
        have f0 := hZ7.frozen 0
        have f1 := hZ7.frozen 1
        have f2 := hZ7.frozen 2
        have f3 := hZ7.frozen 3
        have f4 := hZ7.frozen 4
        have f5 := hZ7.frozen 5
        obtain ⟨e0, e1, e2, e3, e4, e5⟩ := hZ7.c6
        go_upto_region 10 with fail
        have hZ8 := hZ7.set6' (.int .i64 q.op) (.int .i64 q.v.kind) (.int .i64 q.v.n) (.string q.v.s) (.string q.s) (.slice Aq q.l.length cq)
        have hb8r := below6 hb7r (Nat.le_refl _) (.int .i64 q.op) (.int .i64 q.v.kind) (.int .i64 q.v.n) (.string q.v.s) (.string q.s) (.slice Aq q.l.length cq)
        have hQ8 := hQ.keepDn (D' := fun b => D b ∨ (wr.heap.size + 1 ≤ b ∧ b < w7.heap.size)) (w' := (((((w7.setCell ⟨wr.heap.size, 0, none⟩ (.int .i64 q.op)).setCell ⟨wr.heap.size, 1, none⟩ (.int .i64 q.v.kind)).setCell ⟨wr.heap.size, 2, none⟩ (.int .i64 q.v.n)).setCell ⟨wr.heap.size, 3, none⟩ (.string q.v.s)).setCell ⟨wr.heap.size, 4, none⟩ (.string q.s)).setCell ⟨wr.heap.size, 5, none⟩ (.slice Aq q.l.length cq)) hQd (fun b hb => heap6 w7 (fun e => by
          rcases hQd b hb with h | h
          · have := hD b h; have := hbw.size; omega
          · omega) (.int .i64 q.op) (.int .i64 q.v.kind) (.int .i64 q.v.n) (.string q.v.s) (.string q.s) (.slice Aq q.l.length cq))
        have hsz8 : ((((((w7.setCell ⟨wr.heap.size, 0, none⟩ (.int .i64 q.op)).setCell ⟨wr.heap.size, 1, none⟩ (.int .i64 q.v.kind)).setCell ⟨wr.heap.size, 2, none⟩ (.int .i64 q.v.n)).setCell ⟨wr.heap.size, 3, none⟩ (.string q.v.s)).setCell ⟨wr.heap.size, 4, none⟩ (.string q.s)).setCell ⟨wr.heap.size, 5, none⟩ (.slice Aq q.l.length cq)).heap.size = w7.heap.size := by simp
        generalize hw8 : (((((w7.setCell ⟨wr.heap.size, 0, none⟩ (.int .i64 q.op)).setCell ⟨wr.heap.size, 1, none⟩ (.int .i64 q.v.kind)).setCell ⟨wr.heap.size, 2, none⟩ (.int .i64 q.v.n)).setCell ⟨wr.heap.size, 3, none⟩ (.string q.v.s)).setCell ⟨wr.heap.size, 4, none⟩ (.string q.s)).setCell ⟨wr.heap.size, 5, none⟩ (.slice Aq q.l.length cq) = w8 at *
        clear hw8
        have hP8 := OwnP.now hP hb8r
        have hO8 := hO.now hb8r
        have hes : RExN (n' + 1 + m + 1) (Off (OutOf D w.heap.size (w.heap.size + 1 + 1 + 1)) w8 (.slice Ar Lj.length cr)) w8 q [.int .i64 q.op, .int .i64 q.v.kind, .int .i64 q.v.n, .string q.v.s, .string q.s, .slice Aq q.l.length cq] := RExN.up _ _ hN _ _ _ _ (isEx_cells (hQ8.keepDn (fun b hb => OwnP.off hP (by omega) hD hb8r.size hgO (by
          rcases hb with hb | hb
          · exact .inl hb
          · exact .inr ⟨by omega, by omega⟩)) (Same.refl _ _)))
        have hsb : w.heap.size + 1 + 1 + 1 + 1 ≤ w8.heap.size := by have := hb8r.size; omega
        have hL7 : Lj.length < 10000000 := by omega
        have HSL := Lib.hid hL7
        clear hsz8 hL7
        clear e0 e1 e2 e3 e4 e5 f0 f1 f2 f3 f4 f5
        obtain ⟨e0, e1, e2, e3, e4, e5⟩ := hZ8.c6
        have o5 : w8.cell? ⟨w.heap.size + 1 + 1 + 1, 5, none⟩ = some (.slice Ar Lj.length cr) := hO8.cell 5
        go_wp2_with (at_builtin; refine wpList_pushR appExR (RExN.kept _) rfl (.tmp 58) (.tmp 60) rfl w8 [.int .i64 q.op, .int .i64 q.v.kind, .int .i64 q.v.n, .string q.v.s, .string q.s, .slice Aq q.l.length cq] rfl (by intro u hu; simp at hu; rcases hu with rfl | rfl | rfl | rfl | rfl | rfl <;> rfl) (.slice Ar Lj.length cr) Lj q rfl hP8 hes rfl HSL.out hsb ?_; intro v9 w9 hP9 hg9 hat9; obtain ⟨A9, c9, rfl⟩ := OwnR.open_ hP9; have hO9 := hO8.grown hg9 (fun e => by have := (OwnP.lt hP8 _ e.symm).1; omega); have fo := hO9.frozen 5; have o9 := hO9.cell 5)
        go_roundw
        case rel =>
          rw [show (Lj ++ [q]).length = Lj.length + 1 by simp] at hP9
          refine ⟨j + 1, _, by omega, by go_num, hO9.set_ 5 _, ?_, ?_⟩
          · rw [HSN.out, HPC.out]; exact OwnP.set_ hP9 (by omega) _
          · exact ((hbr.trans (hb8r.mono (by omega))).trans (below_of_grown hg9 (by omega) (fun g hg => by have := (OwnP.lt hP8 g hg).1; omega))).setCell (p := ⟨w.heap.size + 1 + 1 + 1, 5, none⟩) (Nat.le_refl _) _
        case measure => simp [intOf]; omega
      by_cases hk : kt = k
      rotate_left
      · have dz : ((z.l.length : Int) == 0) = true := beq_iff_eq.2 (by omega)
        have de : ((et : Int) == 0) = true := beq_iff_eq.2 (by omega)
        have dk : ((kt : Int) == k) = false := beq_eq_false_iff_ne.2 (by omega)
        have HPC : Hid (putC (chooseB l k) y x.op j z = putE (chooseB l k) y z) := by show _ = _; unfold putC; rw [if_neg]; unfold chooseB; rw [HGE.out]; simp [hz, he, hk]
        clear hz he hk
        have HC := Lib.hid (IH.out D z y _ _ w6 hzn (fun b hb => Nat.lt_of_lt_of_le (hD b hb) (bthen hbw hb6r).size) (hCr.now hb6r) (hzx.nowD hD (bthen hbw hb6r)) (hyy.nowD hD (bthen hbw hb6r)))
        have p0 := (hCr.bp.now hb6r).c1
        generalize putE (chooseB l k) y z = q at HC HPC
        go_wp2_with fail
        (with_reducible refine HC.out.mono ?_)
        rintro e w7 ⟨vp, rfl, hvp, hb7⟩
        obtain ⟨lq, rfl, t1, t2, t3, hlq⟩ := hvp
        obtain ⟨Aq, cq, rfl, t4, t5, hlq⟩ := SlE.open_ hlq
        have hQ : IsEx (n' + m + 1) (Dn D w6 w7) w7 (exV q (.slice Aq q.l.length cq)) q := ⟨_, rfl, t1, t2, t3, hlq⟩
        have hsz6 := hZ6.lt
        have hQd : ∀ b, Dn D w6 w7 b → D b ∨ (wr.heap.size + 1 ≤ b ∧ b < w7.heap.size) := fun b hb => by
          rcases hb with hb | hb
          · exact .inl hb
          · exact .inr ⟨by omega, hb.2⟩
        have hZ7 := hZ6.now hb7
        have hb7r := bthen hb6r hb7
        have hN : n' + m + 1 + 1 ≤ n' + 1 + m + 1 := by omega
        clear HC p0 x0 k0 q0 q1 q2 q3 q4 q5 e0 e1 e2 e3 e4 e5 f0 f1 f2 f3 f4 f5
        have f0 := hZ7.frozen 0
        have f1 := hZ7.frozen 1
        have f2 := hZ7.frozen 2
        have f3 := hZ7.frozen 3
        have f4 := hZ7.frozen 4
        have f5 := hZ7.frozen 5
        obtain ⟨e0, e1, e2, e3, e4, e5⟩ := hZ7.c6
        go_upto_region 10 with fail
        have hZ8 := hZ7.set6' (.int .i64 q.op) (.int .i64 q.v.kind) (.int .i64 q.v.n) (.string q.v.s) (.string q.s) (.slice Aq q.l.length cq)
        have hb8r := below6 hb7r (Nat.le_refl _) (.int .i64 q.op) (.int .i64 q.v.kind) (.int .i64 q.v.n) (.string q.v.s) (.string q.s) (.slice Aq q.l.length cq)
        have hQ8 := hQ.keepDn (D' := fun b => D b ∨ (wr.heap.size + 1 ≤ b ∧ b < w7.heap.size)) (w' := (((((w7.setCell ⟨wr.heap.size, 0, none⟩ (.int .i64 q.op)).setCell ⟨wr.heap.size, 1, none⟩ (.int .i64 q.v.kind)).setCell ⟨wr.heap.size, 2, none⟩ (.int .i64 q.v.n)).setCell ⟨wr.heap.size, 3, none⟩ (.string q.v.s)).setCell ⟨wr.heap.size, 4, none⟩ (.string q.s)).setCell ⟨wr.heap.size, 5, none⟩ (.slice Aq q.l.length cq)) hQd (fun b hb => heap6 w7 (fun e => by
          rcases hQd b hb with h | h
          · have := hD b h; have := hbw.size; omega
          · omega) (.int .i64 q.op) (.int .i64 q.v.kind) (.int .i64 q.v.n) (.string q.v.s) (.string q.s) (.slice Aq q.l.length cq))
        have hsz8 : ((((((w7.setCell ⟨wr.heap.size, 0, none⟩ (.int .i64 q.op)).setCell ⟨wr.heap.size, 1, none⟩ (.int .i64 q.v.kind)).setCell ⟨wr.heap.size, 2, none⟩ (.int .i64 q.v.n)).setCell ⟨wr.heap.size, 3, none⟩ (.string q.v.s)).setCell ⟨wr.heap.size, 4, none⟩ (.string q.s)).setCell ⟨wr.heap.size, 5, none⟩ (.slice Aq q.l.length cq)).heap.size = w7.heap.size := by simp
        generalize hw8 : (((((w7.setCell ⟨wr.heap.size, 0, none⟩ (.int .i64 q.op)).setCell ⟨wr.heap.size, 1, none⟩ (.int .i64 q.v.kind)).setCell ⟨wr.heap.size, 2, none⟩ (.int .i64 q.v.n)).setCell ⟨wr.heap.size, 3, none⟩ (.string q.v.s)).setCell ⟨wr.heap.size, 4, none⟩ (.string q.s)).setCell ⟨wr.heap.size, 5, none⟩ (.slice Aq q.l.length cq) = w8 at *
        clear hw8
        have hP8 := OwnP.now hP hb8r
        have hO8 := hO.now hb8r
        have hes : RExN (n' + 1 + m + 1) (Off (OutOf D w.heap.size (w.heap.size + 1 + 1 + 1)) w8 (.slice Ar Lj.length cr)) w8 q [.int .i64 q.op, .int .i64 q.v.kind, .int .i64 q.v.n, .string q.v.s, .string q.s, .slice Aq q.l.length cq] := RExN.up _ _ hN _ _ _ _ (isEx_cells (hQ8.keepDn (fun b hb => OwnP.off hP (by omega) hD hb8r.size hgO (by
          rcases hb with hb | hb
          · exact .inl hb
          · exact .inr ⟨by omega, by omega⟩)) (Same.refl _ _)))
        have hsb : w.heap.size + 1 + 1 + 1 + 1 ≤ w8.heap.size := by have := hb8r.size; omega
        have hL7 : Lj.length < 10000000 := by omega
        have HSL := Lib.hid hL7
        clear hsz8 hL7
        clear e0 e1 e2 e3 e4 e5 f0 f1 f2 f3 f4 f5
        obtain ⟨e0, e1, e2, e3, e4, e5⟩ := hZ8.c6
        have o5 : w8.cell? ⟨w.heap.size + 1 + 1 + 1, 5, none⟩ = some (.slice Ar Lj.length cr) := hO8.cell 5
        go_wp2_with (at_builtin; refine wpList_pushR appExR (RExN.kept _) rfl (.tmp 58) (.tmp 60) rfl w8 [.int .i64 q.op, .int .i64 q.v.kind, .int .i64 q.v.n, .string q.v.s, .string q.s, .slice Aq q.l.length cq] rfl (by intro u hu; simp at hu; rcases hu with rfl | rfl | rfl | rfl | rfl | rfl <;> rfl) (.slice Ar Lj.length cr) Lj q rfl hP8 hes rfl HSL.out hsb ?_; intro v9 w9 hP9 hg9 hat9; obtain ⟨A9, c9, rfl⟩ := OwnR.open_ hP9; have hO9 := hO8.grown hg9 (fun e => by have := (OwnP.lt hP8 _ e.symm).1; omega); have fo := hO9.frozen 5; have o9 := hO9.cell 5)
        go_roundw
        case rel =>
          rw [show (Lj ++ [q]).length = Lj.length + 1 by simp] at hP9
          refine ⟨j + 1, _, by omega, by go_num, hO9.set_ 5 _, ?_, ?_⟩
          · rw [HSN.out, HPC.out]; exact OwnP.set_ hP9 (by omega) _
          · exact ((hbr.trans (hb8r.mono (by omega))).trans (below_of_grown hg9 (by omega) (fun g hg => by have := (OwnP.lt hP8 g hg).1; omega))).setCell (p := ⟨w.heap.size + 1 + 1 + 1, 5, none⟩) (Nat.le_refl _) _
        case measure => simp [intOf]; omega
      by_cases ho : x.op = 13
      rotate_left
      · have dz : ((z.l.length : Int) == 0) = true := beq_iff_eq.2 (by omega)
        have de : ((et : Int) == 0) = true := beq_iff_eq.2 (by omega)
        have dk : ((kt : Int) == k) = true := beq_iff_eq.2 (by omega)
        have dq : ((x.op : Int) == 13) = false := beq_eq_false_iff_ne.2 (by omega)
        have HPC : Hid (putC (chooseB l k) y x.op j z = y) := by show _ = _; unfold putC; rw [if_pos]; unfold chooseB; rw [HGE.out]; simp [hz, he, hk, ho]
        clear hz he hk ho
        have hQ : IsEx m D w6 (exV y (.slice Ay y.l.length cy)) y := hyy.nowD hD (bthen hbw hb6r)
        have hQd : ∀ b, D b → D b ∨ (wr.heap.size + 1 ≤ b ∧ b < w6.heap.size) := fun b hb => .inl hb
        have hZ7 := hZ6
        have hb7r := hb6r
        have hN : m + 1 ≤ n' + 1 + m + 1 := by omega
        go_upto_region 10 with fail
        have hZ8 := hZ7.set6' (.int .i64 y.op) (.int .i64 y.v.kind) (.int .i64 y.v.n) (.string y.v.s) (.string y.s) (.slice Ay y.l.length cy)
        have hb8r := below6 hb7r (Nat.le_refl _) (.int .i64 y.op) (.int .i64 y.v.kind) (.int .i64 y.v.n) (.string y.v.s) (.string y.s) (.slice Ay y.l.length cy)
        have hQ8 := hQ.keepDn (D' := fun b => D b ∨ (wr.heap.size + 1 ≤ b ∧ b < w6.heap.size)) (w' := (((((w6.setCell ⟨wr.heap.size, 0, none⟩ (.int .i64 y.op)).setCell ⟨wr.heap.size, 1, none⟩ (.int .i64 y.v.kind)).setCell ⟨wr.heap.size, 2, none⟩ (.int .i64 y.v.n)).setCell ⟨wr.heap.size, 3, none⟩ (.string y.v.s)).setCell ⟨wr.heap.size, 4, none⟩ (.string y.s)).setCell ⟨wr.heap.size, 5, none⟩ (.slice Ay y.l.length cy)) hQd (fun b hb => heap6 w6 (fun e => by
          rcases hQd b hb with h | h
          · have := hD b h; have := hbw.size; omega
          · omega) (.int .i64 y.op) (.int .i64 y.v.kind) (.int .i64 y.v.n) (.string y.v.s) (.string y.s) (.slice Ay y.l.length cy))
        have hsz8 : ((((((w6.setCell ⟨wr.heap.size, 0, none⟩ (.int .i64 y.op)).setCell ⟨wr.heap.size, 1, none⟩ (.int .i64 y.v.kind)).setCell ⟨wr.heap.size, 2, none⟩ (.int .i64 y.v.n)).setCell ⟨wr.heap.size, 3, none⟩ (.string y.v.s)).setCell ⟨wr.heap.size, 4, none⟩ (.string y.s)).setCell ⟨wr.heap.size, 5, none⟩ (.slice Ay y.l.length cy)).heap.size = w6.heap.size := by simp
        generalize hw8 : (((((w6.setCell ⟨wr.heap.size, 0, none⟩ (.int .i64 y.op)).setCell ⟨wr.heap.size, 1, none⟩ (.int .i64 y.v.kind)).setCell ⟨wr.heap.size, 2, none⟩ (.int .i64 y.v.n)).setCell ⟨wr.heap.size, 3, none⟩ (.string y.v.s)).setCell ⟨wr.heap.size, 4, none⟩ (.string y.s)).setCell ⟨wr.heap.size, 5, none⟩ (.slice Ay y.l.length cy) = w8 at *
        clear hw8
        have hP8 := OwnP.now hP hb8r
        have hO8 := hO.now hb8r
        have hes : RExN (n' + 1 + m + 1) (Off (OutOf D w.heap.size (w.heap.size + 1 + 1 + 1)) w8 (.slice Ar Lj.length cr)) w8 y [.int .i64 y.op, .int .i64 y.v.kind, .int .i64 y.v.n, .string y.v.s, .string y.s, .slice Ay y.l.length cy] := RExN.up _ _ hN _ _ _ _ (isEx_cells (hQ8.keepDn (fun b hb => OwnP.off hP (by omega) hD hb8r.size hgO (by
          rcases hb with hb | hb
          · exact .inl hb
          · exact .inr ⟨by omega, by omega⟩)) (Same.refl _ _)))
        have hsb : w.heap.size + 1 + 1 + 1 + 1 ≤ w8.heap.size := by have := hb8r.size; omega
        have hL7 : Lj.length < 10000000 := by omega
        have HSL := Lib.hid hL7
        clear hsz8 hL7
        clear e0 e1 e2 e3 e4 e5 f0 f1 f2 f3 f4 f5
        obtain ⟨e0, e1, e2, e3, e4, e5⟩ := hZ8.c6
        have o5 : w8.cell? ⟨w.heap.size + 1 + 1 + 1, 5, none⟩ = some (.slice Ar Lj.length cr) := hO8.cell 5
        go_wp2_with (at_builtin; refine wpList_pushR appExR (RExN.kept _) rfl (.tmp 58) (.tmp 60) rfl w8 [.int .i64 y.op, .int .i64 y.v.kind, .int .i64 y.v.n, .string y.v.s, .string y.s, .slice Ay y.l.length cy] rfl (by intro u hu; simp at hu; rcases hu with rfl | rfl | rfl | rfl | rfl | rfl <;> rfl) (.slice Ar Lj.length cr) Lj y rfl hP8 hes rfl HSL.out hsb ?_; intro v9 w9 hP9 hg9 hat9; obtain ⟨A9, c9, rfl⟩ := OwnR.open_ hP9; have hO9 := hO8.grown hg9 (fun e => by have := (OwnP.lt hP8 _ e.symm).1; omega); have fo := hO9.frozen 5; have o9 := hO9.cell 5)
        go_roundw
        case rel =>
          rw [show (Lj ++ [y]).length = Lj.length + 1 by simp] at hP9
          refine ⟨j + 1, _, by omega, by go_num, hO9.set_ 5 _, ?_, ?_⟩
          · rw [HSN.out, HPC.out]; exact OwnP.set_ hP9 (by omega) _
          · exact ((hbr.trans (hb8r.mono (by omega))).trans (below_of_grown hg9 (by omega) (fun g hg => by have := (OwnP.lt hP8 g hg).1; omega))).setCell (p := ⟨w.heap.size + 1 + 1 + 1, 5, none⟩) (Nat.le_refl _) _
        case measure => simp [intOf]; omega
      by_cases hjp : 0 < j
      rotate_left
      · have dz : ((z.l.length : Int) == 0) = true := beq_iff_eq.2 (by omega)
        have de : ((et : Int) == 0) = true := beq_iff_eq.2 (by omega)
        have dk : ((kt : Int) == k) = true := beq_iff_eq.2 (by omega)
        have dq : ((x.op : Int) == 13) = true := beq_iff_eq.2 (by omega)
        have dj : ¬ 0 < j := hjp
        have HPC : Hid (putC (chooseB l k) y x.op j z = y) := by show _ = _; unfold putC; rw [if_pos]; unfold chooseB; rw [HGE.out]; simp [hz, he, hk, ho, hjp]
        clear hz he hk ho hjp
        have hQ : IsEx m D w6 (exV y (.slice Ay y.l.length cy)) y := hyy.nowD hD (bthen hbw hb6r)
        have hQd : ∀ b, D b → D b ∨ (wr.heap.size + 1 ≤ b ∧ b < w6.heap.size) := fun b hb => .inl hb
        have hZ7 := hZ6
        have hb7r := hb6r
        have hN : m + 1 ≤ n' + 1 + m + 1 := by omega
        go_upto_region 10 with fail
        have hZ8 := hZ7.set6' (.int .i64 y.op) (.int .i64 y.v.kind) (.int .i64 y.v.n) (.string y.v.s) (.string y.s) (.slice Ay y.l.length cy)
        have hb8r := below6 hb7r (Nat.le_refl _) (.int .i64 y.op) (.int .i64 y.v.kind) (.int .i64 y.v.n) (.string y.v.s) (.string y.s) (.slice Ay y.l.length cy)
        have hQ8 := hQ.keepDn (D' := fun b => D b ∨ (wr.heap.size + 1 ≤ b ∧ b < w6.heap.size)) (w' := (((((w6.setCell ⟨wr.heap.size, 0, none⟩ (.int .i64 y.op)).setCell ⟨wr.heap.size, 1, none⟩ (.int .i64 y.v.kind)).setCell ⟨wr.heap.size, 2, none⟩ (.int .i64 y.v.n)).setCell ⟨wr.heap.size, 3, none⟩ (.string y.v.s)).setCell ⟨wr.heap.size, 4, none⟩ (.string y.s)).setCell ⟨wr.heap.size, 5, none⟩ (.slice Ay y.l.length cy)) hQd (fun b hb => heap6 w6 (fun e => by
          rcases hQd b hb with h | h
          · have := hD b h; have := hbw.size; omega
          · omega) (.int .i64 y.op) (.int .i64 y.v.kind) (.int .i64 y.v.n) (.string y.v.s) (.string y.s) (.slice Ay y.l.length cy))
        have hsz8 : ((((((w6.setCell ⟨wr.heap.size, 0, none⟩ (.int .i64 y.op)).setCell ⟨wr.heap.size, 1, none⟩ (.int .i64 y.v.kind)).setCell ⟨wr.heap.size, 2, none⟩ (.int .i64 y.v.n)).setCell ⟨wr.heap.size, 3, none⟩ (.string y.v.s)).setCell ⟨wr.heap.size, 4, none⟩ (.string y.s)).setCell ⟨wr.heap.size, 5, none⟩ (.slice Ay y.l.length cy)).heap.size = w6.heap.size := by simp
        generalize hw8 : (((((w6.setCell ⟨wr.heap.size, 0, none⟩ (.int .i64 y.op)).setCell ⟨wr.heap.size, 1, none⟩ (.int .i64 y.v.kind)).setCell ⟨wr.heap.size, 2, none⟩ (.int .i64 y.v.n)).setCell ⟨wr.heap.size, 3, none⟩ (.string y.v.s)).setCell ⟨wr.heap.size, 4, none⟩ (.string y.s)).setCell ⟨wr.heap.size, 5, none⟩ (.slice Ay y.l.length cy) = w8 at *
        clear hw8
        have hP8 := OwnP.now hP hb8r
        have hO8 := hO.now hb8r
        have hes : RExN (n' + 1 + m + 1) (Off (OutOf D w.heap.size (w.heap.size + 1 + 1 + 1)) w8 (.slice Ar Lj.length cr)) w8 y [.int .i64 y.op, .int .i64 y.v.kind, .int .i64 y.v.n, .string y.v.s, .string y.s, .slice Ay y.l.length cy] := RExN.up _ _ hN _ _ _ _ (isEx_cells (hQ8.keepDn (fun b hb => OwnP.off hP (by omega) hD hb8r.size hgO (by
          rcases hb with hb | hb
          · exact .inl hb
          · exact .inr ⟨by omega, by omega⟩)) (Same.refl _ _)))
        have hsb : w.heap.size + 1 + 1 + 1 + 1 ≤ w8.heap.size := by have := hb8r.size; omega
        have hL7 : Lj.length < 10000000 := by omega
        have HSL := Lib.hid hL7
        clear hsz8 hL7
        clear e0 e1 e2 e3 e4 e5 f0 f1 f2 f3 f4 f5
        obtain ⟨e0, e1, e2, e3, e4, e5⟩ := hZ8.c6
        have o5 : w8.cell? ⟨w.heap.size + 1 + 1 + 1, 5, none⟩ = some (.slice Ar Lj.length cr) := hO8.cell 5
        go_wp2_with (at_builtin; refine wpList_pushR appExR (RExN.kept _) rfl (.tmp 58) (.tmp 60) rfl w8 [.int .i64 y.op, .int .i64 y.v.kind, .int .i64 y.v.n, .string y.v.s, .string y.s, .slice Ay y.l.length cy] rfl (by intro u hu; simp at hu; rcases hu with rfl | rfl | rfl | rfl | rfl | rfl <;> rfl) (.slice Ar Lj.length cr) Lj y rfl hP8 hes rfl HSL.out hsb ?_; intro v9 w9 hP9 hg9 hat9; obtain ⟨A9, c9, rfl⟩ := OwnR.open_ hP9; have hO9 := hO8.grown hg9 (fun e => by have := (OwnP.lt hP8 _ e.symm).1; omega); have fo := hO9.frozen 5; have o9 := hO9.cell 5)
        go_roundw
        case rel =>
          rw [show (Lj ++ [y]).length = Lj.length + 1 by simp] at hP9
          refine ⟨j + 1, _, by omega, by go_num, hO9.set_ 5 _, ?_, ?_⟩
          · rw [HSN.out, HPC.out]; exact OwnP.set_ hP9 (by omega) _
          · exact ((hbr.trans (hb8r.mono (by omega))).trans (below_of_grown hg9 (by omega) (fun g hg => by have := (OwnP.lt hP8 g hg).1; omega))).setCell (p := ⟨w.heap.size + 1 + 1 + 1, 5, none⟩) (Nat.le_refl _) _
        case measure => simp [intOf]; omega
      have dz : ((z.l.length : Int) == 0) = true := beq_iff_eq.2 (by omega)
      have de : ((et : Int) == 0) = true := beq_iff_eq.2 (by omega)
      have dk : ((kt : Int) == k) = true := beq_iff_eq.2 (by omega)
      have dq : ((x.op : Int) == 13) = true := beq_iff_eq.2 (by omega)
      have dj : 0 < j := hjp
      have HPC : Hid (putC (chooseB l k) y x.op j z = putE (chooseB l k) y z) := by show _ = _; unfold putC; rw [if_neg]; unfold chooseB; rw [HGE.out]; simp [hz, he, hk, ho, hjp]
      clear hz he hk ho hjp
      have HC := Lib.hid (IH.out D z y _ _ w6 hzn (fun b hb => Nat.lt_of_lt_of_le (hD b hb) (bthen hbw hb6r).size) (hCr.now hb6r) (hzx.nowD hD (bthen hbw hb6r)) (hyy.nowD hD (bthen hbw hb6r)))
      have p0 := (hCr.bp.now hb6r).c1
      generalize putE (chooseB l k) y z = q at HC HPC
      go_wp2_with fail
      (with_reducible refine HC.out.mono ?_)
      rintro e w7 ⟨vp, rfl, hvp, hb7⟩
      obtain ⟨lq, rfl, t1, t2, t3, hlq⟩ := hvp
      obtain ⟨Aq, cq, rfl, t4, t5, hlq⟩ := SlE.open_ hlq
      have hQ : IsEx (n' + m + 1) (Dn D w6 w7) w7 (exV q (.slice Aq q.l.length cq)) q := ⟨_, rfl, t1, t2, t3, hlq⟩
      have hsz6 := hZ6.lt
      have hQd : ∀ b, Dn D w6 w7 b → D b ∨ (wr.heap.size + 1 ≤ b ∧ b < w7.heap.size) := fun b hb => by
        rcases hb with hb | hb
        · exact .inl hb
        · exact .inr ⟨by omega, hb.2⟩
      have hZ7 := hZ6.now hb7
      have hb7r := bthen hb6r hb7
      have hN : n' + m + 1 + 1 ≤ n' + 1 + m + 1 := by omega
      clear HC p0 x0 k0 q0 q1 q2 q3 q4 q5 e0 e1 e2 e3 e4 e5 f0 f1 f2 f3 f4 f5
      have f0 := hZ7.frozen 0
      have f1 := hZ7.frozen 1
      have f2 := hZ7.frozen 2
      have f3 := hZ7.frozen 3
      have f4 := hZ7.frozen 4
      have f5 := hZ7.frozen 5
      obtain ⟨e0, e1, e2, e3, e4, e5⟩ := hZ7.c6
      go_upto_region 10 with fail
      have hZ8 := hZ7.set6' (.int .i64 q.op) (.int .i64 q.v.kind) (.int .i64 q.v.n) (.string q.v.s) (.string q.s) (.slice Aq q.l.length cq)
      have hb8r := below6 hb7r (Nat.le_refl _) (.int .i64 q.op) (.int .i64 q.v.kind) (.int .i64 q.v.n) (.string q.v.s) (.string q.s) (.slice Aq q.l.length cq)
      have hQ8 := hQ.keepDn (D' := fun b => D b ∨ (wr.heap.size + 1 ≤ b ∧ b < w7.heap.size)) (w' := (((((w7.setCell ⟨wr.heap.size, 0, none⟩ (.int .i64 q.op)).setCell ⟨wr.heap.size, 1, none⟩ (.int .i64 q.v.kind)).setCell ⟨wr.heap.size, 2, none⟩ (.int .i64 q.v.n)).setCell ⟨wr.heap.size, 3, none⟩ (.string q.v.s)).setCell ⟨wr.heap.size, 4, none⟩ (.string q.s)).setCell ⟨wr.heap.size, 5, none⟩ (.slice Aq q.l.length cq)) hQd (fun b hb => heap6 w7 (fun e => by
        rcases hQd b hb with h | h
        · have := hD b h; have := hbw.size; omega
        · omega) (.int .i64 q.op) (.int .i64 q.v.kind) (.int .i64 q.v.n) (.string q.v.s) (.string q.s) (.slice Aq q.l.length cq))
      have hsz8 : ((((((w7.setCell ⟨wr.heap.size, 0, none⟩ (.int .i64 q.op)).setCell ⟨wr.heap.size, 1, none⟩ (.int .i64 q.v.kind)).setCell ⟨wr.heap.size, 2, none⟩ (.int .i64 q.v.n)).setCell ⟨wr.heap.size, 3, none⟩ (.string q.v.s)).setCell ⟨wr.heap.size, 4, none⟩ (.string q.s)).setCell ⟨wr.heap.size, 5, none⟩ (.slice Aq q.l.length cq)).heap.size = w7.heap.size := by simp
      generalize hw8 : (((((w7.setCell ⟨wr.heap.size, 0, none⟩ (.int .i64 q.op)).setCell ⟨wr.heap.size, 1, none⟩ (.int .i64 q.v.kind)).setCell ⟨wr.heap.size, 2, none⟩ (.int .i64 q.v.n)).setCell ⟨wr.heap.size, 3, none⟩ (.string q.v.s)).setCell ⟨wr.heap.size, 4, none⟩ (.string q.s)).setCell ⟨wr.heap.size, 5, none⟩ (.slice Aq q.l.length cq) = w8 at *
      clear hw8
      have hP8 := OwnP.now hP hb8r
      have hO8 := hO.now hb8r
      have hes : RExN (n' + 1 + m + 1) (Off (OutOf D w.heap.size (w.heap.size + 1 + 1 + 1)) w8 (.slice Ar Lj.length cr)) w8 q [.int .i64 q.op, .int .i64 q.v.kind, .int .i64 q.v.n, .string q.v.s, .string q.s, .slice Aq q.l.length cq] := RExN.up _ _ hN _ _ _ _ (isEx_cells (hQ8.keepDn (fun b hb => OwnP.off hP (by omega) hD hb8r.size hgO (by
        rcases hb with hb | hb
        · exact .inl hb
        · exact .inr ⟨by omega, by omega⟩)) (Same.refl _ _)))
      have hsb : w.heap.size + 1 + 1 + 1 + 1 ≤ w8.heap.size := by have := hb8r.size; omega
      have hL7 : Lj.length < 10000000 := by omega
      have HSL := Lib.hid hL7
      clear hsz8 hL7
      clear e0 e1 e2 e3 e4 e5 f0 f1 f2 f3 f4 f5
      obtain ⟨e0, e1, e2, e3, e4, e5⟩ := hZ8.c6
      have o5 : w8.cell? ⟨w.heap.size + 1 + 1 + 1, 5, none⟩ = some (.slice Ar Lj.length cr) := hO8.cell 5
      go_wp2_with (at_builtin; refine wpList_pushR appExR (RExN.kept _) rfl (.tmp 58) (.tmp 60) rfl w8 [.int .i64 q.op, .int .i64 q.v.kind, .int .i64 q.v.n, .string q.v.s, .string q.s, .slice Aq q.l.length cq] rfl (by intro u hu; simp at hu; rcases hu with rfl | rfl | rfl | rfl | rfl | rfl <;> rfl) (.slice Ar Lj.length cr) Lj q rfl hP8 hes rfl HSL.out hsb ?_; intro v9 w9 hP9 hg9 hat9; obtain ⟨A9, c9, rfl⟩ := OwnR.open_ hP9; have hO9 := hO8.grown hg9 (fun e => by have := (OwnP.lt hP8 _ e.symm).1; omega); have fo := hO9.frozen 5; have o9 := hO9.cell 5)
      go_roundw
      case rel =>
        rw [show (Lj ++ [q]).length = Lj.length + 1 by simp] at hP9
        refine ⟨j + 1, _, by omega, by go_num, hO9.set_ 5 _, ?_, ?_⟩
        · rw [HSN.out, HPC.out]; exact OwnP.set_ hP9 (by omega) _
        · exact ((hbr.trans (hb8r.mono (by omega))).trans (below_of_grown hg9 (by omega) (fun g hg => by have := (OwnP.lt hP8 g hg).1; omega))).setCell (p := ⟨w.heap.size + 1 + 1 + 1, 5, none⟩) (Nat.le_refl _) _
      case measure => simp [intOf]; omega
    · obtain rfl : j = x.l.length := by omega
      rw [List.take_of_length_le (by rw [putL_len]; exact Nat.le_refl _)] at hP
      obtain ⟨Ar, cr, rfl⟩ := OwnR.open_ hP
      have hS := OwnP.sl hP
      have hPE : putE (chooseB l k) y x = .mk x.op x.v x.s (putL (chooseB l k) y x.op 0 x.l) := putE_eq _ _ _
      have HPE := Lib.hid hPE
      have HFX := Lib.hid (And.intro fx1 (And.intro fx2 fx3))
      generalize putL (chooseB l k) y x.op 0 x.l = ps at *
      clear hPE hP fx1 fx2 fx3 hlx hly hyy ih hXr hYr
      obtain ⟨o0, o1, o2, o3, o4, o5⟩ := hO.c6
      obtain ⟨r0, r1, r2, r3, r4, r5⟩ := hRr.c6
      have f0 := hRr.frozen 0
      have f1 := hRr.frozen 1
      have f2 := hRr.frozen 2
      have f3 := hRr.frozen 3
      have f4 := hRr.frozen 4
      have f5 := hRr.frozen 5
      go_wp2_with fail
      obtain ⟨s0, s1, s2, s3, s4, s5⟩ := (hRr.set6' (.int .i64 x.op) (.int .i64 x.v.kind) (.int .i64 x.v.n) (.string x.v.s) (.string x.s) (.slice Ar ps.length cr)).c6
      refine bodyPost_ret (v := .agg #[.int .i64 x.op, .int .i64 x.v.kind, .int .i64 x.v.n, .string x.v.s, .string x.s, .slice Ar ps.length cr]) (by simp [results, Tryz.results34, go_sem, s0, s1, s2, s3, s4, s5]) rfl ?_
      refine ⟨_, rfl, ?_, below6 hbw (by omega) _ _ _ _ _ _⟩
      rw [HPE.out]
      refine ⟨_, rfl, HFX.out.1, HFX.out.2.1, HFX.out.2.2, Sl.keep hS (RExN.kept _) (fun b hb => ?_) (fun b hb => heap6 wr (fun e => ?_) _ _ _ _ _ _)⟩
      · rcases hb with hb | hb
        · exact .inl hb
        · exact .inr ⟨by omega, by simpa using hb.2⟩
      · rcases hb with hb | hb
        · have := hD b hb; omega
        · omega
theorem put_any (l : List Var) (k : Int) (gv gk gp cv : Nat) (Av : Option Addr) (m : Nat) (hl : l.length ≤ 1000000) (n : Nat) : PutC l k gv gk gp cv Av m n := by
  induction n with
  | zero => exact put_step l k gv gk gp cv Av m 0 hl (fun n' h => by omega)
  | succ n ih =>
    refine put_step l k gv gk gp cv Av m (n + 1) hl (fun n' h => ?_)
    have e : n = n' := by omega
    rw [← e]
    exact ih
end Go.Proofs.YtijmnenojbfdnaaGreatDoor
