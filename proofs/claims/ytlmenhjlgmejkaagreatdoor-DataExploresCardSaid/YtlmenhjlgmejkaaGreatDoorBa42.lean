/- Texts of this seat, merged. -/
import Derived.Test.YtlmenhjlgmejkaaGreatDoorBa38
import Derived.Test.YtlmenhjlgmejkaaGreatDoorBa41
set_option linter.unusedSimpArgs false
set_option linter.unusedVariables false
namespace Go.Proofs.YtlmenhjlgmejkaaGreatDoor
open Go.RowKit
set_option maxHeartbeats 16000000 in
set_option maxRecDepth 100000 in
theorem dataExplores_any {n : Nat} (d : DNet) (s : St) (most : Int) (u us : Value) (w : World) (h : IsDn n (Lt w.heap.size) w u d) (hs : IsSt (Lt w.heap.size) w us s) (ha : Amb w) :
    Calls Tryz.prog 4 #[u, us, .int .i64 most] w (RetTrue w) := by
  have h0 := h
  have hs0 := hs
  obtain ⟨At, ct, Ax, cx, iv, Ag, cg, Aw, cw, rfl, dn1, dn2, dn3, dn4, dn5, ⟨t1, t2⟩, ⟨x1, x2⟩, ⟨g1, g2⟩, v1, v2⟩ := h.open_
  obtain ⟨Am, cm, Av, cv, rfl, s1, s2, ⟨t3, t4⟩, t5, t6⟩ := hs.open_
  clear h hs dn1 dn2 dn3 dn4 dn5 s1 s2
  have hb0 := bone w (.cells #[.int .i64 d.net.places, .slice At d.net.trans.length ct, .int .i64 d.net.source, .int .i64 d.net.sink, .slice Ax d.vars.length cx, iv, .slice Ag d.guards.length cg, .slice Aw d.writes.length cw] 30)
  have hb := bbox hb0 (.cells #[.slice Am s.marks.length cm, .slice Av s.vals.length cv] 33)
  have hB := (Blk.new w 30 #[.int .i64 d.net.places, .slice At d.net.trans.length ct, .int .i64 d.net.source, .int .i64 d.net.sink, .slice Ax d.vars.length cx, iv, .slice Ag d.guards.length cg, .slice Aw d.writes.length cw]).alloc (.cells #[.slice Am s.marks.length cm, .slice Av s.vals.length cv] 33)
  have hC := (Blk.new_at (t := 33) (cs := #[.slice Am s.marks.length cm, .slice Av s.vals.length cv]) (w := w.alloc (.cells #[.int .i64 d.net.places, .slice At d.net.trans.length ct, .int .i64 d.net.source, .int .i64 d.net.sink, .slice Ax d.vars.length cx, iv, .slice Ag d.guards.length cg, .slice Aw d.writes.length cw] 30)) (s := w.heap.size + 1) (by simp))
  have hd1 := h0.now hb
  have hs1 := hs0.now hb
  have ha1 := ha.now hb
  clear h0 hs0 ha hb0
  go_enter Tryz.func4, Tryz.ntmps4
  go_upto_region 1 with fail
  generalize hw1e : (w.alloc (.cells #[.int .i64 d.net.places, .slice At d.net.trans.length ct, .int .i64 d.net.source, .int .i64 d.net.sink, .slice Ax d.vars.length cx, iv, .slice Ag d.guards.length cg, .slice Aw d.writes.length cw] 30)).alloc (.cells #[.slice Am s.marks.length cm, .slice Av s.vals.length cv] 33) = w1 at *
  clear hw1e
  go_wp2_with fail
  refine (awake_any w1 ha1).mono ?_
  rintro e w2 ⟨rfl, hb2⟩
  have hbw2 := bthen hb hb2
  have hB2 := hB.now hb2
  have hC2 := hC.now hb2
  have hd2 := hd1.now hb2
  have hs2 := hs1.now hb2
  clear hB hC hd1 hs1 hb
  have ha2 := ha1.now hb2
  clear ha1
  obtain ⟨q0, q1, q2, q3, q4, q5, q6, q7⟩ := hB2.c8
  obtain ⟨y0, y1⟩ := hC2.c2
  go_wp2_with fail
  refine (few_any n d _ w2 hd2).mono ?_
  rintro e w3 ⟨q, rfl, hq, hb3⟩
  have hbw3 := bthen hbw2 hb3
  have hB3 := hB2.now hb3
  have hC3 := hC2.now hb3
  have hd3 := hd2.now hb3
  have hs3 := hs2.now hb3
  have ha3 := ha2.now hb3
  clear hB2 hC2 hd2 hs2 q0 q1 q2 q3 q4 q5 q6 q7 y0 y1 hbw2
  obtain ⟨q0, q1, q2, q3, q4, q5, q6, q7⟩ := hB3.c8
  obtain ⟨y0, y1⟩ := hC3.c2
  cases q
  · go_wp2_with fail
    go_ret
    exact ⟨rfl, hbw3⟩
  have hl : d.vars.length ≤ 1000000 := by have := (hq rfl).2.2.1; omega
  clear hq
  have HST := Lib.hid (state_any s _ w3 hs3)
  go_wp2_with fail
  refine HST.out.mono ?_
  rintro e w4 ⟨q, rfl, hb4⟩
  have hbw4 := bthen hbw3 hb4
  have hB4 := hB3.now hb4
  have hC4 := hC3.now hb4
  have hd4 := hd3.now hb4
  have hs4 := hs3.now hb4
  have ha4 := ha3.now hb4
  clear HST hB3 hC3 hd3 hs3 q0 q1 q2 q3 q4 q5 q6 q7 y0 y1 hbw3
  obtain ⟨q0, q1, q2, q3, q4, q5, q6, q7⟩ := hB4.c8
  obtain ⟨y0, y1⟩ := hC4.c2
  cases q
  · go_wp2_with fail
    go_ret
    exact ⟨rfl, hbw4⟩
  by_cases c1 : most > 60
  · by_cases c2 : most ≤ 2000
    · go_wp2_with fail
      go_ret
      exact ⟨rfl, hbw4⟩
    · have HR1 := Lib.hid (dexplore_any n d s most _ _ w4 hd4 hs4 hl ha4)
      go_wp2_with fail
      refine HR1.out.mono ?_
      rintro e w5 ⟨sv5, mv5, rfl, hsv5, hmv5, hb5⟩
      have hB5 := hB4.now hb5
      have hC5 := hC4.now hb5
      have hd5 := hd4.now hb5
      have hs5 := hs4.now hb5
      have hbw5 := bthen hbw4 hb5
      clear HR1 hB4 hC4 hd4 hs4 q0 q1 q2 q3 q4 q5 q6 q7 y0 y1 ha4
      obtain ⟨q0, q1, q2, q3, q4, q5, q6, q7⟩ := hB5.c8
      obtain ⟨y0, y1⟩ := hC5.c2
      have HR2 := Lib.hid (explore30_ref n d s most _ _ w5 hd5 hs5)
      go_wp2_with fail
      refine HR2.out.mono ?_
      rintro e w6 ⟨sv6, mv6, rfl, hsv6, hmv6, hb6⟩
      have hsv5 := hsv5.now hb6
      have hmv5 := hmv5.now hb6
      have hbw6 := bthen hbw5 hb6
      clear HR2 hB5 hC5 hd5 hs5 hb6 q0 q1 q2 q3 q4 q5 q6 q7 y0 y1
      have HS1 := sameAll_ref _ _ _ _ w6 hsv5 hsv6
      rw [decide_eq_true rfl] at HS1
      have HS1 := Lib.hid HS1
      have e2 : ((dexplE d s most).2 == (dexplE d s most).2) = true := beq_self_eq_true _
      have e1 : ((dexplE d s most).1.full == (dexplE d s most).1.full) = true := beq_self_eq_true _
      generalize dexplE d s most = R at *
      go_wp2_with fail
      refine HS1.out.mono ?_
      rintro e w7 ⟨rfl, hb7⟩
      have HS2 := sameMoves_ref _ _ _ _ w7 (hmv5.now hb7) (hmv6.now hb7)
      rw [decide_eq_true rfl] at HS2
      have HS2 := Lib.hid HS2
      go_wp2_with fail
      refine HS2.out.mono ?_
      rintro e w8 ⟨rfl, hb8⟩
      go_wp2_with fail
      go_ret
      exact ⟨rfl, bthen (bthen hbw6 hb7) hb8⟩
  · have HR1 := Lib.hid (dexplore_any n d s most _ _ w4 hd4 hs4 hl ha4)
    go_wp2_with fail
    refine HR1.out.mono ?_
    rintro e w5 ⟨sv5, mv5, rfl, hsv5, hmv5, hb5⟩
    have hB5 := hB4.now hb5
    have hC5 := hC4.now hb5
    have hd5 := hd4.now hb5
    have hs5 := hs4.now hb5
    have hbw5 := bthen hbw4 hb5
    clear HR1 hB4 hC4 hd4 hs4 q0 q1 q2 q3 q4 q5 q6 q7 y0 y1 ha4
    obtain ⟨q0, q1, q2, q3, q4, q5, q6, q7⟩ := hB5.c8
    obtain ⟨y0, y1⟩ := hC5.c2
    have HR2 := Lib.hid (explore30_ref n d s most _ _ w5 hd5 hs5)
    go_wp2_with fail
    refine HR2.out.mono ?_
    rintro e w6 ⟨sv6, mv6, rfl, hsv6, hmv6, hb6⟩
    have hsv5 := hsv5.now hb6
    have hmv5 := hmv5.now hb6
    have hbw6 := bthen hbw5 hb6
    clear HR2 hB5 hC5 hd5 hs5 hb6 q0 q1 q2 q3 q4 q5 q6 q7 y0 y1
    have HS1 := sameAll_ref _ _ _ _ w6 hsv5 hsv6
    rw [decide_eq_true rfl] at HS1
    have HS1 := Lib.hid HS1
    have e2 : ((dexplE d s most).2 == (dexplE d s most).2) = true := beq_self_eq_true _
    have e1 : ((dexplE d s most).1.full == (dexplE d s most).1.full) = true := beq_self_eq_true _
    generalize dexplE d s most = R at *
    go_wp2_with fail
    refine HS1.out.mono ?_
    rintro e w7 ⟨rfl, hb7⟩
    have HS2 := sameMoves_ref _ _ _ _ w7 (hmv5.now hb7) (hmv6.now hb7)
    rw [decide_eq_true rfl] at HS2
    have HS2 := Lib.hid HS2
    go_wp2_with fail
    refine HS2.out.mono ?_
    rintro e w8 ⟨rfl, hb8⟩
    go_wp2_with fail
    go_ret
    exact ⟨rfl, bthen (bthen hbw6 hb7) hb8⟩
end Go.Proofs.YtlmenhjlgmejkaaGreatDoor
