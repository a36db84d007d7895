/- Texts of this seat, merged. -/
import Derived.Test.YtlmenhjlgmejkaaGreatDoorBa39
set_option linter.unusedSimpArgs false
set_option linter.unusedVariables false
namespace Go.Proofs.YtlmenhjlgmejkaaGreatDoor
open Go.RowKit
theorem den_ok {d : DNet} {s : St} (h : vstateB d s = true) : denE d s = (firesTo d s d.net.trans.length, 0) := by unfold denE; rw [if_pos h]
theorem den_bad {d : DNet} {s : St} (h : vstateB d s = false) : denE d s = ([], 1) := by unfold denE; rw [h]; rfl
theorem dfinal_bad {d : DNet} {s : St} (h : vstateB d s = false) : dfinalE d s = (false, 1) := by unfold dfinalE; rw [h]; rfl
theorem init_ok {d : DNet} (h : dvalidB d = true) : dinitE d = (firstS d, 0) := by unfold dinitE; rw [h]; rfl
theorem init_bad {d : DNet} (h : dvalidB d = false) : dinitE d = (noSt, 1) := by unfold dinitE; rw [h]; rfl
theorem none_no : noneB noSt = true := by decide
set_option maxHeartbeats 32000000 in
set_option maxRecDepth 100000 in
theorem dataFires_any {n : Nat} (d : DNet) (s : St) (t : Int) (u us : Value) (w : World) (h : IsDn n (Lt w.heap.size) w u d) (hs : IsSt (Lt w.heap.size) w us s) (ha : Amb w) :
    Calls Tryz.prog 8 #[u, us, .int .i64 t] w (RetTrue w) := by
  have h0 := h
  have hs0 := hs
  obtain ⟨At, ct, Ax, cx, iv, Ag, cg, Aw, cw, rfl, dn1, dn2, dn3, dn4, dn5, ⟨t1, t2⟩, ⟨x1, x2⟩, ⟨g1, g2⟩, v1, v2⟩ := h.open_
  obtain ⟨Am, cm, Av, cv, rfl, s1, s2, ⟨t3, t4⟩, t5, t6⟩ := hs.open_
  clear h hs dn1 dn2 dn3 dn4 dn5 s1 s2
  have hb0 := bone w (.cells #[.int .i64 d.net.places, .slice At d.net.trans.length ct, .int .i64 d.net.source, .int .i64 d.net.sink, .slice Ax d.vars.length cx, iv, .slice Ag d.guards.length cg, .slice Aw d.writes.length cw] 30)
  have hbw1 := bbox hb0 (.cells #[.slice Am s.marks.length cm, .slice Av s.vals.length cv] 33)
  have hB1 := (Blk.new w 30 #[.int .i64 d.net.places, .slice At d.net.trans.length ct, .int .i64 d.net.source, .int .i64 d.net.sink, .slice Ax d.vars.length cx, iv, .slice Ag d.guards.length cg, .slice Aw d.writes.length cw]).alloc (.cells #[.slice Am s.marks.length cm, .slice Av s.vals.length cv] 33)
  have hC1 := (Blk.new_at (t := 33) (cs := #[.slice Am s.marks.length cm, .slice Av s.vals.length cv]) (w := w.alloc (.cells #[.int .i64 d.net.places, .slice At d.net.trans.length ct, .int .i64 d.net.source, .int .i64 d.net.sink, .slice Ax d.vars.length cx, iv, .slice Ag d.guards.length cg, .slice Aw d.writes.length cw] 30)) (s := w.heap.size + 1) (by simp))
  have hd1 := h0.now hbw1
  have hs1 := hs0.now hbw1
  have ha1 := ha.now hbw1
  clear h0 hs0 ha hb0
  go_enter Tryz.func8, Tryz.ntmps8
  go_upto_region 1 with fail
  generalize hw1e : (w.alloc (.cells #[.int .i64 d.net.places, .slice At d.net.trans.length ct, .int .i64 d.net.source, .int .i64 d.net.sink, .slice Ax d.vars.length cx, iv, .slice Ag d.guards.length cg, .slice Aw d.writes.length cw] 30)).alloc (.cells #[.slice Am s.marks.length cm, .slice Av s.vals.length cv] 33) = w1 at *
  clear hw1e
  go_wp2_with fail
  refine (awake_any w1 ha1).mono ?_
  rintro e w2 ⟨rfl, hb2⟩
  have hB2 := hB1.now hb2
  have hC2 := hC1.now hb2
  have hd2 := hd1.now hb2
  have hs2 := hs1.now hb2
  have hbw2 := bthen hbw1 hb2
  clear hB1 hC1 hd1 hs1 hbw1
  clear ha1
  obtain ⟨q0, q1, q2, q3, q4, q5, q6, q7⟩ := hB2.c8
  obtain ⟨y0, y1⟩ := hC2.c2
  go_wp2_with fail
  refine (few_any n d _ w2 hd2).mono ?_
  rintro e w3 ⟨q, rfl, hq, hb3⟩
  have hB3 := hB2.now hb3
  have hC3 := hC2.now hb3
  have hd3 := hd2.now hb3
  have hs3 := hs2.now hb3
  have hbw3 := bthen hbw2 hb3
  clear hB2 hC2 hd2 hs2 hbw2
  clear q0 q1 q2 q3 q4 q5 q6 q7 y0 y1
  obtain ⟨q0, q1, q2, q3, q4, q5, q6, q7⟩ := hB3.c8
  obtain ⟨y0, y1⟩ := hC3.c2
  cases q
  · go_wp2_with fail
    go_ret
    exact ⟨rfl, hbw3⟩
  have hl : d.vars.length ≤ 1000000 := by have := (hq rfl).2.2.1; omega
  clear hq
  have HST := Lib.hid (state_any s _ w3 hs3)
  go_wp2_with fail
  refine HST.out.mono ?_
  rintro e w4 ⟨q, rfl, hb4⟩
  have hB4 := hB3.now hb4
  have hC4 := hC3.now hb4
  have hd4 := hd3.now hb4
  have hs4 := hs3.now hb4
  have hbw4 := bthen hbw3 hb4
  clear hB3 hC3 hd3 hs3 hbw3
  clear HST q0 q1 q2 q3 q4 q5 q6 q7 y0 y1
  obtain ⟨q0, q1, q2, q3, q4, q5, q6, q7⟩ := hB4.c8
  obtain ⟨y0, y1⟩ := hC4.c2
  cases q
  · go_wp2_with fail
    go_ret
    exact ⟨rfl, hbw4⟩
  have HIN := Lib.hid (dinit_any n d _ w4 hd4 hl)
  go_wp2_with fail
  refine HIN.out.mono ?_
  rintro e w5 ⟨fv, rfl, hfv, hb5⟩
  clear HIN
  cases hv : dvalidB d with
  | false =>
    rw [init_bad hv] at hfv ⊢
    dsimp only at hfv ⊢
    have hB5 := hB4.now hb5
    have hC5 := hC4.now hb5
    have hd5 := hd4.now hb5
    have hs5 := hs4.now hb5
    have hbw5 := bthen hbw4 hb5
    clear hB4 hC4 hd4 hs4 hbw4
    obtain ⟨Af, cf, Bf, df, rfl, f1, f2, ⟨f3, f4⟩, f5, f6⟩ := hfv.open_
    have hb6 := bone w5 (.cells #[.slice Af noSt.marks.length cf, .slice Bf noSt.vals.length df] 33)
    have hF := Blk.new w5 33 #[.slice Af noSt.marks.length cf, .slice Bf noSt.vals.length df]
    have hB6 := hB5.now hb6
    have hC6 := hC5.now hb6
    have hd6 := hd5.now hb6
    have hs6 := hs5.now hb6
    have hbw6 := bthen hbw5 hb6
    clear hB5 hC5 hd5 hs5 hbw5
    have hfv6 := hfv.now hb6
    clear f1 f2 hfv q0 q1 q2 q3 q4 q5 q6 q7 y0 y1
    go_upto_region 6 with fail
    generalize hw6 : w5.alloc (.cells #[.slice Af noSt.marks.length cf, .slice Bf noSt.vals.length df] 33) = w6 at *
    clear hw6 hb6
    obtain ⟨q0, q1, q2, q3, q4, q5, q6, q7⟩ := hB6.c8
    have HVR := dvalid_ref n d _ w6 hd6
    rw [hv] at HVR
    have HVR := Lib.hid HVR
    go_wp2_with fail
    refine HVR.out.mono ?_
    rintro e w7 ⟨rfl, hb7⟩
    have hB7 := hB6.now hb7
    have hC7 := hC6.now hb7
    have hd7 := hd6.now hb7
    have hs7 := hs6.now hb7
    have hbw7 := bthen hbw6 hb7
    clear hB6 hC6 hd6 hs6 hbw6
    have hF7 := hF.now hb7
    have hfv7 := hfv6.now hb7
    clear HVR q0 q1 q2 q3 q4 q5 q6 q7
    obtain ⟨q0, q1, q2, q3, q4, q5, q6, q7⟩ := hB7.c8
    have HVA := dvalid_any n d _ w7 hd7 hl
    rw [hv] at HVA
    have HVA := Lib.hid HVA
    clear hv
    go_wp2_with fail
    refine HVA.out.mono ?_
    rintro e w8 ⟨rfl, hb8⟩
    have hB8 := hB7.now hb8
    have hC8 := hC7.now hb8
    have hd8 := hd7.now hb8
    have hs8 := hs7.now hb8
    have hbw8 := bthen hbw7 hb8
    clear hB7 hC7 hd7 hs7 hbw7
    have hF8 := hF7.now hb8
    have hfv8 := hfv7.now hb8
    clear HVA q0 q1 q2 q3 q4 q5 q6 q7
    obtain ⟨y0, y1⟩ := hF8.c2
    have HNO := none_any _ _ w8 hfv8
    rw [none_no] at HNO
    have HNO := Lib.hid HNO
    go_wp2_with fail
    refine HNO.out.mono ?_
    rintro e w9 ⟨rfl, hb9⟩
    go_wp2_with fail
    go_ret
    exact ⟨rfl, bthen hbw8 hb9⟩
  | true =>
    rw [init_ok hv] at hfv ⊢
    dsimp only at hfv ⊢
    have hB5 := hB4.now hb5
    have hC5 := hC4.now hb5
    have hd5 := hd4.now hb5
    have hs5 := hs4.now hb5
    have hbw5 := bthen hbw4 hb5
    clear hB4 hC4 hd4 hs4 hbw4
    obtain ⟨Af, cf, Bf, df, rfl, f1, f2, ⟨f3, f4⟩, f5, f6⟩ := hfv.open_
    have hb6 := bone w5 (.cells #[.slice Af (firstS d).marks.length cf, .slice Bf (firstS d).vals.length df] 33)
    have hF := Blk.new w5 33 #[.slice Af (firstS d).marks.length cf, .slice Bf (firstS d).vals.length df]
    have hB6 := hB5.now hb6
    have hC6 := hC5.now hb6
    have hd6 := hd5.now hb6
    have hs6 := hs5.now hb6
    have hbw6 := bthen hbw5 hb6
    clear hB5 hC5 hd5 hs5 hbw5
    have hfv6 := hfv.now hb6
    clear f1 f2 hfv q0 q1 q2 q3 q4 q5 q6 q7 y0 y1
    go_upto_region 6 with fail
    generalize hw6 : w5.alloc (.cells #[.slice Af (firstS d).marks.length cf, .slice Bf (firstS d).vals.length df] 33) = w6 at *
    clear hw6 hb6
    obtain ⟨q0, q1, q2, q3, q4, q5, q6, q7⟩ := hB6.c8
    have HVR := dvalid_ref n d _ w6 hd6
    rw [hv] at HVR
    have HVR := Lib.hid HVR
    go_wp2_with fail
    refine HVR.out.mono ?_
    rintro e w7 ⟨rfl, hb7⟩
    have hB7 := hB6.now hb7
    have hC7 := hC6.now hb7
    have hd7 := hd6.now hb7
    have hs7 := hs6.now hb7
    have hbw7 := bthen hbw6 hb7
    clear hB6 hC6 hd6 hs6 hbw6
    have hF7 := hF.now hb7
    have hfv7 := hfv6.now hb7
    clear HVR q0 q1 q2 q3 q4 q5 q6 q7 hF hfv6
    have HV := Lib.hid hv
    have hvs : vstateB d s = stateB d s := by unfold vstateB; rw [hv, Bool.true_and]
    have hst2 : (markingB d.net.places s.marks && asgB d.vars s.vals) = stateB d s := by unfold stateB; rw [(dvalid_parts hv).1, Bool.true_and]
    have HCV : Hid (∀ W, Below w7.heap.size w7 W → Calls Tryz.prog 28 #[.agg #[.int .i64 d.net.places, .slice At d.net.trans.length ct, .int .i64 d.net.source, .int .i64 d.net.sink, .slice Ax d.vars.length cx, iv, .slice Ag d.guards.length cg, .slice Aw d.writes.length cw]] W fun e w' => e = .returned (.bool true) ∧ Below w7.heap.size w7 w') := fun W hW => (dvalid_any n d _ W (hd7.now hW) hl).mono fun e w' ⟨he, hb⟩ => ⟨by rw [he, hv], bthen hW hb⟩
    have HCI : Hid (∀ W, Below w7.heap.size w7 W → Calls Tryz.prog 40 #[.agg #[.int .i64 d.net.places, .slice At d.net.trans.length ct, .int .i64 d.net.source, .int .i64 d.net.sink, .slice Ax d.vars.length cx, iv, .slice Ag d.guards.length cg, .slice Aw d.writes.length cw]] W fun e w' => ∃ A c A' c', e = .returned (.agg #[.slice A (firstS d).marks.length c, .slice A' (firstS d).vals.length c']) ∧ IsSt (Lt w'.heap.size) w' (.agg #[.slice A (firstS d).marks.length c, .slice A' (firstS d).vals.length c']) (firstS d) ∧ Below w7.heap.size w7 w') := fun W hW => by
      refine (initial30_ref n d _ W (hd7.now hW) hv).mono ?_
      rintro e w' ⟨v, rfl, hv', hb⟩
      have hv0 := hv'
      obtain ⟨A, c, A', c', rfl, _⟩ := hv'.open_
      exact ⟨A, c, A', c', rfl, hv0, bthen hW hb⟩
    have HCS : Hid (∀ W v, Below w7.heap.size w7 W → IsSt (Lt W.heap.size) W v (firstS d) → Calls Tryz.prog 16 #[.agg #[.slice Af (firstS d).marks.length cf, .slice Bf (firstS d).vals.length df], v] W fun e w' => e = .returned (.bool true) ∧ Below w7.heap.size w7 w') := fun W v hW hv' => (sameSt_ref _ _ _ _ W (hfv7.now hW) hv').mono fun e w' ⟨he, hb⟩ => ⟨by rw [he, sameSt_self], bthen hW hb⟩
    have HC1 : Hid (∀ W, Below w7.heap.size w7 W → Calls Tryz.prog 41 #[.agg #[.int .i64 d.net.places, .slice At d.net.trans.length ct, .int .i64 d.net.source, .int .i64 d.net.sink, .slice Ax d.vars.length cx, iv, .slice Ag d.guards.length cg, .slice Aw d.writes.length cw], .agg #[.slice Am s.marks.length cm, .slice Av s.vals.length cv]] W fun e w' => e = .returned (.bool (stateB d s)) ∧ Below w7.heap.size w7 w') := fun W hW => (dvstate_any n d s _ _ W (hd7.now hW) (hs7.now hW) hl).mono fun e w' ⟨he, hb⟩ => ⟨by rw [he, hvs], bthen hW hb⟩
    have HC2 : Hid (∀ W, Below w7.heap.size w7 W → Calls Tryz.prog 42 #[.agg #[.int .i64 d.net.places, .slice At d.net.trans.length ct, .int .i64 d.net.source, .int .i64 d.net.sink, .slice Ax d.vars.length cx, iv, .slice Ag d.guards.length cg, .slice Aw d.writes.length cw], .agg #[.slice Am s.marks.length cm, .slice Av s.vals.length cv]] W fun e w' => e = .returned (.bool (stateB d s)) ∧ Below w7.heap.size w7 w') := fun W hW => (dstate_ref n d s _ _ W (hd7.now hW) (hs7.now hW) (asg_parts (dvalid_parts hv).2.1).1).mono fun e w' ⟨he, hb⟩ => ⟨by rw [he, hst2], bthen hW hb⟩
    have HS : Hid (∀ W, Below w7.heap.size w7 W → W.cell? ⟨w.heap.size, 0, none⟩ = some (.int .i64 d.net.places) ∧ W.cell? ⟨w.heap.size, 1, none⟩ = some (.slice At d.net.trans.length ct) ∧ W.cell? ⟨w.heap.size, 2, none⟩ = some (.int .i64 d.net.source) ∧ W.cell? ⟨w.heap.size, 3, none⟩ = some (.int .i64 d.net.sink) ∧ W.cell? ⟨w.heap.size, 4, none⟩ = some (.slice Ax d.vars.length cx) ∧ W.cell? ⟨w.heap.size, 5, none⟩ = some iv ∧ W.cell? ⟨w.heap.size, 6, none⟩ = some (.slice Ag d.guards.length cg) ∧ W.cell? ⟨w.heap.size, 7, none⟩ = some (.slice Aw d.writes.length cw) ∧ W.cell? ⟨w.heap.size + 1, 0, none⟩ = some (.slice Am s.marks.length cm) ∧ W.cell? ⟨w.heap.size + 1, 1, none⟩ = some (.slice Av s.vals.length cv) ∧ W.cell? ⟨w5.heap.size, 0, none⟩ = some (.slice Af (firstS d).marks.length cf) ∧ W.cell? ⟨w5.heap.size, 1, none⟩ = some (.slice Bf (firstS d).vals.length df)) := fun W hW => by
      obtain ⟨q0, q1, q2, q3, q4, q5, q6, q7⟩ := (hB7.now hW).c8
      obtain ⟨y0, y1⟩ := (hC7.now hW).c2
      obtain ⟨z0, z1⟩ := (hF7.now hW).c2
      exact ⟨q0, q1, q2, q3, q4, q5, q6, q7, y0, y1, z0, z1⟩
    clear hv hvs hst2
    go_upto_region 8 with fail
    have hbd : Below w7.heap.size w7 w7.drew := (Below.refl _ _).drew
    generalize stateB d s = sb at *
    have e9 : (sb != sb) = false := by cases sb <;> rfl
    go_cut [68] (fun s68 W => s68 = .bool false ∧ Below w7.heap.size w7 W)
    case first =>
      obtain ⟨q0, q1, q2, q3, q4, q5, q6, q7, y0, y1, z0, z1⟩ := HS.out _ hbd
      go_region_held3 (fun W => W.cell? ⟨w.heap.size, 0, none⟩ = some (.int .i64 d.net.places) ∧ W.cell? ⟨w.heap.size, 1, none⟩ = some (.slice At d.net.trans.length ct) ∧ W.cell? ⟨w.heap.size, 2, none⟩ = some (.int .i64 d.net.source) ∧ W.cell? ⟨w.heap.size, 3, none⟩ = some (.int .i64 d.net.sink) ∧ W.cell? ⟨w.heap.size, 4, none⟩ = some (.slice Ax d.vars.length cx) ∧ W.cell? ⟨w.heap.size, 5, none⟩ = some iv ∧ W.cell? ⟨w.heap.size, 6, none⟩ = some (.slice Ag d.guards.length cg) ∧ W.cell? ⟨w.heap.size, 7, none⟩ = some (.slice Aw d.writes.length cw) ∧ W.cell? ⟨w.heap.size + 1, 0, none⟩ = some (.slice Am s.marks.length cm) ∧ W.cell? ⟨w.heap.size + 1, 1, none⟩ = some (.slice Av s.vals.length cv) ∧ W.cell? ⟨w5.heap.size, 0, none⟩ = some (.slice Af (firstS d).marks.length cf) ∧ W.cell? ⟨w5.heap.size, 1, none⟩ = some (.slice Bf (firstS d).vals.length df)) (exact HS.out _ (by assumption))
        (first | (go_at_call 28; (with_reducible refine (HCV.out _ (by assumption)).mono ?_); rintro e wa ⟨rfl, hba⟩) | (go_at_call 40; (with_reducible refine (HCI.out _ (by assumption)).mono ?_); rintro e wb ⟨A2, c2, A3, c3, rfl, hib, hbb⟩) | (go_at_call 16; (with_reducible refine (HCS.out _ _ (by assumption) (by assumption)).mono ?_); rintro e wc2 ⟨rfl, hbc⟩) | (go_at_call 41; (with_reducible refine (HC1.out _ (by assumption)).mono ?_); rintro e wd ⟨rfl, hbdd⟩) | (go_at_call 42; (with_reducible refine (HC2.out _ (by assumption)).mono ?_); rintro e we ⟨rfl, hbe⟩))
      all_goals (go_wp2_with fail; go_meet)
      all_goals exact ⟨rfl, by assumption⟩
    case rest =>
    obtain ⟨rfl, hb8⟩ := hcut
    clear HCV HCI HCS HC1 HC2 HS hbd e9 hF7 hfv7 hb7
    generalize hwc : wc = w8 at *
    clear hwc
    have hB8 := hB7.now hb8
    have hC8 := hC7.now hb8
    have hd8 := hd7.now hb8
    have hs8 := hs7.now hb8
    have hbw8 := bthen hbw7 hb8
    clear hB7 hC7 hd7 hs7 hbw7
    clear hb8
    obtain ⟨q0, q1, q2, q3, q4, q5, q6, q7⟩ := hB8.c8
    obtain ⟨y0, y1⟩ := hC8.c2
    have HR1 := Lib.hid (dfire_anyF n d s t _ _ w8 hd8 hs8 hl)
    go_wp2_with fail
    refine HR1.out.mono ?_
    rintro e w9 ⟨u9, rfl, hu9, hb9⟩
    clear HR1
    obtain ⟨A9, c9, B9, d9, rfl, _, _, ⟨k3, k4⟩, k5, k6⟩ := hu9.weak.open_
    have hb10 := bone w9 (.cells #[.slice A9 (dfireE d s t).1.marks.length c9, .slice B9 (dfireE d s t).1.vals.length d9] 33)
    have hX10 := Blk.new w9 33 #[.slice A9 (dfireE d s t).1.marks.length c9, .slice B9 (dfireE d s t).1.vals.length d9]
    have hu10 := hu9.weak.now hb10
    have hB9 := hB8.now hb9
    have hC9 := hC8.now hb9
    have hd9 := hd8.now hb9
    have hs9 := hs8.now hb9
    have hbw9 := bthen hbw8 hb9
    clear hB8 hC8 hd8 hs8 hbw8
    have hB10 := hB9.now hb10
    have hC10 := hC9.now hb10
    have hd10 := hd9.now hb10
    have hs10 := hs9.now hb10
    have hbw10 := bthen hbw9 hb10
    clear hB9 hC9 hd9 hs9 hbw9
    clear hu9 hb9 q0 q1 q2 q3 q4 q5 q6 q7 y0 y1
    go_upto_region 11 with fail
    generalize hw10 : w9.alloc (.cells #[.slice A9 (dfireE d s t).1.marks.length c9, .slice B9 (dfireE d s t).1.vals.length d9] 33) = w10 at *
    clear hw10 hb10
    obtain ⟨q0, q1, q2, q3, q4, q5, q6, q7⟩ := hB10.c8
    obtain ⟨y0, y1⟩ := hC10.c2
    have HR2 := Lib.hid (fire30_ref n d s t _ _ w10 hd10 hs10)
    go_wp2_with fail
    refine HR2.out.mono ?_
    rintro e w11 ⟨u11, rfl, hu11, hb11⟩
    clear HR2
    obtain ⟨A11, c11, B11, d11, rfl, _, _, ⟨k7, k8⟩, k9, k10⟩ := hu11.weak.open_
    have hb12 := bone w11 (.cells #[.slice A11 (dfireE d s t).1.marks.length c11, .slice B11 (dfireE d s t).1.vals.length d11] 33)
    have hY12 := Blk.new w11 33 #[.slice A11 (dfireE d s t).1.marks.length c11, .slice B11 (dfireE d s t).1.vals.length d11]
    have hv12 := hu11.weak.now hb12
    have hu12 := (hu10.now hb11).now hb12
    have hX12 := (hX10.now hb11).now hb12
    have hB11 := hB10.now hb11
    have hC11 := hC10.now hb11
    have hd11 := hd10.now hb11
    have hs11 := hs10.now hb11
    have hbw11 := bthen hbw10 hb11
    clear hB10 hC10 hd10 hs10 hbw10
    have hB12 := hB11.now hb12
    have hC12 := hC11.now hb12
    have hd12 := hd11.now hb12
    have hs12 := hs11.now hb12
    have hbw12 := bthen hbw11 hb12
    clear hB11 hC11 hd11 hs11 hbw11
    clear hu11 hb11 hu10 hX10 q0 q1 q2 q3 q4 q5 q6 q7 y0 y1
    go_upto_region 12 with fail
    generalize hw12 : w11.alloc (.cells #[.slice A11 (dfireE d s t).1.marks.length c11, .slice B11 (dfireE d s t).1.vals.length d11] 33) = w12 at *
    clear hw12 hb12
    obtain ⟨q0, q1, q2, q3, q4, q5, q6, q7⟩ := hB12.c8
    obtain ⟨y0, y1⟩ := hC12.c2
    have HFE := Lib.hid (rfl : (dfireE d s t).2 = (dfireE d s t).2)
    have ef : ((dfireE d s t).2 != (dfireE d s t).2) = false := bne_self_eq_false _
    have HR3 := Lib.hid (denabled_any n d s _ _ w12 hd12 hs12 hl)
    go_wp2_with fail
    refine HR3.out.mono ?_
    rintro e w13 ⟨v13, rfl, hv13, hb13⟩
    have hu13 := hu12.now hb13
    have hvv13 := hv12.now hb13
    have hX13 := hX12.now hb13
    have hY13 := hY12.now hb13
    have hB13 := hB12.now hb13
    have hC13 := hC12.now hb13
    have hd13 := hd12.now hb13
    have hs13 := hs12.now hb13
    have hbw13 := bthen hbw12 hb13
    clear hB12 hC12 hd12 hs12 hbw12
    clear HR3 hb13 hu12 hv12 hX12 hY12 HFE q0 q1 q2 q3 q4 q5 q6 q7 y0 y1
    obtain ⟨A13, c13, rfl, g13, g14, hv13⟩ := hv13.open_
    obtain ⟨q0, q1, q2, q3, q4, q5, q6, q7⟩ := hB13.c8
    obtain ⟨y0, y1⟩ := hC13.c2
    have HR4 := Lib.hid (dfinal_any n d s _ _ w13 hd13 hs13 hl)
    go_wp2_with fail
    refine HR4.out.mono ?_
    rintro e w14 ⟨rfl, hb14⟩
    have hu14 := hu13.now hb14
    have hvv14 := hvv13.now hb14
    have hX14 := hX13.now hb14
    have hY14 := hY13.now hb14
    have hv14 := hv13.now hb14
    have hB14 := hB13.now hb14
    have hC14 := hC13.now hb14
    have hd14 := hd13.now hb14
    have hs14 := hs13.now hb14
    have hbw14 := bthen hbw13 hb14
    clear hB13 hC13 hd13 hs13 hbw13
    clear HR4 hb14 hu13 hvv13 hX13 hY13 hv13 q0 q1 q2 q3 q4 q5 q6 q7 y0 y1
    obtain ⟨y0, y1⟩ := hX14.c2
    obtain ⟨z0, z1⟩ := hY14.c2
    have HS1 := sameSt_ref _ _ _ _ w14 hu14 hvv14
    rw [sameSt_self] at HS1
    have HS1 := Lib.hid HS1
    go_wp2_with fail
    refine HS1.out.mono ?_
    rintro e w15 ⟨rfl, hb15⟩
    have hv15 := hv14.now hb15
    have hB15 := hB14.now hb15
    have hC15 := hC14.now hb15
    have hd15 := hd14.now hb15
    have hs15 := hs14.now hb15
    have hbw15 := bthen hbw14 hb15
    clear hB14 hC14 hd14 hs14 hbw14
    clear HS1 hb15 hu14 hvv14 hX14 hY14 hv14 y0 y1 z0 z1 ef
    obtain ⟨q0, q1, q2, q3, q4, q5, q6, q7⟩ := hB15.c8
    obtain ⟨y0, y1⟩ := hC15.c2
    have hst2 : (markingB d.net.places s.marks && asgB d.vars s.vals) = stateB d s := by unfold stateB; rw [(dvalid_parts HV.out).1, Bool.true_and]
    have HR5 := dstate_ref n d s _ _ w15 hd15 hs15 (asg_parts (dvalid_parts HV.out).2.1).1
    rw [hst2] at HR5
    have HR5 := Lib.hid HR5
    clear hst2
    have hvs : vstateB d s = stateB d s := by unfold vstateB; rw [HV.out, Bool.true_and]
    cases hq : stateB d s with
    | false =>
      rw [hq] at HR5
      rw [hq] at hvs
      rw [den_bad hvs, dfinal_bad hvs]
      have HR5 := Lib.hid HR5.out
      clear g13 g14
      clear hq hvs hv15
      go_wp2_with fail
      refine HR5.out.mono ?_
      rintro e w16 ⟨rfl, hb16⟩
      go_wp2_with fail
      go_ret
      exact ⟨rfl, bthen hbw15 hb16⟩
    | true =>
      rw [hq] at HR5
      rw [hq] at hvs
      have HVS := Lib.hid hvs
      rw [den_ok hvs] at hv15 ⊢
      rw [show dfinalE d s = (finalM d s.marks, 0) from dfinal_ok hvs]
      clear hq hvs
      dsimp only at hv15 ⊢
      go_wp2_with fail
      refine HR5.out.mono ?_
      rintro e w16 ⟨rfl, hb16⟩
      have hv16 := hv15.now hb16
      have hB16 := hB15.now hb16
      have hC16 := hC15.now hb16
      have hd16 := hd15.now hb16
      have hs16 := hs15.now hb16
      have hbw16 := bthen hbw15 hb16
      clear hB15 hC15 hd15 hs15 hbw15
      clear HR5 hb16 hv15 q0 q1 q2 q3 q4 q5 q6 q7 y0 y1
      obtain ⟨q0, q1, q2, q3, q4, q5, q6, q7⟩ := hB16.c8
      obtain ⟨y0, y1⟩ := hC16.c2
      have HR6 := Lib.hid (enabled30_ref n d s _ _ w16 hd16 hs16 HVS.out)
      go_wp2_with fail
      refine HR6.out.mono ?_
      rintro e w17 ⟨v17, rfl, hv17, hb17⟩
      have hw17 := hv16.now hb17
      have hB17 := hB16.now hb17
      have hC17 := hC16.now hb17
      have hd17 := hd16.now hb17
      have hs17 := hs16.now hb17
      have hbw17 := bthen hbw16 hb17
      clear hB16 hC16 hd16 hs16 hbw16
      clear HR6 hb17 hv16 q0 q1 q2 q3 q4 q5 q6 q7 y0 y1
      obtain ⟨A17, c17, rfl, g17, g18, hv17⟩ := hv17.open_
      obtain ⟨q0, q1, q2, q3, q4, q5, q6, q7⟩ := hB17.c8
      obtain ⟨y0, y1⟩ := hC17.c2
      have HE1 := equalI _ _ _ _ w17 hw17 hv17
      rw [beq_self_eq_true] at HE1
      have HE1 := Lib.hid HE1
      go_wp2_with fail
      refine HE1.out.mono ?_
      rintro e w18 ⟨rfl, q, rfl⟩
      have hb18 := bdrawn (Below.refl w17.heap.size w17) q
      have hB18 := hB17.now hb18
      have hC18 := hC17.now hb18
      have hd18 := hd17.now hb18
      have hs18 := hs17.now hb18
      have hbw18 := bthen hbw17 hb18
      clear hB17 hC17 hd17 hs17 hbw17
      have HR7 := Lib.hid (final_ref n d s _ _ _ hd18 hs18 (dvalid_parts HV.out).1)
      clear q0 q1 q2 q3 q4 q5 q6 q7 y0 y1
      obtain ⟨q0, q1, q2, q3, q4, q5, q6, q7⟩ := hB18.c8
      obtain ⟨y0, y1⟩ := hC18.c2
      have ef : (finalM d s.marks == finalM d s.marks) = true := beq_self_eq_true _
      go_wp2_with fail
      refine HR7.out.mono ?_
      rintro e w19 ⟨rfl, hb19⟩
      go_wp2_with fail
      go_ret
      exact ⟨rfl, bthen hbw18 hb19⟩
end Go.Proofs.YtlmenhjlgmejkaaGreatDoor
