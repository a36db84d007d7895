/- Merged texts. -/
import Derived.Test.YtlmenhjlgmejkaaGreatDoorPl28
set_option linter.all false
namespace Go.Proofs.YtlmenhjlgmejkaaGreatDoor
open Go.RowKit
theorem plain_yes (n : Net) (u : Value) (w : World) (h : IsNet (Lt w.heap.size) w u n) (hv : validB n = true) :
    Calls Tryz.prog 50 #[u] w fun e w' => ∃ v, e = .returned (.tuple #[v, .int .i64 0]) ∧ IsDn 1 (Lt w'.heap.size) w' v (plainD n) ∧ Below w.heap.size w w' := by
  refine (plain_any n u w h).mono ?_
  rintro e w' ⟨v, rfl, h1, h2⟩
  rw [hv] at h1
  exact ⟨v, by rw [hv]; rfl, h1, h2⟩
theorem plain_no (n : Net) (u : Value) (w : World) (h : IsNet (Lt w.heap.size) w u n) (hv : validB n = false) :
    Calls Tryz.prog 50 #[u] w fun e w' => ∃ v, e = .returned (.tuple #[v, .int .i64 1]) ∧ IsDn 1 (Lt w'.heap.size) w' v (plainD emptyN) ∧ Below w.heap.size w w' := by
  refine (plain_any n u w h).mono ?_
  rintro e w' ⟨v, rfl, h1, h2⟩
  rw [hv] at h1
  exact ⟨v, by rw [hv]; rfl, h1, h2⟩
theorem open_plain {n : Net} {D : Nat → Prop} {w : World} {v : Value} (h : IsDn 1 D w v (plainD n)) : ∃ At ct Ax cx Ai ci Ag cg Aw cw, v = .agg #[.int .i64 n.places, .slice At n.trans.length ct, .int .i64 n.source, .int .i64 n.sink, .slice Ax 0 cx, .slice Ai 0 ci, .slice Ag n.trans.length cg, .slice Aw n.trans.length cw] := by
  obtain ⟨tv, xv, iv, gv, wv, rfl, ⟨tv', e, _, _, _, ht⟩, hx, hi, hg, hw⟩ := h
  injection e with e
  injection e with e
  injection e with _ e
  injection e with e _
  subst e
  obtain ⟨At, ct, rfl, _⟩ := ht.open_
  obtain ⟨Ax, cx, rfl, _⟩ := Sl.open_ hx
  obtain ⟨Ai, ci, rfl, _⟩ := Sl.open_ hi
  obtain ⟨Ag, cg, rfl, _⟩ := Sl.open_ hg
  obtain ⟨Aw, cw, rfl, _⟩ := Sl.open_ hw
  have e1 : (plainD n).guards.length = n.trans.length := by simp [plainD]
  have e2 : (plainD n).writes.length = n.trans.length := by simp [plainD]
  rw [e1, e2]
  exact ⟨At, ct, Ax, cx, Ai, ci, Ag, cg, Aw, cw, rfl⟩
theorem few_net {n : Net} {D : Nat → Prop} {w : World} {u : Value} (h : IsNet D w u n) : ∃ At ct, u = .agg #[.int .i64 n.places, .slice At n.trans.length ct, .int .i64 n.source, .int .i64 n.sink] ∧
    IsDn 1 D w (.agg #[.int .i64 n.places, .slice At n.trans.length ct, .int .i64 n.source, .int .i64 n.sink, .slice none 0 0, .slice none 0 0, .slice none 0 0, .slice none 0 0]) ⟨n, [], [], [], []⟩ := by
  have h0 := h
  obtain ⟨tv, rfl, _, _, _, ht⟩ := h
  obtain ⟨At, ct, rfl, _⟩ := ht.open_
  exact ⟨At, ct, rfl, _, _, _, _, _, rfl, h0, Sl.none_, Sl.none_, Sl.none_, Sl.none_⟩
theorem plain_leaf (n : Net) : (∀ x ∈ (plainD n).guards, x.l = []) ∧ (∀ r ∈ (plainD n).writes, r = []) :=
  ⟨fun x hx => by rw [(List.mem_replicate.1 hx).2]; rfl, fun r hr => (List.mem_replicate.1 hr).2⟩
theorem open_pln {D : Nat → Prop} {w : World} {sv : Value} {l : List St} (h : SlII D w sv (l.map (·.marks))) : ∃ A c, sv = .slice A l.length c ∧ SlII D w (.slice A l.length c) (l.map (·.marks)) := by
  obtain ⟨A, c, e, _, _, h⟩ := h.open_
  rw [List.length_map] at e h
  exact ⟨A, c, e, h⟩
set_option maxHeartbeats 16000000 in
set_option maxRecDepth 100000 in
theorem dataPlain_any (n : Net) (m : List Int) (most : Int) (u mv : Value) (w : World) (h : IsNet (Lt w.heap.size) w u n) (hm : SlI (Lt w.heap.size) w mv m) (ha : Amb w) :
    Calls Tryz.prog 10 #[u, mv, .int .i64 most] w (RetTrue w) := by
  have h0 := h
  obtain ⟨At, ct, rfl, hfew⟩ := few_net h
  obtain ⟨Am, cm, rfl, m1, m2, hm⟩ := hm.open_
  have hb := bone w (.cells #[.int .i64 n.places, .slice At n.trans.length ct, .int .i64 n.source, .int .i64 n.sink] 24)
  have hB := Blk.new w 24 #[.int .i64 n.places, .slice At n.trans.length ct, .int .i64 n.source, .int .i64 n.sink]
  have hd1 := h0.now hb
  have hm1 := hm.now hb
  have hf1 := hfew.now hb
  have ha1 := ha.now hb
  clear h h0 hfew hm ha
  go_enter Tryz.func10, Tryz.ntmps10
  go_upto_region 1 with fail
  generalize hw1e : w.alloc (.cells #[.int .i64 n.places, .slice At n.trans.length ct, .int .i64 n.source, .int .i64 n.sink] 24) = w1 at *
  clear hw1e
  go_wp2_with fail
  refine (awake_any w1 ha1).mono ?_
  rintro e w2 ⟨rfl, hb2⟩
  have hbw2 := bthen hb hb2
  have hB2 := hB.now hb2
  have hd2 := hd1.now hb2
  have hm2 := hm1.now hb2
  have hf2 := hf1.now hb2
  have ha2 := ha1.now hb2
  clear hB hd1 hm1 hf1 ha1 hb
  obtain ⟨q0, q1, q2, q3⟩ := hB2.c4
  go_wp2_with fail
  refine (few_any 1 ⟨n, [], [], [], []⟩ _ w2 hf2).mono ?_
  rintro e w3 ⟨q, rfl, hq, hb3⟩
  have hbw3 := bthen hbw2 hb3
  have hB3 := hB2.now hb3
  have hd3 := hd2.now hb3
  have hm3 := hm2.now hb3
  have ha3 := ha2.now hb3
  clear hB2 hd2 hm2 hf2 ha2 hbw2 q0 q1 q2 q3
  obtain ⟨q0, q1, q2, q3⟩ := hB3.c4
  cases q
  · go_wp2_with fail
    go_ret
    exact ⟨rfl, hbw3⟩
  have hl : n.trans.length ≤ 16 := (hq rfl).2.1
  clear hq
  by_cases c1 : m.length > 20
  · go_wp2_with fail
    go_ret
    exact ⟨rfl, hbw3⟩
  by_cases c2 : most > 60
  · go_wp2_with fail
    go_ret
    exact ⟨rfl, hbw3⟩
  cases hv : validB n with
  | false =>
    have HP := Lib.hid (plain_no n _ w3 hd3 hv)
    have HV := Lib.hid (fun (W : World) (h : IsNet (Lt W.heap.size) W (.agg #[.int .i64 n.places, .slice At n.trans.length ct, .int .i64 n.source, .int .i64 n.sink]) n) => valid_any n _ W h)
    rw [hv] at HV
    clear hv
    go_wp2_with fail
    refine HP.out.mono ?_
    rintro e w4 ⟨v, rfl, hd4, hb4⟩
    obtain ⟨Bt, dt, Bx, dx, Bi, di, Bg, dg, Bw, dw, rfl⟩ := open_plain hd4
    have hbw4 := bthen hbw3 hb4
    have hB4 := hB3.now hb4
    have hn4 := hd3.now hb4
    clear HP hB3 hd3 q0 q1 q2 q3
    go_upto_region 7 with fail
    have hX := Blk.new w4 30 #[.int .i64 emptyN.places, .slice Bt emptyN.trans.length dt, .int .i64 emptyN.source, .int .i64 emptyN.sink, .slice Bx 0 dx, .slice Bi 0 di, .slice Bg emptyN.trans.length dg, .slice Bw emptyN.trans.length dw]
    have hb5 := bone w4 (.cells #[.int .i64 emptyN.places, .slice Bt emptyN.trans.length dt, .int .i64 emptyN.source, .int .i64 emptyN.sink, .slice Bx 0 dx, .slice Bi 0 di, .slice Bg emptyN.trans.length dg, .slice Bw emptyN.trans.length dw] 30)
    have hB5 := hB4.now hb5
    have hn5 := hn4.now hb5
    have hd5 := hd4.now hb5
    have hbw5 := bthen hbw4 hb5
    clear hB4 hn4 hd4 hb5
    generalize hw5 : w4.alloc (.cells #[.int .i64 emptyN.places, .slice Bt emptyN.trans.length dt, .int .i64 emptyN.source, .int .i64 emptyN.sink, .slice Bx 0 dx, .slice Bi 0 di, .slice Bg emptyN.trans.length dg, .slice Bw emptyN.trans.length dw] 30) = w5 at *
    clear hw5
    obtain ⟨q0, q1, q2, q3⟩ := hB5.c4
    go_wp2_with fail
    refine (HV.out w5 hn5).mono ?_
    rintro e w6 ⟨rfl, hb6⟩
    have hX6 := hX.now hb6
    have HD := Lib.hid (dvalid_any 1 (plainD emptyN) _ w6 (hd5.now hb6) (by show 0 ≤ 1000000; omega))
    rw [plain_valid, show validB emptyN = false from rfl] at HD
    clear q0 q1 q2 q3
    obtain ⟨q0, q1, q2, q3, q4, q5, q6, q7⟩ := hX6.c8
    go_wp2_with fail
    refine HD.out.mono ?_
    rintro e w7 ⟨rfl, hb7⟩
    go_wp2_with fail
    go_ret
    exact ⟨rfl, bthen (bthen hbw5 hb6) hb7⟩
  | true =>
    have HP := Lib.hid (plain_yes n _ w3 hd3 hv)
    have hS := plS_of m most hv
    have HVD : Hid (dvalidB (plainD n) = true) := by rw [plain_valid]; exact hv
    clear hv
    go_wp2_with fail
    refine HP.out.mono ?_
    rintro e w4 ⟨v, rfl, hd4, hb4⟩
    obtain ⟨Bt, dt, Bx, dx, Bi, di, Bg, dg, Bw, dw, rfl⟩ := open_plain hd4
    have hbw4 := bthen hbw3 hb4
    have hB4 := hB3.now hb4
    have hn4 := hd3.now hb4
    have hm4 := hm3.now hb4
    have ha4 := ha3.now hb4
    clear HP hB3 hd3 hm3 ha3 hbw3 q0 q1 q2 q3
    go_upto_region 6 with fail
    have hX := Blk.new w4 30 #[.int .i64 n.places, .slice Bt n.trans.length dt, .int .i64 n.source, .int .i64 n.sink, .slice Bx 0 dx, .slice Bi 0 di, .slice Bg n.trans.length dg, .slice Bw n.trans.length dw]
    have hb5 := bone w4 (.cells #[.int .i64 n.places, .slice Bt n.trans.length dt, .int .i64 n.source, .int .i64 n.sink, .slice Bx 0 dx, .slice Bi 0 di, .slice Bg n.trans.length dg, .slice Bw n.trans.length dw] 30)
    have hB5 := hB4.now hb5
    have hn5 := hn4.now hb5
    have hd5 := hd4.now hb5
    have hm5 := hm4.now hb5
    have ha5 := ha4.now hb5
    have hbw5 := bthen hbw4 hb5
    clear hB4 hn4 hd4 hm4 ha4 hb5
    generalize hw5 : w4.alloc (.cells #[.int .i64 n.places, .slice Bt n.trans.length dt, .int .i64 n.source, .int .i64 n.sink, .slice Bx 0 dx, .slice Bi 0 di, .slice Bg n.trans.length dg, .slice Bw n.trans.length dw] 30) = w5 at *
    clear hw5
    have hltX := hX.lt
    generalize hgX : w4.heap.size = gX at *
    clear hgX
    have HS : Hid (∀ W, Below w5.heap.size w5 W → (W.cell? ⟨w.heap.size, 0, none⟩ = some (.int .i64 n.places) ∧ W.cell? ⟨w.heap.size, 1, none⟩ = some (.slice At n.trans.length ct) ∧ W.cell? ⟨w.heap.size, 2, none⟩ = some (.int .i64 n.source) ∧ W.cell? ⟨w.heap.size, 3, none⟩ = some (.int .i64 n.sink)) ∧
        W.cell? ⟨gX, 0, none⟩ = some (.int .i64 n.places) ∧ W.cell? ⟨gX, 1, none⟩ = some (.slice Bt n.trans.length dt) ∧ W.cell? ⟨gX, 2, none⟩ = some (.int .i64 n.source) ∧ W.cell? ⟨gX, 3, none⟩ = some (.int .i64 n.sink) ∧ W.cell? ⟨gX, 4, none⟩ = some (.slice Bx 0 dx) ∧ W.cell? ⟨gX, 5, none⟩ = some (.slice Bi 0 di) ∧ W.cell? ⟨gX, 6, none⟩ = some (.slice Bg n.trans.length dg) ∧ W.cell? ⟨gX, 7, none⟩ = some (.slice Bw n.trans.length dw)) := fun W hW => ⟨(hB5.now hW).c4, (hX.now hW).c8⟩
    have HC1 : Hid (∀ W, Below w5.heap.size w5 W → Calls Tryz.prog 53 #[.agg #[.int .i64 n.places, .slice At n.trans.length ct, .int .i64 n.source, .int .i64 n.sink]] W fun e w' => ∃ v, e = .returned v ∧ IsDn 1 (Lt w'.heap.size) w' v (plainD n) ∧ Below w5.heap.size w5 w') :=
      fun W hW => (plain30_ref n _ W (hn5.now hW) (by omega)).mono fun e w' ⟨v, he, hd, hb⟩ => ⟨v, he, hd, bthen hW hb⟩
    have HC2 : Hid (∀ W v, Below w5.heap.size w5 W → IsDn 1 (Lt W.heap.size) W v (plainD n) → Calls Tryz.prog 52 #[.agg #[.int .i64 n.places, .slice Bt n.trans.length dt, .int .i64 n.source, .int .i64 n.sink, .slice Bx 0 dx, .slice Bi 0 di, .slice Bg n.trans.length dg, .slice Bw n.trans.length dw], v] W fun e w' => e = .returned (.bool true) ∧ Below w5.heap.size w5 w') :=
      fun W v hW hv => (sameNet_plain 1 1 (plainD n) _ v W (hd5.now hW) hv (plain_leaf n).1 (plain_leaf n).2).mono fun e w' ⟨he, hb⟩ => ⟨he, bthen hW hb⟩
    have HC3 : Hid (∀ W, Below w5.heap.size w5 W → Calls Tryz.prog 28 #[.agg #[.int .i64 n.places, .slice Bt n.trans.length dt, .int .i64 n.source, .int .i64 n.sink, .slice Bx 0 dx, .slice Bi 0 di, .slice Bg n.trans.length dg, .slice Bw n.trans.length dw]] W fun e w' => e = .returned (.bool true) ∧ Below w5.heap.size w5 w') :=
      fun W hW => (dvalid_any 1 (plainD n) _ W (hd5.now hW) (by show 0 ≤ 1000000; omega)).mono fun e w' ⟨he, hb⟩ => ⟨by rw [he, HVD.out], bthen hW hb⟩
    have hbd : Below w5.heap.size w5 w5.drew := (Below.refl _ _).drew
    obtain ⟨⟨q0, q1, q2, q3⟩, r0, r1, r2, r3, r4, r5, r6, r7⟩ := HS.out _ hbd
    go_upto_region 8 with fail
    go_region_held3 (fun W => (W.cell? ⟨w.heap.size, 0, none⟩ = some (.int .i64 n.places) ∧ W.cell? ⟨w.heap.size, 1, none⟩ = some (.slice At n.trans.length ct) ∧ W.cell? ⟨w.heap.size, 2, none⟩ = some (.int .i64 n.source) ∧ W.cell? ⟨w.heap.size, 3, none⟩ = some (.int .i64 n.sink)) ∧
        W.cell? ⟨gX, 0, none⟩ = some (.int .i64 n.places) ∧ W.cell? ⟨gX, 1, none⟩ = some (.slice Bt n.trans.length dt) ∧ W.cell? ⟨gX, 2, none⟩ = some (.int .i64 n.source) ∧ W.cell? ⟨gX, 3, none⟩ = some (.int .i64 n.sink) ∧ W.cell? ⟨gX, 4, none⟩ = some (.slice Bx 0 dx) ∧ W.cell? ⟨gX, 5, none⟩ = some (.slice Bi 0 di) ∧ W.cell? ⟨gX, 6, none⟩ = some (.slice Bg n.trans.length dg) ∧ W.cell? ⟨gX, 7, none⟩ = some (.slice Bw n.trans.length dw)) (exact HS.out _ (by assumption))
      (first
      | (go_at_call 53; (with_reducible refine (HC1.out _ (by assumption)).mono ?_); rintro e x1 ⟨v1, rfl, hv1, hbx1⟩)
      | (go_at_call 52; (with_reducible refine (HC2.out _ _ (by assumption) (by assumption)).mono ?_); rintro e x2 ⟨rfl, hbx2⟩)
      | (go_at_call 28; (with_reducible refine (HC3.out _ (by assumption)).mono ?_); rintro e x3 ⟨rfl, hbx3⟩))
    have hB6 := hB5.now hbx3
    have hX6 := hX.now hbx3
    have hn6 := hn5.now hbx3
    have hd6 := hd5.now hbx3
    have hm6 := hm5.now hbx3
    have ha6 := ha5.now hbx3
    have hbw6 := bthen hbw5 hbx3
    clear hbx1 hbx2 hbx3 hv1 HS HC1 HC2 HC3 hbd hB5 hX hn5 hd5 hm5 ha5 hbw5 q0 q1 q2 q3 r0 r1 r2 r3 r4 r5 r6 r7
    go_upto_region 11 with fail
    have hY := Blk.new x3 33 #[.slice Am m.length cm, .slice none 0 0]
    have hb7 := bone x3 (.cells #[.slice Am m.length cm, .slice none 0 0] 33)
    have hB7 := hB6.now hb7
    have hX7 := hX6.now hb7
    have hn7 := hn6.now hb7
    have hd7 := hd6.now hb7
    have hm7 := hm6.now hb7
    have ha7 := ha6.now hb7
    have hbw7 := bthen hbw6 hb7
    clear hB6 hX6 hn6 hd6 hm6 ha6 hbw6 hb7
    generalize hw7 : x3.alloc (.cells #[.slice Am m.length cm, .slice none 0 0] 33) = w7 at *
    clear hw7
    generalize hgY : x3.heap.size = gY at *
    clear hgY
    have HR1 := dexplore_any 1 (plainD n) ⟨m, []⟩ most _ (.agg #[.slice Am m.length cm, .slice none 0 0]) w7 hd7 ⟨_, _, rfl, hm7, Sl.none_⟩ (by show 0 ≤ 1000000; omega) ha7
    have HR2 : ∀ W, Below w7.heap.size w7 W → _ := fun W (hW : Below w7.heap.size w7 W) => spExplore_any n m most _ _ W (hn7.now hW) (hm7.now hW)
    generalize dexplE (plainD n) ⟨m, []⟩ most = R at *
    obtain ⟨⟨l, mo, fl⟩, ec⟩ := R
    dsimp only at hS
    have HR1 := Lib.hid HR1
    have HR2 := Lib.hid HR2
    obtain ⟨r0, r1, r2, r3, r4, r5, r6, r7⟩ := hX7.c8
    obtain ⟨y0, y1⟩ := hY.c2
    have HPS := Lib.hid hS
    clear hS
    go_wp2_with fail
    refine HR1.out.mono ?_
    rintro e w8 ⟨sv, ov, rfl, hsv, hov, hb8⟩
    obtain ⟨As, cs, rfl, _, _, hsv⟩ := Sl.open_ hsv
    obtain ⟨Ao, co, rfl, _, _, hov⟩ := Sl.open_ hov
    have hsv : SlSt (Lt w8.heap.size) w8 (.slice As l.length cs) l := hsv
    have hov : SlM (Lt w8.heap.size) w8 (.slice Ao mo.length co) mo := hov
    have hB8 := hB7.now hb8
    have hX8 := hX7.now hb8
    have hn8 := hn7.now hb8
    have hd8 := hd7.now hb8
    have hbw8 := bthen hbw7 hb8
    have HR3 := Lib.hid (HR2.out w8 hb8)
    clear HR1 HR2 hB7 hX7 hn7 hd7 hm7 ha7 hb8 hbw7 r0 r1 r2 r3 r4 r5 r6 r7 y0 y1 hY
    obtain ⟨q0, q1, q2, q3⟩ := hB8.c4
    go_wp2_with fail
    refine HR3.out.mono ?_
    rintro e w9 ⟨sv', ov', rfl, hsv', hov', hb9⟩
    obtain ⟨As', cs', rfl, hsv'⟩ := open_pln hsv'
    obtain ⟨Ao', co', rfl, _, _, hov'⟩ := Sl.open_ hov'
    have hov' : SlM (Lt w9.heap.size) w9 (.slice Ao' mo.length co') mo := hov'
    have hB9 := hB8.now hb9
    have hX9 := hX8.now hb9
    have hn9 := hn8.now hb9
    have hd9 := hd8.now hb9
    have hsv9 := hsv.now hb9
    have hov9 := hov.now hb9
    have hbw9 := bthen hbw8 hb9
    clear HR3 hB8 hX8 hn8 hd8 hsv hov hb9 hbw8 q0 q1 q2 q3
    go_upto_region 13 with fail
    have hZ := Blk.new w9 104 #[.slice As' l.length cs', .slice Ao' mo.length co', .bool fl]
    have hbA := bone w9 (.cells #[.slice As' l.length cs', .slice Ao' mo.length co', .bool fl] 104)
    have hBA := hB9.now hbA
    have hXA := hX9.now hbA
    have hnA := hn9.now hbA
    have hdA := hd9.now hbA
    have hsA := hsv9.now hbA
    have hoA := hov9.now hbA
    have hsA' := hsv'.now hbA
    have hoA' := hov'.now hbA
    have hbwA := bthen hbw9 hbA
    clear hB9 hX9 hn9 hd9 hsv9 hov9 hsv' hov' hbw9 hbA
    generalize hwA : w9.alloc (.cells #[.slice As' l.length cs', .slice Ao' mo.length co', .bool fl] 104) = wA at *
    clear hwA
    generalize hgZ : w9.heap.size = gZ at *
    clear hgZ
    have e1 : (ec != ec) = false := bne_self_eq_false _
    have e2 : (fl != fl) = false := bne_self_eq_false _
    have e3 : (((l.length : Nat) : Int) != ((l.length : Nat) : Int)) = false := bne_self_eq_false _
    have HM := sameMoves_ref _ _ _ _ wA hoA hoA'
    rw [decide_eq_true rfl] at HM
    have HM := Lib.hid HM
    obtain ⟨z0, z1, z2⟩ := hZ.c3
    go_wp2_with fail
    refine HM.out.mono ?_
    rintro e wB ⟨rfl, hbB⟩
    have hBB := hBA.now hbB
    have hXB := hXA.now hbB
    have hZB := hZ.now hbB
    have hnB := hnA.now hbB
    have hdB := hdA.now hbB
    have hsB := hsA.now hbB
    have hsB' := hsA'.now hbB
    have hbwB := bthen hbwA hbB
    clear HM hBA hXA hZ hnA hdA hsA hoA hsA' hoA' hbwA hbB z0 z1 z2 e1 e2 e3
    go_wp2_with fail
    go_loopw [116] (fun iv wr => ∃ j : Nat, j ≤ l.length ∧ iv = .int .i64 j ∧ Below wB.heap.size wB wr) (fun iv _ => l.length - (intOf iv).toNat)
    case atStart => exact ⟨0, Nat.zero_le _, rfl, Below.refl _ _⟩
    case round =>
      obtain ⟨j, hj, rfl, hbr⟩ := hrel
      have hbwr := bthen hbwB hbr
      by_cases hlt : j < l.length
      · obtain ⟨b, o, s, sm, sw, rfl, hD, hx, hsm, hsw, d0, d1⟩ := (hsB.now hbr).at_ hlt
        obtain ⟨b', o', x', u', rfl, hD', hx', hu', g0⟩ := SlII.at_ (hsB'.now hbr) hlt
        have hxs : x' = s.marks := by
          rw [List.getElem?_map, hx] at hx'
          exact (Option.some.inj hx').symm
        subst hxs
        have hin := List.mem_of_getElem? hx
        have hvals := HPS.out.vals s hin
        obtain ⟨Am', cm', rfl, _, _, hsm⟩ := hsm.open_
        obtain ⟨Aw', cw', rfl, _, _, hsw⟩ := Sl.open_ hsw
        have hst : IsSt (Lt wr.heap.size) wr (.agg #[.slice Am' s.marks.length cm', .slice Aw' s.vals.length cw']) s := ⟨_, _, rfl, hsm, hsw⟩
        rw [show s.vals.length = 0 by rw [hvals]; rfl] at *
        have hok := HPS.out.ok s hin
        have hokm := HPS.out.okm s hin
        have HSM := Lib.hid (fun h => HPS.out.same h s hin)
        have HD : Hid (denE (plainD n) s = (firesTo (plainD n) s n.trans.length, 0)) := by unfold denE; rw [hok]; rfl
        have HE : Hid (enE n s.marks = (enB n s.marks, 0)) := enE_ok hokm
        clear hok hokm hvals hx hx' hin
        have i1 : (0 : Int) ≤ j := by omega
        have i2 : (j : Int) < (l.length : Int) := by omega
        go_upto_region 18 with fail
        have hT := Blk.new wr 33 #[.slice Am' s.marks.length cm', .slice Aw' 0 cw']
        have hbC := bone wr (.cells #[.slice Am' s.marks.length cm', .slice Aw' 0 cw'] 33)
        have hBC := (hBB.now hbr).now hbC
        have hXC := (hXB.now hbr).now hbC
        have hZC := (hZB.now hbr).now hbC
        have hnC := (hnB.now hbr).now hbC
        have hdC := (hdB.now hbr).now hbC
        have hstC := hst.now hbC
        have hsmC := hsm.now hbC
        have huC := hu'.now hbC
        have gC : (wr.alloc (.cells #[.slice Am' s.marks.length cm', .slice Aw' 0 cw'] 33)).cell? ⟨b', o' + j, none⟩ = some u' := (hbC.cell (p := ⟨b', o' + j, none⟩) hD').trans g0
        have hbrC := bthen hbr hbC
        clear hst hsm hsw hu' g0 d0 d1 hD hD' hbr hbC hbwr
        generalize hwC : wr.alloc (.cells #[.slice Am' s.marks.length cm', .slice Aw' 0 cw'] 33) = wC at *
        clear hwC
        generalize hgT : wr.heap.size = gT at *
        clear hgT
        obtain ⟨z0, z1, z2⟩ := hZC.c3
        obtain ⟨y0, y1⟩ := hT.c2
        have HQ : Hid (∀ q : Nat, Calls Tryz.prog 38 #[.slice Am' s.marks.length cm', u'] (wC.drewN q) fun e w' => e = .returned (.bool true) ∧ ∃ m, w' = (wC.drewN q).drewN m) :=
          fun q => (equalI _ _ s.marks s.marks (wC.drewN q) hsmC huC).mono fun e w' ⟨he, hw⟩ => ⟨by rw [he, beq_self_eq_true], hw⟩
        go_quiet ((go_at_call 38; exact Calls.quiet_of (HQ.out _)))
        have HDN : Hid (∀ q : Nat, Calls Tryz.prog 31 #[.agg #[.int .i64 n.places, .slice Bt n.trans.length dt, .int .i64 n.source, .int .i64 n.sink, .slice Bx 0 dx, .slice Bi 0 di, .slice Bg n.trans.length dg, .slice Bw n.trans.length dw], .agg #[.slice Am' s.marks.length cm', .slice Aw' 0 cw']] (wC.drewN q) (RetIE (firesTo (plainD n) s n.trans.length) 0 (wC.drewN q))) := fun q => by
          have h1 := denabled_any 1 (plainD n) s _ _ (wC.drewN q) hdC hstC (by show 0 ≤ 1000000; omega)
          rw [HD.out] at h1
          exact h1
        obtain ⟨q0, q1, q2, q3⟩ := hBC.c4
        obtain ⟨r0, r1, r2, r3, r4, r5, r6, r7⟩ := hXC.c8
        go_wp2_with fail
        refine (HDN.out _).mono ?_
        rintro e wD ⟨fv, rfl, hfv, hbD0⟩
        have hbD : Below wC.heap.size wC wD := below_drewN_left _ hbD0
        obtain ⟨Af, cf, rfl, _, _, hfv⟩ := hfv.open_
        have hBD := hBC.now hbD
        have hnD := hnC.now hbD
        have hTD := hT.now hbD
        have hsmD := hsmC.now hbD
        have hbrD := bthen hbrC hbD
        clear HDN HQ hBC hXC hZC hnC hdC hT hstC hsmC huC gC hbrC hbD hbD0 q0 q1 q2 q3 r0 r1 r2 r3 r4 r5 r6 r7 y0 y1 z0 z1 z2 i1 i2
        have HEN := enabledX_any n _ _ s.marks wD hnD hsmD
        rw [HE.out] at HEN
        have HEN := Lib.hid HEN
        obtain ⟨q0, q1, q2, q3⟩ := hBD.c4
        obtain ⟨y0, y1⟩ := hTD.c2
        go_wp2_with fail
        refine HEN.out.mono ?_
        rintro e wE ⟨gv, rfl, hgv, hbE⟩
        obtain ⟨Ag', cg', rfl, _, _, hgv⟩ := hgv.open_
        have hfvE := hfv.now hbE
        have hbrE := bthen hbrD hbE
        clear HEN hBD hnD hTD hsmD hbrD q0 q1 q2 q3 y0 y1
        cases fl with
        | false =>
          go_wp2_with fail
          go_roundw
          case rel => exact ⟨j + 1, by omega, by go_num, hbrE⟩
          case measure => simp [intOf]; omega
        | true =>
          have HQ : Hid (Calls Tryz.prog 38 #[.slice Af (firesTo (plainD n) s n.trans.length).length cf, .slice Ag' (enB n s.marks).length cg'] wE fun e w' => e = .returned (.bool true) ∧ ∃ m, w' = wE.drewN m) :=
            (equalI _ _ _ _ wE hfvE hgv).mono fun e w' ⟨he, hw⟩ => ⟨by rw [he, HSM.out rfl, beq_self_eq_true], hw⟩
          clear hgv hfv hfvE
          go_wp2_with fail
          refine HQ.out.mono ?_
          rintro e wF ⟨rfl, q, rfl⟩
          go_wp2_with fail
          go_roundw
          case rel => exact ⟨j + 1, by omega, by go_num, bdrawn hbrE q⟩
          case measure => simp [intOf]; omega
      · go_wp2_with fail
        go_ret
        exact ⟨rfl, hbwr⟩
end Go.Proofs.YtlmenhjlgmejkaaGreatDoor
