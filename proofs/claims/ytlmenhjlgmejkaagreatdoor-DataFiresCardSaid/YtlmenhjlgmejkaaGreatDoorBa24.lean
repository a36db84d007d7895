/- Texts of this seat, merged. -/
import Derived.Test.YtlmenhjlgmejkaaGreatDoorBa30
import Derived.Test.YtlmenhjlgmejkaaGreatDoorBa32
import Derived.Test.YtlmenhjlgmejkaaGreatDoorBa34
set_option linter.unusedSimpArgs false
set_option linter.unusedVariables false
namespace Go.Proofs.YtlmenhjlgmejkaaGreatDoor
open Go.RowKit
theorem den_no {d : DNet} {s : St} {k : Nat} (h : (fireD d s (k : Int)).2 ≠ 0) : firesTo d s (k + 1) = firesTo d s k := by
  unfold firesTo
  rw [List.range_succ, List.filter_append]
  simp [h]
theorem den_yes {d : DNet} {s : St} {k : Nat} (h : (fireD d s (k : Int)).2 = 0) : firesTo d s (k + 1) = firesTo d s k ++ [(k : Int)] := by
  unfold firesTo
  rw [List.range_succ, List.filter_append]
  simp [h]
theorem den_len (d : DNet) (s : St) (k : Nat) : (firesTo d s k).length ≤ k := by
  unfold firesTo
  rw [List.length_map]
  have := List.length_filter_le (fun (t : Nat) => decide ((fireD d s (t : Int)).2 = 0)) (List.range k)
  simpa using this
theorem den_fit (d : DNet) (s : St) (k : Nat) (hk : k ≤ 100) : ∀ z ∈ firesTo d s k, Fit z := by
  intro z hz
  unfold firesTo at hz
  obtain ⟨t, ht, rfl⟩ := List.mem_map.1 hz
  have := List.mem_range.1 (List.mem_filter.1 ht).1
  unfold Fit; omega
set_option maxHeartbeats 4000000 in
set_option maxRecDepth 100000 in
theorem dfire_anyF (n : Nat) (d : DNet) (s : St) (t : Int) (u us : Value) (w : World) (h : IsDn n (Lt w.heap.size) w u d) (hs : IsSt (Lt w.heap.size) w us s) (hl : d.vars.length ≤ 1000000) :
    Calls Tryz.prog 43 #[u, us, .int .i64 t] w (RetStF (dfireE d s t).1 (dfireE d s t).2 w) := by
  have h0 := h
  have hs0 := hs
  obtain ⟨At, ct, Ax, cx, iv, Ag, cg, Aw, cw, rfl, dn1, dn2, dn3, dn4, dn5, ⟨t1, t2⟩, ⟨x1, x2⟩, ⟨g1, g2⟩, v1, v2⟩ := h.open_
  obtain ⟨Am, cm, Av, cv, rfl, s1, s2, ⟨t3, t4⟩, t5, t6⟩ := hs.open_
  clear h hs dn1 dn2 dn3 dn4 dn5 s1 s2
  have hb0 := bone w (.cells #[.int .i64 d.net.places, .slice At d.net.trans.length ct, .int .i64 d.net.source, .int .i64 d.net.sink, .slice Ax d.vars.length cx, iv, .slice Ag d.guards.length cg, .slice Aw d.writes.length cw] 30)
  have hb1 := bbox hb0 (.cells #[.slice Am s.marks.length cm, .slice Av s.vals.length cv] 33)
  have hb := bbox hb1 (.cells #[.slice none 0 0, .slice none 0 0] 33)
  have hB := ((Blk.new w 30 #[.int .i64 d.net.places, .slice At d.net.trans.length ct, .int .i64 d.net.source, .int .i64 d.net.sink, .slice Ax d.vars.length cx, iv, .slice Ag d.guards.length cg, .slice Aw d.writes.length cw]).alloc (.cells #[.slice Am s.marks.length cm, .slice Av s.vals.length cv] 33)).alloc (.cells #[.slice none 0 0, .slice none 0 0] 33)
  have hC := (Blk.new_at (t := 33) (cs := #[.slice Am s.marks.length cm, .slice Av s.vals.length cv]) (w := w.alloc (.cells #[.int .i64 d.net.places, .slice At d.net.trans.length ct, .int .i64 d.net.source, .int .i64 d.net.sink, .slice Ax d.vars.length cx, iv, .slice Ag d.guards.length cg, .slice Aw d.writes.length cw] 30)) (s := w.heap.size + 1) (by simp)).alloc (.cells #[.slice none 0 0, .slice none 0 0] 33)
  have hZ := Blk.new_at (t := 33) (cs := #[.slice none 0 0, .slice none 0 0]) (w := (w.alloc (.cells #[.int .i64 d.net.places, .slice At d.net.trans.length ct, .int .i64 d.net.source, .int .i64 d.net.sink, .slice Ax d.vars.length cx, iv, .slice Ag d.guards.length cg, .slice Aw d.writes.length cw] 30)).alloc (.cells #[.slice Am s.marks.length cm, .slice Av s.vals.length cv] 33)) (s := w.heap.size + 1 + 1) (by simp)
  have hd1 := h0.now hb
  have hs1 := hs0.now hb
  clear h0 hs0 hb0 hb1
  have HD : Hid (dfireE d s t = if vstateB d s then fireD d s t else (noSt, 1)) := rfl
  go_enter Tryz.func43, Tryz.ntmps43
  go_upto_region 1 with fail
  generalize hw1e : ((w.alloc (.cells #[.int .i64 d.net.places, .slice At d.net.trans.length ct, .int .i64 d.net.source, .int .i64 d.net.sink, .slice Ax d.vars.length cx, iv, .slice Ag d.guards.length cg, .slice Aw d.writes.length cw] 30)).alloc (.cells #[.slice Am s.marks.length cm, .slice Av s.vals.length cv] 33)).alloc (.cells #[.slice none 0 0, .slice none 0 0] 33) = w1 at *
  clear hw1e
  obtain ⟨q0, q1, q2, q3, q4, q5, q6, q7⟩ := hB.c8
  obtain ⟨y0, y1⟩ := hC.c2
  go_wp2_with fail
  refine (dvstate_any n d s _ _ _ hd1 hs1 hl).mono ?_
  rintro e w2 ⟨rfl, hb2⟩
  have hbw2 := bthen hb hb2
  have hB2 := hB.now hb2
  have hC2 := hC.now hb2
  have hZ2 := hZ.now hb2
  have hd2 := hd1.now hb2
  have hs2 := hs1.now hb2
  clear q0 q1 q2 q3 q4 q5 q6 q7 y0 y1 hB hC hZ hd1 hs1 hb2
  obtain ⟨q0, q1, q2, q3, q4, q5, q6, q7⟩ := hB2.c8
  obtain ⟨y0, y1⟩ := hC2.c2
  cases hq : vstateB d s
  · have HR : Hid (dfireE d s t = (noSt, 1)) := by show _ = _; rw [HD.out, hq]; rfl
    clear hq
    obtain ⟨zz0, zz1⟩ := hZ2.c2
    have z0 := hZ2.frozen 0
    have z1 := hZ2.frozen 1
    go_wp2_with fail
    obtain ⟨r0, r1⟩ := (hZ2.set2 (.slice none 0 0) (.slice none 0 0)).c2
    refine bodyPost_ret (v := .tuple #[.agg #[.slice none 0 0, .slice none 0 0], .int .i64 1]) (by simp [results, Tryz.results43, go_sem, r0, r1]) rfl ?_
    rw [HR.out]
    exact ⟨_, rfl, noSt_is _ _, bset2 hbw2 (by omega) _ _⟩
  · have HR : Hid (dfireE d s t = fireD d s t) := by show _ = _; rw [HD.out, hq]; rfl
    have HF := Lib.hid (fire_one n d s t _ _ w2 hd2 hs2 hq hl)
    clear hq
    go_wp2_with fail
    refine HF.out.mono ?_
    rintro e w3 ⟨u3, rfl, hu3, hb3⟩
    clear HF
    generalize fireD d s t = p at *
    obtain ⟨ps, pc⟩ := p
    dsimp only at *
    obtain ⟨Am2, cm2, Av2, cv2, rfl, m1, m2, _, _, _⟩ := hu3.open_
    have hZ3 := hZ2.now hb3
    have hbw3 := bthen hbw2 hb3
    obtain ⟨zz0, zz1⟩ := hZ3.c2
    have z0 := hZ3.frozen 0
    have z1 := hZ3.frozen 1
    clear q0 q1 q2 q3 q4 q5 q6 q7 y0 y1 hB2 hC2
    go_wp2_with fail
    obtain ⟨r0, r1⟩ := (hZ3.set2 (.slice Am2 ps.marks.length cm2) (.slice Av2 ps.vals.length cv2)).c2
    refine bodyPost_ret (v := .tuple #[.agg #[.slice Am2 ps.marks.length cm2, .slice Av2 ps.vals.length cv2], .int .i64 pc]) (by simp [results, Tryz.results43, go_sem, r0, r1]) rfl ?_
    rw [HR.out]
    refine ⟨_, rfl, ⟨_, _, rfl, ?_, ?_⟩, bset2 hbw3 (by omega) _ _⟩
    · exact SlI.from_ (SlI.set2F m1 hZ3 _ _) hbw2.size
    · exact SlV.from_ (SlV.set2F m2 hZ3 _ _) hbw2.size
set_option maxHeartbeats 8000000 in
set_option maxRecDepth 100000 in
theorem denabled_any (n : Nat) (d : DNet) (s : St) (u us : Value) (w : World) (h : IsDn n (Lt w.heap.size) w u d) (hs : IsSt (Lt w.heap.size) w us s) (hl : d.vars.length ≤ 1000000) :
    Calls Tryz.prog 31 #[u, us] w (RetIE (denE d s).1 (denE d s).2 w) := by
  have h0 := h
  have hs0 := hs
  obtain ⟨At, ct, Ax, cx, iv, Ag, cg, Aw, cw, rfl, dn1, dn2, dn3, dn4, dn5, ⟨t1, t2⟩, ⟨x1, x2⟩, ⟨g1, g2⟩, v1, v2⟩ := h.open_
  obtain ⟨Am, cm, Av, cv, rfl, s1, s2, ⟨t3, t4⟩, t5, t6⟩ := hs.open_
  clear h hs dn1 dn2 dn3 dn4 dn5 s1 s2
  have hb0 := bone w (.cells #[.int .i64 d.net.places, .slice At d.net.trans.length ct, .int .i64 d.net.source, .int .i64 d.net.sink, .slice Ax d.vars.length cx, iv, .slice Ag d.guards.length cg, .slice Aw d.writes.length cw] 30)
  have hb := bbox hb0 (.cells #[.slice Am s.marks.length cm, .slice Av s.vals.length cv] 33)
  have hB := (Blk.new w 30 #[.int .i64 d.net.places, .slice At d.net.trans.length ct, .int .i64 d.net.source, .int .i64 d.net.sink, .slice Ax d.vars.length cx, iv, .slice Ag d.guards.length cg, .slice Aw d.writes.length cw]).alloc (.cells #[.slice Am s.marks.length cm, .slice Av s.vals.length cv] 33)
  have hC := (Blk.new_at (t := 33) (cs := #[.slice Am s.marks.length cm, .slice Av s.vals.length cv]) (w := w.alloc (.cells #[.int .i64 d.net.places, .slice At d.net.trans.length ct, .int .i64 d.net.source, .int .i64 d.net.sink, .slice Ax d.vars.length cx, iv, .slice Ag d.guards.length cg, .slice Aw d.writes.length cw] 30)) (s := w.heap.size + 1) (by simp))
  have hd1 := h0.now hb
  have hs1 := hs0.now hb
  clear h0 hs0 hb0
  have HD : Hid (denE d s = if vstateB d s then (firesTo d s d.net.trans.length, 0) else ([], 1)) := rfl
  go_enter Tryz.func31, Tryz.ntmps31
  go_upto_region 1 with fail
  generalize hw1e : (w.alloc (.cells #[.int .i64 d.net.places, .slice At d.net.trans.length ct, .int .i64 d.net.source, .int .i64 d.net.sink, .slice Ax d.vars.length cx, iv, .slice Ag d.guards.length cg, .slice Aw d.writes.length cw] 30)).alloc (.cells #[.slice Am s.marks.length cm, .slice Av s.vals.length cv] 33) = w1 at *
  clear hw1e
  obtain ⟨q0, q1, q2, q3, q4, q5, q6, q7⟩ := hB.c8
  obtain ⟨y0, y1⟩ := hC.c2
  go_wp2_with fail
  refine (dvstate_any n d s _ _ _ hd1 hs1 hl).mono ?_
  rintro e w2 ⟨rfl, hb2⟩
  have hbw2 := bthen hb hb2
  have hB2 := hB.now hb2
  have hC2 := hC.now hb2
  have hd2 := hd1.now hb2
  have hs2 := hs1.now hb2
  clear q0 q1 q2 q3 q4 q5 q6 q7 y0 y1 hB hC hd1 hs1 hb2
  obtain ⟨q0, q1, q2, q3, q4, q5, q6, q7⟩ := hB2.c8
  obtain ⟨y0, y1⟩ := hC2.c2
  cases hq : vstateB d s
  · have HR : Hid (denE d s = ([], 1)) := by show _ = _; rw [HD.out, hq]; rfl
    clear hq
    go_wp2_with fail
    go_ret2
    rw [HR.out]
    exact ⟨_, rfl, Sl.none_, hbw2⟩
  have HR : Hid (denE d s = (firesTo d s d.net.trans.length, 0)) := by show _ = _; rw [HD.out, hq]; rfl
  have HV := Lib.hid hq
  have htl : d.net.trans.length ≤ 60 := (validOk (dvalid_parts (vstate_parts hq).1).1).2.2.1
  clear hq HD
  have hsz2 : w.heap.size + 2 ≤ w2.heap.size := by have := hC2.lt; omega
  go_wp2_with fail
  clear q0 q1 q2 q3 q4 q5 q6 q7 y0 y1
  go_loopw [6, 18] (fun ov i wr => ∃ k : Nat, k ≤ d.net.trans.length ∧ i = .int .i64 k ∧ wr.ownsRow w2.heap.size 3 1 ov (firesTo d s k).length ((firesTo d s k).map (Value.int .i64)) ∧ Below w.heap.size w wr ∧ Below w2.heap.size w2 wr) (fun _ i _ => d.net.trans.length - (intOf i).toNat)
  case atStart => exact ⟨0, Nat.zero_le _, rfl, World.ownsRow_nil _ _ _ _, hbw2, Below.refl _ _⟩
  case round =>
    obtain ⟨k, hk, rfl, hown, hbr, hbr2⟩ := hrel
    have hszr := hbr2.size
    by_cases hlt : k < d.net.trans.length
    rotate_left
    · obtain rfl : k = d.net.trans.length := by omega
      go_wp2_with fail
      go_ret2
      rw [HR.out]
      exact ⟨_, rfl, SlI.of_own hown (den_fit d s _ (by omega)), hbr⟩
    have hB5 := hB2.now hbr2
    have hC5 := hC2.now hbr2
    obtain ⟨q0, q1, q2, q3, q4, q5, q6, q7⟩ := hB5.c8
    obtain ⟨y0, y1⟩ := hC5.c2
    have HF := Lib.hid (fire_one n d s k _ _ wr (hd2.now hbr2) (hs2.now hbr2) HV.out hl)
    have hlen := den_len d s k
    go_wp2_with fail
    refine HF.out.mono ?_
    rintro e w3 ⟨u3, rfl, hu3, hb3⟩
    have hu3 := hu3.weak
    clear HF q0 q1 q2 q3 q4 q5 q6 q7 y0 y1 hB5 hC5
    by_cases hc : (fireD d s (k : Int)).2 = 0
    · have HN := Lib.hid (den_yes hc)
      have bc : ((fireD d s (k : Int)).2 == 0) = true := by simp [hc]
      generalize fireD d s (k : Int) = p at *
      obtain ⟨ps, pc⟩ := p
      dsimp only at *
      obtain ⟨Am2, cm2, Av2, cv2, rfl, _, _, _, _, _⟩ := hu3.open_
      have hb4 := bone w3 (.cells #[.slice Am2 ps.marks.length cm2, .slice Av2 ps.vals.length cv2] 33)
      have hown4 := own_now (own_now hown hb3) hb4
      have hbw4 := bthen (bthen hbr hb3) hb4
      have hb24 : Below w2.heap.size w2 (w3.alloc (.cells #[.slice Am2 ps.marks.length cm2, .slice Av2 ps.vals.length cv2] 33)) := (hbr2.trans (hb3.mono hbr2.size)).trans (hb4.mono (Nat.le_trans hbr2.size hb3.size))
      clear hc hown
      go_upto_region 9 with fail
      generalize hw4 : w3.alloc (.cells #[.slice Am2 ps.marks.length cm2, .slice Av2 ps.vals.length cv2] 33) = w4 at *
      clear hw4
      have hsz4 := hb24.size
      go_wp2_with (at_builtin; refine wpList_push appInts rfl (.tmp 30) (.tmp 32) rfl w4 [.int .i64 (k : Int)] rfl (by simp [Value.oneCell']) _ (firesTo d s k).length ((firesTo d s k).map (Value.int .i64)) rfl hown4 rfl (by omega) (by omega) ?_; intro v' w' hown' hgr hat)
      have hbg : Below w2.heap.size w4 w' := below_of_grown hgr (by omega) (fun g hg => (hown4.lt g hg).1)
      go_roundw
      case rel =>
        refine ⟨k + 1, by omega, by go_num, ?_, hbw4.trans (hbg.mono (by omega)), hb24.trans hbg⟩
        rw [HN.out]; simpa using hown'
      case measure => simp [intOf]; omega
    · have HN := Lib.hid (den_no hc)
      have bc : ((fireD d s (k : Int)).2 == 0) = false := by simpa using hc
      generalize fireD d s (k : Int) = p at *
      obtain ⟨ps, pc⟩ := p
      dsimp only at *
      obtain ⟨Am2, cm2, Av2, cv2, rfl, _, _, _, _, _⟩ := hu3.open_
      have hb4 := bone w3 (.cells #[.slice Am2 ps.marks.length cm2, .slice Av2 ps.vals.length cv2] 33)
      have hown4 := own_now (own_now hown hb3) hb4
      have hbw4 := bthen (bthen hbr hb3) hb4
      have hb24 : Below w2.heap.size w2 (w3.alloc (.cells #[.slice Am2 ps.marks.length cm2, .slice Av2 ps.vals.length cv2] 33)) := (hbr2.trans (hb3.mono hbr2.size)).trans (hb4.mono (Nat.le_trans hbr2.size hb3.size))
      clear hc hown
      go_wp2_with fail
      go_roundw
      case rel => exact ⟨k + 1, by omega, by go_num, by rw [HN.out]; exact hown4, hbw4, hb24⟩
      case measure => simp [intOf]; omega
set_option maxHeartbeats 4000000 in
set_option maxRecDepth 100000 in
theorem dfinal_any (n : Nat) (d : DNet) (s : St) (u us : Value) (w : World) (h : IsDn n (Lt w.heap.size) w u d) (hs : IsSt (Lt w.heap.size) w us s) (hl : d.vars.length ≤ 1000000) :
    Calls Tryz.prog 25 #[u, us] w fun e w' => e = .returned (.tuple #[.bool (dfinalE d s).1, .int .i64 (dfinalE d s).2]) ∧ Below w.heap.size w w' := by
  have h0 := h
  have hs0 := hs
  obtain ⟨At, ct, Ax, cx, iv, Ag, cg, Aw, cw, rfl, dn1, dn2, dn3, dn4, dn5, ⟨t1, t2⟩, ⟨x1, x2⟩, ⟨g1, g2⟩, v1, v2⟩ := h.open_
  obtain ⟨Am, cm, Av, cv, rfl, s1, s2, ⟨t3, t4⟩, t5, t6⟩ := hs.open_
  clear h hs dn1 dn2 dn3 dn4 dn5 s2
  have hb0 := bone w (.cells #[.int .i64 d.net.places, .slice At d.net.trans.length ct, .int .i64 d.net.source, .int .i64 d.net.sink, .slice Ax d.vars.length cx, iv, .slice Ag d.guards.length cg, .slice Aw d.writes.length cw] 30)
  have hb := bbox hb0 (.cells #[.slice Am s.marks.length cm, .slice Av s.vals.length cv] 33)
  have hB := (Blk.new w 30 #[.int .i64 d.net.places, .slice At d.net.trans.length ct, .int .i64 d.net.source, .int .i64 d.net.sink, .slice Ax d.vars.length cx, iv, .slice Ag d.guards.length cg, .slice Aw d.writes.length cw]).alloc (.cells #[.slice Am s.marks.length cm, .slice Av s.vals.length cv] 33)
  have hC := (Blk.new_at (t := 33) (cs := #[.slice Am s.marks.length cm, .slice Av s.vals.length cv]) (w := w.alloc (.cells #[.int .i64 d.net.places, .slice At d.net.trans.length ct, .int .i64 d.net.source, .int .i64 d.net.sink, .slice Ax d.vars.length cx, iv, .slice Ag d.guards.length cg, .slice Aw d.writes.length cw] 30)) (s := w.heap.size + 1) (by simp))
  have hd1 := h0.now hb
  have hs1 := hs0.now hb
  have hm1 := s1.now hb
  clear h0 hs0 hb0 s1
  have HD : Hid (dfinalE d s = if vstateB d s then (finalM d s.marks, 0) else (false, 1)) := rfl
  go_enter Tryz.func25, Tryz.ntmps25
  go_upto_region 1 with fail
  generalize hw1e : (w.alloc (.cells #[.int .i64 d.net.places, .slice At d.net.trans.length ct, .int .i64 d.net.source, .int .i64 d.net.sink, .slice Ax d.vars.length cx, iv, .slice Ag d.guards.length cg, .slice Aw d.writes.length cw] 30)).alloc (.cells #[.slice Am s.marks.length cm, .slice Av s.vals.length cv] 33) = w1 at *
  clear hw1e
  obtain ⟨q0, q1, q2, q3, q4, q5, q6, q7⟩ := hB.c8
  obtain ⟨y0, y1⟩ := hC.c2
  go_wp2_with fail
  refine (dvstate_any n d s _ _ _ hd1 hs1 hl).mono ?_
  rintro e w2 ⟨rfl, hb2⟩
  have hbw2 := bthen hb hb2
  have hB2 := hB.now hb2
  have hC2 := hC.now hb2
  have hd2 := hd1.now hb2
  have hm2 := hm1.now hb2
  clear q0 q1 q2 q3 q4 q5 q6 q7 y0 y1 hB hC hd1 hs1 hm1 hb2
  obtain ⟨q0, q1, q2, q3, q4, q5, q6, q7⟩ := hB2.c8
  obtain ⟨y0, y1⟩ := hC2.c2
  cases hq : vstateB d s
  · have HR : Hid (dfinalE d s = (false, 1)) := by show _ = _; rw [HD.out, hq]; rfl
    clear hq
    go_wp2_with fail
    go_ret2
    exact ⟨ret_bi (by rw [HR.out]), hbw2⟩
  have HR : Hid (dfinalE d s = (finalM d s.marks, 0)) := by show _ = _; rw [HD.out, hq]; rfl
  clear hq HD
  have HC := Lib.hid (finalM_any n d s.marks _ _ w2 hd2 hm2)
  go_wp2_with fail
  refine HC.out.mono ?_
  rintro e w3 ⟨rfl, hb3⟩
  go_wp2_with fail
  go_ret2
  exact ⟨ret_bi (by rw [HR.out]), bthen hbw2 hb3⟩
end Go.Proofs.YtlmenhjlgmejkaaGreatDoor

namespace Go.Proofs.YtlmenhjlgmejkaaGreatDoor
open Go.RowKit
theorem Reach.step {ts : List (List Int × List Int)} {a q r : Int} {t : List Int × List Int} (ht : t ∈ ts) (hq : q ∈ t.1) (h : Reach ts a q) (hr : r ∈ t.2) : Reach ts a r :=
  fun S h1 h2 => h2 t ht q hq (h S h1 h2) r hr
theorem setAll_length (ps : List Int) : ∀ pl, (setAll pl ps).length = pl.length := by
  unfold setAll
  induction ps with
  | nil => intro pl; rfl
  | cons p ps ih => intro pl; rw [List.foldl_cons, ih, List.length_set]
theorem setAll_get (ps : List Int) : ∀ (pl : List Bool) (k : Nat), (∀ p ∈ ps, 0 ≤ p ∧ p.toNat < pl.length) → ((setAll pl ps).getD k false = true ↔ pl.getD k false = true ∨ (k : Int) ∈ ps) := by
  induction ps with
  | nil => intro pl k _; simp [setAll]
  | cons p ps ih =>
    intro pl k h
    have e : setAll pl (p :: ps) = setAll (pl.set p.toNat true) ps := rfl
    rw [e, ih (pl.set p.toNat true) k (fun q hq => by rw [List.length_set]; exact h q (by simp [hq]))]
    have hp := h p (by simp)
    simp only [List.getD_eq_getElem?_getD, List.getElem?_set, List.mem_cons]
    by_cases hk : p.toNat = k
    · subst hk
      have : ((p.toNat : Nat) : Int) = p := by omega
      simp [hp.2, this]
    · have : ¬ (k : Int) = p := by omega
      simp [hk, this]
theorem Inv.step {ts : List (List Int × List Int)} {P : Nat} {a : Int} {pl tr : List Bool} (h : Inv ts P a pl tr) (hin : InPl P ts) {i : Nat} {t : List Int × List Int} (ht : ts[i]? = some t) (hany : anyIn pl t.1 = true) :
    Inv ts P a (setAll pl t.2) (tr.set i true) := by
  obtain ⟨h1, h2⟩ := hin t (List.mem_of_getElem? ht)
  have hg := fun k => setAll_get t.2 pl k (fun p hp => by rw [h.lp]; exact h2 p hp)
  have hq : ∃ q ∈ t.1, Reach ts a q := by
    unfold anyIn at hany
    rw [List.any_eq_true] at hany
    obtain ⟨q, hq, hq2⟩ := hany
    refine ⟨q, hq, ?_⟩
    have := h.ok q.toNat hq2
    rwa [show ((q.toNat : Nat) : Int) = q from by have := h1 q hq; omega] at this
  refine ⟨by rw [setAll_length]; exact h.lp, by rw [List.length_set]; exact h.lt, ?_, ?_, ?_⟩
  · rw [hg]; exact .inl h.has
  · intro k hk
    rw [hg] at hk
    rcases hk with hk | hk
    · exact h.ok k hk
    · obtain ⟨q, hq, hr⟩ := hq
      exact Reach.step (List.mem_of_getElem? ht) hq hr hk
  · intro j u hu hj
    rw [getD_set_bool] at hj
    rcases hj with ⟨rfl, _⟩ | hj
    · rw [ht] at hu
      injection hu with hu
      subst hu
      refine ⟨hq, fun r hr => ?_⟩
      rw [hg]; right
      rwa [show ((r.toNat : Nat) : Int) = r from by have := h2 r hr; omega]
    · obtain ⟨a1, a2⟩ := h.done j u hu hj
      exact ⟨a1, fun r hr => by rw [hg]; exact .inl (a2 r hr)⟩
end Go.Proofs.YtlmenhjlgmejkaaGreatDoor

namespace Go.Proofs.YtlmenhjlgmejkaaGreatDoor
open Go.RowKit
theorem none_any (s : St) (us : Value) (w : World) (hs : IsSt (Lt w.heap.size) w us s) : Calls Tryz.prog 39 #[us] w fun e w' => e = .returned (.bool (noneB s)) ∧ Below w.heap.size w w' := by
  obtain ⟨Am, cm, Av, cv, rfl, s1, s2, ⟨t3, t4⟩, t5, t6⟩ := hs.open_
  have hb := bone w (.cells #[.slice Am s.marks.length cm, .slice Av s.vals.length cv] 33)
  have HN : Hid (noneB s = (decide (s.marks.length = 0) && decide (s.vals.length = 0))) := by
    show _ = _
    unfold noneB
    cases s.marks <;> cases s.vals <;> rfl
  clear hs s1 s2
  generalize noneB s = q at *
  generalize s.marks.length = a at *
  generalize s.vals.length = b at *
  by_cases ha : a = 0
  · subst ha
    go_enter Tryz.func39, Tryz.ntmps39
    go_wp2_with fail
    go_ret
    exact ⟨ret_bool (by rw [HN.out, Bool.eq_iff_iff]; first | (simp; done) | (simp; omega)), hb⟩
  · go_enter Tryz.func39, Tryz.ntmps39
    go_wp2_with fail
    go_ret
    exact ⟨ret_bool (by rw [HN.out]; simp [ha]), hb⟩
end Go.Proofs.YtlmenhjlgmejkaaGreatDoor

namespace Go.Proofs.YtlmenhjlgmejkaaGreatDoor
open Go.RowKit
set_option maxHeartbeats 4000000 in
set_option maxRecDepth 100000 in
theorem fire30_ref (n : Nat) (d : DNet) (s : St) (t : Int) (u us : Value) (w : World) (h : IsDn n (Lt w.heap.size) w u d) (hs : IsSt (Lt w.heap.size) w us s) :
    Calls Tryz.prog 44 #[u, us, .int .i64 t] w (RetStF (dfireE d s t).1 (dfireE d s t).2 w) := by
  have h0 := h
  have hs0 := hs
  obtain ⟨At, ct, Ax, cx, iv, Ag, cg, Aw, cw, rfl, dn1, dn2, dn3, dn4, dn5, ⟨t1, t2⟩, ⟨x1, x2⟩, ⟨g1, g2⟩, v1, v2⟩ := h.open_
  obtain ⟨Am, cm, Av, cv, rfl, s1, s2, ⟨t3, t4⟩, t5, t6⟩ := hs.open_
  clear h hs dn1 dn2 dn3 dn4 dn5 s1 s2
  have hb0 := bone w (.cells #[.int .i64 d.net.places, .slice At d.net.trans.length ct, .int .i64 d.net.source, .int .i64 d.net.sink, .slice Ax d.vars.length cx, iv, .slice Ag d.guards.length cg, .slice Aw d.writes.length cw] 30)
  have hb1 := bbox hb0 (.cells #[.slice Am s.marks.length cm, .slice Av s.vals.length cv] 33)
  have hb := bbox hb1 (.cells #[.slice none 0 0, .slice none 0 0] 33)
  have hB := ((Blk.new w 30 #[.int .i64 d.net.places, .slice At d.net.trans.length ct, .int .i64 d.net.source, .int .i64 d.net.sink, .slice Ax d.vars.length cx, iv, .slice Ag d.guards.length cg, .slice Aw d.writes.length cw]).alloc (.cells #[.slice Am s.marks.length cm, .slice Av s.vals.length cv] 33)).alloc (.cells #[.slice none 0 0, .slice none 0 0] 33)
  have hC := (Blk.new_at (t := 33) (cs := #[.slice Am s.marks.length cm, .slice Av s.vals.length cv]) (w := w.alloc (.cells #[.int .i64 d.net.places, .slice At d.net.trans.length ct, .int .i64 d.net.source, .int .i64 d.net.sink, .slice Ax d.vars.length cx, iv, .slice Ag d.guards.length cg, .slice Aw d.writes.length cw] 30)) (s := w.heap.size + 1) (by simp)).alloc (.cells #[.slice none 0 0, .slice none 0 0] 33)
  have hZ := Blk.new_at (t := 33) (cs := #[.slice none 0 0, .slice none 0 0]) (w := (w.alloc (.cells #[.int .i64 d.net.places, .slice At d.net.trans.length ct, .int .i64 d.net.source, .int .i64 d.net.sink, .slice Ax d.vars.length cx, iv, .slice Ag d.guards.length cg, .slice Aw d.writes.length cw] 30)).alloc (.cells #[.slice Am s.marks.length cm, .slice Av s.vals.length cv] 33)) (s := w.heap.size + 1 + 1) (by simp)
  have hd1 := h0.now hb
  have hs1 := hs0.now hb
  clear h0 hs0 hb0 hb1
  have HD : Hid (dfireE d s t = if vstateB d s then fireD d s t else (noSt, 1)) := rfl
  go_enter Tryz.func44, Tryz.ntmps44
  go_upto_region 1 with fail
  generalize hw1e : ((w.alloc (.cells #[.int .i64 d.net.places, .slice At d.net.trans.length ct, .int .i64 d.net.source, .int .i64 d.net.sink, .slice Ax d.vars.length cx, iv, .slice Ag d.guards.length cg, .slice Aw d.writes.length cw] 30)).alloc (.cells #[.slice Am s.marks.length cm, .slice Av s.vals.length cv] 33)).alloc (.cells #[.slice none 0 0, .slice none 0 0] 33) = w1 at *
  clear hw1e
  obtain ⟨q0, q1, q2, q3, q4, q5, q6, q7⟩ := hB.c8
  obtain ⟨y0, y1⟩ := hC.c2
  go_wp2_with fail
  refine (dvstate_ref n d s _ _ _ hd1 hs1).mono ?_
  rintro e w2 ⟨rfl, hb2⟩
  have hbw2 := bthen hb hb2
  have hB2 := hB.now hb2
  have hC2 := hC.now hb2
  have hZ2 := hZ.now hb2
  have hd2 := hd1.now hb2
  have hs2 := hs1.now hb2
  clear q0 q1 q2 q3 q4 q5 q6 q7 y0 y1 hB hC hZ hd1 hs1 hb2
  obtain ⟨q0, q1, q2, q3, q4, q5, q6, q7⟩ := hB2.c8
  obtain ⟨y0, y1⟩ := hC2.c2
  cases hq : vstateB d s
  · have HR : Hid (dfireE d s t = (noSt, 1)) := by show _ = _; rw [HD.out, hq]; rfl
    clear hq
    obtain ⟨zz0, zz1⟩ := hZ2.c2
    have z0 := hZ2.frozen 0
    have z1 := hZ2.frozen 1
    go_wp2_with fail
    obtain ⟨r0, r1⟩ := (hZ2.set2 (.slice none 0 0) (.slice none 0 0)).c2
    refine bodyPost_ret (v := .tuple #[.agg #[.slice none 0 0, .slice none 0 0], .int .i64 1]) (by simp [results, Tryz.results44, go_sem, r0, r1]) rfl ?_
    rw [HR.out]
    exact ⟨_, rfl, noSt_is _ _, bset2 hbw2 (by omega) _ _⟩
  · have HR : Hid (dfireE d s t = fireD d s t) := by show _ = _; rw [HD.out, hq]; rfl
    have HF := Lib.hid (after_ref n d s t _ _ w2 hd2 hs2 hq)
    clear hq
    go_wp2_with fail
    refine HF.out.mono ?_
    rintro e w3 ⟨u3, rfl, hu3, hb3⟩
    clear HF
    generalize fireD d s t = p at *
    obtain ⟨ps, pc⟩ := p
    dsimp only at *
    obtain ⟨Am2, cm2, Av2, cv2, rfl, m1, m2, _, _, _⟩ := hu3.open_
    have hZ3 := hZ2.now hb3
    have hbw3 := bthen hbw2 hb3
    obtain ⟨zz0, zz1⟩ := hZ3.c2
    have z0 := hZ3.frozen 0
    have z1 := hZ3.frozen 1
    clear q0 q1 q2 q3 q4 q5 q6 q7 y0 y1 hB2 hC2
    go_wp2_with fail
    obtain ⟨r0, r1⟩ := (hZ3.set2 (.slice Am2 ps.marks.length cm2) (.slice Av2 ps.vals.length cv2)).c2
    refine bodyPost_ret (v := .tuple #[.agg #[.slice Am2 ps.marks.length cm2, .slice Av2 ps.vals.length cv2], .int .i64 pc]) (by simp [results, Tryz.results44, go_sem, r0, r1]) rfl ?_
    rw [HR.out]
    refine ⟨_, rfl, ⟨_, _, rfl, ?_, ?_⟩, bset2 hbw3 (by omega) _ _⟩
    · exact SlI.from_ (SlI.set2F m1 hZ3 _ _) hbw2.size
    · exact SlV.from_ (SlV.set2F m2 hZ3 _ _) hbw2.size
set_option maxHeartbeats 8000000 in
set_option maxRecDepth 100000 in
theorem enabled30_ref (n : Nat) (d : DNet) (s : St) (u us : Value) (w : World) (h : IsDn n (Lt w.heap.size) w u d) (hs : IsSt (Lt w.heap.size) w us s) (hv : vstateB d s = true) :
    Calls Tryz.prog 45 #[u, us] w fun e w' => ∃ v, e = .returned v ∧ SlI (Lt w'.heap.size) w' v (firesTo d s d.net.trans.length) ∧ Below w.heap.size w w' := by
  have h0 := h
  have hs0 := hs
  obtain ⟨At, ct, Ax, cx, iv, Ag, cg, Aw, cw, rfl, dn1, dn2, dn3, dn4, dn5, ⟨t1, t2⟩, ⟨x1, x2⟩, ⟨g1, g2⟩, v1, v2⟩ := h.open_
  obtain ⟨Am, cm, Av, cv, rfl, s1, s2, ⟨t3, t4⟩, t5, t6⟩ := hs.open_
  clear h hs dn1 dn2 dn3 dn4 dn5 s1 s2
  have hb0 := bone w (.cells #[.int .i64 d.net.places, .slice At d.net.trans.length ct, .int .i64 d.net.source, .int .i64 d.net.sink, .slice Ax d.vars.length cx, iv, .slice Ag d.guards.length cg, .slice Aw d.writes.length cw] 30)
  have hb := bbox hb0 (.cells #[.slice Am s.marks.length cm, .slice Av s.vals.length cv] 33)
  have hB := (Blk.new w 30 #[.int .i64 d.net.places, .slice At d.net.trans.length ct, .int .i64 d.net.source, .int .i64 d.net.sink, .slice Ax d.vars.length cx, iv, .slice Ag d.guards.length cg, .slice Aw d.writes.length cw]).alloc (.cells #[.slice Am s.marks.length cm, .slice Av s.vals.length cv] 33)
  have hC := (Blk.new_at (t := 33) (cs := #[.slice Am s.marks.length cm, .slice Av s.vals.length cv]) (w := w.alloc (.cells #[.int .i64 d.net.places, .slice At d.net.trans.length ct, .int .i64 d.net.source, .int .i64 d.net.sink, .slice Ax d.vars.length cx, iv, .slice Ag d.guards.length cg, .slice Aw d.writes.length cw] 30)) (s := w.heap.size + 1) (by simp))
  have hd1 := h0.now hb
  have hs1 := hs0.now hb
  clear h0 hs0 hb0
  go_enter Tryz.func45, Tryz.ntmps45
  go_upto_region 1 with fail
  generalize hw1e : (w.alloc (.cells #[.int .i64 d.net.places, .slice At d.net.trans.length ct, .int .i64 d.net.source, .int .i64 d.net.sink, .slice Ax d.vars.length cx, iv, .slice Ag d.guards.length cg, .slice Aw d.writes.length cw] 30)).alloc (.cells #[.slice Am s.marks.length cm, .slice Av s.vals.length cv] 33) = w1 at *
  clear hw1e
  have HV := Lib.hid hv
  have htl : d.net.trans.length ≤ 60 := (validOk (dvalid_parts (vstate_parts hv).1).1).2.2.1
  clear hv
  have hsz2 : w.heap.size + 2 ≤ w1.heap.size := by have := hC.lt; omega
  go_wp2_with fail
  go_loopw [5, 6] (fun ov i wr => ∃ k : Nat, k ≤ d.net.trans.length ∧ i = .int .i64 k ∧ wr.ownsRow w1.heap.size 3 1 ov (firesTo d s k).length ((firesTo d s k).map (Value.int .i64)) ∧ Below w.heap.size w wr ∧ Below w1.heap.size w1 wr) (fun _ i _ => d.net.trans.length - (intOf i).toNat)
  case atStart => exact ⟨0, Nat.zero_le _, rfl, World.ownsRow_nil _ _ _ _, hb, Below.refl _ _⟩
  case round =>
    obtain ⟨k, hk, rfl, hown, hbr, hbr2⟩ := hrel
    have hszr := hbr2.size
    have hB5 := hB.now hbr2
    have hC5 := hC.now hbr2
    obtain ⟨q0, q1, q2, q3, q4, q5, q6, q7⟩ := hB5.c8
    obtain ⟨y0, y1⟩ := hC5.c2
    by_cases hlt : k < d.net.trans.length
    rotate_left
    · obtain rfl : k = d.net.trans.length := by omega
      go_wp2_with fail
      go_ret
      exact ⟨_, rfl, SlI.of_own hown (den_fit d s _ (by omega)), hbr⟩
    have HF := Lib.hid (after_ref n d s k _ _ wr (hd1.now hbr2) (hs1.now hbr2) HV.out)
    have hlen := den_len d s k
    go_wp2_with fail
    refine HF.out.mono ?_
    rintro e w3 ⟨u3, rfl, hu3, hb3⟩
    have hu3 := hu3.weak
    clear HF q0 q1 q2 q3 q4 q5 q6 q7 y0 y1 hB5 hC5
    by_cases hc : (fireD d s (k : Int)).2 = 0
    · have HN := Lib.hid (den_yes hc)
      have bc : ((fireD d s (k : Int)).2 == 0) = true := by simp [hc]
      generalize fireD d s (k : Int) = p at *
      obtain ⟨ps, pc⟩ := p
      dsimp only at *
      obtain ⟨Am2, cm2, Av2, cv2, rfl, _, _, _, _, _⟩ := hu3.open_
      have hb4 := bone w3 (.cells #[.slice Am2 ps.marks.length cm2, .slice Av2 ps.vals.length cv2] 33)
      have hown4 := own_now (own_now hown hb3) hb4
      have hbw4 := bthen (bthen hbr hb3) hb4
      have hb24 : Below w1.heap.size w1 (w3.alloc (.cells #[.slice Am2 ps.marks.length cm2, .slice Av2 ps.vals.length cv2] 33)) := (hbr2.trans (hb3.mono hbr2.size)).trans (hb4.mono (Nat.le_trans hbr2.size hb3.size))
      clear hc hown
      go_upto_region 7 with fail
      generalize hw4 : w3.alloc (.cells #[.slice Am2 ps.marks.length cm2, .slice Av2 ps.vals.length cv2] 33) = w4 at *
      clear hw4
      have hsz4 := hb24.size
      go_wp2_with (at_builtin; refine wpList_push appInts rfl (.tmp 26) (.tmp 28) rfl w4 [.int .i64 (k : Int)] rfl (by simp [Value.oneCell']) _ (firesTo d s k).length ((firesTo d s k).map (Value.int .i64)) rfl hown4 rfl (by omega) (by omega) ?_; intro v' w' hown' hgr hat)
      have hbg : Below w1.heap.size w4 w' := below_of_grown hgr (by omega) (fun g hg => (hown4.lt g hg).1)
      go_roundw
      case rel =>
        refine ⟨k + 1, by omega, by go_num, ?_, hbw4.trans (hbg.mono (by omega)), hb24.trans hbg⟩
        rw [HN.out]; simpa using hown'
      case measure => simp [intOf]; omega
    · have HN := Lib.hid (den_no hc)
      have bc : ((fireD d s (k : Int)).2 == 0) = false := by simpa using hc
      generalize fireD d s (k : Int) = p at *
      obtain ⟨ps, pc⟩ := p
      dsimp only at *
      obtain ⟨Am2, cm2, Av2, cv2, rfl, _, _, _, _, _⟩ := hu3.open_
      have hb4 := bone w3 (.cells #[.slice Am2 ps.marks.length cm2, .slice Av2 ps.vals.length cv2] 33)
      have hown4 := own_now (own_now hown hb3) hb4
      have hbw4 := bthen (bthen hbr hb3) hb4
      have hb24 : Below w1.heap.size w1 (w3.alloc (.cells #[.slice Am2 ps.marks.length cm2, .slice Av2 ps.vals.length cv2] 33)) := (hbr2.trans (hb3.mono hbr2.size)).trans (hb4.mono (Nat.le_trans hbr2.size hb3.size))
      clear hc hown
      go_wp2_with fail
      go_roundw
      case rel => exact ⟨k + 1, by omega, by go_num, by rw [HN.out]; exact hown4, hbw4, hb24⟩
      case measure => simp [intOf]; omega
end Go.Proofs.YtlmenhjlgmejkaaGreatDoor

namespace Go.Proofs.YtlmenhjlgmejkaaGreatDoor
theorem drun_snoc {d : DNet} {t : Int} : ∀ (l : List Int) (s now : St) (k : Nat), drunFrom d s l k = (now, k + l.length, 0) → (fireD d now t).2 = 0 → drunFrom d s (l ++ [t]) k = ((fireD d now t).1, k + (l ++ [t]).length, 0) := by
  intro l
  induction l with
  | nil =>
    intro s now k h hf
    rw [drunFrom] at h
    injection h with h _
    subst h
    rw [List.nil_append, drunFrom, if_neg (by simpa using hf), drunFrom]
    simp
  | cons a l ih =>
    intro s now k h hf
    rw [drunFrom] at h
    by_cases ha : (fireD d s a).2 ≠ 0
    · rw [if_pos ha] at h
      injection h with _ h
      injection h with _ h
      exact absurd h ha
    · rw [if_neg ha] at h
      rw [List.cons_append, drunFrom, if_neg ha, ih _ now (k + 1) (by rw [h]; simp; omega) hf]
      simp
      omega
theorem prun_snoc {n : Net} {t : Int} : ∀ (l m now : List Int) (k : Nat), runFrom n m l k = (now, k + l.length, 0) → (fireB n now t).2 = 0 → runFrom n m (l ++ [t]) k = ((fireB n now t).1, k + (l ++ [t]).length, 0) := by
  intro l
  induction l with
  | nil =>
    intro s now k h hf
    rw [runFrom] at h
    injection h with h _
    subst h
    rw [List.nil_append, runFrom, if_pos hf, runFrom]
    simp
  | cons a l ih =>
    intro s now k h hf
    rw [runFrom] at h
    by_cases ha : (fireB n s a).2 = 0
    · rw [if_pos ha] at h
      rw [List.cons_append, runFrom, if_pos ha, ih _ now (k + 1) (by rw [h]; simp; omega) hf]
      simp
      omega
    · rw [if_neg ha] at h
      injection h with _ h
      injection h with _ h
      exact absurd h ha
variable {d : DNet} {s now : St} {l : List Int} {t : Int}
theorem Ins.step (h : Ins d s now l) (hf : (fireD d now t).2 = 0) : Ins d s (fireD d now t).1 (l ++ [t]) := by
  obtain ⟨f1, f2⟩ := h.marks hf
  exact ⟨h.valid, h.start, fire_state h.valid h.st hf, drun_snoc _ _ _ _ h.run hf, by rw [f2]; exact prun_snoc _ _ _ _ h.prun f1⟩
end Go.Proofs.YtlmenhjlgmejkaaGreatDoor

namespace Go.Proofs.YtlmenhjlgmejkaaGreatDoor
open Go.RowKit
theorem oneB_at {n : Net} {P q k : Nat} (hP : n.places = (P : Int)) (hk : k < P) : (oneB n q)[k]? = some (if k = q then 1 else 0) := by
  unfold oneB
  rw [hP, Int.toNat_natCast, Int.toNat_natCast, List.getElem?_set]
  by_cases h : q = k
  · subst h
    rw [if_pos rfl, if_pos (by simpa using hk), if_pos rfl]
  · rw [if_neg h, if_neg (fun e => h e.symm), List.getElem?_replicate, if_pos hk]
theorem oneB_step {n : Net} {P q k : Nat} (hP : n.places = (P : Int)) (hk : k < P) : (oneB n q).take (k + 1) = (oneB n q).take k ++ [if k = q then 1 else 0] := by
  rw [List.take_add_one, oneB_at hP hk]; rfl
theorem oneB_all {n : Net} {P q : Nat} (hP : n.places = (P : Int)) : (oneB n q).take P = oneB n q := by
  refine List.take_of_length_le ?_
  unfold oneB
  rw [List.length_set, List.length_replicate, hP, Int.toNat_natCast]
  exact Nat.le_refl _
theorem oneB_fit {n : Net} {p : Int} : ∀ z ∈ oneB n p, Fit z := by
  intro z hz
  unfold oneB at hz
  rcases List.mem_or_eq_of_mem_set hz with hz | rfl
  · rw [List.eq_of_mem_replicate hz]; unfold Fit; omega
  · unfold Fit; omega
def RetSlF (zs : List Int) (w : World) (e : Ending) (w' : World) : Prop := ∃ v, e = .returned v ∧ SlI (Fr w.heap.size w') w' v zs ∧ Below w.heap.size w w'
set_option maxHeartbeats 2000000 in
theorem one_ref (n : Net) (v : Value) (p : Int) (w : World) (h : IsNet (Lt w.heap.size) w v n) (hV : validB n = true) (hp0 : 0 ≤ p) :
    Calls Tryz.prog 130 #[v, .int .i64 p] w (RetSlF (oneB n p) w) := by
  obtain ⟨tv, rfl, hp, hs, hkk, ht⟩ := h
  obtain ⟨A, c, rfl, h1, h2, ht⟩ := ht.open_
  obtain ⟨v1, v2, v3, v4⟩ := validOk hV
  clear v4 ht hV
  obtain ⟨q, rfl⟩ := Int.eq_ofNat_of_zero_le hp0
  obtain ⟨P, hP⟩ := Int.eq_ofNat_of_zero_le (show 0 ≤ n.places by omega)
  have HP := Lib.hid hP
  rw [hP]
  rw [hP] at v1 v2
  have hb := bone w (.cells #[.int .i64 P, .slice A n.trans.length c, .int .i64 n.source, .int .i64 n.sink] 24)
  have hB := Blk.new w 24 #[.int .i64 P, .slice A n.trans.length c, .int .i64 n.source, .int .i64 n.sink]
  clear hP hp hs hkk hp0
  go_enter Tryz.func130, Tryz.ntmps130
  go_wp2_with fail
  go_loopw [5, 6] (fun ov i wr => ∃ k : Nat, k ≤ P ∧ i = .int .i64 k ∧ wr.ownsRow (w.heap.size + 1) 3 1 ov k (((oneB n q).take k).map (Value.int .i64)) ∧ Below w.heap.size w wr ∧ Blk wr w.heap.size 24 #[.int .i64 P, .slice A n.trans.length c, .int .i64 n.source, .int .i64 n.sink]) (fun _ i _ => P - (intOf i).toNat)
  case atStart => exact ⟨0, Nat.zero_le _, rfl, World.ownsRow_nil _ _ _ _, hb, hB⟩
  case round =>
    obtain ⟨k, hk, rfl, hown, hbr, hBr⟩ := hrel
    have hltr := hBr.lt
    obtain ⟨q0, q1, q2, q3⟩ := hBr.c4
    by_cases hlt : k < P
    · have HS := Lib.hid (oneB_step (q := q) HP.out hlt)
      by_cases hkq : k = q
      · subst hkq
        have HS2 : Hid ((oneB n k).take (k + 1) = (oneB n k).take k ++ [1]) := by show _ = _; rw [HS.out, if_pos rfl]
        clear HS
        go_wp2_with (at_builtin; refine wpList_push appInts rfl (.tmp 17) (.tmp 19) rfl wr [.int .i64 1] rfl (by simp [Value.oneCell']) _ k (((oneB n k).take k).map (Value.int .i64)) rfl hown rfl (by omega) (by omega) ?_; intro v' w' hown' hgr hat)
        have hbg : Below (w.heap.size + 1) wr w' := below_of_grown hgr (by omega) (fun g hg => (World.ownsRow.lt hown g hg).1)
        go_roundw
        case rel =>
          refine ⟨k + 1, by omega, by go_num, ?_, hbr.trans (hbg.mono (by omega)), hBr.below hbg (by omega)⟩
          rw [HS2.out]; simpa using hown'
        case measure => simp [intOf]; omega
      · have HS2 : Hid ((oneB n q).take (k + 1) = (oneB n q).take k ++ [0]) := by show _ = _; rw [HS.out, if_neg hkq]
        have b1 : ((k : Int) == (q : Int)) = false := by rw [beq_eq_false_iff_ne]; omega
        clear HS
        go_wp2_with (at_builtin; refine wpList_push appInts rfl (.tmp 17) (.tmp 19) rfl wr [.int .i64 0] rfl (by simp [Value.oneCell']) _ k (((oneB n q).take k).map (Value.int .i64)) rfl hown rfl (by omega) (by omega) ?_; intro v' w' hown' hgr hat)
        have hbg : Below (w.heap.size + 1) wr w' := below_of_grown hgr (by omega) (fun g hg => (World.ownsRow.lt hown g hg).1)
        go_roundw
        case rel =>
          refine ⟨k + 1, by omega, by go_num, ?_, hbr.trans (hbg.mono (by omega)), hBr.below hbg (by omega)⟩
          rw [HS2.out]; simpa using hown'
        case measure => simp [intOf]; omega
    · obtain rfl : k = P := by omega
      rw [oneB_all HP.out] at hown
      go_wp2_with fail
      go_ret
      exact ⟨_, rfl, SlI.of_ownF hown (by omega) oneB_fit, hbr⟩
set_option maxHeartbeats 1000000 in
theorem initialM_ref (n : Net) (v : Value) (w : World) (h : IsNet (Lt w.heap.size) w v n) (hV : validB n = true) : Calls Tryz.prog 86 #[v] w (RetSlF (oneB n n.source) w) := by
  have h0 := h
  obtain ⟨tv, rfl, hp, hs, hkk, ht⟩ := h
  obtain ⟨A, c, rfl, h1, h2, ht⟩ := ht.open_
  obtain ⟨v1, v2, v3, v4⟩ := validOk hV
  have hp0 : 0 ≤ n.source := (insideOk hV).1.1
  clear v4 ht
  have hb := bone w (.cells #[.int .i64 n.places, .slice A n.trans.length c, .int .i64 n.source, .int .i64 n.sink] 24)
  have HC := Lib.hid (one_ref n _ n.source _ (h0.now hb) hV hp0)
  clear hp hs hkk v1 v2 v3 hp0 hV h0
  go_enter Tryz.func86, Tryz.ntmps86
  go_wp2_with fail
  refine HC.out.mono ?_
  rintro e w1 ⟨u, rfl, hu, hb1⟩
  go_wp2_with fail
  go_ret
  have hsz := hb.size
  exact ⟨_, rfl, hu.from_ hsz, bthen hb hb1⟩
set_option maxHeartbeats 1000000 in
theorem finalMR_ref (n : Net) (v : Value) (w : World) (h : IsNet (Lt w.heap.size) w v n) (hV : validB n = true) : Calls Tryz.prog 89 #[v] w (RetSlF (oneB n n.sink) w) := by
  have h0 := h
  obtain ⟨tv, rfl, hp, hs, hkk, ht⟩ := h
  obtain ⟨A, c, rfl, h1, h2, ht⟩ := ht.open_
  obtain ⟨v1, v2, v3, v4⟩ := validOk hV
  have hp0 : 0 ≤ n.sink := (insideOk hV).2.1
  clear v4 ht
  have hb := bone w (.cells #[.int .i64 n.places, .slice A n.trans.length c, .int .i64 n.source, .int .i64 n.sink] 24)
  have HC := Lib.hid (one_ref n _ n.sink _ (h0.now hb) hV hp0)
  clear hp hs hkk v1 v2 v3 hp0 hV h0
  go_enter Tryz.func89, Tryz.ntmps89
  go_wp2_with fail
  refine HC.out.mono ?_
  rintro e w1 ⟨u, rfl, hu, hb1⟩
  go_wp2_with fail
  go_ret
  have hsz := hb.size
  exact ⟨_, rfl, hu.from_ hsz, bthen hb hb1⟩
theorem finalM_eq {n : Net} {d : DNet} (hd : d.net = n) (hV : validB n = true) (m : List Int) : (m == oneB n n.sink) = finalM d m := by
  subst hd
  unfold finalM
  rw [hV, Bool.true_and, Bool.eq_iff_iff, decide_eq_true_eq, beq_iff_eq]
  exact ⟨fun h => h.symm, fun h => h.symm⟩
set_option maxHeartbeats 4000000 in
set_option maxRecDepth 100000 in
theorem final_ref (n : Nat) (d : DNet) (s : St) (u us : Value) (w : World) (h : IsDn n (Lt w.heap.size) w u d) (hs : IsSt (Lt w.heap.size) w us s) (hv : validB d.net = true) :
    Calls Tryz.prog 46 #[u, us] w fun e w' => e = .returned (.bool (finalM d s.marks)) ∧ Below w.heap.size w w' := by
  have HF := Lib.hid (finalM_eq (d := d) rfl hv s.marks)
  obtain ⟨At, ct, Ax, cx, iv, Ag, cg, Aw, cw, rfl, dn1, dn2, dn3, dn4, dn5, ⟨t1, t2⟩, ⟨x1, x2⟩, ⟨g1, g2⟩, v1, v2⟩ := h.open_
  obtain ⟨Am, cm, Av, cv, rfl, s1, s2, ⟨t3, t4⟩, t5, t6⟩ := hs.open_
  clear h hs
  have hb0 := bone w (.cells #[.int .i64 d.net.places, .slice At d.net.trans.length ct, .int .i64 d.net.source, .int .i64 d.net.sink, .slice Ax d.vars.length cx, iv, .slice Ag d.guards.length cg, .slice Aw d.writes.length cw] 30)
  have hb := bbox hb0 (.cells #[.slice Am s.marks.length cm, .slice Av s.vals.length cv] 33)
  have hB := (Blk.new w 30 #[.int .i64 d.net.places, .slice At d.net.trans.length ct, .int .i64 d.net.source, .int .i64 d.net.sink, .slice Ax d.vars.length cx, iv, .slice Ag d.guards.length cg, .slice Aw d.writes.length cw]).alloc (.cells #[.slice Am s.marks.length cm, .slice Av s.vals.length cv] 33)
  have hC := Blk.new_at (t := 33) (cs := #[.slice Am s.marks.length cm, .slice Av s.vals.length cv]) (w := w.alloc (.cells #[.int .i64 d.net.places, .slice At d.net.trans.length ct, .int .i64 d.net.source, .int .i64 d.net.sink, .slice Ax d.vars.length cx, iv, .slice Ag d.guards.length cg, .slice Aw d.writes.length cw] 30)) (s := w.heap.size + 1) (by simp)
  have hn1 := dn1.now hb
  have hm1 := s1.now hb
  clear dn1 dn2 dn3 dn4 dn5 s1 s2 hb0
  go_enter Tryz.func46, Tryz.ntmps46
  go_upto_region 1 with fail
  generalize hw1e : (w.alloc (.cells #[.int .i64 d.net.places, .slice At d.net.trans.length ct, .int .i64 d.net.source, .int .i64 d.net.sink, .slice Ax d.vars.length cx, iv, .slice Ag d.guards.length cg, .slice Aw d.writes.length cw] 30)).alloc (.cells #[.slice Am s.marks.length cm, .slice Av s.vals.length cv] 33) = w1 at *
  clear hw1e
  have HCL : Hid (∀ W, Below w1.heap.size w1 W → Calls Tryz.prog 89 #[.agg #[.int .i64 d.net.places, .slice At d.net.trans.length ct, .int .i64 d.net.source, .int .i64 d.net.sink]] W fun e w' => ∃ v, e = .returned v ∧ SlI (Lt w'.heap.size) w' v (oneB d.net d.net.sink) ∧ Below w1.heap.size w1 w' ∧ Below W.heap.size W w') := fun W hW => (finalMR_ref d.net _ W (hn1.now hW) hv).mono fun e w' ⟨v, he, hv, hb⟩ => ⟨v, he, SlI.weak hv, bthen hW hb, hb⟩
  obtain ⟨fm, hfm⟩ : ∃ z, z = finalM d s.marks := ⟨_, rfl⟩
  have HSM : Hid (∀ W v, Below w1.heap.size w1 W → SlI (Lt W.heap.size) W v (oneB d.net d.net.sink) → Calls Tryz.prog 33 #[.slice Am s.marks.length cm, v] W fun e w' => e = .returned (.bool fm) ∧ Below w1.heap.size w1 w') := fun W v hW hv => (sameM_ref _ _ _ _ W (hm1.now hW) hv).mono fun e w' ⟨he, q, hq⟩ => ⟨by rw [he, HF.out, hfm], by rw [hq]; exact bdrawn hW q⟩
  have HS : Hid (∀ W, Below w1.heap.size w1 W → W.cell? ⟨w.heap.size, 0, none⟩ = some (.int .i64 d.net.places) ∧ W.cell? ⟨w.heap.size, 1, none⟩ = some (.slice At d.net.trans.length ct) ∧ W.cell? ⟨w.heap.size, 2, none⟩ = some (.int .i64 d.net.source) ∧ W.cell? ⟨w.heap.size, 3, none⟩ = some (.int .i64 d.net.sink) ∧ W.cell? ⟨w.heap.size + 1, 0, none⟩ = some (.slice Am s.marks.length cm)) := fun W hW => ⟨(hB.now hW).c8.1, (hB.now hW).c8.2.1, (hB.now hW).c8.2.2.1, (hB.now hW).c8.2.2.2.1, (hC.now hW).c2.1⟩
  have hbd : Below w1.heap.size w1 w1.drew := (Below.refl _ _).drew
  obtain ⟨a0, a1, a2, a3, d0⟩ := HS.out _ hbd
  have HFM := Lib.hid hfm
  clear hfm HF
  go_region_held3 (fun W => W.cell? ⟨w.heap.size, 0, none⟩ = some (.int .i64 d.net.places) ∧ W.cell? ⟨w.heap.size, 1, none⟩ = some (.slice At d.net.trans.length ct) ∧ W.cell? ⟨w.heap.size, 2, none⟩ = some (.int .i64 d.net.source) ∧ W.cell? ⟨w.heap.size, 3, none⟩ = some (.int .i64 d.net.sink) ∧ W.cell? ⟨w.heap.size + 1, 0, none⟩ = some (.slice Am s.marks.length cm)) (exact HS.out _ (by assumption))
    (first | (go_at_call 89; (with_reducible refine (HCL.out _ (by assumption)).mono ?_); rintro e w6 ⟨fv, rfl, hfv, hb6, hb7⟩) | (go_at_call 33; (with_reducible refine (HSM.out _ _ (by assumption) (by assumption)).mono ?_); rintro e w8 ⟨rfl, hb8⟩))
  all_goals
    go_wp2_with fail
    go_ret
    exact ⟨ret_bool HFM.out, bthen hb hb8⟩
end Go.Proofs.YtlmenhjlgmejkaaGreatDoor
