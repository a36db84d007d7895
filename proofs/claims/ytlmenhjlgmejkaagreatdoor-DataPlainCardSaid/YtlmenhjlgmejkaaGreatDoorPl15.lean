/- Merged texts. -/
import Derived.Test.YtlmenhjlgmejkaaGreatDoorPl14
set_option linter.all false
namespace Go.Proofs.YtlmenhjlgmejkaaGreatDoor
open Go.RowKit
theorem enE_code (n : Net) (m : List Int) : (enE n m).2 = if validB n && markingB n.places m then 0 else 1 := by
  unfold enE
  cases validB n && markingB n.places m <;> rfl
theorem IsSt.open_ {D : Nat → Prop} {w : World} {u : Value} {s : St} (h : IsSt D w u s) : ∃ Am cm Av cv, u = .agg #[.slice Am s.marks.length cm, .slice Av s.vals.length cv] ∧ SlI D w (.slice Am s.marks.length cm) s.marks ∧ SlV D w (.slice Av s.vals.length cv) s.vals ∧
    (s.marks.length ≤ cm ∧ cm ≤ 9223372036854775807) ∧ s.vals.length ≤ cv ∧ cv ≤ 9223372036854775807 := by
  obtain ⟨mv, vv, rfl, h1, h2⟩ := h
  obtain ⟨Am, cm, rfl, t1, t2, h1⟩ := Sl.open_ h1
  obtain ⟨Av, cv, rfl, t3, t4, h2⟩ := Sl.open_ h2
  exact ⟨Am, cm, Av, cv, rfl, h1, h2, ⟨t1, t2⟩, t3, t4⟩
set_option maxHeartbeats 4000000 in
set_option maxRecDepth 100000 in
theorem dstate_any (n : Nat) (d : DNet) (s : St) (u us : Value) (w : World) (h : IsDn n (Lt w.heap.size) w u d) (hs : IsSt (Lt w.heap.size) w us s) (hl : d.vars.length ≤ 1000000) :
    Calls Tryz.prog 87 #[u, us] w fun e w' => e = .returned (.bool (stateB d s)) ∧ Below w.heap.size w w' := by
  obtain ⟨At, ct, Ax, cx, iv, Ag, cg, Aw, cw, rfl, h1, h2, h3, h4, h5, ⟨t1, t2⟩, ⟨x1, x2⟩, ⟨g1, g2⟩, v1, v2⟩ := h.open_
  obtain ⟨Am, cm, Av, cv, rfl, s1, s2, ⟨t3, t4⟩, t5, t6⟩ := hs.open_
  clear h hs h3 h4 h5
  have hb0 := bone w (.cells #[.int .i64 d.net.places, .slice At d.net.trans.length ct, .int .i64 d.net.source, .int .i64 d.net.sink, .slice Ax d.vars.length cx, iv, .slice Ag d.guards.length cg, .slice Aw d.writes.length cw] 30)
  have hb := bbox hb0 (.cells #[.slice Am s.marks.length cm, .slice Av s.vals.length cv] 33)
  have hB := (Blk.new w 30 #[.int .i64 d.net.places, .slice At d.net.trans.length ct, .int .i64 d.net.source, .int .i64 d.net.sink, .slice Ax d.vars.length cx, iv, .slice Ag d.guards.length cg, .slice Aw d.writes.length cw]).alloc (.cells #[.slice Am s.marks.length cm, .slice Av s.vals.length cv] 33)
  have hC := Blk.new_at (t := 33) (cs := #[.slice Am s.marks.length cm, .slice Av s.vals.length cv]) (w := w.alloc (.cells #[.int .i64 d.net.places, .slice At d.net.trans.length ct, .int .i64 d.net.source, .int .i64 d.net.sink, .slice Ax d.vars.length cx, iv, .slice Ag d.guards.length cg, .slice Aw d.writes.length cw] 30)) (s := w.heap.size + 1) (by simp)
  have hn1 := h1.now hb
  have hx1 := h2.now hb
  have hm1 := s1.now hb
  have hv1 := s2.now hb
  clear h1 h2 s1 s2 hb0
  have HD : Hid (stateB d s = (validB d.net && markingB d.net.places s.marks && asgB d.vars s.vals)) := rfl
  have HE := Lib.hid (enE_code d.net s.marks)
  go_enter Tryz.func87, Tryz.ntmps87
  go_upto_region 1 with fail
  generalize hw1e : (w.alloc (.cells #[.int .i64 d.net.places, .slice At d.net.trans.length ct, .int .i64 d.net.source, .int .i64 d.net.sink, .slice Ax d.vars.length cx, iv, .slice Ag d.guards.length cg, .slice Aw d.writes.length cw] 30)).alloc (.cells #[.slice Am s.marks.length cm, .slice Av s.vals.length cv] 33) = w1 at *
  clear hw1e
  obtain ⟨q0, q1, q2, q3, q4, q5, q6, q7⟩ := hB.c8
  obtain ⟨y0, y1⟩ := hC.c2
  go_wp2_with fail
  refine (enabledX_any d.net _ _ s.marks _ hn1 hm1).mono ?_
  rintro e w2 ⟨rv, rfl, _, hb2⟩
  have hbw2 := bthen hb hb2
  have hB2 := hB.now hb2
  have hC2 := hC.now hb2
  have hx2 := hx1.now hb2
  have hv2 := hv1.now hb2
  clear q0 q1 q2 q3 q4 q5 q6 q7 y0 y1 hB hC hn1 hx1 hm1 hv1 hb2
  obtain ⟨q0, q1, q2, q3, q4, q5, q6, q7⟩ := hB2.c8
  obtain ⟨y0, y1⟩ := hC2.c2
  generalize hq : (validB d.net && markingB d.net.places s.marks) = q at *
  clear hq
  generalize enE d.net s.marks = z at *
  obtain ⟨z1, z2⟩ := z
  dsimp only at *
  cases q
  · obtain rfl : z2 = 1 := HE.out
    have HR : Hid (stateB d s = false) := by show _ = _; rw [HD.out]; rfl
    go_wp2_with fail
    go_ret
    exact ⟨ret_bool HR.out.symm, hbw2⟩
  · obtain rfl : z2 = 0 := HE.out
    have HR : Hid (stateB d s = asgB d.vars s.vals) := by show _ = _; rw [HD.out]; rfl
    go_wp2_with fail
    refine (dassigned_any d.vars s.vals _ _ _ hx2 hv2 hl).mono ?_
    rintro e w3 ⟨rfl, hb3⟩
    go_wp2_with fail
    go_ret
    exact ⟨ret_bool HR.out.symm, bthen hbw2 hb3⟩
set_option maxHeartbeats 4000000 in
set_option maxRecDepth 100000 in
theorem dvstate_any (n : Nat) (d : DNet) (s : St) (u us : Value) (w : World) (h : IsDn n (Lt w.heap.size) w u d) (hs : IsSt (Lt w.heap.size) w us s) (hl : d.vars.length ≤ 1000000) :
    Calls Tryz.prog 41 #[u, us] w fun e w' => e = .returned (.bool (vstateB d s)) ∧ Below w.heap.size w w' := by
  have h0 := h
  have hs0 := hs
  obtain ⟨At, ct, Ax, cx, iv, Ag, cg, Aw, cw, rfl, _, _, _, _, _, ⟨t1, t2⟩, ⟨x1, x2⟩, ⟨g1, g2⟩, v1, v2⟩ := h.open_
  obtain ⟨Am, cm, Av, cv, rfl, _, _, ⟨t3, t4⟩, t5, t6⟩ := hs.open_
  clear h hs
  have hb0 := bone w (.cells #[.int .i64 d.net.places, .slice At d.net.trans.length ct, .int .i64 d.net.source, .int .i64 d.net.sink, .slice Ax d.vars.length cx, iv, .slice Ag d.guards.length cg, .slice Aw d.writes.length cw] 30)
  have hb := bbox hb0 (.cells #[.slice Am s.marks.length cm, .slice Av s.vals.length cv] 33)
  have hB := (Blk.new w 30 #[.int .i64 d.net.places, .slice At d.net.trans.length ct, .int .i64 d.net.source, .int .i64 d.net.sink, .slice Ax d.vars.length cx, iv, .slice Ag d.guards.length cg, .slice Aw d.writes.length cw]).alloc (.cells #[.slice Am s.marks.length cm, .slice Av s.vals.length cv] 33)
  have hC := Blk.new_at (t := 33) (cs := #[.slice Am s.marks.length cm, .slice Av s.vals.length cv]) (w := w.alloc (.cells #[.int .i64 d.net.places, .slice At d.net.trans.length ct, .int .i64 d.net.source, .int .i64 d.net.sink, .slice Ax d.vars.length cx, iv, .slice Ag d.guards.length cg, .slice Aw d.writes.length cw] 30)) (s := w.heap.size + 1) (by simp)
  have hn1 := h0.now hb
  have hs1 := hs0.now hb
  clear h0 hs0 hb0
  have HD : Hid (vstateB d s = (dvalidB d && stateB d s)) := rfl
  go_enter Tryz.func41, Tryz.ntmps41
  go_upto_region 1 with fail
  generalize hw1e : (w.alloc (.cells #[.int .i64 d.net.places, .slice At d.net.trans.length ct, .int .i64 d.net.source, .int .i64 d.net.sink, .slice Ax d.vars.length cx, iv, .slice Ag d.guards.length cg, .slice Aw d.writes.length cw] 30)).alloc (.cells #[.slice Am s.marks.length cm, .slice Av s.vals.length cv] 33) = w1 at *
  clear hw1e
  obtain ⟨q0, q1, q2, q3, q4, q5, q6, q7⟩ := hB.c8
  obtain ⟨y0, y1⟩ := hC.c2
  go_wp2_with fail
  refine (dvalid_any n d _ _ hn1 hl).mono ?_
  rintro e w2 ⟨rfl, hb2⟩
  have hbw2 := bthen hb hb2
  have hB2 := hB.now hb2
  have hC2 := hC.now hb2
  have hn2 := hn1.now hb2
  have hs2 := hs1.now hb2
  clear q0 q1 q2 q3 q4 q5 q6 q7 y0 y1 hB hC hn1 hs1 hb2
  obtain ⟨q0, q1, q2, q3, q4, q5, q6, q7⟩ := hB2.c8
  obtain ⟨y0, y1⟩ := hC2.c2
  generalize dvalidB d = q at *
  cases q
  · have HR : Hid (vstateB d s = false) := HD.out
    go_wp2_with fail
    go_ret
    exact ⟨ret_bool HR.out.symm, hbw2⟩
  · have HR : Hid (vstateB d s = stateB d s) := HD.out
    go_wp2_with fail
    refine (dstate_any n d s _ _ _ hn2 hs2 hl).mono ?_
    rintro e w3 ⟨rfl, hb3⟩
    go_wp2_with fail
    go_ret
    exact ⟨ret_bool HR.out.symm, bthen hbw2 hb3⟩
theorem Blk.set2 {w : World} {g : Nat} {t : TypeId} {a b : Value} (h : Blk w g t #[a, b]) (x y : Value) :
    Blk ((w.setCell ⟨g, 0, none⟩ x).setCell ⟨g, 1, none⟩ y) g t #[x, y] := by
  have := (h.set_ 0 x).set_ 1 y
  exact this
theorem bset2 {w w1 : World} {g : Nat} (h : Below w.heap.size w w1) (hg : w.heap.size ≤ g) (x y : Value) :
    Below w.heap.size w ((w1.setCell ⟨g, 0, none⟩ x).setCell ⟨g, 1, none⟩ y) :=
  (h.setCell (p := ⟨g, 0, none⟩) hg x).setCell (p := ⟨g, 1, none⟩) hg y
def RetSt (s : St) (c : Int) (w : World) (e : Ending) (w' : World) : Prop := ∃ u, e = .returned (.tuple #[u, .int .i64 c]) ∧ IsSt (Lt w'.heap.size) w' u s ∧ Below w.heap.size w w'
def dinitE (d : DNet) : St × Int := if dvalidB d then (⟨oneB d.net d.net.source, d.init⟩, 0) else (noSt, 1)
theorem noSt_is (D : Nat → Prop) (w : World) : IsSt D w (.agg #[.slice none 0 0, .slice none 0 0]) noSt := ⟨_, _, rfl, Sl.none_, Sl.none_⟩
theorem dvalid_parts {d : DNet} (h : dvalidB d = true) : validB d.net = true ∧ asgB d.vars d.init = true ∧ d.guards.length = d.net.trans.length ∧ d.writes.length = d.net.trans.length ∧ (d.guards.all fun x => typedB d.vars x 1) = true ∧ d.writes.all (wrsB d.vars (-1)) = true := by
  unfold dvalidB at h
  simp only [Bool.and_eq_true, decide_eq_true_eq] at h
  obtain ⟨⟨⟨⟨⟨a, b⟩, c⟩, e⟩, f⟩, g⟩ := h
  exact ⟨a, b, c, e, f, g⟩
theorem asg_len {vs : List Var} {vals : List Val} (h : asgB vs vals = true) : vals.length = vs.length := by
  unfold asgB inAllE at h
  by_cases ho : okB vs vals = true
  · rw [if_pos ho] at h
    by_cases hl : vals.length = vs.length
    · exact hl
    · rw [assigned_len hl] at h; simp at h
  · rw [if_neg ho] at h; simp at h
theorem Sl.past {α : Type} {size : Nat} {R : ElemR α} {D : Nat → Prop} {w : World} {v : Value} {xs : List α} {g : Nat} {t : TypeId} {a b : Option Addr} {i j k l : Nat}
    (hR : ∀ D D' w x cs, R D w x cs → R D' w x cs) (hI : ∀ D w x cs, R D w x cs → ∃ z, cs[0]? = some (.int .i64 z)) (h : Sl size R D w v xs) (hg : Blk w g t #[.slice a i j, .slice b k l]) : Sl size R (fun b => D b ∧ b ≠ g) w v xs := by
  obtain ⟨A, c, hv, h1, h2, h3⟩ := h
  refine ⟨A, c, hv, h1, h2, fun q x hx => ?_⟩
  obtain ⟨b, o, cs, hA, hD, hl, hr, hc⟩ := h3 q x hx
  refine ⟨b, o, cs, hA, ⟨hD, ?_⟩, hl, hR _ _ _ _ _ hr, hc⟩
  rintro rfl
  obtain ⟨z, hz⟩ := hI _ _ _ _ hr
  have h0 := hc 0 _ hz
  rw [hg.cell] at h0
  generalize o + q * size + 0 = m at h0
  match m, h0 with
  | 0, h0 => simp at h0
  | 1, h0 => simp at h0
  | m + 2, h0 => simp at h0
theorem same_set2 {w : World} {D : Nat → Prop} {g : Nat} (x y : Value) : Same (fun b => D b ∧ b ≠ g) w ((w.setCell ⟨g, 0, none⟩ x).setCell ⟨g, 1, none⟩ y) := fun b hb =>
  (Below.heap_setCell (w.setCell ⟨g, 0, none⟩ x) ⟨g, 1, none⟩ y b hb.2).trans (Below.heap_setCell w ⟨g, 0, none⟩ x b hb.2)
theorem lt_set2 {w : World} {g : Nat} (x y : Value) (b : Nat) (h : Lt w.heap.size b ∧ b ≠ g) : Lt ((w.setCell ⟨g, 0, none⟩ x).setCell ⟨g, 1, none⟩ y).heap.size b := by
  have e := same_set2 (w := w) (D := Lt w.heap.size) (g := g) x y b h
  have h1 : b < w.heap.size := h.1
  rw [Array.getElem?_eq_getElem h1] at e
  show b < _
  rcases Nat.lt_or_ge b ((w.setCell ⟨g, 0, none⟩ x).setCell ⟨g, 1, none⟩ y).heap.size with h2 | h2
  · exact h2
  · rw [Array.getElem?_eq_none h2] at e; cases e
theorem SlI.set2 {w : World} {g : Nat} {t : TypeId} {v : Value} {xs : List Int} {a b : Option Addr} {i j k l : Nat} (h : SlI (Lt w.heap.size) w v xs) (hg : Blk w g t #[.slice a i j, .slice b k l]) (x y : Value) :
    SlI (Lt ((w.setCell ⟨g, 0, none⟩ x).setCell ⟨g, 1, none⟩ y).heap.size) ((w.setCell ⟨g, 0, none⟩ x).setCell ⟨g, 1, none⟩ y) v xs :=
  Sl.keep (Sl.past (fun _ _ _ _ _ h => h) (fun _ _ z cs h => ⟨z, by rw [h.1]; rfl⟩) h hg) RInt.kept (lt_set2 x y) (same_set2 x y)
theorem SlV.set2 {w : World} {g : Nat} {t : TypeId} {v : Value} {xs : List Val} {a b : Option Addr} {i j k l : Nat} (h : SlV (Lt w.heap.size) w v xs) (hg : Blk w g t #[.slice a i j, .slice b k l]) (x y : Value) :
    SlV (Lt ((w.setCell ⟨g, 0, none⟩ x).setCell ⟨g, 1, none⟩ y).heap.size) ((w.setCell ⟨g, 0, none⟩ x).setCell ⟨g, 1, none⟩ y) v xs :=
  Sl.keep (Sl.past (fun _ _ _ _ _ h => h) (fun _ _ z cs h => ⟨z.kind, by rw [h.1]; rfl⟩) h hg) RVal.kept (lt_set2 x y) (same_set2 x y)
set_option maxHeartbeats 4000000 in
set_option maxRecDepth 100000 in
theorem dinit_any (n : Nat) (d : DNet) (u : Value) (w : World) (h : IsDn n (Lt w.heap.size) w u d) (hl : d.vars.length ≤ 1000000) :
    Calls Tryz.prog 22 #[u] w (RetSt (dinitE d).1 (dinitE d).2 w) := by
  have h0 := h
  obtain ⟨At, ct, Ax, cx, iv, Ag, cg, Aw, cw, rfl, h1, _, h3, _, _, ⟨t1, t2⟩, ⟨x1, x2⟩, ⟨g1, g2⟩, v1, v2⟩ := h.open_
  clear h
  have hb0 := bone w (.cells #[.int .i64 d.net.places, .slice At d.net.trans.length ct, .int .i64 d.net.source, .int .i64 d.net.sink, .slice Ax d.vars.length cx, iv, .slice Ag d.guards.length cg, .slice Aw d.writes.length cw] 30)
  have hb := bbox hb0 (.cells #[.slice none 0 0, .slice none 0 0] 33)
  have hB := (Blk.new w 30 #[.int .i64 d.net.places, .slice At d.net.trans.length ct, .int .i64 d.net.source, .int .i64 d.net.sink, .slice Ax d.vars.length cx, iv, .slice Ag d.guards.length cg, .slice Aw d.writes.length cw]).alloc (.cells #[.slice none 0 0, .slice none 0 0] 33)
  have hC := Blk.new_at (t := 33) (cs := #[.slice none 0 0, .slice none 0 0]) (w := w.alloc (.cells #[.int .i64 d.net.places, .slice At d.net.trans.length ct, .int .i64 d.net.source, .int .i64 d.net.sink, .slice Ax d.vars.length cx, iv, .slice Ag d.guards.length cg, .slice Aw d.writes.length cw] 30)) (s := w.heap.size + 1) (by simp)
  have hd1 := h0.now hb
  have hn1 := h1.now hb
  have hi1 := h3.now hb
  clear h0 h1 h3 hb0
  have HD : Hid (dinitE d = if dvalidB d then (⟨oneB d.net d.net.source, d.init⟩, 0) else (noSt, 1)) := rfl
  go_enter Tryz.func22, Tryz.ntmps22
  go_upto_region 1 with fail
  generalize hw1e : (w.alloc (.cells #[.int .i64 d.net.places, .slice At d.net.trans.length ct, .int .i64 d.net.source, .int .i64 d.net.sink, .slice Ax d.vars.length cx, iv, .slice Ag d.guards.length cg, .slice Aw d.writes.length cw] 30)).alloc (.cells #[.slice none 0 0, .slice none 0 0] 33) = w1 at *
  clear hw1e
  obtain ⟨q0, q1, q2, q3, q4, q5, q6, q7⟩ := hB.c8
  obtain ⟨y0, y1⟩ := hC.c2
  go_wp2_with fail
  refine (dvalid_any n d _ _ hd1 hl).mono ?_
  rintro e w2 ⟨rfl, hb2⟩
  have hbw2 := bthen hb hb2
  have hB2 := hB.now hb2
  have hC2 := hC.now hb2
  have hn2 := hn1.now hb2
  have hi2 := hi1.now hb2
  clear q0 q1 q2 q3 q4 q5 q6 q7 y0 y1 hB hC hn1 hi1 hd1 hb2
  obtain ⟨q0, q1, q2, q3, q4, q5, q6, q7⟩ := hB2.c8
  obtain ⟨y0, y1⟩ := hC2.c2
  cases hq : dvalidB d
  · have HR : Hid (dinitE d = (noSt, 1)) := by show _ = _; rw [HD.out, hq]; rfl
    clear hq
    have z0 := hC2.frozen 0
    have z1 := hC2.frozen 1
    go_wp2_with fail
    obtain ⟨t0, t1⟩ := (hC2.set2 (.slice none 0 0) (.slice none 0 0)).c2
    refine bodyPost_ret (v := .tuple #[.agg #[.slice none 0 0, .slice none 0 0], .int .i64 1]) (by simp [results, Tryz.results22, go_sem, t0, t1]) rfl ?_
    rw [HR.out]
    exact ⟨_, rfl, noSt_is _ _, bset2 hbw2 (by omega) _ _⟩
  · obtain ⟨p1, p2, _⟩ := dvalid_parts hq
    have HR : Hid (dinitE d = (⟨oneB d.net d.net.source, d.init⟩, 0)) := by show _ = _; rw [HD.out, hq]; rfl
    have HO : Hid (oneE d.net d.net.source = (oneB d.net d.net.source, 0)) := by show _ = _; unfold oneE; rw [p1]; rfl
    have HL := Lib.hid (asg_len p2)
    clear hq p1 p2
    go_wp2_with fail
    refine (initial_any d.net _ _ hn2).mono ?_
    rintro e w3 ⟨mv, rfl, hm, hb3⟩
    rw [HO.out] at hm ⊢
    dsimp only at hm ⊢
    generalize oneB d.net d.net.source = ms at *
    obtain ⟨Am, cm, rfl, m1, m2, hm⟩ := hm.open_
    have hbw3 := bthen hbw2 hb3
    have hB3 := hB2.now hb3
    have hC3 := hC2.now hb3
    have hi3 := hi2.now hb3
    clear q0 q1 q2 q3 q4 q5 q6 q7 y0 y1 hB2 hC2 hn2 hi2 hb3
    obtain ⟨q0, q1, q2, q3, q4, q5, q6, q7⟩ := hB3.c8
    go_wp2_with fail
    refine (cloneV _ d.init _ hi3 (by have := HL.out; omega)).mono ?_
    rintro e w4 ⟨cv, rfl, hown, hb4⟩
    have hcv := hown.sl hi3.fits
    obtain ⟨Av, kv, rfl, k1, k2, hcv⟩ := hcv.open_
    have hbw4 := bthen hbw3 hb4
    have hC4 := hC3.now hb4
    have hm4 := hm.now hb4
    clear q0 q1 q2 q3 q4 q5 q6 q7 hB3 hC3 hb4 hown hi3 hm
    obtain ⟨y0, y1⟩ := hC4.c2
    have z0 := hC4.frozen 0
    have z1 := hC4.frozen 1
    go_wp2_with fail
    obtain ⟨t0, t1⟩ := (hC4.set2 (.slice Am ms.length cm) (.slice Av d.init.length kv)).c2
    refine bodyPost_ret (v := .tuple #[.agg #[.slice Am ms.length cm, .slice Av d.init.length kv], .int .i64 0]) (by simp [results, Tryz.results22, go_sem, t0, t1]) rfl ?_
    rw [HR.out]
    refine ⟨_, rfl, ⟨_, _, rfl, ?_, ?_⟩, bset2 hbw4 (by omega) _ _⟩
    · exact SlI.set2 hm4 hC4 _ _
    · exact SlV.set2 hcv hC4 _ _
theorem idxS_some {l : List St} {s : St} {k : Nat} (h : idxS l s = some k) : l[k]? = some s ∧ k < l.length := by
  unfold idxS at h
  rw [List.findIdx?_eq_some_iff_getElem] at h
  obtain ⟨h1, h2, _⟩ := h
  refine ⟨?_, h1⟩
  rw [List.getElem?_eq_getElem h1]
  simpa using h2
theorem idxS_none {l : List St} {s : St} (h : idxS l s = none) : s ∉ l := by
  unfold idxS at h
  rw [List.findIdx?_eq_none_iff] at h
  intro hs
  have := h s hs
  simp at this
structure DExt (p q : Sp) : Prop where
  st : p.states <+: q.states
  mv : p.moves <+: q.moves
  full : q.full = true → p.full = true
theorem DExt.refl (p : Sp) : DExt p p := ⟨List.prefix_refl _, List.prefix_refl _, fun h => h⟩
theorem DExt.trans {p q r : Sp} (h : DExt p q) (k : DExt q r) : DExt p r := ⟨h.st.trans k.st, h.mv.trans k.mv, fun e => h.full (k.full e)⟩
theorem pre_get {α : Type} {l m : List α} (h : l <+: m) {i : Nat} {x : α} (hx : l[i]? = some x) : m[i]? = some x := by
  obtain ⟨t, rfl⟩ := h
  have hi : i < l.length := by
    rcases Nat.lt_or_ge i l.length with h' | h'
    · exact h'
    · rw [List.getElem?_eq_none h'] at hx; cases hx
  rw [List.getElem?_append_left hi]; exact hx
theorem pre_back {α : Type} {l m : List α} (h : l <+: m) {i : Nat} {x : α} (hi : i < l.length) (hx : m[i]? = some x) : l[i]? = some x := by
  obtain ⟨t, rfl⟩ := h
  rw [List.getElem?_append_left hi] at hx; exact hx
theorem lt_of_get {α : Type} {l : List α} {i : Nat} {x : α} (hx : l[i]? = some x) : i < l.length := by
  rcases Nat.lt_or_ge i l.length with h' | h'
  · exact h'
  · rw [List.getElem?_eq_none h'] at hx; cases hx
def MvOk (n : DNet) (l : List St) (m : Mv) : Prop := ∃ s s', l[m.src]? = some s ∧ l[m.dst]? = some s' ∧ fireD n s (m.sym : Int) = (s', 0)
structure DInv (n : DNet) (s0 : St) (most : Nat) (p : Sp) : Prop where
  ok : ∀ s ∈ p.states, stateB n s = true
  head : p.states[0]? = some s0
  le : p.states.length ≤ most
  mvl : p.moves.length ≤ 20000
  mv : ∀ m ∈ p.moves, MvOk n p.states m
  nodup : p.states.Nodup
  met : ∀ k, 0 < k → k < p.states.length → ∃ m, byM p.moves k = some m
theorem byM_some {mv : List Mv} {k : Nat} {m : Mv} (h : byM mv k = some m) : m ∈ mv ∧ m.dst = k ∧ m.src < k := by
  unfold byM at h
  have h1 := List.mem_of_find?_eq_some h
  have h2 := List.find?_some h
  simp only [Bool.and_eq_true, decide_eq_true_eq] at h2
  exact ⟨h1, h2.1, by omega⟩
theorem byM_app {a b : List Mv} {k : Nat} {m : Mv} (h : byM a k = some m) : byM (a ++ b) k = some m := by
  unfold byM at h ⊢
  rw [List.find?_append, h]; rfl
theorem byM_snoc {a : List Mv} {k : Nat} {m : Mv} (h1 : m.dst = k) (h2 : m.src < k) : ∃ m', byM (a ++ [m]) k = some m' := by
  cases h : byM a k with
  | some m' => exact ⟨m', byM_app h⟩
  | none =>
    unfold byM at h ⊢
    rw [List.find?_append, h]
    exact ⟨m, by simp [h1, h2]⟩
theorem MvOk.ext {n : DNet} {l l' : List St} {m : Mv} (h : MvOk n l m) (hp : l <+: l') : MvOk n l' m := by
  obtain ⟨s, s', h1, h2, h3⟩ := h
  exact ⟨s, s', pre_get hp h1, pre_get hp h2, h3⟩
theorem fire_eta {n : DNet} {s : St} {t : Int} (h : (fireD n s t).2 = 0) : fireD n s t = ((fireD n s t).1, 0) := by rw [← h]
section
variable {n : DNet} {s0 : St} {most i t : Nat} {s : St} {p q : Sp}
theorem exT_inv (hv : dvalidB n = true) (hp : DInv n s0 most p) (hi : p.states[i]? = some s) (h : exT n most i s t p = some q) : DInv n s0 most q ∧ DExt p q := by
  unfold exT at h
  split at h
  · injection h with h
    subst h
    exact ⟨⟨hp.ok, hp.head, hp.le, hp.mvl, hp.mv, hp.nodup, hp.met⟩, List.prefix_refl _, List.prefix_refl _, fun e => by simp only [Bool.and_eq_true] at e; exact e.1⟩
  · rename_i hc
    have hc : (fireD n s (t : Int)).2 = 0 := by simpa using hc
    have he := fire_eta hc
    split at h
    · rename_i k hk
      split at h
      · rename_i hl
        injection h with h
        subst h
        obtain ⟨k1, k2⟩ := idxS_some hk
        refine ⟨⟨hp.ok, hp.head, hp.le, by simp; omega, ?_, hp.nodup, fun j h1 h2 => ?_⟩, List.prefix_refl _, List.prefix_append _ _, fun e => e⟩
        · intro m hm
          rcases List.mem_append.1 hm with hm | hm
          · exact hp.mv m hm
          · rw [List.mem_singleton] at hm
            subst hm
            exact ⟨s, _, hi, k1, he⟩
        · obtain ⟨m, hm⟩ := hp.met j h1 h2
          exact ⟨m, byM_app hm⟩
      · cases h
    · rename_i hk
      split at h
      · rename_i hlt
        split at h
        · rename_i hl
          injection h with h
          subst h
          have hn := idxS_none hk
          have hs : stateB n s = true := hp.ok s (List.mem_of_getElem? hi)
          have hil := lt_of_get hi
          refine ⟨⟨?_, ?_, ?_, ?_, ?_, ?_, ?_⟩, List.prefix_append _ _, List.prefix_append _ _, fun e => e⟩
          · intro x hx
            rcases List.mem_append.1 hx with hx | hx
            · exact hp.ok x hx
            · rw [List.mem_singleton] at hx; subst hx; exact fire_state hv hs hc
          · exact pre_get (List.prefix_append _ _) hp.head
          · simp; omega
          · simp; omega
          · intro m hm
            rcases List.mem_append.1 hm with hm | hm
            · exact (hp.mv m hm).ext (List.prefix_append _ _)
            · rw [List.mem_singleton] at hm
              subst hm
              exact ⟨s, _, pre_get (List.prefix_append _ _) hi, by simp, he⟩
          · rw [List.nodup_append]
            refine ⟨hp.nodup, by simp, fun a ha b hb => ?_⟩
            rw [List.mem_singleton] at hb
            subst hb
            rintro rfl
            exact hn ha
          · intro j h1 h2
            dsimp only at h2 ⊢
            rw [List.length_append, List.length_singleton] at h2
            rcases Nat.lt_or_ge j p.states.length with h3 | h3
            · obtain ⟨m, hm⟩ := hp.met j h1 h3
              exact ⟨m, byM_app hm⟩
            · obtain rfl : j = p.states.length := by omega
              exact byM_snoc rfl hil
        · cases h
      · injection h with h
        subst h
        exact ⟨⟨hp.ok, hp.head, hp.le, hp.mvl, hp.mv, hp.nodup, hp.met⟩, List.prefix_refl _, List.prefix_refl _, fun e => by cases e⟩
theorem exRow_inv (hv : dvalidB n = true) : ∀ (f t : Nat) (p : Sp), DInv n s0 most p → p.states[i]? = some s → exRow n most i s f t p = some q → DInv n s0 most q ∧ DExt p q := by
  intro f
  induction f with
  | zero => intro t p hp _ h; injection h with h; subst h; exact ⟨hp, DExt.refl _⟩
  | succ f ih =>
    intro t p hp hi h
    rw [exRow, Option.bind_eq_some_iff] at h
    obtain ⟨r, h1, h2⟩ := h
    obtain ⟨a, b⟩ := exT_inv hv hp hi h1
    obtain ⟨c, d⟩ := ih (t + 1) r a (pre_get b.st hi) h2
    exact ⟨c, b.trans d⟩
theorem exAll_inv (hv : dvalidB n = true) : ∀ (f i : Nat) (p : Sp), DInv n s0 most p → exAll n most f i p = some q → DInv n s0 most q ∧ DExt p q := by
  intro f
  induction f with
  | zero => intro i p hp h; injection h with h; subst h; exact ⟨hp, DExt.refl _⟩
  | succ f ih =>
    intro i p hp h
    rw [exAll] at h
    split at h
    · injection h with h; subst h; exact ⟨hp, DExt.refl _⟩
    · rename_i s hs
      rw [Option.bind_eq_some_iff] at h
      obtain ⟨r, h1, h2⟩ := h
      obtain ⟨a, b⟩ := exRow_inv hv _ 0 p hp hs h1
      obtain ⟨c, d⟩ := ih (i + 1) r a h2
      exact ⟨c, b.trans d⟩
theorem exFrom_inv (hv : dvalidB n = true) (hs : stateB n s0 = true) (hm : 1 ≤ most) (h : exFrom n s0 most = some q) : DInv n s0 most q := by
  refine (exAll_inv hv _ _ _ ⟨?_, rfl, hm, by simp, fun m hm => ?_, by simp, fun k h1 h2 => ?_⟩ h).1
  · intro x hx; rw [List.mem_singleton] at hx; subst hx; exact hs
  · simp at hm
  · simp at h2; omega
def DShut (n : DNet) (p : Sp) (i t : Nat) : Prop := ∀ j u s, (j < i ∨ (j = i ∧ u < t)) → u < n.net.trans.length → p.states[j]? = some s → p.full = true →
  (fireD n s (u : Int)).2 ≠ 5 ∧ ((fireD n s (u : Int)).2 = 0 → ∃ k, (⟨j, k, u⟩ : Mv) ∈ p.moves ∧ p.states[k]? = some (fireD n s (u : Int)).1)
theorem DShut.ext (h : DShut n p i t) (hi : i < p.states.length) (he : DExt p q) : DShut n q i t := by
  intro j u s hj hu hs hf
  have hjl : j < p.states.length := by omega
  obtain ⟨a, b⟩ := h j u s hj hu (pre_back he.st hjl hs) (he.full hf)
  refine ⟨a, fun e => ?_⟩
  obtain ⟨k, k1, k2⟩ := b e
  exact ⟨k, he.mv.subset k1, pre_get he.st k2⟩
theorem exT_shut (hv : dvalidB n = true) (hp : DInv n s0 most p) (hi : p.states[i]? = some s) (h0 : DShut n p i t) (h : exT n most i s t p = some q) : DShut n q i (t + 1) := by
  have hX := (exT_inv hv hp hi h).2
  have h1 := h0.ext (lt_of_get hi) hX
  intro j u x hj hu hs hf
  by_cases hlt : j < i ∨ (j = i ∧ u < t)
  · exact h1 j u x hlt hu hs hf
  · have : j = i ∧ u = t := by omega
    obtain ⟨rfl, rfl⟩ := this
    have hx := pre_get hX.st hi
    rw [hx] at hs
    injection hs with hs
    subst hs
    unfold exT at h
    split at h
    · rename_i hc
      injection h with h
      subst h
      simp only [Bool.and_eq_true, decide_eq_true_eq] at hf
      exact ⟨hf.2, fun e => absurd e hc⟩
    · rename_i hc
      have hc : (fireD n s (u : Int)).2 = 0 := by simpa using hc
      refine ⟨by omega, fun _ => ?_⟩
      split at h
      · rename_i k hk
        split at h
        · injection h with h
          subst h
          exact ⟨k, by simp, (idxS_some hk).1⟩
        · cases h
      · split at h
        · split at h
          · injection h with h
            subst h
            exact ⟨p.states.length, by simp, by simp⟩
          · cases h
        · injection h with h
          subst h
          cases hf
theorem exRow_shut (hv : dvalidB n = true) : ∀ (f t : Nat) (p : Sp), DInv n s0 most p → p.states[i]? = some s → DShut n p i t → exRow n most i s f t p = some q → DShut n q i (t + f) := by
  intro f
  induction f with
  | zero => intro t p hp _ h0 h; injection h with h; subst h; exact h0
  | succ f ih =>
    intro t p hp hi h0 h
    rw [exRow, Option.bind_eq_some_iff] at h
    obtain ⟨r, h1, h2⟩ := h
    obtain ⟨a, b⟩ := exT_inv hv hp hi h1
    have := ih (t + 1) r a (pre_get b.st hi) (exT_shut hv hp hi h0 h1) h2
    rwa [show t + 1 + f = t + (f + 1) by omega] at this
theorem DShut.next (h : DShut n p i n.net.trans.length) : DShut n p (i + 1) 0 := by
  intro j u s hj hu hs hf
  exact h j u s (by omega) hu hs hf
theorem exAll_shut (hv : dvalidB n = true) : ∀ (f i : Nat) (p : Sp), DInv n s0 most p → most < f + i → DShut n p i 0 → exAll n most f i p = some q → DShut n q q.states.length 0 := by
  intro f
  induction f with
  | zero =>
    intro i p hp hm h0 h
    injection h with h
    subst h
    intro j u s hj hu hs hf
    have := hp.le
    exact h0 j u s (by omega) hu hs hf
  | succ f ih =>
    intro i p hp hm h0 h
    rw [exAll] at h
    split at h
    · rename_i hs
      injection h with h
      subst h
      have := List.getElem?_eq_none_iff.1 hs
      intro j u s hj hu hs hf
      exact h0 j u s (by omega) hu hs hf
    · rename_i s hs
      rw [Option.bind_eq_some_iff] at h
      obtain ⟨r, h1, h2⟩ := h
      obtain ⟨a, b⟩ := exRow_inv hv _ 0 p hp hs h1
      have := exRow_shut hv _ 0 p hp hs h0 h1
      rw [Nat.zero_add] at this
      exact ih (i + 1) r a (by omega) this.next h2
theorem exFrom_shut (hv : dvalidB n = true) (hs : stateB n s0 = true) (hm : 1 ≤ most) (h : exFrom n s0 most = some q) : DShut n q q.states.length 0 := by
  refine exAll_shut hv _ _ _ (s0 := s0) ⟨?_, rfl, hm, by simp, fun m hm => ?_, by simp, fun k h1 h2 => ?_⟩ (by omega) ?_ h
  · intro x hx; rw [List.mem_singleton] at hx; subst hx; exact hs
  · simp at hm
  · simp at h2; omega
  · intro j u s hj; omega
end
section
variable {mv : List Mv}
theorem canStep_len (c : List Bool) : (canStep mv c).length = c.length := by unfold canStep; simp
theorem canStep_get (c : List Bool) {i : Nat} (hi : i < c.length) : (canStep mv c).getD i false = (c.getD i false || mv.any fun m => decide (m.src = i) && c.getD m.dst false) := by
  unfold canStep
  rw [List.getD_eq_getElem?_getD, List.getElem?_map, List.getElem?_range hi]; rfl
theorem canIter_len : ∀ (k : Nat) (c : List Bool), (canIter mv k c).length = c.length
  | 0, c => rfl
  | k + 1, c => by rw [canIter, canIter_len k, canStep_len]
theorem count_lt : ∀ (c d : List Bool), c.length = d.length → (∀ i, c.getD i false = true → d.getD i false = true) → c ≠ d → c.count true < d.count true
  | [], [], _, _, h => absurd rfl h
  | [], _ :: _, h, _, _ => by simp at h
  | _ :: _, [], h, _, _ => by simp at h
  | a :: c, b :: d, hl, hle, hne => by
    have hle' : ∀ i, c.getD i false = true → d.getD i false = true := fun i hi => by simpa using hle (i + 1) (by simpa using hi)
    have h0 : a = true → b = true := fun e => by simpa using hle 0 (by simpa using e)
    have hl' : c.length = d.length := by simpa using hl
    by_cases hcd : c = d
    · subst hcd
      cases a <;> cases b
      · exact absurd rfl hne
      · simp
      · simp at h0
      · exact absurd rfl hne
    · have := count_lt c d hl' hle' hcd
      cases a <;> cases b
      · simpa using this
      · simp; omega
      · simp at h0
      · simpa using this
theorem canIter_fix {c : List Bool} (h : canStep mv c = c) : ∀ k, canIter mv k c = c
  | 0 => rfl
  | k + 1 => by rw [canIter, h, canIter_fix h k]
theorem canStep_ge (c : List Bool) : ∀ i, c.getD i false = true → (canStep mv c).getD i false = true := by
  intro i hi
  have hl : i < c.length := by
    rcases Nat.lt_or_ge i c.length with h' | h'
    · exact h'
    · rw [List.getD_eq_getElem?_getD, List.getElem?_eq_none h'] at hi; cases hi
  rw [canStep_get c hl, hi]; rfl
theorem canIter_cnt : ∀ (k : Nat) (c : List Bool), canStep mv (canIter mv k c) = canIter mv k c ∨ c.count true + k ≤ (canIter mv k c).count true
  | 0, c => .inr (by rw [canIter]; omega)
  | k + 1, c => by
    by_cases h : canStep mv c = c
    · rw [canIter_fix h]; exact .inl h
    · have h1 := count_lt c (canStep mv c) (canStep_len c).symm (canStep_ge c) (fun e => h e.symm)
      rw [canIter]
      rcases canIter_cnt k (canStep mv c) with h2 | h2
      · exact .inl h2
      · exact .inr (by omega)
theorem canIter_done (c : List Bool) : canStep mv (canIter mv c.length c) = canIter mv c.length c := by
  rcases canIter_cnt (mv := mv) c.length c with h | h
  · exact h
  · have hle : (canIter mv c.length c).count true ≤ c.length := by
      have := List.count_le_length (a := true) (l := canIter mv c.length c)
      rwa [canIter_len] at this
    have h0 : c.count true = 0 := by omega
    have hc : c = List.replicate c.length false := by
      rw [List.eq_replicate_iff]
      refine ⟨rfl, fun b hb => ?_⟩
      cases b
      · rfl
      · exact absurd hb (List.count_eq_zero.1 h0)
    have hf : ∀ i, c.getD i false = false := fun i => by
      rw [hc, List.getD_eq_getElem?_getD, List.getElem?_replicate]
      split <;> rfl
    have hs : canStep mv c = c := by
      refine List.ext_getElem? fun i => ?_
      rcases Nat.lt_or_ge i c.length with hi | hi
      · have h1 := canStep_get (mv := mv) c hi
        have h2 : (mv.any fun m => decide (m.src = i) && c.getD m.dst false) = false := by
          rw [List.any_eq_false]
          intro m _
          rw [hf]; simp
        rw [h2, hf] at h1
        have hi' : i < (canStep mv c).length := by rw [canStep_len]; exact hi
        have h3 := hf i
        rw [List.getD_eq_getElem?_getD, List.getElem?_eq_getElem hi'] at h1
        rw [List.getD_eq_getElem?_getD, List.getElem?_eq_getElem hi] at h3
        rw [List.getElem?_eq_getElem hi, List.getElem?_eq_getElem hi']
        simp only [Option.getD_some, Bool.or_false] at h1 h3
        rw [h1, h3]
      · rw [List.getElem?_eq_none hi, List.getElem?_eq_none (by rw [canStep_len]; exact hi)]
    rw [canIter_fix hs]
    exact hs
inductive CanR (mv : List Mv) (fin : Nat → Prop) : Nat → Prop where
  | here {i : Nat} (h : fin i) : CanR mv fin i
  | go {m : Mv} (hm : m ∈ mv) (h : CanR mv fin m.dst) : CanR mv fin m.src
theorem canIter_sound {fin : Nat → Prop} : ∀ (k : Nat) (c : List Bool), (∀ i, c.getD i false = true → CanR mv fin i) → ∀ i, (canIter mv k c).getD i false = true → CanR mv fin i
  | 0, c, h, i, hi => h i hi
  | k + 1, c, h, i, hi => by
    rw [canIter] at hi
    refine canIter_sound k (canStep mv c) (fun j hj => ?_) i hi
    have hl : j < c.length := by
      rcases Nat.lt_or_ge j c.length with h' | h'
      · exact h'
      · rw [List.getD_eq_getElem?_getD, List.getElem?_eq_none (by rw [canStep_len]; exact h')] at hj; cases hj
    rw [canStep_get c hl, Bool.or_eq_true] at hj
    rcases hj with hj | hj
    · exact h j hj
    · rw [List.any_eq_true] at hj
      obtain ⟨m, hm, hj⟩ := hj
      simp only [Bool.and_eq_true, decide_eq_true_eq] at hj
      obtain ⟨rfl, hj⟩ := hj
      exact .go hm (h _ hj)
theorem canIter_ge : ∀ (k : Nat) (c : List Bool) (i : Nat), c.getD i false = true → (canIter mv k c).getD i false = true
  | 0, _, _, h => h
  | k + 1, c, i, h => canIter_ge k (canStep mv c) i (canStep_ge c i h)
theorem can_iff {fin : Nat → Prop} {c : List Bool} (hc : ∀ i, i < c.length → (c.getD i false = true ↔ fin i)) (hf : ∀ i, fin i → i < c.length) (hm : ∀ m ∈ mv, m.src < c.length) (i : Nat) :
    (canIter mv c.length c).getD i false = true ↔ CanR mv fin i := by
  constructor
  · refine canIter_sound _ _ (fun j hj => ?_) i
    have hl : j < c.length := by
      rcases Nat.lt_or_ge j c.length with h' | h'
      · exact h'
      · rw [List.getD_eq_getElem?_getD, List.getElem?_eq_none h'] at hj; cases hj
    exact .here ((hc j hl).1 hj)
  · intro h
    induction h with
    | here h => exact canIter_ge _ _ _ ((hc _ (hf _ h)).2 h)
    | @go m hm' _ ih =>
      have hd := canIter_done (mv := mv) c
      have hl : m.src < (canIter mv c.length c).length := by rw [canIter_len]; exact hm m hm'
      have := canStep_get (mv := mv) (canIter mv c.length c) hl
      rw [hd] at this
      rw [this, Bool.or_eq_true]
      refine .inr ?_
      rw [List.any_eq_true]
      exact ⟨m, hm', by rw [ih]; simp⟩
end
def CanF (n : DNet) (p : Sp) : Nat → Prop := CanR p.moves fun j => ∃ s, p.states[j]? = some s ∧ finalM n s.marks = true
theorem good_iff {n : DNet} {p : Sp} (hm : ∀ m ∈ p.moves, m.src < p.states.length) (i : Nat) : (goodL n p).getD i false = true ↔ CanF n p i := by
  have hl : (p.states.map fun s => finalM n s.marks).length = p.states.length := by simp
  have := can_iff (mv := p.moves) (c := p.states.map fun s => finalM n s.marks) (fin := fun j => ∃ s, p.states[j]? = some s ∧ finalM n s.marks = true) (fun j hj => by
    rw [hl] at hj
    rw [List.getD_eq_getElem?_getD, List.getElem?_map, List.getElem?_eq_getElem hj]
    simp) (fun j ⟨s, h, _⟩ => by rw [hl]; exact lt_of_get h) (fun m h => by rw [hl]; exact hm m h) i
  rw [hl] at this
  exact this
theorem goodL_len (n : DNet) (p : Sp) : (goodL n p).length = p.states.length := by unfold goodL; rw [canIter_len]; simp
def Off (X : Nat → Prop) (w : World) (v : Value) (b : Nat) : Prop := b < w.heap.size ∧ v.ownBlock ≠ some b ∧ ¬ X b
def OwnR {α : Type} (size : Nat) (R : ElemR α) (X : Nat → Prop) (w : World) (base t : Nat) (v : Value) (xs : List α) : Prop :=
  ∃ cs, w.ownsRow base t size v xs.length cs ∧ ∀ (i : Nat) (x : α), xs[i]? = some x → ∃ es : List Value, es.length = size ∧ (∀ j u, es[j]? = some u → cs[i * size + j]? = some u) ∧ R (Off X w v) w x es
section
variable {α : Type} {size : Nat} {R : ElemR α} {X : Nat → Prop} {w w' : World} {base t : Nat} {v v' : Value} {xs : List α}
theorem OwnR.nil : OwnR size R X w base t (.slice none 0 0) ([] : List α) := ⟨[], World.ownsRow_nil _ _ _ _, fun i x hx => by simp at hx⟩
theorem OwnR.lt (h : OwnR size R X w base t v xs) : ∀ g, v.ownBlock = some g → base ≤ g ∧ g < w.heap.size := by
  obtain ⟨cs, h, _⟩ := h
  exact h.lt
theorem OwnR.sl (h : OwnR size R X w base t v xs) (hR : ElemR.Kept R) : Sl size R (Lt w.heap.size) w v xs := by
  obtain ⟨cs, h, he⟩ := h
  refine Sl.of_own h rfl (own_lt h) fun i x hx => ?_
  obtain ⟨es, h1, h2, h3⟩ := he i x hx
  exact ⟨es, h1, h2, hR _ _ _ _ _ _ (fun b hb => hb.1) (Same.refl _ _) h3⟩
theorem OwnR.open_ (h : OwnR size R X w base t v xs) : ∃ A c, v = .slice A xs.length c := by
  obtain ⟨cs, h, _⟩ := h
  rcases h.2 with ⟨rfl, h0⟩ | ⟨g, cap, cur, rfl, _⟩
  · exact ⟨none, 0, by rw [h0]⟩
  · exact ⟨_, _, rfl⟩
theorem OwnR.grown {row : Option Nat} (h : OwnR size R X w base t v xs) (hR : ElemR.Kept R) (hb : w.grownBy w' row) (hr : ∀ g, row = some g → X g ∧ v.ownBlock ≠ some g) : OwnR size R X w' base t v xs := by
  obtain ⟨cs, h, he⟩ := h
  refine ⟨cs, h.kept hb ?_, fun i x hx => ?_⟩
  · cases e : v.ownBlock with
    | none => exact .inl rfl
    | some g => exact .inr (fun h' => (hr g h'.symm).2 e)
  · obtain ⟨es, h1, h2, h3⟩ := he i x hx
    refine ⟨es, h1, h2, hR _ _ _ _ _ _ (fun b hb' => ⟨Nat.lt_of_lt_of_le hb'.1 hb.size, hb'.2⟩) (fun b hb' => hb.block b hb'.1 ?_) h3⟩
    exact fun e => hb'.2.2 (hr b e.symm).1
theorem OwnR.now (h : OwnR size R X w base t v xs) (hR : ElemR.Kept R) (hb : Below w.heap.size w w') : OwnR size R X w' base t v xs :=
  h.grown hR (grown_of_below hb none) (fun _ e => by cases e)
theorem OwnR.drewN (h : OwnR size R X w base t v xs) (hR : ElemR.Kept R) (q : Nat) : OwnR size R X (w.drewN q) base t v xs := h.now hR (bdrawn (Below.refl _ _) q)
theorem OwnR.far (h : OwnR size R X w base t v xs) (hR : ElemR.Kept R) {p : Addr} (hX : X p.block) (hv : v.ownBlock ≠ some p.block) (u : Value) : OwnR size R X (w.setCell p u) base t v xs :=
  h.grown hR (row := some p.block) ⟨rfl, rfl, rfl, by simp, fun i _ hne => Below.heap_setCell w p u i (fun e => hne (by rw [e]))⟩ (fun g e => by injection e with e; subst e; exact ⟨hX, hv⟩)
theorem OwnR.pushed {x : α} {es cs : List Value} (h : w.ownsRow base t size v xs.length cs) (he : ∀ (i : Nat) (x : α), xs[i]? = some x → ∃ es : List Value, es.length = size ∧ (∀ j u, es[j]? = some u → cs[i * size + j]? = some u) ∧ R (Off X w v) w x es)
    (hR : ElemR.Kept R) (hl : es.length = size) (hx : R (Off X w v) w x es)
    (ho : w'.ownsRow base t size v' (xs.length + 1) (cs ++ es)) (hg : w.grownBy w' v.ownBlock) (hat : v'.ownBlock = v.ownBlock ∨ v'.ownBlock = some (w.heap.size + 1)) : OwnR size R X w' base t v' (xs ++ [x]) := by
  have keep : ∀ y cs, R (Off X w v) w y cs → R (Off X w' v') w' y cs := fun y cs hy =>
    hR _ _ _ _ _ _ (fun b hb => ⟨Nat.lt_of_lt_of_le hb.1 hg.size, (by rcases hat with e | e
                                                                      · rw [e]; exact hb.2.1
                                                                      · rw [e]; intro e'; injection e' with e'; have := hb.1; omega), hb.2.2⟩)
      (fun b hb => hg.block b hb.1 (fun e => hb.2.1 e.symm)) hy
  refine ⟨cs ++ es, by simpa using ho, fun i y hy => ?_⟩
  rcases Nat.lt_or_ge i xs.length with hi | hi
  · rw [List.getElem?_append_left hi] at hy
    obtain ⟨es', h1, h2, h3⟩ := he i y hy
    refine ⟨es', h1, fun j u hu => ?_, keep _ _ h3⟩
    have := h2 j u hu
    rw [List.getElem?_append_left]
    · exact this
    · rcases Nat.lt_or_ge (i * size + j) cs.length with h' | h'
      · exact h'
      · rw [List.getElem?_eq_none h'] at this; cases this
  · rw [List.getElem?_append_right hi] at hy
    have hi0 : i - xs.length = 0 := by
      rcases Nat.eq_zero_or_pos (i - xs.length) with h' | h'
      · exact h'
      · rw [List.getElem?_eq_none (by simpa using Nat.succ_le_of_lt h')] at hy; cases hy
    rw [hi0] at hy
    injection hy with hy
    subst hy
    obtain rfl : i = xs.length := by omega
    refine ⟨es, hl, fun j u hu => ?_, keep _ _ hx⟩
    have hc : cs.length = xs.length * size := h.1
    rw [List.getElem?_append_right (by omega), hc, Nat.add_sub_cancel_left]
    exact hu
end
section
variable {P : Program} {t e size base : Nat} {α : Type} {R : ElemR α} {X : Nat → Prop}
theorem wp_pushR {o : Oper} {a : Act} {K : Act → World → Prop} {Q : Exit → Act → World → Prop} (hI : AppInfo P t e size) (hR : ElemR.Kept R) (s x : Operand)
    (ho : o.op = .call { callee := .builtin .append, args := #[s, x], argTypes := #[t, t] }) (w0 : World) (es : List Value) (hes : es.length = size) (h1 : ∀ u ∈ es, u.oneCell' = true)
    (v : Value) (xs : List α) (y : α) (hs : a.eval s = v) (hown : OwnR size R X w0 base e v xs) (hy : R (Off X w0 v) w0 y es) (hx : a.eval x = .slice (some ⟨w0.heap.size, 0, none⟩) 1 1) (hn : xs.length < 10000000) (hbase : base ≤ w0.heap.size)
    (h : ∀ v' w', OwnR size R X w' base e v' (xs ++ [y]) → w0.grownBy w' v.ownBlock → (v'.ownBlock = v.ownBlock ∨ v'.ownBlock = some (w0.heap.size + 1)) → K (a.put o.dst v') w') : o.wp P a (w0.alloc (.cells es.toArray e)) K Q := by
  obtain ⟨cs, h2, h3⟩ := hown
  exact wp_push hI s x ho w0 es hes h1 v xs.length cs hs h2 hx hn hbase fun v' w' a1 a2 a3 => h v' w' (OwnR.pushed h2 h3 hR hes hy a1 a2 a3) a2 a3
theorem wpList_pushR {ops : Array Oper} {rest : List Oper} {o : Oper} {a : Act} {Q : Exit → Act → World → Prop} (hI : AppInfo P t e size) (hR : ElemR.Kept R) (hgd : o.guard = none) (s x : Operand)
    (ho : o.op = .call { callee := .builtin .append, args := #[s, x], argTypes := #[t, t] }) (w0 : World) (es : List Value) (hes : es.length = size) (h1 : ∀ u ∈ es, u.oneCell' = true)
    (v : Value) (xs : List α) (y : α) (hs : a.eval s = v) (hown : OwnR size R X w0 base e v xs) (hy : R (Off X w0 v) w0 y es) (hx : a.eval x = .slice (some ⟨w0.heap.size, 0, none⟩) 1 1) (hn : xs.length < 10000000) (hbase : base ≤ w0.heap.size)
    (h : ∀ v' w', OwnR size R X w' base e v' (xs ++ [y]) → w0.grownBy w' v.ownBlock → (v'.ownBlock = v.ownBlock ∨ v'.ownBlock = some (w0.heap.size + 1)) → wpList P ops Q rest (a.put o.dst v') w') : wpList P ops Q (o :: rest) a (w0.alloc (.cells es.toArray e)) :=
  wpList_plain hgd fun _ hK => wp_pushR hI hR s x ho w0 es hes h1 v xs y hs hown hy hx hn hbase fun v' w' h2 h3 h4 => hK _ _ (h v' w' h2 h3 h4)
end
end Go.Proofs.YtlmenhjlgmejkaaGreatDoor
