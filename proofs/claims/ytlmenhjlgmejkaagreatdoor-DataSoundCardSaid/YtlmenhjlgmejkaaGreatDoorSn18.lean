/- Merged texts. -/
import Derived.Test.YtlmenhjlgmejkaaGreatDoorSn17
set_option linter.all false
namespace Go.Proofs.YtlmenhjlgmejkaaGreatDoor
open Go.RowKit
set_option maxHeartbeats 4000000 in
set_option maxRecDepth 100000 in
theorem finalM_any (n : Nat) (d : DNet) (m : List Int) (u mv : Value) (w : World) (h : IsDn n (Lt w.heap.size) w u d) (hm : SlI (Lt w.heap.size) w mv m) :
  Calls Tryz.prog 71 #[u, mv] w fun e w' => e = .returned (.bool (finalM d m)) ∧ Below w.heap.size w w' := by
 obtain ⟨At, ct, Ax, cx, iv, Ag, cg, Aw, cw, rfl, dn1, dn2, dn3, dn4, dn5, ⟨t1, t2⟩, ⟨x1, x2⟩, ⟨g1, g2⟩, v1, v2⟩ := h.open_
 clear h
 have hb := bone w (.cells #[.int .i64 d.net.places, .slice At d.net.trans.length ct, .int .i64 d.net.source, .int .i64 d.net.sink, .slice Ax d.vars.length cx, iv, .slice Ag d.guards.length cg, .slice Aw d.writes.length cw] 30)
 have hB := Blk.new w 30 #[.int .i64 d.net.places, .slice At d.net.trans.length ct, .int .i64 d.net.source, .int .i64 d.net.sink, .slice Ax d.vars.length cx, iv, .slice Ag d.guards.length cg, .slice Aw d.writes.length cw]
 have hn1 := dn1.now hb
 have hm1 := hm.now hb
 clear dn1 dn2 dn3 dn4 dn5 hm
 have HFM : Hid (finalM d m = (validB d.net && decide (oneB d.net d.net.sink = m))) := rfl
 have HO : Hid (oneE d.net d.net.sink = if validB d.net = false then ([], 1) else (oneB d.net d.net.sink, 0)) := rfl
 go_enter Tryz.func71, Tryz.ntmps71
 go_upto_region 1 with fail
 generalize hw1e : w.alloc (.cells #[.int .i64 d.net.places, .slice At d.net.trans.length ct, .int .i64 d.net.source, .int .i64 d.net.sink, .slice Ax d.vars.length cx, iv, .slice Ag d.guards.length cg, .slice Aw d.writes.length cw] 30) = w1 at *
 clear hw1e
 obtain ⟨q0, q1, q2, q3, q4, q5, q6, q7⟩ := hB.c8
 have HC := Lib.hid (final_any d.net _ w1 hn1)
 go_wp2_with fail
 refine HC.out.mono ?_
 rintro e w2 ⟨fv, rfl, hf, hb2⟩
 clear HC q0 q1 q2 q3 q4 q5 q6 q7
 have hbw2 := bthen hb hb2
 have hm2 := hm1.now hb2
 clear hn1 hm1 hB hb2
 cases hv : validB d.net
 ·have HR : Hid (finalM d m = false) := by show _ = _; rw [HFM.out, hv]; rfl
  rw [HO.out, if_pos hv]
  clear hv
  dsimp only
  go_wp2_with fail
  go_ret
  exact ⟨ret_bool HR.out.symm, hbw2⟩
 ·have HR : Hid (finalM d m = (oneB d.net d.net.sink == m)) := by show _ = _; rw [HFM.out, hv, Bool.true_and, Bool.eq_iff_iff]; simp
  rw [HO.out, if_neg (by rw [hv]; simp)] at hf ⊢
  clear hv
  dsimp only at hf ⊢
  have HC := Lib.hid (equalI fv mv (oneB d.net d.net.sink) m w2 hf hm2)
  generalize oneB d.net d.net.sink = o at *
  go_wp2_with fail
  refine HC.out.mono ?_
  rintro e w3 ⟨rfl, q, rfl⟩
  go_wp2_with fail
  go_ret
  exact ⟨ret_bool HR.out.symm, below_drewQ hbw2 q⟩
def RetStKE (s : St) (k c : Int) (w : World) (e : Ending) (w' : World) : Prop := ∃ u, e = .returned (.tuple #[u, .int .i64 k, .int .i64 c]) ∧ IsSt (Lt w'.heap.size) w' u s ∧ Below w.heap.size w w'
theorem drun_end (d : DNet) (s : St) (l : List Int) : drunFrom d s (l.drop l.length) l.length = (s, l.length, 0) := by rw [List.drop_eq_nil_of_le (Nat.le_refl _)]; rfl
theorem drun_drop {d : DNet} {s : St} {l : List Int} {j : Nat} {t : Int} (h : l[j]? = some t) : drunFrom d s (l.drop j) j = if (fireD d s t).2 ≠ 0 then (noSt, j, (fireD d s t).2) else drunFrom d (fireD d s t).1 (l.drop (j + 1)) (j + 1) := by
 rw [drop_cons h, drunFrom]
theorem cloneI_grown (v : Value) (zs : List Int) (wd W : World) (h : SlI (Lt wd.heap.size) wd v zs) (hb : Below wd.heap.size wd W) (hz : zs.length ≤ 1000) :
  Calls Tryz.prog 64 #[v] W fun e w' => ∃ A c, e = .returned (.slice A zs.length c) ∧ SlI (Fr wd.heap.size w') w' (.slice A zs.length c) zs ∧ Below wd.heap.size wd w' ∧ Below W.heap.size W w' := by
 refine (cloneI v zs W (h.now hb) (by omega)).mono ?_
 rintro e w' ⟨v', rfl, ho, hb'⟩
 have h1 : SlI (Fr wd.heap.size w') w' v' zs :=
  Sl.of_own1 ho (by simp) (fun g hg => by have := ho.lt g hg; have := hb.size; exact ⟨by omega, by omega⟩) fun i x hx => ⟨.int .i64 x, by simp [hx], rfl, h.fits x (List.mem_of_getElem? hx)⟩
 obtain ⟨A, c, rfl, _, _, h1⟩ := Sl.open_ h1
 exact ⟨A, c, rfl, h1, bthen hb hb', hb'⟩
theorem cloneV_grown (v : Value) (zs : List Val) (wd W : World) (h : SlV (Lt wd.heap.size) wd v zs) (hb : Below wd.heap.size wd W) (hz : zs.length ≤ 1000) :
  Calls Tryz.prog 65 #[v] W fun e w' => ∃ A c, e = .returned (.slice A zs.length c) ∧ SlV (Fr wd.heap.size w') w' (.slice A zs.length c) zs ∧ Below wd.heap.size wd w' ∧ Below W.heap.size W w' := by
 refine (cloneV v zs W (h.now hb) (by omega)).mono ?_
 rintro e w' ⟨v', rfl, ho, hb'⟩
 have h1 : SlV (Fr wd.heap.size w') w' v' zs := OwnV.fresh ho hb.size h.fits
 obtain ⟨A, c, rfl, _, _, h1⟩ := Sl.open_ h1
 exact ⟨A, c, rfl, h1, bthen hb hb', hb'⟩
set_option maxHeartbeats 16000000 in
set_option maxRecDepth 100000 in
theorem drun_any (n : Nat) (d : DNet) (s : St) (l : List Int) (u us lv : Value) (w : World) (h : IsDn n (Lt w.heap.size) w u d) (hs : IsSt (Lt w.heap.size) w us s) (hll : SlI (Lt w.heap.size) w lv l) (hl : d.vars.length ≤ 1000000) :
  Calls Tryz.prog 14 #[u, us, lv] w (RetStKE (drunB d s l).1 ((drunB d s l).2.1 : Int) (drunB d s l).2.2 w) := by
 have h0 := h
 have hs0 := hs
 obtain ⟨At, ct, Ax, cx, iv, Ag, cg, Aw, cw, rfl, dn1, dn2, dn3, dn4, dn5, ⟨t1, t2⟩, ⟨x1, x2⟩, ⟨g1, g2⟩, v1, v2⟩ := h.open_
 obtain ⟨Am, cm, Av, cv, rfl, s1, s2, ⟨t3, t4⟩, t5, t6⟩ := hs.open_
 obtain ⟨Al, cl, rfl, l1, l2, hll⟩ := hll.open_
 clear h hs dn1 dn2 dn3 dn4 dn5
 have hb0 := bone w (.cells #[.int .i64 d.net.places, .slice At d.net.trans.length ct, .int .i64 d.net.source, .int .i64 d.net.sink, .slice Ax d.vars.length cx, iv, .slice Ag d.guards.length cg, .slice Aw d.writes.length cw] 30)
 have hb1 := bbox hb0 (.cells #[.slice Am s.marks.length cm, .slice Av s.vals.length cv] 33)
 have hb := bbox hb1 (.cells #[.slice none 0 0, .slice none 0 0] 33)
 have hB := ((Blk.new w 30 #[.int .i64 d.net.places, .slice At d.net.trans.length ct, .int .i64 d.net.source, .int .i64 d.net.sink, .slice Ax d.vars.length cx, iv, .slice Ag d.guards.length cg, .slice Aw d.writes.length cw]).alloc (.cells #[.slice Am s.marks.length cm, .slice Av s.vals.length cv] 33)).alloc (.cells #[.slice none 0 0, .slice none 0 0] 33)
 have hC := (Blk.new_at (t := 33) (cs := #[.slice Am s.marks.length cm, .slice Av s.vals.length cv]) (w := w.alloc (.cells #[.int .i64 d.net.places, .slice At d.net.trans.length ct, .int .i64 d.net.source, .int .i64 d.net.sink, .slice Ax d.vars.length cx, iv, .slice Ag d.guards.length cg, .slice Aw d.writes.length cw] 30)) (s := w.heap.size + 1) (by simp)).alloc (.cells #[.slice none 0 0, .slice none 0 0] 33)
 have hZ := Blk.new_at (t := 33) (cs := #[.slice none 0 0, .slice none 0 0]) (w := (w.alloc (.cells #[.int .i64 d.net.places, .slice At d.net.trans.length ct, .int .i64 d.net.source, .int .i64 d.net.sink, .slice Ax d.vars.length cx, iv, .slice Ag d.guards.length cg, .slice Aw d.writes.length cw] 30)).alloc (.cells #[.slice Am s.marks.length cm, .slice Av s.vals.length cv] 33)) (s := w.heap.size + 1 + 1) (by simp)
 have hd1 := h0.now hb
 have hs1 := hs0.now hb
 have hm1 := s1.now hb
 have hv1 := s2.now hb
 clear hs0 hb0 hb1 s1 s2
 have HD : Hid (drunB d s l = if vstateB d s = false then (noSt, 0, 1) else if 1000 < l.length then (noSt, 0, 5) else drunFrom d s l 0) := rfl
 go_enter Tryz.func14, Tryz.ntmps14
 go_upto_region 1 with fail
 generalize hw1e : ((w.alloc (.cells #[.int .i64 d.net.places, .slice At d.net.trans.length ct, .int .i64 d.net.source, .int .i64 d.net.sink, .slice Ax d.vars.length cx, iv, .slice Ag d.guards.length cg, .slice Aw d.writes.length cw] 30)).alloc (.cells #[.slice Am s.marks.length cm, .slice Av s.vals.length cv] 33)).alloc (.cells #[.slice none 0 0, .slice none 0 0] 33) = w1 at *
 clear hw1e
 obtain ⟨q0, q1, q2, q3, q4, q5, q6, q7⟩ := hB.c8
 obtain ⟨y0, y1⟩ := hC.c2
 go_wp2_with fail
 refine (dvstate_any n d s _ _ _ hd1 hs1 hl).mono ?_
 rintro e w2 ⟨rfl, hb2⟩
 have hbw2 := bthen hb hb2
 have hB2 := hB.now hb2
 have hC2 := hC.now hb2
 have hZ2 := hZ.now hb2
 have hm2 := hm1.now hb2
 have hv2 := hv1.now hb2
 clear q0 q1 q2 q3 q4 q5 q6 q7 y0 y1 hB hC hZ hd1 hs1 hm1 hv1 hb2
 cases hq : vstateB d s
 ·have HR : Hid (drunB d s l = (noSt, 0, 1)) := by show _ = _; rw [HD.out, if_pos hq]
  clear hq
  obtain ⟨zz0, zz1⟩ := hZ2.c2
  have z0 := hZ2.frozen 0
  have z1 := hZ2.frozen 1
  go_wp2_with fail
  obtain ⟨r0, r1⟩ := (hZ2.set2 (.slice none 0 0) (.slice none 0 0)).c2
  refine bodyPost_ret (v := .tuple #[.agg #[.slice none 0 0, .slice none 0 0], .int .i64 0, .int .i64 1]) (by simp [results, Tryz.results14, go_sem, r0, r1]) rfl ?_
  rw [HR.out]
  exact ⟨_, rfl, noSt_is _ _, bset2 hbw2 (by omega) _ _⟩
 by_cases hlen : 1000 < l.length
 ·have HR : Hid (drunB d s l = (noSt, 0, 5)) := by show _ = _; rw [HD.out, if_neg (by rw [hq]; simp), if_pos hlen]
  clear hq
  obtain ⟨zz0, zz1⟩ := hZ2.c2
  have z0 := hZ2.frozen 0
  have z1 := hZ2.frozen 1
  go_wp2_with fail
  obtain ⟨r0, r1⟩ := (hZ2.set2 (.slice none 0 0) (.slice none 0 0)).c2
  refine bodyPost_ret (v := .tuple #[.agg #[.slice none 0 0, .slice none 0 0], .int .i64 0, .int .i64 5]) (by simp [results, Tryz.results14, go_sem, r0, r1]) rfl ?_
  rw [HR.out]
  exact ⟨_, rfl, noSt_is _ _, bset2 hbw2 (by omega) _ _⟩
 have HR : Hid (drunB d s l = drunFrom d s l 0) := by show _ = _; rw [HD.out, if_neg (by rw [hq]; simp), if_neg hlen]
 have HV := Lib.hid hq
 have hmb : s.marks.length ≤ 1000 := by
  have a := (validOk (state_parts (vstate_parts hq).2).1)
  have b := (markOk (n := d.net) (state_parts (vstate_parts hq).2).2.1).1
  omega
 have hvb : s.vals.length ≤ 1000 := by
  have a := (asg_parts (state_parts (vstate_parts hq).2).2.2)
  have b := a.1
  unfold varsB at b
  simp only [Bool.and_eq_true, decide_eq_true_eq] at b
  omega
 clear hq HD
 have hsz2 : w.heap.size + 3 ≤ w2.heap.size := by have := hZ2.lt; omega
 have HCI : Hid (∀ W, Below w2.heap.size w2 W → Calls Tryz.prog 64 #[.slice Am s.marks.length cm] W fun e w' => ∃ A c, e = .returned (.slice A s.marks.length c) ∧ SlI (Fr w2.heap.size w') w' (.slice A s.marks.length c) s.marks ∧ Below w2.heap.size w2 w' ∧ Below W.heap.size W w') := fun W hW => cloneI_grown _ s.marks w2 W hm2 hW hmb
 have HCV : Hid (∀ W, Below w2.heap.size w2 W → Calls Tryz.prog 65 #[.slice Av s.vals.length cv] W fun e w' => ∃ A c, e = .returned (.slice A s.vals.length c) ∧ SlV (Fr w2.heap.size w') w' (.slice A s.vals.length c) s.vals ∧ Below w2.heap.size w2 w' ∧ Below W.heap.size W w') := fun W hW => cloneV_grown _ s.vals w2 W hv2 hW hvb
 have HS : Hid (∀ W, Below w2.heap.size w2 W → W.cell? ⟨w.heap.size + 1, 0, none⟩ = some (.slice Am s.marks.length cm) ∧ W.cell? ⟨w.heap.size + 1, 1, none⟩ = some (.slice Av s.vals.length cv)) := fun W hW => (hC2.now hW).c2
 have hbd : Below w2.heap.size w2 w2.drew := (Below.refl _ _).drew
 obtain ⟨e0, e1⟩ := HS.out _ hbd
 clear hm2 hv2
 go_upto_region 5 with fail
 refine wp_region_held_tail 7 (fun W => W.cell? ⟨w.heap.size + 1, 0, none⟩ = some (.slice Am s.marks.length cm) ∧ W.cell? ⟨w.heap.size + 1, 1, none⟩ = some (.slice Av s.vals.length cv)) (by kernel_rfl) (by kernel_rfl) ⟨e0, e1⟩ (fun hHeld => ?_)
 simp only [List.take_succ_cons, List.take_zero]
 refine takeL (v := ?v0) 0 rfl (by kernel_rfl) (by kernel_rfl) (by kernel_rfl) (fun _ _ _ h => h) rfl ?hy0 hHeld ?rest0
 case hy0 => (intro W hW; obtain ⟨k0, k1⟩ := hW; go_simp <;> rfl)
 simp only [Act.put, List.setIfInBounds_toArray, List.set_cons_zero, List.set_cons_succ]
 refine takeL (v := ?v1) 1 rfl (by kernel_rfl) (by kernel_rfl) (by kernel_rfl) (fun _ _ _ h => h) rfl ?hy1 hHeld ?rest1
 case hy1 => (intro W hW; obtain ⟨k0, k1⟩ := hW; go_simp <;> rfl)
 simp only [Act.put, List.setIfInBounds_toArray, List.set_cons_zero, List.set_cons_succ]
 refine takeL (v := ?v3) 3 rfl (by kernel_rfl) (by kernel_rfl) (by kernel_rfl) (fun _ _ _ h => h) rfl ?hy3 hHeld ?rest3
 case hy3 => (intro W hW; obtain ⟨k0, k1⟩ := hW; go_simp <;> rfl)
 simp only [Act.put, List.setIfInBounds_toArray, List.set_cons_zero, List.set_cons_succ]
 refine takeL (v := ?v4) 4 rfl (by kernel_rfl) (by kernel_rfl) (by kernel_rfl) (fun _ _ _ h => h) rfl ?hy4 hHeld ?rest4
 case hy4 => (intro W hW; obtain ⟨k0, k1⟩ := hW; go_simp <;> rfl)
 simp only [Act.put, List.setIfInBounds_toArray, List.set_cons_zero, List.set_cons_succ]
 refine onlyL 2 rfl rfl (by kernel_rfl) (fun K hK => ?_)
 go_simp
 refine (HCI.out _ hbd).mono ?_
 rintro e w3 ⟨Am3, cm3, rfl, hm3, hb3, _⟩
 refine hK.out _ _ (HS.out _ hb3) (fun hHeld => ?_)
 clear hK K
 refine onlyL 5 rfl rfl (by kernel_rfl) (fun K hK => ?_)
 go_simp
 refine (HCV.out _ hb3).mono ?_
 rintro e w4 ⟨Av3, cv3, rfl, hv3, hb4, hb34⟩
 refine hK.out _ _ (HS.out _ hb4) (fun hHeld => ?_)
 clear hK K
 refine takeL (v := ?v6) 6 rfl (by kernel_rfl) (by kernel_rfl) (by kernel_rfl) (fun _ _ _ h => h) rfl ?hy6 hHeld ?rest6
 case hy6 => (intro W hW; go_simp <;> rfl)
 simp only [Act.put, List.setIfInBounds_toArray, List.set_cons_zero, List.set_cons_succ]
 refine doneL (by kernel_rfl) ?_
 simp only [List.drop_succ_cons, List.drop_zero]
 have hm4 := hm3.nowF hb34
 have hB4 := hB2.now hb4
 have hC4 := hC2.now hb4
 have hZ4 := hZ2.now hb4
 have hbw4 := bthen hbw2 hb4
 clear HCI HCV HS hbd e0 e1 hm3 hb3 hb34 hHeld hB2 hC2 hZ2 hb4 hbw2
 obtain ⟨y0, y1⟩ := hC4.c2
 have z0 := hC4.frozen 0
 have z1 := hC4.frozen 1
 go_upto_region 6 with fail
 have hC5 := hC4.set2 (.slice Am3 s.marks.length cm3) (.slice Av3 s.vals.length cv3)
 have hB5 := (hB4.far (p := ⟨w.heap.size + 1, 0, none⟩) (by show w.heap.size ≠ w.heap.size + 1; omega) (.slice Am3 s.marks.length cm3)).far (p := ⟨w.heap.size + 1, 1, none⟩) (by show w.heap.size ≠ w.heap.size + 1; omega) (.slice Av3 s.vals.length cv3)
 have hZ5 := (hZ4.far (p := ⟨w.heap.size + 1, 0, none⟩) (by show w.heap.size + 1 + 1 ≠ w.heap.size + 1; omega) (.slice Am3 s.marks.length cm3)).far (p := ⟨w.heap.size + 1, 1, none⟩) (by show w.heap.size + 1 + 1 ≠ w.heap.size + 1; omega) (.slice Av3 s.vals.length cv3)
 have hm5 := (SlI.set2F hm4 hC4 (.slice Am3 s.marks.length cm3) (.slice Av3 s.vals.length cv3)).weak
 have hv5 := (SlV.set2F hv3 hC4 (.slice Am3 s.marks.length cm3) (.slice Av3 s.vals.length cv3)).weak
 have hbw5 := bset2 hbw4 (g := w.heap.size + 1) (by omega) (.slice Am3 s.marks.length cm3) (.slice Av3 s.vals.length cv3)
 generalize hw5 : (w4.setCell ⟨w.heap.size + 1, 0, none⟩ (.slice Am3 s.marks.length cm3)).setCell ⟨w.heap.size + 1, 1, none⟩ (.slice Av3 s.vals.length cv3) = w5 at *
 clear hw5 y0 y1 z0 z1 hC4 hB4 hZ4 hm4 hv3 hbw4
 go_wp2_with fail
 go_loopw [31] (fun i wr => ∃ (j : Nat) (cur : St) (Am cm Av cv : _), j ≤ l.length ∧ i = .int .i64 j ∧ drunFrom d s l 0 = drunFrom d cur (l.drop j) j ∧ vstateB d cur = true ∧ Blk wr (w.heap.size + 1) 33 #[.slice Am cur.marks.length cm, .slice Av cur.vals.length cv] ∧ SlI (Lt wr.heap.size) wr (.slice Am cur.marks.length cm) cur.marks ∧ SlV (Lt wr.heap.size) wr (.slice Av cur.vals.length cv) cur.vals ∧ Blk wr w.heap.size 30 #[.int .i64 d.net.places, .slice At d.net.trans.length ct, .int .i64 d.net.source, .int .i64 d.net.sink, .slice Ax d.vars.length cx, iv, .slice Ag d.guards.length cg, .slice Aw d.writes.length cw] ∧ Blk wr (w.heap.size + 1 + 1) 33 #[.slice none 0 0, .slice none 0 0] ∧ Below w.heap.size w wr) (fun i _ => l.length - (intOf i).toNat)
 case atStart => exact ⟨0, s, _, _, _, _, Nat.zero_le _, rfl, rfl, HV.out, hC5, hm5, hv5, hB5, hZ5, hbw5⟩
 case round =>
  obtain ⟨j, cur, Am, cm, Av, cv, hj, rfl, hrun, hvs, hCr, hmr, hvr, hBr, hZr, hbr⟩ := hrel
  have HRN := Lib.hid hrun
  have HVS := Lib.hid hvs
  clear hrun hvs hC5 hm5 hv5 hB5 hZ5 hbw5
  have hszr := hZr.lt
  obtain ⟨y0, y1⟩ := hCr.c2
  by_cases hlt : j < l.length
  rotate_left
  ·obtain rfl : j = l.length := by omega
   obtain ⟨zz0, zz1⟩ := hZr.c2
   have z0 := hZr.frozen 0
   have z1 := hZr.frozen 1
   go_wp2_with fail
   obtain ⟨r0, r1⟩ := (hZr.set2 (.slice Am cur.marks.length cm) (.slice Av cur.vals.length cv)).c2
   refine bodyPost_ret (v := .tuple #[.agg #[.slice Am cur.marks.length cm, .slice Av cur.vals.length cv], .int .i64 l.length, .int .i64 0]) (by simp [results, Tryz.results14, go_sem, r0, r1]) rfl ?_
   rw [HR.out, HRN.out, drun_end]
   refine ⟨_, rfl, ⟨_, _, rfl, ?_, ?_⟩, bset2 hbr (by omega) _ _⟩
   ·exact SlI.set2 hmr hZr _ _
   ·exact SlV.set2 hvr hZr _ _
  obtain ⟨b, o, t, rfl, hD, hx, hf, c0⟩ := (hll.now hbr).at_ hlt
  have HX := Lib.hid (drun_drop (d := d) (s := cur) hx)
  clear hx
  obtain ⟨q0, q1, q2, q3, q4, q5, q6, q7⟩ := hBr.c8
  have HF := Lib.hid (fire_one n d cur t _ _ wr (h0.now hbr) ⟨_, _, rfl, hmr, hvr⟩ HVS.out hl)
  have HKS : Hid ((fireD d cur t).2 = 0 → vstateB d (fireD d cur t).1 = true) := fun hc => by
   obtain ⟨p1, p2⟩ := vstate_parts HVS.out
   unfold vstateB
   rw [p1, fire_state p1 p2 hc]; rfl
  have i1 : (0 : Int) ≤ (j : Int) := by omega
  have i2 : (j : Int) < (l.length : Int) := by omega
  go_wp2_with fail
  refine HF.out.mono ?_
  rintro e w6 ⟨u6, rfl, hu6, hb6⟩
  clear HF q0 q1 q2 q3 q4 q5 q6 q7 y0 y1 c0
  generalize fireD d cur t = p at *
  obtain ⟨ps, pc⟩ := p
  dsimp only at *
  obtain ⟨Am2, cm2, Av2, cv2, rfl, m1, m2, _, _, _⟩ := hu6.weak.open_
  have hb7 := bone w6 (.cells #[.slice Am2 ps.marks.length cm2, .slice Av2 ps.vals.length cv2] 33)
  have hY := Blk.new w6 33 #[.slice Am2 ps.marks.length cm2, .slice Av2 ps.vals.length cv2]
  have hB7 := (hBr.now hb6).now hb7
  have hC7 := (hCr.now hb6).now hb7
  have hZ7 := (hZr.now hb6).now hb7
  have hm7 := m1.now hb7
  have hv7 := m2.now hb7
  have hbw7 := bthen (bthen hbr hb6) hb7
  have hszz : w.heap.size + 1 + 1 < w6.heap.size := by have := hb6.size; omega
  clear hBr hCr hZr hmr hvr m1 m2 hu6 hb6
  go_upto_region 10 with fail
  generalize hw7 : w6.alloc (.cells #[.slice Am2 ps.marks.length cm2, .slice Av2 ps.vals.length cv2] 33) = w7 at *
  clear hw7 hb7
  by_cases hpc : pc = 0
  rotate_left
  ·have HE : Hid (drunB d s l = (noSt, j, pc)) := by show _ = _; rw [HR.out, HRN.out, HX.out, if_pos hpc]
   have bpc : (pc != 0) = true := by simpa using hpc
   clear hpc
   obtain ⟨zz0, zz1⟩ := hZ7.c2
   have z0 := hZ7.frozen 0
   have z1 := hZ7.frozen 1
   go_wp2_with fail
   obtain ⟨r0, r1⟩ := (hZ7.set2 (.slice none 0 0) (.slice none 0 0)).c2
   refine bodyPost_ret (v := .tuple #[.agg #[.slice none 0 0, .slice none 0 0], .int .i64 j, .int .i64 pc]) (by simp [results, Tryz.results14, go_sem, r0, r1]) rfl ?_
   rw [HE.out]
   exact ⟨_, rfl, noSt_is _ _, bset2 hbw7 (by omega) _ _⟩
  ·subst hpc
   have HE : Hid (drunFrom d s l 0 = drunFrom d ps (l.drop (j + 1)) (j + 1)) := by show _ = _; rw [HRN.out, HX.out]; rfl
   obtain ⟨y0, y1⟩ := hC7.c2
   have z0 := hC7.frozen 0
   have z1 := hC7.frozen 1
   obtain ⟨u0, u1⟩ := hY.c2
   go_wp2_with fail
   have hC8 := hC7.set2 (.slice Am2 ps.marks.length cm2) (.slice Av2 ps.vals.length cv2)
   have hB8 := (hB7.far (p := ⟨w.heap.size + 1, 0, none⟩) (by show w.heap.size ≠ w.heap.size + 1; omega) (.slice Am2 ps.marks.length cm2)).far (p := ⟨w.heap.size + 1, 1, none⟩) (by show w.heap.size ≠ w.heap.size + 1; omega) (.slice Av2 ps.vals.length cv2)
   have hZ8 := (hZ7.far (p := ⟨w.heap.size + 1, 0, none⟩) (by show w.heap.size + 1 + 1 ≠ w.heap.size + 1; omega) (.slice Am2 ps.marks.length cm2)).far (p := ⟨w.heap.size + 1, 1, none⟩) (by show w.heap.size + 1 + 1 ≠ w.heap.size + 1; omega) (.slice Av2 ps.vals.length cv2)
   go_roundw
   case rel => exact ⟨j + 1, ps, _, _, _, _, by omega, by go_num, HE.out, HKS.out rfl, hC8, SlI.set2 hm7 hC7 _ _, SlV.set2 hv7 hC7 _ _, hB8, hZ8, bset2 hbw7 (by omega) _ _⟩
   case measure => simp [intOf]; omega
theorem keyM_snoc {m : List Int} {j : Nat} {z : Int} (h : m[j]? = some z) : keyM (m.take (j + 1)) = keyM (m.take j) ++ (itoaS z ++ ⟨#[32]⟩).data.toList := by
 have hj : j < m.length := by
  rcases Nat.lt_or_ge j m.length with h' | h'
  ·exact h'
  ·rw [List.getElem?_eq_none h'] at h; cases h
 rw [List.getElem?_eq_getElem hj] at h
 injection h with h
 rw [List.take_succ_eq_append_getElem hj, h]
 unfold keyM
 rw [List.flatMap_append]
 simp [itoaS]
theorem keyV_snoc {vs : List Val} {j : Nat} {z : Val} (h : vs[j]? = some z) : keyV (vs.take (j + 1)) = keyV (vs.take j) ++ ((textE z).1 ++ ⟨#[32]⟩).data.toList := by
 have hj : j < vs.length := by
  rcases Nat.lt_or_ge j vs.length with h' | h'
  ·exact h'
  ·rw [List.getElem?_eq_none h'] at h; cases h
 rw [List.getElem?_eq_getElem hj] at h
 injection h with h
 rw [List.take_succ_eq_append_getElem hj, h]
 unfold keyV
 rw [List.flatMap_append]
 simp
theorem itoaS_size {z : Int} (h : -1000000000000000000 < z ∧ z < 1000000000000000000) : (itoaS z).size ≤ 19 := itoa_length h.1 h.2
theorem textE_size {v : Val} : (textE v).1.size ≤ 1000 := by
 unfold textE
 split
 ·rename_i h
  cases kinds_of h with
  | no => show 5 ≤ _; omega
  | yes => show 4 ≤ _; omega
  | num n =>
   have h1 : numB n = true := (valid2 h rfl).1
   unfold numB at h1
   rw [decide_eq_true_eq] at h1
   have := itoaS_size (z := n) (by omega)
   show (itoaS n).size ≤ _
   omega
  | txt s =>
   have h1 := (text_size (valid3 h (show (3 : Int) ≠ 1 by decide) (show (3 : Int) ≠ 2 by decide)).2.2).1
   dsimp only at h1
   have := quote_size s
   show (quoteS s).size ≤ _
   omega
 ·show 0 ≤ _; omega
theorem keyM_len {m : List Int} (h : ∀ z ∈ m, -1000 ≤ z ∧ z ≤ 1000) : (keyM m).length ≤ 20 * m.length := by
 induction m with
 | nil => simp [keyM]
 | cons z m ih =>
  have h1 := itoaS_size (z := z) (by have := h z (by simp); omega)
  have h2 := ih (fun y hy => h y (by simp [hy]))
  have h3 : (Lib.itoa z).length = (itoaS z).size := rfl
  have : keyM (z :: m) = (Lib.itoa z ++ [32]) ++ keyM m := by unfold keyM; rw [List.flatMap_cons]
  rw [this, List.length_append, List.length_append, List.length_cons, List.length_cons, List.length_nil]
  omega
theorem keyV_len (vs : List Val) : (keyV vs).length ≤ 1001 * vs.length := by
 induction vs with
 | nil => simp [keyV]
 | cons z m ih =>
  have h1 := textE_size (v := z)
  have h3 : (textE z).1.data.toList.length = (textE z).1.size := size_list _
  have : keyV (z :: m) = ((textE z).1.data.toList ++ [32]) ++ keyV m := by unfold keyV; rw [List.flatMap_cons]
  rw [this, List.length_append, List.length_append, List.length_cons, List.length_cons, List.length_nil]
  omega
theorem itoa_any (n : Int) (w : World) (hf : Fit n) (ha : Amb w) : Calls Tryz.prog 114 #[.int .i64 n] w fun e w' => e = .returned (.string (itoaS n)) ∧ Below w.heap.size w w' :=
 (Tryz.strconv_Itoa n hf.1 hf.2 _ ha.tab).mono fun e w' ⟨he, kk, os, hw⟩ => ⟨he, by rw [hw]; exact bgrow w kk os⟩
def KeyPost (s : St) (w : World) (e : Ending) (w' : World) : Prop := e = .returned (.string ⟨(keyS s).toArray⟩) ∧ Below w.heap.size w w'
theorem size_blank (a : ByteArray) : (a ++ ⟨#[32]⟩).size = a.size + 1 := by
 rw [ByteArray.size_append]; rfl
set_option maxHeartbeats 4000000 in
set_option maxRecDepth 100000 in
theorem stKey_any (s : St) (us : Value) (w : World) (hs : IsSt (Lt w.heap.size) w us s) (ha : Amb w) (hml : s.marks.length ≤ 1000) (hvl : s.vals.length ≤ 1000) (hms : ∀ z ∈ s.marks, -1000 ≤ z ∧ z ≤ 1000) :
  Calls Tryz.prog 69 #[us] w (KeyPost s w) := by
 obtain ⟨Am, cm, Av, cv, rfl, s1, s2, ⟨t3, t4⟩, t5, t6⟩ := hs.open_
 clear hs
 have hb0 := bone w (.cells #[.slice Am s.marks.length cm, .slice Av s.vals.length cv] 33)
 have hb := bbox hb0 (.cells #[.pointer none, .slice none 0 0] 166)
 have hC := (Blk.new w 33 #[.slice Am s.marks.length cm, .slice Av s.vals.length cv]).alloc (.cells #[.pointer none, .slice none 0 0] 166)
 have hN := Blk.new_at (t := 166) (cs := #[.pointer none, .slice none 0 0]) (w := w.alloc (.cells #[.slice Am s.marks.length cm, .slice Av s.vals.length cv] 33)) (s := w.heap.size + 1) (by simp)
 have hS0 := Bld.new hN (Nat.le_refl _)
 have HMS := Lib.hid hms
 have HML := Lib.hid (keyM_len hms)
 have HVL := Lib.hid (keyV_len s.vals)
 have hcl := hN.lt
 clear hb0 hms hN
 go_enter Tryz.func69, Tryz.ntmps69
 go_upto_region 2 with fail
 generalize hw1e : (w.alloc (.cells #[.slice Am s.marks.length cm, .slice Av s.vals.length cv] 33)).alloc (.cells #[.pointer none, .slice none 0 0] 166) = w1 at *
 clear hw1e
 obtain ⟨y0, y1⟩ := hC.c2
 go_wp2_with fail
 clear y0 y1
 go_loopw [13] (fun i wr => ∃ j : Nat, j ≤ s.marks.length ∧ i = .int .i64 j ∧ Bld wr (w.heap.size + 1) (w.heap.size + 1) (keyM (s.marks.take j)) ∧ Below w.heap.size w wr ∧ Below (w.heap.size + 1) w1 wr) (fun i _ => s.marks.length - (intOf i).toNat)
 case atStart => exact ⟨0, Nat.zero_le _, rfl, hS0, hb, Below.refl _ _⟩
 case round =>
  obtain ⟨j, hj, rfl, hB, hbr, hb1r⟩ := hrel
  have hszr := hb1r.size
  by_cases hlt : j < s.marks.length
  ·obtain ⟨b, o, z, rfl, hD, hx, hf, c0⟩ := (s1.now hbr).at_ hlt
   have HN := Lib.hid (keyM_snoc hx)
   have hz := HMS.out z (List.mem_of_getElem? hx)
   have hle : (keyM (s.marks.take j)).length ≤ 20 * s.marks.length := by
    have h1 := keyM_len (m := s.marks.take j) (fun y hy => HMS.out y (List.mem_of_mem_take hy))
    rw [List.length_take] at h1
    omega
   have hsz := itoaS_size (z := z) (by omega)
   have hsb := size_blank (itoaS z)
   have HI := Lib.hid (itoa_any z wr hf (ha.now hbr))
   clear hx
   generalize hS : itoaS z = S at *
   generalize hL : keyM (s.marks.take j) = L at *
   have HS := Lib.hid hS
   have HSB := Lib.hid hsb
   clear hS hL hsb
   go_wp2_with fail
   refine HI.out.mono ?_
   rintro e w2 ⟨rfl, hb2⟩
   have hB2 := hB.now hb2
   have hs2 := hb2.size
   clear HI hB c0
   go_wp2_with fail
   have e1 : L.length + (S ++ ⟨#[32]⟩ : ByteArray).size ≤ 140737488355328 := by have := HSB.out; omega
   have e2 : w.heap.size + 1 ≤ w2.heap.size := by omega
   have HW := writeString_any (w.heap.size + 1) (w.heap.size + 1) L (S ++ ⟨#[32]⟩) w2 hB2 e1 e2
   refine HW.mono ?_
   clear HW e1
   rintro e w3 ⟨rfl, hB3, hb3, _⟩
   go_wp2_with fail
   go_roundw
   case rel => exact ⟨j + 1, by omega, by go_num, by rw [HN.out]; exact hB3, (bthen hbr hb2).trans (hb3.mono (by omega)), (hb1r.trans (hb2.mono (by omega))).trans hb3⟩
   case measure => simp [intOf]; omega
  ·obtain rfl : j = s.marks.length := by omega
   rw [List.take_of_length_le (Nat.le_refl _)] at hB
   have hCr : Blk wr w.heap.size 33 #[.slice Am s.marks.length cm, .slice Av s.vals.length cv] := hC.below hb1r (by omega)
   obtain ⟨y0, y1⟩ := hCr.c2
   go_wp2_with fail
   clear y0 y1
   obtain ⟨wo, hwo⟩ : ∃ z, z = wr := ⟨_, rfl⟩
   subst hwo
   go_loopw [25] (fun i wr => ∃ j : Nat, j ≤ s.vals.length ∧ i = .int .i64 j ∧ Bld wr (w.heap.size + 1) (w.heap.size + 1) (keyM s.marks ++ keyV (s.vals.take j)) ∧ Below w.heap.size w wr ∧ w.heap.size + 1 ≤ wr.heap.size) (fun i _ => s.vals.length - (intOf i).toNat)
   case atStart => exact ⟨0, Nat.zero_le _, rfl, by simpa [keyV] using hB, hbr, by omega⟩
   case round =>
    obtain ⟨j, hj, rfl, hB, hbr, hszq⟩ := hrel
    by_cases hlt : j < s.vals.length
    ·obtain ⟨b, o, z, rfl, hD, hx, hf, c0, c1, c2⟩ := (s2.now hbr).at_ hlt
     have HN := Lib.hid (keyV_snoc hx)
     have hle : (keyM s.marks ++ keyV (s.vals.take j)).length ≤ 20 * s.marks.length + 1001 * s.vals.length := by
      have h1 := keyV_len (s.vals.take j)
      rw [List.length_take] at h1
      have h2 := HML.out
      rw [List.length_append]
      omega
     have hsz := textE_size (v := z)
     have hsb := size_blank (textE z).1
     have hb2 := bone wr (.cells #[.int .i64 z.kind, .int .i64 z.n, .string z.s] 63)
     have hV := Blk.new wr 63 #[.int .i64 z.kind, .int .i64 z.n, .string z.s]
     have HI := Lib.hid (textE_any z (wr.alloc (.cells #[.int .i64 z.kind, .int .i64 z.n, .string z.s] 63)) hf ((ha.now hbr).now hb2))
     unfold valV at HI
     clear hx
     have HL : Hid (keyM s.marks ++ keyV (s.vals.take (j + 1)) = (keyM s.marks ++ keyV (s.vals.take j)) ++ ((textE z).1 ++ ⟨#[32]⟩).data.toList) := by show _ = _; rw [HN.out, List.append_assoc]
     have hB2 := hB.now hb2
     have hbw2 := bthen hbr hb2
     have hsz2 := hb2.size
     clear hB
     go_upto_region 10 with fail
     generalize wr.alloc (.cells #[.int .i64 z.kind, .int .i64 z.n, .string z.s] 63) = w2 at *
     obtain ⟨z0, z1, z2⟩ := hV.c3
     generalize textE z = tz at *
     obtain ⟨S, sc⟩ := tz
     dsimp only at *
     generalize hLL : keyM s.marks ++ keyV (s.vals.take j) = L at *
     have HSB := Lib.hid hsb
     clear hLL hsb HN c0 c1 c2
     go_wp2_with fail
     refine HI.out.mono ?_
     rintro e w3 ⟨rfl, hb3⟩
     have hB3 := hB2.now hb3
     have hsz3 := hb3.size
     clear HI hB2 z0 z1 z2
     go_wp2_with fail
     have e1 : L.length + (S ++ ⟨#[32]⟩ : ByteArray).size ≤ 140737488355328 := by have := HSB.out; omega
     have e2 : w.heap.size + 1 ≤ w3.heap.size := by omega
     have HW := writeString_any (w.heap.size + 1) (w.heap.size + 1) L (S ++ ⟨#[32]⟩) w3 hB3 e1 e2
     refine HW.mono ?_
     clear HW e1
     rintro e w4 ⟨rfl, hB4, hb4, _⟩
     have hsz4 := hb4.size
     go_wp2_with fail
     go_roundw
     case rel => exact ⟨j + 1, by omega, by go_num, by rw [HL.out]; exact hB4, (bthen hbw2 hb3).trans (hb4.mono (by omega)), by omega⟩
     case measure => simp [intOf]; omega
    ·obtain rfl : j = s.vals.length := by omega
     rw [List.take_of_length_le (Nat.le_refl _)] at hB
     have HK : Hid (keyM s.marks ++ keyV s.vals = keyS s) := rfl
     generalize keyM s.marks ++ keyV s.vals = L at *
     go_wp2_with fail
     refine (string_any (w.heap.size + 1) (w.heap.size + 1) L _ hB hszq).mono ?_
     rintro e w3 ⟨rfl, hB3, hb3, _⟩
     go_wp2_with fail
     go_ret
     refine ⟨?_, hbr.trans (hb3.mono (by omega))⟩
     rw [← HK.out]; rfl
def cellsM (m : Mv) : List Value := [.int .i64 (m.src : Int), .int .i64 (m.dst : Int), .int .i64 (m.sym : Int)]
theorem cellsM_len (m : Mv) : (cellsM m).length = 3 := rfl
theorem cellsM_one (m : Mv) : ∀ u ∈ cellsM m, u.oneCell' = true := by intro u hu; simp [cellsM] at hu; rcases hu with rfl | rfl | rfl <;> rfl
def SmallM (m : Mv) : Prop := m.src < 1000000 ∧ m.dst < 1000000 ∧ m.sym < 1000000
def RMv : ElemR Mv := fun _ _ m cs => cs = [.int .i64 (m.src : Int), .int .i64 (m.dst : Int), .int .i64 (m.sym : Int)] ∧ SmallM m
theorem RMv.kept : ElemR.Kept RMv := fun _ _ _ _ _ _ _ _ h => h
def SlM := Sl 3 RMv
def OwnM (w : World) (base : Nat) (v : Value) (ms : List Mv) : Prop := OwnW 3 cellsM w base 73 v ms
theorem appMvs : AppInfo Tryz.prog 45 73 3 := AppInfo.mk' (z := .agg #[.int .i64 0, .int .i64 0, .int .i64 0]) (bytes := 24) Tryz.underlying45 (by kernel_rfl) (by decide) rfl (by decide)
theorem appSts : AppInfo Tryz.prog 44 33 2 := AppInfo.mk' (z := .agg #[.slice none 0 0, .slice none 0 0]) (bytes := 48) Tryz.underlying44 (by kernel_rfl) (by decide) rfl (by decide)
section
variable {w w' : World} {base : Nat} {v : Value} {ms : List Mv}
theorem OwnM.now (h : OwnM w base v ms) (hb : Below w.heap.size w w') : OwnM w' base v ms := OwnW.now h hb
theorem OwnM.sl (h : OwnM w base v ms) (hf : ∀ m ∈ ms, SmallM m) : SlM (Lt w.heap.size) w v ms := OwnW.sl h cellsM_len fun _ _ m hm => ⟨rfl, hf m hm⟩
theorem OwnM.kept {row : Option Nat} (h : OwnM w base v ms) (hg : w.grownBy w' row) (hne : ∀ g, row = some g → v.ownBlock ≠ some g) : OwnM w' base v ms := by
 refine World.ownsRow.kept h hg ?_
 cases e : v.ownBlock with
 | none => exact .inl rfl
 | some g => exact .inr (fun h' => hne g h'.symm e)
theorem OwnM.lt (h : OwnM w base v ms) : ∀ g, v.ownBlock = some g → base ≤ g ∧ g < w.heap.size := World.ownsRow.lt h
theorem OwnM.form (h : OwnM w base v ms) : ∃ A c, v = .slice A ms.length c := by
 rcases h.2 with ⟨rfl, h0⟩ | ⟨g, cap, cur, rfl, _⟩
 ·exact ⟨none, 0, by rw [h0]⟩
 ·exact ⟨_, _, rfl⟩
end
theorem own_apart {w : World} {b1 b2 e1 e2 s1 s2 n1 n2 : Nat} {v1 v2 : Value} {c1 c2 : List Value} (h1 : w.ownsRow b1 e1 s1 v1 n1 c1) (h2 : w.ownsRow b2 e2 s2 v2 n2 c2) (he : e1 ≠ e2) {g : Nat} (hg : v1.ownBlock = some g) : v2.ownBlock ≠ some g := by
 intro hg2
 rcases h1.2 with ⟨rfl, _⟩ | ⟨g1, cap, cur, rfl, _, hh1, _⟩
 ·simp [Value.ownBlock] at hg
 rcases h2.2 with ⟨rfl, _⟩ | ⟨g2, cap2, cur2, rfl, _, hh2, _⟩
 ·simp [Value.ownBlock] at hg2
 simp only [Value.ownBlock, Option.some.injEq] at hg hg2
 subst hg
 subst hg2
 rw [hh1] at hh2
 simp only [Option.some.injEq, Obj.cells.injEq] at hh2
 exact he hh2.2.1
theorem own_map_apart {w : World} {b1 e1 s1 n1 g n : Nat} {v1 : Value} {c1 : List Value} {P : Program} {k e : TypeId} {l : List (List UInt8)} (h1 : w.ownsRow b1 e1 s1 v1 n1 c1) (h2 : PosP P k e w g n l) : v1.ownBlock ≠ some g := by
 intro hg
 obtain ⟨D, ⟨es, clock, hb, _⟩, _⟩ := h2
 rcases h1.2 with ⟨rfl, _⟩ | ⟨g1, cap, cur, rfl, _, hh1, _⟩
 ·simp [Value.ownBlock] at hg
 simp only [Value.ownBlock, Option.some.injEq] at hg
 subst hg
 rw [hb] at hh1
 cases hh1
theorem PosP.ne {P : Program} {k e : TypeId} {w : World} {b n g t : Nat} {l : List (List UInt8)} {cs : Array Value} (h : PosP P k e w b n l) (hB : Blk w g t cs) : g ≠ b := by
 rintro rfl
 obtain ⟨D, ⟨es, clock, hb, _⟩, _⟩ := h
 unfold Blk at hB
 rw [hb] at hB
 cases hB
theorem OwnR.regrown {α : Type} {size : Nat} {R : ElemR α} {X X' : Nat → Prop} {w w' : World} {base t : Nat} {v : Value} {xs : List α} {row : Option Nat} (h : OwnR size R X w base t v xs) (hR : ElemR.Kept R) (hb : w.grownBy w' row)
  (hr : ∀ g, row = some g → X g ∧ v.ownBlock ≠ some g) (hX : ∀ b, X' b → X b ∨ w.heap.size ≤ b) : OwnR size R X' w' base t v xs := by
 obtain ⟨cs, h, he⟩ := h
 refine ⟨cs, h.kept hb ?_, fun i x hx => ?_⟩
 ·cases e : v.ownBlock with
  | none => exact .inl rfl
  | some g => exact .inr (fun h' => (hr g h'.symm).2 e)
 ·obtain ⟨es, h1, h2, h3⟩ := he i x hx
  refine ⟨es, h1, h2, hR _ _ _ _ _ _ (fun b hb' => ⟨Nat.lt_of_lt_of_le hb'.1 hb.size, hb'.2.1, fun hx' => ?_⟩) (fun b hb' => hb.block b hb'.1 ?_) h3⟩
  ·rcases hX b hx' with h4 | h4
   ·exact hb'.2.2 h4
   ·have := hb'.1; omega
  ·exact fun e => hb'.2.2 (hr b e.symm).1
def PosI := PosP Tryz.prog 9 3
theorem PosI.look {w : World} {b n : Nat} {l : List (List UInt8)} (h : PosI w b n l) {s : ByteArray} (hs : s.size ≤ maxLen) :
  ∃ c : Int, (Instr.lookup 128 (.map (some b)) (.string s) true).run Tryz.prog w = .ok (.tuple #[.int .i64 c, .bool (posB l s.data.toList).isSome]) w ∧ ∀ i, posB l s.data.toList = some i → c = i :=
 PosP.look h Tryz.underlying128 Tryz.underlying9 Tryz.underlying3 (by kernel_rfl) hs
theorem PosI.store {w : World} {ops : Array Oper} {rest : List Oper} {o : Oper} {a : Act} {Q : Exit → Act → World → Prop} {b n : Nat} {l : List (List UInt8)} {s : ByteArray} {z : Int}
  (h : PosI w b n l) (hs : s.size ≤ maxLen) (hn : n < maxLen) (hl : l.length < 10000000) (hp : posB l s.data.toList = none) (hz : z = l.length) (hg : o.guard = none) (m x v : Operand)
  (hop : o.op = Op.mapUpdate 128 m x v ∨ o.op = Op.insert 128 m x v)
  (hm : a.eval m = .map (some b)) (hx : a.eval x = .string s) (hv : a.eval v = .int .i64 z)
  (hK : ∀ w', PosI w' b (n + 1) (l ++ [s.data.toList]) → w.grownBy w' (some b) → wpList Tryz.prog ops Q rest (a.put o.dst undef) w') :
  wpList Tryz.prog ops Q (o :: rest) a w := by
 subst hz
 refine wpList_plain hg fun K' hK' => ?_
 obtain ⟨w', hrun, r1, r2⟩ := PosP.put h Tryz.underlying128 Tryz.underlying9 Tryz.underlying3 hs hn hl hp
 unfold Oper.wp
 rcases hop with hop | hop
 ·simp [execOp, hop, hm, hx, hv, hrun, Result.andThen]
  exact hK' _ _ (hK w' r1 r2)
 ·simp [execOp, hop, hm, hx, hv, hrun, Result.andThen]
  exact hK' _ _ (hK w' r1 r2)
theorem PosI.put {w : World} {b n : Nat} {l : List (List UInt8)} {s : ByteArray} {z : Int} (h : PosI w b n l) (hs : s.size ≤ maxLen) (hn : n < maxLen) (hl : l.length < 10000000) (hp : posB l s.data.toList = none) (hz : z = l.length) :
  ∃ w', (Instr.mapUpdate 128 (.map (some b)) (.string s) (.int .i64 z)).run Tryz.prog w = .ok () w' ∧ PosI w' b (n + 1) (l ++ [s.data.toList]) ∧ w.grownBy w' (some b) := by
 subst hz
 exact PosP.put h Tryz.underlying128 Tryz.underlying9 Tryz.underlying3 hs hn hl hp
def ExX (gm : Nat) (mv : Value) (b : Nat) : Prop := b = gm ∨ mv.ownBlock = some b
structure ExI (w : World) (base gm : Nat) (sv mv : Value) (p : Sp) : Prop where
 st : OwnR 2 RSt (ExX gm mv) w base 33 sv p.states
 mo : OwnM w base mv p.moves
 mp : PosI w gm p.states.length (p.states.map keyS)
 lo : base ≤ gm
section
variable {w w' : World} {base gm : Nat} {sv mv : Value} {p : Sp}
theorem ExI.now (h : ExI w base gm sv mv p) (hb : Below w.heap.size w w') : ExI w' base gm sv mv p := ⟨h.st.now RSt.kept hb, h.mo.now hb, h.mp.now hb, h.lo⟩
theorem ExI.full {f : Bool} (h : ExI w base gm sv mv p) : ExI w base gm sv mv ⟨p.states, p.moves, f⟩ := ⟨h.st, h.mo, h.mp, h.lo⟩
theorem ExI.apart (h : ExI w base gm sv mv p) {g : Nat} (hg : sv.ownBlock = some g) : mv.ownBlock ≠ some g := by
 obtain ⟨cs, h1, _⟩ := h.st
 exact own_apart h1 h.mo (by decide) hg
theorem ExI.apart' (h : ExI w base gm sv mv p) {g : Nat} (hg : mv.ownBlock = some g) : sv.ownBlock ≠ some g := fun e => h.apart e hg
theorem ExI.smap (h : ExI w base gm sv mv p) : sv.ownBlock ≠ some gm := by
 obtain ⟨cs, h1, _⟩ := h.st
 exact own_map_apart h1 h.mp
theorem ExI.mmap (h : ExI w base gm sv mv p) : mv.ownBlock ≠ some gm := own_map_apart h.mo h.mp
theorem ExI.off (h : ExI w base gm sv mv p) {s : St} {m v : Value} (hm : SlI (Fr w.heap.size w') w' m s.marks) (hv : SlV (Fr w.heap.size w') w' v s.vals) : RSt (Off (ExX gm mv) w' sv) w' s [m, v] := by
 have hd : ∀ b, Fr w.heap.size w' b → Off (ExX gm mv) w' sv b := fun b hb' => by
  refine ⟨hb'.2, fun e => ?_, fun e => ?_⟩
  ·have := (h.st.lt b e).2
   have := hb'.1
   omega
  ·have h1 := hb'.1
   rcases e with e | e
   ·have := h.mp.lt; omega
   ·have := (h.mo.lt b e).2; omega
 exact ⟨m, v, rfl, Sl.keep hm RInt.kept hd (Same.refl _ _), Sl.keep hv RVal.kept hd (Same.refl _ _)⟩
end
theorem findIdx_congr {α : Type} {p q : α → Bool} : ∀ (l : List α), (∀ x ∈ l, p x = q x) → l.findIdx? p = l.findIdx? q
 | [], _ => rfl
 | a :: l, h => by rw [List.findIdx?_cons, List.findIdx?_cons, h a (by simp), findIdx_congr l (fun x hx => h x (by simp [hx]))]
theorem own_single {X : Nat → Prop} {w : World} {base B : Nat} {s : St} {m v : Value} (hm : SlI (Fr B w) w m s.marks) (hv : SlV (Fr B w) w v s.vals) (hb : base ≤ w.heap.size) (hX : ∀ b, X b → w.heap.size ≤ b) :
  OwnR 2 RSt X (w.alloc (.cells #[m, v] 33)) base 33 (.slice (some ⟨w.heap.size, 0, none⟩) 1 1) [s] := by
 have h1 := World.ownsRow_lit (base := base) (e := 33) (size := 2) w #[m, v] 1 hb (by unfold maxLen; omega) rfl
 refine ⟨[m, v], h1, fun i x hx => ?_⟩
 cases i with
 | succ i => simp at hx
 | zero =>
  injection hx with hx
  subst hx
  have hd : ∀ b, Fr B w b → Off X (w.alloc (.cells #[m, v] 33)) (.slice (some ⟨w.heap.size, 0, none⟩) 1 1) b := fun b hb' => by
   refine ⟨by have := hb'.2; simp; omega, fun e => ?_, fun e => ?_⟩
   ·simp only [Value.ownBlock, Option.some.injEq] at e
    have := hb'.2; omega
   ·have := hX b e; have := hb'.2; omega
  have hs : Same (Fr B w) w (w.alloc (.cells #[m, v] 33)) := fun b hb' => Below.heap_alloc w _ b hb'.2
  refine ⟨[m, v], rfl, fun j u hu => ?_, m, v, rfl, Sl.keep hm RInt.kept hd hs, Sl.keep hv RVal.kept hd hs⟩
  simpa using hu
theorem SlI.grownF {B : Nat} {w w' : World} {row : Option Nat} {v : Value} {zs : List Int} (h : SlI (Fr B w) w v zs) (hb : w.grownBy w' row) (hr : ∀ g, row = some g → g < B) : SlI (Fr B w') w' v zs :=
 Sl.keep h RInt.kept (fun _ hx => ⟨hx.1, Nat.lt_of_lt_of_le hx.2 hb.size⟩) (fun b hx => hb.block b hx.2 (fun e => by have := hr b e.symm; have := hx.1; omega))
theorem SlV.grownF {B : Nat} {w w' : World} {row : Option Nat} {v : Value} {zs : List Val} (h : SlV (Fr B w) w v zs) (hb : w.grownBy w' row) (hr : ∀ g, row = some g → g < B) : SlV (Fr B w') w' v zs :=
 Sl.keep h RVal.kept (fun _ hx => ⟨hx.1, Nat.lt_of_lt_of_le hx.2 hb.size⟩) (fun b hx => hb.block b hx.2 (fun e => by have := hr b e.symm; have := hx.1; omega))
theorem ExI.pushM {w w' : World} {base gm : Nat} {sv mv mv' : Value} {p : Sp} {m : Mv} (h : ExI w base gm sv mv p) (hmo : OwnM w' base mv' (p.moves ++ [m])) (hg : w.grownBy w' mv.ownBlock) (hat : mv'.ownBlock = mv.ownBlock ∨ mv'.ownBlock = some (w.heap.size + 1)) (hbase : base ≤ w.heap.size) :
  ExI w' base gm sv mv' ⟨p.states, p.moves ++ [m], p.full⟩ ∧ Below base w w' := by
 refine ⟨⟨?_, hmo, PosP.grown h.mp hg (fun e => h.mmap e.symm), h.lo⟩, below_of_grown hg hbase (fun g hg => (h.mo.lt g hg).1)⟩
 refine h.st.regrown RSt.kept hg (fun g hg => ⟨.inr hg, h.apart' hg⟩) (fun b hb => ?_)
 rcases hb with hb | hb
 ·exact .inl (.inl hb)
 ·rcases hat with e | e
  ·exact .inl (.inr (by rw [← e]; exact hb))
  ·rw [e] at hb
   injection hb with hb
   exact .inr (by omega)
theorem ExI.putS {w w' : World} {base gm : Nat} {sv mv : Value} {p : Sp} (h : ExI w base gm sv mv p) (hg : w.grownBy w' (some gm)) (hbase : base ≤ w.heap.size) :
  OwnR 2 RSt (ExX gm mv) w' base 33 sv p.states ∧ OwnM w' base mv p.moves ∧ Below base w w' :=
 ⟨h.st.regrown RSt.kept hg (fun g hg => by injection hg with hg; subst hg; exact ⟨.inl rfl, h.smap⟩) (fun b hb => .inl hb), h.mo.kept hg (fun g hg => by injection hg with hg; subst hg; exact h.mmap), below_of_grown hg hbase (fun g hg => by injection hg with hg; subst hg; exact h.lo)⟩
theorem ExI.pushS {w w' : World} {base gm : Nat} {sv sv' mv : Value} {p : Sp} {s : St} (h1 : OwnR 2 RSt (ExX gm mv) w base 33 sv p.states) (h2 : OwnM w base mv p.moves) (h3 : PosI w gm (p.states.length + 1) (p.states.map keyS ++ [keyS s])) (h4 : base ≤ gm)
  (hst : OwnR 2 RSt (ExX gm mv) w' base 33 sv' (p.states ++ [s])) (hg : w.grownBy w' sv.ownBlock) (hbase : base ≤ w.heap.size) :
  ExI w' base gm sv' mv ⟨p.states ++ [s], p.moves, p.full⟩ ∧ Below base w w' := by
 obtain ⟨cs, ho, _⟩ := h1
 refine ⟨⟨hst, h2.kept hg (fun g hg => own_apart ho h2 (by decide) hg), ?_, h4⟩, below_of_grown hg hbase (fun g hg => (World.ownsRow.lt ho g hg).1)⟩
 have := PosP.grown h3 hg (fun e => own_map_apart ho h3 e.symm)
 show PosP _ _ _ _ _ _ _
 rw [List.length_append, List.map_append]
 exact this
theorem pos_idx {n : DNet} {l : List St} {s : St} (hl : ∀ x ∈ l, stateB n x = true) (hs : stateB n s = true) : posB (l.map keyS) (keyS s) = idxS l s := by
 unfold posB idxS
 rw [List.findIdx?_map]
 refine findIdx_congr l fun x hx => ?_
 show decide (keyS x = keyS s) = decide (x = s)
 rw [decide_eq_decide]
 exact ⟨fun h => key_state (hl x hx) hs h, fun h => by rw [h]⟩
theorem keyS_size {s : St} (hml : s.marks.length ≤ 1000) (hvl : s.vals.length ≤ 1000) (hms : ∀ z ∈ s.marks, -1000 ≤ z ∧ z ≤ 1000) : (⟨(keyS s).toArray⟩ : ByteArray).size ≤ maxLen := by
 have h1 := keyM_len hms
 have h2 := keyV_len s.vals
 show (keyS s).toArray.size ≤ _
 rw [List.size_toArray]
 unfold keyS maxLen
 rw [List.length_append]
 omega
theorem state_small {n : DNet} {s : St} (h : stateB n s = true) : s.marks.length ≤ 1000 ∧ s.vals.length ≤ 1000 ∧ ∀ z ∈ s.marks, -1000 ≤ z ∧ z ≤ 1000 := by
 obtain ⟨h1, h2, h3⟩ := state_parts h
 have a := validOk h1
 obtain ⟨b, b2⟩ := markOk (n := n.net) h2
 obtain ⟨c1, c2, c3, _⟩ := asg_parts h3
 unfold varsB at c1
 simp only [Bool.and_eq_true, decide_eq_true_eq] at c1
 exact ⟨by omega, by omega, fun z hz => by have := b2 z hz; omega⟩
section
variable {n : DNet} {most i t : Nat} {s : St} {p q : Sp} {R : Option Sp} {F : Sp → Option Sp}
theorem row_some (ht : t < n.net.trans.length) (hq : exT n most i s t p = some q) (h : (exRow n most i s (n.net.trans.length - t) t p).bind F = R) : (exRow n most i s (n.net.trans.length - (t + 1)) (t + 1) q).bind F = R := by
 rw [show n.net.trans.length - t = (n.net.trans.length - (t + 1)) + 1 by omega, exRow, hq] at h
 exact h
theorem row_none (ht : t < n.net.trans.length) (hq : exT n most i s t p = none) (h : (exRow n most i s (n.net.trans.length - t) t p).bind F = R) : R = none := by
 rw [show n.net.trans.length - t = (n.net.trans.length - (t + 1)) + 1 by omega, exRow, hq] at h
 exact h.symm
theorem row_end (h : (exRow n most i s (n.net.trans.length - n.net.trans.length) n.net.trans.length p).bind F = R) : F p = R := by
 rw [Nat.sub_self, exRow] at h
 exact h
theorem all_some (hi : i < most + 1) (hs : p.states[i]? = some s) (h : exAll n most (most + 1 - i) i p = R) : (exRow n most i s (n.net.trans.length - 0) 0 p).bind (fun q => exAll n most (most + 1 - (i + 1)) (i + 1) q) = R := by
 rw [show most + 1 - i = (most + 1 - (i + 1)) + 1 by omega, exAll, hs] at h
 exact h
theorem all_end (hs : p.states[i]? = none) (h : exAll n most (most + 1 - i) i p = R) : R = some p := by
 cases hf : most + 1 - i with
 | zero => rw [hf, exAll] at h; exact h.symm
 | succ f => rw [hf, exAll, hs] at h; exact h.symm
theorem exT_err (h : (fireD n s (t : Int)).2 ≠ 0) : exT n most i s t p = some ⟨p.states, p.moves, p.full && decide ((fireD n s (t : Int)).2 ≠ 5)⟩ := by unfold exT; rw [if_pos h]
theorem exT_met {k : Nat} (h : (fireD n s (t : Int)).2 = 0) (hk : idxS p.states (fireD n s (t : Int)).1 = some k) (hl : p.moves.length < 20000) : exT n most i s t p = some ⟨p.states, p.moves ++ [⟨i, k, t⟩], p.full⟩ := by
 unfold exT
 rw [if_neg (by rw [h]; simp), hk]
 exact if_pos hl
theorem exT_met_full {k : Nat} (h : (fireD n s (t : Int)).2 = 0) (hk : idxS p.states (fireD n s (t : Int)).1 = some k) (hl : ¬ p.moves.length < 20000) : exT n most i s t p = none := by
 unfold exT
 rw [if_neg (by rw [h]; simp), hk]
 exact if_neg hl
theorem exT_cut (h : (fireD n s (t : Int)).2 = 0) (hk : idxS p.states (fireD n s (t : Int)).1 = none) (hl : ¬ p.states.length < most) : exT n most i s t p = some ⟨p.states, p.moves, false⟩ := by
 unfold exT
 rw [if_neg (by rw [h]; simp), hk]
 exact if_neg hl
theorem exT_new (h : (fireD n s (t : Int)).2 = 0) (hk : idxS p.states (fireD n s (t : Int)).1 = none) (hm : p.states.length < most) (hl : p.moves.length < 20000) : exT n most i s t p = some ⟨p.states ++ [(fireD n s (t : Int)).1], p.moves ++ [⟨i, p.states.length, t⟩], p.full⟩ := by
 unfold exT
 rw [if_neg (by rw [h]; simp), hk]
 exact (if_pos hm).trans (if_pos hl)
theorem exT_new_full (h : (fireD n s (t : Int)).2 = 0) (hk : idxS p.states (fireD n s (t : Int)).1 = none) (hm : p.states.length < most) (hl : ¬ p.moves.length < 20000) : exT n most i s t p = none := by
 unfold exT
 rw [if_neg (by rw [h]; simp), hk]
 exact (if_pos hm).trans (if_neg hl)
end
theorem results_tmp4 {fn : Func} {t u v x : Tmp} (h : fn.results = #[.tmp t, .tmp u, .tmp v, .tmp x]) (tmps : Array Value) (P : Program) (w : World) :
  (results fn tmps).run P w = .ok (.tuple #[tmps.getD t undef, tmps.getD u undef, tmps.getD v undef, tmps.getD x undef]) w := by
 simp [results, h]
theorem dexplE_bad {n : DNet} {s : St} {most : Int} (h : vstateB n s = false) : dexplE n s most = (noSp, 1) := if_pos h
theorem dexplE_range {n : DNet} {s : St} {most : Int} (h : vstateB n s = true) (hm : most < 1 ∨ 2000 < most) : dexplE n s most = (noSp, 2) := by
 unfold dexplE; rw [if_neg (by rw [h]; simp), if_pos hm]
theorem dexplE_none {n : DNet} {s : St} {most : Nat} (h : vstateB n s = true) (hm : 1 ≤ most ∧ most ≤ 2000) (he : exFrom n s most = none) : dexplE n s (most : Int) = (noSp, 13) := by
 unfold dexplE; rw [if_neg (by rw [h]; simp), if_neg (by omega), Int.toNat_natCast, he]
theorem dexplE_some {n : DNet} {s : St} {most : Nat} {p : Sp} (h : vstateB n s = true) (hm : 1 ≤ most ∧ most ≤ 2000) (he : exFrom n s most = some p) : dexplE n s (most : Int) = (p, 0) := by
 unfold dexplE; rw [if_neg (by rw [h]; simp), if_neg (by omega), Int.toNat_natCast, he]
theorem inv_start {n : DNet} {s : St} {most : Nat} (h : stateB n s = true) (hm : 1 ≤ most) : DInv n s most ⟨[s], [], true⟩ := by
 refine ⟨?_, rfl, hm, by simp, fun m hm => ?_, by simp, fun k h1 h2 => ?_⟩
 ·intro x hx; rw [List.mem_singleton] at hx; subst hx; exact h
 ·simp at hm
 ·simp at h2; omega
def RetEx (p : Sp × Int) (w : World) (e : Ending) (w' : World) : Prop := ∃ sv mv, e = .returned (.tuple #[sv, mv, .bool p.1.full, .int .i64 p.2]) ∧ SlSt (Lt w'.heap.size) w' sv p.1.states ∧ SlM (Lt w'.heap.size) w' mv p.1.moves ∧ Below w.heap.size w w'
theorem inv_small {n : DNet} {s0 : St} {most : Nat} {p : Sp} (h : DInv n s0 most p) (hm : most ≤ 2000) (ht : n.net.trans.length ≤ 60) : ∀ m ∈ p.moves, SmallM m := by
 intro m hm'
 obtain ⟨s, s', h1, h2, h3⟩ := h.mv m hm'
 have a := lt_of_get h1
 have b := lt_of_get h2
 have c := h.le
 have d := (fire_parts (n := n) (s := s) (t := m.sym) (by rw [h3])).2.1
 exact ⟨by omega, by omega, by omega⟩
set_option maxHeartbeats 2000000 in
set_option maxRecDepth 100000 in
theorem fireR_ref (n : Net) (v mv : Value) (m : List Int) (t : Int) (w : World) (h : IsNet (Lt w.heap.size) w v n) (hm : SlI (Lt w.heap.size) w mv m) :
  Calls Tryz.prog 112 #[v, mv, .int .i64 t] w (RetIF (fireE n m t).1 (fireE n m t).2 w) := by
 have h0 := h
 obtain ⟨tv, rfl, hp, hs, hkk, ht⟩ := h
 obtain ⟨A, c, rfl, h1, h2, ht⟩ := ht.open_
 obtain ⟨Am, cm, rfl, m1, m2, hm⟩ := hm.open_
 go_enter Tryz.func112, Tryz.ntmps112
 go_wp2_with fail
 have hb := bone w (Obj.cells #[Value.int IntKind.i64 n.places, Value.slice A n.trans.length c, Value.int IntKind.i64 n.source, Value.int IntKind.i64 n.sink] 24)
 refine (valid_ref n _ _ (h0.now hb)).mono ?_
 rintro e w1 ⟨rfl, hb1⟩
 have hbw := bthen hb hb1
 have hB1 := (Blk.new w 24 #[.int .i64 n.places, .slice A n.trans.length c, .int .i64 n.source, .int .i64 n.sink]).now hb1
 obtain ⟨q0, q1, q2, q3⟩ := hB1.c4
 have hlt1 := hB1.lt
 generalize hq : validB n = q
 have HV := Lib.hid hq
 clear hq
 cases q
 ·have HE : Hid (fireE n m t = ([], 1)) := by show fireE n m t = _; unfold fireE; rw [HV.out]; rfl
  go_wp2_with fail
  go_ret2
  rw [HE.out]
  exact ⟨_, rfl, Sl.none_, hbw⟩
 go_wp2_with fail
 refine (marking_ref n _ _ m _ (h0.now hbw) (hm.now hbw)).mono ?_
 rintro e w2 ⟨rfl, hb2⟩
 have hbw2 := bthen hbw hb2
 have hB2 := hB1.now hb2
 clear hB1 q0 q1 q2 q3 hlt1 hb1 hb2 hbw hb
 obtain ⟨q0, q1, q2, q3⟩ := hB2.c4
 have hlt2 := hB2.lt
 generalize hq : markingB n.places m = q
 have HM := Lib.hid hq
 clear hq
 cases q
 ·have HE : Hid (fireE n m t = ([], 1)) := by show fireE n m t = _; unfold fireE; rw [HV.out, HM.out]; rfl
  go_wp2_with fail
  go_ret2
  rw [HE.out]
  exact ⟨_, rfl, Sl.none_, hbw2⟩
 have HE : Hid (fireE n m t = fireB n m t) := by show fireE n m t = _; unfold fireE; rw [HV.out, HM.out]; rfl
 obtain ⟨v1, v2, v3, v4⟩ := validOk HV.out
 obtain ⟨hml, hmw⟩ := markOk HM.out
 have HV4 := Lib.hid v4
 have HML := Lib.hid hml
 have HMW := Lib.hid hmw
 have hml1 : (m.length : Int) ≤ 40 := by omega
 have hm0 : 0 < m.length := by omega
 clear v4 hml hmw
 by_cases h0' : t < 0
 ·have HN := Lib.hid (fireB_none (n := n) (m := m) (t := t) (.inl h0'))
  go_wp2_with fail
  go_ret2
  rw [HE.out, HN.out]
  exact ⟨_, rfl, Sl.none_, hbw2⟩
 obtain ⟨k, rfl⟩ := Int.eq_ofNat_of_zero_le (Int.not_lt.1 h0')
 by_cases h3 : n.trans.length ≤ k
 ·have HN := Lib.hid (fireB_none (n := n) (m := m) (t := (k : Int)) (.inr (by omega)))
  go_wp2_with fail
  go_ret2
  rw [HE.out, HN.out]
  exact ⟨_, rfl, Sl.none_, hbw2⟩
 have hkl : k < n.trans.length := by omega
 obtain ⟨b, o, x, iv, ov, rfl, hD, hx, hl, hti, hto, c0, c1, c2⟩ := (ht.now hbw2).at_ hkl
 have HF := Lib.hid (fireB_some (m := m) hx)
 have HTR := Lib.hid (HV4.out x (List.mem_of_getElem? hx))
 obtain ⟨Ai, ci, rfl, i1, i2, hti⟩ := hti.open_
 obtain ⟨Ao, co, rfl, o1, o2, hto⟩ := hto.open_
 obtain ⟨pi, po⟩ := trPlaces HTR.out
 have li := places_len pi
 have lo := places_len po
 have hin : Inside x.ins m := fun p hp => by have := places_mem pi p hp; have := HML.out; omega
 have hout : Inside x.outs m := fun p hp => by have := places_mem po p hp; have := HML.out; omega
 have HC := Lib.hid (fun W (hW : Below w2.heap.size w2 W) => can_ref n _ _ m k x W ((h0.now hbw2).now hW) ((hm.now hbw2).now hW) hx hin)
 clear hx pi po h0' h3
 go_wp2_with fail
 refine (HC.out _ (Below.refl _ _)).mono ?_
 rintro e w3 ⟨rfl, hb3⟩
 clear HC
 have hB3 := hB2.now hb3
 have hbw3 := bthen hbw2 hb3
 have hti3 := hti.now hb3
 have hto3 := hto.now hb3
 have ht3 := (ht.now hbw3)
 clear c0 q0 q1 q2 q3 hlt2 hB2 hti hto
 obtain ⟨q0, q1, q2, q3⟩ := hB3.c4
 have hlt3 := hB3.lt
 generalize hq : canB x.ins m = q
 have HCB := Lib.hid hq
 clear hq
 cases q
 ·have HT : Hid (fireT x m = ([], 12)) := by show fireT x m = _; unfold fireT; rw [HCB.out]; rfl
  go_wp2_with fail
  go_ret2
  rw [HE.out, HF.out, HT.out]
  exact ⟨_, rfl, Sl.none_, hbw3⟩
 have hm3 := (hm.now hbw3).now (bone w3 (.cells #[] 3))
 go_wp2_with (at_builtin; refine wpList_appendAll appInts rfl (.tmp 34) (.tmp 35) rfl _ _ 0 [] rfl (World.ownsRow_lit (base := w3.heap.size) (e := 3) (size := 1) w3 #[] 0 (Nat.le_refl _) (by unfold maxLen; omega) rfl) _ m (Value.int .i64) rfl hm3 (fun y c h => by injection h.1) (fun y => rfl) (by omega) (by simp) ?_; intro vo w4 hown hgr hat)
 rw [Nat.zero_add, List.nil_append] at hown
 obtain ⟨g, cap, rfl, hcap, hown⟩ := OwnI.of hown hm0
 have hb4 : Below w3.heap.size w3 w4 := ((bone w3 (.cells #[] 3))).trans (below_of_grown hgr (by simp) (fun g hg => by injection hg with hg; exact Nat.le_of_eq hg))
 have hbw4 := bthen hbw3 hb4
 obtain ⟨q0, q1, q2, q3⟩ := (hB3.now hb4).c4
 clear hgr hat
 have HB4 := Lib.hid hb4
 clear q0 q1 q2 q3 hm3 hb4
 go_loopw [9] (fun i wr => ∃ j : Nat, j ≤ x.ins.length ∧ i = .int .i64 j ∧ OwnI wr w3.heap.size 3 g cap (bump (-1) m (x.ins.take j)) ∧ Below w3.heap.size w3 wr) (fun i _ => x.ins.length - (intOf i).toNat)
 case atStart => exact ⟨0, Nat.zero_le _, rfl, hown, HB4.out⟩
 case round =>
  obtain ⟨j, hj, rfl, howr, hbr⟩ := hrel
  have hgb := howr.from_
  obtain ⟨q0, q1, q2, q3⟩ := (hB3.now hbr).c4
  have hbr2 := bthen hb3 hbr
  have d1 := (hbr2.cell (p := ⟨b, o + k * 3 + 1, none⟩) hD).trans c1
  have d2 := (hbr2.cell (p := ⟨b, o + k * 3 + 2, none⟩) hD).trans c2
  by_cases hlt : j < x.ins.length
  ·obtain ⟨b1, o1', p, rfl, hD1, hx1, hf1, e1⟩ := (hti3.now hbr).at_ hlt
   obtain ⟨hp0, hp1⟩ := hin p (List.mem_of_getElem? hx1)
   obtain ⟨y, rfl⟩ := Int.eq_ofNat_of_zero_le hp0
   rw [Int.toNat_natCast] at hp1
   have hyl : y < (bump (-1) m (x.ins.take j)).length := by rw [bump_length]; exact hp1
   have hcell := howr.cell (get_of_within hyl)
   have hfro := howr.frozen y
   have hwi := within_get (within_bump (-1) (.inr rfl) (x.ins.take j) 0 100 _ HMW.out (by omega) (by omega) (fun q hq => (hin q (List.mem_of_mem_take hq)).2)) hyl
   rw [List.length_take, Nat.min_eq_left hj] at hwi
   have HS : Hid (bump (-1) m (x.ins.take (j + 1)) = (bump (-1) m (x.ins.take j)).set y ((bump (-1) m (x.ins.take j)).getD y 0 + (-1))) := by
    have := bump_snoc (-1) m x.ins j _ hx1
    unfold bump1 at this
    rwa [Int.toNat_natCast] at this
   generalize hz : (bump (-1) m (x.ins.take j)).getD y 0 = z at hcell hwi HS
   have a1 : (0 : Int) ≤ (k : Int) := by omega
   have a2 : (k : Int) < (n.trans.length : Int) := by omega
   have a3 : (0 : Int) ≤ (j : Int) := by omega
   have a4 : (j : Int) < (x.ins.length : Int) := by omega
   have a5 : (0 : Int) ≤ (y : Int) := by omega
   have a6 : (y : Int) < (m.length : Int) := by omega
   clear hz hx1 hf1 hD1
   go_wp2_with fail
   go_still_tail 24, (by kernel_rfl)
   change wpList _ _ _ _ _ wr.drew
   go_wp2_with fail
   go_roundw
   case rel =>
    refine ⟨j + 1, by omega, by go_num, ?_, (hbr.setCell (p := ⟨g, y, none⟩) hgb _).drew⟩
    rw [HS.out]
    exact (howr.set_ y _).drew
   case measure => simp [intOf]; omega
  ·obtain rfl : j = x.ins.length := by omega
   rw [List.take_of_length_le (Nat.le_refl _)] at howr
   have HW1 : Hid (Within (-40) 140 (bump (-1) m x.ins)) := within_mono (within_bump (-1) (.inr rfl) x.ins 0 100 m HMW.out (by omega) (by omega) (fun q hq => (hin q hq).2)) (by omega) (by omega)
   obtain ⟨wi, rfl⟩ : ∃ wi : World, wi = wr := ⟨_, rfl⟩
   have howi := howr
   have hbi := hbr
   clear howr
   go_wp2_with fail
   clear q0 q1 q2 q3 d1 d2 hbr2 hgb
   go_loopw [10] (fun i wr => ∃ j : Nat, j ≤ x.outs.length ∧ i = .int .i64 j ∧ OwnI wr w3.heap.size 3 g cap (bump 1 (bump (-1) m x.ins) (x.outs.take j)) ∧ Below w3.heap.size w3 wr) (fun i _ => x.outs.length - (intOf i).toNat)
   case atStart => exact ⟨0, Nat.zero_le _, rfl, howi, hbi⟩
   case round =>
    obtain ⟨j, hj, rfl, howr, hbr⟩ := hrel
    have hgb := howr.from_
    obtain ⟨q0, q1, q2, q3⟩ := (hB3.now hbr).c4
    have hbr2 := bthen hb3 hbr
    have d1 := (hbr2.cell (p := ⟨b, o + k * 3 + 1, none⟩) hD).trans c1
    have d2 := (hbr2.cell (p := ⟨b, o + k * 3 + 2, none⟩) hD).trans c2
    by_cases hlt : j < x.outs.length
    ·obtain ⟨b1, o1', p, rfl, hD1, hx1, hf1, e1⟩ := (hto3.now hbr).at_ hlt
     obtain ⟨hp0, hp1⟩ := hout p (List.mem_of_getElem? hx1)
     obtain ⟨y, rfl⟩ := Int.eq_ofNat_of_zero_le hp0
     rw [Int.toNat_natCast] at hp1
     have hyl : y < (bump 1 (bump (-1) m x.ins) (x.outs.take j)).length := by rw [bump_length]; rw [bump_length]; exact hp1
     have hcell := howr.cell (get_of_within hyl)
     have hfro := howr.frozen y
     have hwi := within_get (within_bump 1 (.inl rfl) (x.outs.take j) (-40) 140 _ HW1.out (by omega) (by omega) (fun q hq => by rw [bump_length]; exact (hout q (List.mem_of_mem_take hq)).2)) hyl
     rw [List.length_take, Nat.min_eq_left hj] at hwi
     have HS : Hid (bump 1 (bump (-1) m x.ins) (x.outs.take (j + 1)) = (bump 1 (bump (-1) m x.ins) (x.outs.take j)).set y ((bump 1 (bump (-1) m x.ins) (x.outs.take j)).getD y 0 + 1)) := by
      have := bump_snoc 1 (bump (-1) m x.ins) x.outs j _ hx1
      unfold bump1 at this
      rwa [Int.toNat_natCast] at this
     generalize hz : (bump 1 (bump (-1) m x.ins) (x.outs.take j)).getD y 0 = z at hcell hwi HS
     have a1 : (0 : Int) ≤ (k : Int) := by omega
     have a2 : (k : Int) < (n.trans.length : Int) := by omega
     have a3 : (0 : Int) ≤ (j : Int) := by omega
     have a4 : (j : Int) < (x.outs.length : Int) := by omega
     have a5 : (0 : Int) ≤ (y : Int) := by omega
     have a6 : (y : Int) < (m.length : Int) := by omega
     clear hz hx1 hf1 hD1
     go_wp2_with fail
     go_still_tail 24, (by kernel_rfl)
     change wpList _ _ _ _ _ wr.drew
     go_wp2_with fail
     go_roundw
     case rel =>
      refine ⟨j + 1, by omega, by go_num, ?_, (hbr.setCell (p := ⟨g, y, none⟩) hgb _).drew⟩
      rw [HS.out]
      exact (howr.set_ y _).drew
     case measure => simp [intOf]; omega
    ·obtain rfl : j = x.outs.length := by omega
     rw [List.take_of_length_le (Nat.le_refl _)] at howr
     have hfin : OwnI wr w3.heap.size 3 g cap (outOf x m) := howr
     have hlen : (outOf x m).length = m.length := out_length x m
     have hfits := within_fit (within_bump 1 (.inl rfl) x.outs (-40) 140 _ HW1.out (by omega) (by omega) (fun q hq => by rw [bump_length]; exact (hout q hq).2)) (by omega) (by omega)
     have HSL := Lib.hid (hfin.sl hfits)
     have HFR := Lib.hid (fresh_own (B := w.heap.size) hfin hbw3.size hfits)
     have hbwr := bthen hbw3 hbr
     have HMX := Lib.hid (marking_ref n _ _ (outOf x m) wr (h0.now hbwr) HSL.out)
     rw [out_marking v1 HM.out HTR.out HCB.out] at HMX
     rw [hlen] at HSL HMX HFR
     clear howr hfin hlen hfits hbr
     by_cases hmx : 100 < Lib.maxOf (outOf x m)
     ·have HT : Hid (fireT x m = ([], 5)) := by show fireT x m = _; unfold fireT; rw [HCB.out, if_pos hmx]; rfl
      rw [decide_eq_true hmx] at HMX
      clear hmx
      go_wp2_with (go_at_call 88; refine HMX.out.mono ?_; rintro e w' ⟨rfl, hb'⟩)
      go_ret2
      rw [HE.out, HF.out, HT.out]
      exact ⟨_, rfl, Sl.none_, bthen hbwr hb'⟩
     ·have HT : Hid (fireT x m = (outOf x m, 0)) := by show fireT x m = _; unfold fireT; rw [HCB.out, if_neg hmx]; rfl
      rw [decide_eq_false hmx] at HMX
      clear hmx
      go_wp2_with (go_at_call 88; refine HMX.out.mono ?_; rintro e w' ⟨rfl, hb'⟩)
      go_ret2
      rw [HE.out, HF.out, HT.out]
      exact ⟨_, rfl, SlI.nowF HFR.out hb', bthen hbwr hb'⟩
end Go.Proofs.YtlmenhjlgmejkaaGreatDoor
