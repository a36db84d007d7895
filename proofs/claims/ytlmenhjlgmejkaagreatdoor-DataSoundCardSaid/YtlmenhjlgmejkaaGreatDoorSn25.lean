/- Merged texts. -/
import Derived.Test.YtlmenhjlgmejkaaGreatDoorSn18
set_option linter.all false
namespace Go.Proofs.YtlmenhjlgmejkaaGreatDoor
open Go.RowKit
theorem fireT_stuck {x : Tr} {m : List Int} (h : canB x.ins m = false) : (fireT x m).2 = 12 := by unfold fireT; rw [if_pos h]
theorem fireT_free {x : Tr} {m : List Int} (h : canB x.ins m = true) : ¬ (fireT x m).2 = 12 := by
 unfold fireT
 rw [if_neg (by rw [h]; simp)]
 split
 ·show ¬ (5 : Int) = 12
  decide
 ·show ¬ (0 : Int) = 12
  decide
set_option maxHeartbeats 16000000 in
set_option maxRecDepth 100000 in
theorem after_ref (n : Nat) (d : DNet) (s : St) (t : Int) (u us : Value) (w : World) (h : IsDn n (Lt w.heap.size) w u d) (hs : IsSt (Lt w.heap.size) w us s) (hv : vstateB d s = true) :
  Calls Tryz.prog 68 #[u, us, .int .i64 t] w (RetStF (fireD d s t).1 (fireD d s t).2 w) := by
 have h0 := h
 have hs0 := hs
 obtain ⟨At, ct, Ax, cx, iv, Ag, cg, Aw, cw, rfl, dn1, dn2, dn3, dn4, dn5, ⟨t1, t2⟩, ⟨x1, x2⟩, ⟨g1, g2⟩, v1, v2⟩ := h.open_
 obtain ⟨Am, cm, Av, cv, rfl, s1, s2, ⟨t3, t4⟩, t5, t6⟩ := hs.open_
 clear h hs
 obtain ⟨hdv, hst⟩ := vstate_parts hv
 obtain ⟨hnv, hmk, hasg⟩ := state_parts hst
 obtain ⟨hvb, _, hvl, _⟩ := asg_parts hasg
 have HPT := Lib.hid (dvalid_parts hdv)
 have HASG := Lib.hid hasg
 have HVB := Lib.hid hvb
 have HVL := Lib.hid hvl
 have hb0 := bone w (.cells #[.int .i64 d.net.places, .slice At d.net.trans.length ct, .int .i64 d.net.source, .int .i64 d.net.sink, .slice Ax d.vars.length cx, iv, .slice Ag d.guards.length cg, .slice Aw d.writes.length cw] 30)
 have hb1 := bbox hb0 (.cells #[.slice Am s.marks.length cm, .slice Av s.vals.length cv] 33)
 have hb := bbox hb1 (.cells #[.slice none 0 0, .slice none 0 0] 33)
 have hB := ((Blk.new w 30 #[.int .i64 d.net.places, .slice At d.net.trans.length ct, .int .i64 d.net.source, .int .i64 d.net.sink, .slice Ax d.vars.length cx, iv, .slice Ag d.guards.length cg, .slice Aw d.writes.length cw]).alloc (.cells #[.slice Am s.marks.length cm, .slice Av s.vals.length cv] 33)).alloc (.cells #[.slice none 0 0, .slice none 0 0] 33)
 have hC := (Blk.new_at (t := 33) (cs := #[.slice Am s.marks.length cm, .slice Av s.vals.length cv]) (w := w.alloc (.cells #[.int .i64 d.net.places, .slice At d.net.trans.length ct, .int .i64 d.net.source, .int .i64 d.net.sink, .slice Ax d.vars.length cx, iv, .slice Ag d.guards.length cg, .slice Aw d.writes.length cw] 30)) (s := w.heap.size + 1) (by simp)).alloc (.cells #[.slice none 0 0, .slice none 0 0] 33)
 have hZ := Blk.new_at (t := 33) (cs := #[.slice none 0 0, .slice none 0 0]) (w := (w.alloc (.cells #[.int .i64 d.net.places, .slice At d.net.trans.length ct, .int .i64 d.net.source, .int .i64 d.net.sink, .slice Ax d.vars.length cx, iv, .slice Ag d.guards.length cg, .slice Aw d.writes.length cw] 30)).alloc (.cells #[.slice Am s.marks.length cm, .slice Av s.vals.length cv] 33)) (s := w.heap.size + 1 + 1) (by simp)
 have hn1 := dn1.now hb
 have hx1 := dn2.now hb
 have hg1 := SlE.now dn4 hb
 have hw1 := SlWW.now dn5 hb
 have hm1 := s1.now hb
 have hv1 := s2.now hb
 obtain ⟨v1, v2, v3, v4⟩ := validOk hnv
 obtain ⟨hml, hmw⟩ := markOk hmk
 have HV4 := Lib.hid v4
 have HML := Lib.hid hml
 have HFE : Hid (∀ z : Int, fireE d.net s.marks z = fireB d.net s.marks z) := fun z => by unfold fireE; rw [hnv, hmk]; rfl
 clear h0 hs0 hb0 hb1 dn1 dn2 dn3 dn4 dn5 s1 s2 hdv hst hasg hvb hvl hv hnv hmk v1 v2 v3 v4 hml hmw
 go_enter Tryz.func68, Tryz.ntmps68
 go_upto_region 1 with fail
 generalize hw1e : ((w.alloc (.cells #[.int .i64 d.net.places, .slice At d.net.trans.length ct, .int .i64 d.net.source, .int .i64 d.net.sink, .slice Ax d.vars.length cx, iv, .slice Ag d.guards.length cg, .slice Aw d.writes.length cw] 30)).alloc (.cells #[.slice Am s.marks.length cm, .slice Av s.vals.length cv] 33)).alloc (.cells #[.slice none 0 0, .slice none 0 0] 33) = w1 at *
 clear hw1e
 have hsz1 : w.heap.size + 3 ≤ w1.heap.size := by have := hZ.lt; omega
 obtain ⟨q0, q1, q2, q3, q4, q5, q6, q7⟩ := hB.c8
 obtain ⟨y0, y1⟩ := hC.c2
 by_cases c1 : t < 0
 ·have HR := Lib.hid (fireD_out (d := d) (s := s) (.inl c1))
  obtain ⟨zz0, zz1⟩ := hZ.c2
  have z0 := hZ.frozen 0
  have z1 := hZ.frozen 1
  go_wp2_with fail
  obtain ⟨r0, r1⟩ := (hZ.set2 (.slice none 0 0) (.slice none 0 0)).c2
  refine bodyPost_ret (v := .tuple #[.agg #[.slice none 0 0, .slice none 0 0], .int .i64 2]) (by simp [results, Tryz.results68, go_sem, r0, r1]) rfl ?_
  rw [HR.out]
  exact ⟨_, rfl, noSt_is _ _, bset2 hb (by omega) _ _⟩
 by_cases c2 : (d.net.trans.length : Int) ≤ t
 ·have HR := Lib.hid (fireD_out (d := d) (s := s) (.inr c2))
  obtain ⟨zz0, zz1⟩ := hZ.c2
  have z0 := hZ.frozen 0
  have z1 := hZ.frozen 1
  go_wp2_with fail
  obtain ⟨r0, r1⟩ := (hZ.set2 (.slice none 0 0) (.slice none 0 0)).c2
  refine bodyPost_ret (v := .tuple #[.agg #[.slice none 0 0, .slice none 0 0], .int .i64 2]) (by simp [results, Tryz.results68, go_sem, r0, r1]) rfl ?_
  rw [HR.out]
  exact ⟨_, rfl, noSt_is _ _, bset2 hb (by omega) _ _⟩
 obtain ⟨k, rfl⟩ := Int.eq_ofNat_of_zero_le (show 0 ≤ t by omega)
 have hk : k < d.net.trans.length := by omega
 have HD := Lib.hid (fireD_in (s := s) hk)
 obtain ⟨x, hx⟩ : ∃ x, d.net.trans[k]? = some x := ⟨_, List.getElem?_eq_getElem hk⟩
 have hin : Inside x.ins s.marks := fun p hp => by have := places_mem (trPlaces (HV4.out x (List.mem_of_getElem? hx))).1 p hp; have := HML.out; omega
 have HFB := Lib.hid (fireB_some (m := s.marks) hx)
 have HCN := Lib.hid (can_ref d.net _ _ s.marks k x w1 hn1 hm1 hx hin)
 clear hx hin HV4 HML
 go_wp2_with fail
 refine HCN.out.mono ?_
 rintro e w2 ⟨rfl, hb2⟩
 clear HCN
 have hbw2 := bthen hb hb2
 have hB2 := hB.now hb2
 have hC2 := hC.now hb2
 have hZ2 := hZ.now hb2
 have hn2 := hn1.now hb2
 have hx2 := hx1.now hb2
 have hg2 := SlE.now hg1 hb2
 have hw2 := SlWW.now hw1 hb2
 have hm2 := hm1.now hb2
 have hv2 := hv1.now hb2
 clear q0 q1 q2 q3 q4 q5 q6 q7 y0 y1 hB hC hZ hn1 hx1 hg1 hw1 hm1 hv1 hb2 hb
 generalize hcq : canB x.ins s.marks = cq
 have HCQ := Lib.hid hcq
 clear hcq
 obtain ⟨q0, q1, q2, q3, q4, q5, q6, q7⟩ := hB2.c8
 obtain ⟨y0, y1⟩ := hC2.c2
 cases cq
 ·have HR : Hid (fireD d s k = (noSt, 12)) := by show _ = _; rw [HD.out, HFB.out, if_pos (fireT_stuck HCQ.out)]
  obtain ⟨zz0, zz1⟩ := hZ2.c2
  have z0 := hZ2.frozen 0
  have z1 := hZ2.frozen 1
  go_wp2_with fail
  obtain ⟨r0, r1⟩ := (hZ2.set2 (.slice none 0 0) (.slice none 0 0)).c2
  refine bodyPost_ret (v := .tuple #[.agg #[.slice none 0 0, .slice none 0 0], .int .i64 12]) (by simp [results, Tryz.results68, go_sem, r0, r1]) rfl ?_
  rw [HR.out]
  exact ⟨_, rfl, noSt_is _ _, bset2 hbw2 (by omega) _ _⟩
 have H12 : Hid (¬ (fireB d.net s.marks k).2 = 12) := by show ¬ _; rw [HFB.out]; exact fireT_free HCQ.out
 clear HFB HCQ
 have hgl : k < d.guards.length := by have := HPT.out.2.2.1; omega
 obtain ⟨bG, oG, gx, lv, n', hn', rfl, hDG, hxx, hex, hfv, hsl, e0, e1, e2, e3, e4, e5⟩ := hg2.at_ hgl
 obtain ⟨A2, c2', rfl, m1, m2, _⟩ := hsl.open_
 obtain ⟨ty1, ty2, ty3, ty4⟩ := typed_given (List.all_eq_true.1 HPT.out.2.2.2.2.1 gx (List.mem_of_getElem? hxx))
 have HGD : Hid (guardB d.vars s.vals ((d.guards[k]?).getD (.mk 0 noV emptyS [])) = match evX d.vars s.vals gx with | some a => decide (a.n = 1) | none => false) := by show _ = _; rw [hxx]; rfl
 have HCL : Hid (∀ W, Below w2.heap.size w2 W → Calls Tryz.prog 110 #[.slice Ax d.vars.length cx, .slice Av s.vals.length cv, .agg #[.int .i64 gx.op, .int .i64 gx.v.kind, .int .i64 gx.v.n, .string gx.v.s, .string gx.s, .slice A2 gx.l.length c2']] W fun e w' => ∃ v : Val, e = .returned (.tuple #[.agg #[.int .i64 v.kind, .int .i64 v.n, .string v.s], .bool (evX d.vars s.vals gx).isSome]) ∧ (∀ a, evX d.vars s.vals gx = some a → v = a) ∧ Below w2.heap.size w2 w' ∧ Below W.heap.size W w') :=
  fun W hW => (value_ref n' d.vars s.vals gx W _ _ _ ⟨hx2.now hW, hv2.now hW, hex.now hW, valid_ok ty1, ty3, asg_typed HASG.out⟩).mono fun e w' ⟨v, he, hv, hb⟩ => ⟨v, he, hv, bthen hW hb, hb⟩
 have HS : Hid (∀ W, Below w2.heap.size w2 W → W.cell? ⟨w.heap.size, 4, none⟩ = some (.slice Ax d.vars.length cx) ∧ W.cell? ⟨w.heap.size, 6, none⟩ = some (.slice (some ⟨bG, oG, none⟩) d.guards.length cg) ∧ W.cell? ⟨w.heap.size + 1, 1, none⟩ = some (.slice Av s.vals.length cv) ∧ W.cell? ⟨bG, oG + k * 6, none⟩ = some (.int .i64 gx.op) ∧ W.cell? ⟨bG, oG + k * 6 + 1, none⟩ = some (.int .i64 gx.v.kind) ∧ W.cell? ⟨bG, oG + k * 6 + 2, none⟩ = some (.int .i64 gx.v.n) ∧ W.cell? ⟨bG, oG + k * 6 + 3, none⟩ = some (.string gx.v.s) ∧ W.cell? ⟨bG, oG + k * 6 + 4, none⟩ = some (.string gx.s) ∧ W.cell? ⟨bG, oG + k * 6 + 5, none⟩ = some (.slice A2 gx.l.length c2')) := fun W hW => ⟨(hB2.now hW).c8.2.2.2.2.1, (hB2.now hW).c8.2.2.2.2.2.2.1, (hC2.now hW).c2.2, (hW.cell (p := ⟨bG, _, none⟩) hDG).trans e0, (hW.cell (p := ⟨bG, _, none⟩) hDG).trans e1, (hW.cell (p := ⟨bG, _, none⟩) hDG).trans e2, (hW.cell (p := ⟨bG, _, none⟩) hDG).trans e3, (hW.cell (p := ⟨bG, _, none⟩) hDG).trans e4, (hW.cell (p := ⟨bG, _, none⟩) hDG).trans e5⟩
 generalize hev : evX d.vars s.vals gx = ev at *
 clear hev hxx hex hfv hsl hn' ty1 ty2 ty3 ty4 e0 e1 e2 e3 e4 e5 hg2
 have i1 : (0 : Int) ≤ (k : Int) := by omega
 have i2 : (k : Int) < (d.guards.length : Int) := by omega
 have hsz2 := hbw2.size
 go_upto_region 5 with fail
 go_cut [8, 9] (fun s8 s9 W => ∃ (g : Nat) (gv : Val), s8 = .pointer (some ⟨g, 0, none⟩) ∧ s9 = .bool ev.isSome ∧ (∀ a, ev = some a → gv = a) ∧ Blk W g 63 #[.int .i64 gv.kind, .int .i64 gv.n, .string gv.s] ∧ Below w2.heap.size w2 W)
 case first =>
  clear q0 q1 q2 q3 q4 q5 q6 q7 y0 y1
  have hbd : Below w2.heap.size w2 w2.drew := (Below.refl _ _).drew
  have hbz : Below w2.heap.size w2 (w2.alloc (.cells #[.int .i64 0, .int .i64 0, .string ⟨#[]⟩] 63)).drew := (bone w2 (.cells #[.int .i64 0, .int .i64 0, .string ⟨#[]⟩] 63)).drew
  obtain ⟨a0, a1, a2, d0, d1, d2, d3, d4, d5⟩ := HS.out _ hbd
  go_region_held3 (fun W => W.cell? ⟨w.heap.size, 4, none⟩ = some (.slice Ax d.vars.length cx) ∧ W.cell? ⟨w.heap.size, 6, none⟩ = some (.slice (some ⟨bG, oG, none⟩) d.guards.length cg) ∧ W.cell? ⟨w.heap.size + 1, 1, none⟩ = some (.slice Av s.vals.length cv) ∧ W.cell? ⟨bG, oG + k * 6, none⟩ = some (.int .i64 gx.op) ∧ W.cell? ⟨bG, oG + k * 6 + 1, none⟩ = some (.int .i64 gx.v.kind) ∧ W.cell? ⟨bG, oG + k * 6 + 2, none⟩ = some (.int .i64 gx.v.n) ∧ W.cell? ⟨bG, oG + k * 6 + 3, none⟩ = some (.string gx.v.s) ∧ W.cell? ⟨bG, oG + k * 6 + 4, none⟩ = some (.string gx.s) ∧ W.cell? ⟨bG, oG + k * 6 + 5, none⟩ = some (.slice A2 gx.l.length c2')) (first | exact HS.out _ (by assumption) | exact HS.out _ (bbox (by assumption) _) | exact HS.out _ (bset3 (by assumption) (by simp) _ _ _))
   (first | (go_at_call 110; (with_reducible refine (HCL.out _ (by assumption)).mono ?_); rintro e w6 ⟨gv, rfl, hgv, hb6, hb7⟩; (try (have hZ := (Blk.new w2 63 #[.int .i64 0, .int .i64 0, .string ⟨#[]⟩]).drew.now hb7; obtain ⟨z0, z1, z2⟩ := hZ.c3; have f0 := hZ.frozen 0; have f1 := hZ.frozen 1; have f2 := hZ.frozen 2))))
  all_goals (go_wp2_with fail; go_meet)
  all_goals
   first
    | exact ⟨_, _, rfl, rfl, hgv, Blk.new _ _ _, bbox (by assumption) _⟩
    | exact ⟨_, _, rfl, rfl, hgv, Blk.set3 (by assumption) _ _ _, bset3 (by assumption) (by simp) _ _ _⟩
 case rest =>
  obtain ⟨g, gv, rfl, rfl, hgv, hP, hb3⟩ := hcut
  obtain ⟨z0, z1, z2⟩ := hP.c3
  have hbw3 := bthen hbw2 hb3
  have hZ3 := hZ2.now hb3
  have hC3 := hC2.now hb3
  have hB3 := hB2.now hb3
  have hn3 := hn2.now hb3
  have hx3 := hx2.now hb3
  have hw3 := SlWW.now hw2 hb3
  have hm3 := hm2.now hb3
  have hv3 := hv2.now hb3
  clear HS HCL hB2 hC2 hZ2 hn2 hx2 hw2 hm2 hv2
  obtain ⟨wx, hwx⟩ : ∃ z, z = wc := ⟨_, rfl⟩
  subst hwx
  obtain ⟨q0, q1, q2, q3, q4, q5, q6, q7⟩ := hB3.c8
  obtain ⟨y0, y1⟩ := hC3.c2
  clear q0 q2 q3 q5
  cases ev with
  | none =>
   have HR : Hid (fireD d s k = (noSt, 21)) := by show _ = _; rw [HD.out, if_neg H12.out, HGD.out]; rfl
   clear z0 z1 z2
   obtain ⟨zz0, zz1⟩ := hZ3.c2
   have z0 := hZ3.frozen 0
   have z1 := hZ3.frozen 1
   go_wp2_with fail
   obtain ⟨r0, r1⟩ := (hZ3.set2 (.slice none 0 0) (.slice none 0 0)).c2
   refine bodyPost_ret (v := .tuple #[.agg #[.slice none 0 0, .slice none 0 0], .int .i64 21]) (by simp [results, Tryz.results68, go_sem, r0, r1]) rfl ?_
   rw [HR.out]
   exact ⟨_, rfl, noSt_is _ _, bset2 hbw3 (by omega) _ _⟩
  | some a =>
   obtain rfl := hgv a rfl
   by_cases c3 : gv.n = 1
   rotate_left
   ·have HR : Hid (fireD d s k = (noSt, 21)) := by show _ = _; rw [HD.out, if_neg H12.out, if_pos (by rw [HGD.out]; exact decide_eq_false c3)]
    have b3 : (gv.n != 1) = true := by simpa using c3
    clear c3
    obtain ⟨zz0, zz1⟩ := hZ3.c2
    have zf0 := hZ3.frozen 0
    have zf1 := hZ3.frozen 1
    go_wp2_with fail
    obtain ⟨r0, r1⟩ := (hZ3.set2 (.slice none 0 0) (.slice none 0 0)).c2
    refine bodyPost_ret (v := .tuple #[.agg #[.slice none 0 0, .slice none 0 0], .int .i64 21]) (by simp [results, Tryz.results68, go_sem, r0, r1]) rfl ?_
    rw [HR.out]
    exact ⟨_, rfl, noSt_is _ _, bset2 hbw3 (by omega) _ _⟩
   have HG1 : Hid (guardB d.vars s.vals ((d.guards[k]?).getD (.mk 0 noV emptyS [])) = true) := by show _ = _; rw [HGD.out]; exact decide_eq_true c3
   have HD2 : Hid (fireD d s k = match wrsV d.vars s.vals ((d.writes[k]?).getD []) s.vals with
    | none => (noSt, 11)
    | some vs => if (fireB d.net s.marks k).2 ≠ 0 then (noSt, (fireB d.net s.marks k).2) else (⟨(fireB d.net s.marks k).1, vs⟩, 0)) := by show _ = _; rw [HD.out, if_neg H12.out, HG1.out]; rfl
   have b3 : (gv.n != 1) = false := by simpa using c3
   clear c3 hgv HD HG1 HGD
   have HFT := Lib.hid hv3.fits
   have hbE := bone wx (.cells #[] 63)
   have hvE := hv3.now hbE
   obtain ⟨yE0, yE1⟩ := (hC3.now hbE).c2
   have hll : ([] : List Val).length + s.vals.length < 10000000 := by have := HVL.out; have := vars_len HVB.out; simp; omega
   go_wp2_with (at_builtin; refine wpList_appendAllW (fc := cellsV) (R := RVal) appVals rfl (.tmp 57) (.tmp 59) rfl _ cellsV_len [] _ rfl (World.ownsRow_lit (base := wx.heap.size) (e := 63) (size := 3) wx #[] 0 (Nat.le_refl _) (by unfold maxLen; omega) rfl) _ s.vals rfl hvE (fun y c h => h.1) cellsV_one hll (by simp) ?_; intro ov w4 hown hgr hat)
   have hb4 : Below wx.heap.size wx w4 := hbE.trans (below_of_grown hgr (by simp) (fun g hg => by injection hg with hg; exact Nat.le_of_eq hg))
   rw [List.nil_append] at hown
   have hown : OwnV w4 wx.heap.size ov s.vals := hown
   obtain ⟨Ac, kc, rfl, kk1, kk2, _⟩ := (OwnV.sl hown HFT.out).open_
   clear hgr hat hvE hbE z0 z1 z2 yE0 yE1
   have hbw4 := bthen hbw3 hb4
   have hkw : k < d.writes.length := by have := HPT.out.2.2.2.1; omega
   obtain ⟨bA, oA, l, lv, rfl, hDA, hlx, hsl, hcellA⟩ := SlWW.at_ hw3 hkw
   obtain ⟨AW, cW, rfl, lw1, lw2, hsl⟩ := Sl.open_ hsl
   have hslw : SlW n (Lt wx.heap.size) wx (.slice AW l.length cW) l := hsl
   have HWL : Hid (∀ y ∈ l, 0 ≤ y.var ∧ y.var < d.vars.length ∧ typedB d.vars y.x (kindAt d.vars y.var) = true) := by
    have h1 := writes_at HPT.out.2.2.2.2.2 k
    rw [hlx] at h1
    exact wrsB_get l (-1) (by omega) h1
   have HD3 : Hid (fireD d s k = match wrsV d.vars s.vals l s.vals with
    | none => (noSt, 11)
    | some vs => if (fireB d.net s.marks k).2 ≠ 0 then (noSt, (fireB d.net s.marks k).2) else (⟨(fireB d.net s.marks k).1, vs⟩, 0)) := by show _ = _; rw [HD2.out, hlx]; rfl
   clear q1 q4 q6 q7 y0 y1 hlx hsl HD2 hw3 HPT b3 hP hb3
   have a1 : (0 : Int) ≤ (k : Int) := by omega
   have a2 : (k : Int) < (d.writes.length : Int) := by omega
   go_wp2_with fail
   go_loopw [11] (fun i wr => ∃ (j : Nat) (cur : List Val), j ≤ l.length ∧ i = .int .i64 j ∧ wrsV d.vars s.vals l s.vals = wrsV d.vars s.vals (l.drop j) cur ∧ cur.length = s.vals.length ∧ (∀ v ∈ cur, FitV v) ∧ OwnV wr wx.heap.size (.slice Ac s.vals.length kc) cur ∧ Below w.heap.size w wr ∧ Below wx.heap.size wx wr) (fun i _ => l.length - (intOf i).toNat)
   case atStart => exact ⟨0, s.vals, Nat.zero_le _, rfl, rfl, rfl, HFT.out, hown, hbw4, hb4⟩
   case round =>
    obtain ⟨j, cur, hj, rfl, hwv, hcl, hcf, hcur, hbr, hbr3⟩ := hrel
    have HWV := Lib.hid hwv
    have HCL := Lib.hid hcl
    have HCF := Lib.hid hcf
    clear hwv hcl hcf hown hb4 hbw4
    have hB5 := hB3.now hbr3
    have hC5 := hC3.now hbr3
    have hZ5 := hZ3.now hbr3
    have hcell5 := (hbr3.cell (p := ⟨bA, _, none⟩) hDA).trans hcellA
    obtain ⟨q0, q1, q2, q3, q4, q5, q6, q7⟩ := hB5.c8
    obtain ⟨y0, y1⟩ := hC5.c2
    clear q5
    by_cases hlt : j < l.length
    rotate_left
    ·obtain rfl : j = l.length := by omega
     have HDE : Hid (wrsV d.vars s.vals l s.vals = some cur) := by show _ = _; rw [HWV.out, List.drop_eq_nil_of_le (Nat.le_refl _)]; rfl
     have HFC := fireR_ref d.net _ _ s.marks k wr (hn3.now hbr3) (hm3.now hbr3)
     rw [HFE.out] at HFC
     have HFC := Lib.hid HFC
     clear hlt HFE
     go_wp2_with fail
     refine HFC.out.mono ?_
     rintro e w5 ⟨mv, rfl, hm, hb5⟩
     clear HFC
     obtain ⟨Am2, cm2, rfl, mm1, mm2, hm⟩ := Sl.open_ hm
     have hm : SlI (Fr wr.heap.size w5) w5 (.slice Am2 (fireB d.net s.marks k).1.length cm2) (fireB d.net s.marks k).1 := hm
     have hbw5 := bthen hbr hb5
     have hsz5 := hbr.size
     have hszx := hbw3.size
     have hZ6 := hZ5.now hb5
     have hcur6 := OwnV.now hcur hb5
     clear q0 q1 q2 q3 q4 q6 q7 y0 y1 hcell5 hB5 hC5 hZ5
     generalize fireB d.net s.marks k = p at *
     obtain ⟨pm, pc⟩ := p
     dsimp only at *
     by_cases hpc : pc = 0
     ·subst hpc
      have HR : Hid (fireD d s k = (⟨pm, cur⟩, 0)) := by show _ = _; rw [HD3.out, HDE.out]; rfl
      obtain ⟨zz0, zz1⟩ := hZ6.c2
      have z0 := hZ6.frozen 0
      have z1 := hZ6.frozen 1
      have hsv := OwnV.fresh (B := w.heap.size) hcur6 (by omega) HCF.out
      go_wp2_with fail
      obtain ⟨r0, r1⟩ := (hZ6.set2 (.slice Am2 pm.length cm2) (.slice Ac s.vals.length kc)).c2
      refine bodyPost_ret (v := .tuple #[.agg #[.slice Am2 pm.length cm2, .slice Ac s.vals.length kc], .int .i64 0]) (by simp [results, Tryz.results68, go_sem, r0, r1]) rfl ?_
      rw [HR.out]
      refine ⟨_, rfl, ⟨_, _, rfl, ?_, ?_⟩, bset2 hbw5 (by omega) _ _⟩
      ·exact SlI.set2F (hm.from_ (by omega)) hZ6 _ _
      ·exact SlV.set2F hsv hZ6 _ _
     ·have HR : Hid (fireD d s k = (noSt, pc)) := by show _ = _; rw [HD3.out, HDE.out]; exact if_pos hpc
      have bpc : (pc != 0) = true := by simpa using hpc
      clear hpc
      obtain ⟨zz0, zz1⟩ := hZ6.c2
      have z0 := hZ6.frozen 0
      have z1 := hZ6.frozen 1
      go_wp2_with fail
      obtain ⟨r0, r1⟩ := (hZ6.set2 (.slice none 0 0) (.slice none 0 0)).c2
      refine bodyPost_ret (v := .tuple #[.agg #[.slice none 0 0, .slice none 0 0], .int .i64 pc]) (by simp [results, Tryz.results68, go_sem, r0, r1]) rfl ?_
      rw [HR.out]
      exact ⟨_, rfl, noSt_is _ _, bset2 hbw5 (by omega) _ _⟩
    obtain ⟨b2, o2, ⟨yv, yx⟩, lv2, rfl, hD2, hy, hfv, hex, e0, e1, e2, e3, e4, e5, e6⟩ := (SlW.now hslw hbr3).at_ hlt
    have HX := Lib.hid (wrsV_drop (vs := d.vars) (vals := s.vals) hy cur)
    obtain ⟨yv0, yv1, yty⟩ := HWL.out _ (List.mem_of_getElem? hy)
    clear hy
    dsimp only at HX hfv hex yv0 yv1 yty e0 e1 e2 e3 e4 e5 e6
    obtain ⟨tt, rfl⟩ := Int.eq_ofNat_of_zero_le yv0
    obtain ⟨A3, c3, rfl⟩ := hex.slice_
    have htl : tt < d.vars.length := by omega
    obtain ⟨ty1, ty2, ty3, ty4⟩ := typed_given yty
    clear yv0 yv1 yty
    have hb6 := bone wr (.cells #[.int .i64 (tt : Int), .int .i64 yx.op, .int .i64 yx.v.kind, .int .i64 yx.v.n, .string yx.v.s, .string yx.s, .slice A3 yx.l.length c3] 124)
    have hY := Blk.new wr 124 #[.int .i64 (tt : Int), .int .i64 yx.op, .int .i64 yx.v.kind, .int .i64 yx.v.n, .string yx.v.s, .string yx.s, .slice A3 yx.l.length c3]
    have hB7 := hB5.now hb6
    have hC7 := hC5.now hb6
    have hZ7 := hZ5.now hb6
    have hex7 := hex.now hb6
    have hx7 := (hx3.now hbr3).now hb6
    have hv7 := (hv3.now hbr3).now hb6
    have hcur7 := OwnV.now hcur hb6
    have hbw7 := bthen hbr hb6
    have hb37 : Below wx.heap.size wx (wr.alloc (.cells #[.int .i64 (tt : Int), .int .i64 yx.op, .int .i64 yx.v.kind, .int .i64 yx.v.n, .string yx.v.s, .string yx.s, .slice A3 yx.l.length c3] 124)) := hbr3.trans (hb6.mono hbr3.size)
    clear hex hB5 hC5 hZ5 hcur
    have i1 : (0 : Int) ≤ (j : Int) := by omega
    have i2 : (j : Int) < (l.length : Int) := by omega
    go_upto_region 13 with fail
    generalize hw7 : wr.alloc (.cells #[.int .i64 (tt : Int), .int .i64 yx.op, .int .i64 yx.v.kind, .int .i64 yx.v.n, .string yx.v.s, .string yx.s, .slice A3 yx.l.length c3] 124) = w7 at *
    clear hw7 e0 e1 e2 e3 e4 e5 e6 hb6 q0 q1 q2 q3 q4 q6 q7 y0 y1 hcell5
    obtain ⟨q0, q1, q2, q3, q4, q5, q6, q7⟩ := hB7.c8
    obtain ⟨y0, y1⟩ := hC7.c2
    obtain ⟨p0, p1, p2, p3, p4, p5, p6⟩ := hY.c7
    have HCE := Lib.hid (value_ref n d.vars s.vals yx w7 _ _ _ ⟨hx7, hv7, hex7, valid_ok ty1, ty3, asg_typed HASG.out⟩)
    have HVX := Lib.hid (fun a ha => (ev_typed (asg_typed HASG.out) yx (valid_ok ty1) ty3 a ha).2)
    clear ty1 ty2 ty3 ty4 q0 q2 q3 q5
    go_wp2_with fail
    refine HCE.out.mono ?_
    rintro e w8 ⟨av, rfl, hav, hb8⟩
    clear HCE
    have hbw8 := bthen hbw7 hb8
    have hb38 : Below wx.heap.size wx w8 := hb37.trans (hb8.mono hb37.size)
    have hB8 := hB7.now hb8
    have hZ8 := hZ7.now hb8
    have hY8 := hY.now hb8
    have hx8 := hx7.now hb8
    have hcur8 := OwnV.now hcur7 hb8
    clear q1 q4 q6 q7 y0 y1 p0 p1 p2 p3 p4 p5 p6 hB7 hC7 hZ7 hY hx7 hv7 hex7 hcur7 hb8 hb37 hbw7
    have hb9 := bone w8 (.cells #[.int .i64 av.kind, .int .i64 av.n, .string av.s] 63)
    have hVx := Blk.new w8 63 #[.int .i64 av.kind, .int .i64 av.n, .string av.s]
    have hB9 := hB8.now hb9
    have hZ9 := hZ8.now hb9
    have hY9 := hY8.now hb9
    have hx9 := hx8.now hb9
    have hcur9 := OwnV.now hcur8 hb9
    have hbw9 := bthen hbw8 hb9
    have hb39 : Below wx.heap.size wx (w8.alloc (.cells #[.int .i64 av.kind, .int .i64 av.n, .string av.s] 63)) := hb38.trans (hb9.mono hb38.size)
    clear hB8 hZ8 hY8 hx8 hcur8 hb38 hbw8
    go_upto_region 14 with fail
    generalize hw9 : w8.alloc (.cells #[.int .i64 av.kind, .int .i64 av.n, .string av.s] 63) = w9 at *
    clear hw9 hb9
    obtain ⟨_, q1, _, _, q4, _, _, _⟩ := hB9.c8
    obtain ⟨p0, _⟩ := hY9.c7
    obtain ⟨u0, u1, u2⟩ := hVx.c3
    cases he : evX d.vars s.vals yx with
    | none =>
     have HR : Hid (fireD d s k = (noSt, 11)) := by show _ = _; rw [HD3.out, HWV.out, HX.out, he]
     clear he HX HVX
     go_quiet (fail)
     go_upto_region 15 with fail
     generalize hwd : w9.drewN _ = wd
     have hZ10 : Blk wd (w.heap.size + 1 + 1) 33 #[.slice none 0 0, .slice none 0 0] := by rw [← hwd]; exact hZ9.drewN _
     have hbw10 : Below w.heap.size w wd := by rw [← hwd]; exact bdrawn hbw9 _
     clear hwd hbw9
     obtain ⟨zz0, zz1⟩ := hZ10.c2
     have z0 := hZ10.frozen 0
     have z1 := hZ10.frozen 1
     go_wp2_with fail
     obtain ⟨r0, r1⟩ := (hZ10.set2 (.slice none 0 0) (.slice none 0 0)).c2
     refine bodyPost_ret (v := .tuple #[.agg #[.slice none 0 0, .slice none 0 0], .int .i64 11]) (by simp [results, Tryz.results68, go_sem, r0, r1]) rfl ?_
     rw [HR.out]
     exact ⟨_, rfl, noSt_is _ _, bset2 hbw10 (by omega) _ _⟩
    | some a =>
     obtain rfl := hav a he
     have HA := Lib.hid he
     have HVA := Lib.hid (HVX.out av he)
     clear he hav HVX
     obtain ⟨b4, o4, xv, iv4, rfl, hD4, hxv, hvar, _, k0, k1, k2, k3, k4⟩ := hx9.at_ htl
     have HPL := Lib.hid (placeW_at hxv av)
     have HRK := rank_ref xv av _ w9.drew (hvar.now (Below.refl _ _).drew) (tame_of (vars_each HVB.out hxv)) (fit_valid HVA.out)
     unfold valV at HRK
     have HRK := Lib.hid HRK
     clear hxv hvar
     have j1 : (0 : Int) ≤ (tt : Int) := by omega
     have j2 : (tt : Int) < (d.vars.length : Int) := by omega
     generalize hpl : placeV xv av = pl at *
     clear hpl
     go_region_with (go_at_call 111; refine HRK.out.mono ?_; rintro e w10 ⟨rfl, hb10⟩)
     all_goals
      have hb10' : Below w9.heap.size w9 w10 := below_drew_left hb10
      have hbw10 := bthen hbw9 hb10'
      have hb310 : Below wx.heap.size wx w10 := hb39.trans (hb10'.mono hb39.size)
      have hZ10 := hZ9.now hb10'
      have hY10 := hY9.now hb10'
      have hVx10 := hVx.now hb10'
      have hcur10 := OwnV.now hcur9 hb10'
      clear q1 q4 p0 u0 u1 u2 k0 k1 k2 k3 k4
      by_cases hlz : pl < 0
      ·have HR : Hid (fireD d s k = (noSt, 11)) := by show _ = _; rw [HD3.out, HWV.out, HX.out, HA.out]; dsimp only; rw [HPL.out, if_neg (by omega)]
       clear HX HA HPL HRK
       obtain ⟨zz0, zz1⟩ := hZ10.c2
       have z0 := hZ10.frozen 0
       have z1 := hZ10.frozen 1
       go_wp2_with fail
       obtain ⟨r0, r1⟩ := (hZ10.set2 (.slice none 0 0) (.slice none 0 0)).c2
       refine bodyPost_ret (v := .tuple #[.agg #[.slice none 0 0, .slice none 0 0], .int .i64 11]) (by simp [results, Tryz.results68, go_sem, r0, r1]) rfl ?_
       rw [HR.out]
       exact ⟨_, rfl, noSt_is _ _, bset2 hbw10 (by omega) _ _⟩
      ·have HN : Hid (wrsV d.vars s.vals l s.vals = wrsV d.vars s.vals (l.drop (j + 1)) (cur.set tt av)) := by show _ = _; rw [HWV.out, HX.out, HA.out]; dsimp only; rw [HPL.out, if_pos (by omega), Int.toNat_natCast]
       have htc : tt < s.vals.length := by have := HVL.out; omega
       obtain ⟨g2, rfl, hgk, hgb, hgl2⟩ := OwnV.at_slot hcur10 HCL.out (by omega)
       rw [← HCL.out] at hcur10
       obtain ⟨cx', f0, f1, f2, v0, v1, v2⟩ := OwnV.cells hcur10 (k := tt) (by have := HCL.out; omega)
       obtain ⟨p0, _⟩ := hY10.c7
       obtain ⟨u0, u1, u2⟩ := hVx10.c3
       have j3 : (tt : Int) < (s.vals.length : Int) := by omega
       have hszx := hbw3.size
       clear HX HA HPL HRK
       go_wp2_with fail
       go_roundw
       case rel =>
        refine ⟨j + 1, cur.set tt av, by omega, by go_num, HN.out, by rw [List.length_set]; exact HCL.out, fits_set HCF.out tt (fit_valid HVA.out), ?_, (bput3 hbw10 (by omega) _ _ _ _ _ _), bput3 hb310 hgb _ _ _ _ _ _⟩
        have := OwnV.set_ hcur10 (k := tt) (by have := HCL.out; omega) av
        rw [HCL.out] at this
        exact this
       case measure => simp [intOf]; omega
end Go.Proofs.YtlmenhjlgmejkaaGreatDoor
