/- Texts of this seat, merged. -/
import Derived.Test.YtlmenhjlgmejkaaGreatDoorBa32
import Derived.Test.YtlmenhjlgmejkaaGreatDoorBa35
import Derived.Test.YtlmenhjlgmejkaaGreatDoorBa38
set_option linter.unusedSimpArgs false
set_option linter.unusedVariables false
namespace Go.Proofs.YtlmenhjlgmejkaaGreatDoor
open Go.RowKit
section
variable {P : Program} {o : Oper} {a : Act} {w : World} {K : Act → World → Prop} {Q : Exit → Act → World → Prop}
theorem wpM_alloc (t : TypeId) (V : Value) (w' : World) (ho : o.op = .alloc t) (hr : (Instr.alloc t true (.tuple #[])).run P w = .ok V w') (h : K (a.put o.dst V) w') : o.wp P a w K Q := by
  unfold Oper.wp execOp
  simp only [ho, Sem.run_bind, hr, Result.andThen_ok]
  exact h
end
theorem alSt (W : World) : (Instr.alloc 33 true (.tuple #[])).run Tryz.prog W = .ok (.pointer (some ⟨W.heap.size, 0, none⟩)) (W.alloc (.cells #[.slice none 0 0, .slice none 0 0] 33)) := by kernel_rfl
end Go.Proofs.YtlmenhjlgmejkaaGreatDoor

namespace Go.Proofs.YtlmenhjlgmejkaaGreatDoor
open Go.RowKit
set_option maxHeartbeats 16000000 in
set_option maxRecDepth 100000 in
theorem run30_ref (n : Nat) (d : DNet) (s : St) (l : List Int) (u us lv : Value) (w : World) (h : IsDn n (Lt w.heap.size) w u d) (hs : IsSt (Lt w.heap.size) w us s) (hll : SlI (Lt w.heap.size) w lv l) :
    Calls Tryz.prog 15 #[u, us, lv] w (RetStKE (drunB d s l).1 ((drunB d s l).2.1 : Int) (drunB d s l).2.2 w) := by
  have h0 := h
  have hs0 := hs
  obtain ⟨At, ct, Ax, cx, iv, Ag, cg, Aw, cw, rfl, dn1, dn2, dn3, dn4, dn5, ⟨t1, t2⟩, ⟨x1, x2⟩, ⟨g1, g2⟩, v1, v2⟩ := h.open_
  obtain ⟨Am, cm, Av, cv, rfl, s1, s2, ⟨t3, t4⟩, t5, t6⟩ := hs.open_
  obtain ⟨Al, cl, rfl, l1, l2, hll⟩ := hll.open_
  clear h hs dn1 dn2 dn3 dn4 dn5
  have hb0 := bone w (.cells #[.int .i64 d.net.places, .slice At d.net.trans.length ct, .int .i64 d.net.source, .int .i64 d.net.sink, .slice Ax d.vars.length cx, iv, .slice Ag d.guards.length cg, .slice Aw d.writes.length cw] 30)
  have hb1 := bbox hb0 (.cells #[.slice Am s.marks.length cm, .slice Av s.vals.length cv] 33)
  have hb := bbox hb1 (.cells #[.slice none 0 0, .slice none 0 0] 33)
  have hB := ((Blk.new w 30 #[.int .i64 d.net.places, .slice At d.net.trans.length ct, .int .i64 d.net.source, .int .i64 d.net.sink, .slice Ax d.vars.length cx, iv, .slice Ag d.guards.length cg, .slice Aw d.writes.length cw]).alloc (.cells #[.slice Am s.marks.length cm, .slice Av s.vals.length cv] 33)).alloc (.cells #[.slice none 0 0, .slice none 0 0] 33)
  have hC := (Blk.new_at (t := 33) (cs := #[.slice Am s.marks.length cm, .slice Av s.vals.length cv]) (w := w.alloc (.cells #[.int .i64 d.net.places, .slice At d.net.trans.length ct, .int .i64 d.net.source, .int .i64 d.net.sink, .slice Ax d.vars.length cx, iv, .slice Ag d.guards.length cg, .slice Aw d.writes.length cw] 30)) (s := w.heap.size + 1) (by simp)).alloc (.cells #[.slice none 0 0, .slice none 0 0] 33)
  have hZ := Blk.new_at (t := 33) (cs := #[.slice none 0 0, .slice none 0 0]) (w := (w.alloc (.cells #[.int .i64 d.net.places, .slice At d.net.trans.length ct, .int .i64 d.net.source, .int .i64 d.net.sink, .slice Ax d.vars.length cx, iv, .slice Ag d.guards.length cg, .slice Aw d.writes.length cw] 30)).alloc (.cells #[.slice Am s.marks.length cm, .slice Av s.vals.length cv] 33)) (s := w.heap.size + 1 + 1) (by simp)
  have hd1 := h0.now hb
  have hs1 := hs0.now hb
  have hm1 := s1.now hb
  have hv1 := s2.now hb
  clear hs0 hb0 hb1 s1 s2
  have HD : Hid (drunB d s l = if vstateB d s = false then (noSt, 0, 1) else if 1000 < l.length then (noSt, 0, 5) else drunFrom d s l 0) := rfl
  go_enter Tryz.func15, Tryz.ntmps15
  go_upto_region 1 with fail
  generalize hw1e : ((w.alloc (.cells #[.int .i64 d.net.places, .slice At d.net.trans.length ct, .int .i64 d.net.source, .int .i64 d.net.sink, .slice Ax d.vars.length cx, iv, .slice Ag d.guards.length cg, .slice Aw d.writes.length cw] 30)).alloc (.cells #[.slice Am s.marks.length cm, .slice Av s.vals.length cv] 33)).alloc (.cells #[.slice none 0 0, .slice none 0 0] 33) = w1 at *
  clear hw1e
  obtain ⟨q0, q1, q2, q3, q4, q5, q6, q7⟩ := hB.c8
  obtain ⟨y0, y1⟩ := hC.c2
  go_wp2_with fail
  refine (dvstate_ref n d s _ _ _ hd1 hs1).mono ?_
  rintro e w2 ⟨rfl, hb2⟩
  have hbw2 := bthen hb hb2
  have hB2 := hB.now hb2
  have hC2 := hC.now hb2
  have hZ2 := hZ.now hb2
  have hm2 := hm1.now hb2
  have hv2 := hv1.now hb2
  clear q0 q1 q2 q3 q4 q5 q6 q7 y0 y1 hB hC hZ hd1 hs1 hm1 hv1 hb2
  cases hq : vstateB d s
  · have HR : Hid (drunB d s l = (noSt, 0, 1)) := by show _ = _; rw [HD.out, if_pos hq]
    clear hq
    obtain ⟨zz0, zz1⟩ := hZ2.c2
    have z0 := hZ2.frozen 0
    have z1 := hZ2.frozen 1
    go_wp2_with fail
    obtain ⟨r0, r1⟩ := (hZ2.set2 (.slice none 0 0) (.slice none 0 0)).c2
    refine bodyPost_ret (v := .tuple #[.agg #[.slice none 0 0, .slice none 0 0], .int .i64 0, .int .i64 1]) (by simp [results, Tryz.results15, go_sem, r0, r1]) rfl ?_
    rw [HR.out]
    exact ⟨_, rfl, noSt_is _ _, bset2 hbw2 (by omega) _ _⟩
  by_cases hlen : 1000 < l.length
  · have HR : Hid (drunB d s l = (noSt, 0, 5)) := by show _ = _; rw [HD.out, if_neg (by rw [hq]; simp), if_pos hlen]
    clear hq
    obtain ⟨zz0, zz1⟩ := hZ2.c2
    have z0 := hZ2.frozen 0
    have z1 := hZ2.frozen 1
    go_wp2_with fail
    obtain ⟨r0, r1⟩ := (hZ2.set2 (.slice none 0 0) (.slice none 0 0)).c2
    refine bodyPost_ret (v := .tuple #[.agg #[.slice none 0 0, .slice none 0 0], .int .i64 0, .int .i64 5]) (by simp [results, Tryz.results15, go_sem, r0, r1]) rfl ?_
    rw [HR.out]
    exact ⟨_, rfl, noSt_is _ _, bset2 hbw2 (by omega) _ _⟩
  have HR : Hid (drunB d s l = drunFrom d s l 0) := by show _ = _; rw [HD.out, if_neg (by rw [hq]; simp), if_neg hlen]
  have HV := Lib.hid hq
  have hmb : s.marks.length ≤ 1000 := by
    have a := (validOk (state_parts (vstate_parts hq).2).1)
    have b := (markOk (n := d.net) (state_parts (vstate_parts hq).2).2.1).1
    omega
  have hvb : s.vals.length ≤ 1000 := by
    have a := (asg_parts (state_parts (vstate_parts hq).2).2.2)
    have b := a.1
    unfold varsB at b
    simp only [Bool.and_eq_true, decide_eq_true_eq] at b
    omega
  clear hq HD
  have hsz2 : w.heap.size + 3 ≤ w2.heap.size := by have := hZ2.lt; omega
  have HS : Hid (∀ W, Below w2.heap.size w2 W → W.cell? ⟨w.heap.size + 1, 0, none⟩ = some (.slice Am s.marks.length cm) ∧ W.cell? ⟨w.heap.size + 1, 1, none⟩ = some (.slice Av s.vals.length cv)) := fun W hW => (hC2.now hW).c2
  have HM : Hid (∀ W, Below w2.heap.size w2 W → SlI (Lt W.heap.size) W (.slice Am s.marks.length cm) s.marks) := fun W hW => hm2.now hW
  have HVL : Hid (∀ W, Below w2.heap.size w2 W → SlV (Lt W.heap.size) W (.slice Av s.vals.length cv) s.vals) := fun W hW => hv2.now hW
  have HMF := Lib.hid hm2.fits
  have HVF := Lib.hid hv2.fits
  clear hm2 hv2
  obtain ⟨y0, y1⟩ := hC2.c2
  go_upto_region 5 with fail
  go_cut [9] (fun s9 W => ∃ (g : Nat) (A A' : Option Addr) (c c' : Nat), s9 = .pointer (some ⟨g, 0, none⟩) ∧ w2.heap.size ≤ g ∧ Blk W g 33 #[.slice A s.marks.length c, .slice A' s.vals.length c'] ∧ SlI (Fr w2.heap.size W) W (.slice A s.marks.length c) s.marks ∧ SlV (Fr w2.heap.size W) W (.slice A' s.vals.length c') s.vals ∧ Below w2.heap.size w2 W)
  case first =>
    rename_i J1 K1 hJ hK
    refine wp_region_make (by kernel_rfl) 10 (by kernel_rfl) (by kernel_rfl) (by kernel_rfl) (by kernel_rfl) (cpF s (.pointer (some ⟨w.heap.size + 1, 0, none⟩)) (.pointer (some ⟨w.heap.size + 1, 1, none⟩)) (.slice Am s.marks.length cm) (.slice Av s.vals.length cv) w2.heap.size) (cpF_now _ _ _ _ _ _) ?hall ?hstep ?hlast
    case hall => exact hall_of (by kernel_rfl)
    case hlast =>
      intro o ho a W hk hb hF
      injection ho with ho
      subst ho
      obtain ⟨g, e9, hg, hG⟩ := (show cpF s (.pointer (some ⟨w.heap.size + 1, 0, none⟩)) (.pointer (some ⟨w.heap.size + 1, 1, none⟩)) (.slice Am s.marks.length cm) (.slice Av s.vals.length cv) w2.heap.size 9 (Act.slot a 9) W from hF 9 (by decide))
      obtain ⟨A, c, A', c', e8, h1, h2⟩ := (show cpF s (.pointer (some ⟨w.heap.size + 1, 0, none⟩)) (.pointer (some ⟨w.heap.size + 1, 1, none⟩)) (.slice Am s.marks.length cm) (.slice Av s.vals.length cv) w2.heap.size 8 (Act.slot a 30) W from hF 8 (by decide))
      obtain ⟨zz0, zz1⟩ := hG.c2
      refine wpM_store 33 (.tmp 9) (.tmp 30) _ _ _ () rfl e9 e8 (by simp [go_sem, zz0, zz1, hG.frozen]; rfl) ⟨_, rfl, fun a'' hk'' hs => ?_⟩
      have h9 : Act.slot a'' 9 = .pointer (some ⟨g, 0, none⟩) := (congrFun hs 9).trans e9
      have hbF : Below w2.heap.size w2 _ := bset2 (w := w2) (show Below w2.heap.size w2 W from (Below.refl _ _).drew.trans hb) hg (.slice A s.marks.length c) (.slice A' s.vals.length c')
      have hGF := hG.set2 (.slice A s.marks.length c) (.slice A' s.vals.length c')
      have h1F := SlI.set2F h1 hG (.slice A s.marks.length c) (.slice A' s.vals.length c')
      have h2F := SlV.set2F h2 hG (.slice A s.marks.length c) (.slice A' s.vals.length c')
      refine hK _ _ ?_
      rw [hk''.form (by kernel_rfl)]
      simp only [putsAll, Option.getD_some, Act.put, List.setIfInBounds_toArray, List.set_cons_zero, List.set_cons_succ, h9]
      go_meet
      exact ⟨g, _, _, _, _, rfl, hg, hGF, h1F, h2F, hbF⟩
    case hstep =>
      refine ⟨fun a W hk hb hd => ?_, ?_⟩
      · show Oper.wp _ _ a W _ _
        refine wpM_slice _ _ _ _ _ _ rfl ?_ (bsI0 W) ⟨_, rfl, bone _ _, ?_⟩
        · simp
        · exact ⟨_, rfl, World.ownsRow_lit (base := w2.heap.size) (e := 3) (size := 1) W #[] 0 hb.size (by unfold maxLen; omega) rfl⟩
      refine ⟨fun a W hk hb hd => ?_, ?_⟩
      · show Oper.wp _ _ a W _ _
        have k4 : a.eval (.tmp 4) = .pointer (some ⟨w.heap.size + 1, 0, none⟩) := hk.same (s := 4) (by kernel_rfl)
        refine wpM_field _ _ _ _ _ rfl k4 (by simp [go_sem]; rfl) ⟨_, rfl, Below.refl _ _, ?_⟩
        exact rfl
      refine ⟨fun a W hk hb hd => ?_, ?_⟩
      · show Oper.wp _ _ a W _ _
        have e1 : a.eval (.tmp 23) = .pointer (some ⟨w.heap.size + 1, 0, none⟩) := (show cpF s (.pointer (some ⟨w.heap.size + 1, 0, none⟩)) (.pointer (some ⟨w.heap.size + 1, 1, none⟩)) (.slice Am s.marks.length cm) (.slice Av s.vals.length cv) w2.heap.size 1 (Act.slot a 23) W from hd 1 (by kernel_rfl))
        obtain ⟨c0, c1⟩ := HS.out W ((Below.refl _ _).drew.trans hb)
        refine wpM_load _ _ _ (.slice Am s.marks.length cm) rfl e1 (by simp [go_sem, c0, c1]) ⟨_, rfl, Below.refl _ _, ?_⟩
        exact rfl
      refine ⟨fun a W hk hb hd => ?_, ?_⟩
      · show Oper.wp _ _ a W _ _
        obtain ⟨g, e0, hown⟩ := (show cpF s (.pointer (some ⟨w.heap.size + 1, 0, none⟩)) (.pointer (some ⟨w.heap.size + 1, 1, none⟩)) (.slice Am s.marks.length cm) (.slice Av s.vals.length cv) w2.heap.size 0 (Act.slot a 22) W from hd 0 (by kernel_rfl))
        have e2 : a.eval (.tmp 24) = .slice Am s.marks.length cm := (show cpF s (.pointer (some ⟨w.heap.size + 1, 0, none⟩)) (.pointer (some ⟨w.heap.size + 1, 1, none⟩)) (.slice Am s.marks.length cm) (.slice Av s.vals.length cv) w2.heap.size 2 (Act.slot a 24) W from hd 2 (by kernel_rfl))
        rw [e0] at hown
        refine wpM_appLit (fc := fun y => [Value.int .i64 y]) (R := RInt) appInts (.tmp 22) (.tmp 24) rfl W (fun _ => rfl) g e0 hown _ s.marks e2 (HM.out W ((Below.refl _ _).drew.trans hb)) (fun y c h => h.1) cellsI_one (by omega) (hb.size) ?_
        intro v' w' ho' hb'
        unfold OwnW at ho'
        rw [flat_ints] at ho'
        have hsl := SlI.of_ownF (B := w2.heap.size) ho' (Nat.le_refl _) HMF.out
        obtain ⟨A, c, rfl, _, _, _⟩ := hsl.open_
        exact ⟨_, rfl, hb', A, c, rfl, hsl⟩
      refine ⟨fun a W hk hb hd => ?_, ?_⟩
      · show Oper.wp _ _ a W _ _
        refine wpM_slice _ _ _ _ _ _ rfl ?_ (bsV0 W) ⟨_, rfl, bone _ _, ?_⟩
        · simp
        · exact ⟨_, rfl, World.ownsRow_lit (base := w2.heap.size) (e := 63) (size := 3) W #[] 0 hb.size (by unfold maxLen; omega) rfl⟩
      refine ⟨fun a W hk hb hd => ?_, ?_⟩
      · show Oper.wp _ _ a W _ _
        have k4 : a.eval (.tmp 4) = .pointer (some ⟨w.heap.size + 1, 0, none⟩) := hk.same (s := 4) (by kernel_rfl)
        refine wpM_field _ _ _ _ _ rfl k4 (by simp [go_sem]; rfl) ⟨_, rfl, Below.refl _ _, ?_⟩
        exact rfl
      refine ⟨fun a W hk hb hd => ?_, ?_⟩
      · show Oper.wp _ _ a W _ _
        have e1 : a.eval (.tmp 27) = .pointer (some ⟨w.heap.size + 1, 1, none⟩) := (show cpF s (.pointer (some ⟨w.heap.size + 1, 0, none⟩)) (.pointer (some ⟨w.heap.size + 1, 1, none⟩)) (.slice Am s.marks.length cm) (.slice Av s.vals.length cv) w2.heap.size 5 (Act.slot a 27) W from hd 5 (by kernel_rfl))
        obtain ⟨c0, c1⟩ := HS.out W ((Below.refl _ _).drew.trans hb)
        refine wpM_load _ _ _ (.slice Av s.vals.length cv) rfl e1 (by simp [go_sem, c0, c1]) ⟨_, rfl, Below.refl _ _, ?_⟩
        exact rfl
      refine ⟨fun a W hk hb hd => ?_, ?_⟩
      · show Oper.wp _ _ a W _ _
        obtain ⟨g, e0, hown⟩ := (show cpF s (.pointer (some ⟨w.heap.size + 1, 0, none⟩)) (.pointer (some ⟨w.heap.size + 1, 1, none⟩)) (.slice Am s.marks.length cm) (.slice Av s.vals.length cv) w2.heap.size 4 (Act.slot a 26) W from hd 4 (by kernel_rfl))
        have e2 : a.eval (.tmp 28) = .slice Av s.vals.length cv := (show cpF s (.pointer (some ⟨w.heap.size + 1, 0, none⟩)) (.pointer (some ⟨w.heap.size + 1, 1, none⟩)) (.slice Am s.marks.length cm) (.slice Av s.vals.length cv) w2.heap.size 6 (Act.slot a 28) W from hd 6 (by kernel_rfl))
        rw [e0] at hown
        refine wpM_appLit (fc := cellsV) (R := RVal) appVals (.tmp 26) (.tmp 28) rfl W cellsV_len g e0 hown _ s.vals e2 (HVL.out W ((Below.refl _ _).drew.trans hb)) (fun y c h => h.1) cellsV_one (by omega) (hb.size) ?_
        intro v' w' ho' hb'
        have hsl := OwnV.fresh (B := w2.heap.size) ho' (Nat.le_refl _) HVF.out
        obtain ⟨A, c, rfl, _, _, hsl⟩ := Sl.open_ hsl
        exact ⟨_, rfl, hb', A, c, rfl, hsl⟩
      refine ⟨fun a W hk hb hd => ?_, ?_⟩
      · show Oper.wp _ _ a W _ _
        obtain ⟨A, c, e3, h1⟩ := (show cpF s (.pointer (some ⟨w.heap.size + 1, 0, none⟩)) (.pointer (some ⟨w.heap.size + 1, 1, none⟩)) (.slice Am s.marks.length cm) (.slice Av s.vals.length cv) w2.heap.size 3 (Act.slot a 25) W from hd 3 (by kernel_rfl))
        obtain ⟨A', c', e7, h2⟩ := (show cpF s (.pointer (some ⟨w.heap.size + 1, 0, none⟩)) (.pointer (some ⟨w.heap.size + 1, 1, none⟩)) (.slice Am s.marks.length cm) (.slice Av s.vals.length cv) w2.heap.size 7 (Act.slot a 29) W from hd 7 (by kernel_rfl))
        rw [e3] at h1
        rw [e7] at h2
        refine wpM_build _ _ _ _ rfl ?_ (bSt A A' s.marks.length s.vals.length c c' W) ⟨_, rfl, Below.refl _ _, ?_⟩
        · have ev3 : a.eval (.tmp 25) = _ := e3; have ev7 : a.eval (.tmp 29) = _ := e7; simp [ev3, ev7]
        · exact ⟨_, _, _, _, rfl, h1, h2⟩
      refine ⟨fun a W hk hb hd => ?_, trivial⟩
      · show Oper.wp _ _ a W _ _
        refine wpM_alloc _ _ _ rfl (alSt W) ⟨_, rfl, bone _ _, ?_⟩
        exact ⟨_, rfl, hb.size, Blk.new W 33 #[.slice none 0 0, .slice none 0 0]⟩
  case rest =>
    obtain ⟨g9, A9, A9', c9, c9', rfl, hg9, hC4, hm4, hv4, hb4⟩ := hcut
    have hB4 := hB2.now hb4
    have hZ4 := hZ2.now hb4
    have hbw4 := bthen hbw2 hb4
    have hm4 := hm4.weak
    have hv4 := hv4.weak
    clear HS HM HVL hB2 hC2 hZ2 hb4 hbw2 y0 y1
    have hg9w : w.heap.size + 3 ≤ g9 := by omega
    go_wp2_with fail
    go_loopw [10] (fun i wr => ∃ (j : Nat) (cur : St) (Am cm Av cv : _), j ≤ l.length ∧ i = .int .i64 j ∧ drunFrom d s l 0 = drunFrom d cur (l.drop j) j ∧ vstateB d cur = true ∧ Blk wr g9 33 #[.slice Am cur.marks.length cm, .slice Av cur.vals.length cv] ∧ SlI (Lt wr.heap.size) wr (.slice Am cur.marks.length cm) cur.marks ∧ SlV (Lt wr.heap.size) wr (.slice Av cur.vals.length cv) cur.vals ∧ Blk wr w.heap.size 30 #[.int .i64 d.net.places, .slice At d.net.trans.length ct, .int .i64 d.net.source, .int .i64 d.net.sink, .slice Ax d.vars.length cx, iv, .slice Ag d.guards.length cg, .slice Aw d.writes.length cw] ∧ Blk wr (w.heap.size + 1 + 1) 33 #[.slice none 0 0, .slice none 0 0] ∧ Below w.heap.size w wr) (fun i _ => l.length - (intOf i).toNat)
    case atStart => exact ⟨0, s, _, _, _, _, Nat.zero_le _, rfl, rfl, HV.out, hC4, hm4, hv4, hB4, hZ4, hbw4⟩
    case round =>
      obtain ⟨j, cur, Am, cm, Av, cv, hj, rfl, hrun, hvs, hCr, hmr, hvr, hBr, hZr, hbr⟩ := hrel
      have HRN := Lib.hid hrun
      have HVS := Lib.hid hvs
      clear hrun hvs hC4 hm4 hv4 hB4 hZ4 hbw4
      have hszr := hCr.lt
      obtain ⟨y0, y1⟩ := hCr.c2
      by_cases hlt : j < l.length
      rotate_left
      · obtain rfl : j = l.length := by omega
        obtain ⟨zz0, zz1⟩ := hZr.c2
        have z0 := hZr.frozen 0
        have z1 := hZr.frozen 1
        go_wp2_with fail
        obtain ⟨r0, r1⟩ := (hZr.set2 (.slice Am cur.marks.length cm) (.slice Av cur.vals.length cv)).c2
        refine bodyPost_ret (v := .tuple #[.agg #[.slice Am cur.marks.length cm, .slice Av cur.vals.length cv], .int .i64 l.length, .int .i64 0]) (by simp [results, Tryz.results15, go_sem, r0, r1]) rfl ?_
        rw [HR.out, HRN.out, drun_end]
        refine ⟨_, rfl, ⟨_, _, rfl, ?_, ?_⟩, bset2 hbr (by omega) _ _⟩
        · exact SlI.set2 hmr hZr _ _
        · exact SlV.set2 hvr hZr _ _
      obtain ⟨b, o, t, rfl, hD, hx, hf, c0⟩ := (hll.now hbr).at_ hlt
      have HX := Lib.hid (drun_drop (d := d) (s := cur) hx)
      clear hx
      have HCL : Hid (∀ W, Below wr.heap.size wr W → Calls Tryz.prog 68 #[.agg #[.int .i64 d.net.places, .slice At d.net.trans.length ct, .int .i64 d.net.source, .int .i64 d.net.sink, .slice Ax d.vars.length cx, iv, .slice Ag d.guards.length cg, .slice Aw d.writes.length cw], .agg #[.slice Am cur.marks.length cm, .slice Av cur.vals.length cv], .int .i64 t] W fun e w' => ∃ A c A' c', e = .returned (.tuple #[.agg #[.slice A (fireD d cur t).1.marks.length c, .slice A' (fireD d cur t).1.vals.length c'], .int .i64 (fireD d cur t).2]) ∧ SlI (Fr wr.heap.size w') w' (.slice A (fireD d cur t).1.marks.length c) (fireD d cur t).1.marks ∧ SlV (Fr wr.heap.size w') w' (.slice A' (fireD d cur t).1.vals.length c') (fireD d cur t).1.vals ∧ Below wr.heap.size wr w' ∧ Below W.heap.size W w') := fun W hW => by
        refine (after_ref n d cur t _ _ W ((h0.now hbr).now hW) ⟨_, _, rfl, hmr.now hW, hvr.now hW⟩ HVS.out).mono ?_
        rintro e w' ⟨u, rfl, hu, hb'⟩
        obtain ⟨A, c, A', c', rfl, h1, h2, _, _, _⟩ := hu.open_
        exact ⟨A, c, A', c', rfl, h1.from_ hW.size, h2.from_ hW.size, bthen hW hb', hb'⟩
      have HKS : Hid ((fireD d cur t).2 = 0 → vstateB d (fireD d cur t).1 = true) := fun hc => by
        obtain ⟨p1, p2⟩ := vstate_parts HVS.out
        unfold vstateB
        rw [p1, fire_state p1 p2 hc]; rfl
      have HS : Hid (∀ W, Below wr.heap.size wr W → W.cell? ⟨w.heap.size, 0, none⟩ = some (.int .i64 d.net.places) ∧ W.cell? ⟨w.heap.size, 1, none⟩ = some (.slice At d.net.trans.length ct) ∧ W.cell? ⟨w.heap.size, 2, none⟩ = some (.int .i64 d.net.source) ∧ W.cell? ⟨w.heap.size, 3, none⟩ = some (.int .i64 d.net.sink) ∧ W.cell? ⟨w.heap.size, 4, none⟩ = some (.slice Ax d.vars.length cx) ∧ W.cell? ⟨w.heap.size, 5, none⟩ = some iv ∧ W.cell? ⟨w.heap.size, 6, none⟩ = some (.slice Ag d.guards.length cg) ∧ W.cell? ⟨w.heap.size, 7, none⟩ = some (.slice Aw d.writes.length cw) ∧ W.cell? ⟨g9, 0, none⟩ = some (.slice Am cur.marks.length cm) ∧ W.cell? ⟨g9, 1, none⟩ = some (.slice Av cur.vals.length cv) ∧ W.cell? ⟨b, o + j, none⟩ = some (.int .i64 t)) := fun W hW => by
        obtain ⟨q0, q1, q2, q3, q4, q5, q6, q7⟩ := (hBr.now hW).c8
        obtain ⟨y0, y1⟩ := (hCr.now hW).c2
        exact ⟨q0, q1, q2, q3, q4, q5, q6, q7, y0, y1, (hW.cell (p := ⟨b, _, none⟩) hD).trans c0⟩
      generalize fireD d cur t = p at *
      have i1 : (0 : Int) ≤ (j : Int) := by omega
      have i2 : (j : Int) < (l.length : Int) := by omega
      clear c0
      go_upto_region 9 with fail
      clear y0 y1
      go_cut [11, 12] (fun s11 s12 W => ∃ (g : Nat) (A A' : Option Addr) (c c' : Nat), s11 = .pointer (some ⟨g, 0, none⟩) ∧ s12 = .int .i64 p.2 ∧ wr.heap.size ≤ g ∧ Blk W g 33 #[.slice A p.1.marks.length c, .slice A' p.1.vals.length c'] ∧ SlI (Fr wr.heap.size W) W (.slice A p.1.marks.length c) p.1.marks ∧ SlV (Fr wr.heap.size W) W (.slice A' p.1.vals.length c') p.1.vals ∧ Below wr.heap.size wr W)
      case first =>
        have hbd : Below wr.heap.size wr wr.drew := (Below.refl _ _).drew
        have hbz : Below wr.heap.size wr (wr.alloc (.cells #[.slice none 0 0, .slice none 0 0] 33)).drew := (bone wr (.cells #[.slice none 0 0, .slice none 0 0] 33)).drew
        obtain ⟨q0, q1, q2, q3, q4, q5, q6, q7, y0, y1, c0⟩ := HS.out _ hbd
        go_region_held3 (fun W => W.cell? ⟨w.heap.size, 0, none⟩ = some (.int .i64 d.net.places) ∧ W.cell? ⟨w.heap.size, 1, none⟩ = some (.slice At d.net.trans.length ct) ∧ W.cell? ⟨w.heap.size, 2, none⟩ = some (.int .i64 d.net.source) ∧ W.cell? ⟨w.heap.size, 3, none⟩ = some (.int .i64 d.net.sink) ∧ W.cell? ⟨w.heap.size, 4, none⟩ = some (.slice Ax d.vars.length cx) ∧ W.cell? ⟨w.heap.size, 5, none⟩ = some iv ∧ W.cell? ⟨w.heap.size, 6, none⟩ = some (.slice Ag d.guards.length cg) ∧ W.cell? ⟨w.heap.size, 7, none⟩ = some (.slice Aw d.writes.length cw) ∧ W.cell? ⟨g9, 0, none⟩ = some (.slice Am cur.marks.length cm) ∧ W.cell? ⟨g9, 1, none⟩ = some (.slice Av cur.vals.length cv) ∧ W.cell? ⟨b, o + j, none⟩ = some (.int .i64 t)) (first | exact HS.out _ (by assumption) | exact HS.out _ (bbox (by assumption) _) | exact HS.out _ (bset2 (by assumption) (by simp) _ _))
          (first | (go_at_call 68; (with_reducible refine (HCL.out _ (by assumption)).mono ?_); rintro e w6 ⟨A6, c6, A6', c6', rfl, hm6, hv6, hb6, hb7⟩; (try (have hZ := (Blk.new wr 33 #[.slice none 0 0, .slice none 0 0]).drew.now hb7; obtain ⟨z0, z1⟩ := hZ.c2; have f0 := hZ.frozen 0; have f1 := hZ.frozen 1))))
        all_goals (go_wp2_with fail; go_meet)
        all_goals
          first
            | exact ⟨_, _, _, _, _, rfl, rfl, hb6.size, Blk.new _ _ _, SlI.nowF hm6 (bone _ _), SlV.nowF hv6 (bone _ _), bbox (by assumption) _⟩
            | exact ⟨_, _, _, _, _, rfl, rfl, Nat.le_refl _, Blk.set2 (by assumption) _ _, SlI.set2F hm6 (by assumption) _ _, SlV.set2F hv6 (by assumption) _ _, bset2 (by assumption) (by simp) _ _⟩
      case rest =>
        obtain ⟨g7, A7, A7', c7, c7', rfl, rfl, hg7, hY, hm7, hv7, hb7⟩ := hcut
        have hB7 := hBr.now hb7
        have hC7 := hCr.now hb7
        have hZ7 := hZr.now hb7
        have hbw7 := bthen hbr hb7
        have hm7 := hm7.weak
        have hv7 := hv7.weak
        have hszz : g9 < g7 := by omega
        clear hBr hCr hZr hmr hvr HS HCL hb7
        obtain ⟨ps, pc⟩ := p
        dsimp only at *
        by_cases hpc : pc = 0
        rotate_left
        · have HE : Hid (drunB d s l = (noSt, j, pc)) := by show _ = _; rw [HR.out, HRN.out, HX.out, if_pos hpc]
          have bpc : (pc != 0) = true := by simpa using hpc
          clear hpc
          obtain ⟨zz0, zz1⟩ := hZ7.c2
          have z0 := hZ7.frozen 0
          have z1 := hZ7.frozen 1
          go_wp2_with fail
          obtain ⟨r0, r1⟩ := (hZ7.set2 (.slice none 0 0) (.slice none 0 0)).c2
          refine bodyPost_ret (v := .tuple #[.agg #[.slice none 0 0, .slice none 0 0], .int .i64 j, .int .i64 pc]) (by simp [results, Tryz.results15, go_sem, r0, r1]) rfl ?_
          rw [HE.out]
          exact ⟨_, rfl, noSt_is _ _, bset2 hbw7 (by omega) _ _⟩
        · subst hpc
          have HE : Hid (drunFrom d s l 0 = drunFrom d ps (l.drop (j + 1)) (j + 1)) := by show _ = _; rw [HRN.out, HX.out]; rfl
          obtain ⟨y0, y1⟩ := hC7.c2
          have z0 := hC7.frozen 0
          have z1 := hC7.frozen 1
          obtain ⟨u0, u1⟩ := hY.c2
          go_wp2_with fail
          have hC8 := hC7.set2 (.slice A7 ps.marks.length c7) (.slice A7' ps.vals.length c7')
          have hB8 := (hB7.far (p := ⟨g9, 0, none⟩) (by show w.heap.size ≠ g9; omega) (.slice A7 ps.marks.length c7)).far (p := ⟨g9, 1, none⟩) (by show w.heap.size ≠ g9; omega) (.slice A7' ps.vals.length c7')
          have hZ8 := (hZ7.far (p := ⟨g9, 0, none⟩) (by show w.heap.size + 1 + 1 ≠ g9; omega) (.slice A7 ps.marks.length c7)).far (p := ⟨g9, 1, none⟩) (by show w.heap.size + 1 + 1 ≠ g9; omega) (.slice A7' ps.vals.length c7')
          go_roundw
          case rel => exact ⟨j + 1, ps, _, _, _, _, by omega, by go_num, HE.out, HKS.out rfl, hC8, SlI.set2 hm7 hC7 _ _, SlV.set2 hv7 hC7 _ _, hB8, hZ8, bset2 hbw7 (by omega) _ _⟩
          case measure => simp [intOf]; omega
end Go.Proofs.YtlmenhjlgmejkaaGreatDoor

namespace Go.Proofs.YtlmenhjlgmejkaaGreatDoor
open Go.RowKit
set_option maxHeartbeats 16000000 in
set_option maxRecDepth 100000 in
theorem dataRuns_any {n : Nat} (d : DNet) (s : St) (l : List Int) (u us lv : Value) (w : World) (h : IsDn n (Lt w.heap.size) w u d) (hs : IsSt (Lt w.heap.size) w us s) (hll : SlI (Lt w.heap.size) w lv l) (ha : Amb w) :
    Calls Tryz.prog 3 #[u, us, lv] w (RetTrue w) := by
  have h0 := h
  have hs0 := hs
  obtain ⟨At, ct, Ax, cx, iv, Ag, cg, Aw, cw, rfl, dn1, dn2, dn3, dn4, dn5, ⟨t1, t2⟩, ⟨x1, x2⟩, ⟨g1, g2⟩, v1, v2⟩ := h.open_
  obtain ⟨Am, cm, Av, cv, rfl, s1, s2, ⟨t3, t4⟩, t5, t6⟩ := hs.open_
  obtain ⟨Al, cl, rfl, l1, l2, hll⟩ := Sl.open_ hll
  have hll : SlI (Lt w.heap.size) w (.slice Al l.length cl) l := hll
  clear h hs dn1 dn2 dn3 dn4 dn5 s1 s2
  have hb0 := bone w (.cells #[.int .i64 d.net.places, .slice At d.net.trans.length ct, .int .i64 d.net.source, .int .i64 d.net.sink, .slice Ax d.vars.length cx, iv, .slice Ag d.guards.length cg, .slice Aw d.writes.length cw] 30)
  have hb := bbox hb0 (.cells #[.slice Am s.marks.length cm, .slice Av s.vals.length cv] 33)
  have hB := (Blk.new w 30 #[.int .i64 d.net.places, .slice At d.net.trans.length ct, .int .i64 d.net.source, .int .i64 d.net.sink, .slice Ax d.vars.length cx, iv, .slice Ag d.guards.length cg, .slice Aw d.writes.length cw]).alloc (.cells #[.slice Am s.marks.length cm, .slice Av s.vals.length cv] 33)
  have hC := (Blk.new_at (t := 33) (cs := #[.slice Am s.marks.length cm, .slice Av s.vals.length cv]) (w := w.alloc (.cells #[.int .i64 d.net.places, .slice At d.net.trans.length ct, .int .i64 d.net.source, .int .i64 d.net.sink, .slice Ax d.vars.length cx, iv, .slice Ag d.guards.length cg, .slice Aw d.writes.length cw] 30)) (s := w.heap.size + 1) (by simp))
  have hd1 := h0.now hb
  have hs1 := hs0.now hb
  have hll1 := hll.now hb
  have ha1 := ha.now hb
  clear h0 hs0 hll ha hb0
  go_enter Tryz.func3, Tryz.ntmps3
  go_upto_region 1 with fail
  generalize hw1e : (w.alloc (.cells #[.int .i64 d.net.places, .slice At d.net.trans.length ct, .int .i64 d.net.source, .int .i64 d.net.sink, .slice Ax d.vars.length cx, iv, .slice Ag d.guards.length cg, .slice Aw d.writes.length cw] 30)).alloc (.cells #[.slice Am s.marks.length cm, .slice Av s.vals.length cv] 33) = w1 at *
  clear hw1e
  go_wp2_with fail
  refine (awake_any w1 ha1).mono ?_
  rintro e w2 ⟨rfl, hb2⟩
  have hbw2 := bthen hb hb2
  have hB2 := hB.now hb2
  have hC2 := hC.now hb2
  have hd2 := hd1.now hb2
  have hs2 := hs1.now hb2
  have hll2 := hll1.now hb2
  clear hB hC hd1 hs1 hll1 ha1 hb
  obtain ⟨q0, q1, q2, q3, q4, q5, q6, q7⟩ := hB2.c8
  obtain ⟨y0, y1⟩ := hC2.c2
  go_wp2_with fail
  refine (few_any n d _ w2 hd2).mono ?_
  rintro e w3 ⟨q, rfl, hq, hb3⟩
  have hbw3 := bthen hbw2 hb3
  have hB3 := hB2.now hb3
  have hC3 := hC2.now hb3
  have hd3 := hd2.now hb3
  have hs3 := hs2.now hb3
  have hll3 := hll2.now hb3
  clear hB2 hC2 hd2 hs2 hll2 q0 q1 q2 q3 q4 q5 q6 q7 y0 y1 hbw2
  obtain ⟨q0, q1, q2, q3, q4, q5, q6, q7⟩ := hB3.c8
  obtain ⟨y0, y1⟩ := hC3.c2
  cases q
  · go_wp2_with fail
    go_ret
    exact ⟨rfl, hbw3⟩
  have hl : d.vars.length ≤ 1000000 := by have := (hq rfl).2.2.1; omega
  clear hq
  have HST := Lib.hid (state_any s _ w3 hs3)
  go_wp2_with fail
  refine HST.out.mono ?_
  rintro e w4 ⟨q, rfl, hb4⟩
  have hbw4 := bthen hbw3 hb4
  have hB4 := hB3.now hb4
  have hC4 := hC3.now hb4
  have hd4 := hd3.now hb4
  have hs4 := hs3.now hb4
  have hll4 := hll3.now hb4
  clear HST hB3 hC3 hd3 hs3 hll3 q0 q1 q2 q3 q4 q5 q6 q7 y0 y1 hbw3
  obtain ⟨q0, q1, q2, q3, q4, q5, q6, q7⟩ := hB4.c8
  obtain ⟨y0, y1⟩ := hC4.c2
  cases q
  · go_wp2_with fail
    go_ret
    exact ⟨rfl, hbw4⟩
  by_cases c1 : l.length > 40
  · by_cases c2 : l.length ≤ 1000
    · go_wp2_with fail
      go_ret
      exact ⟨rfl, hbw4⟩
    · by_cases c3 : l.length > 1005
      · go_wp2_with fail
        go_ret
        exact ⟨rfl, hbw4⟩
      · have HR1 := Lib.hid (drun_any n d s l _ _ _ w4 hd4 hs4 hll4 hl)
        go_wp2_with fail
        refine HR1.out.mono ?_
        rintro e w5 ⟨u5, rfl, hu5, hb5⟩
        obtain ⟨A5, c5, B5, d5, rfl, k1, k2, ⟨k3, k4⟩, k5, k6⟩ := hu5.open_
        have hb6 := bone w5 (.cells #[.slice A5 (drunB d s l).1.marks.length c5, .slice B5 (drunB d s l).1.vals.length d5] 33)
        have hX := Blk.new w5 33 #[.slice A5 (drunB d s l).1.marks.length c5, .slice B5 (drunB d s l).1.vals.length d5]
        have hB6 := (hB4.now hb5).now hb6
        have hC6 := (hC4.now hb5).now hb6
        have hd6 := (hd4.now hb5).now hb6
        have hs6 := (hs4.now hb5).now hb6
        have hll6 := (hll4.now hb5).now hb6
        have hu6 := hu5.now hb6
        have hbw6 := bthen (bthen hbw4 hb5) hb6
        clear HR1 k1 k2 hu5 hB4 hC4 hd4 hs4 hll4 q0 q1 q2 q3 q4 q5 q6 q7 y0 y1
        go_upto_region 6 with fail
        generalize hw6 : w5.alloc (.cells #[.slice A5 (drunB d s l).1.marks.length c5, .slice B5 (drunB d s l).1.vals.length d5] 33) = w6 at *
        clear hw6 hb6
        obtain ⟨q0, q1, q2, q3, q4, q5, q6, q7⟩ := hB6.c8
        obtain ⟨y0, y1⟩ := hC6.c2
        have HR2 := Lib.hid (run30_ref n d s l _ _ _ w6 hd6 hs6 hll6)
        go_wp2_with fail
        refine HR2.out.mono ?_
        rintro e w7 ⟨u7, rfl, hu7, hb7⟩
        obtain ⟨A7, c7, B7, d7, rfl, k1, k2, ⟨k3, k4⟩, k5, k6⟩ := hu7.open_
        have hb8 := bone w7 (.cells #[.slice A7 (drunB d s l).1.marks.length c7, .slice B7 (drunB d s l).1.vals.length d7] 33)
        have hY := Blk.new w7 33 #[.slice A7 (drunB d s l).1.marks.length c7, .slice B7 (drunB d s l).1.vals.length d7]
        have hX8 := (hX.now hb7).now hb8
        have hu8 := (hu6.now hb7).now hb8
        have hv8 := hu7.now hb8
        have hbw8 := bthen (bthen hbw6 hb7) hb8
        clear HR2 k1 k2 hu7 hu6 hX hB6 hC6 hd6 hs6 hll6 q0 q1 q2 q3 q4 q5 q6 q7 y0 y1
        go_upto_region 7 with fail
        generalize hw8 : w7.alloc (.cells #[.slice A7 (drunB d s l).1.marks.length c7, .slice B7 (drunB d s l).1.vals.length d7] 33) = w8 at *
        clear hw8 hb8
        obtain ⟨y0, y1⟩ := hX8.c2
        obtain ⟨z0, z1⟩ := hY.c2
        have HS1 := sameSt_ref _ _ _ _ w8 hu8 hv8
        rw [sameSt_self] at HS1
        have HS1 := Lib.hid HS1
        have e1 : ((((drunB d s l).2.1 : Nat) : Int) == (((drunB d s l).2.1 : Nat) : Int)) = true := beq_self_eq_true _
        have e2 : ((drunB d s l).2.2 == (drunB d s l).2.2) = true := beq_self_eq_true _
        generalize drunB d s l = R at *
        go_wp2_with fail
        refine HS1.out.mono ?_
        rintro e w9 ⟨rfl, hb9⟩
        go_wp2_with fail
        go_ret
        exact ⟨rfl, bthen hbw8 hb9⟩
  · have c3 : ¬ l.length > 1005 := by omega
    have HR1 := Lib.hid (drun_any n d s l _ _ _ w4 hd4 hs4 hll4 hl)
    go_wp2_with fail
    refine HR1.out.mono ?_
    rintro e w5 ⟨u5, rfl, hu5, hb5⟩
    obtain ⟨A5, c5, B5, d5, rfl, k1, k2, ⟨k3, k4⟩, k5, k6⟩ := hu5.open_
    have hb6 := bone w5 (.cells #[.slice A5 (drunB d s l).1.marks.length c5, .slice B5 (drunB d s l).1.vals.length d5] 33)
    have hX := Blk.new w5 33 #[.slice A5 (drunB d s l).1.marks.length c5, .slice B5 (drunB d s l).1.vals.length d5]
    have hB6 := (hB4.now hb5).now hb6
    have hC6 := (hC4.now hb5).now hb6
    have hd6 := (hd4.now hb5).now hb6
    have hs6 := (hs4.now hb5).now hb6
    have hll6 := (hll4.now hb5).now hb6
    have hu6 := hu5.now hb6
    have hbw6 := bthen (bthen hbw4 hb5) hb6
    clear HR1 k1 k2 hu5 hB4 hC4 hd4 hs4 hll4 q0 q1 q2 q3 q4 q5 q6 q7 y0 y1
    go_upto_region 6 with fail
    generalize hw6 : w5.alloc (.cells #[.slice A5 (drunB d s l).1.marks.length c5, .slice B5 (drunB d s l).1.vals.length d5] 33) = w6 at *
    clear hw6 hb6
    obtain ⟨q0, q1, q2, q3, q4, q5, q6, q7⟩ := hB6.c8
    obtain ⟨y0, y1⟩ := hC6.c2
    have HR2 := Lib.hid (run30_ref n d s l _ _ _ w6 hd6 hs6 hll6)
    go_wp2_with fail
    refine HR2.out.mono ?_
    rintro e w7 ⟨u7, rfl, hu7, hb7⟩
    obtain ⟨A7, c7, B7, d7, rfl, k1, k2, ⟨k3, k4⟩, k5, k6⟩ := hu7.open_
    have hb8 := bone w7 (.cells #[.slice A7 (drunB d s l).1.marks.length c7, .slice B7 (drunB d s l).1.vals.length d7] 33)
    have hY := Blk.new w7 33 #[.slice A7 (drunB d s l).1.marks.length c7, .slice B7 (drunB d s l).1.vals.length d7]
    have hX8 := (hX.now hb7).now hb8
    have hu8 := (hu6.now hb7).now hb8
    have hv8 := hu7.now hb8
    have hbw8 := bthen (bthen hbw6 hb7) hb8
    clear HR2 k1 k2 hu7 hu6 hX hB6 hC6 hd6 hs6 hll6 q0 q1 q2 q3 q4 q5 q6 q7 y0 y1
    go_upto_region 7 with fail
    generalize hw8 : w7.alloc (.cells #[.slice A7 (drunB d s l).1.marks.length c7, .slice B7 (drunB d s l).1.vals.length d7] 33) = w8 at *
    clear hw8 hb8
    obtain ⟨y0, y1⟩ := hX8.c2
    obtain ⟨z0, z1⟩ := hY.c2
    have HS1 := sameSt_ref _ _ _ _ w8 hu8 hv8
    rw [sameSt_self] at HS1
    have HS1 := Lib.hid HS1
    have e1 : ((((drunB d s l).2.1 : Nat) : Int) == (((drunB d s l).2.1 : Nat) : Int)) = true := beq_self_eq_true _
    have e2 : ((drunB d s l).2.2 == (drunB d s l).2.2) = true := beq_self_eq_true _
    generalize drunB d s l = R at *
    go_wp2_with fail
    refine HS1.out.mono ?_
    rintro e w9 ⟨rfl, hb9⟩
    go_wp2_with fail
    go_ret
    exact ⟨rfl, bthen hbw8 hb9⟩
end Go.Proofs.YtlmenhjlgmejkaaGreatDoor

namespace Go.Proofs.YtlmenhjlgmejkaaGreatDoor
open Go.ChangeShapes Go.WideShapes Go.RowKit Go.Deep
section
variable {H : Type} {enc : TypeId × Value → H} {w : World} {base : Nat} {spare : Nat → Bool} {held : Bool}
set_option maxRecDepth 100000 in
theorem slice_of {r : Go.Reach} {b0 : Nat} {v : Value} {d : DataW H} {p : List MemPlace} {t e : TypeId} (hs : Tryz.prog.underlying t = some (.slice e)) (hv : Value.okWide Tryz.prog w r b0 t v) (h : DataW.Trod enc Tryz.prog w base spare held t v d p) : ∃ fuel x, DataW.trod enc Tryz.prog w base spare held fuel t [v] = some x := by
  obtain ⟨a, len, cap, rfl⟩ := okWide_slice hs hv
  obtain ⟨fuel, hf⟩ := h
  exact ⟨fuel, (d, p), hf⟩
end
end Go.Proofs.YtlmenhjlgmejkaaGreatDoor

namespace Go.Proofs.YtlmenhjlgmejkaaGreatDoor
open Go.ChangeShapes Go.WideShapes Go.ChangeAt Go.RowKit Go.Deep
theorem readInts : Tryz.prog.readableRec 31 = true := by kernel_rfl
theorem rowInts : 31 < Tryz.prog.types.size := of_decide_eq_true (by kernel_rfl)
end Go.Proofs.YtlmenhjlgmejkaaGreatDoor
