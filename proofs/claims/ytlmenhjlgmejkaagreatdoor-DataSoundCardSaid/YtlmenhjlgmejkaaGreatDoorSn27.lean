/- Merged texts. -/
import Derived.Test.YtlmenhjlgmejkaaGreatDoorSn22
import Derived.Test.YtlmenhjlgmejkaaGreatDoorSn25
set_option linter.all false
namespace Go.Proofs.YtlmenhjlgmejkaaGreatDoor
open Go.RowKit
theorem wpM_assign {P : Program} {o : Oper} {a : Act} {w : World} {K : Act → World → Prop} {Q : Exit → Act → World → Prop} (x : Operand) (V : Value) (ho : o.op = .assign x) (hv : a.eval x = V) (h : K (a.put o.dst V) w) : o.wp P a w K Q := by
 unfold Oper.wp execOp
 simp only [ho, hv]
 exact h
def MvX (mv : Value) (b : Nat) : Prop := mv.ownBlock = some b
structure ExJ (w : World) (base : Nat) (sv mv : Value) (p : Sp) : Prop where
 st : OwnR 2 RSt (MvX mv) w base 33 sv p.states
 mo : OwnM w base mv p.moves
section
variable {w w' : World} {base : Nat} {sv mv : Value} {p : Sp}
theorem ExJ.now (h : ExJ w base sv mv p) (hb : Below w.heap.size w w') : ExJ w' base sv mv p := ⟨h.st.now RSt.kept hb, h.mo.now hb⟩
theorem ExJ.full {f : Bool} (h : ExJ w base sv mv p) : ExJ w base sv mv ⟨p.states, p.moves, f⟩ := ⟨h.st, h.mo⟩
theorem ExJ.apart (h : ExJ w base sv mv p) {g : Nat} (hg : sv.ownBlock = some g) : mv.ownBlock ≠ some g := by
 obtain ⟨cs, h1, _⟩ := h.st
 exact own_apart h1 h.mo (by decide) hg
theorem ExJ.apart' (h : ExJ w base sv mv p) {g : Nat} (hg : mv.ownBlock = some g) : sv.ownBlock ≠ some g := fun e => h.apart e hg
theorem ExJ.off (h : ExJ w base sv mv p) {s : St} {m v : Value} {B : Nat} (hB : w.heap.size ≤ B) (hm : SlI (Fr B w') w' m s.marks) (hv : SlV (Fr B w') w' v s.vals) : RSt (Off (MvX mv) w' sv) w' s [m, v] := by
 have hd : ∀ b, Fr B w' b → Off (MvX mv) w' sv b := fun b hb' => by
  refine ⟨hb'.2, fun e => ?_, fun e => ?_⟩
  ·have := (h.st.lt b e).2
   have := hb'.1
   omega
  ·have := hb'.1
   have := (h.mo.lt b e).2
   omega
 exact ⟨m, v, rfl, Sl.keep hm RInt.kept hd (Same.refl _ _), Sl.keep hv RVal.kept hd (Same.refl _ _)⟩
theorem ExJ.pushM {mv' : Value} {m : Mv} (h : ExJ w base sv mv p) (hmo : OwnM w' base mv' (p.moves ++ [m])) (hg : w.grownBy w' mv.ownBlock) (hat : mv'.ownBlock = mv.ownBlock ∨ mv'.ownBlock = some (w.heap.size + 1)) (hbase : base ≤ w.heap.size) :
  ExJ w' base sv mv' ⟨p.states, p.moves ++ [m], p.full⟩ ∧ Below base w w' := by
 refine ⟨⟨?_, hmo⟩, below_of_grown hg hbase (fun g hg => (h.mo.lt g hg).1)⟩
 refine h.st.regrown RSt.kept hg (fun g hg => ⟨hg, h.apart' hg⟩) (fun b hb => ?_)
 rcases hat with e | e
 ·exact .inl (by unfold MvX at hb ⊢; rw [← e]; exact hb)
 ·unfold MvX at hb
  rw [e] at hb
  injection hb with hb
  exact .inr (by omega)
theorem ExJ.pushS {sv' : Value} {s : St} (h : ExJ w base sv mv p) (hst : OwnR 2 RSt (MvX mv) w' base 33 sv' (p.states ++ [s])) (hg : w.grownBy w' sv.ownBlock) (hbase : base ≤ w.heap.size) :
  ExJ w' base sv' mv ⟨p.states ++ [s], p.moves, p.full⟩ ∧ Below base w w' := by
 obtain ⟨cs, ho, _⟩ := h.st
 exact ⟨⟨hst, h.mo.kept hg (fun g hg => own_apart ho h.mo (by decide) hg)⟩, below_of_grown hg hbase (fun g hg => (World.ownsRow.lt ho g hg).1)⟩
end
def cpS (s : St) (p0 p1 v0 v1 : Value) (B j : Nat) (v : Value) (W : World) : Prop := match j with
 | 9 => (∃ A c, v = .slice A 1 c) ∧ OwnR 2 RSt (MvX (.slice none 0 0)) W B 33 v [s]
 | j => cpF s p0 p1 v0 v1 B j v W
theorem cpS_now (s : St) (p0 p1 v0 v1 : Value) (B : Nat) : ∀ j v W W', cpS s p0 p1 v0 v1 B j v W → Below W.heap.size W W' → cpS s p0 p1 v0 v1 B j v W' := by
 intro j v W W' h hb
 by_cases hj : j = 9
 ·subst hj
  obtain ⟨h1, h2⟩ := h
  exact ⟨h1, h2.now RSt.kept hb⟩
 ·have e : ∀ W, cpS s p0 p1 v0 v1 B j v W = cpF s p0 p1 v0 v1 B j v W := fun W => by
   unfold cpS
   split
   ·exact absurd rfl hj
   ·rfl
  rw [e] at h ⊢
  exact cpF_now _ _ _ _ _ _ j v W W' h hb
theorem bsS1 (A B : Option Addr) (n m c d : Nat) (W : World) : (Instr.buildSlice 44 1 #[(0, .agg #[.slice A n c, .slice B m d])]).run Tryz.prog W = .ok (.slice (some ⟨W.heap.size, 0, none⟩) 1 1) (W.alloc (.cells #[.slice A n c, .slice B m d] 33)) := by kernel_rfl
set_option maxHeartbeats 32000000 in
set_option maxRecDepth 100000 in
theorem explore30_ref (n : Nat) (d : DNet) (s : St) (most : Int) (u us : Value) (w : World) (h : IsDn n (Lt w.heap.size) w u d) (hs : IsSt (Lt w.heap.size) w us s) :
  Calls Tryz.prog 18 #[u, us, .int .i64 most] w (RetEx (dexplE d s most) w) := by
 have h0 := h
 have hs0 := hs
 obtain ⟨At, ct, Ax, cx, iv, Ag, cg, Aw, cw, rfl, dn1, dn2, dn3, dn4, dn5, ⟨t1, t2⟩, ⟨x1, x2⟩, ⟨g1, g2⟩, v1, v2⟩ := h.open_
 obtain ⟨Am, cm, Av, cv, rfl, s1, s2, ⟨t3, t4⟩, t5, t6⟩ := hs.open_
 clear h hs dn1 dn2 dn3 dn4 dn5
 have hb0 := bone w (.cells #[.int .i64 d.net.places, .slice At d.net.trans.length ct, .int .i64 d.net.source, .int .i64 d.net.sink, .slice Ax d.vars.length cx, iv, .slice Ag d.guards.length cg, .slice Aw d.writes.length cw] 30)
 have hb := bbox hb0 (.cells #[.slice Am s.marks.length cm, .slice Av s.vals.length cv] 33)
 have hB := (Blk.new w 30 #[.int .i64 d.net.places, .slice At d.net.trans.length ct, .int .i64 d.net.source, .int .i64 d.net.sink, .slice Ax d.vars.length cx, iv, .slice Ag d.guards.length cg, .slice Aw d.writes.length cw]).alloc (.cells #[.slice Am s.marks.length cm, .slice Av s.vals.length cv] 33)
 have hC := (Blk.new_at (t := 33) (cs := #[.slice Am s.marks.length cm, .slice Av s.vals.length cv]) (w := w.alloc (.cells #[.int .i64 d.net.places, .slice At d.net.trans.length ct, .int .i64 d.net.source, .int .i64 d.net.sink, .slice Ax d.vars.length cx, iv, .slice Ag d.guards.length cg, .slice Aw d.writes.length cw] 30)) (s := w.heap.size + 1) (by simp))
 have hd1 := h0.now hb
 have hs1 := hs0.now hb
 have hm1 := s1.now hb
 have hv1 := s2.now hb
 clear hs0 hb0 s1 s2
 go_enter Tryz.func18, Tryz.ntmps18
 go_upto_region 1 with fail
 generalize hw1e : (w.alloc (.cells #[.int .i64 d.net.places, .slice At d.net.trans.length ct, .int .i64 d.net.source, .int .i64 d.net.sink, .slice Ax d.vars.length cx, iv, .slice Ag d.guards.length cg, .slice Aw d.writes.length cw] 30)).alloc (.cells #[.slice Am s.marks.length cm, .slice Av s.vals.length cv] 33) = w1 at *
 clear hw1e
 obtain ⟨q0, q1, q2, q3, q4, q5, q6, q7⟩ := hB.c8
 obtain ⟨y0, y1⟩ := hC.c2
 go_wp2_with fail
 refine (dvstate_ref n d s _ _ _ hd1 hs1).mono ?_
 rintro e w2 ⟨rfl, hb2⟩
 have hbw2 := bthen hb hb2
 have hB2 := hB.now hb2
 have hC2 := hC.now hb2
 have hm2 := hm1.now hb2
 have hv2 := hv1.now hb2
 clear q0 q1 q2 q3 q4 q5 q6 q7 y0 y1 hB hC hd1 hs1 hm1 hv1 hb2
 cases hq : vstateB d s
 ·have HR := Lib.hid (dexplE_bad (most := most) hq)
  clear hq
  go_wp2_with fail
  (try simp only [Exit.inBlock, Exit.then])
  refine bodyPost_ret (results_tmp4 rfl _ _ _) rfl ?_
  rw [HR.out]
  exact ⟨_, _, rfl, Sl.none_, Sl.none_, hbw2⟩
 by_cases c1 : most < 1
 ·have HR := Lib.hid (dexplE_range hq (.inl c1))
  clear hq
  go_wp2_with fail
  (try simp only [Exit.inBlock, Exit.then])
  refine bodyPost_ret (results_tmp4 rfl _ _ _) rfl ?_
  rw [HR.out]
  exact ⟨_, _, rfl, Sl.none_, Sl.none_, hbw2⟩
 by_cases c2 : most > 2000
 ·have HR := Lib.hid (dexplE_range hq (.inr c2))
  clear hq
  go_wp2_with fail
  (try simp only [Exit.inBlock, Exit.then])
  refine bodyPost_ret (results_tmp4 rfl _ _ _) rfl ?_
  rw [HR.out]
  exact ⟨_, _, rfl, Sl.none_, Sl.none_, hbw2⟩
 obtain ⟨mo, rfl⟩ := Int.eq_ofNat_of_zero_le (show 0 ≤ most by omega)
 have hmo : 1 ≤ mo ∧ mo ≤ 2000 := by omega
 have HRN := Lib.hid (fun (he : exFrom d s mo = none) => dexplE_none hq hmo he)
 have HRS := Lib.hid (fun (p : Sp) (he : exFrom d s mo = some p) => dexplE_some hq hmo he)
 have HV := Lib.hid (vstate_parts hq)
 obtain ⟨hmb, hvb, hms⟩ := state_small (vstate_parts hq).2
 have htl : d.net.trans.length ≤ 60 := (validOk (dvalid_parts (vstate_parts hq).1).1).2.2.1
 clear hq hms
 have hsz2 : w.heap.size + 2 ≤ w2.heap.size := by have := hC2.lt; omega
 have HS : Hid (∀ W, Below w2.heap.size w2 W → W.cell? ⟨w.heap.size + 1, 0, none⟩ = some (.slice Am s.marks.length cm) ∧ W.cell? ⟨w.heap.size + 1, 1, none⟩ = some (.slice Av s.vals.length cv)) := fun W hW => (hC2.now hW).c2
 have HM : Hid (∀ W, Below w2.heap.size w2 W → SlI (Lt W.heap.size) W (.slice Am s.marks.length cm) s.marks) := fun W hW => hm2.now hW
 have HVL : Hid (∀ W, Below w2.heap.size w2 W → SlV (Lt W.heap.size) W (.slice Av s.vals.length cv) s.vals) := fun W hW => hv2.now hW
 have HMF := Lib.hid hm2.fits
 have HVF := Lib.hid hv2.fits
 clear hm2 hv2
 obtain ⟨y0, y1⟩ := hC2.c2
 go_upto_region 5 with fail
 go_cut [10] (fun s10 W => ∃ A c, s10 = .slice A 1 c ∧ OwnR 2 RSt (MvX (.slice none 0 0)) W w2.heap.size 33 (.slice A 1 c) [s] ∧ Below w2.heap.size w2 W)
 case first =>
  rename_i J1 K1 hJ hK
  refine wp_region_make (by kernel_rfl) 10 (by kernel_rfl) (by kernel_rfl) (by kernel_rfl) (by kernel_rfl) (cpS s (.pointer (some ⟨w.heap.size + 1, 0, none⟩)) (.pointer (some ⟨w.heap.size + 1, 1, none⟩)) (.slice Am s.marks.length cm) (.slice Av s.vals.length cv) w2.heap.size) (cpS_now _ _ _ _ _ _) ?hall ?hstep ?hlast
  case hall => exact hall_of (by kernel_rfl)
  case hlast =>
   intro o ho a W hk hb hF
   injection ho with ho
   subst ho
   obtain ⟨⟨A, c, e9⟩, hst⟩ := (show cpS s (.pointer (some ⟨w.heap.size + 1, 0, none⟩)) (.pointer (some ⟨w.heap.size + 1, 1, none⟩)) (.slice Am s.marks.length cm) (.slice Av s.vals.length cv) w2.heap.size 9 (Act.slot a 37) W from hF 9 (by decide))
   rw [e9] at hst
   refine wpM_assign (.tmp 37) _ rfl e9 ⟨_, rfl, fun a'' hk'' hs => ?_⟩
   have h9 : Act.slot a'' 10 = .slice A 1 c := by
    rw [hs]
    have hp : ∀ k, (some 10 : Option Nat) = some k → k < a.tmps.size := fun k hk' => by
     injection hk' with hk'
     subst hk'
     rw [hk.size]
     simp
    exact (congrFun (slot_put (a := a) (d := some 10) (v := .slice A 1 c) hp) 10).trans (by simp [upd])
   refine hK _ _ ?_
   rw [hk''.form (by kernel_rfl)]
   simp only [putsAll, Option.getD_some, Act.put, List.setIfInBounds_toArray, List.set_cons_zero, List.set_cons_succ, h9]
   go_meet
   exact ⟨A, c, rfl, hst, (Below.refl _ _).drew.trans hb⟩
  case hstep =>
   refine ⟨fun a W hk hb hd => ?_, ?_⟩
   ·show Oper.wp _ _ a W _ _
    refine wpM_slice _ _ _ _ _ _ rfl ?_ (bsI0 W) ⟨_, rfl, bone _ _, ?_⟩
    ·simp
    ·exact ⟨_, rfl, World.ownsRow_lit (base := w2.heap.size) (e := 3) (size := 1) W #[] 0 hb.size (by unfold maxLen; omega) rfl⟩
   refine ⟨fun a W hk hb hd => ?_, ?_⟩
   ·show Oper.wp _ _ a W _ _
    have k4 : a.eval (.tmp 4) = .pointer (some ⟨w.heap.size + 1, 0, none⟩) := hk.same (s := 4) (by kernel_rfl)
    refine wpM_field _ _ _ _ _ rfl k4 (by simp [go_sem]; rfl) ⟨_, rfl, Below.refl _ _, ?_⟩
    exact rfl
   refine ⟨fun a W hk hb hd => ?_, ?_⟩
   ·show Oper.wp _ _ a W _ _
    have e1 : a.eval (.tmp 29) = .pointer (some ⟨w.heap.size + 1, 0, none⟩) := (show cpS s (.pointer (some ⟨w.heap.size + 1, 0, none⟩)) (.pointer (some ⟨w.heap.size + 1, 1, none⟩)) (.slice Am s.marks.length cm) (.slice Av s.vals.length cv) w2.heap.size 1 (Act.slot a 29) W from hd 1 (by kernel_rfl))
    obtain ⟨c0, c1⟩ := HS.out W ((Below.refl _ _).drew.trans hb)
    refine wpM_load _ _ _ (.slice Am s.marks.length cm) rfl e1 (by simp [go_sem, c0, c1]) ⟨_, rfl, Below.refl _ _, ?_⟩
    exact rfl
   refine ⟨fun a W hk hb hd => ?_, ?_⟩
   ·show Oper.wp _ _ a W _ _
    obtain ⟨g, e0, hown⟩ := (show cpS s (.pointer (some ⟨w.heap.size + 1, 0, none⟩)) (.pointer (some ⟨w.heap.size + 1, 1, none⟩)) (.slice Am s.marks.length cm) (.slice Av s.vals.length cv) w2.heap.size 0 (Act.slot a 28) W from hd 0 (by kernel_rfl))
    have e2 : a.eval (.tmp 30) = .slice Am s.marks.length cm := (show cpS s (.pointer (some ⟨w.heap.size + 1, 0, none⟩)) (.pointer (some ⟨w.heap.size + 1, 1, none⟩)) (.slice Am s.marks.length cm) (.slice Av s.vals.length cv) w2.heap.size 2 (Act.slot a 30) W from hd 2 (by kernel_rfl))
    rw [e0] at hown
    refine wpM_appLit (fc := fun y => [Value.int .i64 y]) (R := RInt) appInts (.tmp 28) (.tmp 30) rfl W (fun _ => rfl) g e0 hown _ s.marks e2 (HM.out W ((Below.refl _ _).drew.trans hb)) (fun y c h => h.1) cellsI_one (by omega) (hb.size) ?_
    intro v' w' ho' hb'
    unfold OwnW at ho'
    rw [flat_ints] at ho'
    have hsl := SlI.of_ownF (B := w2.heap.size) ho' (Nat.le_refl _) HMF.out
    obtain ⟨A, c, rfl, _, _, _⟩ := hsl.open_
    exact ⟨_, rfl, hb', A, c, rfl, hsl⟩
   refine ⟨fun a W hk hb hd => ?_, ?_⟩
   ·show Oper.wp _ _ a W _ _
    refine wpM_slice _ _ _ _ _ _ rfl ?_ (bsV0 W) ⟨_, rfl, bone _ _, ?_⟩
    ·simp
    ·exact ⟨_, rfl, World.ownsRow_lit (base := w2.heap.size) (e := 63) (size := 3) W #[] 0 hb.size (by unfold maxLen; omega) rfl⟩
   refine ⟨fun a W hk hb hd => ?_, ?_⟩
   ·show Oper.wp _ _ a W _ _
    have k4 : a.eval (.tmp 4) = .pointer (some ⟨w.heap.size + 1, 0, none⟩) := hk.same (s := 4) (by kernel_rfl)
    refine wpM_field _ _ _ _ _ rfl k4 (by simp [go_sem]; rfl) ⟨_, rfl, Below.refl _ _, ?_⟩
    exact rfl
   refine ⟨fun a W hk hb hd => ?_, ?_⟩
   ·show Oper.wp _ _ a W _ _
    have e1 : a.eval (.tmp 33) = .pointer (some ⟨w.heap.size + 1, 1, none⟩) := (show cpS s (.pointer (some ⟨w.heap.size + 1, 0, none⟩)) (.pointer (some ⟨w.heap.size + 1, 1, none⟩)) (.slice Am s.marks.length cm) (.slice Av s.vals.length cv) w2.heap.size 5 (Act.slot a 33) W from hd 5 (by kernel_rfl))
    obtain ⟨c0, c1⟩ := HS.out W ((Below.refl _ _).drew.trans hb)
    refine wpM_load _ _ _ (.slice Av s.vals.length cv) rfl e1 (by simp [go_sem, c0, c1]) ⟨_, rfl, Below.refl _ _, ?_⟩
    exact rfl
   refine ⟨fun a W hk hb hd => ?_, ?_⟩
   ·show Oper.wp _ _ a W _ _
    obtain ⟨g, e0, hown⟩ := (show cpS s (.pointer (some ⟨w.heap.size + 1, 0, none⟩)) (.pointer (some ⟨w.heap.size + 1, 1, none⟩)) (.slice Am s.marks.length cm) (.slice Av s.vals.length cv) w2.heap.size 4 (Act.slot a 32) W from hd 4 (by kernel_rfl))
    have e2 : a.eval (.tmp 34) = .slice Av s.vals.length cv := (show cpS s (.pointer (some ⟨w.heap.size + 1, 0, none⟩)) (.pointer (some ⟨w.heap.size + 1, 1, none⟩)) (.slice Am s.marks.length cm) (.slice Av s.vals.length cv) w2.heap.size 6 (Act.slot a 34) W from hd 6 (by kernel_rfl))
    rw [e0] at hown
    refine wpM_appLit (fc := cellsV) (R := RVal) appVals (.tmp 32) (.tmp 34) rfl W cellsV_len g e0 hown _ s.vals e2 (HVL.out W ((Below.refl _ _).drew.trans hb)) (fun y c h => h.1) cellsV_one (by omega) (hb.size) ?_
    intro v' w' ho' hb'
    have hsl := OwnV.fresh (B := w2.heap.size) ho' (Nat.le_refl _) HVF.out
    obtain ⟨A, c, rfl, _, _, hsl⟩ := Sl.open_ hsl
    exact ⟨_, rfl, hb', A, c, rfl, hsl⟩
   refine ⟨fun a W hk hb hd => ?_, ?_⟩
   ·show Oper.wp _ _ a W _ _
    obtain ⟨A, c, e3, h1⟩ := (show cpS s (.pointer (some ⟨w.heap.size + 1, 0, none⟩)) (.pointer (some ⟨w.heap.size + 1, 1, none⟩)) (.slice Am s.marks.length cm) (.slice Av s.vals.length cv) w2.heap.size 3 (Act.slot a 31) W from hd 3 (by kernel_rfl))
    obtain ⟨A', c', e7, h2⟩ := (show cpS s (.pointer (some ⟨w.heap.size + 1, 0, none⟩)) (.pointer (some ⟨w.heap.size + 1, 1, none⟩)) (.slice Am s.marks.length cm) (.slice Av s.vals.length cv) w2.heap.size 7 (Act.slot a 35) W from hd 7 (by kernel_rfl))
    rw [e3] at h1
    rw [e7] at h2
    refine wpM_build _ _ _ _ rfl ?_ (bSt A A' s.marks.length s.vals.length c c' W) ⟨_, rfl, Below.refl _ _, ?_⟩
    ·have ev3 : a.eval (.tmp 31) = _ := e3; have ev7 : a.eval (.tmp 35) = _ := e7; simp [ev3, ev7]
    ·exact ⟨_, _, _, _, rfl, h1, h2⟩
   refine ⟨fun a W hk hb hd => ?_, trivial⟩
   ·show Oper.wp _ _ a W _ _
    obtain ⟨A, c, A', c', e8, h1, h2⟩ := (show cpS s (.pointer (some ⟨w.heap.size + 1, 0, none⟩)) (.pointer (some ⟨w.heap.size + 1, 1, none⟩)) (.slice Am s.marks.length cm) (.slice Av s.vals.length cv) w2.heap.size 8 (Act.slot a 36) W from hd 8 (by kernel_rfl))
    have e8' : a.eval (.tmp 36) = .agg #[.slice A s.marks.length c, .slice A' s.vals.length c'] := e8
    refine wpM_slice _ _ _ _ _ _ rfl ?_ (bsS1 A A' s.marks.length s.vals.length c c' W) ⟨_, rfl, bone _ _, ?_⟩
    ·simp [e8']
    ·exact ⟨⟨_, _, rfl⟩, own_single (X := MvX (.slice none 0 0)) (s := s) h1 h2 hb.size (fun b hb => by simp [MvX, Value.ownBlock] at hb)⟩
 case rest =>
  obtain ⟨A8, c8, rfl, hst8, hb8⟩ := hcut
  clear HS HM HVL HMF HVF hC2 y0 y1
  have hI8 : ExJ wc w2.heap.size (.slice A8 1 c8) (.slice none 0 0) ⟨[s], [], true⟩ := ⟨hst8, OwnW.nil⟩
  clear hst8
  go_wp2_with fail
  have HIV := Lib.hid (inv_start (n := d) (s := s) HV.out.2 hmo.1)
  go_loopw [13, 10, 11, 12] (fun iv sv mv fv wr => ∃ (i : Nat) (p : Sp), iv = .int .i64 i ∧ fv = .bool p.full ∧ ExJ wr w2.heap.size sv mv p ∧ DInv d s mo p ∧ i ≤ p.states.length ∧ exAll d mo (mo + 1 - i) i p = exFrom d s mo ∧ Below w2.heap.size w2 wr) (fun iv _ _ _ _ => mo + 1 - (intOf iv).toNat)
  case atStart => exact ⟨0, _, rfl, rfl, hI8, HIV.out, Nat.zero_le _, rfl, hb8⟩
  case round =>
   obtain ⟨i, p, rfl, rfl, hI, hD, hi, hall, hbr⟩ := hrel
   have HD := Lib.hid hD
   have HALL := Lib.hid hall
   clear hD hall hI8 hb8
   obtain ⟨As, cs, rfl⟩ := hI.st.open_
   obtain ⟨Mo, cmo, rfl⟩ := OwnM.form hI.mo
   have hbwr := bthen hbw2 hbr
   have hle := HD.out.le
   by_cases hlt : i < p.states.length
   rotate_left
   ·have HE := Lib.hid (HRS.out p (all_end (List.getElem?_eq_none (by omega)) HALL.out))
    have hsl1 := hI.st.sl RSt.kept
    have hsl2 := hI.mo.sl (inv_small HD.out hmo.2 htl)
    have hi' : ¬ (i : Int) < (p.states.length : Int) := by omega
    go_wp2_with fail
    (try simp only [Exit.inBlock, Exit.then])
    refine bodyPost_ret (results_tmp4 rfl _ _ _) rfl ?_
    rw [HE.out]
    exact ⟨_, _, rfl, hsl1, hsl2, hbwr⟩
   obtain ⟨si, hsi⟩ : ∃ si, p.states[i]? = some si := ⟨p.states[i], List.getElem?_eq_getElem hlt⟩
   have HSI := Lib.hid hsi
   have HROW := Lib.hid (all_some (by omega) hsi HALL.out)
   clear hsi
   have hi' : (i : Int) < (p.states.length : Int) := by omega
   go_wp2_with fail
   obtain ⟨wo, hwo⟩ : ∃ z, z = wr := ⟨_, rfl⟩
   subst hwo
   go_loopw [14, 10, 11, 12] (fun tv sv mv fv wr => ∃ (t : Nat) (q : Sp), tv = .int .i64 t ∧ fv = .bool q.full ∧ t ≤ d.net.trans.length ∧ ExJ wr w2.heap.size sv mv q ∧ DInv d s mo q ∧ q.states[i]? = some si ∧ (exRow d mo i si (d.net.trans.length - t) t q).bind (fun q => exAll d mo (mo + 1 - (i + 1)) (i + 1) q) = exFrom d s mo ∧ Below w2.heap.size w2 wr) (fun tv _ _ _ _ => d.net.trans.length - (intOf tv).toNat)
   case atStart => exact ⟨0, p, rfl, rfl, Nat.zero_le _, hI, HD.out, HSI.out, HROW.out, hbr⟩
   case round =>
    obtain ⟨t, q, rfl, rfl, ht, hI, hD, hsi, hrow, hbr⟩ := hrel
    have HD := Lib.hid hD
    have HSI := Lib.hid hsi
    have HROW := Lib.hid hrow
    clear hD hsi hrow HALL hlt hi hle
    obtain ⟨As, cs, rfl⟩ := hI.st.open_
    obtain ⟨Mo, cmo, rfl⟩ := OwnM.form hI.mo
    have hle := HD.out.le
    have hlt : i < q.states.length := lt_of_get HSI.out
    have hBr := hB2.now hbr
    have hbwr := bthen hbw2 hbr
    obtain ⟨q0, q1, q2, q3, q4, q5, q6, q7⟩ := hBr.c8
    by_cases htt : t < d.net.trans.length
    rotate_left
    ·obtain rfl : t = d.net.trans.length := by omega
     have HALL := Lib.hid (row_end HROW.out)
     go_wp2_with fail
     go_roundw
     case rel => exact ⟨i + 1, q, by go_num, rfl, hI, HD.out, by omega, HALL.out, hbr⟩
     case measure => simp [intOf]; omega
    have htt' : (t : Int) < (d.net.trans.length : Int) := by omega
    have hst := hI.st.sl RSt.kept
    obtain ⟨bs, os, si', mvs, vvs, rfl, hDs, hsi', hsm, hsv, c0, c1⟩ := SlSt.at_ hst hlt
    obtain rfl : si = si' := by rw [HSI.out] at hsi'; injection hsi'
    clear hsi'
    obtain ⟨Ams, cms, rfl, _, _, hsm⟩ := hsm.open_
    obtain ⟨Avs, cvs, rfl, _, _, hsv⟩ := hsv.open_
    have HVS : Hid (vstateB d si = true) := by
     show _ = _
     unfold vstateB
     rw [HV.out.1, HD.out.ok si (List.mem_of_getElem? HSI.out)]; rfl
    have HCF : Hid (∀ W, Below wr.heap.size wr W → Calls Tryz.prog 68 #[.agg #[.int .i64 d.net.places, .slice At d.net.trans.length ct, .int .i64 d.net.source, .int .i64 d.net.sink, .slice Ax d.vars.length cx, iv, .slice Ag d.guards.length cg, .slice Aw d.writes.length cw], .agg #[.slice Ams si.marks.length cms, .slice Avs si.vals.length cvs], .int .i64 t] W fun e w' => ∃ Am2 cm2 Av2 cv2, e = .returned (.tuple #[.agg #[.slice Am2 (fireD d si t).1.marks.length cm2, .slice Av2 (fireD d si t).1.vals.length cv2], .int .i64 (fireD d si t).2]) ∧ SlI (Fr wr.heap.size w') w' (.slice Am2 (fireD d si t).1.marks.length cm2) (fireD d si t).1.marks ∧ SlV (Fr wr.heap.size w') w' (.slice Av2 (fireD d si t).1.vals.length cv2) (fireD d si t).1.vals ∧ Below wr.heap.size wr w' ∧ Below W.heap.size W w') := fun W hW => by
     refine (after_ref n d si t _ _ W ((h0.now hbwr).now hW) ⟨_, _, rfl, hsm.now hW, hsv.now hW⟩ HVS.out).mono ?_
     rintro e w' ⟨u', he, ⟨m', v', rfl, hm', hv'⟩, hb'⟩
     obtain ⟨Am2, cm2, rfl, _, _, hm'⟩ := Sl.open_ hm'
     obtain ⟨Av2, cv2, rfl, _, _, hv'⟩ := Sl.open_ hv'
     exact ⟨Am2, cm2, Av2, cv2, he, SlI.from_ hm' hW.size, SlV.from_ hv' hW.size, bthen hW hb', hb'⟩
    have HS : Hid (∀ W, Below wr.heap.size wr W → W.cell? ⟨w.heap.size, 0, none⟩ = some (.int .i64 d.net.places) ∧ W.cell? ⟨w.heap.size, 1, none⟩ = some (.slice At d.net.trans.length ct) ∧ W.cell? ⟨w.heap.size, 2, none⟩ = some (.int .i64 d.net.source) ∧ W.cell? ⟨w.heap.size, 3, none⟩ = some (.int .i64 d.net.sink) ∧ W.cell? ⟨w.heap.size, 4, none⟩ = some (.slice Ax d.vars.length cx) ∧ W.cell? ⟨w.heap.size, 5, none⟩ = some iv ∧ W.cell? ⟨w.heap.size, 6, none⟩ = some (.slice Ag d.guards.length cg) ∧ W.cell? ⟨w.heap.size, 7, none⟩ = some (.slice Aw d.writes.length cw) ∧ W.cell? ⟨bs, os + i * 2, none⟩ = some (.slice Ams si.marks.length cms) ∧ W.cell? ⟨bs, os + i * 2 + 1, none⟩ = some (.slice Avs si.vals.length cvs)) := fun W hW => ⟨(hBr.now hW).c8.1, (hBr.now hW).c8.2.1, (hBr.now hW).c8.2.2.1, (hBr.now hW).c8.2.2.2.1, (hBr.now hW).c8.2.2.2.2.1, (hBr.now hW).c8.2.2.2.2.2.1, (hBr.now hW).c8.2.2.2.2.2.2.1, (hBr.now hW).c8.2.2.2.2.2.2.2, (hW.cell (p := ⟨bs, _, none⟩) hDs).trans c0, (hW.cell (p := ⟨bs, _, none⟩) hDs).trans c1⟩
    have HST : Hid ((fireD d si t).2 = 0 → stateB d (fireD d si t).1 = true) := fun hc => fire_state HV.out.1 (HD.out.ok si (List.mem_of_getElem? HSI.out)) hc
    clear hsm hsv c0 c1
    have i1 : (0 : Int) ≤ (i : Int) := by omega
    have i2 : (i : Int) < (q.states.length : Int) := by omega
    go_upto_region 14 with fail
    clear q0 q1 q2 q3 q4 q5 q6 q7 hBr hst
    generalize hfd : fireD d si (t : Int) = fd at *
    have HFD := Lib.hid hfd
    clear hfd
    obtain ⟨ps, pc⟩ := fd
    dsimp only at *
    go_cut [15, 16] (fun s15 s16 W => ∃ (g : Nat) (Am2 : Option Addr) (cm2 : Nat) (Av2 : Option Addr) (cv2 : Nat), s15 = .pointer (some ⟨g, 0, none⟩) ∧ s16 = .int .i64 pc ∧ Blk W g 33 #[.slice Am2 ps.marks.length cm2, .slice Av2 ps.vals.length cv2] ∧ SlI (Fr wr.heap.size W) W (.slice Am2 ps.marks.length cm2) ps.marks ∧ SlV (Fr wr.heap.size W) W (.slice Av2 ps.vals.length cv2) ps.vals ∧ Below wr.heap.size wr W)
    case first =>
     have hbd : Below wr.heap.size wr wr.drew := (Below.refl _ _).drew
     have hbz : Below wr.heap.size wr (wr.alloc (.cells #[.slice none 0 0, .slice none 0 0] 33)).drew := (bone wr (.cells #[.slice none 0 0, .slice none 0 0] 33)).drew
     obtain ⟨a0, a1, a2, a3, a4, a5, a6, a7, d0, d1⟩ := HS.out _ hbd
     go_region_held3 (fun W => W.cell? ⟨w.heap.size, 0, none⟩ = some (.int .i64 d.net.places) ∧ W.cell? ⟨w.heap.size, 1, none⟩ = some (.slice At d.net.trans.length ct) ∧ W.cell? ⟨w.heap.size, 2, none⟩ = some (.int .i64 d.net.source) ∧ W.cell? ⟨w.heap.size, 3, none⟩ = some (.int .i64 d.net.sink) ∧ W.cell? ⟨w.heap.size, 4, none⟩ = some (.slice Ax d.vars.length cx) ∧ W.cell? ⟨w.heap.size, 5, none⟩ = some iv ∧ W.cell? ⟨w.heap.size, 6, none⟩ = some (.slice Ag d.guards.length cg) ∧ W.cell? ⟨w.heap.size, 7, none⟩ = some (.slice Aw d.writes.length cw) ∧ W.cell? ⟨bs, os + i * 2, none⟩ = some (.slice Ams si.marks.length cms) ∧ W.cell? ⟨bs, os + i * 2 + 1, none⟩ = some (.slice Avs si.vals.length cvs)) (first | exact HS.out _ (by assumption) | exact HS.out _ (bbox (by assumption) _) | exact HS.out _ (bset2 (by assumption) (by simp) _ _))
      (first | (go_at_call 68; (with_reducible refine (HCF.out _ (by assumption)).mono ?_); rintro e w6 ⟨Am2, cm2, Av2, cv2, rfl, hm6, hv6, hb6, hb7⟩; (try (have hZ := (Blk.new wr 33 #[.slice none 0 0, .slice none 0 0]).drew.now hb7; obtain ⟨z0, z1⟩ := hZ.c2; have f0 := hZ.frozen 0; have f1 := hZ.frozen 1))))
     all_goals (go_wp2_with fail; go_meet)
     all_goals
      first
       | exact ⟨_, _, _, _, _, rfl, rfl, Blk.new _ _ _, hm6.nowF (bone _ _), hv6.nowF (bone _ _), bbox hb6 _⟩
       | exact ⟨_, _, _, _, _, rfl, rfl, Blk.set2 (by assumption) _ _, SlI.set2F hm6 (by assumption) _ _, SlV.set2F hv6 (by assumption) _ _, bset2 hb6 (by simp) _ _⟩
    case rest =>
     obtain ⟨g, Am2, cm2, Av2, cv2, rfl, rfl, hY, hm5, hv5, hb5⟩ := hcut
     have hI5 := hI.now hb5
     have hbr5 := hbr.trans (hb5.mono hbr.size)
     clear HCF HS
     by_cases hpc : pc = 0
     rotate_left
     ·have hq := exT_err (n := d) (most := mo) (i := i) (p := q) (s := si) (t := t) (by rw [HFD.out]; exact hpc)
      rw [HFD.out] at hq
      have HQ1 := Lib.hid (row_some htt hq HROW.out)
      have HQ2 := Lib.hid (exT_inv HV.out.1 HD.out HSI.out hq)
      have bpc : (pc != 0) = true := by simpa using hpc
      clear hpc hq
      obtain ⟨qs, qm, qf⟩ := q
      dsimp only at *
      cases qf
      ·go_wp2_with fail
       go_roundw
       case rel => exact ⟨t + 1, _, by go_num, rfl, by omega, hI5.full, HQ2.out.1, pre_get HQ2.out.2.st HSI.out, HQ1.out, hbr5⟩
       case measure => simp [intOf]; omega
      ·by_cases h5 : pc = 5
       ·have b5 : (pc != 5) = false := by simp [h5]
        have HB : Hid (Value.bool false = .bool (true && decide (pc ≠ 5))) := by show _ = _; simp [h5]
        clear h5
        go_wp2_with fail
        go_roundw
        case rel => exact ⟨t + 1, _, by go_num, HB.out, by omega, hI5.full, HQ2.out.1, pre_get HQ2.out.2.st HSI.out, HQ1.out, hbr5⟩
        case measure => simp [intOf]; omega
       ·have b5 : (pc != 5) = true := by simpa using h5
        have HB : Hid (Value.bool true = .bool (true && decide (pc ≠ 5))) := by show _ = _; simp [h5]
        clear h5
        go_wp2_with fail
        go_roundw
        case rel => exact ⟨t + 1, _, by go_num, HB.out, by omega, hI5.full, HQ2.out.1, pre_get HQ2.out.2.st HSI.out, HQ1.out, hbr5⟩
        case measure => simp [intOf]; omega
     subst hpc
     have HF0 : Hid ((fireD d si (t : Int)).2 = 0) := by show _ = _; rw [HFD.out]
     have HF1 : Hid ((fireD d si (t : Int)).1 = ps) := by show _ = _; rw [HFD.out]
     have HK := Lib.hid (find30_ref q.states ps _ _ _ (hI5.st.sl RSt.kept) ⟨_, _, rfl, hm5.weak, hv5.weak⟩)
     obtain ⟨u0, u1⟩ := hY.c2
     go_wp2_with fail
     refine HK.out.mono ?_
     rintro e w6 ⟨rfl, hb6⟩
     have hI6 := hI5.now hb6
     have hY6 := hY.now hb6
     have hm6 := hm5.nowF hb6
     have hv6 := hv5.nowF hb6
     have hoff := hI.off (Nat.le_refl _) hm6 hv6
     have hbr6 := hbr5.trans (hb6.mono hbr5.size)
     have hszr6 := hbr6.size
     have hqm := HD.out.mvl
     clear HK u0 u1 hY hm5 hv5 hb6 hI5 hbr5
     cases hx : idxS q.states ps with
     | some k =>
      have HX := Lib.hid hx
      have hfz : findZ q.states ps = k := by unfold findZ; rw [hx]
      have hk0 : ¬ (k : Int) < 0 := by omega
      rw [hfz]
      clear hx hfz hm6 hv6 hoff
      by_cases hfull : q.moves.length < 20000
      rotate_left
      ·have hq := exT_met_full (n := d) (most := mo) (i := i) HF0.out (by rw [HF1.out]; exact HX.out) hfull
       have HE := Lib.hid (HRN.out (row_none htt hq HROW.out))
       have h2 : ((q.moves.length : Int) == 20000) = true := by rw [beq_iff_eq]; omega
       clear hq
       go_wp2_with fail
       (try simp only [Exit.inBlock, Exit.then])
       refine bodyPost_ret (results_tmp4 rfl _ _ _) rfl ?_
       rw [HE.out]
       exact ⟨_, _, rfl, Sl.none_, Sl.none_, bthen hbw2 hbr6⟩
      have hq := exT_met (n := d) (most := mo) (i := i) HF0.out (by rw [HF1.out]; exact HX.out) hfull
      have HQ1 := Lib.hid (row_some htt hq HROW.out)
      have HQ2 := Lib.hid (exT_inv HV.out.1 HD.out HSI.out hq)
      have h2 : ((q.moves.length : Int) == 20000) = false := by rw [beq_eq_false_iff_ne]; omega
      clear hq
      go_upto_region 25 with fail
      go_wp2_with (at_builtin; refine wpList_pushW (fc := cellsM) appMvs rfl (.tmp 91) (.tmp 96) rfl w6 ⟨i, k, t⟩ q.moves rfl (cellsM_one _) _ rfl hI6.mo rfl (by omega) hszr6 ?_; intro mv' w7 hmo7 hg7 hat7)
      obtain ⟨hI7, hb7⟩ := hI6.pushM hmo7 hg7 hat7 hszr6
      have hbr7 := hbr6.trans hb7
      go_roundw
      case rel => exact ⟨t + 1, ⟨q.states, q.moves ++ [⟨i, k, t⟩], q.full⟩, by go_num, rfl, by omega, hI7, HQ2.out.1, pre_get HQ2.out.2.st HSI.out, HQ1.out, hbr7⟩
      case measure => simp [intOf]; omega
     | none =>
      have HX := Lib.hid hx
      have hfz : findZ q.states ps = -1 := by unfold findZ; rw [hx]
      rw [hfz]
      clear hx hfz hm6 hv6
      by_cases hmost : q.states.length < mo
      rotate_left
      ·have hq := exT_cut (n := d) (most := mo) (i := i) HF0.out (by rw [HF1.out]; exact HX.out) hmost
       have HQ1 := Lib.hid (row_some htt hq HROW.out)
       have HQ2 := Lib.hid (exT_inv HV.out.1 HD.out HSI.out hq)
       have hmost' : ¬ (q.states.length : Int) < (mo : Int) := by omega
       clear hq
       go_wp2_with fail
       go_roundw
       case rel => exact ⟨t + 1, _, by go_num, rfl, by omega, hI6.full, HQ2.out.1, pre_get HQ2.out.2.st HSI.out, HQ1.out, hbr6⟩
       case measure => simp [intOf]; omega
      have hmost' : (q.states.length : Int) < (mo : Int) := by omega
      have hk0 : ¬ (q.states.length : Int) < 0 := by omega
      have hqs := HD.out.le
      obtain ⟨u0, u1⟩ := hY6.c2
      go_upto_region 20 with fail
      go_upto_region 21 with (at_builtin; refine wpList_pushR (X := _) appSts RSt.kept rfl (.tmp 82) (.tmp 84) rfl w6 [.slice Am2 ps.marks.length cm2, .slice Av2 ps.vals.length cv2] rfl (by simp [Value.oneCell']) _ q.states ps rfl hI6.st hoff rfl (by omega) (by omega) ?_; intro sv9 w9 hst9 hg9 hat9)
      obtain ⟨hI9, hb9⟩ := hI6.pushS hst9 hg9 (by omega)
      obtain ⟨A9, c9, rfl⟩ := hst9.open_
      have hbr9 := hbr6.trans hb9
      have hszr9 := hbr9.size
      have hln9 : (q.states ++ [ps]).length = q.states.length + 1 := by simp
      clear u0 u1 hY6 hoff hst9 hg9 hat9 hb9 hI6 hI
      rw [hln9] at hI9 ⊢
      by_cases hfull : q.moves.length < 20000
      rotate_left
      ·have hq := exT_new_full (n := d) (most := mo) (i := i) HF0.out (by rw [HF1.out]; exact HX.out) hmost hfull
       have HE := Lib.hid (HRN.out (row_none htt hq HROW.out))
       have h2 : ((q.moves.length : Int) == 20000) = true := by rw [beq_iff_eq]; omega
       clear hq
       go_wp2_with fail
       (try simp only [Exit.inBlock, Exit.then])
       refine bodyPost_ret (results_tmp4 rfl _ _ _) rfl ?_
       rw [HE.out]
       exact ⟨_, _, rfl, Sl.none_, Sl.none_, bthen hbw2 hbr9⟩
      have hq := exT_new (n := d) (most := mo) (i := i) HF0.out (by rw [HF1.out]; exact HX.out) hmost hfull
      rw [HF1.out] at hq
      have HQ1 := Lib.hid (row_some htt hq HROW.out)
      have HQ2 := Lib.hid (exT_inv HV.out.1 HD.out HSI.out hq)
      have h2 : ((q.moves.length : Int) == 20000) = false := by rw [beq_eq_false_iff_ne]; omega
      clear hq
      go_upto_region 25 with fail
      go_wp2_with (at_builtin; refine wpList_pushW (fc := cellsM) appMvs rfl (.tmp 91) (.tmp 96) rfl w9 ⟨i, q.states.length, t⟩ q.moves rfl (cellsM_one _) _ rfl hI9.mo rfl (by omega) hszr9 ?_; intro mv' w10 hmo7 hg7 hat7)
      obtain ⟨hI10, hb10⟩ := hI9.pushM hmo7 hg7 hat7 hszr9
      have hbr10 := hbr9.trans hb10
      go_roundw
      case rel => exact ⟨t + 1, ⟨q.states ++ [ps], q.moves ++ [⟨i, q.states.length, t⟩], q.full⟩, by go_num, rfl, by omega, hI10, HQ2.out.1, pre_get HQ2.out.2.st HSI.out, HQ1.out, hbr10⟩
      case measure => simp [intOf]; omega
end Go.Proofs.YtlmenhjlgmejkaaGreatDoor
