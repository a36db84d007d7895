/- Merged texts. -/
import Derived.Test.YtlmenhjlgmejkaaGreatDoorPl18
set_option linter.all false
namespace Go.Proofs.YtlmenhjlgmejkaaGreatDoor
open Go.RowKit
set_option maxHeartbeats 32000000 in
set_option maxRecDepth 100000 in
theorem dexplore_any (n : Nat) (d : DNet) (s : St) (most : Int) (u us : Value) (w : World) (h : IsDn n (Lt w.heap.size) w u d) (hs : IsSt (Lt w.heap.size) w us s) (hl : d.vars.length ≤ 1000000) (ha : Amb w) :
    Calls Tryz.prog 17 #[u, us, .int .i64 most] w (RetEx (dexplE d s most) w) := by
  have h0 := h
  have hs0 := hs
  obtain ⟨At, ct, Ax, cx, iv, Ag, cg, Aw, cw, rfl, dn1, dn2, dn3, dn4, dn5, ⟨t1, t2⟩, ⟨x1, x2⟩, ⟨g1, g2⟩, v1, v2⟩ := h.open_
  obtain ⟨Am, cm, Av, cv, rfl, s1, s2, ⟨t3, t4⟩, t5, t6⟩ := hs.open_
  clear h hs dn1 dn2 dn3 dn4 dn5
  have hb0 := bone w (.cells #[.int .i64 d.net.places, .slice At d.net.trans.length ct, .int .i64 d.net.source, .int .i64 d.net.sink, .slice Ax d.vars.length cx, iv, .slice Ag d.guards.length cg, .slice Aw d.writes.length cw] 30)
  have hb := bbox hb0 (.cells #[.slice Am s.marks.length cm, .slice Av s.vals.length cv] 33)
  have hB := (Blk.new w 30 #[.int .i64 d.net.places, .slice At d.net.trans.length ct, .int .i64 d.net.source, .int .i64 d.net.sink, .slice Ax d.vars.length cx, iv, .slice Ag d.guards.length cg, .slice Aw d.writes.length cw]).alloc (.cells #[.slice Am s.marks.length cm, .slice Av s.vals.length cv] 33)
  have hC := (Blk.new_at (t := 33) (cs := #[.slice Am s.marks.length cm, .slice Av s.vals.length cv]) (w := w.alloc (.cells #[.int .i64 d.net.places, .slice At d.net.trans.length ct, .int .i64 d.net.source, .int .i64 d.net.sink, .slice Ax d.vars.length cx, iv, .slice Ag d.guards.length cg, .slice Aw d.writes.length cw] 30)) (s := w.heap.size + 1) (by simp))
  have hd1 := h0.now hb
  have hs1 := hs0.now hb
  have hm1 := s1.now hb
  have hv1 := s2.now hb
  clear hs0 hb0 s1 s2
  have hmm := @run_makeMap Tryz.prog
  go_enter Tryz.func17, Tryz.ntmps17
  go_upto_region 1 with fail
  generalize hw1e : (w.alloc (.cells #[.int .i64 d.net.places, .slice At d.net.trans.length ct, .int .i64 d.net.source, .int .i64 d.net.sink, .slice Ax d.vars.length cx, iv, .slice Ag d.guards.length cg, .slice Aw d.writes.length cw] 30)).alloc (.cells #[.slice Am s.marks.length cm, .slice Av s.vals.length cv] 33) = w1 at *
  clear hw1e
  obtain ⟨q0, q1, q2, q3, q4, q5, q6, q7⟩ := hB.c8
  obtain ⟨y0, y1⟩ := hC.c2
  go_wp2_with fail
  refine (dvstate_any n d s _ _ _ hd1 hs1 hl).mono ?_
  rintro e w2 ⟨rfl, hb2⟩
  have hbw2 := bthen hb hb2
  have hB2 := hB.now hb2
  have hC2 := hC.now hb2
  have hd2 := hd1.now hb2
  have hm2 := hm1.now hb2
  have hv2 := hv1.now hb2
  clear q0 q1 q2 q3 q4 q5 q6 q7 y0 y1 hB hC hd1 hs1 hm1 hv1 hb2
  cases hq : vstateB d s
  · have HR := Lib.hid (dexplE_bad (most := most) hq)
    clear hq
    go_wp2_with fail
    (try simp only [Exit.inBlock, Exit.then])
    refine bodyPost_ret (results_tmp4 rfl _ _ _) rfl ?_
    rw [HR.out]
    exact ⟨_, _, rfl, Sl.none_, Sl.none_, hbw2⟩
  by_cases c1 : most < 1
  · have HR := Lib.hid (dexplE_range hq (.inl c1))
    clear hq
    go_wp2_with fail
    (try simp only [Exit.inBlock, Exit.then])
    refine bodyPost_ret (results_tmp4 rfl _ _ _) rfl ?_
    rw [HR.out]
    exact ⟨_, _, rfl, Sl.none_, Sl.none_, hbw2⟩
  by_cases c2 : 2000 < most
  · have HR := Lib.hid (dexplE_range hq (.inr c2))
    clear hq
    go_wp2_with fail
    (try simp only [Exit.inBlock, Exit.then])
    refine bodyPost_ret (results_tmp4 rfl _ _ _) rfl ?_
    rw [HR.out]
    exact ⟨_, _, rfl, Sl.none_, Sl.none_, hbw2⟩
  obtain ⟨mo, rfl⟩ := Int.eq_ofNat_of_zero_le (show 0 ≤ most by omega)
  have hmo : 1 ≤ mo ∧ mo ≤ 2000 := by omega
  have HRN := Lib.hid (fun (he : exFrom d s mo = none) => dexplE_none hq hmo he)
  have HRS := Lib.hid (fun (p : Sp) (he : exFrom d s mo = some p) => dexplE_some hq hmo he)
  have HV := Lib.hid (vstate_parts hq)
  obtain ⟨hmb, hvb, hms⟩ := state_small (vstate_parts hq).2
  have HMS := Lib.hid hms
  have htl : d.net.trans.length ≤ 60 := (validOk (dvalid_parts (vstate_parts hq).1).1).2.2.1
  clear hq hms
  have hsz2 : w.heap.size + 2 ≤ w2.heap.size := by have := hC2.lt; omega
  have HCI : Hid (∀ W, Below w2.heap.size w2 W → Calls Tryz.prog 64 #[.slice Am s.marks.length cm] W fun e w' => ∃ A c, e = .returned (.slice A s.marks.length c) ∧ SlI (Fr w2.heap.size w') w' (.slice A s.marks.length c) s.marks ∧ Below w2.heap.size w2 w' ∧ Below W.heap.size W w') := fun W hW => cloneI_grown _ s.marks w2 W hm2 hW hmb
  have HCV : Hid (∀ W, Below w2.heap.size w2 W → Calls Tryz.prog 65 #[.slice Av s.vals.length cv] W fun e w' => ∃ A c, e = .returned (.slice A s.vals.length c) ∧ SlV (Fr w2.heap.size w') w' (.slice A s.vals.length c) s.vals ∧ Below w2.heap.size w2 w' ∧ Below W.heap.size W w') := fun W hW => cloneV_grown _ s.vals w2 W hv2 hW hvb
  have HS : Hid (∀ W, Below w2.heap.size w2 W → W.cell? ⟨w.heap.size + 1, 0, none⟩ = some (.slice Am s.marks.length cm) ∧ W.cell? ⟨w.heap.size + 1, 1, none⟩ = some (.slice Av s.vals.length cv)) := fun W hW => (hC2.now hW).c2
  have hbd : Below w2.heap.size w2 w2.drew := (Below.refl _ _).drew
  obtain ⟨e0, e1⟩ := HS.out _ hbd
  go_upto_region 5 with fail
  go_region_held3 (fun W => W.cell? ⟨w.heap.size + 1, 0, none⟩ = some (.slice Am s.marks.length cm) ∧ W.cell? ⟨w.heap.size + 1, 1, none⟩ = some (.slice Av s.vals.length cv)) (first | exact HS.out _ (by assumption) | exact HS.out _ (bbox (by assumption) _))
    (first | (go_at_call 64; (with_reducible refine (HCI.out _ (by assumption)).mono ?_); rintro e w3 ⟨Am3, cm3, rfl, hm3, hb3, _⟩) | (go_at_call 65; (with_reducible refine (HCV.out _ (by assumption)).mono ?_); rintro e w4 ⟨Av3, cv3, rfl, hv3, hb4, hb34⟩))
  have hb5 : Below w2.heap.size w2 (w4.alloc (.cells #[.slice Am3 s.marks.length cm3, .slice Av3 s.vals.length cv3] 33)) := bbox hb4 _
  have hm4 := hm3.nowF hb34
  have hsz4 := hb4.size
  have hst5 := own_single (X := fun b => w4.heap.size + 1 ≤ b) (s := s) hm4 hv3 hsz4 (fun b hb => by omega)
  have hsz5 : (w4.alloc (.cells #[.slice Am3 s.marks.length cm3, .slice Av3 s.vals.length cv3] 33)).heap.size = w4.heap.size + 1 := by simp
  clear HCI HCV HS hbd e0 e1 hm3 hb3 hb34 hm4 hv3
  go_upto_region 6 with fail
  have hsz5a := Nat.le_of_eq hsz5
  have hsz5b := Nat.le_of_eq hsz5.symm
  clear hsz5
  generalize hw5 : w4.alloc (.cells #[.slice Am3 s.marks.length cm3, .slice Av3 s.vals.length cv3] 33) = w5 at *
  clear hw5
  have hb56 := bone w5 (.map #[] 0)
  have hp6 : PosI (w5.alloc (.map #[] 0)) w5.heap.size 0 [] := PosP.made w5
  have hC6 := (hC2.now hb5).now hb56
  have hm6 := (hm2.now hb5).now hb56
  have hv6 := (hv2.now hb5).now hb56
  have hb6 := bthen hb5 hb56
  have HK := Lib.hid (stKey_any s _ (w5.alloc (.map #[] 0)) ⟨_, _, rfl, hm6, hv6⟩ ((ha.now hbw2).now hb6) hmb hvb HMS.out)
  have hks := keyS_size hmb hvb HMS.out
  obtain ⟨y0, y1⟩ := hC6.c2
  go_wp2_with fail
  refine HK.out.mono ?_
  rintro e w7 ⟨rfl, hb7⟩
  have hp7 : PosI w7 w5.heap.size 0 [] := hp6.now hb7
  have hb67 := bthen hb6 hb7
  have hst7 := (hst5.now RSt.kept hb56).now RSt.kept hb7
  have HKS : Hid ((⟨(keyS s).toArray⟩ : ByteArray).data.toList = keyS s) := rfl
  generalize hkk : (⟨(keyS s).toArray⟩ : ByteArray) = K at *
  clear HK y0 y1 hC6 hm6 hv6 hp6 hkk hb56 hb7 hst5 hC2 hm2 hv2
  obtain ⟨w8, hrun8, hp8, hg8⟩ := hp7.put (z := 0) hks (by unfold maxLen; omega) (by simp) rfl rfl
  have hb8 : Below w2.heap.size w2 w8 := hb67.trans (below_of_grown hg8 hb67.size (fun g hg => by injection hg with hg; omega))
  have hst8 : OwnR 2 RSt (ExX w5.heap.size (.slice none 0 0)) w8 w2.heap.size 33 (.slice (some ⟨w4.heap.size, 0, none⟩) 1 1) [s] :=
    hst7.regrown RSt.kept hg8 (fun g hg => by injection hg with hg; subst hg; exact ⟨by omega, by simp [Value.ownBlock]; omega⟩) (fun b hb => by
      rcases hb with hb | hb
      · exact .inl (by omega)
      · simp [Value.ownBlock] at hb)
  have hI8 : ExI w8 w2.heap.size w5.heap.size (.slice (some ⟨w4.heap.size, 0, none⟩) 1 1) (.slice none 0 0) ⟨[s], [], true⟩ := by
    refine ⟨hst8, OwnW.nil, ?_, by omega⟩
    have := hp8
    rw [HKS.out] at this
    exact this
  clear hp7 hp8 hg8 hst7 hst8 HKS
  go_upto_region 9 with fail
  clear hrun8
  go_wp2_with fail
  have hsz8 := hb8.size
  have HIV := Lib.hid (inv_start (n := d) (s := s) HV.out.2 hmo.1)
  go_loopw [14, 10, 12, 13] (fun iv sv mv fv wr => ∃ (i : Nat) (p : Sp), iv = .int .i64 i ∧ fv = .bool p.full ∧ ExI wr w2.heap.size w5.heap.size sv mv p ∧ DInv d s mo p ∧ i ≤ p.states.length ∧ exAll d mo (mo + 1 - i) i p = exFrom d s mo ∧ Below w2.heap.size w2 wr) (fun iv _ _ _ _ => mo + 1 - (intOf iv).toNat)
  case atStart => exact ⟨0, _, rfl, rfl, hI8, HIV.out, Nat.zero_le _, rfl, hb8⟩
  case round =>
    obtain ⟨i, p, rfl, rfl, hI, hD, hi, hall, hbr⟩ := hrel
    have HD := Lib.hid hD
    have HALL := Lib.hid hall
    clear hD hall hI8 hb8
    obtain ⟨As, cs, rfl⟩ := hI.st.open_
    have hbwr := bthen hbw2 hbr
    have hle := HD.out.le
    by_cases hlt : i < p.states.length
    rotate_left
    · have HE := Lib.hid (HRS.out p (all_end (List.getElem?_eq_none (by omega)) HALL.out))
      have hsl1 := hI.st.sl RSt.kept
      have hsl2 := hI.mo.sl (inv_small HD.out hmo.2 htl)
      have hi' : ¬ (i : Int) < (p.states.length : Int) := by omega
      go_wp2_with fail
      (try simp only [Exit.inBlock, Exit.then])
      refine bodyPost_ret (results_tmp4 rfl _ _ _) rfl ?_
      rw [HE.out]
      exact ⟨_, _, rfl, hsl1, hsl2, hbwr⟩
    obtain ⟨si, hsi⟩ : ∃ si, p.states[i]? = some si := ⟨p.states[i], List.getElem?_eq_getElem hlt⟩
    have HSI := Lib.hid hsi
    have HROW := Lib.hid (all_some (by omega) hsi HALL.out)
    clear hsi
    have hBr := hB2.now hbr
    obtain ⟨q0, q1, q2, q3, q4, q5, q6, q7⟩ := hBr.c8
    have hi' : (i : Int) < (p.states.length : Int) := by omega
    go_wp2_with fail
    clear q0 q1 q2 q3 q4 q5 q6 q7 hBr
    obtain ⟨wo, hwo⟩ : ∃ z, z = wr := ⟨_, rfl⟩
    subst hwo
    go_loopw [52, 10, 12, 13] (fun tv sv mv fv wr => ∃ (t : Nat) (q : Sp), tv = .int .i64 t ∧ fv = .bool q.full ∧ t ≤ d.net.trans.length ∧ ExI wr w2.heap.size w5.heap.size sv mv q ∧ DInv d s mo q ∧ q.states[i]? = some si ∧ (exRow d mo i si (d.net.trans.length - t) t q).bind (fun q => exAll d mo (mo + 1 - (i + 1)) (i + 1) q) = exFrom d s mo ∧ Below w2.heap.size w2 wr) (fun tv _ _ _ _ => d.net.trans.length - (intOf tv).toNat)
    case atStart => exact ⟨0, p, rfl, rfl, Nat.zero_le _, hI, HD.out, HSI.out, HROW.out, hbr⟩
    case round =>
      obtain ⟨t, q, rfl, rfl, ht, hI, hD, hsi, hrow, hbr⟩ := hrel
      have HD := Lib.hid hD
      have HSI := Lib.hid hsi
      have HROW := Lib.hid hrow
      clear hD hsi hrow HALL hlt hi hle
      obtain ⟨As, cs, rfl⟩ := hI.st.open_
      have hle := HD.out.le
      have hlt : i < q.states.length := lt_of_get HSI.out
      by_cases htt : t < d.net.trans.length
      rotate_left
      · obtain rfl : t = d.net.trans.length := by omega
        have HALL := Lib.hid (row_end HROW.out)
        go_wp2_with fail
        go_roundw
        case rel => exact ⟨i + 1, q, by go_num, rfl, hI, HD.out, by omega, HALL.out, hbr⟩
        case measure => simp [intOf]; omega
      have hbwr := bthen hbw2 hbr
      have hBr := hB2.now hbr
      have hst := hI.st.sl RSt.kept
      obtain ⟨bs, os, si', mvs, vvs, rfl, hDs, hsi', hsm, hsv, c0, c1⟩ := SlSt.at_ hst hlt
      obtain rfl : si = si' := by rw [HSI.out] at hsi'; injection hsi'
      clear hsi'
      obtain ⟨Ams, cms, rfl, _, _, hsm⟩ := hsm.open_
      obtain ⟨Avs, cvs, rfl, _, _, hsv⟩ := hsv.open_
      have HVS : Hid (vstateB d si = true) := by
        show _ = _
        unfold vstateB
        rw [HV.out.1, HD.out.ok si (List.mem_of_getElem? HSI.out)]; rfl
      have HCF : Hid (∀ W, Below wr.heap.size wr W → Calls Tryz.prog 66 #[.agg #[.int .i64 d.net.places, .slice At d.net.trans.length ct, .int .i64 d.net.source, .int .i64 d.net.sink, .slice Ax d.vars.length cx, iv, .slice Ag d.guards.length cg, .slice Aw d.writes.length cw], .agg #[.slice Ams si.marks.length cms, .slice Avs si.vals.length cvs], .int .i64 t] W fun e w' => ∃ Am2 cm2 Av2 cv2, e = .returned (.tuple #[.agg #[.slice Am2 (fireD d si t).1.marks.length cm2, .slice Av2 (fireD d si t).1.vals.length cv2], .int .i64 (fireD d si t).2]) ∧ SlI (Fr wr.heap.size w') w' (.slice Am2 (fireD d si t).1.marks.length cm2) (fireD d si t).1.marks ∧ SlV (Fr wr.heap.size w') w' (.slice Av2 (fireD d si t).1.vals.length cv2) (fireD d si t).1.vals ∧ Below wr.heap.size wr w' ∧ Below W.heap.size W w') := fun W hW => by
        refine (fire_one n d si t _ _ W ((h0.now hbwr).now hW) ⟨_, _, rfl, hsm.now hW, hsv.now hW⟩ HVS.out hl).mono ?_
        rintro e w' ⟨u', he, ⟨m', v', rfl, hm', hv'⟩, hb'⟩
        obtain ⟨Am2, cm2, rfl, _, _, hm'⟩ := Sl.open_ hm'
        obtain ⟨Av2, cv2, rfl, _, _, hv'⟩ := Sl.open_ hv'
        exact ⟨Am2, cm2, Av2, cv2, he, SlI.from_ hm' hW.size, SlV.from_ hv' hW.size, bthen hW hb', hb'⟩
      have HS : Hid (∀ W, Below wr.heap.size wr W → W.cell? ⟨w.heap.size, 0, none⟩ = some (.int .i64 d.net.places) ∧ W.cell? ⟨w.heap.size, 1, none⟩ = some (.slice At d.net.trans.length ct) ∧ W.cell? ⟨w.heap.size, 2, none⟩ = some (.int .i64 d.net.source) ∧ W.cell? ⟨w.heap.size, 3, none⟩ = some (.int .i64 d.net.sink) ∧ W.cell? ⟨w.heap.size, 4, none⟩ = some (.slice Ax d.vars.length cx) ∧ W.cell? ⟨w.heap.size, 5, none⟩ = some iv ∧ W.cell? ⟨w.heap.size, 6, none⟩ = some (.slice Ag d.guards.length cg) ∧ W.cell? ⟨w.heap.size, 7, none⟩ = some (.slice Aw d.writes.length cw) ∧ W.cell? ⟨bs, os + i * 2, none⟩ = some (.slice Ams si.marks.length cms) ∧ W.cell? ⟨bs, os + i * 2 + 1, none⟩ = some (.slice Avs si.vals.length cvs)) := fun W hW => ⟨(hBr.now hW).c8.1, (hBr.now hW).c8.2.1, (hBr.now hW).c8.2.2.1, (hBr.now hW).c8.2.2.2.1, (hBr.now hW).c8.2.2.2.2.1, (hBr.now hW).c8.2.2.2.2.2.1, (hBr.now hW).c8.2.2.2.2.2.2.1, (hBr.now hW).c8.2.2.2.2.2.2.2, (hW.cell (p := ⟨bs, _, none⟩) hDs).trans c0, (hW.cell (p := ⟨bs, _, none⟩) hDs).trans c1⟩
      have HST : Hid ((fireD d si t).2 = 0 → stateB d (fireD d si t).1 = true) := fun hc => fire_state HV.out.1 (HD.out.ok si (List.mem_of_getElem? HSI.out)) hc
      have HEQ : Hid (∃ x, x = fireD d si (t : Int)) := ⟨_, rfl⟩
      clear hst hsm hsv c0 c1 hBr
      have i1 : (0 : Int) ≤ (i : Int) := by omega
      have i2 : (i : Int) < (q.states.length : Int) := by omega
      go_upto_region 15 with fail
      generalize hfd : fireD d si (t : Int) = fd at *
      have HFD := Lib.hid hfd
      clear hfd HEQ
      obtain ⟨ps, pc⟩ := fd
      dsimp only at *
      go_cut [16, 17] (fun s16 s17 W => ∃ (g : Nat) (Am2 : Option Addr) (cm2 : Nat) (Av2 : Option Addr) (cv2 : Nat), s16 = .pointer (some ⟨g, 0, none⟩) ∧ s17 = .int .i64 pc ∧ Blk W g 33 #[.slice Am2 ps.marks.length cm2, .slice Av2 ps.vals.length cv2] ∧ SlI (Fr wr.heap.size W) W (.slice Am2 ps.marks.length cm2) ps.marks ∧ SlV (Fr wr.heap.size W) W (.slice Av2 ps.vals.length cv2) ps.vals ∧ Below wr.heap.size wr W)
      case first =>
        have hbd : Below wr.heap.size wr wr.drew := (Below.refl _ _).drew
        have hbz : Below wr.heap.size wr (wr.alloc (.cells #[.slice none 0 0, .slice none 0 0] 33)).drew := (bone wr (.cells #[.slice none 0 0, .slice none 0 0] 33)).drew
        obtain ⟨a0, a1, a2, a3, a4, a5, a6, a7, d0, d1⟩ := HS.out _ hbd
        go_region_held3 (fun W => W.cell? ⟨w.heap.size, 0, none⟩ = some (.int .i64 d.net.places) ∧ W.cell? ⟨w.heap.size, 1, none⟩ = some (.slice At d.net.trans.length ct) ∧ W.cell? ⟨w.heap.size, 2, none⟩ = some (.int .i64 d.net.source) ∧ W.cell? ⟨w.heap.size, 3, none⟩ = some (.int .i64 d.net.sink) ∧ W.cell? ⟨w.heap.size, 4, none⟩ = some (.slice Ax d.vars.length cx) ∧ W.cell? ⟨w.heap.size, 5, none⟩ = some iv ∧ W.cell? ⟨w.heap.size, 6, none⟩ = some (.slice Ag d.guards.length cg) ∧ W.cell? ⟨w.heap.size, 7, none⟩ = some (.slice Aw d.writes.length cw) ∧ W.cell? ⟨bs, os + i * 2, none⟩ = some (.slice Ams si.marks.length cms) ∧ W.cell? ⟨bs, os + i * 2 + 1, none⟩ = some (.slice Avs si.vals.length cvs)) (first | exact HS.out _ (by assumption) | exact HS.out _ (bbox (by assumption) _) | exact HS.out _ (bset2 (by assumption) (by simp) _ _))
          (first | (go_at_call 66; (with_reducible refine (HCF.out _ (by assumption)).mono ?_); rintro e w6 ⟨Am2, cm2, Av2, cv2, rfl, hm6, hv6, hb6, hb7⟩; (try (have hZ := (Blk.new wr 33 #[.slice none 0 0, .slice none 0 0]).drew.now hb7; obtain ⟨z0, z1⟩ := hZ.c2; have f0 := hZ.frozen 0; have f1 := hZ.frozen 1))))
        all_goals (go_wp2_with fail; go_meet)
        all_goals
          first
            | exact ⟨_, _, _, _, _, rfl, rfl, Blk.new _ _ _, hm6.nowF (bone _ _), hv6.nowF (bone _ _), bbox hb6 _⟩
            | exact ⟨_, _, _, _, _, rfl, rfl, Blk.set2 (by assumption) _ _, SlI.set2F hm6 (by assumption) _ _, SlV.set2F hv6 (by assumption) _ _, bset2 hb6 (by simp) _ _⟩
      case rest =>
        obtain ⟨g, Am2, cm2, Av2, cv2, rfl, rfl, hY, hm5, hv5, hb5⟩ := hcut
        have hI5 := hI.now hb5
        have hbr5 := hbr.trans (hb5.mono hbr.size)
        clear HCF HS
        by_cases hpc : pc = 0
        rotate_left
        · have hq := exT_err (n := d) (most := mo) (i := i) (p := q) (s := si) (t := t) (by rw [HFD.out]; exact hpc)
          rw [HFD.out] at hq
          have HQ1 := Lib.hid (row_some htt hq HROW.out)
          have HQ2 := Lib.hid (exT_inv HV.out.1 HD.out HSI.out hq)
          have bpc : (pc != 0) = true := by simpa using hpc
          clear hpc hq
          obtain ⟨qs, qm, qf⟩ := q
          dsimp only at *
          cases qf
          · go_wp2_with fail
            go_roundw
            case rel => exact ⟨t + 1, _, by go_num, rfl, by omega, hI5.full, HQ2.out.1, pre_get HQ2.out.2.st HSI.out, HQ1.out, hbr5⟩
            case measure => simp [intOf]; omega
          · by_cases h5 : pc = 5
            · have b5 : (pc != 5) = false := by simp [h5]
              have HB : Hid (Value.bool false = .bool (true && decide (pc ≠ 5))) := by show _ = _; simp [h5]
              clear h5
              go_wp2_with fail
              go_roundw
              case rel => exact ⟨t + 1, _, by go_num, HB.out, by omega, hI5.full, HQ2.out.1, pre_get HQ2.out.2.st HSI.out, HQ1.out, hbr5⟩
              case measure => simp [intOf]; omega
            · have b5 : (pc != 5) = true := by simpa using h5
              have HB : Hid (Value.bool true = .bool (true && decide (pc ≠ 5))) := by show _ = _; simp [h5]
              clear h5
              go_wp2_with fail
              go_roundw
              case rel => exact ⟨t + 1, _, by go_num, HB.out, by omega, hI5.full, HQ2.out.1, pre_get HQ2.out.2.st HSI.out, HQ1.out, hbr5⟩
              case measure => simp [intOf]; omega
        subst hpc
        have hps := HST.out rfl
        have HF0 : Hid ((fireD d si (t : Int)).2 = 0) := by show _ = _; rw [HFD.out]
        have HF1 : Hid ((fireD d si (t : Int)).1 = ps) := by show _ = _; rw [HFD.out]
        obtain ⟨pl1, pl2, pl3⟩ := state_small hps
        have hks := keyS_size pl1 pl2 pl3
        have hav := (ha.now hbwr).now hb5
        have HK := Lib.hid (stKey_any ps _ _ ⟨_, _, rfl, hm5.weak, hv5.weak⟩ hav pl1 pl2 pl3)
        have HPI := Lib.hid (pos_idx HD.out.ok hps)
        have HPL := Lib.hid pl3
        obtain ⟨u0, u1⟩ := hY.c2
        clear hps pl3
        go_wp2_with fail
        refine HK.out.mono ?_
        rintro e w6 ⟨rfl, hb6⟩
        have hI6 := hI5.now hb6
        have hY6 := hY.now hb6
        have hm6 := hm5.nowF hb6
        have hv6 := hv5.nowF hb6
        have hbr6 := hbr5.trans (hb6.mono hbr5.size)
        have hb56 := bthen hb5 hb6
        have hav6 := hav.now hb6
        obtain ⟨c, hlk, hc⟩ := hI6.mp.look hks
        have hpe : (⟨(keyS ps).toArray⟩ : ByteArray).data.toList = keyS ps := rfl
        rw [hpe, HPI.out] at hlk hc
        have HKP := Lib.hid hpe
        clear hpe HK u0 u1 hY hm5 hv5 hb6 hI5 hbr5 hav
        have hszr6 := hbr6.size
        cases hx : idxS q.states ps with
        | some k =>
          rw [hx] at hlk hc
          obtain rfl := hc k rfl
          have HX := Lib.hid hx
          generalize hkk : (⟨(keyS ps).toArray⟩ : ByteArray) = K at *
          clear hx hc hkk
          dsimp only [Option.isSome] at hlk
          have hqm := HD.out.mvl
          go_upto_region 25 with fail
          clear hlk
          go_upto_region 26 with (at_builtin; refine wpList_pushW (fc := cellsM) appMvs rfl (.tmp 95) (.tmp 100) rfl w6 ⟨i, k, t⟩ q.moves rfl (cellsM_one _) _ rfl hI6.mo rfl (by omega) hszr6 ?_; intro mv' w7 hmo7 hg7 hat7)
          obtain ⟨hI7, hb7⟩ := hI6.pushM hmo7 hg7 hat7 hszr6
          obtain ⟨A7, c7, rfl⟩ := OwnM.form hmo7
          have hbr7 := hbr6.trans hb7
          have hln : (q.moves ++ [(⟨i, k, t⟩ : Mv)]).length = q.moves.length + 1 := by simp
          rw [hln] at hI7 ⊢
          by_cases hfull : q.moves.length < 20000
          · have hq := exT_met (n := d) (most := mo) (i := i) HF0.out (by rw [HF1.out]; exact HX.out) hfull
            have HQ1 := Lib.hid (row_some htt hq HROW.out)
            have HQ2 := Lib.hid (exT_inv HV.out.1 HD.out HSI.out hq)
            clear hq
            go_wp2_with fail
            go_roundw
            case rel => exact ⟨t + 1, ⟨q.states, q.moves ++ [⟨i, k, t⟩], q.full⟩, by go_num, rfl, by omega, hI7, HQ2.out.1, pre_get HQ2.out.2.st HSI.out, HQ1.out, hbr7⟩
            case measure => simp [intOf]; omega
          · have hq := exT_met_full (n := d) (most := mo) (i := i) HF0.out (by rw [HF1.out]; exact HX.out) hfull
            have HE := Lib.hid (HRN.out (row_none htt hq HROW.out))
            clear hq
            go_wp2_with fail
            (try simp only [Exit.inBlock, Exit.then])
            refine bodyPost_ret (results_tmp4 rfl _ _ _) rfl ?_
            rw [HE.out]
            exact ⟨_, _, rfl, Sl.none_, Sl.none_, bthen hbw2 hbr7⟩
        | none =>
          rw [hx] at hlk
          have HX := Lib.hid hx
          have hkz := keyS_size pl1 pl2 HPL.out
          have HPN : Hid (posB (q.states.map keyS) (⟨(keyS ps).toArray⟩ : ByteArray).data.toList = none) := by show _ = _; rw [HKP.out, HPI.out, hx]
          clear hx hc
          dsimp only [Option.isSome] at hlk
          have hqm := HD.out.mvl
          by_cases hmost : q.states.length < mo
          rotate_left
          · have hq := exT_cut (n := d) (most := mo) (i := i) HF0.out (by rw [HF1.out]; exact HX.out) hmost
            have HQ1 := Lib.hid (row_some htt hq HROW.out)
            have HQ2 := Lib.hid (exT_inv HV.out.1 HD.out HSI.out hq)
            have hmost' : (mo : Int) ≤ (q.states.length : Int) := by omega
            clear hq
            generalize (⟨(keyS ps).toArray⟩ : ByteArray) = K at *
            go_wp2_with fail
            go_roundw
            case rel => exact ⟨t + 1, _, by go_num, rfl, by omega, hI6.full, HQ2.out.1, pre_get HQ2.out.2.st HSI.out, HQ1.out, hbr6⟩
            case measure => simp [intOf]; omega
          have hmost' : ¬ (mo : Int) ≤ (q.states.length : Int) := by omega
          have HK := Lib.hid (stKey_any ps _ w6 ⟨_, _, rfl, hm6.weak, hv6.weak⟩ hav6 pl1 pl2 HPL.out)
          obtain ⟨u0, u1⟩ := hY6.c2
          have HKQ : Hid (∀ e w', KeyPost ps w6 e w' → e = .returned (.string ⟨(keyS ps).toArray⟩) ∧ Below w6.heap.size w6 w') := fun e w' h => h
          generalize hkk : (⟨(keyS ps).toArray⟩ : ByteArray) = K at *
          clear hkk hks
          go_wp2_with fail
          refine HK.out.mono ?_
          intro e w7 hkp
          obtain ⟨rfl, hb7⟩ := HKQ.out _ _ hkp
          have hI7 := hI6.now hb7
          have hY7 := hY6.now hb7
          have hm7 := hm6.nowF hb7
          have hv7 := hv6.nowF hb7
          have hbr7 := hbr6.trans (hb7.mono hbr6.size)
          have hszr7 := hbr7.size
          obtain ⟨w8, hrun8, hp8, hg8⟩ := hI7.mp.put (z := q.states.length) hkz (by unfold maxLen; have := HD.out.le; omega) (by rw [List.length_map]; have := HD.out.le; omega) HPN.out (by rw [List.length_map])
          rw [HKP.out] at hp8
          clear hkp HK HKQ hlk u0 u1 hY6 hm6 hv6 hb7 hI6 hbr6
          go_upto_region 24 with fail
          clear hrun8
          obtain ⟨hst8, hmo8, hb78⟩ := hI7.putS hg8 hszr7
          have hgm : w5.heap.size < wr.heap.size := hI.mp.lt
          have hY8 := hY7.grown hg8 (fun e => by injection e with e; exact PosP.ne hI7.mp hY7 e)
          have hm8 := hm7.grownF hg8 (fun g hg => by injection hg with hg; subst hg; exact hgm)
          have hv8 := hv7.grownF hg8 (fun g hg => by injection hg with hg; subst hg; exact hgm)
          have hoff := hI.off hm8 hv8
          have hszr8 := hb78.size
          have hbr8 := hbr7.trans hb78
          obtain ⟨u0, u1⟩ := hY8.c2
          have hqs := HD.out.le
          go_upto_region 25 with (at_builtin; refine wpList_pushR (X := _) appSts RSt.kept rfl (.tmp 91) (.tmp 93) rfl w8 [.slice Am2 ps.marks.length cm2, .slice Av2 ps.vals.length cv2] rfl (by simp [Value.oneCell']) _ q.states ps rfl hst8 hoff rfl (by omega) (by omega) ?_; intro sv9 w9 hst9 hg9 hat9)
          obtain ⟨hI9, hb9⟩ := ExI.pushS hst8 hmo8 hp8 hI7.lo hst9 hg9 (by omega)
          obtain ⟨A9, c9, rfl⟩ := hst9.open_
          have hbr9 := hbr8.trans hb9
          have hszr9 := hbr9.size
          have hln9 : (q.states ++ [ps]).length = q.states.length + 1 := by simp
          clear u0 u1 hY7 hY8 hm7 hv7 hm8 hv8 hoff hst8 hmo8 hp8 hg8 hst9 hg9 hat9 hb78 hb9 hI7 hI
          go_upto_region 26 with (at_builtin; refine wpList_pushW (fc := cellsM) appMvs rfl (.tmp 95) (.tmp 100) rfl w9 ⟨i, q.states.length, t⟩ q.moves rfl (cellsM_one _) _ rfl hI9.mo rfl (by omega) hszr9 ?_; intro mv' w10 hmo7 hg7 hat7)
          obtain ⟨hI10, hb10⟩ := hI9.pushM hmo7 hg7 hat7 hszr9
          obtain ⟨A7, c7, rfl⟩ := OwnM.form hmo7
          have hbr10 := hbr9.trans hb10
          have hln : (q.moves ++ [(⟨i, q.states.length, t⟩ : Mv)]).length = q.moves.length + 1 := by simp
          rw [hln] at hI10 ⊢
          rw [hln9] at hI10
          by_cases hfull : q.moves.length < 20000
          · have hq := exT_new (n := d) (most := mo) (i := i) HF0.out (by rw [HF1.out]; exact HX.out) hmost hfull
            rw [HF1.out] at hq
            have HQ1 := Lib.hid (row_some htt hq HROW.out)
            have HQ2 := Lib.hid (exT_inv HV.out.1 HD.out HSI.out hq)
            clear hq
            go_wp2_with fail
            go_roundw
            case rel => exact ⟨t + 1, ⟨q.states ++ [ps], q.moves ++ [⟨i, q.states.length, t⟩], q.full⟩, by go_num, rfl, by omega, hI10, HQ2.out.1, pre_get HQ2.out.2.st HSI.out, HQ1.out, hbr10⟩
            case measure => simp [intOf]; omega
          · have hq := exT_new_full (n := d) (most := mo) (i := i) HF0.out (by rw [HF1.out]; exact HX.out) hmost hfull
            have HE := Lib.hid (HRN.out (row_none htt hq HROW.out))
            clear hq
            go_wp2_with fail
            (try simp only [Exit.inBlock, Exit.then])
            refine bodyPost_ret (results_tmp4 rfl _ _ _) rfl ?_
            rw [HE.out]
            exact ⟨_, _, rfl, Sl.none_, Sl.none_, bthen hbw2 hbr10⟩
end Go.Proofs.YtlmenhjlgmejkaaGreatDoor
