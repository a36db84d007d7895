/- The reference's Fire. -/
import Derived.Test.YtphdafhidhfmnaaDoorRun
import Derived.StillTailTactics
import Derived.Deep.Light
namespace Go.Proofs.YtphdafhidhfmnaaDoor
open Go.RowKit

set_option maxHeartbeats 2000000 in
set_option maxRecDepth 100000 in
theorem fire_ref (n : Net) (v mv : Value) (m : List Int) (t : Int) (w : World) (h : IsNet (Lt w.heap.size) w v n) (hm : SlI (Lt w.heap.size) w mv m) :
    Calls Tryd.prog 27 #[v, mv, .int .i64 t] w (RetIE (fireE n m t).1 (fireE n m t).2 w) := by
  have h0 := h
  obtain ⟨tv, rfl, hp, hs, hkk, ht⟩ := h
  obtain ⟨A, c, rfl, h1, h2, ht⟩ := ht.open_
  obtain ⟨Am, cm, rfl, m1, m2, hm⟩ := hm.open_
  go_enter Tryd.func27, Tryd.ntmps27
  go_wp2_with fail
  have hb := bone w (Obj.cells #[Value.int IntKind.i64 n.places, Value.slice A n.trans.length c, Value.int IntKind.i64 n.source, Value.int IntKind.i64 n.sink] 24)
  refine (valid_ref n _ _ (h0.now hb)).mono ?_
  rintro e w1 ⟨rfl, hb1⟩
  have hbw := bthen hb hb1
  have hB1 := (Blk.new w 24 #[.int .i64 n.places, .slice A n.trans.length c, .int .i64 n.source, .int .i64 n.sink]).now hb1
  obtain ⟨q0, q1, q2, q3⟩ := hB1.c4
  have hlt1 := hB1.lt
  generalize hq : validB n = q
  have HV := Lib.hid hq
  clear hq
  cases q
  · have HE : Hid (fireE n m t = ([], 1)) := by show fireE n m t = _; unfold fireE; rw [HV.out]; rfl
    go_wp2_with fail
    go_ret2
    rw [HE.out]
    exact ⟨_, rfl, Sl.none_, hbw⟩
  go_wp2_with fail
  refine (marking_ref n _ _ m _ (h0.now hbw) (hm.now hbw)).mono ?_
  rintro e w2 ⟨rfl, hb2⟩
  have hbw2 := bthen hbw hb2
  have hB2 := hB1.now hb2
  clear hB1 q0 q1 q2 q3 hlt1 hb1 hb2 hbw hb
  obtain ⟨q0, q1, q2, q3⟩ := hB2.c4
  have hlt2 := hB2.lt
  generalize hq : markingB n.places m = q
  have HM := Lib.hid hq
  clear hq
  cases q
  · have HE : Hid (fireE n m t = ([], 1)) := by show fireE n m t = _; unfold fireE; rw [HV.out, HM.out]; rfl
    go_wp2_with fail
    go_ret2
    rw [HE.out]
    exact ⟨_, rfl, Sl.none_, hbw2⟩
  have HE : Hid (fireE n m t = fireB n m t) := by show fireE n m t = _; unfold fireE; rw [HV.out, HM.out]; rfl
  obtain ⟨v1, v2, v3, v4⟩ := validOk HV.out
  obtain ⟨hml, hmw⟩ := markOk HM.out
  have HV4 := Lib.hid v4
  have HML := Lib.hid hml
  have HMW := Lib.hid hmw
  have hml1 : (m.length : Int) ≤ 40 := by omega
  have hm0 : 0 < m.length := by omega
  clear v4 hml hmw
  by_cases h0' : t < 0
  · have HN := Lib.hid (fireB_none (n := n) (m := m) (t := t) (.inl h0'))
    go_wp2_with fail
    go_ret2
    rw [HE.out, HN.out]
    exact ⟨_, rfl, Sl.none_, hbw2⟩
  obtain ⟨k, rfl⟩ := Int.eq_ofNat_of_zero_le (Int.not_lt.1 h0')
  by_cases h3 : n.trans.length ≤ k
  · have HN := Lib.hid (fireB_none (n := n) (m := m) (t := (k : Int)) (.inr (by omega)))
    go_wp2_with fail
    go_ret2
    rw [HE.out, HN.out]
    exact ⟨_, rfl, Sl.none_, hbw2⟩
  have hkl : k < n.trans.length := by omega
  obtain ⟨b, o, x, iv, ov, rfl, hD, hx, hl, hti, hto, c0, c1, c2⟩ := (ht.now hbw2).at_ hkl
  have HF := Lib.hid (fireB_some (m := m) hx)
  have HTR := Lib.hid (HV4.out x (List.mem_of_getElem? hx))
  obtain ⟨Ai, ci, rfl, i1, i2, hti⟩ := hti.open_
  obtain ⟨Ao, co, rfl, o1, o2, hto⟩ := hto.open_
  obtain ⟨pi, po⟩ := trPlaces HTR.out
  have li := places_len pi
  have lo := places_len po
  have hin : Inside x.ins m := fun p hp => by have := places_mem pi p hp; have := HML.out; omega
  have hout : Inside x.outs m := fun p hp => by have := places_mem po p hp; have := HML.out; omega
  have HC := Lib.hid (fun W (hW : Below w2.heap.size w2 W) => can_ref n _ _ m k x W ((h0.now hbw2).now hW) ((hm.now hbw2).now hW) hx hin)
  clear hx pi po h0' h3
  go_wp2_with fail
  refine (HC.out _ (Below.refl _ _)).mono ?_
  rintro e w3 ⟨rfl, hb3⟩
  clear HC
  have hB3 := hB2.now hb3
  have hbw3 := bthen hbw2 hb3
  have hti3 := hti.now hb3
  have hto3 := hto.now hb3
  have ht3 := (ht.now hbw3)
  clear c0 q0 q1 q2 q3 hlt2 hB2 hti hto
  obtain ⟨q0, q1, q2, q3⟩ := hB3.c4
  have hlt3 := hB3.lt
  generalize hq : canB x.ins m = q
  have HCB := Lib.hid hq
  clear hq
  cases q
  · have HT : Hid (fireT x m = ([], 12)) := by show fireT x m = _; unfold fireT; rw [HCB.out]; rfl
    go_wp2_with fail
    go_ret2
    rw [HE.out, HF.out, HT.out]
    exact ⟨_, rfl, Sl.none_, hbw3⟩
  have hm3 := (hm.now hbw3).now (bone w3 (.cells #[] 3))
  go_wp2_with (at_builtin; refine wpList_appendAll appInts rfl (.tmp 34) (.tmp 35) rfl _ _ 0 [] rfl (World.ownsRow_lit (base := w3.heap.size) (e := 3) (size := 1) w3 #[] 0 (Nat.le_refl _) (by unfold maxLen; omega) rfl) _ m (Value.int .i64) rfl hm3 (fun y c h => by injection h.1) (fun y => rfl) (by omega) (by simp) ?_; intro vo w4 hown hgr hat)
  rw [Nat.zero_add, List.nil_append] at hown
  obtain ⟨g, cap, rfl, hcap, hown⟩ := OwnI.of hown hm0
  have hb4 : Below w3.heap.size w3 w4 := ((bone w3 (.cells #[] 3))).trans (below_of_grown hgr (by simp) (fun g hg => by injection hg with hg; exact Nat.le_of_eq hg))
  have hbw4 := bthen hbw3 hb4
  obtain ⟨q0, q1, q2, q3⟩ := (hB3.now hb4).c4
  clear hgr hat
  have HB4 := Lib.hid hb4
  clear q0 q1 q2 q3 hm3 hb4
  go_loopw [9] (fun i wr => ∃ j : Nat, j ≤ x.ins.length ∧ i = .int .i64 j ∧ OwnI wr w3.heap.size 3 g cap (bump (-1) m (x.ins.take j)) ∧ Below w3.heap.size w3 wr) (fun i _ => x.ins.length - (intOf i).toNat)
  case atStart => exact ⟨0, Nat.zero_le _, rfl, hown, HB4.out⟩
  case round =>
    obtain ⟨j, hj, rfl, howr, hbr⟩ := hrel
    have hgb := howr.from_
    obtain ⟨q0, q1, q2, q3⟩ := (hB3.now hbr).c4
    have hbr2 := bthen hb3 hbr
    have d1 := (hbr2.cell (p := ⟨b, o + k * 3 + 1, none⟩) hD).trans c1
    have d2 := (hbr2.cell (p := ⟨b, o + k * 3 + 2, none⟩) hD).trans c2
    by_cases hlt : j < x.ins.length
    · obtain ⟨b1, o1', p, rfl, hD1, hx1, hf1, e1⟩ := (hti3.now hbr).at_ hlt
      obtain ⟨hp0, hp1⟩ := hin p (List.mem_of_getElem? hx1)
      obtain ⟨y, rfl⟩ := Int.eq_ofNat_of_zero_le hp0
      rw [Int.toNat_natCast] at hp1
      have hyl : y < (bump (-1) m (x.ins.take j)).length := by rw [bump_length]; exact hp1
      have hcell := howr.cell (get_of_within hyl)
      have hfro := howr.frozen y
      have hwi := within_get (within_bump (-1) (.inr rfl) (x.ins.take j) 0 100 _ HMW.out (by omega) (by omega) (fun q hq => (hin q (List.mem_of_mem_take hq)).2)) hyl
      rw [List.length_take, Nat.min_eq_left hj] at hwi
      have HS : Hid (bump (-1) m (x.ins.take (j + 1)) = (bump (-1) m (x.ins.take j)).set y ((bump (-1) m (x.ins.take j)).getD y 0 + (-1))) := by
        have := bump_snoc (-1) m x.ins j _ hx1
        unfold bump1 at this
        rwa [Int.toNat_natCast] at this
      generalize hz : (bump (-1) m (x.ins.take j)).getD y 0 = z at hcell hwi HS
      have a1 : (0 : Int) ≤ (k : Int) := by omega
      have a2 : (k : Int) < (n.trans.length : Int) := by omega
      have a3 : (0 : Int) ≤ (j : Int) := by omega
      have a4 : (j : Int) < (x.ins.length : Int) := by omega
      have a5 : (0 : Int) ≤ (y : Int) := by omega
      have a6 : (y : Int) < (m.length : Int) := by omega
      clear hz hx1 hf1 hD1
      go_wp2_with fail
      go_still_tail 24, (by kernel_rfl)
      change wpList _ _ _ _ _ wr.drew
      go_wp2_with fail
      go_roundw
      case rel =>
        refine ⟨j + 1, by omega, by go_num, ?_, (hbr.setCell (p := ⟨g, y, none⟩) hgb _).drew⟩
        rw [HS.out]
        exact (howr.set_ y _).drew
      case measure => simp [intOf]; omega
    · obtain rfl : j = x.ins.length := by omega
      rw [List.take_of_length_le (Nat.le_refl _)] at howr
      have HW1 : Hid (Within (-40) 140 (bump (-1) m x.ins)) := within_mono (within_bump (-1) (.inr rfl) x.ins 0 100 m HMW.out (by omega) (by omega) (fun q hq => (hin q hq).2)) (by omega) (by omega)
      obtain ⟨wi, rfl⟩ : ∃ wi : World, wi = wr := ⟨_, rfl⟩
      have howi := howr
      have hbi := hbr
      clear howr
      go_wp2_with fail
      clear q0 q1 q2 q3 d1 d2 hbr2 hgb
      go_loopw [10] (fun i wr => ∃ j : Nat, j ≤ x.outs.length ∧ i = .int .i64 j ∧ OwnI wr w3.heap.size 3 g cap (bump 1 (bump (-1) m x.ins) (x.outs.take j)) ∧ Below w3.heap.size w3 wr) (fun i _ => x.outs.length - (intOf i).toNat)
      case atStart => exact ⟨0, Nat.zero_le _, rfl, howi, hbi⟩
      case round =>
        obtain ⟨j, hj, rfl, howr, hbr⟩ := hrel
        have hgb := howr.from_
        obtain ⟨q0, q1, q2, q3⟩ := (hB3.now hbr).c4
        have hbr2 := bthen hb3 hbr
        have d1 := (hbr2.cell (p := ⟨b, o + k * 3 + 1, none⟩) hD).trans c1
        have d2 := (hbr2.cell (p := ⟨b, o + k * 3 + 2, none⟩) hD).trans c2
        by_cases hlt : j < x.outs.length
        · obtain ⟨b1, o1', p, rfl, hD1, hx1, hf1, e1⟩ := (hto3.now hbr).at_ hlt
          obtain ⟨hp0, hp1⟩ := hout p (List.mem_of_getElem? hx1)
          obtain ⟨y, rfl⟩ := Int.eq_ofNat_of_zero_le hp0
          rw [Int.toNat_natCast] at hp1
          have hyl : y < (bump 1 (bump (-1) m x.ins) (x.outs.take j)).length := by rw [bump_length]; rw [bump_length]; exact hp1
          have hcell := howr.cell (get_of_within hyl)
          have hfro := howr.frozen y
          have hwi := within_get (within_bump 1 (.inl rfl) (x.outs.take j) (-40) 140 _ HW1.out (by omega) (by omega) (fun q hq => by rw [bump_length]; exact (hout q (List.mem_of_mem_take hq)).2)) hyl
          rw [List.length_take, Nat.min_eq_left hj] at hwi
          have HS : Hid (bump 1 (bump (-1) m x.ins) (x.outs.take (j + 1)) = (bump 1 (bump (-1) m x.ins) (x.outs.take j)).set y ((bump 1 (bump (-1) m x.ins) (x.outs.take j)).getD y 0 + 1)) := by
            have := bump_snoc 1 (bump (-1) m x.ins) x.outs j _ hx1
            unfold bump1 at this
            rwa [Int.toNat_natCast] at this
          generalize hz : (bump 1 (bump (-1) m x.ins) (x.outs.take j)).getD y 0 = z at hcell hwi HS
          have a1 : (0 : Int) ≤ (k : Int) := by omega
          have a2 : (k : Int) < (n.trans.length : Int) := by omega
          have a3 : (0 : Int) ≤ (j : Int) := by omega
          have a4 : (j : Int) < (x.outs.length : Int) := by omega
          have a5 : (0 : Int) ≤ (y : Int) := by omega
          have a6 : (y : Int) < (m.length : Int) := by omega
          clear hz hx1 hf1 hD1
          go_wp2_with fail
          go_still_tail 24, (by kernel_rfl)
          change wpList _ _ _ _ _ wr.drew
          go_wp2_with fail
          go_roundw
          case rel =>
            refine ⟨j + 1, by omega, by go_num, ?_, (hbr.setCell (p := ⟨g, y, none⟩) hgb _).drew⟩
            rw [HS.out]
            exact (howr.set_ y _).drew
          case measure => simp [intOf]; omega
        · obtain rfl : j = x.outs.length := by omega
          rw [List.take_of_length_le (Nat.le_refl _)] at howr
          have hfin : OwnI wr w3.heap.size 3 g cap (outOf x m) := howr
          have hlen : (outOf x m).length = m.length := out_length x m
          have hfits := within_fit (within_bump 1 (.inl rfl) x.outs (-40) 140 _ HW1.out (by omega) (by omega) (fun q hq => by rw [bump_length]; exact (hout q hq).2)) (by omega) (by omega)
          have HSL := Lib.hid (hfin.sl hfits)
          have hbwr := bthen hbw3 hbr
          have HMX := Lib.hid (marking_ref n _ _ (outOf x m) wr (h0.now hbwr) HSL.out)
          rw [out_marking v1 HM.out HTR.out HCB.out] at HMX
          rw [hlen] at HSL HMX
          clear howr hfin hlen hfits hbr
          by_cases hmx : 100 < Lib.maxOf (outOf x m)
          · have HT : Hid (fireT x m = ([], 5)) := by show fireT x m = _; unfold fireT; rw [HCB.out, if_pos hmx]; rfl
            rw [decide_eq_true hmx] at HMX
            clear hmx
            go_wp2_with (go_at_call 20; refine HMX.out.mono ?_; rintro e w' ⟨rfl, hb'⟩)
            go_ret2
            rw [HE.out, HF.out, HT.out]
            exact ⟨_, rfl, Sl.none_, bthen hbwr hb'⟩
          · have HT : Hid (fireT x m = (outOf x m, 0)) := by show fireT x m = _; unfold fireT; rw [HCB.out, if_neg hmx]; rfl
            rw [decide_eq_false hmx] at HMX
            clear hmx
            go_wp2_with (go_at_call 20; refine HMX.out.mono ?_; rintro e w' ⟨rfl, hb'⟩)
            go_ret2
            rw [HE.out, HF.out, HT.out]
            exact ⟨_, rfl, HSL.out.now hb', bthen hbwr hb'⟩

end Go.Proofs.YtphdafhidhfmnaaDoor
