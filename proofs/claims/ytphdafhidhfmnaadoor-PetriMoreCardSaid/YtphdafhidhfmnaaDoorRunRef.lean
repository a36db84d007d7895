/- The reference's Run and Word. -/
import Derived.Test.YtphdafhidhfmnaaDoorFireRef
import Derived.Test.YtphdafhidhfmnaaDoorGrow
import Derived.Deep.RegionWith
import Derived.Deep.RegionLaw
namespace Go.Proofs.YtphdafhidhfmnaaDoor
open Go.RowKit

set_option maxHeartbeats 2000000 in
theorem run_ref (n : Net) (v mv lv : Value) (m l : List Int) (w : World) (h : IsNet (Lt w.heap.size) w v n) (hm : SlI (Lt w.heap.size) w mv m) (hl : SlI (Lt w.heap.size) w lv l) :
    Calls Tryd.prog 14 #[v, mv, lv] w (RetIKE (runB n m l).1 ((runB n m l).2.1 : Int) (runB n m l).2.2 w) := by
  have h0 := h
  obtain ⟨tv, rfl, hp, hs, hkk, ht⟩ := h
  obtain ⟨A, c, rfl, h1, h2, ht⟩ := ht.open_
  obtain ⟨Al, cl, rfl, l1, l2, hl⟩ := hl.open_
  obtain ⟨Am, cm, rfl, m1, m2, hm⟩ := hm.open_
  go_enter Tryd.func14, Tryd.ntmps14
  go_wp2_with fail
  have hb := bone w (Obj.cells #[Value.int IntKind.i64 n.places, Value.slice A n.trans.length c, Value.int IntKind.i64 n.source, Value.int IntKind.i64 n.sink] 24)
  refine (valid_ref n _ _ (h0.now hb)).mono ?_
  rintro e w1 ⟨rfl, hb1⟩
  have hbw := bthen hb hb1
  have hB1 := (Blk.new w 24 #[.int .i64 n.places, .slice A n.trans.length c, .int .i64 n.source, .int .i64 n.sink]).now hb1
  obtain ⟨q0, q1, q2, q3⟩ := hB1.c4
  have hlt1 := hB1.lt
  generalize hq : validB n = q
  have HV := Lib.hid hq
  clear hq
  cases q
  · have HE : Hid (runB n m l = ([], 0, 1)) := by show runB n m l = _; unfold runB; rw [HV.out]; rfl
    go_wp2_with fail
    go_ret3
    rw [HE.out]
    exact ⟨_, rfl, Sl.none_, hbw⟩
  go_wp2_with fail
  refine (marking_ref n _ _ m _ (h0.now hbw) (hm.now hbw)).mono ?_
  rintro e w2 ⟨rfl, hb2⟩
  have hbw2 := bthen hbw hb2
  have hB2 := hB1.now hb2
  clear hB1 q0 q1 q2 q3 hlt1 hb1 hb2 hbw hb
  obtain ⟨q0, q1, q2, q3⟩ := hB2.c4
  have hlt2 := hB2.lt
  generalize hq : markingB n.places m = q
  have HM := Lib.hid hq
  clear hq
  cases q
  · have HE : Hid (runB n m l = ([], 0, 1)) := by show runB n m l = _; unfold runB; rw [HV.out, HM.out]; rfl
    go_wp2_with fail
    go_ret3
    rw [HE.out]
    exact ⟨_, rfl, Sl.none_, hbw2⟩
  by_cases hlen : 1000 < l.length
  · have HE : Hid (runB n m l = ([], 0, 5)) := by show runB n m l = _; unfold runB; rw [HV.out, HM.out, if_pos hlen]; rfl
    go_wp2_with fail
    go_ret3
    rw [HE.out]
    exact ⟨_, rfl, Sl.none_, hbw2⟩
  have HE : Hid (runB n m l = runFrom n m (l.drop 0) 0) := by show runB n m l = _; unfold runB; rw [HV.out, HM.out, if_neg hlen]; rfl
  have hm40 : m.length ≤ 40 := by have := markOk HM.out; have := validOk HV.out; omega
  have hm3 := (hm.now hbw2).now (bone w2 (.cells #[] 3))
  go_wp2_with (at_builtin; refine wpList_appendAll appInts rfl (.tmp 25) (.tmp 26) rfl _ _ 0 [] rfl (World.ownsRow_lit (base := w2.heap.size) (e := 3) (size := 1) w2 #[] 0 (Nat.le_refl _) (by unfold maxLen; omega) rfl) _ m (Value.int .i64) rfl hm3 (fun y c h => by injection h.1) (fun y => rfl) (by omega) (by simp) ?_; intro vo w4 hown hgr hat)
  rw [Nat.zero_add, List.nil_append] at hown
  have hcl : SlI (Lt w4.heap.size) w4 vo m := SlI.of_own hown (hm.fits)
  have hb4 : Below w2.heap.size w2 w4 := ((bone w2 (.cells #[] 3))).trans (below_of_grown hgr (by simp) (fun g hg => by injection hg with hg; exact Nat.le_of_eq hg))
  have hbw4 := bthen hbw2 hb4
  have hB4 := hB2.now hb4
  clear hgr hat hown hm3 q0 q1 q2 q3 hlt2 hb4 hB2
  go_loopw [9, 10] (fun nv i wr => ∃ (j : Nat) (cur : List Int), j ≤ l.length ∧ i = .int .i64 j ∧ runFrom n m (l.drop 0) 0 = runFrom n cur (l.drop j) j ∧ markingB n.places cur = true ∧ SlI (Lt wr.heap.size) wr nv cur ∧ Below w.heap.size w wr ∧ Blk wr w.heap.size 24 #[.int .i64 n.places, .slice A n.trans.length c, .int .i64 n.source, .int .i64 n.sink]) (fun _ i _ => l.length - (intOf i).toNat)
  case atStart => exact ⟨0, m, Nat.zero_le _, rfl, rfl, HM.out, hcl, hbw4, hB4⟩
  case round =>
    obtain ⟨j, cur, hj, rfl, hrun, hmk, hcur, hbr, hBr⟩ := hrel
    have HR := Lib.hid hrun
    have HMC := Lib.hid hmk
    clear hrun hmk
    obtain ⟨q0, q1, q2, q3⟩ := hBr.c4
    obtain ⟨Ac, cc, rfl, k1, k2, hcur⟩ := hcur.open_
    by_cases hlt : j < l.length
    · obtain ⟨b, o, t, rfl, hD, hx, hf, c0⟩ := (hl.now hbr).at_ hlt
      have HX := Lib.hid hx
      have HF := Lib.hid (fire_ref n _ _ cur t wr.drew (h0.now hbr.drew) hcur)
      have HFE : Hid (fireE n cur t = fireB n cur t) := by show fireE n cur t = _; unfold fireE; rw [HV.out, HMC.out]; rfl
      rw [HFE.out] at HF
      have a3 : (0 : Int) ≤ (j : Int) := by omega
      have a4 : (j : Int) < (l.length : Int) := by omega
      clear hx
      go_wp2_with fail
      go_region_with (go_at_call 27; refine HF.out.mono ?_; rintro e w3 ⟨v', rfl, hsl, hb3⟩)
      all_goals
        clear HF
        by_cases h00 : (fireB n cur t).2 = 0
        · have HS := Lib.hid (run_step HX.out h00)
          have HMK := Lib.hid (fire_mark HV.out HMC.out h00)
          have h01 : ((fireB n cur t).2 != 0) = false := by simpa using h00
          generalize fireB n cur t = r at *
          clear h00
          go_wp2_with fail
          go_roundw
          case rel => exact ⟨j + 1, r.1, by omega, by go_num, HR.out.trans HS.out, HMK.out, hsl, bthen hbr.drew hb3, hBr.drew.now hb3⟩
          case measure => simp [intOf]; omega
        · have HS := Lib.hid (run_stop HX.out h00)
          have h01 : ((fireB n cur t).2 != 0) = true := by simpa using h00
          generalize fireB n cur t = r at *
          clear h00
          go_wp2_with fail
          go_ret3
          rw [HE.out, HR.out, HS.out]
          exact ⟨_, rfl, Sl.none_, bthen hbr.drew hb3⟩
    · obtain rfl : j = l.length := by omega
      go_wp2_with fail
      go_ret3
      rw [HE.out, HR.out, run_end]
      exact ⟨_, rfl, hcur, hbr⟩

set_option maxHeartbeats 2000000 in
theorem word_ref (n : Net) (v lv : Value) (l : List Int) (w : World) (h : IsNet (Lt w.heap.size) w v n) (hl : SlI (Lt w.heap.size) w lv l) :
    Calls Tryd.prog 16 #[v, lv] w (RetSE (wordB n l).1 (wordB n l).2 w) := by
  have h0 := h
  obtain ⟨tv, rfl, hp, hs, hkk, ht⟩ := h
  obtain ⟨A, c, rfl, h1, h2, ht⟩ := ht.open_
  obtain ⟨Al, cl, rfl, l1, l2, hl⟩ := hl.open_
  go_enter Tryd.func16, Tryd.ntmps16
  go_wp2_with fail
  have hb := bone w (Obj.cells #[Value.int IntKind.i64 n.places, Value.slice A n.trans.length c, Value.int IntKind.i64 n.source, Value.int IntKind.i64 n.sink] 24)
  refine (valid_ref n _ _ (h0.now hb)).mono ?_
  rintro e w1 ⟨rfl, hb1⟩
  have hbw := bthen hb hb1
  have hB1 := (Blk.new w 24 #[.int .i64 n.places, .slice A n.trans.length c, .int .i64 n.source, .int .i64 n.sink]).now hb1
  generalize hq : validB n = q
  have HQ := Lib.hid hq
  clear hq
  cases q
  · have HE : Hid (wordB n l = ([], 1)) := by show wordB n l = _; unfold wordB; rw [HQ.out]; rfl
    go_wp2_with fail
    go_ret2
    rw [HE.out]
    exact ⟨_, rfl, Sl.none_, hbw⟩
  · by_cases hlen : 1000 < l.length
    · have HE : Hid (wordB n l = ([], 5)) := by show wordB n l = _; unfold wordB; rw [HQ.out, if_pos hlen]; rfl
      go_wp2_with fail
      go_ret2
      rw [HE.out]
      exact ⟨_, rfl, Sl.none_, hbw⟩
    · have HE : Hid (wordB n l = wordFrom n (l.drop 0) []) := by show wordB n l = _; unfold wordB; rw [HQ.out, if_neg hlen]; rfl
      have hlt1 := hB1.lt
      go_wp2_with fail
      go_loopw [6, 7] (fun ov i wr => ∃ (j : Nat) (outs : List ByteArray), j ≤ l.length ∧ i = .int .i64 j ∧ wordFrom n (l.drop 0) [] = wordFrom n (l.drop j) outs ∧ outs.length ≤ j ∧ (∀ s ∈ outs, s.size ≤ maxLen) ∧ wr.ownsRow (w.heap.size + 1) 9 1 ov outs.length (outs.map Value.string) ∧ Below w.heap.size w wr ∧ Blk wr w.heap.size 24 #[.int .i64 n.places, .slice A n.trans.length c, .int .i64 n.source, .int .i64 n.sink]) (fun _ i _ => l.length - (intOf i).toNat)
      case atStart => exact ⟨0, [], Nat.zero_le _, rfl, rfl, Nat.le_refl _, by simp, World.ownsRow_nil _ _ _ _, hbw, hB1⟩
      case round =>
        obtain ⟨j, outs, hj, rfl, hrun, hol, hos, hown, hbr, hBr⟩ := hrel
        have HR := Lib.hid hrun
        have HOS := Lib.hid hos
        clear hrun hos
        have hltr := hBr.lt
        obtain ⟨q0, q1, q2, q3⟩ := hBr.c4
        by_cases hlt : j < l.length
        · obtain ⟨b, o, t, rfl, hD, hx, hf, c0⟩ := (hl.now hbr).at_ hlt
          have a3 : (0 : Int) ≤ (j : Int) := by omega
          have a4 : (j : Int) < (l.length : Int) := by omega
          by_cases h3 : t < 0 ∨ (n.trans.length : Int) ≤ t
          · have HS := Lib.hid (word_bad (n := n) (out := outs) hx h3)
            clear hx
            by_cases h4 : t < 0
            · have b1 : decide (t < 0) = true := by simpa using h4
              clear h3
              go_wp2_with fail
              go_quiet (fail)
              go_wp2_with fail
              go_ret2
              rw [HE.out, HR.out, HS.out]
              exact ⟨_, rfl, Sl.none_, bdrawn hbr _⟩
            · have h5 : (n.trans.length : Int) ≤ t := by omega
              have b1 : decide (t < 0) = false := by simpa using h4
              have b2 : decide ((n.trans.length : Int) ≤ t) = true := by simpa using h5
              clear h3
              go_wp2_with fail
              go_quiet (fail)
              go_wp2_with fail
              go_ret2
              rw [HE.out, HR.out, HS.out]
              exact ⟨_, rfl, Sl.none_, bdrawn hbr _⟩
          · obtain ⟨k, rfl⟩ := Int.eq_ofNat_of_zero_le (show 0 ≤ t by omega)
            have hkl : k < n.trans.length := by omega
            have b1 : decide ((k : Int) < 0) = false := by simp
            have b2 : decide ((n.trans.length : Int) ≤ (k : Int)) = false := by simp; omega
            have b2' : decide (n.trans.length ≤ k) = false := by simp; omega
            have a5 : (0 : Int) ≤ (k : Int) := by omega
            have a6 : (k : Int) < (n.trans.length : Int) := by omega
            clear h3
            obtain ⟨b2_, o2, x, iv, ov', rfl, hD2, hx2, hlb, hti, hto, d0, d1, d2⟩ := (ht.now hbr).at_ hkl
            have HX := Lib.hid hx
            have HX2 := Lib.hid hx2
            clear hx hx2
            by_cases hlab : x.label.toList = []
            · have HS := Lib.hid (word_skip (out := outs) HX.out HX2.out ((size_zero_iff _).2 hlab))
              go_wp2_with fail
              go_quiet (fail)
              go_wp2_with fail
              go_quiet (fail)
              go_wp2_with fail
              go_roundw
              case rel => exact ⟨j + 1, outs, by omega, by go_num, HR.out.trans HS.out, by omega, HOS.out, hown, bdrawn hbr _, hBr.drewN _⟩
              case measure => simp [intOf]; omega
            · have HS := Lib.hid (word_take (out := outs) HX.out HX2.out (fun e => hlab ((size_zero_iff _).1 e)))
              have hlab2 : (!x.label.toList.isEmpty) = true := by simpa using hlab
              go_wp2_with fail
              go_quiet (fail)
              go_wp2_with fail
              go_quiet (fail)
              go_wp2_with fail
              generalize hwd : wr.drewN _ = wd
              have hown1 : wd.ownsRow (w.heap.size + 1) 9 1 u6 outs.length (outs.map Value.string) := by rw [← hwd]; exact hown
              have hbr1 : Below w.heap.size w wd := by rw [← hwd]; exact bdrawn hbr _
              have hBr1 : Blk wd w.heap.size 24 #[.int .i64 n.places, .slice (some ⟨b2_, o2, none⟩) n.trans.length c, .int .i64 n.source, .int .i64 n.sink] := by rw [← hwd]; exact hBr
              have e0 : wd.cell? ⟨b, o + j, none⟩ = some (.int .i64 (k : Int)) := by rw [← hwd]; exact c0
              have f0 : wd.cell? ⟨b2_, o2 + k * 3, none⟩ = some (.string x.label) := by rw [← hwd]; exact d0
              have hs1 : w.heap.size < wd.heap.size := hBr1.lt
              clear hwd hown hbr hBr c0 d0 d1 d2 q0 q1 q2 q3 hltr hD hD2 hti hto
              obtain ⟨q0, q1, q2, q3⟩ := hBr1.c4
              go_region_law (refine step_push appStrs rfl (.tmp 45) (.tmp 55) rfl _ [.string x.label] rfl (by simp [Value.oneCell']) u6 outs.length (outs.map Value.string) rfl (by exact hown1) rfl (by omega) (by simp; omega) ?_; intro v' w' hown' hgr hat)
              all_goals
                have hbg : Below (w.heap.size + 1) wd w' := below_drewN_left _ (below_of_grown hgr (by simp; omega) (fun g hg => (hown1.lt g hg).1))
                go_wp2_with fail
                go_roundw
                case rel =>
                  refine ⟨j + 1, outs ++ [x.label], by omega, by go_num, HR.out.trans HS.out, by simp; omega, ?_, ?_, hbr1.trans (hbg.mono (by omega)), hBr1.below hbg (by omega)⟩
                  · intro s hs
                    rcases List.mem_append.1 hs with hs | hs
                    · exact HOS.out s hs
                    · rw [List.mem_singleton] at hs; subst hs; exact hlb
                  · simpa using hown'
                case measure => simp [intOf]; omega
        · obtain rfl : j = l.length := by omega
          go_wp2_with fail
          go_ret2
          rw [HE.out, HR.out, word_end]
          exact ⟨_, rfl, SlS.of_own hown HOS.out, hbr⟩
end Go.Proofs.YtphdafhidhfmnaaDoor
