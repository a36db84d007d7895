/- The law of what is published. -/
import Derived.Test.YtilmdlkfmkbfmaaPvLaw1
import Derived.Test.YtilmdlkfmkbfmaaPvSpend
set_option linter.all false
namespace Go.Proofs.Ytilmdlkfmkbfmaa
open Go.RowKit

theorem appVars : AppInfo Try.prog 22 30 2 := AppInfo.mk' (z := .agg #[.slice none 0 0, .int .i64 0]) (bytes := 32) Try.underlying22 (by kernel_rfl) (by decide) rfl (by decide)
set_option maxHeartbeats 8000000 in
set_option maxRecDepth 100000 in
theorem published_row (l : List Vr) (k less : Int) (b : Fr) (sp : List Fr) (cut : Int) (u us : Value) (w : World) (hu : SlVr (Lt w.heap.size) w u l) (hk : Fit k) (hless : Fit less) (hb : FitF b) (hus : SlF (Lt w.heap.size) w us sp) (hcut : 0 ≤ cut ∧ cut ≤ 255) :
    Calls Try.prog 3 #[u, .int .i64 k, .int .i64 less, frV b, us, .int .u8 cut] w fun e w' => e = .returned (.bool true) ∧ Below w.heap.size w w' := by
  have HU := Lib.hid (fun W (hW : Below w.heap.size w W) => hu.now hW)
  have HUS := Lib.hid (fun W (hW : Below w.heap.size w W) => hus.now hW)
  have HAW := Lib.hid pubAwake_any
  have HSP := Lib.hid spend_any
  have hb0 := bone w (.cells #[.int .i64 b.num, .int .i64 b.den] 24)
  have hP := Blk.new w 24 #[.int .i64 b.num, .int .i64 b.den]
  obtain ⟨A, c, rfl, h1, h2, _⟩ := hu.open_
  obtain ⟨As, cs, rfl, g1, g2, _⟩ := hus.open_
  unfold frV
  clear hu hus
  go_enter Try.func3, Try.ntmps3
  go_wp2_with fail
  (with_reducible refine (HAW.out _).mono ?_)
  rintro e w1 ⟨rfl, hb1⟩
  have hP1 := hP.now hb1
  have HB1 := Lib.hid (hb0.trans (hb1.mono hb0.size))
  obtain ⟨P, hPP⟩ : ∃ P, w.heap.size = P := ⟨_, rfl⟩
  have HP := Lib.hid hPP
  rw [hPP] at hP1 ⊢
  clear hP hb0 hb1 HAW hPP
  by_cases hl12 : 12 < l.length
  · have z1 : (12 : Int) < (l.length : Int) := by omega
    go_wp2_with fail
    go_ret
    exact ⟨rfl, HB1.out⟩
  have z1 : ¬ (12 : Int) < (l.length : Int) := by omega
  have HCF := Lib.hid (containsFuncVa 6 enters_long _ l (fun x => decide (8 < x.acts.length)) w1 (HU.out w1 HB1.out) (fun x sv W hs _ hW => long_any x sv W (Sl.below hs RStr.kept hW hW.size)))
  go_wp2_with fail
  (with_reducible refine HCF.out.mono ?_)
  rintro e w2 ⟨rfl, hb2⟩
  have hP2 := hP1.now hb2
  have HB2 := Lib.hid (HB1.out.trans (hb2.mono HB1.out.size))
  clear hP1 HCF hb2
  obtain ⟨an, han⟩ : ∃ an, (l.any fun x => decide (8 < x.acts.length)) = an := ⟨_, rfl⟩
  rw [han]
  clear han
  cases an
  rotate_left
  · go_wp2_with fail
    go_ret
    exact ⟨rfl, HB2.out⟩
  by_cases hs8 : 8 < sp.length
  · have z2 : (8 : Int) < (sp.length : Int) := by omega
    go_wp2_with fail
    go_ret
    exact ⟨rfl, HB2.out⟩
  have z2 : ¬ (8 : Int) < (sp.length : Int) := by omega
  obtain ⟨⟨⟨rn, rd⟩, rc, re⟩, hr⟩ : ∃ r, r = spendF b sp := ⟨_, rfl⟩
  have HR := Lib.hid hr
  have HS1 : Hid (Calls Try.prog 7 #[.agg #[.int .i64 b.num, .int .i64 b.den], .slice As sp.length cs] w2 fun e w' => e = .returned (.tuple #[.agg #[.int .i64 rn, .int .i64 rd], .int .i64 (rc : Int), .int .i64 re]) ∧ Below w2.heap.size w2 w') := Lib.hid (by
    have h := HSP.out b sp _ w2 hb (HUS.out w2 HB2.out)
    rw [← hr] at h
    exact h)
  clear hr
  obtain ⟨p0, p1⟩ := hP2.c2
  go_wp2_with fail
  (with_reducible refine HS1.out.mono ?_)
  rintro e w3 ⟨rfl, hb3⟩
  clear HS1 p0 p1
  have hb4 := bone w3 (.cells #[.int .i64 rn, .int .i64 rd] 24)
  have hR := Blk.new w3 24 #[.int .i64 rn, .int .i64 rd]
  have hP4 := (hP2.now hb3).now hb4
  have hb24 := hb3.trans (hb4.mono hb3.size)
  have HB4 := Lib.hid (HB2.out.trans (hb24.mono HB2.out.size))
  clear hP2 hb3 hb4 hb24
  obtain ⟨q, rfl⟩ : ∃ q : Nat, cut = (q : Int) := ⟨cut.toNat, by omega⟩
  go_upto_region 7 with fail
  obtain ⟨t, ht, htl⟩ : ∃ t : Nat, (q : Int) % ((sp.length : Int) + 1) = (t : Int) ∧ t ≤ sp.length := ⟨q % (sp.length + 1), by simp, by have := Nat.mod_lt q (show 0 < sp.length + 1 by omega); omega⟩
  rw [ht]
  obtain ⟨w4, hw4⟩ : ∃ w4, w3.alloc (.cells #[.int .i64 rn, .int .i64 rd] 24) = w4 := ⟨_, rfl⟩
  obtain ⟨T, hTT⟩ : ∃ T, w3.heap.size = T := ⟨_, rfl⟩
  rw [hw4] at hR hP4 HB4 ⊢
  rw [hTT] at hR ⊢
  clear hw4 hTT ht
  obtain ⟨⟨⟨hn, hd⟩, hc, he⟩, hh⟩ : ∃ h, h = spendF b (sp.take t) := ⟨_, rfl⟩
  have HH := Lib.hid hh
  have HHF : Hid (∀ W, Below w4.heap.size w4 W → Calls Try.prog 7 #[.agg #[.int .i64 b.num, .int .i64 b.den], .slice As t cs] W fun e w' => e = .returned (.tuple #[.agg #[.int .i64 hn, .int .i64 hd], .int .i64 (hc : Int), .int .i64 he]) ∧ Below W.heap.size W w') := Lib.hid fun W hW => by
    have h := HSP.out b (sp.take t) _ W hb (Sl.take_ (HUS.out W (HB4.out.trans (hW.mono HB4.out.size))) htl)
    rw [← hh] at h
    exact h
  clear hh
  have HPR := Lib.hid (And.intro hP4 hR)
  go_cut [17, 18, 19] from 63 to 71 (fun pv jv cv W => ∃ T2, pv = .pointer (some ⟨T2, 0, none⟩) ∧ jv = .int .i64 (hc : Int) ∧ cv = .int .i64 he ∧ Blk W T2 24 #[.int .i64 hn, .int .i64 hd] ∧ Below w4.heap.size w4 W)
  case first =>
    obtain ⟨p0, p1⟩ := hP4.c2
    have y0 : (0 : Int) ≤ (t : Int) := by omega
    have y1 : (t : Int) ≤ (cs : Int) := by omega
    have hz := bone w4 (.cells #[.int .i64 0, .int .i64 0] 24)
    obtain ⟨s0, s1⟩ := (hP4.now hz).c2
    have hTz := Blk.new w4 24 #[.int .i64 0, .int .i64 0]
    have hd0 : Below w4.heap.size w4 w4.drew := (Below.refl _ _).drew
    have hd1 := hz.drew
    go_region_with (first | (go_at_call 7; (with_reducible refine (HHF.out _ ?_).mono ?_); (first | exact hd0 | exact hd1); rintro e w5 ⟨rfl, hb5⟩; (first | (have hT5 := (show Blk ((w4.alloc (.cells #[.int .i64 0, .int .i64 0] 24)).drew) w4.heap.size 24 #[.int .i64 0, .int .i64 0] from hTz).now hb5; obtain ⟨z0, z1⟩ := hT5.c2; have f0 := hT5.frozen 0; have f1 := hT5.frozen 1) | skip)))
    all_goals
      (try simp only [Act.put, List.getElem_toArray, List.getElem_cons_succ, List.getElem_cons_zero, List.setIfInBounds_toArray, List.set_cons_succ, List.set_cons_zero])
      go_wp2_with fail
      go_meet
      first
        | exact ⟨w5.heap.size, rfl, rfl, rfl, Blk.new w5 _ _, (hd0.trans (hb5.mono hd0.size)).trans ((bone w5 _).mono (hd0.trans (hb5.mono hd0.size)).size)⟩
        | exact ⟨w4.heap.size, rfl, rfl, rfl, (hT5.set_ 0 _).set_ 1 _, ((hd1.trans (hb5.mono hd1.size)).setCell (p := ⟨w4.heap.size, 0, none⟩) (Nat.le_refl _) _).setCell (p := ⟨w4.heap.size, 1, none⟩) (Nat.le_refl _) _⟩
  case rest =>
    obtain ⟨T2, rfl, rfl, rfl, hH5, hb5⟩ := hcut
    have HB5 := Lib.hid (HB4.out.trans (hb5.mono HB4.out.size))
    have hR5 := hR.now hb5
    clear hb5 hP4 hR HHF HPR
    go_upto_if 73 with fail
    go_cut [15] from 20 to 139 (fun _ W => Below w.heap.size w W)
    case first =>
      have hrcn : rc ≤ 8 := by
        have := spendF_count b sp
        rw [← HR.out] at this
        exact Nat.le_trans this (by omega)
      by_cases hre : re = 0
      · obtain ⟨k1, k2, k3, k4, k5⟩ := (spend_parts (b := b) (l := sp) (at_ := t) (by omega) htl).1 (by rw [← HR.out]; exact hre)
        have k6 := ((spend_parts (b := b) (l := sp.take t) (at_ := 0) (by rw [List.length_take]; omega) (Nat.zero_le _)).1 k1).2.2.2.1
        rw [← HH.out] at k1 k2 k3 k6
        rw [← HR.out] at k2 k3 k4 k5
        have k1 : he = 0 := k1
        have k3 : hc ≤ rc := k3
        have HGE : Hid (spendF ⟨hn, hd⟩ (sp.drop t) = (⟨rn, rd⟩, rc - hc, 0)) := Lib.hid k2
        have HK := Lib.hid (And.intro k4 k5)
        have HFH := Lib.hid (FitF.of k6)
        subst k1
        subst hre
        clear k2 k4 k5 k6
        have HDR : Hid (∀ W, Below wc.heap.size wc W → Calls Try.prog 7 #[.agg #[.int .i64 hn, .int .i64 hd], .slice (if cs = t then As else Option.map (fun x => x.add (t * 2)) As) (sp.length - t) (cs - t)] W fun e w' => e = .returned (.tuple #[.agg #[.int .i64 rn, .int .i64 rd], .int .i64 ((rc - hc : Nat) : Int), .int .i64 0]) ∧ Below W.heap.size W w') := Lib.hid fun W hW => by
          have h := HSP.out ⟨hn, hd⟩ (sp.drop t) _ W HFH.out (slF_from (HUS.out W (HB5.out.trans (hW.mono HB5.out.size))) htl)
          rw [HGE.out] at h
          exact h
        go_upto_region 9 with fail
        go_cut [20, 21, 22] from 74 to 82 (fun pv jv cv W => ∃ T3, pv = .pointer (some ⟨T3, 0, none⟩) ∧ jv = .int .i64 ((rc - hc : Nat) : Int) ∧ cv = .int .i64 0 ∧ Blk W T3 24 #[.int .i64 rn, .int .i64 rd] ∧ Below wc.heap.size wc W)
        case first =>
          by_cases hct : cs = t
          · subst hct
            rw [if_pos rfl, Nat.sub_self, show sp.length - cs = 0 by omega] at HDR
            obtain ⟨p0, p1⟩ := hH5.c2
            have y0 : (0 : Int) ≤ (cs : Int) := by omega
            have y1 : (cs : Int) ≤ (sp.length : Int) := by omega
            have y2 : (sp.length : Int) ≤ (cs : Int) := by omega
            have hz := bone wc (.cells #[.int .i64 0, .int .i64 0] 24)
            obtain ⟨s0, s1⟩ := (hH5.now hz).c2
            have hTz := Blk.new wc 24 #[.int .i64 0, .int .i64 0]
            have hd0 : Below wc.heap.size wc wc.drew := (Below.refl _ _).drew
            have hd1 := hz.drew
            go_region_with (first | (go_at_call 7; (with_reducible refine (HDR.out _ ?_).mono ?_); (first | exact hd0 | exact hd1); rintro e w5 ⟨rfl, hb5⟩; (first | (have hT5 := (show Blk ((wc.alloc (.cells #[.int .i64 0, .int .i64 0] 24)).drew) wc.heap.size 24 #[.int .i64 0, .int .i64 0] from hTz).now hb5; obtain ⟨z0, z1⟩ := hT5.c2; have f0 := hT5.frozen 0; have f1 := hT5.frozen 1) | skip)))
            all_goals
              (try simp only [Act.put, List.getElem_toArray, List.getElem_cons_succ, List.getElem_cons_zero, List.setIfInBounds_toArray, List.set_cons_succ, List.set_cons_zero])
              go_wp2_with fail
              go_meet
              first
                | exact ⟨w5.heap.size, rfl, rfl, rfl, Blk.new w5 _ _, (hd0.trans (hb5.mono hd0.size)).trans ((bone w5 _).mono (hd0.trans (hb5.mono hd0.size)).size)⟩
                | exact ⟨wc.heap.size, rfl, rfl, rfl, (hT5.set_ 0 _).set_ 1 _, ((hd1.trans (hb5.mono hd1.size)).setCell (p := ⟨wc.heap.size, 0, none⟩) (Nat.le_refl _) _).setCell (p := ⟨wc.heap.size, 1, none⟩) (Nat.le_refl _) _⟩
          · rw [if_neg hct] at HDR
            obtain ⟨p0, p1⟩ := hH5.c2
            have y0 : (0 : Int) ≤ (t : Int) := by omega
            have y1 : (t : Int) ≤ (sp.length : Int) := by omega
            have y2 : (sp.length : Int) ≤ (cs : Int) := by omega
            have hz := bone wc (.cells #[.int .i64 0, .int .i64 0] 24)
            obtain ⟨s0, s1⟩ := (hH5.now hz).c2
            have hTz := Blk.new wc 24 #[.int .i64 0, .int .i64 0]
            have hd0 : Below wc.heap.size wc wc.drew := (Below.refl _ _).drew
            have hd1 := hz.drew
            go_region_with (first | (go_at_call 7; (with_reducible refine (HDR.out _ ?_).mono ?_); (first | exact hd0 | exact hd1); rintro e w5 ⟨rfl, hb5⟩; (first | (have hT5 := (show Blk ((wc.alloc (.cells #[.int .i64 0, .int .i64 0] 24)).drew) wc.heap.size 24 #[.int .i64 0, .int .i64 0] from hTz).now hb5; obtain ⟨z0, z1⟩ := hT5.c2; have f0 := hT5.frozen 0; have f1 := hT5.frozen 1) | skip)))
            all_goals
              (try simp only [Act.put, List.getElem_toArray, List.getElem_cons_succ, List.getElem_cons_zero, List.setIfInBounds_toArray, List.set_cons_succ, List.set_cons_zero])
              go_wp2_with fail
              go_meet
              first
                | exact ⟨w5.heap.size, rfl, rfl, rfl, Blk.new w5 _ _, (hd0.trans (hb5.mono hd0.size)).trans ((bone w5 _).mono (hd0.trans (hb5.mono hd0.size)).size)⟩
                | exact ⟨wc.heap.size, rfl, rfl, rfl, (hT5.set_ 0 _).set_ 1 _, ((hd1.trans (hb5.mono hd1.size)).setCell (p := ⟨wc.heap.size, 0, none⟩) (Nat.le_refl _) _).setCell (p := ⟨wc.heap.size, 1, none⟩) (Nat.le_refl _) _⟩
        case rest =>
          obtain ⟨T3, rfl, rfl, rfl, hG6, hb6⟩ := hcut
          have hR6 := hR5.now hb6
          have HB6 := Lib.hid (HB5.out.trans (hb6.mono HB5.out.size))

          have HCM := Lib.hid (cmp_any ⟨rn, rd⟩ ⟨0, 1⟩ wc HK.out.1 (by decide))
          have hcz := cmpF_zero (a := ⟨rn, rd⟩) HK.out.2
          obtain ⟨zc, hzc⟩ : ∃ zc, cmpF ⟨rn, rd⟩ ⟨0, 1⟩ = zc := ⟨_, rfl⟩
          rw [hzc] at HCM hcz
          unfold frV at HCM
          obtain ⟨r0, r1⟩ := hR6.c2
          clear hzc
          go_wp2_with fail
          (with_reducible refine HCM.out.mono ?_)
          rintro e w7 ⟨rfl, hb7⟩
          obtain ⟨r0, r1⟩ := (hR6.now hb7).c2
          obtain ⟨g0, g1'⟩ := (hG6.now hb7).c2
          have HB7 := Lib.hid (HB6.out.trans (hb7.mono HB6.out.size))
          have hsum : IntKind.i64.wrap ((hc : Int) + ((rc - hc : Nat) : Int)) = (rc : Int) := by rw [i64wrap (by omega)]; omega
          obtain ⟨dj, hdj⟩ : ∃ dj : Int, ((rc - hc : Nat) : Int) = dj := ⟨_, rfl⟩
          rw [hdj] at hsum
          have HDJ := Lib.hid hdj
          rw [hdj]
          clear hdj hR6 hG6 hb7 HCM
          go_wp2_with fail
          go_meet
          exact HB7.out
      · have q1 : (re == 0) = false := by simp [hre]
        rw [q1]
        by_cases hgo : he = 0 ∧ re ≠ 1
        · have hre1 := hgo.2
          have q2 : (re != 1) = true := by simp [hre1]
          obtain ⟨k2, k3⟩ := (spend_parts (b := b) (l := sp) (at_ := t) (by omega) htl).2 (by rw [← HR.out]; exact hre) (by rw [← HH.out]; exact hgo.1) (by rw [← HR.out]; exact hre1)
          have k6 := ((spend_parts (b := b) (l := sp.take t) (at_ := 0) (by rw [List.length_take]; omega) (Nat.zero_le _)).1 (by rw [← HH.out]; exact hgo.1)).2.2.2.1
          rw [← HH.out] at k2 k3 k6
          rw [← HR.out] at k2 k3
          obtain ⟨⟨⟨gn, gd⟩, gc, ge⟩, hge⟩ : ∃ g, g = spendF ⟨hn, hd⟩ (sp.drop t) := ⟨_, rfl⟩
          have HFH := Lib.hid (FitF.of k6)
          have m2 : (spendF ⟨hn, hd⟩ (sp.drop t)).2.2 = re := k2
          have m3 : hc + (spendF ⟨hn, hd⟩ (sp.drop t)).2.1 = rc := k3
          clear k2 k3
          rw [← hge] at m2 m3
          have HGE : Hid (spendF ⟨hn, hd⟩ (sp.drop t) = (⟨gn, gd⟩, gc, ge)) := Lib.hid hge.symm
          have HKK := Lib.hid (And.intro m2 m3)
          obtain ⟨h0, _⟩ := hgo
          subst h0
          clear m2 m3 k6 hge
          have HDR : Hid (∀ W, Below wc.heap.size wc W → Calls Try.prog 7 #[.agg #[.int .i64 hn, .int .i64 hd], .slice (if cs = t then As else Option.map (fun x => x.add (t * 2)) As) (sp.length - t) (cs - t)] W fun e w' => e = .returned (.tuple #[.agg #[.int .i64 gn, .int .i64 gd], .int .i64 (gc : Int), .int .i64 ge]) ∧ Below W.heap.size W w') := Lib.hid fun W hW => by
            have h := HSP.out ⟨hn, hd⟩ (sp.drop t) _ W HFH.out (slF_from (HUS.out W (HB5.out.trans (hW.mono HB5.out.size))) htl)
            rw [HGE.out] at h
            exact h
          go_upto_region 14 with fail
          go_cut [25, 26, 27] from 121 to 129 (fun pv jv cv W => ∃ T3, pv = .pointer (some ⟨T3, 0, none⟩) ∧ jv = .int .i64 (gc : Int) ∧ cv = .int .i64 ge ∧ Blk W T3 24 #[.int .i64 gn, .int .i64 gd] ∧ Below wc.heap.size wc W)
          case first =>
            by_cases hct : cs = t
            · subst hct
              rw [if_pos rfl, Nat.sub_self, show sp.length - cs = 0 by omega] at HDR
              obtain ⟨p0, p1⟩ := hH5.c2
              have y0 : (0 : Int) ≤ (cs : Int) := by omega
              have y1 : (cs : Int) ≤ (sp.length : Int) := by omega
              have y2 : (sp.length : Int) ≤ (cs : Int) := by omega
              have hz := bone wc (.cells #[.int .i64 0, .int .i64 0] 24)
              obtain ⟨s0, s1⟩ := (hH5.now hz).c2
              have hTz := Blk.new wc 24 #[.int .i64 0, .int .i64 0]
              have hd0 : Below wc.heap.size wc wc.drew := (Below.refl _ _).drew
              have hd1 := hz.drew
              go_region_with (first | (go_at_call 7; (with_reducible refine (HDR.out _ ?_).mono ?_); (first | exact hd0 | exact hd1); rintro e w5 ⟨rfl, hb5⟩; (first | (have hT5 := (show Blk ((wc.alloc (.cells #[.int .i64 0, .int .i64 0] 24)).drew) wc.heap.size 24 #[.int .i64 0, .int .i64 0] from hTz).now hb5; obtain ⟨z0, z1⟩ := hT5.c2; have f0 := hT5.frozen 0; have f1 := hT5.frozen 1) | skip)))
              all_goals
                (try simp only [Act.put, List.getElem_toArray, List.getElem_cons_succ, List.getElem_cons_zero, List.setIfInBounds_toArray, List.set_cons_succ, List.set_cons_zero])
                go_wp2_with fail
                go_meet
                first
                  | exact ⟨w5.heap.size, rfl, rfl, rfl, Blk.new w5 _ _, (hd0.trans (hb5.mono hd0.size)).trans ((bone w5 _).mono (hd0.trans (hb5.mono hd0.size)).size)⟩
                  | exact ⟨wc.heap.size, rfl, rfl, rfl, (hT5.set_ 0 _).set_ 1 _, ((hd1.trans (hb5.mono hd1.size)).setCell (p := ⟨wc.heap.size, 0, none⟩) (Nat.le_refl _) _).setCell (p := ⟨wc.heap.size, 1, none⟩) (Nat.le_refl _) _⟩
            · rw [if_neg hct] at HDR
              obtain ⟨p0, p1⟩ := hH5.c2
              have y0 : (0 : Int) ≤ (t : Int) := by omega
              have y1 : (t : Int) ≤ (sp.length : Int) := by omega
              have y2 : (sp.length : Int) ≤ (cs : Int) := by omega
              have hz := bone wc (.cells #[.int .i64 0, .int .i64 0] 24)
              obtain ⟨s0, s1⟩ := (hH5.now hz).c2
              have hTz := Blk.new wc 24 #[.int .i64 0, .int .i64 0]
              have hd0 : Below wc.heap.size wc wc.drew := (Below.refl _ _).drew
              have hd1 := hz.drew
              go_region_with (first | (go_at_call 7; (with_reducible refine (HDR.out _ ?_).mono ?_); (first | exact hd0 | exact hd1); rintro e w5 ⟨rfl, hb5⟩; (first | (have hT5 := (show Blk ((wc.alloc (.cells #[.int .i64 0, .int .i64 0] 24)).drew) wc.heap.size 24 #[.int .i64 0, .int .i64 0] from hTz).now hb5; obtain ⟨z0, z1⟩ := hT5.c2; have f0 := hT5.frozen 0; have f1 := hT5.frozen 1) | skip)))
              all_goals
                (try simp only [Act.put, List.getElem_toArray, List.getElem_cons_succ, List.getElem_cons_zero, List.setIfInBounds_toArray, List.set_cons_succ, List.set_cons_zero])
                go_wp2_with fail
                go_meet
                first
                  | exact ⟨w5.heap.size, rfl, rfl, rfl, Blk.new w5 _ _, (hd0.trans (hb5.mono hd0.size)).trans ((bone w5 _).mono (hd0.trans (hb5.mono hd0.size)).size)⟩
                  | exact ⟨wc.heap.size, rfl, rfl, rfl, (hT5.set_ 0 _).set_ 1 _, ((hd1.trans (hb5.mono hd1.size)).setCell (p := ⟨wc.heap.size, 0, none⟩) (Nat.le_refl _) _).setCell (p := ⟨wc.heap.size, 1, none⟩) (Nat.le_refl _) _⟩
          case rest =>
            obtain ⟨T3, rfl, rfl, rfl, hG6, hb6⟩ := hcut
            have HB6 := Lib.hid (HB5.out.trans (hb6.mono HB5.out.size))
            obtain ⟨k2, k3⟩ := HKK.out
            have k2 : ge = re := k2
            have k3 : hc + gc = rc := k3
            subst k2
            have hsum : IntKind.i64.wrap ((hc : Int) + (gc : Int)) = (rc : Int) := by rw [i64wrap (by omega)]; omega
            clear hb6 hG6 k3
            go_wp2_with fail
            go_meet
            exact HB6.out
        · by_cases h0 : he = 0
          · have hre1 : re = 1 := by
              by_cases h : re = 1
              · exact h
              · exact absurd ⟨h0, h⟩ hgo
            subst h0 hre1
            clear hgo
            go_wp2_with fail
            go_meet
            exact HB5.out
          · have q2 : (he == 0) = false := by simp [h0]
            clear hgo
            go_wp2_with fail
            go_meet
            exact HB5.out
    case rest =>
      obtain ⟨w6, rfl⟩ : ∃ w6, w6 = wc := ⟨_, rfl⟩
      have HB6 := Lib.hid hcut
      have HSU := Lib.hid (suppress_any (.slice A l.length c) l k w6 (HU.out w6 hcut) (by omega) hk)
      have HSA := Lib.hid (fun v ys W (h : SlVr (Lt W.heap.size) W v ys) hl => suppress_any v ys k W h hl hk)
      clear hcut HB4 HB5 HUS HSP hH5 hR5
      go_wp2_with fail
      (with_reducible refine HSU.out.mono ?_)
      rintro e w7 ⟨v7, c7, rfl, hb7, hg⟩
      have HB7 := Lib.hid (HB6.out.trans (hb7.mono HB6.out.size))
      clear hb7 HSU
      rcases hg with ⟨_, rfl, rfl⟩ | ⟨_, _, rfl, rfl⟩ | ⟨hr, hkk, s', hrun, ⟨_, rfl, rfl⟩ | ⟨hsm, rfl, ys, hp, ho, hsl⟩⟩
      · go_wp2_with fail
        go_ret
        exact ⟨rfl, HB7.out⟩
      · go_wp2_with fail
        go_ret
        exact ⟨rfl, HB7.out⟩
      · go_wp2_with fail
        go_ret
        exact ⟨rfl, HB7.out⟩
      have hpub := pub_ok (right_ok hr) hkk.1 hrun hsm hp ho
      have HO := Lib.hid ho
      have HPB := Lib.hid hpub
      have HKK := Lib.hid hkk
      have HRY := Lib.hid (right_ok hpub.right)
      have HYS := Lib.hid (fun W (hW : Below w7.heap.size w7 W) => hsl.now hW)
      have hylen := HRY.out.len
      have HKE := Lib.hid (fun z W (h : 1 ≤ z ∧ z ≤ 1048576) (hW : Below w7.heap.size w7 W) => keeps_any v7 ys z W (hsl.now hW) hpub.right h)
      have HLO := Lib.hid (fun W (hW : Below w7.heap.size w7 W) => loss_any (.slice A l.length c) v7 l ys W (HU.out W (HB7.out.trans (hW.mono HB7.out.size))) (hsl.now hW) hr hpub.right hpub.dom)
      have HVD := Lib.hid (fun W (hW : Below w7.heap.size w7 W) => pvValid_any v7 ys W (hsl.now hW) (by omega))
      rw [hpub.right] at HVD
      have HLE : Hid (∀ z : Int, z ≤ k → (ys.any fun x => decide (x.n < z)) = false) := Lib.hid fun z hz => by
        rw [List.any_eq_false]
        intro x hx
        have := HPB.out.least x hx
        simp; omega
      obtain ⟨z, hz⟩ : ∃ z, totW lenW l - totW lenW ys = z := ⟨_, rfl⟩
      rw [hz] at HLO
      have hz0 : ¬ z < 0 := by have := hpub.evs; omega
      obtain ⟨A7, c7, rfl, i1, i2, _⟩ := hsl.open_
      clear hr hkk hrun hsm hp ho hsl hpub hz HU
      have HK7 := Lib.hid (HKE.out k w7 HKK.out (Below.refl _ _))
      rw [HLE.out k (Int.le_refl _)] at HK7
      go_wp2_with fail
      (with_reducible refine HK7.out.mono ?_)
      rintro e w8 ⟨rfl, hb8⟩
      clear HK7
      go_wp2_with fail
      (with_reducible refine (HLO.out w8 hb8).mono ?_)
      rintro e w9 ⟨rfl, hb9⟩
      have hb79 := hb8.trans (hb9.mono hb8.size)
      clear hb8 hb9
      go_wp2_with fail
      (with_reducible refine (HVD.out w9 hb79).mono ?_)
      rintro e w10 ⟨rfl, hb10⟩
      have HB10 := Lib.hid (hb79.trans (hb10.mono hb79.size))
      clear hb79 hb10 HVD HLO
      have HUY := Lib.hid (HYS.out w10 HB10.out)
      obtain ⟨A8, c8, hsl8, _, _, hU8⟩ := HUY.out.open_
      injection hsl8 with e1 e2 e3
      subst e1 e3
      have HUY := Lib.hid hU8
      clear hU8 e2
      go_wp2_with fail
      obtain ⟨wo, rfl⟩ : ∃ wo, wo = w10 := ⟨_, rfl⟩
      go_loopw [32, 184] (fun ov iv wr => ∃ (j : Nat) (sv : Value), iv = .int .i64 (j : Int) ∧ sv = ov ∧ j ≤ ys.length ∧ Hid (OwnV 30 wr wo.heap.size (Lt wo.heap.size) sv (ys.take j)) ∧ Hid (Below wo.heap.size wo wr)) (fun _ iv _ => ys.length - (intOf iv).toNat)
      case atStart => exact ⟨0, .slice none 0 0, rfl, rfl, Nat.zero_le _, Lib.hid OwnV.nil, Lib.hid (Below.refl _ _)⟩
      case round =>
        obtain ⟨j, ov, rfl, rfl, hj, HOV, HB⟩ := hrel
        by_cases hlt : j < ys.length
        · obtain ⟨b1, o1, x, sv, rfl, hD, hx, hf, hs, c0', c1'⟩ := HUY.out.at_ hlt
          have c0 := (HB.out.cell (p := ⟨b1, o1 + j * 2, none⟩) hD).trans c0'
          have c1 := (HB.out.cell (p := ⟨b1, o1 + j * 2 + 1, none⟩) hD).trans c1'
          obtain ⟨Ax, cx, rfl, _, _, hs⟩ := hs.open_
          have HTN := Lib.hid (take_next hx)
          have hb2 := bone wr (.cells #[.slice Ax x.acts.length cx, .int .i64 x.n] 44)
          have hT := Blk.new wr 44 #[.slice Ax x.acts.length cx, .int .i64 x.n]
          have hb02 := HB.out.trans (hb2.mono HB.out.size)
          have hown := HOV.out.now hb2 (fun b hb => Nat.lt_of_lt_of_le hb HB.out.size)
          have hs2 := Sl.below hs RStr.kept hb02 (Nat.le_refl _)
          have hlen : (ys.take j).length < 10000000 := by rw [List.length_take]; omega
          clear hx hs c0' c1'
          obtain ⟨Ao, co, rfl⟩ := hown.isSlice
          go_upto_region 28 with fail
          obtain ⟨w12, hw2⟩ : ∃ w2, wr.alloc (.cells #[.slice Ax x.acts.length cx, .int .i64 x.n] 44) = w2 := ⟨_, rfl⟩
          obtain ⟨TT, hTT⟩ : ∃ T, wr.heap.size = T := ⟨_, rfl⟩
          rw [hw2] at hT hb02 hown hs2 ⊢
          rw [hTT] at hT ⊢
          clear hw2 hTT hb2 c0 c1
          obtain ⟨t0, t1⟩ := hT.c2
          have hsz := hb02.size
          go_wp2_with (at_builtin; refine wpList_pushV appVars rfl (.tmp 188) (.tmp 194) rfl w12 x _ (ys.take j) hf hs2 _ rfl hown rfl hlen hsz (fun _ h => h) ?_; intro v' w' hO hg; have HB3 := Lib.hid (hb02.trans (below_of_grown hg hsz (fun g e => (OwnV.lt hown g e).1))); have HO3 := Lib.hid hO; clear hg hO)
          go_roundw
          case rel => exact ⟨j + 1, _, by go_num, rfl, by omega, Lib.hid (by rw [HTN.out]; exact HO3.out), HB3⟩
          case measure => simp [intOf]; omega
        · obtain rfl : j = ys.length := by omega
          have hfin := HOV.out
          rw [List.take_length] at hfin
          have HSB := Lib.hid (HSA.out _ ys wr (hfin.ownSl HB.out) (by omega))
          obtain ⟨Ao, co, rfl⟩ := hfin.isSlice
          have HBr := Lib.hid (HB10.out.trans (HB.out.mono HB10.out.size))
          clear hfin HOV
          go_wp2_with fail
          (with_reducible refine HSB.out.mono ?_)
          rintro e w13 ⟨v13, c13, rfl, hb13, hg⟩
          have HB13 := Lib.hid (HBr.out.trans (hb13.mono HBr.out.size))
          clear hb13 HSB HBr
          rcases hg with ⟨h, _⟩ | ⟨_, h, _⟩ | ⟨_, _, s2, hrun2, ⟨h, _⟩ | ⟨_, rfl, zs, hz2, ho2, hsl2⟩⟩
          · rw [HPB.out.right] at h; cases h
          · exact absurd HKK.out h
          · rw [again_small HRY.out HPB.out.least HO.out hrun2] at h; cases h
          obtain rfl := pub_again HRY.out HPB.out.least HO.out hrun2 hz2 ho2
          have HEQ := Lib.hid (equalPub_any _ v13 zs w13 (HYS.out w13 HB13.out) hsl2)
          obtain ⟨A13, c13, rfl, _, _, _⟩ := hsl2.open_
          clear hrun2 hz2 ho2 hsl2
          go_wp2_with fail
          (with_reducible refine HEQ.out.mono ?_)
          rintro e w14 ⟨rfl, hb14⟩
          have HB14 := Lib.hid (HB13.out.trans (hb14.mono HB13.out.size))
          have HBW := Lib.hid (HB7.out.trans (HB14.out.mono HB7.out.size))
          clear hb14 HEQ
          by_cases hl1 : less < 1
          · go_wp2_with fail
            go_ret
            exact ⟨rfl, HBW.out⟩
          · by_cases hl2 : k < less
            · go_wp2_with fail
              go_ret
              exact ⟨rfl, HBW.out⟩
            · have HK9 := Lib.hid (HKE.out less w14 (by have := HKK.out; omega) HB14.out)
              rw [HLE.out less (by omega)] at HK9
              go_wp2_with fail
              (with_reducible refine HK9.out.mono ?_)
              rintro e w15 ⟨rfl, hb15⟩
              have HBF := Lib.hid (HBW.out.trans (hb15.mono HBW.out.size))
              clear hb15
              go_wp2_with fail
              go_ret
              exact ⟨rfl, HBF.out⟩
end Go.Proofs.Ytilmdlkfmkbfmaa
