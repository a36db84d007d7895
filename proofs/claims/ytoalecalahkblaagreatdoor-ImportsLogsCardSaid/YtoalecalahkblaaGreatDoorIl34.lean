/- Texts of this seat, merged. -/
import Derived.BigQuiet
import Derived.Test.YtoalecalahkblaaGreatDoorIl01
import Derived.Test.YtoalecalahkblaaGreatDoorIl02
import Derived.Test.YtoalecalahkblaaGreatDoorIl03
import Derived.Test.YtoalecalahkblaaGreatDoorIl04
import Derived.Test.YtoalecalahkblaaGreatDoorIl05
import Derived.Test.YtoalecalahkblaaGreatDoorIl06
import Derived.Test.YtoalecalahkblaaGreatDoorIl07
import Derived.Test.YtoalecalahkblaaGreatDoorIl08
import Derived.Test.YtoalecalahkblaaGreatDoorIl09
import Derived.Test.YtoalecalahkblaaGreatDoorIl10
import Derived.Test.YtoalecalahkblaaGreatDoorIl11
import Derived.Test.YtoalecalahkblaaGreatDoorIl12
import Derived.Test.YtoalecalahkblaaGreatDoorIl13
import Derived.Test.YtoalecalahkblaaGreatDoorIl18
import Derived.Test.YtoalecalahkblaaGreatDoorIl20
import Derived.Test.YtoalecalahkblaaGreatDoorIl21
import Derived.Test.YtoalecalahkblaaGreatDoorIl23
import Derived.Test.YtoalecalahkblaaGreatDoorIl24
import Derived.Test.YtoalecalahkblaaGreatDoorIl25
import Derived.Test.YtoalecalahkblaaGreatDoorIl26
import Derived.Test.YtoalecalahkblaaGreatDoorIl27
import Derived.Test.YtoalecalahkblaaGreatDoorIl28
import Derived.Test.YtoalecalahkblaaGreatDoorIl29
import Derived.Test.YtoalecalahkblaaGreatDoorIl30
import Derived.Test.YtoalecalahkblaaGreatDoorIl31
import Derived.Test.YtoalecalahkblaaGreatDoorIl32
import Derived.Test.YtoalecalahkblaaGreatDoorIl33
set_option linter.all false
set_option linter.all false
namespace Go.Proofs.YtoalecalahkblaaGreatDoor
open Go.RowKit
def HdAt (r : List Bt) (m : Mp) (i : Nat) : Prop := (i ≤ (fieldsB m).length ∧ ∀ y ∈ (fieldsB m).take i, decide ((r.length : Int) ≤ y) = false) ∨ ((fieldsB m).length ≤ i ∧ headE r m = headD r (m.data.take (i - (fieldsB m).length)) (m.data.drop (i - (fieldsB m).length)) ∧ ∀ y ∈ m.data.take (i - (fieldsB m).length), y < (r.length : Int))
theorem hdAt_mid {r : List Bt} {m : Mp} {i : Nat} (h : HdAt r m i) (hi : (fieldsB m).length ≤ i) : headE r m = headD r (m.data.take (i - (fieldsB m).length)) (m.data.drop (i - (fieldsB m).length)) := by
  rcases h with ⟨h1, h2⟩ | ⟨_, h, _⟩
  · have e : i = (fieldsB m).length := by omega
    subst e
    rw [List.take_length] at h2
    unfold headE
    rw [find_none h2, Nat.sub_self]
    rfl
  · exact h
theorem headD_go {r : List Bt} {seen ks : List Int} {k : Int} (h1 : ¬ (r.length : Int) ≤ k) (h2 : isNameB (bsOf (cellAt r k)) = true) (h3 : ¬ (seen.any fun j => decide (cellAt r j = cellAt r k)) = true) : headD r seen (k :: ks) = headD r (seen ++ [k]) ks := by
  conv => lhs; unfold headD
  rw [if_neg h1, if_neg (by rw [h2]; decide), if_neg h3]
theorem hdAt_all {r : List Bt} {m : Mp} {i F q : Nat} {k : Int} (h : HdAt r m i) (hi : (fieldsB m).length ≤ i) (hF : (fieldsB m).length = F) (hx : m.data[q - F]? = some k) (hq : q - F < i - F) : k < (r.length : Int) := by
  rcases h with ⟨h1, _⟩ | ⟨_, _, h⟩
  · omega
  · refine h k ?_
    rw [hF]
    exact List.mem_of_getElem? (i := q - F) (by rw [List.getElem?_take_of_lt hq]; exact hx)
set_option maxHeartbeats 8000000 in
set_option maxRecDepth 100000 in
theorem header_ref (r : List Bt) (rv u : Value) (m : Mp) (w : World) (hr : SlP (Lt w.heap.size) w rv r) (h : IsMp (Lt w.heap.size) w u m) (hok : MpOk m) (hrl : ∀ c ∈ r, c.length ≤ 1000000) :
    Calls Tryz.prog 59 #[rv, u] w (RetPC (headE r m) w) := by
  have HCO := Lib.hid (fun W hW => columns_ref u m W hW (by have := hok.len; omega))
  have HCE := Lib.hid (colsR_eq hok)
  have HCK := Lib.hid (colsX_ok hok)
  have HMP := Lib.hid h
  have HRR := Lib.hid hr
  have HRL := Lib.hid hrl
  have HOK := Lib.hid hok
  obtain ⟨Ar, cr, rfl, _, _, hr⟩ := hr.open_
  obtain ⟨dv, kv, rfl, hfm, hd, hk⟩ := h
  obtain ⟨Ad, cd, rfl, _, _, hd⟩ := hd.open_
  obtain ⟨Ak, ck, rfl, _, _, hk⟩ := hk.open_
  unfold mpV at HMP HCO ⊢
  obtain ⟨z, hz⟩ : ∃ z, (m.sep.toNat : Int) = z := ⟨_, rfl⟩
  rw [hz] at HMP HCO ⊢
  obtain ⟨F, hF⟩ : ∃ F, (fieldsB m).length = F := ⟨_, rfl⟩
  have HF := Lib.hid hF
  have HXL : Hid ((colsX m).length = F + m.data.length) := Lib.hid (by unfold colsX; rw [List.length_append, hF])
  have HDL := Lib.hid hok.len
  have HFL : Hid (F ≤ 5) := Lib.hid (by rw [← hF]; have := List.length_filter_le (fun k : Int => decide (0 ≤ k)) [m.cas, m.act, m.res, m.life, m.time]; exact this)
  have hb1 := bone w (.cells #[.int .i64 m.cas, .int .i64 m.act, .int .i64 m.res, .int .i64 m.life, .int .i64 m.time, .slice Ad m.data.length cd, .slice Ak m.kinds.length ck, .int .u8 z] 33)
  have hB1 := Blk.new w 33 #[.int .i64 m.cas, .int .i64 m.act, .int .i64 m.res, .int .i64 m.life, .int .i64 m.time, .slice Ad m.data.length cd, .slice Ak m.kinds.length ck, .int .u8 z]
  have hs1 : (w.alloc (.cells #[.int .i64 m.cas, .int .i64 m.act, .int .i64 m.res, .int .i64 m.life, .int .i64 m.time, .slice Ad m.data.length cd, .slice Ak m.kinds.length ck, .int .u8 z] 33)).heap.size = w.heap.size + 1 := by simp
  obtain ⟨w1, hw1⟩ : ∃ w1, w.alloc (.cells #[.int .i64 m.cas, .int .i64 m.act, .int .i64 m.res, .int .i64 m.life, .int .i64 m.time, .slice Ad m.data.length cd, .slice Ak m.kinds.length ck, .int .u8 z] 33) = w1 := ⟨_, rfl⟩
  rw [hw1] at hb1 hB1 hs1
  have hb2 := bone w1 (.cells #[.int .i64 0, .int .i64 0] 40)
  have hB2 := Blk.new w1 40 #[.int .i64 0, .int .i64 0]
  rw [hs1] at hB2
  obtain ⟨w2, hw2⟩ : ∃ w2, w1.alloc (.cells #[.int .i64 0, .int .i64 0] 40) = w2 := ⟨_, rfl⟩
  rw [hw2] at hb2 hB2
  have HW : Hid ((w.alloc (.cells #[.int .i64 m.cas, .int .i64 m.act, .int .i64 m.res, .int .i64 m.life, .int .i64 m.time, .slice Ad m.data.length cd, .slice Ak m.kinds.length ck, .int .u8 z] 33)).alloc (.cells #[.int .i64 0, .int .i64 0] 40) = w2) := by show _ = _; rw [hw1, hw2]
  have HB2 := Lib.hid (bthen hb1 hb2)
  have HM2 := Lib.hid (hB1.now hb2)
  have HP2 := Lib.hid hB2
  clear hb1 hB1 hs1 hw1 hb2 hB2 hw2 hfm hd hk hz hr hF hrl hok
  go_enter Tryz.func59, Tryz.ntmps59
  go_upto_region 1 with fail
  rw [HW.out]
  clear HW
  obtain ⟨c0, c1, c2, c3, c4, c5, c6, c7⟩ := HM2.out.c8m
  go_wp2_with fail
  (with_reducible refine (HCO.out _ (HMP.out.now HB2.out)).mono ?_)
  rintro _ w3 ⟨lv, rfl, hl3, hb3⟩
  rw [HCE.out] at hl3
  obtain ⟨Al, cl, rfl, _, _, hl3⟩ := hl3.open_
  have HL3 := Lib.hid hl3
  have HB3 := Lib.hid (bthen HB2.out hb3)
  have HM3 := Lib.hid (HM2.out.now hb3)
  have HP3 := Lib.hid (HP2.out.now hb3)
  have HR3 := Lib.hid (HRR.out.now HB3.out)
  rw [HXL.out] at HL3 ⊢
  clear hb3 hl3 c0 c1 c2 c3 c4 c5 c6 c7 HM2 HP2 HB2
  obtain ⟨c0, c1, c2, c3, c4, c5, c6, c7⟩ := HM3.out.c8m
  have hdl8 := HDL.out
  have hfl5 := HFL.out
  have hsub : (((F + m.data.length : Nat) : Int) - (m.data.length : Int)) = (F : Int) := by omega
  go_wp2_with fail
  go_loopw [8] (fun iv wr => ∃ i : Nat, iv = .int .i64 (i : Int) ∧ i ≤ F + m.data.length ∧ Hid (HdAt r m i) ∧ Hid (Below w3.heap.size w3 wr)) (fun iv _ => F + m.data.length - (intOf iv).toNat)
  case atStart => exact ⟨0, rfl, Nat.zero_le _, Lib.hid (.inl ⟨Nat.zero_le _, fun y hy => by simp at hy⟩), Lib.hid (Below.refl _ _)⟩
  case round =>
    obtain ⟨i, rfl, hi, HI, HBr⟩ := hrel
    obtain ⟨wo, hwo⟩ : ∃ wo, wr = wo := ⟨_, rfl⟩
    rw [hwo] at HBr ⊢
    clear hwo c0 c1 c2 c3 c4 c5 c6 c7
    have HPo := Lib.hid (HP3.out.now HBr.out)
    have HBo := Lib.hid (bthen HB3.out HBr.out)
    by_cases hlt : i < F + m.data.length
    · obtain ⟨lb, lo, k, hlA, hlD, hlx, hlf, hlc⟩ := SlI.at_ (SlI.now HL3.out HBr.out) hlt
      subst hlA
      have hk0 : 0 ≤ k := (HCK.out k (List.mem_of_getElem? hlx)).1
      have hk40 : k < 40 := (HCK.out k (List.mem_of_getElem? hlx)).2
      obtain ⟨d, rfl⟩ : ∃ d : Nat, k = (d : Int) := ⟨k.toNat, by omega⟩
      have HLX := Lib.hid hlx
      have HLC := Lib.hid (And.intro hlD hlc)
      obtain ⟨hw3a, hw3b⟩ : lb < w3.heap.size ∧ w3.cell? ⟨lb, lo + i, none⟩ = some (.int .i64 (d : Int)) := by
        obtain ⟨lb', lo', k', hA', hD', hx', _, hc'⟩ := SlI.at_ HL3.out hlt
        injection hA' with hA'
        injection hA' with e1 e2 _
        subst e1 e2
        rw [hlx] at hx'
        injection hx' with hx'
        subst hx'
        exact ⟨hD', hc'⟩
      have HLW := Lib.hid hw3a
      have HLV := Lib.hid hw3b
      clear hw3a hw3b
      have i0 : (0 : Int) ≤ (i : Int) := by omega
      have i1 : (i : Int) < ((F + m.data.length : Nat) : Int) := by omega
      have i2 : (i : Int) < (F : Int) + (m.data.length : Int) := by omega
      have HB4 := Lib.hid (bone wo (.cells #[.int .i64 1, .int .i64 ((d : Int) + 1)] 40))
      have HN4 := Lib.hid (Blk.new wo 40 #[.int .i64 1, .int .i64 ((d : Int) + 1)])
      go_upto_region 7 with fail
      obtain ⟨w4, hw4⟩ : ∃ w4, wo.alloc (.cells #[.int .i64 1, .int .i64 ((d : Int) + 1)] 40) = w4 := ⟨_, rfl⟩
      rw [hw4] at HB4 HN4 ⊢
      have HP4 := Lib.hid (HPo.out.now HB4.out)
      have HB34 := Lib.hid (HBr.out.trans (HB4.out.mono HBr.out.size))
      have HBW4 := Lib.hid (bthen HBo.out HB4.out)
      have l4 : w4.cell? ⟨lb, lo + i, none⟩ = some (.int .i64 (d : Int)) := (HB4.out.cell (p := ⟨lb, lo + i, none⟩) HLC.out.1).trans HLC.out.2
      clear hw4 hlx hlf hlc hlD
      obtain ⟨n0, n1⟩ := HN4.out.c2
      obtain ⟨p0, p1⟩ := HP4.out.c2
      have f0 := HP4.out.frozen 0
      have f1 := HP4.out.frozen 1
      by_cases hge : (r.length : Int) ≤ (d : Int)
      · have HE : Hid (headE r m = ((1, (d : Int) + 1), 10)) := by
          show _ = _
          by_cases hiF : i < F
          · have hx : (fieldsB m)[i]? = some (d : Int) := by
              have := HLX.out
              unfold colsX at this
              rwa [List.getElem?_append_left (by rw [HF.out]; exact hiF)] at this
            rcases HI.out with ⟨_, h2⟩ | ⟨h2, _⟩
            · unfold headE
              rw [find_next h2 hx (decide_eq_true hge)]
            · rw [HF.out] at h2; omega
          · have hx : m.data[i - F]? = some (d : Int) := by
              have := HLX.out
              unfold colsX at this
              rwa [List.getElem?_append_right (by rw [HF.out]; omega), HF.out] at this
            rw [hdAt_mid HI.out (by rw [HF.out]; omega), HF.out, drop_cons hx]
            unfold headD
            rw [if_pos hge]
        go_wp2_with fail
        have hz := HP4.out.put2 (.int .i64 1) (.int .i64 ((d : Int) + 1))
        have hbz := bset2' HBW4.out (show w.heap.size ≤ w.heap.size + 1 by omega) (.int .i64 1) (.int .i64 ((d : Int) + 1))
        generalize ((w4.setCell ⟨w.heap.size + 1, 0, none⟩ (.int .i64 1)).setCell ⟨w.heap.size + 1, 1, none⟩ (.int .i64 ((d : Int) + 1))) = wz at hz hbz ⊢
        obtain ⟨z0, z1⟩ := hz.c2
        refine bodyPost_ret (v := .tuple #[.agg #[.int .i64 1, .int .i64 ((d : Int) + 1)], .int .i64 10]) (by simp [results, Tryz.results59, go_sem, z0, z1]) rfl ?_
        show RetPC _ _ _ _
        rw [HE.out]
        exact ⟨rfl, hbz⟩
      · have hlr : d < r.length := by omega
        by_cases hiF : i < F
        · have HNX : Hid (HdAt r m (i + 1)) := by
            have hx : (fieldsB m)[i]? = some (d : Int) := by
              have := HLX.out
              unfold colsX at this
              rwa [List.getElem?_append_left (by rw [HF.out]; exact hiF)] at this
            rcases HI.out with ⟨_, h2⟩ | ⟨h2, _⟩
            · exact .inl ⟨by rw [HF.out]; omega, all_stepF h2 hx (decide_eq_false hge)⟩
            · rw [HF.out] at h2; omega
          have j1 : (i : Int) < (F : Int) := by omega
          go_wp2_with fail
          go_roundw
          case rel => exact ⟨i + 1, by go_num, by omega, HNX, HB34⟩
          case measure => simp [intOf]; omega
        · have j1 : ¬ (i : Int) < (F : Int) := by omega
          have hx : m.data[i - F]? = some (d : Int) := by
            have := HLX.out
            unfold colsX at this
            rwa [List.getElem?_append_right (by rw [HF.out]; omega), HF.out] at this
          have HMID : Hid (headE r m = headD r (m.data.take (i - F)) ((d : Int) :: m.data.drop (i - F + 1))) := by
            show _ = _
            rw [hdAt_mid HI.out (by rw [HF.out]; omega), HF.out, drop_cons hx]
          have HX := Lib.hid hx
          obtain ⟨b1, o1, c, hA1, hD1, hcx, hcl, hcc⟩ := (HR3.out.now HB34.out).at_ hlr
          subst hA1
          have HCA : Hid (cellAt r (d : Int) = c) := cellAt_of hcx
          have HCX := Lib.hid hcx
          have k0 : (0 : Int) ≤ (d : Int) := by omega
          have k1 : (d : Int) < (r.length : Int) := by omega
          have hcsz : (bsOf c).size ≤ maxLen := by rw [bs_size]; have := HRL.out c (List.mem_of_getElem? hcx); unfold maxLen; omega
          have HNM := Lib.hid (fun W => isName_ref (bsOf c) W hcsz)
          obtain ⟨qn, hqn⟩ : ∃ qn, isNameB (bsOf c) = qn := ⟨_, rfl⟩
          rw [hqn] at HNM
          have HQN := Lib.hid hqn
          have HCV : Hid (b1 < w4.heap.size ∧ w4.cell? ⟨b1, o1 + d, none⟩ = some (.string (bsOf c))) := ⟨hD1, hcc⟩
          clear hqn hx hcx hcl hcsz
          go_wp2_with fail
          (with_reducible refine (HNM.out _).mono ?_)
          rintro _ w5 ⟨rfl, rfl⟩
          cases qn with
          | false =>
            have HE : Hid (headE r m = ((1, (d : Int) + 1), 8)) := by
              show _ = _
              rw [HMID.out]
              unfold headD
              rw [if_neg (show ¬ (r.length : Int) ≤ (d : Int) by omega), HCA.out, HQN.out, if_pos rfl]
            go_wp2_with fail
            have hz := HP4.out.put2 (.int .i64 1) (.int .i64 ((d : Int) + 1))
            have hbz := bset2' HBW4.out (show w.heap.size ≤ w.heap.size + 1 by omega) (.int .i64 1) (.int .i64 ((d : Int) + 1))
            generalize ((w4.setCell ⟨w.heap.size + 1, 0, none⟩ (.int .i64 1)).setCell ⟨w.heap.size + 1, 1, none⟩ (.int .i64 ((d : Int) + 1))) = wz at hz hbz ⊢
            obtain ⟨z0, z1⟩ := hz.c2
            refine bodyPost_ret (v := .tuple #[.agg #[.int .i64 1, .int .i64 ((d : Int) + 1)], .int .i64 8]) (by simp [results, Tryz.results59, go_sem, z0, z1]) rfl ?_
            show RetPC _ _ _ _
            rw [HE.out]
            exact ⟨rfl, hbz⟩
          | true =>
          go_wp2_with fail
          go_loopw [10] (fun jv wr => ∃ q : Nat, jv = .int .i64 (q : Int) ∧ F ≤ q ∧ q ≤ i ∧ Hid (∀ p ∈ m.data.take (q - F), cellAt r p ≠ c) ∧ Hid (Below w4.heap.size w4 wr)) (fun jv _ => i - (intOf jv).toNat)
          case atStart => exact ⟨F, rfl, Nat.le_refl _, by omega, Lib.hid (fun p hp => by rw [Nat.sub_self, List.take_zero] at hp; cases hp), Lib.hid (Below.refl _ _)⟩
          case round =>
            obtain ⟨q, rfl, hFq, hqi, HQ, HB5⟩ := hrel
            obtain ⟨wi, hwi⟩ : ∃ wi, wr = wi := ⟨_, rfl⟩
            rw [hwi] at HB5 ⊢
            clear hwi n0 n1 p0 p1 f0 f1 l4
            have HP5 := Lib.hid (HP4.out.now HB5.out)
            have HN5 := Lib.hid (HN4.out.now HB5.out)
            have HBW5 := Lib.hid (bthen HBW4.out HB5.out)
            have HB35 := Lib.hid (HB34.out.trans (HB5.out.mono HB34.out.size))
            by_cases hqi2 : q < i
            · obtain ⟨lb2, lo2, k2, hlA2, hlD2, hlx2, hlf2, hlc2⟩ := SlI.at_ (SlI.now HL3.out HB35.out) (k := q) (by omega)
              injection hlA2 with hlA2
              injection hlA2 with e1 e2 _
              subst e1 e2
              have hx2 : m.data[q - F]? = some k2 := by
                have := hlx2
                unfold colsX at this
                rwa [List.getElem?_append_right (by rw [HF.out]; omega), HF.out] at this
              have hk2 : 0 ≤ k2 := (HCK.out k2 (List.mem_of_getElem? hlx2)).1
              obtain ⟨d2, rfl⟩ : ∃ d2 : Nat, k2 = (d2 : Int) := ⟨k2.toNat, by omega⟩
              have hd2r : d2 < r.length := by
                rcases Nat.lt_or_ge d2 r.length with h | h
                · exact h
                · exfalso
                  have hm := hdAt_all HI.out (by rw [HF.out]; omega) (HF.out) hx2 (by omega)
                  omega
              obtain ⟨b2, o2, c2', hA2, hD2, hcx2, hcl2, hcc2⟩ := (HR3.out.now HB35.out).at_ hd2r
              injection hA2 with hA2
              injection hA2 with e1 e2 _
              subst e1 e2
              have HCA2 : Hid (cellAt r (d2 : Int) = c2') := cellAt_of hcx2
              have l1 : wi.cell? ⟨lb, lo + i, none⟩ = some (.int .i64 (d : Int)) := ((HB35.out.cell (p := ⟨lb, lo + i, none⟩) (HLW.out)).trans HLV.out)
              have l2 := hlc2
              have l3 := hcc2
              have l5 : wi.cell? ⟨b1, o1 + d, none⟩ = some (.string (bsOf c)) := (HB5.out.cell (p := ⟨b1, o1 + d, none⟩) HCV.out.1).trans HCV.out.2
              have q0 : (0 : Int) ≤ (q : Int) := by omega
              have q1 : (q : Int) < ((F + m.data.length : Nat) : Int) := by omega
              have q2 : (q : Int) < (F : Int) + (m.data.length : Int) := by omega
              have q3 : (0 : Int) ≤ (d2 : Int) := by omega
              have q4 : (d2 : Int) < (r.length : Int) := by omega
              have HX2 := Lib.hid hx2
              have heq : ((bsOf c2').toList == (bsOf c).toList) = decide (c2' = c) := eqBs c2' c
              clear hlx2 hlf2 hlc2 hlD2 hx2 hcx2 hcl2 hcc2 hD2
              by_cases hcc : c2' = c
              · have e1 : ((bsOf c2').toList == (bsOf c).toList) = true := by rw [heq]; exact decide_eq_true hcc
                have HE : Hid (headE r m = ((1, (d : Int) + 1), 9)) := by
                  show _ = _
                  rw [HMID.out]
                  unfold headD
                  rw [if_neg (show ¬ (r.length : Int) ≤ (d : Int) by omega), HCA.out, HQN.out, if_neg (by decide), if_pos (by
                    rw [List.any_eq_true]
                    refine ⟨(d2 : Int), List.mem_of_getElem? (i := q - F) (by rw [List.getElem?_take_of_lt (by omega)]; exact HX2.out), ?_⟩
                    rw [HCA2.out]
                    exact decide_eq_true hcc)]
                clear heq hcc
                go_upto_region 15 with fail
                go_quiet (fail)
                obtain ⟨w6, hw6⟩ : ∃ w6, wi.drewN nq = w6 := ⟨_, rfl⟩
                have hb6 : Below wi.heap.size wi w6 := by rw [← hw6]; exact bdrawn (Below.refl _ _) _
                rw [hw6]
                clear hw6 l1 l2 l3 l5
                have HP6 := Lib.hid (HP5.out.now hb6)
                have HBW6 := Lib.hid (bthen HBW5.out hb6)
                obtain ⟨n0, n1⟩ := (HN5.out.now hb6).c2
                obtain ⟨p0, p1⟩ := HP6.out.c2
                have f0 := HP6.out.frozen 0
                have f1 := HP6.out.frozen 1
                go_wp2_with fail
                have hz := HP6.out.put2 (.int .i64 1) (.int .i64 ((d : Int) + 1))
                have hbz := bset2' HBW6.out (show w.heap.size ≤ w.heap.size + 1 by omega) (.int .i64 1) (.int .i64 ((d : Int) + 1))
                generalize ((w6.setCell ⟨w.heap.size + 1, 0, none⟩ (.int .i64 1)).setCell ⟨w.heap.size + 1, 1, none⟩ (.int .i64 ((d : Int) + 1))) = wz at hz hbz ⊢
                obtain ⟨z0, z1⟩ := hz.c2
                refine bodyPost_ret (v := .tuple #[.agg #[.int .i64 1, .int .i64 ((d : Int) + 1)], .int .i64 9]) (by simp [results, Tryz.results59, go_sem, z0, z1]) rfl ?_
                show RetPC _ _ _ _
                rw [HE.out]
                exact ⟨rfl, hbz⟩
              · have e1 : ((bsOf c2').toList == (bsOf c).toList) = false := by rw [heq]; exact decide_eq_false hcc
                have HQ2 : Hid (∀ p ∈ m.data.take (q + 1 - F), cellAt r p ≠ c) := Lib.hid fun p hp => by
                  rw [show q + 1 - F = (q - F) + 1 by omega, take_snocI HX2.out] at hp
                  rcases List.mem_append.1 hp with hp | hp
                  · exact HQ.out p hp
                  · rw [List.mem_singleton] at hp
                    rw [hp, HCA2.out]
                    exact hcc
                clear heq hcc
                go_upto_region 15 with fail
                go_quiet (fail)
                obtain ⟨w6, hw6⟩ : ∃ w6, wi.drewN nq = w6 := ⟨_, rfl⟩
                have hb6 : Below wi.heap.size wi w6 := by rw [← hw6]; exact bdrawn (Below.refl _ _) _
                rw [hw6]
                clear hw6 l1 l2 l3 l5
                have HB6 := Lib.hid (bthen HB5.out hb6)
                go_wp2_with fail
                go_roundw
                case rel => exact ⟨q + 1, by go_num, by omega, by omega, HQ2, HB6⟩
                case measure => simp [intOf]; omega
            · have hqq : q = i := by omega
              have HNX : Hid (HdAt r m (i + 1)) := Lib.hid (.inr ⟨by rw [HF.out]; omega, by
                rw [HF.out, HMID.out, headD_go (show ¬ (r.length : Int) ≤ (d : Int) by omega) (by rw [HCA.out]; exact HQN.out) (by
                  intro h
                  obtain ⟨p, hp, he⟩ := List.any_eq_true.1 h
                  have := HQ.out p (by rw [hqq]; exact hp)
                  rw [HCA.out] at he
                  exact this (of_decide_eq_true he))]
                rw [show i + 1 - F = (i - F) + 1 by omega, take_snocI HX.out], by
                intro y hy
                rw [HF.out, show i + 1 - F = (i - F) + 1 by omega, take_snocI HX.out] at hy
                rcases List.mem_append.1 hy with hy | hy
                · rcases HI.out with ⟨h1, _⟩ | ⟨_, _, h⟩
                  · rw [HF.out] at h1
                    rw [show i - F = 0 by omega, List.take_zero] at hy
                    cases hy
                  · exact h y (by rw [HF.out]; exact hy)
                · rw [List.mem_singleton] at hy
                  rw [hy]; omega⟩)
              have z0 : ¬ (q : Int) < (i : Int) := by omega
              clear hqq
              go_wp2_with fail
              go_roundw
              case rel => exact ⟨i + 1, by go_num, by omega, HNX, HB35⟩
              case measure => simp [intOf]; omega
    · have hin : i = F + m.data.length := by omega
      have HE : Hid (headE r m = ((0, 0), 0)) := by
        show _ = _
        rw [hdAt_mid HI.out (by rw [HF.out]; omega), HF.out, List.drop_eq_nil_of_le (by omega)]
        rfl
      have n0 : ¬ (i : Int) < ((F + m.data.length : Nat) : Int) := by omega
      have n1 : ¬ i < F + m.data.length := hlt
      obtain ⟨p0, p1⟩ := HPo.out.c2
      have f0 := HPo.out.frozen 0
      have f1 := HPo.out.frozen 1
      clear hin
      go_wp2_with fail
      have hz := HPo.out.put2 (.int .i64 0) (.int .i64 0)
      have hbz := bset2' HBo.out (show w.heap.size ≤ w.heap.size + 1 by omega) (.int .i64 0) (.int .i64 0)
      generalize ((wo.setCell ⟨w.heap.size + 1, 0, none⟩ (.int .i64 0)).setCell ⟨w.heap.size + 1, 1, none⟩ (.int .i64 0)) = wz at hz hbz ⊢
      obtain ⟨z0, z1⟩ := hz.c2
      refine bodyPost_ret (v := .tuple #[.agg #[.int .i64 0, .int .i64 0], .int .i64 0]) (by simp [results, Tryz.results59, go_sem, z0, z1]) rfl ?_
      show RetPC _ _ _ _
      rw [HE.out]
      exact ⟨rfl, hbz⟩
end Go.Proofs.YtoalecalahkblaaGreatDoor

set_option linter.all false
namespace Go.Proofs.YtoalecalahkblaaGreatDoor
open Go.RowKit
set_option maxHeartbeats 4000000 in
set_option maxRecDepth 100000 in
theorem place_ref (s : ByteArray) (n : Nat) (w : World) (hs : s.size ≤ 16384) (hn : n ≤ s.size) :
    Calls Tryz.prog 106 #[.string s, .int .i64 (n : Int)] w fun e w' => e = .returned (.agg #[.int .i64 (plAt s.data.toList n).1, .int .i64 (plAt s.data.toList n).2]) ∧ Below w.heap.size w w' := by
  have HTE := Lib.hid (fun c : UInt8 => beqI c 10 10 rfl)
  have HLS : Hid (s.data.toList.length = s.size) := Lib.hid (by simp)
  have hb1 := bone w (.cells #[.int .i64 0, .int .i64 0] 40)
  have hB1 := Blk.new w 40 #[.int .i64 0, .int .i64 0]
  have hs1 : (w.alloc (.cells #[.int .i64 0, .int .i64 0] 40)).heap.size = w.heap.size + 1 := by simp
  obtain ⟨w1, hw1⟩ : ∃ w1, w.alloc (.cells #[.int .i64 0, .int .i64 0] 40) = w1 := ⟨_, rfl⟩
  rw [hw1] at hb1 hB1 hs1
  have hb2 := bone w1 (.cells #[.int .i64 1, .int .i64 1] 40)
  have hB2 := Blk.new w1 40 #[.int .i64 1, .int .i64 1]
  rw [hs1] at hB2
  obtain ⟨w2, hw2⟩ : ∃ w2, w1.alloc (.cells #[.int .i64 1, .int .i64 1] 40) = w2 := ⟨_, rfl⟩
  rw [hw2] at hb2 hB2
  have HW : Hid ((w.alloc (.cells #[.int .i64 0, .int .i64 0] 40)).alloc (.cells #[.int .i64 1, .int .i64 1] 40) = w2) := by show _ = _; rw [hw1, hw2]
  have HB2 := Lib.hid (bthen hb1 hb2)
  have HR2 := Lib.hid (hB1.now hb2)
  have HP2 := Lib.hid hB2
  clear hb1 hB1 hs1 hw1 hb2 hB2 hw2
  go_enter Tryz.func106, Tryz.ntmps106
  go_upto_region 2 with fail
  rw [HW.out]
  clear HW
  go_wp2_with fail
  go_loopw [6] (fun iv wr => ∃ k : Nat, iv = .int .i64 (k : Int) ∧ k ≤ n ∧ Hid (Blk wr (w.heap.size + 1) 40 #[.int .i64 (plAt s.data.toList k).1, .int .i64 (plAt s.data.toList k).2]) ∧ Hid (Blk wr w.heap.size 40 #[.int .i64 0, .int .i64 0]) ∧ Hid (Below w.heap.size w wr)) (fun iv _ => n - (intOf iv).toNat)
  case atStart => exact ⟨0, rfl, Nat.zero_le _, HP2, HR2, HB2⟩
  case round =>
    obtain ⟨k, rfl, hk, HP, HR, HB⟩ := hrel
    have HBD := Lib.hid (plAt_bound s.data.toList k)
    by_cases hlt : k < n
    · have i1 : (0 : Int) ≤ (k : Int) := by omega
      have i2 : (k : Int) < (s.size : Int) := by omega
      have HST := Lib.hid (plAt_step (s := s.data.toList) (i := k) (by rw [HLS.out]; omega))
      have HSK : Hid (s.data.toList[k]'(by rw [HLS.out]; omega) = s[k]'(by omega)) := (rdByte (by omega)).2 _
      have HPL : Hid (plAt s.data.toList (k + 1) = advP (plAt s.data.toList k) (s[k]'(by omega))) := Lib.hid (by rw [HST.out, HSK.out])
      clear HST HSK
      obtain ⟨c, hc⟩ : ∃ c, s[k]'(by omega) = c := ⟨_, rfl⟩
      rw [hc] at HPL
      have hc' : s[k] = c := hc
      have HL := HLS.out
      generalize plAt s.data.toList k = pl at HP HPL HBD
      obtain ⟨x, y⟩ := pl
      obtain ⟨c0, c1⟩ := HP.out.c2
      have f0 := HP.out.frozen 0
      have f1 := HP.out.frozen 1
      have hbd := HBD.out
      dsimp only at hbd
      rw [HL] at hbd
      obtain ⟨hx1, hx2, hy1, hy2⟩ := hbd
      by_cases h10 : c = 10
      · have e1 : ((c.toNat : Int) == 10) = true := by rw [HTE.out c, h10]; rfl
        have HE : Hid (plAt s.data.toList (k + 1) = (x + 1, 1)) := by show _ = _; rw [HPL.out, h10]; rfl
        clear h10 HPL HL hc
        go_wp2_with fail
        go_roundw
        case rel =>
          refine ⟨k + 1, by go_num, by omega, ?_, ?_, ?_⟩
          · rw [HE.out]
            exact Lib.hid (((HP.out.set_ 1 (.int .i64 (y + 1))).set_ 0 (.int .i64 (x + 1))).set_ 1 (.int .i64 1))
          · exact Lib.hid (((HR.out.far (p := ⟨w.heap.size + 1, 1, none⟩) (show w.heap.size ≠ w.heap.size + 1 by omega) _).far (p := ⟨w.heap.size + 1, 0, none⟩) (show w.heap.size ≠ w.heap.size + 1 by omega) _).far (p := ⟨w.heap.size + 1, 1, none⟩) (show w.heap.size ≠ w.heap.size + 1 by omega) _)
          · exact Lib.hid (((HB.out.setCell (p := ⟨w.heap.size + 1, 1, none⟩) (show w.heap.size ≤ w.heap.size + 1 by omega) _).setCell (p := ⟨w.heap.size + 1, 0, none⟩) (show w.heap.size ≤ w.heap.size + 1 by omega) _).setCell (p := ⟨w.heap.size + 1, 1, none⟩) (show w.heap.size ≤ w.heap.size + 1 by omega) _)
        case measure => simp [intOf]; omega
      · have e1 : ((c.toNat : Int) == 10) = false := by rw [HTE.out c]; exact beq_false_of_ne h10
        have HE : Hid (plAt s.data.toList (k + 1) = (x, y + 1)) := by show _ = _; rw [HPL.out]; unfold advP; rw [if_neg h10]
        clear h10 HPL HL hc
        go_wp2_with fail
        go_roundw
        case rel =>
          refine ⟨k + 1, by go_num, by omega, ?_, ?_, ?_⟩
          · rw [HE.out]
            exact Lib.hid (HP.out.set_ 1 (.int .i64 (y + 1)))
          · exact Lib.hid (HR.out.far (p := ⟨w.heap.size + 1, 1, none⟩) (show w.heap.size ≠ w.heap.size + 1 by omega) _)
          · exact Lib.hid (HB.out.setCell (p := ⟨w.heap.size + 1, 1, none⟩) (show w.heap.size ≤ w.heap.size + 1 by omega) _)
        case measure => simp [intOf]; omega
    · have hkn : k = n := by omega
      subst hkn
      obtain ⟨c0, c1⟩ := HP.out.c2
      obtain ⟨r0, r1⟩ := HR.out.c2
      have f0 := HR.out.frozen 0
      have f1 := HR.out.frozen 1
      go_wp2_with fail
      have hz := (HR.out.set_ 0 (.int .i64 (plAt s.data.toList k).1)).set_ 1 (.int .i64 (plAt s.data.toList k).2)
      have hbz := (HB.out.setCell (p := ⟨w.heap.size, 0, none⟩) (Nat.le_refl _) (.int .i64 (plAt s.data.toList k).1)).setCell (p := ⟨w.heap.size, 1, none⟩) (Nat.le_refl _) (.int .i64 (plAt s.data.toList k).2)
      generalize ((wr.setCell ⟨w.heap.size, 0, none⟩ (.int .i64 (plAt s.data.toList k).1)).setCell ⟨w.heap.size, 1, none⟩ (.int .i64 (plAt s.data.toList k).2)) = wz at hz hbz ⊢
      obtain ⟨z0, z1⟩ := hz.c2
      refine bodyPost_ret (v := .agg #[.int .i64 (plAt s.data.toList k).1, .int .i64 (plAt s.data.toList k).2]) (by simp [results, Tryz.results106, go_sem, z0, z1]) rfl ?_
      exact ⟨rfl, hbz⟩
end Go.Proofs.YtoalecalahkblaaGreatDoor

set_option linter.all false
namespace Go.Proofs.YtoalecalahkblaaGreatDoor
open Go.RowKit
def CellR.rest : CellR → Bt
  | .ok _ r => r
  | .bad r _ => r
theorem qR_suf : ∀ (n : Nat) (t acc : Bt), t.length ≤ n → (qR acc t).rest <:+ t
  | _, [], acc, _ => List.suffix_refl _
  | 0, c :: t, acc, h => by simp at h
  | n + 1, c :: t, acc, h => by
    have hl : t.length ≤ n := by simpa using h
    by_cases h1 : printB c = false
    · rw [qR_bad h1]; exact List.suffix_refl _
    have h1 : printB c = true := by simpa using h1
    by_cases h2 : c = 34
    · subst h2
      by_cases h3 : t.head? = some 34
      · cases t with
        | nil => cases h3
        | cons d t =>
          injection h3 with h3
          subst h3
          rw [qR_two]
          exact (qR_suf n t _ (by simp at hl; omega)).trans ((List.suffix_cons _ _).trans (List.suffix_cons _ _))
      · rw [qR_stop h3]
        exact List.suffix_cons _ _
    · rw [qR_chr h1 h2]
      exact (qR_suf n t _ hl).trans (List.suffix_cons _ _)
theorem plR_suf {sep : UInt8} : ∀ (t acc : Bt), (plainR sep acc t).rest <:+ t
  | [], acc => List.suffix_refl _
  | c :: t, acc => by
    by_cases h1 : c = 10 ∨ c = sep
    · rw [plR_stop h1]; exact List.suffix_refl _
    by_cases h2 : printB c = false ∨ c = 34
    · rw [plR_bad h1 h2]; exact List.suffix_refl _
    rw [plR_more h1 h2]
    exact (plR_suf t _).trans (List.suffix_cons _ _)
theorem suf_drop {s r : Bt} {j : Nat} (h : r <:+ s.drop j) (hj : j ≤ s.length) : r = s.drop (s.length - r.length) ∧ j ≤ s.length - r.length := by
  have h1 : r <:+ s := h.trans (List.drop_suffix _ _)
  have h2 := h.length_le
  rw [List.length_drop] at h2
  refine ⟨?_, by omega⟩
  obtain ⟨p, rfl⟩ := h1
  rw [List.length_append, Nat.add_sub_cancel, List.drop_left]
theorem cellR_q {sep : UInt8} {t : Bt} : cellR sep (34 :: t) = (match qR [] t with | .bad r e => .bad r e | .ok b r => if endsB sep r = true then .ok b r else .bad r 3) := by
  show quotedR sep [] t = _
  exact qR_ends _ t [] (Nat.le_refl _)
theorem qR_err : ∀ (n : Nat) (t acc r : Bt) (e : Int), t.length ≤ n → qR acc t = .bad r e → e ≠ 0
  | _, [], acc, r, e, _, h => by unfold qR at h; injection h with _ h; rw [← h]; decide
  | 0, c :: t, acc, r, e, h, _ => by simp at h
  | n + 1, c :: t, acc, r, e, h, hq => by
    have hl : t.length ≤ n := by simpa using h
    by_cases h1 : printB c = false
    · rw [qR_bad h1] at hq; injection hq with _ hq; rw [← hq]; decide
    have h1 : printB c = true := by simpa using h1
    by_cases h2 : c = 34
    · subst h2
      by_cases h3 : t.head? = some 34
      · cases t with
        | nil => cases h3
        | cons d t =>
          injection h3 with h3
          subst h3
          rw [qR_two] at hq
          exact qR_err n t _ r e (by simp at hl; omega) hq
      · rw [qR_stop h3] at hq; cases hq
    · rw [qR_chr h1 h2] at hq
      exact qR_err n t _ r e hl hq
theorem plR_err {sep : UInt8} : ∀ (t acc r : Bt) (e : Int), plainR sep acc t = .bad r e → e ≠ 0
  | [], acc, r, e, h => by unfold plainR at h; cases h
  | c :: t, acc, r, e, h => by
    by_cases h1 : c = 10 ∨ c = sep
    · rw [plR_stop h1] at h; cases h
    by_cases h2 : printB c = false ∨ c = 34
    · rw [plR_bad h1 h2] at h; injection h with _ h; rw [← h]; decide
    rw [plR_more h1 h2] at h
    exact plR_err t _ r e h
structure CellAt (sep : UInt8) (s : Bt) (j : Nat) (b : Bt) (k : Nat) (e : Int) (f : Nat) : Prop where
  good : e = 0 → cellR sep (s.drop j) = .ok b (s.drop k) ∧ j ≤ k ∧ k ≤ s.length
  bad : e ≠ 0 → cellR sep (s.drop j) = .bad (s.drop f) e ∧ f ≤ s.length
end Go.Proofs.YtoalecalahkblaaGreatDoor
