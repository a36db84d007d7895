/- The reference's Next, Same. -/
import Derived.Test.YtchfmjociflgfaaGreatDoorValNext3
namespace Go.Proofs.YtchfmjociflgfaaGreatDoor
open Go.RowKit

set_option maxHeartbeats 2000000 in
set_option maxRecDepth 100000 in
theorem next_ref (l : List Var) (vs : List Val) (u v : Value) (w3 : World) (h : SlX (Lt w3.heap.size) w3 u l) (hv : SlV (Lt w3.heap.size) w3 v vs) (hvs : varsB l = true) (hvv : ∀ v ∈ vs, validV v = true) (ha : assignedB l vs = true) :
    Calls Tryz.prog 28 #[u, v] w3 (RetVB (nextV l vs).1 (nextV l vs).2 w3) := by
  have hit := vars_items h
  have HIT := Lib.hid hit
  have HFV := Lib.hid hv.fits
  clear hit
  obtain ⟨A, c, rfl, h1, h2, ht⟩ := h.open_
  obtain ⟨Av, cv, rfl, h1v, h2v, htv⟩ := hv.open_
  clear h hv
  have HV := Lib.hid hvs
  have HVV := Lib.hid hvv
  have HA := Lib.hid ha
  have h8 := vars_len hvs
  have hlen := (assigned_at ha).1
  clear hvs hvv ha
  rw [hlen] at htv h1v
  rw [hlen]
  have HL := Lib.hid hlen
  clear hlen
  have hb := bone w3 (.cells #[] 23)
  have htb := htv.now hb
  have hll : ([] : List Val).length + vs.length < 10000000 := by have := HL.out; simp; omega
  go_enter Tryz.func28, Tryz.ntmps28
  go_wp2_with (at_builtin; refine wpList_appendAllW (fc := cellsV) (R := RVal) appVals rfl (.tmp 9) (.tmp 10) rfl _ cellsV_len [] _ rfl (World.ownsRow_lit (base := w3.heap.size) (e := 23) (size := 3) w3 #[] 0 (Nat.le_refl _) (by unfold maxLen; omega) rfl) _ vs rfl htb (fun y c h => h.1) cellsV_one hll (by simp) ?_; intro ov w4 hown hgr hat)
  have hb4 : Below w3.heap.size w3 w4 := hb.trans (below_of_grown hgr (by simp) (fun g hg => by injection hg with hg; exact Nat.le_of_eq hg))
  have ht4 := ht.now hb4
  have htv4 := htv.now hb4
  rw [List.nil_append] at hown
  clear hgr hat
  go_loopw [7] (fun i wr => ∃ (k : Nat) (cur : List Val), k ≤ l.length ∧ i = .int .i64 ((k : Int) - 1) ∧ OwnV wr w3.heap.size ov cur ∧ cur.length = l.length ∧ (∀ x ∈ cur, FitV x) ∧ nextFrom l vs k cur = nextV l vs ∧ Below w3.heap.size w3 wr) (fun i _ => (intOf i + 1).toNat)
  case atStart => exact ⟨l.length, vs, Nat.le_refl _, rfl, hown, HL.out, HFV.out, rfl, hb4⟩
  case round =>
    obtain ⟨k, cur, hk, rfl, hcur, hcl, hcf, hnx, hbr⟩ := hrel
    have HN := Lib.hid hnx
    have HCF := Lib.hid hcf
    clear hnx hcf
    have hbwr : Below w3.heap.size w3 wr := hbr
    cases k with
    | zero =>
      have HN0 : Hid (nextV l vs = ([], false)) := by rw [← HN.out]; exact (rfl : _ = _)
      go_wp2_with fail
      go_ret2
      rw [HN0.out]
      exact ⟨_, rfl, Sl.none_, hbwr⟩
    | succ j =>
      rw [show ((j + 1 : Nat) : Int) - 1 = (j : Int) by omega]
      obtain ⟨g, cap, hov, hgc, hgb, hgl⟩ := OwnW.form hcur (by omega)
      rw [hcl] at hov hgc
      subst hov
      obtain ⟨b, o, x, iv, rfl, hD, hx, hvar, hiv, c0, c1, c2, c3, c4⟩ := (ht.now hbwr).at_ (k := j) (by omega)
      obtain ⟨bv, ovv, y, rfl, hDv, hy, hfy, d0, d1, d2⟩ := (htv.now hbwr).at_ (k := j) (by omega)
      have HX := Lib.hid hx
      have HY := Lib.hid hy
      have hvx := vars_each HV.out hx
      have htm := tame_of hvx
      have hz1 : x.kind = 1 → x.low = 0 := fun h => low_zero hvx (by omega)
      have hpl := (assigned_at HA.out).2 j x y (by omega) hx hy
      have hpb := place_lt htm (HVV.out y (List.mem_of_getElem? hy))
      have hsz := sizeV_le htm
      have hs1 := size_pos htm
      have hitx := HIT.out x (List.mem_of_getElem? hx)
      have HFN := Lib.hid (fun (i : Nat) (hi : (i : Int) < sizeV x) => fit_nth htm hi hitx)
      clear hx hy hitx
      have HC := Lib.hid (rank_ref x y _ wr.drew (hvar.now (Below.refl _ _).drew) htm hfy)
      unfold valV at HC
      have i1 : (0 : Int) ≤ j := by omega
      have i3 : (j : Int) < (l.length : Int) := by omega
      have i4 : (j : Int) < (cur.length : Int) := by omega
      obtain ⟨zn, hzn⟩ := Int.eq_ofNat_of_zero_le hpl
      have HZ := Lib.hid hzn
      rw [hzn] at HC hpb
      clear hpl hzn
      have HSZ := Lib.hid (rfl : sizeV x = sizeV x)
      go_wp2_with fail
      go_region_with (go_at_call 35; refine HC.out.mono ?_; rintro e w5 ⟨rfl, hb5⟩)
      all_goals
        have hb5' : Below wr.heap.size wr w5 := below_drew_left hb5
        obtain ⟨e0, e1, e2, e3, e4⟩ := carry5 hb5' hD c0 c1 c2 c3 c4
        have hvar5 := hvar.now hb5'
        have hcur5 := hcur.now hb5'
        clear c0 c1 c2 c3 c4 d0 d1 d2
        go_wp2_with fail
        refine (size_ref x _ _ hvar5 htm).mono ?_
        rintro e w6 ⟨rfl, hb6⟩
        have hb56 := bthen hb5' hb6
        obtain ⟨r0, r1, r2, r3, r4⟩ := carry5 hb6 (Nat.lt_of_lt_of_le hD hb5'.size) e0 e1 e2 e3 e4
        clear e0 e1 e2 e3 e4
        have hvar6 := hvar5.now hb6
        have hcur6 := hcur5.now hb6
        have HN1 := Lib.hid (fun (n : Nat) (hn : (n : Int) < sizeV x) => nth_ref x n _ w6 hvar6 htm hz1 hn)
        have HN0 := HN1.out 0 (by omega)
        clear hz1
        generalize hsx : sizeV x = sx at *
        have HSX := Lib.hid hsx
        clear hsx
        by_cases hz : (zn : Int) + 1 < sx
        · have HS := Lib.hid (nextFrom_yes (out := cur) HX.out HY.out (by rw [HZ.out, HSX.out]; exact hz))
          have hcall := HN1.out (zn + 1) (by omega)
          have hfn := HFN.out (zn + 1) (by omega)
          rw [show ((zn + 1 : Nat) : Int) = (zn : Int) + 1 by omega] at hcall hfn
          rw [HZ.out] at HS
          generalize nthV x ((zn : Int) + 1) = nv at *
          unfold valV at hcall
          have HCL := Lib.hid hcall
          clear HN1 HN0 hcall
          go_wp2_with fail
          refine HCL.out.mono ?_
          rintro e w7 ⟨rfl, hb7⟩
          have hcur7 : OwnV w7 w3.heap.size (.slice (some ⟨g, 0, none⟩) cur.length cap) cur := by rw [hcl]; exact hcur6.now hb7
          obtain ⟨cx, f0, f1, f2, z0, z1, z2⟩ := OwnV.cells hcur7 (k := j) (by omega)
          go_wp2_with fail
          go_ret2
          rw [← HN.out, HS.out]
          have hb37 : Below w3.heap.size w3 w7 := hbr.trans ((bthen hb56 hb7).mono hbr.size)
          refine ⟨.slice (some ⟨g, 0, none⟩) l.length cap, rfl, ?_, bput3 hb37 hgb _ _ _ _ _ _⟩
          have := (OwnV.set_ hcur7 (k := j) (by omega) nv).sl (fits_set HCF.out j hfn)
          rw [hcl] at this
          exact this
        · have HS := Lib.hid (nextFrom_no (out := cur) HX.out HY.out (by rw [HZ.out, HSX.out]; exact hz))
          have hfn := HFN.out 0 (by omega)
          rw [show ((0 : Nat) : Int) = 0 from rfl] at HN0 hfn
          generalize nthV x 0 = nv at *
          unfold valV at HN0
          have HCL := Lib.hid HN0
          clear HN1 HN0
          go_wp2_with fail
          refine HCL.out.mono ?_
          rintro e w7 ⟨rfl, hb7⟩
          have hcur7 : OwnV w7 w3.heap.size (.slice (some ⟨g, 0, none⟩) cur.length cap) cur := by rw [hcl]; exact hcur6.now hb7
          obtain ⟨cx, f0, f1, f2, z0, z1, z2⟩ := OwnV.cells hcur7 (k := j) (by omega)
          go_wp2_with fail
          have hb37 : Below w3.heap.size w3 w7 := hbr.trans ((bthen hb56 hb7).mono hbr.size)
          go_roundw
          case rel =>
            refine ⟨j, cur.set j nv, by omega, rfl, ?_, by rw [List.length_set]; exact hcl, fits_set HCF.out j hfn, by rw [← HS.out]; exact HN.out, bput3 hb37 hgb _ _ _ _ _ _⟩
            have := OwnV.set_ hcur7 (k := j) (by omega) nv
            rw [hcl] at this
            exact this
          case measure => simp [intOf]
end Go.Proofs.YtchfmjociflgfaaGreatDoor
