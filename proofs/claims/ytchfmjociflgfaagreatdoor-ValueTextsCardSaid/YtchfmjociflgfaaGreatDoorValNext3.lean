/- value.Next and the reference's; Same. -/
import Derived.Test.YtchfmjociflgfaaGreatDoorValNext2
namespace Go.Proofs.YtchfmjociflgfaaGreatDoor
open Go.RowKit

/-- What returns a list of values, a truth value and a number. -/
def RetVBE (vs : List Val) (b : Bool) (z : Int) (w : World) (e : Ending) (w' : World) : Prop := ∃ v, e = .returned (.tuple #[v, .bool b, .int .i64 z]) ∧ SlV (Lt w'.heap.size) w' v vs ∧ Below w.heap.size w w'
def RetVB (vs : List Val) (b : Bool) (w : World) (e : Ending) (w' : World) : Prop := ∃ v, e = .returned (.tuple #[v, .bool b]) ∧ SlV (Lt w'.heap.size) w' v vs ∧ Below w.heap.size w w'
theorem fits_set {vs : List Val} (h : ∀ x ∈ vs, FitV x) (k : Nat) {y : Val} (hy : FitV y) : ∀ x ∈ vs.set k y, FitV x := by
  intro x hx
  rcases List.mem_or_eq_of_mem_set hx with hx | rfl
  · exact h x hx
  · exact hy

set_option maxHeartbeats 2000000 in
set_option maxRecDepth 100000 in
theorem nextE_any (l : List Var) (vs : List Val) (u v : Value) (w : World) (h : SlX (Lt w.heap.size) w u l) (hv : SlV (Lt w.heap.size) w v vs) (hl : l.length ≤ 1000000) :
    Calls Tryz.prog 23 #[u, v] w (RetVBE (nextE l vs).1 (nextE l vs).2.1 (nextE l vs).2.2 w) := by
  have hit := vars_items h
  have HIT := Lib.hid hit
  have HFV := Lib.hid hv.fits
  clear hit
  obtain ⟨A, c, rfl, h1, h2, ht⟩ := h.open_
  obtain ⟨Av, cv, rfl, h1v, h2v, htv⟩ := hv.open_
  clear h hv
  go_enter Tryz.func23, Tryz.ntmps23
  go_wp2_with fail
  refine (valid_any l vs _ _ _ ht htv hl).mono ?_
  rintro e w2 ⟨rfl, hb2⟩
  generalize hq : okB l vs = q
  have HQ := Lib.hid hq
  clear hq
  cases q
  · have HE : Hid (nextE l vs = ([], false, 1)) := by show _ = _; unfold nextE; rw [HQ.out]; rfl
    go_wp2_with fail
    go_ret3
    rw [HE.out]
    exact ⟨_, rfl, Sl.none_, hb2⟩
  obtain ⟨hvs, hvv⟩ := ok_vars HQ.out
  have HV := Lib.hid hvs
  have HVV := Lib.hid hvv
  have h8 := vars_len hvs
  clear hvs hvv
  by_cases hlen : vs.length = l.length
  rotate_left
  · have HE : Hid (nextE l vs = ([], false, 29)) := by show _ = _; unfold nextE; rw [HQ.out, if_pos rfl, if_pos hlen]
    have h3 : ((vs.length : Int) != (l.length : Int)) = true := by simp; omega
    clear hlen
    go_wp2_with fail
    go_ret3
    rw [HE.out]
    exact ⟨_, rfl, Sl.none_, hb2⟩
  have HE1 : Hid (nextE l vs = if assignedB l vs then ((nextV l vs).1, (nextV l vs).2, 0) else ([], false, 11)) := by show _ = _; unfold nextE; rw [HQ.out, if_pos rfl, if_neg (by simpa using hlen)]
  rw [hlen] at htv h1v
  rw [hlen]
  have HL := Lib.hid hlen
  clear hlen
  have h3 : ((l.length : Int) != (l.length : Int)) = false := by simp
  go_wp2_with fail
  refine (assigned_any l vs _ _ _ (ht.now hb2) (htv.now hb2) HV.out).mono ?_
  rintro e w3 ⟨rfl, hb3⟩
  have hbw3 := bthen hb2 hb3
  generalize hq : assignedB l vs = q
  have HA := Lib.hid hq
  clear hq
  cases q
  · have HE : Hid (nextE l vs = ([], false, 11)) := by show _ = _; rw [HE1.out, HA.out]; rfl
    go_wp2_with fail
    go_ret3
    rw [HE.out]
    exact ⟨_, rfl, Sl.none_, hbw3⟩
  have HE : Hid (nextE l vs = ((nextV l vs).1, (nextV l vs).2, 0)) := by show _ = _; rw [HE1.out, HA.out]; rfl
  clear HE1
  go_wp2_with fail
  refine (cloneV _ vs _ (htv.now hbw3) (by have := HL.out; omega)).mono ?_
  rintro e w4 ⟨ov, rfl, hown, hb4⟩
  have hbw4 := bthen hbw3 hb4
  have ht4 := ht.now hbw4
  have htv4 := htv.now hbw4
  have hbase : w3.heap.size ≤ w4.heap.size := hb4.size
  have HNV : Hid (nextFrom l vs l.length vs = nextV l vs) := rfl
  have hB0 : Below w3.heap.size w3 w4 := hb4
  go_wp2_with fail
  go_loopw [8] (fun i wr => ∃ (k : Nat) (cur : List Val), k ≤ l.length ∧ i = .int .i64 ((k : Int) - 1) ∧ OwnV wr w3.heap.size ov cur ∧ cur.length = l.length ∧ (∀ x ∈ cur, FitV x) ∧ nextFrom l vs k cur = nextV l vs ∧ Below w3.heap.size w3 wr) (fun i _ => (intOf i + 1).toNat)
  case atStart => exact ⟨l.length, vs, Nat.le_refl _, rfl, hown, HL.out, HFV.out, rfl, hb4⟩
  case round =>
    obtain ⟨k, cur, hk, rfl, hcur, hcl, hcf, hnx, hbr⟩ := hrel
    have HN := Lib.hid hnx
    have HCF := Lib.hid hcf
    clear hnx hcf
    have hbwr : Below w.heap.size w wr := bthen hbw3 hbr
    cases k with
    | zero =>
      have HN0 : Hid (nextV l vs = ([], false)) := by rw [← HN.out]; exact (rfl : _ = _)
      go_wp2_with fail
      go_ret3
      rw [HE.out, HN0.out]
      exact ⟨_, rfl, Sl.none_, hbwr⟩
    | succ j =>
      rw [show ((j + 1 : Nat) : Int) - 1 = (j : Int) by omega]
      obtain ⟨g, cap, hov, hgc, hgb, hgl⟩ := OwnW.form hcur (by omega)
      rw [hcl] at hov hgc
      subst hov
      obtain ⟨b, o, x, iv, rfl, hD, hx, hvar, hiv, c0, c1, c2, c3, c4⟩ := (ht.now hbwr).at_ (k := j) (by omega)
      obtain ⟨bv, ovv, y, rfl, hDv, hy, hfy, d0, d1, d2⟩ := (htv.now hbwr).at_ (k := j) (by omega)
      have HX := Lib.hid hx
      have HY := Lib.hid hy
      have htm := tame_of (vars_each HV.out hx)
      have hpl := (assigned_at HA.out).2 j x y (by omega) hx hy
      have hpb := place_lt htm (HVV.out y (List.mem_of_getElem? hy))
      have hsz := sizeV_le htm
      have hs1 := size_pos htm
      have hitx := HIT.out x (List.mem_of_getElem? hx)
      have HFN := Lib.hid (fun (i : Nat) (hi : (i : Int) < sizeV x) => fit_nth htm hi hitx)
      clear hx hy hitx
      have HC := Lib.hid (place_any x y _ wr.drew (hvar.now (Below.refl _ _).drew) htm hfy)
      unfold valV at HC
      have i1 : (0 : Int) ≤ j := by omega
      have i3 : (j : Int) < (l.length : Int) := by omega
      have i4 : (j : Int) < (cur.length : Int) := by omega
      obtain ⟨zn, hzn⟩ := Int.eq_ofNat_of_zero_le hpl
      have HZ := Lib.hid hzn
      rw [hzn] at HC hpb
      clear hpl hzn
      have HSZ := Lib.hid (rfl : sizeV x = sizeV x)
      go_wp2_with fail
      go_region_with (go_at_call 67; refine HC.out.mono ?_; rintro e w5 ⟨rfl, hb5⟩)
      all_goals
        have hb5' : Below wr.heap.size wr w5 := below_drew_left hb5
        obtain ⟨e0, e1, e2, e3, e4⟩ := carry5 hb5' hD c0 c1 c2 c3 c4
        have hvar5 := hvar.now hb5'
        have hcur5 := hcur.now hb5'
        clear c0 c1 c2 c3 c4 d0 d1 d2
        go_wp2_with fail
        refine (size_any x _ _ hvar5 htm).mono ?_
        rintro e w6 ⟨rfl, hb6⟩
        have hb56 := bthen hb5' hb6
        obtain ⟨r0, r1, r2, r3, r4⟩ := carry5 hb6 (Nat.lt_of_lt_of_le hD hb5'.size) e0 e1 e2 e3 e4
        clear e0 e1 e2 e3 e4
        have hvar6 := hvar5.now hb6
        have hcur6 := hcur5.now hb6
        have HN1 := Lib.hid (fun (n : Nat) (hn : (n : Int) < sizeV x) => nth_any x n _ w6 hvar6 htm hn)
        have HN0 := HN1.out 0 (by omega)
        generalize hsx : sizeV x = sx at *
        have HSX := Lib.hid hsx
        clear hsx
        by_cases hz : (zn : Int) + 1 < sx
        · have HS := Lib.hid (nextFrom_yes (out := cur) HX.out HY.out (by rw [HZ.out, HSX.out]; exact hz))
          have hcall := HN1.out (zn + 1) (by omega)
          have hfn := HFN.out (zn + 1) (by omega)
          rw [show ((zn + 1 : Nat) : Int) = (zn : Int) + 1 by omega] at hcall hfn
          rw [HZ.out] at HS
          generalize nthV x ((zn : Int) + 1) = nv at *
          unfold valV at hcall
          have HCL := Lib.hid hcall
          clear HN1 HN0 hcall
          go_wp2_with fail
          refine HCL.out.mono ?_
          rintro e w7 ⟨rfl, hb7⟩
          have hcur7 : OwnV w7 w3.heap.size (.slice (some ⟨g, 0, none⟩) cur.length cap) cur := by rw [hcl]; exact hcur6.now hb7
          obtain ⟨cx, f0, f1, f2, z0, z1, z2⟩ := OwnV.cells hcur7 (k := j) (by omega)
          go_wp2_with fail
          go_ret3
          rw [HE.out, ← HN.out, HS.out]
          have hb37 : Below w3.heap.size w3 w7 := hbr.trans ((bthen hb56 hb7).mono hbr.size)
          refine ⟨.slice (some ⟨g, 0, none⟩) l.length cap, rfl, ?_, bthen hbw3 (bput3 hb37 hgb _ _ _ _ _ _)⟩
          have := (OwnV.set_ hcur7 (k := j) (by omega) nv).sl (fits_set HCF.out j hfn)
          rw [hcl] at this
          exact this
        · have HS := Lib.hid (nextFrom_no (out := cur) HX.out HY.out (by rw [HZ.out, HSX.out]; exact hz))
          have hfn := HFN.out 0 (by omega)
          rw [show ((0 : Nat) : Int) = 0 from rfl] at HN0 hfn
          generalize nthV x 0 = nv at *
          unfold valV at HN0
          have HCL := Lib.hid HN0
          clear HN1 HN0
          go_wp2_with fail
          refine HCL.out.mono ?_
          rintro e w7 ⟨rfl, hb7⟩
          have hcur7 : OwnV w7 w3.heap.size (.slice (some ⟨g, 0, none⟩) cur.length cap) cur := by rw [hcl]; exact hcur6.now hb7
          obtain ⟨cx, f0, f1, f2, z0, z1, z2⟩ := OwnV.cells hcur7 (k := j) (by omega)
          go_wp2_with fail
          have hb37 : Below w3.heap.size w3 w7 := hbr.trans ((bthen hb56 hb7).mono hbr.size)
          go_roundw
          case rel =>
            refine ⟨j, cur.set j nv, by omega, rfl, ?_, by rw [List.length_set]; exact hcl, fits_set HCF.out j hfn, by rw [← HS.out]; exact HN.out, bput3 hb37 hgb _ _ _ _ _ _⟩
            have := OwnV.set_ hcur7 (k := j) (by omega) nv
            rw [hcl] at this
            exact this
          case measure => simp [intOf]
end Go.Proofs.YtchfmjociflgfaaGreatDoor
