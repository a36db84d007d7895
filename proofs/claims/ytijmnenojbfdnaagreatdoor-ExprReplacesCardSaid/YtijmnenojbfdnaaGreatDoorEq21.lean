/- Texts of this seat, merged. -/
import Derived.Test.YtijmnenojbfdnaaGreatDoorEq01
import Derived.Test.YtijmnenojbfdnaaGreatDoorEq02
import Derived.Test.YtijmnenojbfdnaaGreatDoorEq03
import Derived.Test.YtijmnenojbfdnaaGreatDoorEq04
import Derived.Test.YtijmnenojbfdnaaGreatDoorEq05
import Derived.Test.YtijmnenojbfdnaaGreatDoorEq06
import Derived.Test.YtijmnenojbfdnaaGreatDoorEq07
import Derived.Test.YtijmnenojbfdnaaGreatDoorEq08
import Derived.Test.YtijmnenojbfdnaaGreatDoorEq09
import Derived.Test.YtijmnenojbfdnaaGreatDoorEq10
import Derived.Test.YtijmnenojbfdnaaGreatDoorEq11
import Derived.Test.YtijmnenojbfdnaaGreatDoorEq12
import Derived.Test.YtijmnenojbfdnaaGreatDoorEq13
import Derived.Test.YtijmnenojbfdnaaGreatDoorEq14
import Derived.Test.YtijmnenojbfdnaaGreatDoorEq15
import Derived.Test.YtijmnenojbfdnaaGreatDoorEq16
import Derived.Test.YtijmnenojbfdnaaGreatDoorEq17
import Derived.Test.YtijmnenojbfdnaaGreatDoorEq18
import Derived.Test.YtijmnenojbfdnaaGreatDoorEq19
import Derived.Test.YtijmnenojbfdnaaGreatDoorEq20
set_option linter.unusedSimpArgs false
set_option linter.unusedVariables false
namespace Go.Proofs.YtijmnenojbfdnaaGreatDoor
open Go.RowKit
theorem empty_list : emptyS.toList = [] := by rw [Lib.toList_data]; rfl
theorem noS_empty : noS emptyS = true := by unfold noS; rw [empty_list]; rfl
theorem nth_valid {x : Var} (h : varB x = true) {n : Nat} (hn : (n : Int) < sizeV x) : validV (nthV x n) = true := by
  have ht := tame_of h
  have hf : formB x = true := by unfold varB at h; simp only [Bool.and_eq_true] at h; exact h.2
  obtain ⟨nm, k, lo, hi, its⟩ := x
  obtain ⟨_, _, ld, lk, li⟩ := ht
  dsimp only at ld lk li
  rcases lk with rfl | rfl | rfl
  · have hn2 : (n : Int) < 2 := hn
    have : (n : Int) = 0 ∨ (n : Int) = 1 := by omega
    show (decide ((n : Int) = 0 ∨ (n : Int) = 1) && noS emptyS) = true
    rw [decide_eq_true this, noS_empty]; rfl
  · have hn2 : (n : Int) < hi - lo + 1 := hn
    rw [form2] at hf
    simp only [Bool.and_eq_true, decide_eq_true_eq] at hf
    have b1 := num_bounds hf.1.1
    have b2 := num_bounds hf.1.2
    show (numB ((n : Int) + lo) && noS emptyS) = true
    rw [numB_yes (by omega) (by omega), noS_empty]; rfl
  · have hn2 : (n : Int) < (its.length : Int) := hn
    rw [form3] at hf
    simp only [Bool.and_eq_true, decide_eq_true_eq] at hf
    have hlt : n < its.length := by omega
    show (decide ((0 : Int) = 0) && textB (its.getD (n : Int).toNat emptyS)) = true
    rw [Int.toNat_natCast, List.getD_eq_getElem?_getD, List.getElem?_eq_getElem hlt]
    simp only [decide_true, Bool.true_and, Option.getD_some]
    exact List.all_eq_true.1 hf.1.2 _ (List.getElem_mem hlt)
theorem atS_self {its : List ByteArray} (h : onceB (bytesOf its) = true) {n : Nat} (hn : n < its.length) : atS its its[n] = n := by
  unfold onceB at h
  have hnd : (bytesOf its).Nodup := by simpa using h
  refine atS_hit its its[n] n its[n] (List.getElem?_eq_getElem hn) (by simp [sameS]) (fun q z hq hz => ?_)
  rw [Bool.eq_false_iff]
  intro hs
  rw [sameS_iff] at hs
  have hq' : q < its.length := by omega
  rw [List.getElem?_eq_getElem hq'] at hz
  injection hz with hz
  unfold List.Nodup at hnd
  rw [List.pairwise_iff_getElem] at hnd
  refine hnd q n (by simpa [bytesOf] using hq') (by simpa [bytesOf] using hn) hq ?_
  simp only [bytesOf, List.getElem_map]
  rw [hz, hs]
theorem place_nth {x : Var} (h : varB x = true) {n : Nat} (hn : (n : Int) < sizeV x) : placeV x (nthV x n) = n := by
  have ht := tame_of h
  have hf : formB x = true := by unfold varB at h; simp only [Bool.and_eq_true] at h; exact h.2
  obtain ⟨nm, k, lo, hi, its⟩ := x
  obtain ⟨_, _, ld, lk, li⟩ := ht
  dsimp only at ld lk li
  rcases lk with rfl | rfl | rfl
  · rfl
  · have hn2 : (n : Int) < hi - lo + 1 := hn
    show (if (n : Int) + lo < lo ∨ hi < (n : Int) + lo then (-1 : Int) else (n : Int) + lo - lo) = n
    rw [if_neg (by omega)]; omega
  · have hn2 : (n : Int) < (its.length : Int) := hn
    rw [form3] at hf
    simp only [Bool.and_eq_true, decide_eq_true_eq] at hf
    have hlt : n < its.length := by omega
    show atS its (its.getD (n : Int).toNat emptyS) = n
    rw [Int.toNat_natCast, List.getD_eq_getElem?_getD, List.getElem?_eq_getElem hlt]
    simp only [Option.getD_some]
    exact atS_self hf.2 hlt
end Go.Proofs.YtijmnenojbfdnaaGreatDoor

namespace Go.Proofs.YtijmnenojbfdnaaGreatDoor
open Go.RowKit
def RetVBE (vs : List Val) (b : Bool) (z : Int) (w : World) (e : Ending) (w' : World) : Prop := ∃ v, e = .returned (.tuple #[v, .bool b, .int .i64 z]) ∧ SlV (Lt w'.heap.size) w' v vs ∧ Below w.heap.size w w'
def RetVB (vs : List Val) (b : Bool) (w : World) (e : Ending) (w' : World) : Prop := ∃ v, e = .returned (.tuple #[v, .bool b]) ∧ SlV (Lt w'.heap.size) w' v vs ∧ Below w.heap.size w w'
theorem fits_set {vs : List Val} (h : ∀ x ∈ vs, FitV x) (k : Nat) {y : Val} (hy : FitV y) : ∀ x ∈ vs.set k y, FitV x := by
  intro x hx
  rcases List.mem_or_eq_of_mem_set hx with hx | rfl
  · exact h x hx
  · exact hy
set_option maxHeartbeats 2000000 in
set_option maxRecDepth 100000 in
theorem nextE_any (l : List Var) (vs : List Val) (u v : Value) (w : World) (h : SlX (Lt w.heap.size) w u l) (hv : SlV (Lt w.heap.size) w v vs) (hl : l.length ≤ 1000000) :
    Calls Tryz.prog 107 #[u, v] w (RetVBE (nextE l vs).1 (nextE l vs).2.1 (nextE l vs).2.2 w) := by
  have hit := vars_items h
  have HIT := Lib.hid hit
  have HFV := Lib.hid hv.fits
  clear hit
  obtain ⟨A, c, rfl, h1, h2, ht⟩ := h.open_
  obtain ⟨Av, cv, rfl, h1v, h2v, htv⟩ := hv.open_
  clear h hv
  go_enter Tryz.func107, Tryz.ntmps107
  go_wp2_with fail
  refine (validVs_any l vs _ _ _ ht htv hl).mono ?_
  rintro e w2 ⟨rfl, hb2⟩
  generalize hq : okB l vs = q
  have HQ := Lib.hid hq
  clear hq
  cases q
  · have HE : Hid (nextE l vs = ([], false, 1)) := by show _ = _; unfold nextE; rw [HQ.out]; rfl
    go_wp2_with fail
    go_ret3
    rw [HE.out]
    exact ⟨_, rfl, Sl.none_, hb2⟩
  obtain ⟨hvs, hvv⟩ := ok_vars HQ.out
  have HV := Lib.hid hvs
  have HVV := Lib.hid hvv
  have h8 := vars_len hvs
  clear hvs hvv
  by_cases hlen : vs.length = l.length
  rotate_left
  · have HE : Hid (nextE l vs = ([], false, 29)) := by show _ = _; unfold nextE; rw [HQ.out, if_pos rfl, if_pos hlen]
    have h3 : ((vs.length : Int) != (l.length : Int)) = true := by simp; omega
    clear hlen
    go_wp2_with fail
    go_ret3
    rw [HE.out]
    exact ⟨_, rfl, Sl.none_, hb2⟩
  have HE1 : Hid (nextE l vs = if assignedB l vs then ((nextV l vs).1, (nextV l vs).2, 0) else ([], false, 11)) := by show _ = _; unfold nextE; rw [HQ.out, if_pos rfl, if_neg (by simpa using hlen)]
  rw [hlen] at htv h1v
  rw [hlen]
  have HL := Lib.hid hlen
  clear hlen
  have h3 : ((l.length : Int) != (l.length : Int)) = false := by simp
  go_wp2_with fail
  refine (assigned_any l vs _ _ _ (ht.now hb2) (htv.now hb2) HV.out).mono ?_
  rintro e w3 ⟨rfl, hb3⟩
  have hbw3 := bthen hb2 hb3
  generalize hq : assignedB l vs = q
  have HA := Lib.hid hq
  clear hq
  cases q
  · have HE : Hid (nextE l vs = ([], false, 11)) := by show _ = _; rw [HE1.out, HA.out]; rfl
    go_wp2_with fail
    go_ret3
    rw [HE.out]
    exact ⟨_, rfl, Sl.none_, hbw3⟩
  have HE : Hid (nextE l vs = ((nextV l vs).1, (nextV l vs).2, 0)) := by show _ = _; rw [HE1.out, HA.out]; rfl
  clear HE1
  go_wp2_with fail
  refine (cloneV _ vs _ (htv.now hbw3) (by have := HL.out; omega)).mono ?_
  rintro e w4 ⟨ov, rfl, hown, hb4⟩
  have hbw4 := bthen hbw3 hb4
  have ht4 := ht.now hbw4
  have htv4 := htv.now hbw4
  have hbase : w3.heap.size ≤ w4.heap.size := hb4.size
  have HNV : Hid (nextFrom l vs l.length vs = nextV l vs) := rfl
  have hB0 : Below w3.heap.size w3 w4 := hb4
  go_wp2_with fail
  go_loopw [8] (fun i wr => ∃ (k : Nat) (cur : List Val), k ≤ l.length ∧ i = .int .i64 ((k : Int) - 1) ∧ OwnV wr w3.heap.size ov cur ∧ cur.length = l.length ∧ (∀ x ∈ cur, FitV x) ∧ nextFrom l vs k cur = nextV l vs ∧ Below w3.heap.size w3 wr) (fun i _ => (intOf i + 1).toNat)
  case atStart => exact ⟨l.length, vs, Nat.le_refl _, rfl, hown, HL.out, HFV.out, rfl, hb4⟩
  case round =>
    obtain ⟨k, cur, hk, rfl, hcur, hcl, hcf, hnx, hbr⟩ := hrel
    have HN := Lib.hid hnx
    have HCF := Lib.hid hcf
    clear hnx hcf
    have hbwr : Below w.heap.size w wr := bthen hbw3 hbr
    cases k with
    | zero =>
      have HN0 : Hid (nextV l vs = ([], false)) := by rw [← HN.out]; exact (rfl : _ = _)
      go_wp2_with fail
      go_ret3
      rw [HE.out, HN0.out]
      exact ⟨_, rfl, Sl.none_, hbwr⟩
    | succ j =>
      rw [show ((j + 1 : Nat) : Int) - 1 = (j : Int) by omega]
      obtain ⟨g, cap, hov, hgc, hgb, hgl⟩ := OwnW.form hcur (by omega)
      rw [hcl] at hov hgc
      subst hov
      obtain ⟨b, o, x, iv, rfl, hD, hx, hvar, hiv, c0, c1, c2, c3, c4⟩ := (ht.now hbwr).at_ (k := j) (by omega)
      obtain ⟨bv, ovv, y, rfl, hDv, hy, hfy, d0, d1, d2⟩ := (htv.now hbwr).at_ (k := j) (by omega)
      have HX := Lib.hid hx
      have HY := Lib.hid hy
      have htm := tame_of (vars_each HV.out hx)
      have hpl := (assigned_at HA.out).2 j x y (by omega) hx hy
      have hpb := place_lt htm (HVV.out y (List.mem_of_getElem? hy))
      have hsz := sizeV_le htm
      have hs1 := size_pos htm
      have hitx := HIT.out x (List.mem_of_getElem? hx)
      have HFN := Lib.hid (fun (i : Nat) (hi : (i : Int) < sizeV x) => fit_nth htm hi hitx)
      clear hx hy hitx
      have HC := Lib.hid (place_any x y _ wr.drew (hvar.now (Below.refl _ _).drew) htm hfy)
      unfold valV at HC
      have i1 : (0 : Int) ≤ j := by omega
      have i3 : (j : Int) < (l.length : Int) := by omega
      have i4 : (j : Int) < (cur.length : Int) := by omega
      obtain ⟨zn, hzn⟩ := Int.eq_ofNat_of_zero_le hpl
      have HZ := Lib.hid hzn
      rw [hzn] at HC hpb
      clear hpl hzn
      have HSZ := Lib.hid (rfl : sizeV x = sizeV x)
      go_wp2_with fail
      go_region_with (go_at_call 111; refine HC.out.mono ?_; rintro e w5 ⟨rfl, hb5⟩)
      all_goals
        have hb5' : Below wr.heap.size wr w5 := below_drew_left hb5
        obtain ⟨e0, e1, e2, e3, e4⟩ := carry5 hb5' hD c0 c1 c2 c3 c4
        have hvar5 := hvar.now hb5'
        have hcur5 := hcur.now hb5'
        clear c0 c1 c2 c3 c4 d0 d1 d2
        go_wp2_with fail
        refine (size_any x _ _ hvar5 htm).mono ?_
        rintro e w6 ⟨rfl, hb6⟩
        have hb56 := bthen hb5' hb6
        obtain ⟨r0, r1, r2, r3, r4⟩ := carry5 hb6 (Nat.lt_of_lt_of_le hD hb5'.size) e0 e1 e2 e3 e4
        clear e0 e1 e2 e3 e4
        have hvar6 := hvar5.now hb6
        have hcur6 := hcur5.now hb6
        have HN1 := Lib.hid (fun (n : Nat) (hn : (n : Int) < sizeV x) => nth_any x n _ w6 hvar6 htm hn)
        have HN0 := HN1.out 0 (by omega)
        generalize hsx : sizeV x = sx at *
        have HSX := Lib.hid hsx
        clear hsx
        by_cases hz : (zn : Int) + 1 < sx
        · have HS := Lib.hid (nextFrom_yes (out := cur) HX.out HY.out (by rw [HZ.out, HSX.out]; exact hz))
          have hcall := HN1.out (zn + 1) (by omega)
          have hfn := HFN.out (zn + 1) (by omega)
          rw [show ((zn + 1 : Nat) : Int) = (zn : Int) + 1 by omega] at hcall hfn
          rw [HZ.out] at HS
          generalize nthV x ((zn : Int) + 1) = nv at *
          unfold valV at hcall
          have HCL := Lib.hid hcall
          clear HN1 HN0 hcall
          go_wp2_with fail
          refine HCL.out.mono ?_
          rintro e w7 ⟨rfl, hb7⟩
          have hcur7 : OwnV w7 w3.heap.size (.slice (some ⟨g, 0, none⟩) cur.length cap) cur := by rw [hcl]; exact hcur6.now hb7
          obtain ⟨cx, f0, f1, f2, z0, z1, z2⟩ := OwnV.cells hcur7 (k := j) (by omega)
          go_wp2_with fail
          go_ret3
          rw [HE.out, ← HN.out, HS.out]
          have hb37 : Below w3.heap.size w3 w7 := hbr.trans ((bthen hb56 hb7).mono hbr.size)
          refine ⟨.slice (some ⟨g, 0, none⟩) l.length cap, rfl, ?_, bthen hbw3 (bput3 hb37 hgb _ _ _ _ _ _)⟩
          have := (OwnV.set_ hcur7 (k := j) (by omega) nv).sl (fits_set HCF.out j hfn)
          rw [hcl] at this
          exact this
        · have HS := Lib.hid (nextFrom_no (out := cur) HX.out HY.out (by rw [HZ.out, HSX.out]; exact hz))
          have hfn := HFN.out 0 (by omega)
          rw [show ((0 : Nat) : Int) = 0 from rfl] at HN0 hfn
          generalize nthV x 0 = nv at *
          unfold valV at HN0
          have HCL := Lib.hid HN0
          clear HN1 HN0
          go_wp2_with fail
          refine HCL.out.mono ?_
          rintro e w7 ⟨rfl, hb7⟩
          have hcur7 : OwnV w7 w3.heap.size (.slice (some ⟨g, 0, none⟩) cur.length cap) cur := by rw [hcl]; exact hcur6.now hb7
          obtain ⟨cx, f0, f1, f2, z0, z1, z2⟩ := OwnV.cells hcur7 (k := j) (by omega)
          go_wp2_with fail
          have hb37 : Below w3.heap.size w3 w7 := hbr.trans ((bthen hb56 hb7).mono hbr.size)
          go_roundw
          case rel =>
            refine ⟨j, cur.set j nv, by omega, rfl, ?_, by rw [List.length_set]; exact hcl, fits_set HCF.out j hfn, by rw [← HS.out]; exact HN.out, bput3 hb37 hgb _ _ _ _ _ _⟩
            have := OwnV.set_ hcur7 (k := j) (by omega) nv
            rw [hcl] at this
            exact this
          case measure => simp [intOf]
end Go.Proofs.YtijmnenojbfdnaaGreatDoor

namespace Go.Proofs.YtijmnenojbfdnaaGreatDoor
open Go.RowKit
def prodL : List Var → Nat
  | [] => 1
  | x :: l => (sizeV x).toNat * prodL l
def numL : List Var → List Val → Nat
  | x :: l, v :: vs => (placeV x v).toNat * prodL l + numL l vs
  | _, _ => 0
structure Good (l : List Var) (vs : List Val) : Prop where
  vars : varsB l = true
  len : vs.length = l.length
  each : ∀ (i : Nat) x v, l[i]? = some x → vs[i]? = some v → validV v = true ∧ 0 ≤ placeV x v
theorem Good.asg {l : List Var} {vs : List Val} (h : Good l vs) : Asg l vs := ⟨h.len, fun i x v hx hv => by
  obtain ⟨h1, h2⟩ := h.each i x v hx hv
  refine ⟨?_, h1⟩
  rcases Classical.em (v.kind = x.kind) with e | e
  · exact e
  · have : placeV x v = -1 := if_pos e
    omega⟩
theorem Good.ok {l : List Var} {vs : List Val} (h : Good l vs) : okB l vs = true := by
  unfold okB
  rw [h.vars, Bool.true_and, List.all_eq_true]
  intro v hv
  obtain ⟨i, hi, rfl⟩ := List.mem_iff_getElem.1 hv
  have hi' : i < l.length := by rw [← h.len]; exact hi
  exact (h.each i l[i] _ (List.getElem?_eq_getElem hi') (List.getElem?_eq_getElem hi)).1
theorem Good.assigned {l : List Var} {vs : List Val} (h : Good l vs) : assignedB l vs = true :=
  assigned_yes h.len fun j x v _ hx hv => (h.each j x v hx hv).2
theorem Good.next {l : List Var} {vs : List Val} (h : Good l vs) : nextE l vs = ((nextV l vs).1, (nextV l vs).2, 0) := by
  unfold nextE
  rw [h.ok, if_pos rfl, if_neg (by rw [h.len]; simp), if_pos h.assigned]
theorem Good.in_ {l : List Var} {vs : List Val} (h : Good l vs) : inAllE l vs = (true, 0) := by
  unfold inAllE
  rw [h.ok, if_pos rfl, h.assigned]
theorem varB_of {l : List Var} (h : varsB l = true) {x : Var} (hx : x ∈ l) : varB x = true := by
  obtain ⟨i, hi, rfl⟩ := List.mem_iff_getElem.1 hx
  exact vars_each h (List.getElem?_eq_getElem hi)
theorem prod_pos {l : List Var} (h : ∀ x ∈ l, varB x = true) : 0 < prodL l := by
  induction l with
  | nil => exact Nat.one_pos
  | cons x l ih =>
    have := size_pos (tame_of (h x (by simp)))
    exact Nat.mul_pos (by omega) (ih fun y hy => h y (by simp [hy]))
theorem first_good {l : List Var} (h : varsB l = true) : Good l (firstV l) := by
  refine ⟨h, by unfold firstV; rw [List.length_map], fun i x v hx hv => ?_⟩
  unfold firstV at hv
  rw [List.getElem?_map, hx] at hv
  injection hv with hv
  subst hv
  have hv := vars_each h hx
  have hp := size_pos (tame_of hv)
  refine ⟨nth_valid hv (n := 0) (by omega), ?_⟩
  have := place_nth hv (n := 0) (by omega)
  show 0 ≤ placeV x (nthV x ((0 : Nat) : Int))
  omega
theorem num_lt {l : List Var} : ∀ {vs : List Val}, (∀ x ∈ l, varB x = true) → vs.length = l.length → (∀ (i : Nat) x v, l[i]? = some x → vs[i]? = some v → validV v = true ∧ 0 ≤ placeV x v) → numL l vs < prodL l := by
  induction l with
  | nil => intro vs _ _ _; show 0 < 1; omega
  | cons x l ih =>
    intro vs h hl he
    match vs, hl with
    | v :: vs, hl =>
      have h1 := ih (vs := vs) (fun y hy => h y (by simp [hy])) (by simpa using hl) (fun i x v hx hv => he (i + 1) x v (by simpa using hx) (by simpa using hv))
      obtain ⟨h2, h3⟩ := he 0 x v rfl rfl
      have h4 := (place_lt (tame_of (h x (by simp))) h2).2
      show (placeV x v).toNat * prodL l + numL l vs < (sizeV x).toNat * prodL l
      have h5 : (placeV x v).toNat + 1 ≤ (sizeV x).toNat := by omega
      have := Nat.mul_le_mul_right (prodL l) h5
      rw [Nat.add_mul, Nat.one_mul] at this
      omega
theorem Good.lt {l : List Var} {vs : List Val} (h : Good l vs) : numL l vs < prodL l := num_lt (fun _ hx => varB_of h.vars hx) h.len h.each
theorem num_set {l : List Var} : ∀ {vs : List Val} {i : Nat} {x : Var} {v : Val} (y : Val), l[i]? = some x → vs[i]? = some v → vs.length = l.length →
    numL l (vs.set i y) + (placeV x v).toNat * prodL (l.drop (i + 1)) = numL l vs + (placeV x y).toNat * prodL (l.drop (i + 1)) := by
  induction l with
  | nil => intro vs i x v y hx; simp at hx
  | cons a l ih =>
    intro vs i x v y hx hv hl
    match vs, hl, i, hx, hv with
    | b :: vs, hl, 0, hx, hv =>
      injection hx with hx; injection hv with hv
      subst hx hv
      show (placeV a y).toNat * prodL l + numL l vs + (placeV a b).toNat * prodL l = (placeV a b).toNat * prodL l + numL l vs + (placeV a y).toNat * prodL l
      omega
    | b :: vs, hl, i + 1, hx, hv =>
      have := ih (vs := vs) (i := i) y (by simpa using hx) (by simpa using hv) (by simpa using hl)
      show (placeV a b).toNat * prodL l + numL l (vs.set i y) + (placeV x v).toNat * prodL (l.drop (i + 1)) = (placeV a b).toNat * prodL l + numL l vs + (placeV x y).toNat * prodL (l.drop (i + 1))
      omega
theorem next_num {l : List Var} {vs : List Val} (h : Good l vs) : ∀ (i : Nat) (out : List Val), i ≤ l.length → Good l out → out.take i = vs.take i → numL l vs = numL l out + prodL (l.drop i) - 1 →
    (nextFrom l vs i out).2 = true → Good l (nextFrom l vs i out).1 ∧ numL l (nextFrom l vs i out).1 = numL l vs + 1 := by
  intro i
  induction i with
  | zero => intro out _ _ _ _ h; cases h
  | succ i ih =>
    intro out hi ho ht hn hr
    have hil : i < l.length := by omega
    have hiv : i < vs.length := by rw [h.len]; exact hil
    have hio : i < out.length := by rw [ho.len]; exact hil
    have hx := List.getElem?_eq_getElem hil
    have hv := List.getElem?_eq_getElem hiv
    have hgo : out[i]? = some vs[i] := by
      have := congrArg (fun l => l[i]?) ht
      simp only [List.getElem?_take, Nat.lt_succ_self, if_pos] at this
      rw [this, hv]
    obtain ⟨hv1, hv2⟩ := h.each i _ _ hx hv
    have hvb := vars_each h.vars hx
    have hlt := (place_lt (tame_of hvb) hv1).2
    have hdrop : prodL (l.drop i) = (sizeV l[i]).toNat * prodL (l.drop (i + 1)) := by rw [List.drop_eq_getElem_cons hil]; rfl
    have hpp : 0 < prodL (l.drop (i + 1)) := prod_pos fun y hy => varB_of h.vars (List.mem_of_mem_drop hy)
    have setGood : ∀ y, validV y = true → 0 ≤ placeV l[i] y → Good l (out.set i y) := fun y h1 h2 => ⟨h.vars, by rw [List.length_set]; exact ho.len, fun j x v hjx hjv => by
      rw [List.getElem?_set] at hjv
      by_cases e : i = j
      · subst e
        rw [if_pos rfl, if_pos hio] at hjv
        injection hjv with hjv; subst hjv
        rw [hx] at hjx; injection hjx with hjx; subst hjx
        exact ⟨h1, h2⟩
      · rw [if_neg e] at hjv
        exact ho.each j x v hjx hjv⟩
    by_cases hc : placeV l[i] vs[i] + 1 < sizeV l[i]
    · rw [nextFrom_yes hx hv hc] at hr ⊢
      obtain ⟨p, hp⟩ := Int.eq_ofNat_of_zero_le hv2
      have hp1 := place_nth hvb (n := p + 1) (by omega)
      have hg := setGood (nthV l[i] (placeV l[i] vs[i] + 1)) (by rw [hp]; exact nth_valid hvb (n := p + 1) (by omega)) (by rw [hp]; show 0 ≤ placeV _ (nthV _ ((p + 1 : Nat) : Int)); omega)
      refine ⟨hg, ?_⟩
      have := num_set (nthV l[i] (placeV l[i] vs[i] + 1)) hx hgo ho.len
      rw [hp] at this ⊢
      rw [show (p : Int) + 1 = ((p + 1 : Nat) : Int) from rfl] at this ⊢
      rw [hp1] at this
      simp only [Int.toNat_natCast] at this
      rw [Nat.add_mul] at this
      show numL l (out.set i (nthV l[i] ((p + 1 : Nat) : Int))) = _
      omega
    · rw [nextFrom_no hx hv hc] at hr ⊢
      have hsz := size_pos (tame_of hvb)
      have hp0 := place_nth hvb (n := 0) (by omega)
      have hg := setGood (nthV l[i] 0) (nth_valid hvb (n := 0) (by omega)) (by show 0 ≤ placeV _ (nthV _ ((0 : Nat) : Int)); omega)
      refine ih _ (by omega) hg ?_ ?_ hr
      · rw [List.take_set_of_le (Nat.le_refl _)]
        have := congrArg (fun l => l.take i) ht
        simp only [List.take_take] at this
        rw [Nat.min_eq_left (by omega)] at this
        exact this
      · have := num_set (nthV l[i] 0) hx hgo ho.len
        rw [show (0 : Int) = ((0 : Nat) : Int) from rfl, hp0] at this
        simp only [Int.toNat_natCast, Nat.zero_mul, Nat.add_zero] at this
        rw [hdrop]
        have he : (placeV l[i] vs[i]).toNat + 1 = (sizeV l[i]).toNat := by omega
        rw [← he, Nat.add_mul, Nat.one_mul]
        show numL l vs = numL l (out.set i (nthV l[i] ((0 : Nat) : Int))) + _ - 1
        omega
theorem next_good {l : List Var} {vs : List Val} (h : Good l vs) (hn : (nextV l vs).2 = true) : Good l (nextV l vs).1 ∧ numL l (nextV l vs).1 = numL l vs + 1 :=
  next_num h l.length vs (Nat.le_refl _) h rfl (by rw [List.drop_length]; show _ = _ + 1 - 1; omega) hn
def eachL (l : List Var) (q : List Val → Bool) : Nat → List Val → List (List Val)
  | 0, _ => []
  | f + 1, v => v :: if q v && (nextV l v).2 then eachL l q f (nextV l v).1 else []
def asgL (l : List Var) : List (List Val) := eachL l (fun _ => true) (prodL l) (firstV l)
def plentyB (l : List Var) : Bool := decide (10000 < prodL l)
def isM (l : List Var) (x : Ex) (v : List Val) : Bool := match evX l v x with | some a => decide (a.n = 1) | none => false
def modelsE (l : List Var) (x : Ex) : Int × List Val × Int :=
  if (givenE l x).2 ≠ 0 then (0, [], (givenE l x).2)
  else if (givenE l x).1 ≠ 1 then (0, [], 11)
  else if plentyB l then (0, [], 13)
  else ((((asgL l).filter (isM l x)).length : Nat), ((asgL l).filter (isM l x)).head?.getD [], 0)
end Go.Proofs.YtijmnenojbfdnaaGreatDoor

namespace Go.Proofs.YtijmnenojbfdnaaGreatDoor
open Go.RowKit
structure Like1 (vs vs' : List Var) (vals vals' : List Val) (s : ByteArray) : Prop where
  found : findV vs s < 0 ↔ findV vs' s < 0
  kind : ¬ findV vs s < 0 → kindAt vs (findV vs s) = kindAt vs' (findV vs' s)
  val : ¬ findV vs s < 0 → varV vs vals s = varV vs' vals' s
theorem namX_own {x : Ex} (h : x.op = 2) : x.s.data.toList ∈ namX x := by rw [namX_eq, if_pos h]; simp
theorem namX_part {x y : Ex} (hy : y ∈ x.l) {s : Bs} (hs : s ∈ namX y) : s ∈ namX x := by
  rw [namX_eq, List.mem_append]
  right
  have key : ∀ l : List Ex, y ∈ l → s ∈ namL l := by
    intro l
    induction l with
    | nil => intro h; cases h
    | cons a l ih =>
      intro h
      rw [namL_cons, List.mem_append]
      rcases List.mem_cons.1 h with rfl | h
      · exact .inl hs
      · exact .inr (ih h)
  exact key x.l hy
section
variable {vs vs' : List Var} {vals vals' : List Val}
theorem typO_like (x : Ex) (ks : List Int) (h : x.op = 2 → Like1 vs vs' vals vals' x.s) : typO vs x ks = typO vs' x ks := by
  unfold typO
  by_cases h1 : x.op = 1
  · rw [if_pos h1, if_pos h1]
  rw [if_neg h1, if_neg h1]
  by_cases h2 : x.op = 2
  · have hl := h h2
    rw [if_pos h2, if_pos h2]
    by_cases hf : findV vs x.s < 0
    · rw [if_pos hf, if_pos (hl.found.1 hf)]
    · rw [if_neg hf, if_neg (fun e => hf (hl.found.2 e)), hl.kind hf]
  · rw [if_neg h2, if_neg h2]
mutual
theorem typX_like : ∀ (x : Ex), (∀ s, s.data.toList ∈ namX x → Like1 vs vs' vals vals' s) → typX vs x = typX vs' x
  | .mk o v s l, h => by
    have hl := typL_like l (fun y hy s' hs => h s' (namX_part (x := .mk o v s l) hy hs))
    rw [typX, typX, hl, typO_like (vs := vs) (vs' := vs') (vals := vals) (vals' := vals') (.mk o v s l) _ (fun ho => h s (namX_own (x := .mk o v s l) ho))]
theorem typL_like : ∀ (l : List Ex), (∀ y ∈ l, ∀ s, s.data.toList ∈ namX y → Like1 vs vs' vals vals' s) → typL vs l = typL vs' l
  | [], _ => by rw [typL_nil, typL_nil]
  | x :: l, h => by
    rw [typL_cons, typL_cons, typX_like x (h x (by simp)), typL_like l (fun y hy => h y (by simp [hy]))]
end
theorem evO_like (x : Ex) (es : List (Option Val)) (h : x.op = 2 → varV vs vals x.s = varV vs' vals' x.s) : evO vs vals x es = evO vs' vals' x es := by
  unfold evO
  by_cases h1 : x.op = 1
  · rw [if_pos h1, if_pos h1]
  rw [if_neg h1, if_neg h1]
  by_cases h2 : x.op = 2
  · rw [if_pos h2, if_pos h2, h h2]
  · rw [if_neg h2, if_neg h2]
mutual
theorem evX_like : ∀ (x : Ex), (∀ s, s.data.toList ∈ namX x → varV vs vals s = varV vs' vals' s) → evX vs vals x = evX vs' vals' x
  | .mk o v s l, h => by
    have hl := evL_like l (fun y hy s' hs => h s' (namX_part (x := .mk o v s l) hy hs))
    rw [evX, evX, hl, evO_like (.mk o v s l) _ (fun ho => h s (namX_own (x := .mk o v s l) ho))]
theorem evL_like : ∀ (l : List Ex), (∀ y ∈ l, ∀ s, s.data.toList ∈ namX y → varV vs vals s = varV vs' vals' s) → evL vs vals l = evL vs' vals' l
  | [], _ => by rw [evL_eq, evL_eq]; rfl
  | x :: l, h => by
    have h1 := evX_like x (h x (by simp))
    have h2 := evL_like l (fun y hy => h y (by simp [hy]))
    rw [evL_eq, evL_eq] at h2 ⊢
    rw [List.map_cons, List.map_cons, h1, h2]
end
end
def nameEq (s : ByteArray) (x : Var) : Bool := x.name.toList == s.toList
def pickE (vs : List Var) (vals : List Val) (s : ByteArray) : Option (Var × Val) := (vs.zip vals).find? fun p => nameEq s p.1
def selB (L : List ByteArray) (x : Var) : Bool := Lib.containsS L x.name
def ownT (L : List ByteArray) (vs : List Var) (vals : List Val) (k : Nat) : List (Var × Val) := ((vs.zip vals).take k).filter fun p => selB L p.1
def mixT (L : List ByteArray) (vs : List Var) (v w : List Val) : Nat → List Val
  | 0 => w
  | k + 1 => match vs[k]?, v[k]? with
    | some x, some a => if selB L x then (mixT L vs v w k).set k a else mixT L vs v w k
    | _, _ => mixT L vs v w k
theorem evalE_good {vs : List Var} {v : List Val} {x : Ex} (h : Good vs v) (hx : validX x = true) : evalE vs v x = if (typX vs x).2 ≠ 0 then (noV, (typX vs x).2) else (match evX vs v x with | some a => (a, 0) | none => (noV, 6)) := by
  unfold evalE givenE
  rw [hx, h.vars, h.in_]
  by_cases ht : (typX vs x).2 = 0
  · cases evX vs v x <;> simp [ht]
  · simp [ht]
end Go.Proofs.YtijmnenojbfdnaaGreatDoor

namespace Go.Proofs.YtijmnenojbfdnaaGreatDoor
open Go.RowKit
theorem prod_append (a b : List Var) : prodL (a ++ b) = prodL a * prodL b := by
  induction a with
  | nil => show prodL b = 1 * prodL b; omega
  | cons x a ih => show (sizeV x).toNat * prodL (a ++ b) = (sizeV x).toNat * prodL a * prodL b; rw [ih, Nat.mul_assoc]
theorem prod_take {l : List Var} {k : Nat} {x : Var} (h : l[k]? = some x) : prodL (l.take (k + 1)) = prodL (l.take k) * (sizeV x).toNat := by
  rw [List.take_add_one, h, prod_append]
  show _ * ((sizeV x).toNat * 1) = _
  rw [Nat.mul_one]
theorem prod_le {l : List Var} (h : ∀ x ∈ l, varB x = true) (k : Nat) : prodL (l.take k) ≤ prodL l := by
  have e : prodL l = prodL (l.take k) * prodL (l.drop k) := by rw [← prod_append, List.take_append_drop]
  rw [e]
  exact Nat.le_mul_of_pos_right _ (prod_pos fun y hy => h y (List.mem_of_mem_drop hy))
theorem size_nat {x : Var} (h : varB x = true) : sizeV x = ((sizeV x).toNat : Int) ∧ 1 ≤ (sizeV x).toNat ∧ (sizeV x).toNat ≤ 1000 := by
  have := size_pos (tame_of h)
  have := sizeV_le (tame_of h)
  omega
theorem sizeE_of {x : Var} (h : varB x = true) : sizeE x = (((sizeV x).toNat : Int), 0) := by
  unfold sizeE
  rw [h, if_pos rfl]
  exact Prod.ext (size_nat h).1 rfl
set_option maxHeartbeats 1000000 in
set_option maxRecDepth 100000 in
theorem plenty_any (l : List Var) (u : Value) (w : World) (h : SlX (Lt w.heap.size) w u l) (hv : varsB l = true) :
    Calls Tryz.prog 61 #[u] w fun e w' => e = .returned (.bool (plentyB l)) ∧ Below w.heap.size w w' := by
  obtain ⟨A, c, rfl, h1, h2, ht⟩ := h.open_
  have HV := Lib.hid hv
  have HP : Hid (plentyB l = decide (10000 < prodL l)) := rfl
  have h8 := vars_len hv
  clear hv
  go_enter Tryz.func61, Tryz.ntmps61
  go_wp2_with fail
  go_loopw [3, 10] (fun n i wr => ∃ j m : Nat, j ≤ l.length ∧ i = .int .i64 (j : Int) ∧ n = .int .i64 (m : Int) ∧ m = prodL (l.take j) ∧ m ≤ 10000 ∧ Below w.heap.size w wr) (fun _ i _ => l.length - (intOf i).toNat)
  case atStart => exact ⟨0, 1, Nat.zero_le _, rfl, rfl, rfl, by omega, Below.refl _ _⟩
  case round =>
    obtain ⟨j, m, hj, rfl, rfl, hm, hm2, hb⟩ := hrel
    have HM := Lib.hid hm
    clear hm
    by_cases hlt : j < l.length
    · obtain ⟨b, o, x, iv, rfl, hD, hx, hvar, hiv, c0, c1, c2, c3, c4⟩ := (ht.now hb).at_ hlt
      have hvx := vars_each HV.out hx
      have HT := Lib.hid (prod_take hx)
      have HL := Lib.hid (prod_le (fun y hy => varB_of HV.out hy) (j + 1))
      have HE := Lib.hid (sizeE_of hvx)
      obtain ⟨_, s1, s2⟩ := size_nat hvx
      generalize (sizeV x).toNat = z at *
      clear hx hvx
      obtain ⟨A2, k2, rfl, g1, g2, hiv⟩ := hiv.open_
      have hb1 := bone wr (.cells #[.string x.name, .int .i64 x.kind, .int .i64 x.low, .int .i64 x.high, .slice A2 x.items.length k2] 68)
      have hB1 := Blk.new wr 68 #[.string x.name, .int .i64 x.kind, .int .i64 x.low, .int .i64 x.high, .slice A2 x.items.length k2]
      have hS := sizeE_any x _ _ (hvar.now hb1)
      rw [HE.out] at hS
      have HS := Lib.hid hS
      clear hS hvar hiv
      have hmz : m * z ≤ 10000000 := Nat.mul_le_mul hm2 s2
      have hmi : ((m * z : Nat) : Int) = (m : Int) * (z : Int) := Int.natCast_mul m z
      have hmul : IntKind.i64.wrap ((m : Int) * (z : Int)) = (m : Int) * (z : Int) := IntWalk.i64_in _ (by omega)
      have hmb : (m : Int) * (z : Int) ≤ 10000000 := by omega
      have hm0 : 0 ≤ (m : Int) * (z : Int) := by omega
      have HMI := Lib.hid hmi
      clear hmi
      obtain ⟨q0, q1, q2, q3, q4⟩ := hB1.c5
      go_wp2_with fail
      (with_reducible refine HS.out.mono ?_)
      rintro e w2 ⟨rfl, hb2⟩
      have hbw2 : Below w.heap.size w w2 := hb.trans ((bthen hb1 hb2).mono hb.size)
      clear HS q0 q1 q2 q3 q4 c0 c1 c2 c3 c4
      by_cases hbig : 10000 < m * z
      · have HR : Hid (plentyB l = true) := by
          show _ = _
          rw [HP.out]
          have := HL.out; rw [HT.out, ← HM.out] at this
          exact decide_eq_true (by omega)
        have hbi : (10000 : Int) < (m : Int) * (z : Int) := by have := HMI.out; omega
        go_wp2_with fail
        go_ret
        exact ⟨ret_bool HR.out.symm, hbw2⟩
      · have hbi : ¬ (10000 : Int) < (m : Int) * (z : Int) := by have := HMI.out; omega
        go_wp2_with fail
        go_roundw
        case rel => exact ⟨j + 1, m * z, by omega, by go_num, by rw [HMI.out], by rw [HT.out, HM.out], by omega, hbw2⟩
        case measure => simp [intOf]; omega
    · have HR : Hid (plentyB l = false) := by
        show _ = _
        have := HM.out
        rw [List.take_of_length_le (by omega)] at this
        rw [HP.out]
        exact decide_eq_false (by omega)
      go_wp2_with fail
      go_ret
      exact ⟨ret_bool HR.out.symm, hb⟩
set_option maxHeartbeats 1000000 in
set_option maxRecDepth 100000 in
theorem assignments_ref (l : List Var) (u : Value) (w : World) (h : SlX (Lt w.heap.size) w u l) (hv : varsB l = true) :
    Calls Tryz.prog 60 #[u] w fun e w' => e = .returned (.int .i64 ((min 10001 (prodL l) : Nat) : Int)) ∧ Below w.heap.size w w' := by
  obtain ⟨A, c, rfl, h1, h2, ht⟩ := h.open_
  have HV := Lib.hid hv
  have h8 := vars_len hv
  clear hv
  go_enter Tryz.func60, Tryz.ntmps60
  go_wp2_with fail
  go_loopw [3, 4] (fun n i wr => ∃ j m : Nat, j ≤ l.length ∧ i = .int .i64 (j : Int) ∧ n = .int .i64 (m : Int) ∧ m = min 10001 (prodL (l.take j)) ∧ Below w.heap.size w wr) (fun _ i _ => l.length - (intOf i).toNat)
  case atStart => exact ⟨0, 1, Nat.zero_le _, rfl, rfl, rfl, Below.refl _ _⟩
  case round =>
    obtain ⟨j, m, hj, rfl, rfl, hm, hb⟩ := hrel
    have hm2 : m ≤ 10001 := by omega
    have HM := Lib.hid hm
    clear hm
    by_cases hlt : j < l.length
    · obtain ⟨b, o, x, iv, rfl, hD, hx, hvar, hiv, c0, c1, c2, c3, c4⟩ := (ht.now hb).at_ hlt
      have hvx := vars_each HV.out hx
      have HT := Lib.hid (prod_take hx)
      obtain ⟨sz, s1, s2⟩ := size_nat hvx
      obtain ⟨A2, k2, rfl, g1, g2, hiv⟩ := hiv.open_
      have hS := size_ref x _ wr hvar (tame_of hvx)
      rw [sz] at hS
      have HS := Lib.hid hS
      have hpos : 1 ≤ prodL (l.take j) := prod_pos fun y hy => varB_of HV.out (List.mem_of_mem_take hy)
      have HPOS := Lib.hid hpos
      generalize (sizeV x).toNat = z at *
      clear hx hvx hS hvar hiv sz hpos
      have hmz : m * z ≤ 10001000 := Nat.mul_le_mul hm2 s2
      have hmi : ((m * z : Nat) : Int) = (m : Int) * (z : Int) := Int.natCast_mul m z
      have hmul : IntKind.i64.wrap ((m : Int) * (z : Int)) = (m : Int) * (z : Int) := IntWalk.i64_in _ (by omega)
      have hmb : (m : Int) * (z : Int) ≤ 10001000 := by omega
      have hm0 : 0 ≤ (m : Int) * (z : Int) := by omega
      have HMI := Lib.hid hmi
      clear hmi
      go_wp2_with fail
      (with_reducible refine HS.out.mono ?_)
      rintro e w2 ⟨rfl, hb2⟩
      have hbw2 := bthen hb hb2
      clear HS c0 c1 c2 c3 c4
      have HR : Hid (min 10001 (m * z) = min 10001 (prodL (l.take (j + 1)))) := by
        show _ = _
        rw [HT.out, HM.out]
        have hp := HPOS.out
        rcases Nat.le_total (prodL (l.take j)) 10001 with h | h
        · rw [Nat.min_eq_right h]
        · rw [Nat.min_eq_left h]
          have h3 := Nat.mul_le_mul h s1
          have h4 := Nat.mul_le_mul (Nat.le_refl 10001) s1
          omega
      by_cases hbig : m * z < 10001
      · have hbi : (m : Int) * (z : Int) < 10001 := by have := HMI.out; omega
        have hbi2 : ¬ (10001 : Int) ≤ (m : Int) * (z : Int) := by omega
        go_wp2_with fail
        go_roundw
        case rel => exact ⟨j + 1, m * z, by omega, by go_num, congrArg (Value.int .i64) (by have := HMI.out; omega), by rw [← HR.out]; omega, hbw2⟩
        case measure => simp [intOf]; omega
      · have hbi : ¬ (m : Int) * (z : Int) < 10001 := by have := HMI.out; omega
        have hbi2 : (10001 : Int) ≤ (m : Int) * (z : Int) := by omega
        go_wp2_with fail
        go_roundw
        case rel => exact ⟨j + 1, 10001, by omega, by go_num, congrArg (Value.int .i64) (by have := HMI.out; omega), by rw [← HR.out]; omega, hbw2⟩
        case measure => simp [intOf]; omega
    · have HR : Hid (m = min 10001 (prodL l)) := by
        show _ = _
        have := HM.out
        rw [List.take_of_length_le (by omega)] at this
        exact this
      go_wp2_with fail
      go_ret
      exact ⟨by rw [← HR.out]; rfl, hb⟩
end Go.Proofs.YtijmnenojbfdnaaGreatDoor
