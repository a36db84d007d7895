/- Texts of this seat, merged. -/
import Derived.Lib.OwnKind
import Derived.Test.YtijmnenojbfdnaaGreatDoorEa01
import Derived.Test.YtijmnenojbfdnaaGreatDoorEa02
import Derived.Test.YtijmnenojbfdnaaGreatDoorEa03
import Derived.Test.YtijmnenojbfdnaaGreatDoorEa04
import Derived.Test.YtijmnenojbfdnaaGreatDoorEa05
import Derived.Test.YtijmnenojbfdnaaGreatDoorEa06
import Derived.Test.YtijmnenojbfdnaaGreatDoorEa07
import Derived.Test.YtijmnenojbfdnaaGreatDoorEa08
import Derived.Test.YtijmnenojbfdnaaGreatDoorEa09
import Derived.Test.YtijmnenojbfdnaaGreatDoorEa10
import Derived.Test.YtijmnenojbfdnaaGreatDoorEa11
import Derived.Test.YtijmnenojbfdnaaGreatDoorEa12
import Derived.Test.YtijmnenojbfdnaaGreatDoorEa13
import Derived.Test.YtijmnenojbfdnaaGreatDoorEa14
import Derived.Test.YtijmnenojbfdnaaGreatDoorEa15
import Derived.Test.YtijmnenojbfdnaaGreatDoorEa16
import Derived.Test.YtijmnenojbfdnaaGreatDoorEa17
import Derived.Test.YtijmnenojbfdnaaGreatDoorEa18
set_option linter.unusedSimpArgs false
set_option linter.unusedVariables false
namespace Go.Proofs.YtijmnenojbfdnaaGreatDoor
open Go.RowKit
theorem empty_list : emptyS.toList = [] := by rw [Lib.toList_data]; rfl
theorem noS_empty : noS emptyS = true := by unfold noS; rw [empty_list]; rfl
theorem bytes_inj2 {a b : ByteArray} (h : a.toList = b.toList) : a = b := by
  rw [Lib.toList_data, Lib.toList_data] at h
  cases a; cases b
  congr 1
  exact Array.toList_inj.1 h
theorem nth_valid {x : Var} (h : varB x = true) {n : Nat} (hn : (n : Int) < sizeV x) : validV (nthV x n) = true := by
  have ht := tame_of h
  have hf : formB x = true := by unfold varB at h; simp only [Bool.and_eq_true] at h; exact h.2
  obtain ⟨nm, k, lo, hi, its⟩ := x
  obtain ⟨_, _, ld, lk, li⟩ := ht
  dsimp only at ld lk li
  rcases lk with rfl | rfl | rfl
  · have hn2 : (n : Int) < 2 := hn
    have : (n : Int) = 0 ∨ (n : Int) = 1 := by omega
    show (decide ((n : Int) = 0 ∨ (n : Int) = 1) && noS emptyS) = true
    rw [decide_eq_true this, noS_empty]; rfl
  · have hn2 : (n : Int) < hi - lo + 1 := hn
    rw [form2] at hf
    simp only [Bool.and_eq_true, decide_eq_true_eq] at hf
    have b1 := num_bounds hf.1.1
    have b2 := num_bounds hf.1.2
    show (numB ((n : Int) + lo) && noS emptyS) = true
    rw [numB_yes (by omega) (by omega), noS_empty]; rfl
  · have hn2 : (n : Int) < (its.length : Int) := hn
    rw [form3] at hf
    simp only [Bool.and_eq_true, decide_eq_true_eq] at hf
    have hlt : n < its.length := by omega
    show (decide ((0 : Int) = 0) && textB (its.getD (n : Int).toNat emptyS)) = true
    rw [Int.toNat_natCast, List.getD_eq_getElem?_getD, List.getElem?_eq_getElem hlt]
    simp only [decide_true, Bool.true_and, Option.getD_some]
    exact List.all_eq_true.1 hf.1.2 _ (List.getElem_mem hlt)
theorem atS_self {its : List ByteArray} (h : onceB (bytesOf its) = true) {n : Nat} (hn : n < its.length) : atS its its[n] = n := by
  unfold onceB at h
  have hnd : (bytesOf its).Nodup := by simpa using h
  refine atS_hit its its[n] n its[n] (List.getElem?_eq_getElem hn) (by simp [sameS]) (fun q z hq hz => ?_)
  rw [Bool.eq_false_iff]
  intro hs
  rw [sameS_iff] at hs
  have hq' : q < its.length := by omega
  rw [List.getElem?_eq_getElem hq'] at hz
  injection hz with hz
  unfold List.Nodup at hnd
  rw [List.pairwise_iff_getElem] at hnd
  refine hnd q n (by simpa [bytesOf] using hq') (by simpa [bytesOf] using hn) hq ?_
  simp only [bytesOf, List.getElem_map]
  rw [hz, hs]
theorem place_nth {x : Var} (h : varB x = true) {n : Nat} (hn : (n : Int) < sizeV x) : placeV x (nthV x n) = n := by
  have ht := tame_of h
  have hf : formB x = true := by unfold varB at h; simp only [Bool.and_eq_true] at h; exact h.2
  obtain ⟨nm, k, lo, hi, its⟩ := x
  obtain ⟨_, _, ld, lk, li⟩ := ht
  dsimp only at ld lk li
  rcases lk with rfl | rfl | rfl
  · rfl
  · have hn2 : (n : Int) < hi - lo + 1 := hn
    show (if (n : Int) + lo < lo ∨ hi < (n : Int) + lo then (-1 : Int) else (n : Int) + lo - lo) = n
    rw [if_neg (by omega)]; omega
  · have hn2 : (n : Int) < (its.length : Int) := hn
    rw [form3] at hf
    simp only [Bool.and_eq_true, decide_eq_true_eq] at hf
    have hlt : n < its.length := by omega
    show atS its (its.getD (n : Int).toNat emptyS) = n
    rw [Int.toNat_natCast, List.getD_eq_getElem?_getD, List.getElem?_eq_getElem hlt]
    simp only [Option.getD_some]
    exact atS_self hf.2 hlt
end Go.Proofs.YtijmnenojbfdnaaGreatDoor

namespace Go.Proofs.YtijmnenojbfdnaaGreatDoor
open Go.RowKit
def RetVBE (vs : List Val) (b : Bool) (z : Int) (w : World) (e : Ending) (w' : World) : Prop := ∃ v, e = .returned (.tuple #[v, .bool b, .int .i64 z]) ∧ SlV (Lt w'.heap.size) w' v vs ∧ Below w.heap.size w w'
def RetVB (vs : List Val) (b : Bool) (w : World) (e : Ending) (w' : World) : Prop := ∃ v, e = .returned (.tuple #[v, .bool b]) ∧ SlV (Lt w'.heap.size) w' v vs ∧ Below w.heap.size w w'
theorem fits_set {vs : List Val} (h : ∀ x ∈ vs, FitV x) (k : Nat) {y : Val} (hy : FitV y) : ∀ x ∈ vs.set k y, FitV x := by
  intro x hx
  rcases List.mem_or_eq_of_mem_set hx with hx | rfl
  · exact h x hx
  · exact hy
set_option maxHeartbeats 2000000 in
set_option maxRecDepth 100000 in
theorem nextE_any (l : List Var) (vs : List Val) (u v : Value) (w : World) (h : SlX (Lt w.heap.size) w u l) (hv : SlV (Lt w.heap.size) w v vs) (hl : l.length ≤ 1000000) :
    Calls Tryz.prog 107 #[u, v] w (RetVBE (nextE l vs).1 (nextE l vs).2.1 (nextE l vs).2.2 w) := by
  have hit := vars_items h
  have HIT := Lib.hid hit
  have HFV := Lib.hid hv.fits
  clear hit
  obtain ⟨A, c, rfl, h1, h2, ht⟩ := h.open_
  obtain ⟨Av, cv, rfl, h1v, h2v, htv⟩ := hv.open_
  clear h hv
  go_enter Tryz.func107, Tryz.ntmps107
  go_wp2_with fail
  refine (validVs_any l vs _ _ _ ht htv hl).mono ?_
  rintro e w2 ⟨rfl, hb2⟩
  generalize hq : okB l vs = q
  have HQ := Lib.hid hq
  clear hq
  cases q
  · have HE : Hid (nextE l vs = ([], false, 1)) := by show _ = _; unfold nextE; rw [HQ.out]; rfl
    go_wp2_with fail
    go_ret3
    rw [HE.out]
    exact ⟨_, rfl, Sl.none_, hb2⟩
  obtain ⟨hvs, hvv⟩ := ok_vars HQ.out
  have HV := Lib.hid hvs
  have HVV := Lib.hid hvv
  have h8 := vars_len hvs
  clear hvs hvv
  by_cases hlen : vs.length = l.length
  rotate_left
  · have HE : Hid (nextE l vs = ([], false, 29)) := by show _ = _; unfold nextE; rw [HQ.out, if_pos rfl, if_pos hlen]
    have h3 : ((vs.length : Int) != (l.length : Int)) = true := by simp; omega
    clear hlen
    go_wp2_with fail
    go_ret3
    rw [HE.out]
    exact ⟨_, rfl, Sl.none_, hb2⟩
  have HE1 : Hid (nextE l vs = if assignedB l vs then ((nextV l vs).1, (nextV l vs).2, 0) else ([], false, 11)) := by show _ = _; unfold nextE; rw [HQ.out, if_pos rfl, if_neg (by simpa using hlen)]
  rw [hlen] at htv h1v
  rw [hlen]
  have HL := Lib.hid hlen
  clear hlen
  have h3 : ((l.length : Int) != (l.length : Int)) = false := by simp
  go_wp2_with fail
  refine (assigned_any l vs _ _ _ (ht.now hb2) (htv.now hb2) HV.out).mono ?_
  rintro e w3 ⟨rfl, hb3⟩
  have hbw3 := bthen hb2 hb3
  generalize hq : assignedB l vs = q
  have HA := Lib.hid hq
  clear hq
  cases q
  · have HE : Hid (nextE l vs = ([], false, 11)) := by show _ = _; rw [HE1.out, HA.out]; rfl
    go_wp2_with fail
    go_ret3
    rw [HE.out]
    exact ⟨_, rfl, Sl.none_, hbw3⟩
  have HE : Hid (nextE l vs = ((nextV l vs).1, (nextV l vs).2, 0)) := by show _ = _; rw [HE1.out, HA.out]; rfl
  clear HE1
  go_wp2_with fail
  refine (cloneV _ vs _ (htv.now hbw3) (by have := HL.out; omega)).mono ?_
  rintro e w4 ⟨ov, rfl, hown, hb4⟩
  have hbw4 := bthen hbw3 hb4
  have ht4 := ht.now hbw4
  have htv4 := htv.now hbw4
  have hbase : w3.heap.size ≤ w4.heap.size := hb4.size
  have HNV : Hid (nextFrom l vs l.length vs = nextV l vs) := rfl
  have hB0 : Below w3.heap.size w3 w4 := hb4
  go_wp2_with fail
  go_loopw [8] (fun i wr => ∃ (k : Nat) (cur : List Val), k ≤ l.length ∧ i = .int .i64 ((k : Int) - 1) ∧ OwnV wr w3.heap.size ov cur ∧ cur.length = l.length ∧ (∀ x ∈ cur, FitV x) ∧ nextFrom l vs k cur = nextV l vs ∧ Below w3.heap.size w3 wr) (fun i _ => (intOf i + 1).toNat)
  case atStart => exact ⟨l.length, vs, Nat.le_refl _, rfl, hown, HL.out, HFV.out, rfl, hb4⟩
  case round =>
    obtain ⟨k, cur, hk, rfl, hcur, hcl, hcf, hnx, hbr⟩ := hrel
    have HN := Lib.hid hnx
    have HCF := Lib.hid hcf
    clear hnx hcf
    have hbwr : Below w.heap.size w wr := bthen hbw3 hbr
    cases k with
    | zero =>
      have HN0 : Hid (nextV l vs = ([], false)) := by rw [← HN.out]; exact (rfl : _ = _)
      go_wp2_with fail
      go_ret3
      rw [HE.out, HN0.out]
      exact ⟨_, rfl, Sl.none_, hbwr⟩
    | succ j =>
      rw [show ((j + 1 : Nat) : Int) - 1 = (j : Int) by omega]
      obtain ⟨g, cap, hov, hgc, hgb, hgl⟩ := OwnW.form hcur (by omega)
      rw [hcl] at hov hgc
      subst hov
      obtain ⟨b, o, x, iv, rfl, hD, hx, hvar, hiv, c0, c1, c2, c3, c4⟩ := (ht.now hbwr).at_ (k := j) (by omega)
      obtain ⟨bv, ovv, y, rfl, hDv, hy, hfy, d0, d1, d2⟩ := (htv.now hbwr).at_ (k := j) (by omega)
      have HX := Lib.hid hx
      have HY := Lib.hid hy
      have htm := tame_of (vars_each HV.out hx)
      have hpl := (assigned_at HA.out).2 j x y (by omega) hx hy
      have hpb := place_lt htm (HVV.out y (List.mem_of_getElem? hy))
      have hsz := sizeV_le htm
      have hs1 := size_pos htm
      have hitx := HIT.out x (List.mem_of_getElem? hx)
      have HFN := Lib.hid (fun (i : Nat) (hi : (i : Int) < sizeV x) => fit_nth htm hi hitx)
      clear hx hy hitx
      have HC := Lib.hid (place_any x y _ wr.drew (hvar.now (Below.refl _ _).drew) htm hfy)
      unfold valV at HC
      have i1 : (0 : Int) ≤ j := by omega
      have i3 : (j : Int) < (l.length : Int) := by omega
      have i4 : (j : Int) < (cur.length : Int) := by omega
      obtain ⟨zn, hzn⟩ := Int.eq_ofNat_of_zero_le hpl
      have HZ := Lib.hid hzn
      rw [hzn] at HC hpb
      clear hpl hzn
      have HSZ := Lib.hid (rfl : sizeV x = sizeV x)
      go_wp2_with fail
      go_region_with (go_at_call 111; refine HC.out.mono ?_; rintro e w5 ⟨rfl, hb5⟩)
      all_goals
        have hb5' : Below wr.heap.size wr w5 := below_drew_left hb5
        obtain ⟨e0, e1, e2, e3, e4⟩ := carry5 hb5' hD c0 c1 c2 c3 c4
        have hvar5 := hvar.now hb5'
        have hcur5 := hcur.now hb5'
        clear c0 c1 c2 c3 c4 d0 d1 d2
        go_wp2_with fail
        refine (size_any x _ _ hvar5 htm).mono ?_
        rintro e w6 ⟨rfl, hb6⟩
        have hb56 := bthen hb5' hb6
        obtain ⟨r0, r1, r2, r3, r4⟩ := carry5 hb6 (Nat.lt_of_lt_of_le hD hb5'.size) e0 e1 e2 e3 e4
        clear e0 e1 e2 e3 e4
        have hvar6 := hvar5.now hb6
        have hcur6 := hcur5.now hb6
        have HN1 := Lib.hid (fun (n : Nat) (hn : (n : Int) < sizeV x) => nth_any x n _ w6 hvar6 htm hn)
        have HN0 := HN1.out 0 (by omega)
        generalize hsx : sizeV x = sx at *
        have HSX := Lib.hid hsx
        clear hsx
        by_cases hz : (zn : Int) + 1 < sx
        · have HS := Lib.hid (nextFrom_yes (out := cur) HX.out HY.out (by rw [HZ.out, HSX.out]; exact hz))
          have hcall := HN1.out (zn + 1) (by omega)
          have hfn := HFN.out (zn + 1) (by omega)
          rw [show ((zn + 1 : Nat) : Int) = (zn : Int) + 1 by omega] at hcall hfn
          rw [HZ.out] at HS
          generalize nthV x ((zn : Int) + 1) = nv at *
          unfold valV at hcall
          have HCL := Lib.hid hcall
          clear HN1 HN0 hcall
          go_wp2_with fail
          refine HCL.out.mono ?_
          rintro e w7 ⟨rfl, hb7⟩
          have hcur7 : OwnV w7 w3.heap.size (.slice (some ⟨g, 0, none⟩) cur.length cap) cur := by rw [hcl]; exact hcur6.now hb7
          obtain ⟨cx, f0, f1, f2, z0, z1, z2⟩ := OwnV.cells hcur7 (k := j) (by omega)
          go_wp2_with fail
          go_ret3
          rw [HE.out, ← HN.out, HS.out]
          have hb37 : Below w3.heap.size w3 w7 := hbr.trans ((bthen hb56 hb7).mono hbr.size)
          refine ⟨.slice (some ⟨g, 0, none⟩) l.length cap, rfl, ?_, bthen hbw3 (bput3 hb37 hgb _ _ _ _ _ _)⟩
          have := (OwnV.set_ hcur7 (k := j) (by omega) nv).sl (fits_set HCF.out j hfn)
          rw [hcl] at this
          exact this
        · have HS := Lib.hid (nextFrom_no (out := cur) HX.out HY.out (by rw [HZ.out, HSX.out]; exact hz))
          have hfn := HFN.out 0 (by omega)
          rw [show ((0 : Nat) : Int) = 0 from rfl] at HN0 hfn
          generalize nthV x 0 = nv at *
          unfold valV at HN0
          have HCL := Lib.hid HN0
          clear HN1 HN0
          go_wp2_with fail
          refine HCL.out.mono ?_
          rintro e w7 ⟨rfl, hb7⟩
          have hcur7 : OwnV w7 w3.heap.size (.slice (some ⟨g, 0, none⟩) cur.length cap) cur := by rw [hcl]; exact hcur6.now hb7
          obtain ⟨cx, f0, f1, f2, z0, z1, z2⟩ := OwnV.cells hcur7 (k := j) (by omega)
          go_wp2_with fail
          have hb37 : Below w3.heap.size w3 w7 := hbr.trans ((bthen hb56 hb7).mono hbr.size)
          go_roundw
          case rel =>
            refine ⟨j, cur.set j nv, by omega, rfl, ?_, by rw [List.length_set]; exact hcl, fits_set HCF.out j hfn, by rw [← HS.out]; exact HN.out, bput3 hb37 hgb _ _ _ _ _ _⟩
            have := OwnV.set_ hcur7 (k := j) (by omega) nv
            rw [hcl] at this
            exact this
          case measure => simp [intOf]
end Go.Proofs.YtijmnenojbfdnaaGreatDoor

namespace Go.Proofs.YtijmnenojbfdnaaGreatDoor
open Go.RowKit
def prodL : List Var → Nat
  | [] => 1
  | x :: l => (sizeV x).toNat * prodL l
def numL : List Var → List Val → Nat
  | x :: l, v :: vs => (placeV x v).toNat * prodL l + numL l vs
  | _, _ => 0
structure Good (l : List Var) (vs : List Val) : Prop where
  vars : varsB l = true
  len : vs.length = l.length
  each : ∀ (i : Nat) x v, l[i]? = some x → vs[i]? = some v → validV v = true ∧ 0 ≤ placeV x v
theorem Good.asg {l : List Var} {vs : List Val} (h : Good l vs) : Asg l vs := ⟨h.len, fun i x v hx hv => by
  obtain ⟨h1, h2⟩ := h.each i x v hx hv
  refine ⟨?_, h1⟩
  rcases Classical.em (v.kind = x.kind) with e | e
  · exact e
  · have : placeV x v = -1 := if_pos e
    omega⟩
theorem Good.ok {l : List Var} {vs : List Val} (h : Good l vs) : okB l vs = true := by
  unfold okB
  rw [h.vars, Bool.true_and, List.all_eq_true]
  intro v hv
  obtain ⟨i, hi, rfl⟩ := List.mem_iff_getElem.1 hv
  have hi' : i < l.length := by rw [← h.len]; exact hi
  exact (h.each i l[i] _ (List.getElem?_eq_getElem hi') (List.getElem?_eq_getElem hi)).1
theorem Good.assigned {l : List Var} {vs : List Val} (h : Good l vs) : assignedB l vs = true :=
  assigned_yes h.len fun j x v _ hx hv => (h.each j x v hx hv).2
theorem Good.next {l : List Var} {vs : List Val} (h : Good l vs) : nextE l vs = ((nextV l vs).1, (nextV l vs).2, 0) := by
  unfold nextE
  rw [h.ok, if_pos rfl, if_neg (by rw [h.len]; simp), if_pos h.assigned]
theorem Good.in_ {l : List Var} {vs : List Val} (h : Good l vs) : inAllE l vs = (true, 0) := by
  unfold inAllE
  rw [h.ok, if_pos rfl, h.assigned]
theorem good_of {l : List Var} {vs : List Val} (h : inAllE l vs = (true, 0)) : Good l vs := by
  unfold inAllE at h
  split at h
  · rename_i hok
    injection h with h _
    obtain ⟨h1, h2⟩ := assigned_at h
    obtain ⟨h3, h4⟩ := ok_vars hok
    exact ⟨h3, h1, fun i x v hx hv => ⟨h4 v (List.mem_of_getElem? hv), h2 i x v (by have := (List.getElem?_eq_some_iff.1 hx).1; exact this) hx hv⟩⟩
  · injection h with _ h; cases h
theorem varB_of {l : List Var} (h : varsB l = true) {x : Var} (hx : x ∈ l) : varB x = true := by
  obtain ⟨i, hi, rfl⟩ := List.mem_iff_getElem.1 hx
  exact vars_each h (List.getElem?_eq_getElem hi)
theorem prod_pos {l : List Var} (h : ∀ x ∈ l, varB x = true) : 0 < prodL l := by
  induction l with
  | nil => exact Nat.one_pos
  | cons x l ih =>
    have := size_pos (tame_of (h x (by simp)))
    exact Nat.mul_pos (by omega) (ih fun y hy => h y (by simp [hy]))
theorem first_good {l : List Var} (h : varsB l = true) : Good l (firstV l) := by
  refine ⟨h, by unfold firstV; rw [List.length_map], fun i x v hx hv => ?_⟩
  unfold firstV at hv
  rw [List.getElem?_map, hx] at hv
  injection hv with hv
  subst hv
  have hv := vars_each h hx
  have hp := size_pos (tame_of hv)
  refine ⟨nth_valid hv (n := 0) (by omega), ?_⟩
  have := place_nth hv (n := 0) (by omega)
  show 0 ≤ placeV x (nthV x ((0 : Nat) : Int))
  omega
theorem num_lt {l : List Var} : ∀ {vs : List Val}, (∀ x ∈ l, varB x = true) → vs.length = l.length → (∀ (i : Nat) x v, l[i]? = some x → vs[i]? = some v → validV v = true ∧ 0 ≤ placeV x v) → numL l vs < prodL l := by
  induction l with
  | nil => intro vs _ _ _; show 0 < 1; omega
  | cons x l ih =>
    intro vs h hl he
    match vs, hl with
    | v :: vs, hl =>
      have h1 := ih (vs := vs) (fun y hy => h y (by simp [hy])) (by simpa using hl) (fun i x v hx hv => he (i + 1) x v (by simpa using hx) (by simpa using hv))
      obtain ⟨h2, h3⟩ := he 0 x v rfl rfl
      have h4 := (place_lt (tame_of (h x (by simp))) h2).2
      show (placeV x v).toNat * prodL l + numL l vs < (sizeV x).toNat * prodL l
      have h5 : (placeV x v).toNat + 1 ≤ (sizeV x).toNat := by omega
      have := Nat.mul_le_mul_right (prodL l) h5
      rw [Nat.add_mul, Nat.one_mul] at this
      omega
theorem Good.lt {l : List Var} {vs : List Val} (h : Good l vs) : numL l vs < prodL l := num_lt (fun _ hx => varB_of h.vars hx) h.len h.each
theorem num_set {l : List Var} : ∀ {vs : List Val} {i : Nat} {x : Var} {v : Val} (y : Val), l[i]? = some x → vs[i]? = some v → vs.length = l.length →
    numL l (vs.set i y) + (placeV x v).toNat * prodL (l.drop (i + 1)) = numL l vs + (placeV x y).toNat * prodL (l.drop (i + 1)) := by
  induction l with
  | nil => intro vs i x v y hx; simp at hx
  | cons a l ih =>
    intro vs i x v y hx hv hl
    match vs, hl, i, hx, hv with
    | b :: vs, hl, 0, hx, hv =>
      injection hx with hx; injection hv with hv
      subst hx hv
      show (placeV a y).toNat * prodL l + numL l vs + (placeV a b).toNat * prodL l = (placeV a b).toNat * prodL l + numL l vs + (placeV a y).toNat * prodL l
      omega
    | b :: vs, hl, i + 1, hx, hv =>
      have := ih (vs := vs) (i := i) y (by simpa using hx) (by simpa using hv) (by simpa using hl)
      show (placeV a b).toNat * prodL l + numL l (vs.set i y) + (placeV x v).toNat * prodL (l.drop (i + 1)) = (placeV a b).toNat * prodL l + numL l vs + (placeV x y).toNat * prodL (l.drop (i + 1))
      omega
theorem next_num {l : List Var} {vs : List Val} (h : Good l vs) : ∀ (i : Nat) (out : List Val), i ≤ l.length → Good l out → out.take i = vs.take i → numL l vs = numL l out + prodL (l.drop i) - 1 →
    (nextFrom l vs i out).2 = true → Good l (nextFrom l vs i out).1 ∧ numL l (nextFrom l vs i out).1 = numL l vs + 1 := by
  intro i
  induction i with
  | zero => intro out _ _ _ _ h; cases h
  | succ i ih =>
    intro out hi ho ht hn hr
    have hil : i < l.length := by omega
    have hiv : i < vs.length := by rw [h.len]; exact hil
    have hio : i < out.length := by rw [ho.len]; exact hil
    have hx := List.getElem?_eq_getElem hil
    have hv := List.getElem?_eq_getElem hiv
    have hgo : out[i]? = some vs[i] := by
      have := congrArg (fun l => l[i]?) ht
      simp only [List.getElem?_take, Nat.lt_succ_self, if_pos] at this
      rw [this, hv]
    obtain ⟨hv1, hv2⟩ := h.each i _ _ hx hv
    have hvb := vars_each h.vars hx
    have hlt := (place_lt (tame_of hvb) hv1).2
    have hdrop : prodL (l.drop i) = (sizeV l[i]).toNat * prodL (l.drop (i + 1)) := by rw [List.drop_eq_getElem_cons hil]; rfl
    have hpp : 0 < prodL (l.drop (i + 1)) := prod_pos fun y hy => varB_of h.vars (List.mem_of_mem_drop hy)
    have setGood : ∀ y, validV y = true → 0 ≤ placeV l[i] y → Good l (out.set i y) := fun y h1 h2 => ⟨h.vars, by rw [List.length_set]; exact ho.len, fun j x v hjx hjv => by
      rw [List.getElem?_set] at hjv
      by_cases e : i = j
      · subst e
        rw [if_pos rfl, if_pos hio] at hjv
        injection hjv with hjv; subst hjv
        rw [hx] at hjx; injection hjx with hjx; subst hjx
        exact ⟨h1, h2⟩
      · rw [if_neg e] at hjv
        exact ho.each j x v hjx hjv⟩
    by_cases hc : placeV l[i] vs[i] + 1 < sizeV l[i]
    · rw [nextFrom_yes hx hv hc] at hr ⊢
      obtain ⟨p, hp⟩ := Int.eq_ofNat_of_zero_le hv2
      have hp1 := place_nth hvb (n := p + 1) (by omega)
      have hg := setGood (nthV l[i] (placeV l[i] vs[i] + 1)) (by rw [hp]; exact nth_valid hvb (n := p + 1) (by omega)) (by rw [hp]; show 0 ≤ placeV _ (nthV _ ((p + 1 : Nat) : Int)); omega)
      refine ⟨hg, ?_⟩
      have := num_set (nthV l[i] (placeV l[i] vs[i] + 1)) hx hgo ho.len
      rw [hp] at this ⊢
      rw [show (p : Int) + 1 = ((p + 1 : Nat) : Int) from rfl] at this ⊢
      rw [hp1] at this
      simp only [Int.toNat_natCast] at this
      rw [Nat.add_mul] at this
      show numL l (out.set i (nthV l[i] ((p + 1 : Nat) : Int))) = _
      omega
    · rw [nextFrom_no hx hv hc] at hr ⊢
      have hsz := size_pos (tame_of hvb)
      have hp0 := place_nth hvb (n := 0) (by omega)
      have hg := setGood (nthV l[i] 0) (nth_valid hvb (n := 0) (by omega)) (by show 0 ≤ placeV _ (nthV _ ((0 : Nat) : Int)); omega)
      refine ih _ (by omega) hg ?_ ?_ hr
      · rw [List.take_set_of_le (Nat.le_refl _)]
        have := congrArg (fun l => l.take i) ht
        simp only [List.take_take] at this
        rw [Nat.min_eq_left (by omega)] at this
        exact this
      · have := num_set (nthV l[i] 0) hx hgo ho.len
        rw [show (0 : Int) = ((0 : Nat) : Int) from rfl, hp0] at this
        simp only [Int.toNat_natCast, Nat.zero_mul, Nat.add_zero] at this
        rw [hdrop]
        have he : (placeV l[i] vs[i]).toNat + 1 = (sizeV l[i]).toNat := by omega
        rw [← he, Nat.add_mul, Nat.one_mul]
        show numL l vs = numL l (out.set i (nthV l[i] ((0 : Nat) : Int))) + _ - 1
        omega
theorem next_good {l : List Var} {vs : List Val} (h : Good l vs) (hn : (nextV l vs).2 = true) : Good l (nextV l vs).1 ∧ numL l (nextV l vs).1 = numL l vs + 1 :=
  next_num h l.length vs (Nat.le_refl _) h rfl (by rw [List.drop_length]; show _ = _ + 1 - 1; omega) hn
def eachL (l : List Var) (q : List Val → Bool) : Nat → List Val → List (List Val)
  | 0, _ => []
  | f + 1, v => v :: if q v && (nextV l v).2 then eachL l q f (nextV l v).1 else []
def asgL (l : List Var) : List (List Val) := eachL l (fun _ => true) (prodL l) (firstV l)
def plentyB (l : List Var) : Bool := decide (10000 < prodL l)
def isM (l : List Var) (x : Ex) (v : List Val) : Bool := match evX l v x with | some a => decide (a.n = 1) | none => false
def modelsE (l : List Var) (x : Ex) : Int × List Val × Int :=
  if (givenE l x).2 ≠ 0 then (0, [], (givenE l x).2)
  else if (givenE l x).1 ≠ 1 then (0, [], 11)
  else if plentyB l then (0, [], 13)
  else ((((asgL l).filter (isM l x)).length : Nat), ((asgL l).filter (isM l x)).head?.getD [], 0)
end Go.Proofs.YtijmnenojbfdnaaGreatDoor

namespace Go.Proofs.YtijmnenojbfdnaaGreatDoor
open Go.RowKit
structure Like1 (vs vs' : List Var) (vals vals' : List Val) (s : ByteArray) : Prop where
  found : findV vs s < 0 ↔ findV vs' s < 0
  kind : ¬ findV vs s < 0 → kindAt vs (findV vs s) = kindAt vs' (findV vs' s)
  val : ¬ findV vs s < 0 → varV vs vals s = varV vs' vals' s
theorem namX_own {x : Ex} (h : x.op = 2) : x.s.data.toList ∈ namX x := by rw [namX_eq, if_pos h]; simp
theorem namX_part {x y : Ex} (hy : y ∈ x.l) {s : Bs} (hs : s ∈ namX y) : s ∈ namX x := by
  rw [namX_eq, List.mem_append]
  right
  have key : ∀ l : List Ex, y ∈ l → s ∈ namL l := by
    intro l
    induction l with
    | nil => intro h; cases h
    | cons a l ih =>
      intro h
      rw [namL_cons, List.mem_append]
      rcases List.mem_cons.1 h with rfl | h
      · exact .inl hs
      · exact .inr (ih h)
  exact key x.l hy
section
variable {vs vs' : List Var} {vals vals' : List Val}
theorem typO_like (x : Ex) (ks : List Int) (h : x.op = 2 → Like1 vs vs' vals vals' x.s) : typO vs x ks = typO vs' x ks := by
  unfold typO
  by_cases h1 : x.op = 1
  · rw [if_pos h1, if_pos h1]
  rw [if_neg h1, if_neg h1]
  by_cases h2 : x.op = 2
  · have hl := h h2
    rw [if_pos h2, if_pos h2]
    by_cases hf : findV vs x.s < 0
    · rw [if_pos hf, if_pos (hl.found.1 hf)]
    · rw [if_neg hf, if_neg (fun e => hf (hl.found.2 e)), hl.kind hf]
  · rw [if_neg h2, if_neg h2]
mutual
theorem typX_like : ∀ (x : Ex), (∀ s, s.data.toList ∈ namX x → Like1 vs vs' vals vals' s) → typX vs x = typX vs' x
  | .mk o v s l, h => by
    have hl := typL_like l (fun y hy s' hs => h s' (namX_part (x := .mk o v s l) hy hs))
    rw [typX, typX, hl, typO_like (vs := vs) (vs' := vs') (vals := vals) (vals' := vals') (.mk o v s l) _ (fun ho => h s (namX_own (x := .mk o v s l) ho))]
theorem typL_like : ∀ (l : List Ex), (∀ y ∈ l, ∀ s, s.data.toList ∈ namX y → Like1 vs vs' vals vals' s) → typL vs l = typL vs' l
  | [], _ => by rw [typL_nil, typL_nil]
  | x :: l, h => by
    rw [typL_cons, typL_cons, typX_like x (h x (by simp)), typL_like l (fun y hy => h y (by simp [hy]))]
end
theorem evO_like (x : Ex) (es : List (Option Val)) (h : x.op = 2 → varV vs vals x.s = varV vs' vals' x.s) : evO vs vals x es = evO vs' vals' x es := by
  unfold evO
  by_cases h1 : x.op = 1
  · rw [if_pos h1, if_pos h1]
  rw [if_neg h1, if_neg h1]
  by_cases h2 : x.op = 2
  · rw [if_pos h2, if_pos h2, h h2]
  · rw [if_neg h2, if_neg h2]
mutual
theorem evX_like : ∀ (x : Ex), (∀ s, s.data.toList ∈ namX x → varV vs vals s = varV vs' vals' s) → evX vs vals x = evX vs' vals' x
  | .mk o v s l, h => by
    have hl := evL_like l (fun y hy s' hs => h s' (namX_part (x := .mk o v s l) hy hs))
    rw [evX, evX, hl, evO_like (.mk o v s l) _ (fun ho => h s (namX_own (x := .mk o v s l) ho))]
theorem evL_like : ∀ (l : List Ex), (∀ y ∈ l, ∀ s, s.data.toList ∈ namX y → varV vs vals s = varV vs' vals' s) → evL vs vals l = evL vs' vals' l
  | [], _ => by rw [evL_eq, evL_eq]; rfl
  | x :: l, h => by
    have h1 := evX_like x (h x (by simp))
    have h2 := evL_like l (fun y hy => h y (by simp [hy]))
    rw [evL_eq, evL_eq] at h2 ⊢
    rw [List.map_cons, List.map_cons, h1, h2]
end
end
theorem typ_names : ∀ (x : Ex) (vs : List Var), (typX vs x).2 = 0 → ∀ s ∈ namX x, ∃ t : ByteArray, t.data.toList = s ∧ ¬ findV vs t < 0 := by
  intro x
  induction x using Ex.rec (motive_2 := fun l => ∀ (vs : List Var), (typL vs l).2 = 0 → ∀ s ∈ namL l, ∃ t : ByteArray, t.data.toList = s ∧ ¬ findV vs t < 0) with
  | mk o v s l ih =>
    intro vs h s' hs
    rw [typX] at h
    split at h
    · rename_i hc; exact absurd h hc
    · rename_i hc
      rw [namX, List.mem_append] at hs
      rcases hs with hs | hs
      · split at hs
        · rename_i ho
          rw [List.mem_singleton] at hs
          subst hs
          refine ⟨s, rfl, fun hf => ?_⟩
          unfold typO at h
          rw [if_neg (show ¬ (Ex.mk o v s l).op = 1 by show ¬ o = 1; omega), if_pos (show (Ex.mk o v s l).op = 2 from ho), if_pos (show findV vs (Ex.mk o v s l).s < 0 from hf)] at h
          cases h
        · cases hs
      · exact ih vs (by simpa using hc) s' hs
  | nil => rename_i vs h s hs; rw [namL_nil] at hs; cases hs
  | cons x l ih1 ih2 =>
    rename_i vs h s hs
    rw [typL_cons] at h
    split at h
    · rename_i hc; exact absurd h hc
    · rename_i hc
      split at h
      · rename_i hc2; exact absurd h hc2
      · rename_i hc2
        rw [namL_cons, List.mem_append] at hs
        rcases hs with hs | hs
        · exact ih1 vs (by simpa using hc) s hs
        · exact ih2 vs (by simpa using hc2) s hs
def nameEq (s : ByteArray) (x : Var) : Bool := x.name.toList == s.toList
def pickE (vs : List Var) (vals : List Val) (s : ByteArray) : Option (Var × Val) := (vs.zip vals).find? fun p => nameEq s p.1
theorem findV_none' {vs : List Var} {s : ByteArray} (h : vs.findIdx? (nameEq s) = none) : findV vs s = -1 := by
  show ((match vs.findIdx? (nameEq s) with | some i => (i : Int) | none => (-1 : Int)) : Int) = -1
  rw [h]
theorem findV_some' {vs : List Var} {s : ByteArray} {i : Nat} (h : vs.findIdx? (nameEq s) = some i) : findV vs s = i := by
  show ((match vs.findIdx? (nameEq s) with | some i => (i : Int) | none => (-1 : Int)) : Int) = (i : Int)
  rw [h]
theorem pick_idx (s : ByteArray) : ∀ (vs : List Var) (vals : List Val), vals.length = vs.length →
    match vs.findIdx? (nameEq s) with
    | none => pickE vs vals s = none
    | some i => ∃ x v, vs[i]? = some x ∧ vals[i]? = some v ∧ pickE vs vals s = some (x, v) ∧ nameEq s x = true
  | [], [], _ => rfl
  | x :: vs, v :: vals, h => by
    have ih := pick_idx s vs vals (by simpa using h)
    rw [List.findIdx?_cons]
    unfold pickE at ih ⊢
    rw [List.zip_cons_cons, List.find?_cons]
    cases hx : nameEq s x
    · simp only [Bool.false_eq_true, if_false]
      cases hf : vs.findIdx? (nameEq s) with
      | none => rw [hf] at ih; exact ih
      | some i =>
        rw [hf] at ih
        obtain ⟨y, a, h1, h2, h3, h4⟩ := ih
        exact ⟨y, a, by simpa using h1, by simpa using h2, h3, h4⟩
    · simp only [if_true]
      exact ⟨x, v, rfl, rfl, rfl, hx⟩
theorem look_of {vs : List Var} {vals : List Val} (hl : vals.length = vs.length) (s : ByteArray) :
    (pickE vs vals s = none ∧ findV vs s = -1) ∨ ∃ x v, pickE vs vals s = some (x, v) ∧ ¬ findV vs s < 0 ∧ kindAt vs (findV vs s) = x.kind ∧ varV vs vals s = v := by
  have h := pick_idx s vs vals hl
  cases hf : vs.findIdx? (nameEq s) with
  | none => rw [hf] at h; exact .inl ⟨h, findV_none' hf⟩
  | some i =>
    rw [hf] at h
    obtain ⟨x, v, h1, h2, h3, _⟩ := h
    refine .inr ⟨x, v, h3, by rw [findV_some' hf]; omega, ?_, ?_⟩
    · unfold kindAt; rw [findV_some' hf, Int.toNat_natCast, h1]; rfl
    · unfold varV; rw [findV_some' hf, Int.toNat_natCast, List.getD_eq_getElem?_getD, h2]; rfl
theorem like_of {vs vs' : List Var} {vals vals' : List Val} (hl : vals.length = vs.length) (hl' : vals'.length = vs'.length) {s : ByteArray} (h : pickE vs vals s = pickE vs' vals' s) : Like1 vs vs' vals vals' s := by
  rcases look_of hl s with ⟨h1, h2⟩ | ⟨x, v, h1, h2, h3, h4⟩
  · rcases look_of hl' s with ⟨k1, k2⟩ | ⟨x', v', k1, _⟩
    · exact ⟨by rw [h2, k2], fun hc => absurd (by rw [h2]; omega) hc, fun hc => absurd (by rw [h2]; omega) hc⟩
    · rw [← h, h1] at k1; cases k1
  · rcases look_of hl' s with ⟨k1, k2⟩ | ⟨x', v', k1, k2, k3, k4⟩
    · rw [← h, h1] at k1; cases k1
    · rw [← h, h1] at k1
      injection k1 with k1
      injection k1 with e1 e2
      subst e1 e2
      exact ⟨⟨fun e => absurd e h2, fun e => absurd e k2⟩, fun _ => h3.trans k3.symm, fun _ => h4.trans k4.symm⟩
def selB (L : List ByteArray) (x : Var) : Bool := Lib.containsS L x.name
def ownT (L : List ByteArray) (vs : List Var) (vals : List Val) (k : Nat) : List (Var × Val) := ((vs.zip vals).take k).filter fun p => selB L p.1
def mixT (L : List ByteArray) (vs : List Var) (v w : List Val) : Nat → List Val
  | 0 => w
  | k + 1 => match vs[k]?, v[k]? with
    | some x, some a => if selB L x then (mixT L vs v w k).set k a else mixT L vs v w k
    | _, _ => mixT L vs v w k
theorem ownT_yes {L : List ByteArray} {vs : List Var} {v : List Val} {k : Nat} {x : Var} {a : Val} (hx : vs[k]? = some x) (ha : v[k]? = some a) (h : selB L x = true) : ownT L vs v (k + 1) = ownT L vs v k ++ [(x, a)] := by
  unfold ownT
  have hz : (vs.zip v)[k]? = some (x, a) := by rw [List.getElem?_zip_eq_some]; exact ⟨hx, ha⟩
  rw [List.take_add_one, hz, List.filter_append]
  simp [h]
theorem ownT_no {L : List ByteArray} {vs : List Var} {v : List Val} {k : Nat} {x : Var} {a : Val} (hx : vs[k]? = some x) (ha : v[k]? = some a) (h : selB L x = false) : ownT L vs v (k + 1) = ownT L vs v k := by
  unfold ownT
  have hz : (vs.zip v)[k]? = some (x, a) := by rw [List.getElem?_zip_eq_some]; exact ⟨hx, ha⟩
  rw [List.take_add_one, hz, List.filter_append]
  simp [h]
theorem mixT_yes {L : List ByteArray} {vs : List Var} {v w : List Val} {k : Nat} {x : Var} {a : Val} (hx : vs[k]? = some x) (ha : v[k]? = some a) (h : selB L x = true) : mixT L vs v w (k + 1) = (mixT L vs v w k).set k a := by
  rw [mixT, hx, ha]; simp [h]
theorem mixT_no {L : List ByteArray} {vs : List Var} {v w : List Val} {k : Nat} {x : Var} {a : Val} (hx : vs[k]? = some x) (ha : v[k]? = some a) (h : selB L x = false) : mixT L vs v w (k + 1) = mixT L vs v w k := by
  rw [mixT, hx, ha]; simp [h]
theorem mixT_len (L : List ByteArray) (vs : List Var) (v w : List Val) : ∀ k, (mixT L vs v w k).length = w.length
  | 0 => rfl
  | k + 1 => by
    rw [mixT]
    split
    · split
      · rw [List.length_set]; exact mixT_len L vs v w k
      · exact mixT_len L vs v w k
    · exact mixT_len L vs v w k
theorem mixT_at {L : List ByteArray} {vs : List Var} {v w : List Val} (hv : v.length = vs.length) (hw : w.length = vs.length) : ∀ (k i : Nat) (x : Var), vs[i]? = some x → (mixT L vs v w k)[i]? = if i < k ∧ selB L x = true then v[i]? else w[i]?
  | 0, i, x, hx => by rw [if_neg (by omega)]; rfl
  | k + 1, i, x, hx => by
    have ih := mixT_at (L := L) hv hw k i x hx
    have hi : i < vs.length := (List.getElem?_eq_some_iff.1 hx).1
    by_cases hk : k < vs.length
    · have hxk := List.getElem?_eq_getElem hk
      have hak : v[k]? = some (v[k]'(by omega)) := List.getElem?_eq_getElem (by omega)
      cases hs : selB L vs[k]
      · rw [mixT_no hxk hak hs, ih]
        by_cases hik : i = k
        · subst hik
          rw [hxk] at hx; injection hx with hx; subst hx
          rw [if_neg (by omega), if_neg (by rw [hs]; simp)]
        · by_cases h1 : i < k ∧ selB L x = true
          · rw [if_pos h1, if_pos ⟨by omega, h1.2⟩]
          · rw [if_neg h1, if_neg (fun h => h1 ⟨by omega, h.2⟩)]
      · rw [mixT_yes hxk hak hs, List.getElem?_set]
        by_cases hik : k = i
        · subst hik
          rw [hxk] at hx; injection hx with hx; subst hx
          rw [if_pos rfl, if_pos (by rw [mixT_len]; omega), if_pos ⟨by omega, hs⟩, hak]
        · rw [if_neg hik, ih]
          by_cases h1 : i < k ∧ selB L x = true
          · rw [if_pos h1, if_pos ⟨by omega, h1.2⟩]
          · rw [if_neg h1, if_neg (fun h => h1 ⟨by omega, h.2⟩)]
    · have hn : vs[k]? = none := List.getElem?_eq_none (by omega)
      rw [mixT, hn]
      show (mixT L vs v w k)[i]? = _
      rw [ih]
      by_cases h1 : i < k ∧ selB L x = true
      · rw [if_pos h1, if_pos ⟨by omega, h1.2⟩]
      · rw [if_neg h1, if_neg (fun h => h1 ⟨by omega, h.2⟩)]
theorem mix_good {L : List ByteArray} {vs : List Var} {v w : List Val} (hv : Good vs v) (hw : Good vs w) (k : Nat) : Good vs (mixT L vs v w k) :=
  ⟨hv.vars, by rw [mixT_len]; exact hw.len, fun i x a hx ha => by
    rw [mixT_at hv.len hw.len k i x hx] at ha
    split at ha
    · exact hv.each i x a hx ha
    · exact hw.each i x a hx ha⟩
theorem pick_name {vs : List Var} {v : List Val} {s : ByteArray} {p : Var × Val} (h : pickE vs v s = some p) : p.1.name = s := by
  have := List.find?_some h
  unfold nameEq at this
  have h2 : p.1.name.toList = s.toList := by simpa using this
  exact bytes_inj2 h2
theorem mix_like {L : List ByteArray} {vs : List Var} {v w : List Val} (hv : Good vs v) (hw : Good vs w) {s : ByteArray} (hs : s ∈ L) : Like1 vs vs v (mixT L vs v w vs.length) s := by
  refine ⟨Iff.rfl, fun _ => rfl, fun hc => ?_⟩
  have h := pick_idx s vs v hv.len
  cases hf : vs.findIdx? (nameEq s) with
  | none => exact absurd (by rw [findV_none' hf]; omega) hc
  | some i =>
    rw [hf] at h
    obtain ⟨x, a, h1, h2, h3, _⟩ := h
    have hn := pick_name h3
    have hsel : selB L x = true := by unfold selB; rw [show x.name = s from hn]; exact (Lib.containsS_iff _ _).2 hs
    have hi : i < vs.length := (List.getElem?_eq_some_iff.1 h1).1
    unfold varV
    rw [findV_some' hf, Int.toNat_natCast, List.getD_eq_getElem?_getD, List.getD_eq_getElem?_getD, mixT_at hv.len hw.len _ i x h1, if_pos ⟨hi, hsel⟩]
theorem zip_fst_snd {α β : Type} : ∀ (l : List (α × β)), (l.map Prod.fst).zip (l.map Prod.snd) = l
  | [] => rfl
  | (a, b) :: l => by rw [List.map_cons, List.map_cons, List.zip_cons_cons, zip_fst_snd l]
theorem own_like {L : List ByteArray} {vs : List Var} {v : List Val} (hv : Good vs v) {s : ByteArray} (hs : s ∈ L) : Like1 vs ((ownT L vs v vs.length).map Prod.fst) v ((ownT L vs v vs.length).map Prod.snd) s := by
  refine like_of hv.len (by rw [List.length_map, List.length_map]) ?_
  unfold pickE
  rw [zip_fst_snd]
  unfold ownT
  rw [List.take_of_length_le (by rw [List.length_zip, hv.len]; omega), List.find?_filter]
  congr 1
  funext p
  cases hn : nameEq s p.1
  · simp
  · have : p.1.name = s := by
      unfold nameEq at hn
      exact bytes_inj2 (by simpa using hn)
    have hsel : selB L p.1 = true := by unfold selB; rw [this]; exact (Lib.containsS_iff _ _).2 hs
    simp [hsel]
theorem own_mem {L : List ByteArray} {vs : List Var} {v : List Val} {k : Nat} {p : Var × Val} (h : p ∈ ownT L vs v k) : ∃ i : Nat, vs[i]? = some p.1 ∧ v[i]? = some p.2 := by
  unfold ownT at h
  have h1 := List.mem_of_mem_take (List.mem_filter.1 h).1
  obtain ⟨i, hi, he⟩ := List.mem_iff_getElem.1 h1
  have hz : (vs.zip v)[i]? = some p := by rw [List.getElem?_eq_getElem hi, he]
  rw [List.getElem?_zip_eq_some] at hz
  exact ⟨i, hz.1, hz.2⟩
theorem own_sub (L : List ByteArray) (vs : List Var) (v : List Val) (k : Nat) : ((ownT L vs v k).map Prod.fst).Sublist vs := by
  have h1 : (ownT L vs v k).Sublist (vs.zip v) := (List.filter_sublist (l := (vs.zip v).take k)).trans (List.take_sublist k _)
  have h2 := h1.map Prod.fst
  refine h2.trans ?_
  have : ∀ (vs : List Var) (v : List Val), ((vs.zip v).map Prod.fst).Sublist vs := by
    intro vs
    induction vs with
    | nil => intro v; simp
    | cons x vs ih =>
      intro v
      cases v with
      | nil => simp
      | cons a v => rw [List.zip_cons_cons, List.map_cons]; exact (ih v).cons_cons x
  exact this vs v
theorem own_good {L : List ByteArray} {vs : List Var} {v : List Val} (hv : Good vs v) (k : Nat) : Good ((ownT L vs v k).map Prod.fst) ((ownT L vs v k).map Prod.snd) := by
  refine ⟨?_, by rw [List.length_map, List.length_map], fun i x a hx ha => ?_⟩
  · have h := hv.vars
    unfold varsB at h ⊢
    simp only [Bool.and_eq_true, decide_eq_true_eq] at h ⊢
    obtain ⟨⟨h1, h2⟩, h3⟩ := h
    have hsub := own_sub L vs v k
    refine ⟨⟨Nat.le_trans hsub.length_le h1, ?_⟩, ?_⟩
    · rw [List.all_eq_true] at h2 ⊢
      exact fun x hx => h2 x (hsub.subset hx)
    · unfold onceB at h3 ⊢
      rw [decide_eq_true_eq] at h3 ⊢
      unfold bytesOf at h3 ⊢
      exact List.Nodup.sublist ((hsub.map Var.name).map _) h3
  · rw [List.getElem?_map] at hx ha
    cases hp : (ownT L vs v k)[i]? with
    | none => rw [hp] at hx; cases hx
    | some p =>
      rw [hp] at hx ha
      injection hx with hx; injection ha with ha
      obtain ⟨j, h1, h2⟩ := own_mem (List.mem_of_getElem? hp)
      rw [hx] at h1; rw [ha] at h2
      exact hv.each j x a h1 h2
theorem evalE_good {vs : List Var} {v : List Val} {x : Ex} (h : Good vs v) (hx : validX x = true) : evalE vs v x = if (typX vs x).2 ≠ 0 then (noV, (typX vs x).2) else (match evX vs v x with | some a => (a, 0) | none => (noV, 6)) := by
  unfold evalE givenE
  rw [hx, h.vars, h.in_]
  by_cases ht : (typX vs x).2 = 0
  · cases evX vs v x <;> simp [ht]
  · simp [ht]
theorem eval_kind {vs : List Var} {v : List Val} {x : Ex} (hv : Good vs v) (hx : validX x = true) (h : (evalE vs v x).2 = 0) : (evalE vs v x).1.kind = (givenE vs x).1 := by
  have hg : givenE vs x = typX vs x := by unfold givenE; rw [hx, hv.vars]; rfl
  rw [hg]
  rw [evalE_good hv hx] at h ⊢
  by_cases ht : (typX vs x).2 = 0
  · rw [if_neg (by simpa using ht)] at h ⊢
    cases he : evX vs v x with
    | none => rw [he] at h; cases h
    | some a => exact (ev_typed hv.asg x (valid_ok hx) ht a he).1
  · rw [if_pos ht] at h
    exact absurd h ht
theorem matters {vs : List Var} {v w : List Val} {x : Ex} (hv : Good vs v) (hw : Good vs w) (hx : validX x = true) :
    evalE vs (mixT (freeX x) vs v w vs.length) x = evalE vs v x ∧ evalE ((ownT (freeX x) vs v vs.length).map Prod.fst) ((ownT (freeX x) vs v vs.length).map Prod.snd) x = evalE vs v x := by
  have hL : ∀ s : ByteArray, s.data.toList ∈ namX x → s ∈ freeX x := fun s hs => by
    unfold freeX
    rw [List.mem_map]
    exact ⟨s.data.toList, (setB_mem _ _).2 hs, mkS_of s⟩
  have h1 := typX_like (vs := vs) (vs' := vs) (vals := v) (vals' := mixT (freeX x) vs v w vs.length) x (fun s hs => mix_like hv hw (hL s hs))
  have h2 := typX_like (vs := vs) (vals := v) x (fun s hs => own_like (L := freeX x) hv (hL s hs))
  have hF : (typX vs x).2 = 0 → ∀ s : ByteArray, s.data.toList ∈ namX x → ¬ findV vs s < 0 := fun ht s hs => by
    obtain ⟨t, h3, h4⟩ := typ_names x vs ht _ hs
    have he : t = s := by rw [← mkS_of t, h3, mkS_of]
    rw [← he]
    exact h4
  rw [evalE_good hv hx, evalE_good (mix_good hv hw _) hx, evalE_good (own_good hv _) hx, ← h2]
  by_cases ht : (typX vs x).2 = 0
  · rw [if_neg (by simpa using ht), if_neg (by simpa using ht), if_neg (by simpa using ht)]
    rw [← evX_like (vs := vs) (vs' := vs) (vals := v) (vals' := mixT (freeX x) vs v w vs.length) x (fun s hs => (mix_like hv hw (hL s hs)).val (hF ht s hs)),
      ← evX_like (vs := vs) (vals := v) x (fun s hs => (own_like (L := freeX x) hv (hL s hs)).val (hF ht s hs))]
    exact ⟨rfl, rfl⟩
  · rw [if_pos ht, if_pos ht, if_pos ht]
    exact ⟨rfl, rfl⟩
end Go.Proofs.YtijmnenojbfdnaaGreatDoor

namespace Go.Proofs.YtijmnenojbfdnaaGreatDoor
open Go.RowKit
abbrev PV := (Var × Val) × (Option Addr × Nat)
def cellsX (p : PV) : List Value := [.string p.1.1.name, .int .i64 p.1.1.kind, .int .i64 p.1.1.low, .int .i64 p.1.1.high, .slice p.2.1 p.1.1.items.length p.2.2]
theorem cellsX_len (p : PV) : (cellsX p).length = 5 := rfl
theorem cellsX_one (p : PV) : ∀ u ∈ cellsX p, u.oneCell' = true := by intro u hu; simp [cellsX] at hu; rcases hu with rfl | rfl | rfl | rfl | rfl <;> rfl
theorem appVars : AppInfo Tryz.prog 22 68 5 := AppInfo.mk' (z := .agg #[.string ⟨#[]⟩, .int .i64 0, .int .i64 0, .int .i64 0, .slice none 0 0]) (bytes := 64) Tryz.underlying22 (by kernel_rfl) (by decide) rfl (by decide)
def REq {α : Type} (fc : α → List Value) : ElemR α := fun _ _ y c => c = fc y
structure Pick (B : Nat) (W0 w : World) (v1 v2 vm : Value) (xs : List PV) (vs ms : List Val) : Prop where
  bel : Below B W0 w
  own : OwnW 5 cellsX w B 68 v1 xs
  vals : OwnV w B v2 vs
  mix : OwnV w B vm ms
  ne : ∀ g, vm.ownBlock = some g → v2.ownBlock ≠ some g
  size : B ≤ w.heap.size
structure Off3 (w : World) (v1 v2 vm : Value) (g t : Nat) (cs : Array Value) : Prop where
  blk : Blk w g t cs
  n1 : v1.ownBlock ≠ some g
  n2 : v2.ownBlock ≠ some g
  nm : vm.ownBlock ≠ some g
section
variable {B g t : Nat} {W0 w w' : World} {v1 v2 vm : Value} {xs : List PV} {vs ms : List Val} {cs : Array Value}
theorem Pick.now (h : Pick B W0 w v1 v2 vm xs vs ms) (hb : Below w.heap.size w w') : Pick B W0 w' v1 v2 vm xs vs ms :=
  ⟨h.bel.trans (hb.mono h.size), OwnW.now h.own hb, OwnV.now h.vals hb, OwnV.now h.mix hb, h.ne, Nat.le_trans h.size hb.size⟩
theorem Off3.now (h : Off3 w v1 v2 vm g t cs) (hb : Below w.heap.size w w') : Off3 w' v1 v2 vm g t cs := ⟨h.blk.now hb, h.n1, h.n2, h.nm⟩
theorem Off3.new (h : Pick B W0 w v1 v2 vm xs vs ms) (t : Nat) (cs : Array Value) : Off3 (w.alloc (.cells cs t)) v1 v2 vm w.heap.size t cs :=
  ⟨Blk.new w t cs, fun e => by have := own_lt h.own _ e; unfold Lt at this; omega, fun e => by have := own_lt h.vals _ e; unfold Lt at this; omega, fun e => by have := own_lt h.mix _ e; unfold Lt at this; omega⟩
theorem kind_ne {e1 e2 size1 size2 n1 n2 B1 B2 : Nat} {u1 u2 : Value} {c1 c2 : List Value} (h1 : w.ownsRow B1 e1 size1 u1 n1 c1) (h2 : w.ownsRow B2 e2 size2 u2 n2 c2) (hne : e1 ≠ e2) : u1.ownBlock = none ∨ u1.ownBlock ≠ u2.ownBlock := by
  cases e : u1.ownBlock with
  | none => exact .inl rfl
  | some g =>
    refine .inr fun e' => ?_
    obtain ⟨c, f, k1⟩ := Lib.ownsRow_kind h1 g e
    obtain ⟨c', f', k2⟩ := Lib.ownsRow_kind h2 g e'.symm
    have := k1.symm.trans k2
    injection this with this
    injection this with _ e2 _
    exact hne e2
theorem wp_pickX {o : Oper} {a : Act} {K : Act → World → Prop} {Q : Exit → Act → World → Prop} (s x : Operand) (p : PV)
    (ho : o.op = .call { callee := .builtin .append, args := #[s, x], argTypes := #[22, 22] }) (hP : Pick B W0 w v1 v2 vm xs vs ms) (hO : Off3 w v1 v2 vm g 68 (cellsX p).toArray)
    (hs : a.eval s = v1) (hx : a.eval x = .slice (some ⟨g, 0, none⟩) 1 1) (hn : xs.length < 1000000)
    (h : ∀ v' w', Pick B W0 w' v' v2 vm (xs ++ [p]) vs ms → (∀ g t cs, Off3 w v1 v2 vm g t cs → Off3 w' v' v2 vm g t cs) → K (a.put o.dst v') w') : o.wp Tryz.prog a w K Q := by
  have hu : Sl 5 (REq cellsX) (Lt w.heap.size) w (.slice (some ⟨g, 0, none⟩) 1 1) [p] := Sl.ofBlk (xs := [p]) (cs := cellsX p) hO.blk (by unfold maxLen; show 1 ≤ _; decide) (fun i y hy => by
    match i, hy with
    | 0, hy => injection hy with hy; subst hy; exact ⟨cellsX p, rfl, fun j u hu => by simpa using hu, rfl⟩
    | i + 1, hy => simp at hy)
  refine wp_appendAllW (fc := cellsX) (size := 5) appVars s x ho w cellsX_len xs v1 hs hP.own _ [p] hx hu (fun _ _ h => h) cellsX_one (by simp; omega) hP.size (fun v' w' h2 h3 h4 => h v' w' ?_ ?_)
  · have hb := below_of_grown h3 hP.size (fun g hg => (World.ownsRow.lt hP.own g hg).1)
    exact ⟨hP.bel.trans hb, h2, World.ownsRow.kept hP.vals h3 (kind_ne hP.vals hP.own (by decide)), World.ownsRow.kept hP.mix h3 (kind_ne hP.mix hP.own (by decide)), hP.ne, Nat.le_trans hP.size h3.size⟩
  · intro g t cs hG
    refine ⟨hG.blk.grown h3 (fun e => hG.n1 e.symm), ?_, hG.n2, hG.nm⟩
    rcases h4 with e | e
    · rw [e]; exact hG.n1
    · rw [e]; intro e'; injection e' with e'; have := hG.blk.lt; omega
theorem wp_pickV {o : Oper} {a : Act} {K : Act → World → Prop} {Q : Exit → Act → World → Prop} (s x : Operand) (p : Val)
    (ho : o.op = .call { callee := .builtin .append, args := #[s, x], argTypes := #[23, 23] }) (hP : Pick B W0 w v1 v2 vm xs vs ms) (hO : Off3 w v1 v2 vm g 25 (cellsV p).toArray)
    (hs : a.eval s = v2) (hx : a.eval x = .slice (some ⟨g, 0, none⟩) 1 1) (hn : vs.length < 1000000)
    (h : ∀ v' w', Pick B W0 w' v1 v' vm xs (vs ++ [p]) ms → (∀ g t cs, Off3 w v1 v2 vm g t cs → Off3 w' v1 v' vm g t cs) → K (a.put o.dst v') w') : o.wp Tryz.prog a w K Q := by
  have hu : Sl 3 (REq cellsV) (Lt w.heap.size) w (.slice (some ⟨g, 0, none⟩) 1 1) [p] := Sl.ofBlk (xs := [p]) (cs := cellsV p) hO.blk (by unfold maxLen; show 1 ≤ _; decide) (fun i y hy => by
    match i, hy with
    | 0, hy => injection hy with hy; subst hy; exact ⟨cellsV p, rfl, fun j u hu => by simpa using hu, rfl⟩
    | i + 1, hy => simp at hy)
  refine wp_appendAllW (fc := cellsV) (size := 3) appVals s x ho w cellsV_len vs v2 hs hP.vals _ [p] hx hu (fun _ _ h => h) cellsV_one (by simp; omega) hP.size (fun v' w' h2 h3 h4 => h v' w' ?_ ?_)
  · have hb := below_of_grown h3 hP.size (fun g hg => (World.ownsRow.lt hP.vals g hg).1)
    refine ⟨hP.bel.trans hb, World.ownsRow.kept hP.own h3 (kind_ne hP.own hP.vals (by decide)), h2, World.ownsRow.kept hP.mix h3 ?_, fun g hg => ?_, Nat.le_trans hP.size h3.size⟩
    · cases e : vm.ownBlock with
      | none => exact .inl rfl
      | some g => exact .inr fun e' => hP.ne g e e'.symm
    · rcases h4 with e | e
      · rw [e]; exact hP.ne g hg
      · rw [e]; intro e'; injection e' with e'; have := own_lt hP.mix _ hg; unfold Lt at this; omega
  · intro g t cs hG
    refine ⟨hG.blk.grown h3 (fun e => hG.n2 e.symm), hG.n1, ?_, hG.nm⟩
    rcases h4 with e | e
    · rw [e]; exact hG.n2
    · rw [e]; intro e'; injection e' with e'; have := hG.blk.lt; omega
theorem Pick.set_ {gm cap : Nat} (h : Pick B W0 w v1 v2 (.slice (some ⟨gm, 0, none⟩) ms.length cap) xs vs ms) {k : Nat} (hk : k < ms.length) (y : Val) :
    Pick B W0 (((w.setCell ⟨gm, k * 3, none⟩ (.int .i64 y.kind)).setCell ⟨gm, k * 3 + 1, none⟩ (.int .i64 y.n)).setCell ⟨gm, k * 3 + 2, none⟩ (.string y.s)) v1 v2 (.slice (some ⟨gm, 0, none⟩) ms.length cap) xs vs (ms.set k y) ∧
      ∀ g t cs, Off3 w v1 v2 (.slice (some ⟨gm, 0, none⟩) ms.length cap) g t cs → Off3 (((w.setCell ⟨gm, k * 3, none⟩ (.int .i64 y.kind)).setCell ⟨gm, k * 3 + 1, none⟩ (.int .i64 y.n)).setCell ⟨gm, k * 3 + 2, none⟩ (.string y.s)) v1 v2 (.slice (some ⟨gm, 0, none⟩) ms.length cap) g t cs := by
  have hob : (Value.slice (some ⟨gm, 0, none⟩) ms.length cap).ownBlock = some gm := rfl
  have hlt := World.ownsRow.lt h.mix gm hob
  have key : ∀ (w : World) (j : Nat) (u : Value), w.grownBy (w.setCell ⟨gm, j, none⟩ u) (some gm) := fun w j u => ⟨rfl, rfl, rfl, by simp, fun i _ hne => Below.heap_setCell w ⟨gm, j, none⟩ u i (fun e => hne (by rw [e]))⟩
  have ko : ∀ (w : World) (j : Nat) (u : Value), (w.ownsRow B 68 5 v1 xs.length (flat cellsX xs) ∧ v1.ownBlock ≠ some gm) → ((w.setCell ⟨gm, j, none⟩ u).ownsRow B 68 5 v1 xs.length (flat cellsX xs) ∧ v1.ownBlock ≠ some gm) := fun w j u hh => ⟨World.ownsRow.kept hh.1 (key w j u) (.inr hh.2), hh.2⟩
  have kv : ∀ (w : World) (j : Nat) (u : Value), OwnV w B v2 vs → OwnV (w.setCell ⟨gm, j, none⟩ u) B v2 vs := fun w j u hh => World.ownsRow.kept hh (key w j u) (.inr (h.ne gm hob))
  have h1 : v1.ownBlock ≠ some gm := by
    rcases kind_ne h.own h.mix (by decide) with e | e
    · rw [e]; intro e'; cases e'
    · rw [hob] at e; exact e
  refine ⟨⟨bput3 h.bel hlt.1 _ _ _ _ _ _, (ko _ _ _ (ko _ _ _ (ko _ _ _ ⟨h.own, h1⟩))).1, kv _ _ _ (kv _ _ _ (kv _ _ _ h.vals)), ?_, h.ne, by simpa using h.size⟩, fun g t cs hG => ⟨?_, hG.n1, hG.n2, hG.nm⟩⟩
  · have := OwnV.set_ h.mix hk y
    exact this
  · have hne : g ≠ gm := fun e => hG.nm (by rw [hob, e])
    exact (((hG.blk.far (p := ⟨gm, k * 3, none⟩) hne _).far (p := ⟨gm, k * 3 + 1, none⟩) hne _).far (p := ⟨gm, k * 3 + 2, none⟩) hne _)
theorem Pick.sl (h : Pick B W0 w v1 v2 vm xs vs ms) (hx : ∀ p ∈ xs, RVar (Lt B) W0 p.1.1 (cellsX p)) : SlX (Lt w.heap.size) w v1 (xs.map fun p => p.1.1) := by
  refine Sl.of_own h.own (by simp) (own_lt h.own) fun i x hi => ?_
  rw [List.getElem?_map] at hi
  cases hp : xs[i]? with
  | none => rw [hp] at hi; cases hi
  | some p =>
    rw [hp] at hi
    injection hi with hi
    subst hi
    refine ⟨cellsX p, rfl, fun j u hu => ?_, ?_⟩
    · have hj : j < 5 := by
        rcases Nat.lt_or_ge j (cellsX p).length with h' | h'
        · exact h'
        · rw [List.getElem?_eq_none h'] at hu; cases hu
      rw [flat_get cellsX_len xs i j p hp hj]; exact hu
    · exact RVar.kept _ _ _ _ _ _ (fun b hb => Nat.lt_of_lt_of_le hb h.size) (fun b hb => h.bel.block b hb) (hx p (List.mem_of_getElem? hp))
end
end Go.Proofs.YtijmnenojbfdnaaGreatDoor

namespace Go.Proofs.YtijmnenojbfdnaaGreatDoor
open Go.RowKit
mutual
def depX : Ex → Nat
  | .mk _ _ _ l => 1 + depL l
def depL : List Ex → Nat
  | [] => 0
  | x :: l => max (depX x) (depL l)
end
theorem depX_eq (x : Ex) : depX x = 1 + depL x.l := by cases x; rw [depX]; rfl
theorem depL_mem {l : List Ex} {y : Ex} (h : y ∈ l) : depX y ≤ depL l := by
  induction l with
  | nil => simp at h
  | cons a l ih =>
    rw [depL]
    rcases List.mem_cons.1 h with rfl | h
    · omega
    · have := ih h; omega
theorem txB_fuel : ∀ (f g : Nat) (x : Ex) (asks : Nat), okX x = true → depX x ≤ f → depX x ≤ g → txB f x asks = txB g x asks
  | 0, _, x, _, _, h, _ => by rw [depX_eq] at h; omega
  | _ + 1, 0, x, _, _, _, h => by rw [depX_eq] at h; omega
  | f + 1, g + 1, x, asks, hok, h1, h2 => by
    rw [depX_eq] at h1 h2
    have hok0 := hok
    rw [okX_eq, Bool.and_eq_true, Bool.and_eq_true] at hok
    obtain ⟨⟨hs, _⟩, hl⟩ := hok
    obtain ⟨s1, s2, s3, s4, s5, s6, s7, s8⟩ := shape_len hs
    have hk : ∀ k asks, k < x.l.length → txB f (kAt x.l k) asks = txB g (kAt x.l k) asks := fun k a h => by
      have := depL_mem (kAt_mem h)
      exact txB_fuel f g _ a (okL_mem hl _ (kAt_mem h)) (by omega) (by omega)
    have hd : (x.l.drop 1).map (fun y => txB f y 0) = (x.l.drop 1).map (fun y => txB g y 0) := List.map_congr_left fun y hy => by
      have hy := List.mem_of_mem_drop hy
      have := depL_mem hy
      exact txB_fuel f g y 0 (okL_mem hl y hy) (by omega) (by omega)
    unfold txB
    dsimp only
    congr 1
    all_goals
      first
      | rfl
      | skip
    all_goals
      by_cases c1 : x.op = 1
      · simp only [if_pos c1]
      by_cases c2 : x.op = 2
      · simp only [if_neg c1, if_pos c2]
      by_cases c3 : x.op = 3
      · have e := s3 c3
        simp only [if_neg c1, if_neg c2, if_pos c3]
        rw [hk 0 4 (by omega)]
      by_cases c12 : x.op = 12
      · have e := s5 c12
        simp only [if_neg c1, if_neg c2, if_neg c3, if_pos c12]
        rw [hk 0 1 (by omega), hk 1 1 (by omega), hk 2 1 (by omega)]
      by_cases c13 : x.op = 13
      · have e := s6 c13
        simp only [if_neg c1, if_neg c2, if_neg c3, if_neg c12, if_pos c13]
        rw [hk 0 6 (by omega), hd]
      · have e := s4 (by omega)
        simp only [if_neg c1, if_neg c2, if_neg c3, if_neg c12, if_neg c13]
        rw [hk 0 _ (by omega), hk 1 _ (by omega)]
def exVar : Var := ⟨⟨#[110]⟩, 2, 0, 3, []⟩
theorem okA : okX exA = true := by kernel_rfl
theorem validA : validX exA = true := by kernel_rfl
theorem validC : validX exC = true := by kernel_rfl
theorem depA : depX exA ≤ 10 := by decide +kernel
theorem md1 : modelsE [exVar] exC = (2, [⟨2, 0, ⟨#[]⟩⟩], 0) := by kernel_rfl
end Go.Proofs.YtijmnenojbfdnaaGreatDoor

namespace Go.Proofs.YtijmnenojbfdnaaGreatDoor
open Go.RowKit
def ifW (k : Nat) : ByteArray := if k = 0 then ⟨#[105, 102, 32]⟩ else if k = 1 then ⟨#[32, 116, 104, 101, 110, 32]⟩ else ⟨#[32, 101, 108, 115, 101, 32]⟩
def ifP (n : Nat) (x : Ex) : Nat → List UInt8
  | 0 => []
  | k + 1 => ifP n x k ++ (ifW k).data.toList ++ txB n (kAt x.l k) 1
theorem ifP_le (n : Nat) (x : Ex) : ∀ {j k : Nat}, j ≤ k → (ifP n x j).length ≤ (ifP n x k).length := by
  intro j k h
  induction h with
  | refl => exact Nat.le_refl _
  | step _ ih => refine Nat.le_trans ih ?_; rw [ifP, List.length_append, List.length_append]; omega
theorem ifW_run (k : Nat) (hk : k < 3) (W : World) : (Instr.index 133 (.agg #[.string ⟨#[105, 102, 32]⟩, .string ⟨#[32, 116, 104, 101, 110, 32]⟩, .string ⟨#[32, 101, 108, 115, 101, 32]⟩]) (.int .i64 (k : Int))).run Tryz.prog W = .ok (.string (ifW k)) W := by
  match k, hk with
  | 0, _ => show _ = _; kernel_rfl
  | 1, _ => show _ = _; kernel_rfl
  | 2, _ => show _ = _; kernel_rfl
set_option maxHeartbeats 2000000 in
set_option maxRecDepth 100000 in
theorem write_if (n : Nat) (hIH : ∀ k, k < n → WriteC k) (u : Value) (x : Ex) (asks : Nat) (w : World) (B b : Nat) (l : List UInt8) (h2 : x.op = 12) (hlt : ¬ levB x.op.toNat < asks) (hok : okX x = true) (h1 : x.l.length = 3) (hbd : Bld w B b l) (hBw : B ≤ w.heap.size) (hx : IsEx n (Lt B) w u x) (hA : ∀ W, Below B w W → Amb W)
    (hlen : l.length + (txB (n + 1) x asks).length ≤ 100000000) :
    Calls Tryz.prog 50 #[.pointer (some ⟨b, 0, none⟩), u, .int .i64 (asks : Int)] w fun e w' => e = .returned (.tuple #[]) ∧ Bld w' B b (l ++ txB (n + 1) x asks) ∧ Below B w w' ∧ Lib.OthersKept 5 (some b) w w' := by
  have ht : txB (n + 1) x asks = ifP n x 3 := by
    unfold txB
    dsimp only
    rw [if_neg hlt, if_neg (by omega), if_neg (by omega), if_neg (by omega), if_pos h2]
    cases n <;> simp [ifP, ifW, txB]
  rw [ht] at hlen ⊢
  obtain ⟨lv, rfl, _, Ax, cx, rfl⟩ := hx.cells
  rw [h2] at hlt ⊢
  have hlv : ¬ (levB 12 : Int) < (asks : Int) := by have : levB (12 : Int).toNat = levB 12 := rfl; omega
  have dlv : decide (levB 12 < asks) = false := decide_eq_false (by have : levB (12 : Int).toNat = levB 12 := rfl; omega)
  have HL2 := Lib.hid (fun W => level_any 12 W (by omega))
  have hb1 := bone w (.cells #[.int .i64 12, .int .i64 x.v.kind, .int .i64 x.v.n, .string x.v.s, .string x.s, .slice Ax x.l.length cx] 28)
  have hN1 := Blk.new w 28 #[.int .i64 12, .int .i64 x.v.kind, .int .i64 x.v.n, .string x.v.s, .string x.s, .slice Ax x.l.length cx]
  have hbd1 := hbd.now hb1
  have hBb1 : Below B w _ := hb1.mono hBw
  have hBw1 := Nat.le_trans hBw hb1.size
  have HP := Lib.hid (fun k (hk : k < x.l.length) => part_at hIH (okX_l hok) (ex_slice hx) hk)
  have hblt := Bld.lt hbd
  have HA := Lib.hid hA
  have HLN := Lib.hid hlen
  have HH1 := Lib.hid h1
  have hok1 := (Lib.OthersKept.refl 5 (some b) w).alloc (.cells #[.int .i64 12, .int .i64 x.v.kind, .int .i64 x.v.n, .string x.v.s, .string x.s, .slice Ax x.l.length cx] 28)
  clear hA hlen hx h1 ht h2 hlt
  go_enter Tryz.func50, Tryz.ntmps50
  obtain ⟨n0, n1, n2, n3, n4, n5⟩ := hN1.c6
  go_wp2_with fail
  refine (HL2.out _).mono ?_
  rintro e w2 ⟨rfl, rfl⟩
  clear HL2
  generalize hw1 : (w.alloc (.cells #[.int .i64 12, .int .i64 x.v.kind, .int .i64 x.v.n, .string x.v.s, .string x.s, .slice Ax x.l.length cx] 28)) = w1 at *
  clear hw1
  go_wp2_with fail
  go_loopw [86] (fun i wr => ∃ k : Nat, k ≤ 3 ∧ i = .int .i64 (k : Int) ∧ Bld wr B b (l ++ ifP n x k) ∧ Below B w wr ∧ w1.heap.size ≤ wr.heap.size ∧ Lib.OthersKept 5 (some b) w1 wr) (fun i _ => 3 - (intOf i).toNat)
  case atStart => exact ⟨0, by omega, rfl, by rw [ifP, List.append_nil]; exact hbd1, hBb1, Nat.le_refl _, Lib.OthersKept.refl _ _ _⟩
  case round =>
    obtain ⟨k, hk, rfl, hbdr, hBr, hsr, hkr⟩ := hrel
    have hNr := Blk.others hN1 hkr (fun e => by injection e with e; omega) (by decide)
    clear n0 n1 n2 n3 n4 n5
    obtain ⟨n0, n1, n2, n3, n4, n5⟩ := hNr.c6
    have hBwr := Nat.le_trans hBw1 hsr
    by_cases hlt : k < 3
    · obtain ⟨bb, oo, y, Ay, cy, rfl, hbb, hky, y0, y1, y2, y3, y4, y5, hcy⟩ := HP.out k (by rw [HH1.out]; exact hlt)
      have hle := ifP_le n x (show k + 1 ≤ 3 by omega)
      have hln : l.length + (ifP n x (k + 1)).length ≤ 100000000 := by have := HLN.out; omega
      rw [ifP, hky, List.length_append, List.length_append] at hln
      have HLK := Lib.hid hln
      have HW := Lib.hid (writeString_any B b (l ++ ifP n x k) (ifW k) _ hbdr (by rw [List.length_append]; have : (ifW k).data.toList.length = (ifW k).size := Array.length_toList; omega) hBwr)
      have HI := ifW_run k hlt
      have HKY := Lib.hid hky
      clear hln hle hky
      have i2 : (k : Int) < (x.l.length : Int) := by rw [HH1.out]; omega
      go_wp2_with fail
      (with_reducible refine HW.out.mono ?_)
      rintro e w3 ⟨rfl, hbd3, hb3, hk3⟩
      have hN3 := Blk.others hNr hk3 (fun e => by injection e with e; omega) (by decide)
      have hBb3 := hBr.trans hb3
      have hBw3 := Nat.le_trans hBwr hb3.size
      have hcell : ∀ o, w3.cell? ⟨bb, o, none⟩ = w.cell? ⟨bb, o, none⟩ := fun o => hBb3.cell (p := ⟨bb, o, none⟩) hbb
      rw [← hcell] at y0 y1 y2 y3 y4 y5
      have hz := hcy 1 b _ w3 (by omega) hBb3 hbd3 hBw3 (fun W h => HA.out W (hBb3.trans h)) (by have := HLK.out; rw [List.length_append, List.length_append]; omega)
      rw [show ((1 : Nat) : Int) = 1 from rfl] at hz
      have HZ := Lib.hid hz
      clear hz hcy hcell n0 n1 n2 n3 n4 n5 HW HI
      obtain ⟨n0, n1, n2, n3, n4, n5⟩ := hN3.c6
      go_wp2_with fail
      (with_reducible refine HZ.out.mono ?_)
      rintro e w5 ⟨rfl, hbd5, hb5, hk5⟩
      have hBb5 := hBb3.trans hb5
      clear y0 y1 y2 y3 y4 y5 n0 n1 n2 n3 n4 n5 HZ
      go_wp2_with fail
      go_roundw
      case rel => exact ⟨k + 1, by omega, by go_num, by rw [ifP, HKY.out]; simpa using hbd5, hBb5, Nat.le_trans (Nat.le_trans hsr hb3.size) hb5.size, (hkr.trans hk3).trans hk5⟩
      case measure => simp [intOf]; omega
    · have hk3 : k = 3 := by omega
      subst hk3
      go_wp2_with fail
      go_end0
      exact ⟨rfl, hbdr, hBr, hok1.trans hkr⟩
end Go.Proofs.YtijmnenojbfdnaaGreatDoor
