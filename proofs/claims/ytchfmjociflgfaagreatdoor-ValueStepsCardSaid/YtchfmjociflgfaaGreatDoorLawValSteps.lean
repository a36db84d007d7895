/- ValueSteps: the walk. -/
import Derived.Test.YtchfmjociflgfaaGreatDoorValAwake2
namespace Go.Proofs.YtchfmjociflgfaaGreatDoor
open Go.RowKit

set_option maxHeartbeats 4000000 in
set_option maxRecDepth 100000 in
theorem valueSteps_law (l : List Var) (vs : List Val) (lv vv : Value) (w : World) (h : SlX (Lt w.heap.size) w lv l) (hv : SlV (Lt w.heap.size) w vv vs) (ha : Amb w) :
    Calls Tryz.prog 5 #[lv, vv] w fun e w' => e = .returned (.bool true) ∧ Below w.heap.size w w' := by
  obtain ⟨A, c, rfl, h1, h2, ht⟩ := h.open_
  obtain ⟨Av, cv, rfl, h1v, h2v, htv⟩ := hv.open_
  clear h hv
  go_enter Tryz.func5, Tryz.ntmps5
  go_wp2_with fail
  refine (awake_any _ ha).mono ?_
  rintro e w1 ⟨rfl, hb1⟩
  go_wp2_with fail
  refine (long_any l vs _ _ _ (ht.now hb1) (htv.now hb1)).mono ?_
  rintro e w2 ⟨q, rfl, hq, hb2⟩
  have hbw2 := bthen hb1 hb2
  cases q
  rotate_left
  · clear hq
    go_wp2_with fail
    go_ret
    exact ⟨rfl, hbw2⟩
  obtain ⟨hl12, hv12⟩ := hq rfl
  clear hq
  go_wp2_with fail
  refine (inAllE_any l vs _ _ _ (ht.now hbw2) (htv.now hbw2) (by omega)).mono ?_
  rintro e w3 ⟨rfl, hb3⟩
  have hbw3 := bthen hbw2 hb3
  go_wp2_with fail
  refine (firstE_any l _ _ (ht.now hbw3) (by omega)).mono ?_
  rintro e w4 ⟨av, rfl, hs4, hb4⟩
  have hbw4 := bthen hbw3 hb4
  obtain ⟨A1, c1, rfl, f1, f2, hs4⟩ := hs4.open_
  go_wp2_with fail
  refine (nextE_any l vs _ _ _ (ht.now hbw4) (htv.now hbw4) (by omega)).mono ?_
  rintro e w5 ⟨bv, rfl, hn5, hb5⟩
  have hbw5 := bthen hbw4 hb5
  have hs5 := hs4.now hb5
  obtain ⟨A2, c2, rfl, g1, g2, hn5⟩ := hn5.open_
  clear hs4
  go_wp2_with fail
  refine (validVars_ref l _ _ (ht.now hbw5)).mono ?_
  rintro e w6 ⟨rfl, hb6⟩
  have hbw6 := bthen hbw5 hb6
  have hs6 := hs5.now hb6
  have hn6 := hn5.now hb6
  clear hs5 hn5
  have HI : Hid (inAllE l vs = if okB l vs then (assignedB l vs, 0) else (false, 1)) := rfl
  have HF : Hid (firstE l = if varsB l then (firstV l, 0) else ([], 1)) := rfl
  have HN : Hid (nextE l vs = if okB l vs then (if vs.length ≠ l.length then ([], false, 29) else if assignedB l vs then ((nextV l vs).1, (nextV l vs).2, 0) else ([], false, 11)) else ([], false, 1)) := rfl
  have HO : Hid (okB l vs = (varsB l && vs.all validV)) := rfl
  generalize hqv : varsB l = qv at *
  have HV := Lib.hid hqv
  clear hqv
  cases qv
  · have HO' : okB l vs = false := HO.out
    rw [HO'] at HI HN
    have e1 : inAllE l vs = (false, 1) := HI.out
    have e2 : firstE l = ([], 1) := HF.out
    have e3 : nextE l vs = ([], false, 1) := HN.out
    rw [e1, e2, e3]
    clear HI HF HN HO HO' e1 e2 e3 hs6 hn6 f1 f2 g1 g2
    go_wp2_with fail
    go_ret
    exact ⟨rfl, hbw6⟩
  have e2 : firstE l = (firstV l, 0) := HF.out
  rw [e2] at hs6 f1 ⊢
  clear HF e2
  dsimp only at hs6 f1 ⊢
  go_wp2_with fail
  refine (first_ref l _ _ (ht.now hbw6) HV.out).mono ?_
  rintro e w7 ⟨fv, rfl, hr7, hb7⟩
  have hbw7 := bthen hbw6 hb7
  have hs7 := hs6.now hb7
  have hn7 := hn6.now hb7
  clear hs6 hn6
  obtain ⟨A3, c3, rfl, _, _, hr7⟩ := hr7.open_
  go_wp2_with fail
  refine (same_ref _ _ (firstV l) (firstV l) _ hs7 hr7).mono ?_
  rintro e w8 ⟨rfl, hb8⟩
  have hbw8 := bthen hbw7 hb8
  have hn8 := hn7.now hb8
  clear hs7 hn7 hr7
  rw [decide_eq_true rfl]
  go_wp2_with fail
  refine (validAll_ref vs _ _ (htv.now hbw8)).mono ?_
  rintro e w9 ⟨rfl, hb9⟩
  have hbw9 := bthen hbw8 hb9
  have hn9 := hn8.now hb9
  clear hn8
  generalize hqa : vs.all validV = qa at *
  have HA := Lib.hid hqa
  clear hqa
  cases qa
  · have HO' : okB l vs = false := HO.out
    rw [HO'] at HI HN
    have e1 : inAllE l vs = (false, 1) := HI.out
    have e3 : nextE l vs = ([], false, 1) := HN.out
    rw [e1, e3]
    clear HI HN HO HO' e1 e3 hn9 g1 g2
    go_wp2_with fail
    go_ret
    exact ⟨rfl, hbw9⟩
  have HO' : okB l vs = true := HO.out
  rw [HO'] at HI HN
  have e1 : inAllE l vs = (assignedB l vs, 0) := HI.out
  have HN1 : Hid (nextE l vs = if vs.length ≠ l.length then ([], false, 29) else if assignedB l vs then ((nextV l vs).1, (nextV l vs).2, 0) else ([], false, 11)) := HN.out
  rw [e1]
  dsimp only
  clear HI HN HO HO' e1
  go_wp2_with fail
  refine (inAll_ref l vs _ _ _ (ht.now hbw9) (htv.now hbw9) HV.out).mono ?_
  rintro e w10 ⟨rfl, hb10⟩
  have hbw10 := bthen hbw9 hb10
  have hn10 := hn9.now hb10
  clear hn9
  have hbb : (assignedB l vs != assignedB l vs) = false := by simp
  by_cases hlen : vs.length = l.length
  rotate_left
  · have e3 : nextE l vs = ([], false, 29) := HN1.out.trans (if_pos hlen)
    have h3 : ((vs.length : Int) != (l.length : Int)) = true := by simp; omega
    rw [e3]
    generalize assignedB l vs = qq at *
    clear HN1 e3 hlen hn10 g1 g2
    go_wp2_with fail
    go_ret
    exact ⟨rfl, hbw10⟩
  have e3 := HN1.out.trans (if_neg (by simpa using hlen))
  have h3 : ((vs.length : Int) != (l.length : Int)) = false := by simp; omega
  have HL := Lib.hid hlen
  clear HN1 hlen
  generalize hqq : assignedB l vs = qq at *
  have HQ := Lib.hid hqq
  clear hqq
  cases qq
  · have e4 : nextE l vs = ([], false, 11) := e3
    rw [e4]
    clear e3 e4 hn10 g1 g2
    go_wp2_with fail
    go_ret
    exact ⟨rfl, hbw10⟩
  have e4 : nextE l vs = ((nextV l vs).1, (nextV l vs).2, 0) := e3
  rw [e4] at hn10 g1 ⊢
  clear e3 e4
  dsimp only at hn10 g1 ⊢
  go_wp2_with fail
  refine (next_ref l vs _ _ _ (ht.now hbw10) (htv.now hbw10) HV.out (fun v hv => List.all_eq_true.1 HA.out v hv) HQ.out).mono ?_
  rintro e w11 ⟨nv, rfl, hm11, hb11⟩
  have hbw11 := bthen hbw10 hb11
  have hn11 := hn10.now hb11
  clear hn10
  obtain ⟨A4, c4, rfl, _, _, hm11⟩ := hm11.open_
  have hcc : ((nextV l vs).2 == (nextV l vs).2) = true := by simp
  generalize nextV l vs = nx at *
  go_wp2_with fail
  refine (same_ref _ _ nx.1 nx.1 _ hn11 hm11).mono ?_
  rintro e w12 ⟨rfl, hb12⟩
  rw [decide_eq_true rfl]
  go_wp2_with fail
  go_ret
  exact ⟨rfl, bthen hbw11 hb12⟩
end Go.Proofs.YtchfmjociflgfaaGreatDoor
