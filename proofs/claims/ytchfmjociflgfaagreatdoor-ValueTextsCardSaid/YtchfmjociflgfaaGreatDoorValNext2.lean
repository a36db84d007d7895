/- value.InAll, value.Next and the reference's. -/
import Derived.Test.YtchfmjociflgfaaGreatDoorValNext
namespace Go.Proofs.YtchfmjociflgfaaGreatDoor
open Go.RowKit

set_option maxHeartbeats 400000 in
theorem inAllE_any (l : List Var) (vs : List Val) (u v : Value) (w : World) (h : SlX (Lt w.heap.size) w u l) (hv : SlV (Lt w.heap.size) w v vs) (hl : l.length ≤ 1000000) :
    Calls Tryz.prog 21 #[u, v] w fun e w' => e = .returned (.tuple #[.bool (inAllE l vs).1, .int .i64 (inAllE l vs).2]) ∧ Below w.heap.size w w' := by
  go_enter Tryz.func21, Tryz.ntmps21
  go_wp2_with fail
  refine (valid_any l vs u v _ h hv hl).mono ?_
  rintro e w2 ⟨rfl, hb2⟩
  generalize hq : okB l vs = q
  have HQ := Lib.hid hq
  clear hq
  cases q
  · have HE : Hid ((false, 1) = ((inAllE l vs).1, (inAllE l vs).2)) := by show _ = _; unfold inAllE; rw [HQ.out]; rfl
    go_wp2_with fail
    go_ret2
    exact ⟨ret_bi HE.out, hb2⟩
  · have HE : Hid ((assignedB l vs, 0) = ((inAllE l vs).1, (inAllE l vs).2)) := by show _ = _; unfold inAllE; rw [HQ.out]; rfl
    go_wp2_with fail
    refine (assigned_any l vs u v _ (h.now hb2) (hv.now hb2) (ok_vars HQ.out).1).mono ?_
    rintro e w3 ⟨rfl, hb3⟩
    go_wp2_with fail
    go_ret2
    exact ⟨ret_bi HE.out, bthen hb2 hb3⟩

set_option maxHeartbeats 1000000 in
theorem inAll_ref (l : List Var) (vs : List Val) (u v : Value) (w : World) (h : SlX (Lt w.heap.size) w u l) (hv : SlV (Lt w.heap.size) w v vs) (hl : varsB l = true) :
    Calls Tryz.prog 27 #[u, v] w fun e w' => e = .returned (.bool (assignedB l vs)) ∧ Below w.heap.size w w' := by
  obtain ⟨A, c, rfl, h1, h2, ht⟩ := h.open_
  obtain ⟨Av, cv, rfl, h1v, h2v, htv⟩ := hv.open_
  clear h hv
  have HQ := Lib.hid hl
  have h8 := vars_len hl
  clear hl
  go_enter Tryz.func27, Tryz.ntmps27
  by_cases hlen : vs.length = l.length
  rotate_left
  · have HE := Lib.hid (assigned_len hlen)
    have h3 : ((vs.length : Int) != (l.length : Int)) = true := by simp; omega
    clear hlen
    go_wp2_with fail
    go_ret
    exact ⟨ret_bool HE.out.symm, Below.refl _ _⟩
  have h3 : ((vs.length : Int) != (l.length : Int)) = false := by simp; omega
  go_wp2_with fail
  go_loopw [5] (fun i wr => ∃ j : Nat, j ≤ l.length ∧ i = .int .i64 j ∧ PlacedTo l vs j ∧ Below w.heap.size w wr) (fun i _ => l.length - (intOf i).toNat)
  case atStart => exact ⟨0, Nat.zero_le _, rfl, fun j _ _ h => absurd h (by omega), Below.refl _ _⟩
  case round =>
    obtain ⟨j, hj, rfl, hp, hb⟩ := hrel
    have HP := Lib.hid hp
    clear hp
    by_cases hlt : j < l.length
    · obtain ⟨b, o, x, iv, rfl, hD, hx, hvar, hiv, c0, c1, c2, c3, c4⟩ := (ht.now hb).at_ hlt
      obtain ⟨bv, ov, y, rfl, hDv, hy, hfy, d0, d1, d2⟩ := (htv.now hb).at_ (k := j) (by omega)
      have HX := Lib.hid hx
      have HY := Lib.hid hy
      have htm := tame_of (vars_each HQ.out hx)
      clear hx hy
      have HC := Lib.hid (rank_ref x y _ wr.drew (hvar.now (Below.refl _ _).drew) htm hfy)
      unfold valV at HC
      have i1 : (0 : Int) ≤ j := by omega
      have i2 : (j : Int) < (vs.length : Int) := by omega
      have i3 : (j : Int) < (l.length : Int) := by omega
      generalize hz : placeV x y = z at *
      have HZ := Lib.hid hz
      clear hz
      go_wp2_with fail
      go_region_with (go_at_call 35; refine HC.out.mono ?_; rintro e w3 ⟨rfl, hb3⟩)
      all_goals
        have hbw3 := bthen hb.drew hb3
        by_cases hz : z < 0
        · have HE := Lib.hid (assigned_no HX.out HY.out (by rw [HZ.out]; exact hz))
          go_wp2_with fail
          go_ret
          exact ⟨ret_bool HE.out.symm, hbw3⟩
        · go_wp2_with fail
          refine ⟨⟨j + 1, by omega, by simp, fun q a b hq ha hb' => ?_⟩, by simp [intOf]; omega⟩
          by_cases e : q = j
          · subst e
            rw [HX.out] at ha; rw [HY.out] at hb'
            injection ha with ha; injection hb' with hb'
            subst ha hb'
            rw [HZ.out]; omega
          · exact HP.out q a b (by omega) ha hb'
    · obtain rfl : j = l.length := by omega
      have HE := Lib.hid (assigned_yes hlen HP.out)
      go_wp2_with fail
      go_ret
      exact ⟨ret_bool HE.out.symm, hb⟩

set_option maxHeartbeats 2000000 in
set_option maxRecDepth 100000 in
theorem cloneV (v : Value) (vs : List Val) (w : World) (h : SlV (Lt w.heap.size) w v vs) (hl : vs.length ≤ 1000000) :
    Calls Tryz.prog 66 #[v] w fun e w' => ∃ v', e = .returned v' ∧ OwnV w' w.heap.size v' vs ∧ Below w.heap.size w w' := by
  obtain ⟨A, c, rfl, h1, h2, ht⟩ := h.open_
  clear h
  have qeq : ∀ (w : World) (a : Option Addr) (n c n' c' : Nat), (binOp .eql 43 (.slice a n c) (.slice none n' c')).run Tryz.prog w = .ok (.bool a.isNone) w := fun w a n c n' c' => Lib.run_eql_slice_nil w _ _ a n c n' c' Tryz.underlying43
  go_enter Tryz.func66, Tryz.ntmps66
  cases A with
  | none =>
    have h0 : vs = [] := by
      match vs, ht with
      | [], _ => rfl
      | x :: xs, ht => obtain ⟨b, o, _, e, _⟩ := ht.at_ (k := 0) (by simp); cases e
    subst h0
    go_wp2_with fail
    go_ret
    exact ⟨_, rfl, OwnW.nil, Below.refl _ _⟩
  | some a =>
    have hb := bone w (.cells #[] 23)
    have htb := ht.now hb
    go_wp2_with (at_builtin; refine wpList_appendAllW (fc := cellsV) (R := RVal) appVals rfl (.tmp 5) (.tmp 6) rfl _ cellsV_len [] _ rfl (World.ownsRow_lit (base := w.heap.size) (e := 23) (size := 3) w #[] 0 (Nat.le_refl _) (by unfold maxLen; omega) rfl) _ vs rfl htb (fun y c h => h.1) cellsV_one (by simp; omega) (by simp) ?_; intro v' w' hown' hgr hat)
    have hbw : Below w.heap.size w w' := hb.trans (below_of_grown hgr (by simp) (fun g hg => by injection hg with hg; exact Nat.le_of_eq hg))
    go_wp2_with fail
    go_ret
    exact ⟨_, rfl, hown', hbw⟩
end Go.Proofs.YtchfmjociflgfaaGreatDoor
