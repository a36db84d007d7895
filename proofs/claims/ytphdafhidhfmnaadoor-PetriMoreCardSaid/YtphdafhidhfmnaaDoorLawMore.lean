/- PetriMore: more tokens do not hinder, for every input. The walk of the law. -/
import Derived.Test.YtphdafhidhfmnaaDoorAwake
import Derived.Test.YtphdafhidhfmnaaDoorRunRef
import Derived.Test.YtphdafhidhfmnaaDoorMoreSpec
import Derived.Test.YtphdafhidhfmnaaDoorGreat
namespace Go.Proofs.YtphdafhidhfmnaaDoor
open Go.RowKit

theorem get_some {l : List Int} {k : Nat} {z : Int} (h : l[k]? = some z) : l.getD k 0 = z := by rw [List.getD_eq_getElem?_getD, h]; rfl

set_option maxHeartbeats 4000000 in
set_option maxRecDepth 100000 in
theorem lawMore (n : Net) (v mv lv bv : Value) (m l b : List Int) (w : World) (h : IsNet (Lt w.heap.size) w v n) (hm : SlI (Lt w.heap.size) w mv m) (hl : SlI (Lt w.heap.size) w lv l) (hb_ : SlI (Lt w.heap.size) w bv b) :
    Calls Tryd.prog 4 #[v, mv, lv, bv] w fun e w' => e = .returned (.bool true) ∧ Below w.heap.size w w' := by
  have h0 := h
  obtain ⟨tv, rfl, hp, hs, hkk, ht⟩ := h
  obtain ⟨A, c, rfl, h1, h2, ht⟩ := ht.open_
  obtain ⟨Al, cl, rfl, l1, l2, hl⟩ := hl.open_
  obtain ⟨Am, cm, rfl, m1, m2, hm⟩ := hm.open_
  obtain ⟨Ab, cb, rfl, b1, b2, hbb⟩ := hb_.open_
  go_enter Tryd.func4, Tryd.ntmps4
  go_wp2_with fail
  have hb := bone w (Obj.cells #[Value.int IntKind.i64 n.places, Value.slice A n.trans.length c, Value.int IntKind.i64 n.source, Value.int IntKind.i64 n.sink] 24)
  have hB := Blk.new w 24 #[.int .i64 n.places, .slice A n.trans.length c, .int .i64 n.source, .int .i64 n.sink]
  refine (awake_any _).mono ?_
  rintro e w1 ⟨rfl, hb1⟩
  have hb2 := bthen hb hb1
  have hB1 := hB.now hb1
  obtain ⟨q0, q1, q2, q3⟩ := hB1.c4
  clear hb hB hb1
  go_wp2_with fail
  refine (great_any n _ _ (h0.now hb2)).mono ?_
  rintro e w2 ⟨rfl, hb3⟩
  have hb4 := bthen hb2 hb3
  have hB2 := hB1.now hb3
  clear q0 q1 q2 q3 hB1 hb2 hb3
  obtain ⟨q0, q1, q2, q3⟩ := hB2.c4
  generalize greatB n = g
  cases g
  rotate_left
  · go_wp2_with fail
    go_ret
    exact ⟨rfl, hb4⟩
  by_cases hm60 : 60 < m.length
  · go_wp2_with fail
    go_ret
    exact ⟨rfl, hb4⟩
  by_cases hl60 : 60 < l.length
  · go_wp2_with fail
    go_ret
    exact ⟨rfl, hb4⟩
  by_cases hbl : b.length = m.length
  rotate_left
  · have hbl' : ((b.length : Int) != (m.length : Int)) = true := by rw [bne_iff_ne]; omega
    go_wp2_with fail
    go_ret
    exact ⟨rfl, hb4⟩
  have hbl' : ((b.length : Int) != (m.length : Int)) = false := by simp [hbl]
  have HBL := Lib.hid hbl
  have hble : b.length ≤ m.length := by omega
  have hmle : m.length ≤ b.length := by omega
  clear hbl
  go_wp2_with fail
  refine (valid_ref n _ _ (h0.now hb4)).mono ?_
  rintro e w3 ⟨rfl, hb5⟩
  have hb6 := bthen hb4 hb5
  have hB3 := hB2.now hb5
  clear q0 q1 q2 q3 hB2 hb4 hb5
  obtain ⟨q0, q1, q2, q3⟩ := hB3.c4
  generalize hq : validB n = qv
  have HV := Lib.hid hq
  clear hq
  cases qv
  · go_wp2_with fail
    go_ret
    exact ⟨rfl, hb6⟩
  go_wp2_with fail
  refine (marking_ref n _ _ m _ (h0.now hb6) (hm.now hb6)).mono ?_
  rintro e w4 ⟨rfl, hb7⟩
  have hb8 := bthen hb6 hb7
  have hB4 := hB3.now hb7
  clear q0 q1 q2 q3 hB3 hb6 hb7
  obtain ⟨q0, q1, q2, q3⟩ := hB4.c4
  generalize hq : markingB n.places m = qv
  have HM := Lib.hid hq
  clear hq
  cases qv
  · go_wp2_with fail
    go_ret
    exact ⟨rfl, hb8⟩
  go_wp2_with fail
  refine (marking_ref n _ _ b _ (h0.now hb8) (hbb.now hb8)).mono ?_
  rintro e w5 ⟨rfl, hb9⟩
  have hb10 := bthen hb8 hb9
  have hB5 := hB4.now hb9
  clear q0 q1 q2 q3 hB4 hb8 hb9
  obtain ⟨q0, q1, q2, q3⟩ := hB5.c4
  generalize hq : markingB n.places b = qv
  have HMB := Lib.hid hq
  clear hq
  cases qv
  · go_wp2_with fail
    go_ret
    exact ⟨rfl, hb10⟩
  go_wp2_with fail
  refine (run_any n _ _ _ m l _ (h0.now hb10) (hm.now hb10) (hl.now hb10)).mono ?_
  rintro e w6 ⟨x1, rfl, hx1, hb11⟩
  have hb12 := bthen hb10 hb11
  have hB6 := hB5.now hb11
  clear q0 q1 q2 q3 hB5 hb10 hb11 hbl'
  obtain ⟨Ax, cx, rfl, x1l, x1c, hx1⟩ := hx1.open_
  have HR : Hid (runB n m l = runB n m l) := rfl
  generalize hR : runB n m l = R at *
  have HRM := Lib.hid hR
  clear hR HR
  go_wp2_with fail
  go_loopw [12, 66] (fun yv i wr => ∃ k : Nat, k ≤ m.length ∧ i = .int .i64 k ∧ (∀ j, j < k → m.getD j 0 + b.getD j 0 ≤ 100) ∧ wr.ownsRow w6.heap.size 3 1 yv k ((sumTo m b k).map (Value.int .i64)) ∧ Below w6.heap.size w6 wr) (fun _ i _ => m.length - (intOf i).toNat)
  case atStart => exact ⟨0, Nat.zero_le _, rfl, (fun j h => absurd h (by omega)), World.ownsRow_nil _ _ _ _, Below.refl _ _⟩
  case round =>
    obtain ⟨k, hk, rfl, hle, hown, hbr⟩ := hrel
    have HLE := Lib.hid hle
    clear hle
    have hszr := hbr.size
    by_cases hlt : k < m.length
    · obtain ⟨bm, om, x, rfl, hDm, hxm, hfm, cm0⟩ := ((hm.now hb12).now hbr).at_ hlt
      obtain ⟨bb, ob, y, rfl, hDb, hxb, hfb, cb0⟩ := ((hbb.now hb12).now hbr).at_ (show k < b.length by omega)
      have fx := getD_fit0 HM.out k
      have fy := getD_fit0 HMB.out k
      have ex := get_some hxm
      have ey := get_some hxb
      rw [ex] at fx
      rw [ey] at fy
      have HS : Hid (sumTo m b (k + 1) = sumTo m b k ++ [x + y]) := by rw [← ex, ← ey]; exact sumTo_succ m b k
      have HXY : Hid (m.getD k 0 + b.getD k 0 = x + y) := by rw [ex, ey]; rfl
      have i1 : (0 : Int) ≤ (k : Int) := by omega
      have i2 : (k : Int) < (m.length : Int) := by omega
      have i3 : (k : Int) < (b.length : Int) := by omega
      have hk7 : k < 10000000 := by omega
      have wxy : IntKind.i64.wrap (x + y) = x + y := IntWalk.i64_in _ (by omega)
      clear ex ey hxm hxb hfm hfb hDm hDb
      by_cases h100 : 100 < x + y
      · have d1 : decide (100 < x + y) = true := by simpa using h100
        go_wp2_with fail
        go_quiet (fail)
        clear wxy
        go_wp2_with fail
        go_ret
        exact ⟨rfl, bdrawn (bthen hb12 hbr) _⟩
      · have d1 : decide (100 < x + y) = false := by simpa using h100
        go_wp2_with fail
        go_quiet (fail)
        go_wp2_with fail
        generalize hwd : wr.drewN _ = wd
        have hown1 : wd.ownsRow w6.heap.size 3 1 u12 k ((sumTo m b k).map (Value.int .i64)) := by rw [← hwd]; exact hown
        have hbr1 : Below w6.heap.size w6 wd := by rw [← hwd]; exact bdrawn hbr _
        have e0 : wd.cell? ⟨bm, om + k, none⟩ = some (.int .i64 x) := by rw [← hwd]; exact cm0
        have e1 : wd.cell? ⟨bb, ob + k, none⟩ = some (.int .i64 y) := by rw [← hwd]; exact cb0
        have hsz1 := hbr1.size
        clear hwd hown hbr cm0 cb0 hszr
        go_region_law (refine step_push_drew appInts rfl (.tmp 79) (.tmp 89) rfl _ [.int .i64 (x + y)] rfl (by simp [Value.oneCell']) u12 k ((sumTo m b k).map (Value.int .i64)) rfl hown1 rfl hk7 hsz1 ?_; intro v' w' hown' hgr hat)
        all_goals
          clear wxy
          have hbg : Below w6.heap.size wd w' := below_of_grown hgr hsz1 (fun g hg => (hown1.lt g hg).1)
          go_wp2_with fail
          go_roundw
          case rel =>
            refine ⟨k + 1, by omega, by go_num, fun j hj => ?_, ?_, hbr1.trans hbg⟩
            · by_cases e : j = k
              · subst e; rw [HXY.out]; omega
              · exact HLE.out j (by omega)
            · rw [HS.out]; simpa using hown'
          case measure => simp [intOf]; omega
    · obtain rfl : k = m.length := by omega
      have HY := Lib.hid (sum_marking HM.out HMB.out HLE.out)
      have HSU := Lib.hid (sums_sumTo m b HBL.out)
      have hys : SlI (Lt wr.heap.size) wr u12 (sumTo m b m.length) := SlI.of_own hown (fun z hz => by
        have := (markOk HY.out).2 z hz
        unfold Fit; omega)
      obtain ⟨q0, q1, q2, q3⟩ := (hB6.now hbr).c4
      have hb13 := bthen hb12 hbr
      obtain ⟨Ay, cy, rfl, y1, y2, hys⟩ := hys.open_
      go_wp2_with fail
      refine (run_any n _ _ _ (sumTo m b m.length) l _ (h0.now hb13) hys (hl.now hb13)).mono ?_
      rintro e w7 ⟨x2, rfl, hx2, hb14⟩
      have hb15 := bthen hb13 hb14
      have hx1w := (hx1.now hbr).now hb14
      have hbw := hbb.now hb15
      obtain ⟨Az, cz, rfl, z1, z2, hx2⟩ := hx2.open_
      have HML : Hid (R.2.2 = 0 → (runB n (sumTo m b m.length) l).2.2 = 5 ∨ ((runB n (sumTo m b m.length) l).2.2 = 0 ∧ Sums R.1 b (runB n (sumTo m b m.length) l).1 ∧ R.1.length = m.length)) := by
        intro hr0
        have := runB_more (l := l) HV.out HM.out HY.out (fun k => (getD_fit0 HMB.out k).1) HSU.out (by omega) (by rw [HRM.out]; exact hr0)
        rwa [HRM.out] at this
      generalize runB n (sumTo m b m.length) l = Z at *
      clear q0 q1 q2 q3
      by_cases hr0 : R.2.2 = 0
      rotate_left
      · have f1 : (R.2.2 != 0) = true := by simpa using hr0
        go_wp2_with fail
        go_ret
        exact ⟨rfl, hb15⟩
      have f1 : (R.2.2 != 0) = false := by simpa using hr0
      rcases HML.out hr0 with hz5 | ⟨hz0, hsum, hrl⟩
      · have f2 : (Z.2.2 == 5) = true := by simpa using hz5
        clear hr0 hz5
        go_wp2_with fail
        go_ret
        exact ⟨rfl, hb15⟩
      have f2 : (Z.2.2 == 5) = false := by rw [hz0]; rfl
      have f3 : (Z.2.2 != 0) = false := by rw [hz0]; rfl
      have hzl : Z.1.length = m.length := hsum.1.trans hrl
      have f4 : ((Z.1.length : Int) != (m.length : Int)) = false := by simp [hzl]
      have f5 : ((R.1.length : Int) != (m.length : Int)) = false := by simp [hrl]
      have HSM := Lib.hid hsum
      have g1 : m.length ≤ Z.1.length := by omega
      have g2 : m.length ≤ R.1.length := by omega
      clear hr0 hz0 hsum hrl hzl
      go_wp2_with fail
      clear f1 f2 f3 f4 f5
      obtain ⟨wo, rfl⟩ : ∃ wo : World, wo = wr := ⟨_, rfl⟩
      go_loopw [124] (fun i wr => ∃ k : Nat, k ≤ m.length ∧ i = .int .i64 k ∧ Below w7.heap.size w7 wr) (fun i _ => m.length - (intOf i).toNat)
      case atStart => exact ⟨0, Nat.zero_le _, rfl, Below.refl _ _⟩
      case round =>
        obtain ⟨k, hk2, rfl, hbr2⟩ := hrel
        by_cases hlt2 : k < m.length
        · obtain ⟨bz, oz, z, rfl, _, hxz, hfz, cz0⟩ := (hx2.now hbr2).at_ (show k < Z.1.length by omega)
          obtain ⟨bx, ox, x, rfl, _, hxx, hfx, cx0⟩ := (hx1w.now hbr2).at_ (show k < R.1.length by omega)
          obtain ⟨bb, ob, y, rfl, _, hxb, hfb, cb0⟩ := (hbw.now hbr2).at_ (show k < b.length by omega)
          have hs2 := HSM.out.2 k
          rw [get_some hxz, get_some hxx, get_some hxb] at hs2
          have i1 : (0 : Int) ≤ (k : Int) := by omega
          have i2 : (k : Int) < (Z.1.length : Int) := by omega
          have i3 : (k : Int) < (R.1.length : Int) := by omega
          have i4 : (k : Int) < (b.length : Int) := by omega
          have wxy : IntKind.i64.wrap (x + y) = z := by rw [← hs2]; exact IntWalk.i64_in _ hfz
          have d1 : (z != z) = false := by simp
          clear hs2 hxz hxx hxb hfz hfx hfb
          go_wp2_with fail
          go_quiet (fail)
          clear wxy
          go_wp2_with fail
          go_roundw
          case rel => exact ⟨k + 1, by omega, by go_num, bdrawn hbr2 _⟩
          case measure => simp [intOf]; omega
        · go_wp2_with fail
          go_ret
          exact ⟨rfl, bthen hb15 hbr2⟩
end Go.Proofs.YtphdafhidhfmnaaDoor
