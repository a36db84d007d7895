/- PetriFires: Enabled and Fire return what is specified, for every input. The walk of the law. -/
import Derived.Test.YtphdafhidhfmnaaDoorAwake
import Derived.Test.YtphdafhidhfmnaaDoorEnabled
import Derived.Test.YtphdafhidhfmnaaDoorGreat
namespace Go.Proofs.YtphdafhidhfmnaaDoor
open Go.RowKit

set_option maxHeartbeats 4000000 in
set_option maxRecDepth 100000 in
theorem lawFires (n : Net) (m : List Int) (t : Int) (v mv : Value) (w : World) (h : IsNet (Lt w.heap.size) w v n) (hm : SlI (Lt w.heap.size) w mv m) :
    Calls Tryd.prog 6 #[v, mv, .int .i64 t] w fun e w' => e = .returned (.bool true) ∧ Below w.heap.size w w' := by
  have h0 := h
  obtain ⟨tv, rfl, hp, hs, hkk, ht⟩ := h
  obtain ⟨A, c, rfl, h1, h2, ht⟩ := ht.open_
  obtain ⟨Am, cm, rfl, m1, m2, hm⟩ := hm.open_
  go_enter Tryd.func6, Tryd.ntmps6
  go_wp2_with fail
  have hb := bone w (Obj.cells #[Value.int IntKind.i64 n.places, Value.slice A n.trans.length c, Value.int IntKind.i64 n.source, Value.int IntKind.i64 n.sink] 24)
  have hB := Blk.new w 24 #[.int .i64 n.places, .slice A n.trans.length c, .int .i64 n.source, .int .i64 n.sink]
  refine (awake_any _).mono ?_
  rintro e w1 ⟨rfl, hb1⟩
  have hb2 := bthen hb hb1
  have hB1 := hB.now hb1
  obtain ⟨q0, q1, q2, q3⟩ := hB1.c4
  clear hb hB hb1
  go_wp2_with fail
  refine (great_any n _ _ (h0.now hb2)).mono ?_
  rintro e w2 ⟨rfl, hb3⟩
  have hb4 := bthen hb2 hb3
  have hB2 := hB1.now hb3
  clear q0 q1 q2 q3 hB1 hb2 hb3
  obtain ⟨q0, q1, q2, q3⟩ := hB2.c4
  generalize greatB n = g
  cases g
  rotate_left
  · go_wp2_with fail
    go_ret
    exact ⟨rfl, hb4⟩
  by_cases hm60 : 60 < m.length
  · go_wp2_with fail
    go_ret
    exact ⟨rfl, hb4⟩
  go_wp2_with fail
  refine (enabledX_any n _ _ m _ (h0.now hb4) (hm.now hb4)).mono ?_
  rintro e w3 ⟨x1, rfl, hx1, hb5⟩
  have hb6 := bthen hb4 hb5
  have hB3 := hB2.now hb5
  clear q0 q1 q2 q3 hB2 hb4 hb5
  obtain ⟨q0, q1, q2, q3⟩ := hB3.c4
  go_wp2_with fail
  refine (fireX_any n _ _ m t _ (h0.now hb6) (hm.now hb6)).mono ?_
  rintro e w4 ⟨x2, rfl, hx2, hb7⟩
  have hb8 := bthen hb6 hb7
  have hB4 := hB3.now hb7
  have hx1a := hx1.now hb7
  clear q0 q1 q2 q3 hB3 hb6 hb7 hx1
  obtain ⟨q0, q1, q2, q3⟩ := hB4.c4
  go_wp2_with fail
  refine (fire_ref n _ _ m t _ (h0.now hb8) (hm.now hb8)).mono ?_
  rintro e w5 ⟨x3, rfl, hx3, hb9⟩
  have hb10 := bthen hb8 hb9
  have hB5 := hB4.now hb9
  have hx1b := hx1a.now hb9
  have hx2b := hx2.now hb9
  clear q0 q1 q2 q3 hB4 hb8 hb9 hx1a hx2
  generalize fireE n m t = F at *
  obtain ⟨A1, c1, rfl, a1, a2, hx1b⟩ := hx1b.open_
  go_wp2_with fail
  refine (equalI _ _ F.1 F.1 _ hx2b hx3).mono ?_
  rintro e w6 ⟨rfl, q, rfl⟩
  rw [beq_self_eq_true]
  have hb11 := bdrawn hb10 q
  have hx1c : SlI (Lt (w5.drewN q).heap.size) (w5.drewN q) (.slice A1 (enE n m).1.length c1) (enE n m).1 := hx1b
  have hB6 := hB5.drewN q
  clear hx1b hx2b hx3 hB5 hb10
  generalize w5.drewN q = w7 at *
  obtain ⟨q0, q1, q2, q3⟩ := hB6.c4
  have e2 : (F.2 != F.2) = false := by simp
  go_wp2_with fail
  refine (valid_ref n _ _ (h0.now hb11)).mono ?_
  rintro e w8 ⟨rfl, hb12⟩
  have hb13 := bthen hb11 hb12
  have hB7 := hB6.now hb12
  have hx1d := hx1c.now hb12
  clear q0 q1 q2 q3 hB6 hb11 hb12 hx1c
  obtain ⟨q0, q1, q2, q3⟩ := hB7.c4
  generalize hq : validB n = qv
  have HV := Lib.hid hq
  clear hq
  cases qv
  · have HE : Hid (enE n m = ([], 1)) := by show enE n m = _; unfold enE; rw [HV.out]; rfl
    rw [HE.out]
    go_wp2_with fail
    go_ret
    exact ⟨rfl, hb13⟩
  go_wp2_with fail
  refine (marking_ref n _ _ m _ (h0.now hb13) (hm.now hb13)).mono ?_
  rintro e w9 ⟨rfl, hb14⟩
  have hb15 := bthen hb13 hb14
  have hB8 := hB7.now hb14
  have hx1e := hx1d.now hb14
  clear q0 q1 q2 q3 hB7 hb13 hb14 hx1d
  obtain ⟨q0, q1, q2, q3⟩ := hB8.c4
  generalize hq : markingB n.places m = qv
  have HM := Lib.hid hq
  clear hq
  cases qv
  · have HE : Hid (enE n m = ([], 1)) := by show enE n m = _; unfold enE; rw [HV.out, HM.out]; rfl
    rw [HE.out]
    go_wp2_with fail
    go_ret
    exact ⟨rfl, hb15⟩
  have HE : Hid (enE n m = (enB n m, 0)) := by show enE n m = _; unfold enE; rw [HV.out, HM.out]; rfl
  rw [HE.out] at hx1e ⊢
  go_wp2_with fail
  refine (enabled_ref n _ _ m _ (h0.now hb15) (hm.now hb15) HV.out HM.out).mono ?_
  rintro e w10 ⟨x4, rfl, hx4, hb16⟩
  have hx1f := hx1e.now hb16
  go_wp2_with fail
  refine (equalI _ _ (enB n m) (enB n m) _ hx1f hx4).mono ?_
  rintro e w11 ⟨rfl, q', rfl⟩
  rw [beq_self_eq_true]
  go_wp2_with fail
  go_ret
  exact ⟨rfl, bdrawn (bthen hb15 hb16) q'⟩
end Go.Proofs.YtphdafhidhfmnaaDoor
