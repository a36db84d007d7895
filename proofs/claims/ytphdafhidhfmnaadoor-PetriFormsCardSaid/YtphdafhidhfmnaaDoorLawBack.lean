/- PetriBack: a run can be taken back, for every input. The walk of the law. -/
import Derived.Test.YtphdafhidhfmnaaDoorAwake
import Derived.Test.YtphdafhidhfmnaaDoorReverse
import Derived.Test.YtphdafhidhfmnaaDoorGreat
import Derived.Test.YtphdafhidhfmnaaDoorRun
import Derived.Deep.RegionHeld3
namespace Go.Proofs.YtphdafhidhfmnaaDoor
open Go.RowKit

/-- slices.Reverse on a row of the call's own. -/
theorem reverseI (v : Value) (zs : List Int) (base : Nat) (w : World) (h : w.ownsRow base 3 1 v zs.length (zs.map (Value.int .i64))) (hf : ∀ z ∈ zs, Fit z) (hz : zs.length ≤ 1000) :
    Calls Tryd.prog 24 #[v] w fun e w' => e = .returned (.tuple #[]) ∧ SlI (Lt w'.heap.size) w' v zs.reverse ∧ Below base w w' := by
  by_cases hn : 0 < zs.length
  · obtain ⟨g, cap, rfl, hcap, ho⟩ := OwnI.of h hn
    have hH : Go.Sort.Holds (Value.int .i64) w g 0 zs.toArray := fun j hj => by
      have hj' : j < zs.length := by simpa using hj
      rw [Nat.zero_add]
      refine ⟨?_, ho.frozen j⟩
      rw [ho.cell (List.getElem?_eq_getElem hj')]
      simp [hj']
    refine (Tryd.slices_Reverse_int g 0 cap zs w hH (by omega)).mono ?_
    rintro e w' ⟨rfl, q, rfl⟩
    have hH' := Go.Sort.holds_putRow (Value.int .i64) (Go.Sort.ahead w q) g 0 zs.toArray zs.reverse.toArray (Go.Sort.holds_ahead _ _ _ _ _ _ hH) (by simp)
    refine ⟨rfl, ?_, ?_⟩
    · have hm : cap ≤ maxLen := by
        rcases ho.1.2 with ⟨h', _⟩ | ⟨g', cap', cur, h', _, _, _, hm, _⟩
        · simp at h'
        · injection h' with _ _ e; omega
      refine ⟨_, cap, by rw [List.length_reverse], by rw [List.length_reverse]; exact hcap, hm, fun i x hx => ?_⟩
      have hi : i < zs.reverse.length := by
        rcases Nat.lt_or_ge i zs.reverse.length with h' | h'
        · exact h'
        · rw [List.getElem?_eq_none h'] at hx; cases hx
      refine ⟨g, 0, [.int .i64 x], rfl, by unfold Lt; simpa using ho.lt, rfl, ⟨rfl, hf x (by simpa using List.mem_of_getElem? hx)⟩, fun j u hu => ?_⟩
      match j, hu with
      | 0, hu =>
        injection hu with hu; subst hu
        have := (hH' i (by simpa using hi)).1
        rw [Nat.mul_one, Nat.add_zero, this]
        have e : zs.reverse.toArray[i]! = x := by simp [hx]
        rw [e]
      | j + 1, hu => simp at hu
    · refine ⟨rfl, rfl, rfl, by simp, fun i hi => ?_⟩
      have hne : g ≠ i := by have := ho.from_; omega
      simp [Go.Sort.putRow, Go.Sort.mapBlock, Array.getElem?_modify, hne]
  · have : zs = [] := List.eq_nil_of_length_eq_zero (by omega)
    subst this
    rcases h.2 with ⟨rfl, _⟩ | ⟨g, cap, cur, rfl, hb, hg, hc, hm, hs, htake⟩
    · refine (Tryd.slices_Reverse_int_empty none 0 w).mono ?_
      rintro e w' ⟨rfl, rfl⟩
      exact ⟨rfl, Sl.none_, Below.refl _ _⟩
    · refine (Tryd.slices_Reverse_int_empty (some ⟨g, 0, none⟩) cap w).mono ?_
      rintro e w' ⟨rfl, rfl⟩
      exact ⟨rfl, ⟨_, cap, rfl, hc, hm, fun i x hx => by simp at hx⟩, Below.refl _ _⟩

/-- The cells that the law's two nets lie in. -/
def TwoNets (W : World) (a b : Nat) (n : Net) (tv rv : Value) : Prop :=
  (W.cell? ⟨a, 0, none⟩ = some (.int .i64 n.places) ∧ W.cell? ⟨a, 1, none⟩ = some tv ∧ W.cell? ⟨a, 2, none⟩ = some (.int .i64 n.source) ∧ W.cell? ⟨a, 3, none⟩ = some (.int .i64 n.sink)) ∧
  (W.cell? ⟨b, 0, none⟩ = some (.int .i64 n.places) ∧ W.cell? ⟨b, 1, none⟩ = some rv ∧ W.cell? ⟨b, 2, none⟩ = some (.int .i64 n.sink) ∧ W.cell? ⟨b, 3, none⟩ = some (.int .i64 n.source))

set_option maxHeartbeats 4000000 in
set_option maxRecDepth 100000 in
theorem lawBack (n : Net) (m l : List Int) (v mv lv : Value) (w : World) (h : IsNet (Lt w.heap.size) w v n) (hm : SlI (Lt w.heap.size) w mv m) (hl : SlI (Lt w.heap.size) w lv l) :
    Calls Tryd.prog 5 #[v, mv, lv] w fun e w' => e = .returned (.bool true) ∧ Below w.heap.size w w' := by
  have h0 := h
  obtain ⟨tv, rfl, hp, hs, hkk, ht⟩ := h
  obtain ⟨A, c, rfl, h1, h2, ht⟩ := ht.open_
  obtain ⟨Al, cl, rfl, l1, l2, hl⟩ := hl.open_
  obtain ⟨Am, cm, rfl, m1, m2, hm⟩ := hm.open_
  go_enter Tryd.func5, Tryd.ntmps5
  go_wp2_with fail
  have hb := bone w (Obj.cells #[Value.int IntKind.i64 n.places, Value.slice A n.trans.length c, Value.int IntKind.i64 n.source, Value.int IntKind.i64 n.sink] 24)
  have hB := Blk.new w 24 #[.int .i64 n.places, .slice A n.trans.length c, .int .i64 n.source, .int .i64 n.sink]
  refine (awake_any _).mono ?_
  rintro e w1 ⟨rfl, hb1⟩
  have hb2 := bthen hb hb1
  have hB1 := hB.now hb1
  obtain ⟨q0, q1, q2, q3⟩ := hB1.c4
  clear hb hB hb1
  go_wp2_with fail
  refine (great_any n _ _ (h0.now hb2)).mono ?_
  rintro e w2 ⟨rfl, hb3⟩
  have hb4 := bthen hb2 hb3
  have hB2 := hB1.now hb3
  clear q0 q1 q2 q3 hB1 hb2 hb3
  obtain ⟨q0, q1, q2, q3⟩ := hB2.c4
  generalize greatB n = g
  cases g
  rotate_left
  · go_wp2_with fail
    go_ret
    exact ⟨rfl, hb4⟩
  by_cases hm60 : 60 < m.length
  · go_wp2_with fail
    go_ret
    exact ⟨rfl, hb4⟩
  by_cases hl60 : 60 < l.length
  · go_wp2_with fail
    go_ret
    exact ⟨rfl, hb4⟩
  go_wp2_with fail
  refine (reverse_any n _ _ (h0.now hb4)).mono ?_
  rintro e w3 ⟨rv, rfl, hr, hb5⟩
  have hb6 := bthen hb4 hb5
  have hB3 := hB2.now hb5
  clear q0 q1 q2 q3 hB2 hb4 hb5
  obtain ⟨q0, q1, q2, q3⟩ := hB3.c4
  have hlt3 := hB3.lt
  generalize hq : validB n = qv
  have HV := Lib.hid hq
  clear hq
  cases qv
  · have HE : Hid (revE n = (noNet, 1)) := by show revE n = _; unfold revE; rw [HV.out]; rfl
    rw [HE.out] at hr ⊢
    obtain ⟨rt, rfl, _, _, _, hrt⟩ := hr
    obtain ⟨Ar, cr, rfl, r1, r2, hrt⟩ := hrt.open_
    have hbb := bbox hb6 (.cells #[.int .i64 noNet.places, .slice Ar noNet.trans.length cr, .int .i64 noNet.source, .int .i64 noNet.sink] 24)
    go_wp2_with fail
    refine (workflow_any n _ _ (h0.now hbb)).mono ?_
    rintro e w4 ⟨rfl, hb7⟩
    rw [workflow_valid HV.out]
    go_wp2_with fail
    go_ret
    exact ⟨rfl, bthen hbb hb7⟩
  have HE : Hid (revE n = (revN n, 0)) := by show revE n = _; unfold revE; rw [HV.out]; rfl
  rw [HE.out] at hr ⊢
  have hr0 := hr
  obtain ⟨rt, rfl, _, _, _, hrt⟩ := hr
  obtain ⟨Ar, cr, rfl, r1, r2, hrt⟩ := hrt.open_
  have e1 : (revN n).trans.length = n.trans.length := by show (n.trans.map revT).length = _; simp
  have e2 : (revN n).places = n.places := rfl
  have e3 : (revN n).source = n.sink := rfl
  have e4 : (revN n).sink = n.source := rfl
  rw [e1, e2, e3, e4] at hr0 ⊢
  rw [e1] at r1
  clear e1 e2 e3 e4 hrt
  have hbb := bbox hb6 (.cells #[.int .i64 n.places, .slice Ar n.trans.length cr, .int .i64 n.sink, .int .i64 n.source] 24)
  have hB4 := hB3.alloc (.cells #[.int .i64 n.places, .slice Ar n.trans.length cr, .int .i64 n.sink, .int .i64 n.source] 24)
  have hR4 := Blk.new w3 24 #[.int .i64 n.places, .slice Ar n.trans.length cr, .int .i64 n.sink, .int .i64 n.source]
  have hr4 := hr0.now (bone w3 (.cells #[.int .i64 n.places, .slice Ar n.trans.length cr, .int .i64 n.sink, .int .i64 n.source] 24))
  go_upto_region 8 with fail
  generalize hw4 : w3.alloc (.cells #[.int .i64 n.places, .slice Ar n.trans.length cr, .int .i64 n.sink, .int .i64 n.source] 24) = w4 at *
  generalize hbr : w3.heap.size = br at *
  clear hw4 hbr hB3 q0 q1 q2 q3
  have HS : Hid (∀ W, Below w4.heap.size w4 W → TwoNets W w.heap.size br n (.slice A n.trans.length c) (.slice Ar n.trans.length cr)) := fun W hW => ⟨(hB4.now hW).c4, (hR4.now hW).c4⟩
  have HC1 : Hid (∀ W, Below w4.heap.size w4 W → Calls Tryd.prog 22 #[.agg #[.int .i64 n.places, .slice A n.trans.length c, .int .i64 n.source, .int .i64 n.sink]] W fun e w' => e = .returned (.bool (workflowB n)) ∧ Below w4.heap.size w4 w') :=
    fun W hW => (workflow_any n _ W (h0.now (bthen hbb hW))).mono fun e w' ⟨he, hb⟩ => ⟨he, bthen hW hb⟩
  have HC2 : Hid (∀ W, Below w4.heap.size w4 W → Calls Tryd.prog 22 #[.agg #[.int .i64 n.places, .slice Ar n.trans.length cr, .int .i64 n.sink, .int .i64 n.source]] W fun e w' => e = .returned (.bool (workflowB n)) ∧ Below w4.heap.size w4 w') :=
    fun W hW => (workflow_any (revN n) _ W (hr4.now hW)).mono fun e w' ⟨he, hb⟩ => ⟨by rw [he, workflowB_rev], bthen hW hb⟩
  have hbd : Below w4.heap.size w4 w4.drew := (Below.refl _ _).drew
  generalize workflowB n = wf at *
  have HT := HS.out _ hbd
  obtain ⟨⟨a0, a1, a2, a3⟩, b0, b1, b2, b3⟩ := HT
  go_region_held3 (fun W => (W.cell? ⟨w.heap.size, 0, none⟩ = some (.int .i64 n.places) ∧ W.cell? ⟨w.heap.size, 1, none⟩ = some (.slice A n.trans.length c) ∧ W.cell? ⟨w.heap.size, 2, none⟩ = some (.int .i64 n.source) ∧ W.cell? ⟨w.heap.size, 3, none⟩ = some (.int .i64 n.sink)) ∧ W.cell? ⟨br, 0, none⟩ = some (.int .i64 n.places) ∧ W.cell? ⟨br, 1, none⟩ = some (.slice Ar n.trans.length cr) ∧ W.cell? ⟨br, 2, none⟩ = some (.int .i64 n.sink) ∧ W.cell? ⟨br, 3, none⟩ = some (.int .i64 n.source)) (exact HS.out _ (by assumption))
    (first
    | (go_at_call 22; (with_reducible refine (HC1.out _ (by assumption)).mono ?_); rintro e w5 ⟨rfl, hb7⟩)
    | (go_at_call 22; (with_reducible refine (HC2.out _ (by assumption)).mono ?_); rintro e w6 ⟨rfl, hb8⟩))
  have hbne : (wf != wf) = false := by simp
  have hB6 := hB4.now hb8
  have hR6 := hR4.now hb8
  have hr6 := hr4.now hb8
  have hb9 := bthen hbb hb8
  clear a0 a1 a2 a3 b0 b1 b2 b3 HS HC1 HC2 hB4 hR4 hr4 hbb hb7 hb8 hbd
  obtain ⟨q0, q1, q2, q3⟩ := hB6.c4
  go_wp2_with fail
  refine (run_any n _ _ _ m l _ (h0.now hb9) (hm.now hb9) (hl.now hb9)).mono ?_
  rintro e w7 ⟨xv, rfl, hx, hb10⟩
  have hb11 := bthen hb9 hb10
  have hR7 := hR6.now hb10
  have hr7 := hr6.now hb10
  clear q0 q1 q2 q3 hB6 hR6 hr6 hb9 hb10
  have HBK : Hid (l.length ≤ 60 → (runB n m l).2.2 = 0 → runB (revN n) (runB n m l).1 l.reverse = (m, l.length, 0)) := fun h1 h2 => runB_back (runB_ok h2).1 (runB_ok h2).2 h1 h2
  generalize runB n m l = R at *
  obtain ⟨x, k, c2⟩ := R
  dsimp only at hx HBK ⊢
  by_cases hc0 : c2 = 0
  rotate_left
  · have hc1 : (c2 != 0) = true := by simpa using hc0
    clear hc0
    go_wp2_with fail
    go_ret
    exact ⟨rfl, hb11⟩
  have hc1 : (c2 != 0) = false := by simpa using hc0
  have HB := Lib.hid (HBK.out (by omega) hc0)
  clear HBK
  subst hc0
  obtain ⟨Ax, cx, rfl, x1, x2, hx⟩ := hx.open_
  go_wp2_with fail
  refine (cloneI _ l _ (hl.now hb11) (by omega)).mono ?_
  rintro e w8 ⟨bv, rfl, hown, hb12⟩
  go_wp2_with fail
  refine (reverseI _ l _ _ hown (fun z hz => hl.fits z hz) (by omega)).mono ?_
  rintro e w9 ⟨rfl, hrv, hb14⟩
  have hb15 := hb12.trans hb14
  have hb16 := bthen hb11 hb15
  have hx9 := hx.now hb15
  have hR9 := hR7.now hb15
  have hr9 := hr7.now hb15
  clear hx hR7 hr7 hb12 hb14 hb15 hown hb11
  obtain ⟨q0, q1, q2, q3⟩ := hR9.c4
  go_wp2_with fail
  refine (run_any (revN n) _ _ _ x l.reverse _ hr9 hx9 hrv).mono ?_
  rintro e w10 ⟨yv, rfl, hy, hb17⟩
  rw [HB.out] at hy ⊢
  obtain ⟨Ay, cy, rfl, y1, y2, hy⟩ := hy.open_
  have hb18 := bthen hb16 hb17
  clear q0 q1 q2 q3 hR9 hr9 hx9 hrv
  dsimp only at hy ⊢
  have hkl : ((l.length : Int) == (l.length : Int)) = true := by simp
  go_wp2_with fail
  refine (equalI _ _ m m _ hy (hm.now hb18)).mono ?_
  rintro e w11 ⟨rfl, q, rfl⟩
  rw [beq_self_eq_true]
  go_wp2_with fail
  go_ret
  exact ⟨rfl, bdrawn hb18 q⟩
end Go.Proofs.YtphdafhidhfmnaaDoor
