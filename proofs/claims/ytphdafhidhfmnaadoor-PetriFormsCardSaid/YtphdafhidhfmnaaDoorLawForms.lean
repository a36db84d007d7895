/- The law PetriForms, walked. -/
import Derived.Test.YtphdafhidhfmnaaDoorWorkflowRef
import Derived.Test.YtphdafhidhfmnaaDoorActs
import Derived.Test.YtphdafhidhfmnaaDoorLawBack
namespace Go.Proofs.YtphdafhidhfmnaaDoor
open Go.RowKit

theorem noNet_is {D : Nat → Prop} {w : World} : IsNet D w (.agg #[.int .i64 0, .slice none 0 0, .int .i64 0, .int .i64 0]) noNet :=
  ⟨_, rfl, by unfold Fit noNet; simp, by unfold Fit noNet; simp, by unfold Fit noNet; simp, Sl.none_⟩
def FourCells (W : World) (g : Nat) (a b c d : Value) : Prop := W.cell? ⟨g, 0, none⟩ = some a ∧ W.cell? ⟨g, 1, none⟩ = some b ∧ W.cell? ⟨g, 2, none⟩ = some c ∧ W.cell? ⟨g, 3, none⟩ = some d

set_option maxHeartbeats 4000000 in
set_option maxRecDepth 100000 in
theorem petriForms_law (n : Net) (v : Value) (w : World) (h : IsNet (Lt w.heap.size) w v n) :
    Calls Tryd.prog 10 #[v] w fun e w' => e = .returned (.bool true) ∧ Below w.heap.size w w' := by
  have h0 := h
  obtain ⟨tv, rfl, hp, hs, hkk, ht⟩ := h
  obtain ⟨A, c, rfl, h1, h2, ht⟩ := ht.open_
  go_enter Tryd.func10, Tryd.ntmps10
  go_wp2_with fail
  have hb := bone w (Obj.cells #[Value.int IntKind.i64 n.places, Value.slice A n.trans.length c, Value.int IntKind.i64 n.source, Value.int IntKind.i64 n.sink] 24)
  have hB := Blk.new w 24 #[.int .i64 n.places, .slice A n.trans.length c, .int .i64 n.source, .int .i64 n.sink]
  refine (awake_any _).mono ?_
  rintro e w1 ⟨rfl, hb1⟩
  have hb2 := bthen hb hb1
  have hB1 := hB.now hb1
  obtain ⟨q0, q1, q2, q3⟩ := hB1.c4
  clear hb hB hb1
  go_wp2_with fail
  refine (great_any n _ _ (h0.now hb2)).mono ?_
  rintro e w2 ⟨rfl, hb3⟩
  have hb4 := bthen hb2 hb3
  have hB2 := hB1.now hb3
  clear q0 q1 q2 q3 hB1 hb2 hb3
  obtain ⟨q0, q1, q2, q3⟩ := hB2.c4
  generalize greatB n = g
  cases g
  rotate_left
  · go_wp2_with fail
    go_ret
    exact ⟨rfl, hb4⟩
  go_wp2_with fail
  refine (valid_ref n _ _ (h0.now hb4)).mono ?_
  rintro e w3 ⟨rfl, hb5⟩
  have hb6 := bthen hb4 hb5
  have hB3 := hB2.now hb5
  clear q0 q1 q2 q3 hB2 hb4 hb5
  obtain ⟨q0, q1, q2, q3⟩ := hB3.c4
  go_upto_region 6 with fail
  have HS : Hid (∀ W, Below w3.heap.size w3 W → W.cell? ⟨w.heap.size, 0, none⟩ = some (.int .i64 n.places) ∧ W.cell? ⟨w.heap.size, 1, none⟩ = some (.slice A n.trans.length c) ∧ W.cell? ⟨w.heap.size, 2, none⟩ = some (.int .i64 n.source) ∧ W.cell? ⟨w.heap.size, 3, none⟩ = some (.int .i64 n.sink)) := fun W hW => (hB3.now hW).c4
  have HCV : Hid (∀ W, Below w3.heap.size w3 W → Calls Tryd.prog 38 #[.agg #[.int .i64 n.places, .slice A n.trans.length c, .int .i64 n.source, .int .i64 n.sink]] W fun e w' => e = .returned (.bool (validB n)) ∧ Below w3.heap.size w3 w') :=
    fun W hW => (valid_any n _ W (h0.now (bthen hb6 hW))).mono fun e w' ⟨he, hb⟩ => ⟨he, bthen hW hb⟩
  have HC1 : Hid (∀ W, Below w3.heap.size w3 W → Calls Tryd.prog 22 #[.agg #[.int .i64 n.places, .slice A n.trans.length c, .int .i64 n.source, .int .i64 n.sink]] W fun e w' => e = .returned (.bool (workflowB n)) ∧ Below w3.heap.size w3 w') :=
    fun W hW => (workflow_any n _ W (h0.now (bthen hb6 hW))).mono fun e w' ⟨he, hb⟩ => ⟨he, bthen hW hb⟩
  have HC2 : Hid (∀ W, Below w3.heap.size w3 W → Calls Tryd.prog 39 #[.agg #[.int .i64 n.places, .slice A n.trans.length c, .int .i64 n.source, .int .i64 n.sink]] W fun e w' => e = .returned (.bool (workflowB n)) ∧ Below w3.heap.size w3 w') :=
    fun W hW => (workflow_ref n _ W (h0.now (bthen hb6 hW))).mono fun e w' ⟨he, hb⟩ => ⟨he, bthen hW hb⟩
  have hbd : Below w3.heap.size w3 w3.drew := (Below.refl _ _).drew
  obtain ⟨a0, a1, a2, a3⟩ := HS.out _ hbd
  generalize workflowB n = wf at *
  generalize hqv : validB n = qv at *
  have HV := Lib.hid hqv
  clear hqv
  have hb1' : (qv != qv) = false := by simp
  have hb2' : (wf != wf) = false := by simp
  go_region_held3 (fun W => W.cell? ⟨w.heap.size, 0, none⟩ = some (.int .i64 n.places) ∧ W.cell? ⟨w.heap.size, 1, none⟩ = some (.slice A n.trans.length c) ∧ W.cell? ⟨w.heap.size, 2, none⟩ = some (.int .i64 n.source) ∧ W.cell? ⟨w.heap.size, 3, none⟩ = some (.int .i64 n.sink)) (exact HS.out _ (by assumption))
    (first
    | (go_at_call 38; (with_reducible refine (HCV.out _ (by assumption)).mono ?_); rintro e w4 ⟨rfl, hb7⟩)
    | (go_at_call 22; (with_reducible refine (HC1.out _ (by assumption)).mono ?_); rintro e w5 ⟨rfl, hb8⟩)
    | (go_at_call 39; (with_reducible refine (HC2.out _ (by assumption)).mono ?_); rintro e w6 ⟨rfl, hb9⟩))
  have hB6 := hB3.now hb9
  have hb10 := bthen hb6 hb9
  clear a0 a1 a2 a3 q0 q1 q2 q3 HS HCV HC1 HC2 hB3 hb6 hb7 hb8 hb9 hbd hb1' hb2'
  obtain ⟨q0, q1, q2, q3⟩ := hB6.c4
  go_wp2_with fail
  refine (initial_any n _ _ (h0.now hb10)).mono ?_
  rintro e w7 ⟨iv, rfl, hi, hb11⟩
  have hB7 := hB6.now hb11
  have hb12 := bthen hb10 hb11
  clear q0 q1 q2 q3 hB6 hb10 hb11
  obtain ⟨q0, q1, q2, q3⟩ := hB7.c4
  obtain ⟨Ai, ci, rfl, _, _, hi⟩ := hi.open_
  go_wp2_with fail
  refine (final_any n _ _ (h0.now hb12)).mono ?_
  rintro e w8 ⟨fv, rfl, hf, hb13⟩
  have hB8 := hB7.now hb13
  have hi8 := hi.now hb13
  have hb14 := bthen hb12 hb13
  clear q0 q1 q2 q3 hB7 hb12 hb13 hi
  obtain ⟨q0, q1, q2, q3⟩ := hB8.c4
  obtain ⟨Af, cf, rfl, _, _, hf⟩ := hf.open_
  go_wp2_with fail
  refine (acts_any n _ _ (h0.now hb14)).mono ?_
  rintro e w9 ⟨av, rfl, ha, hb15⟩
  have hB9 := hB8.now hb15
  have hi9 := hi8.now hb15
  have hf9 := hf.now hb15
  have hb16 := bthen hb14 hb15
  clear q0 q1 q2 q3 hB8 hb14 hb15 hi8 hf
  obtain ⟨q0, q1, q2, q3⟩ := hB9.c4
  obtain ⟨Aa, ca, rfl, _, _, ha⟩ := ha.open_
  go_wp2_with fail
  refine (reverse_any n _ _ (h0.now hb16)).mono ?_
  rintro e w10 ⟨rv, rfl, hr, hb17⟩
  have hB10 := hB9.now hb17
  have hi10 := hi9.now hb17
  have hf10 := hf9.now hb17
  have ha10 := ha.now hb17
  have hb18 := bthen hb16 hb17
  clear q0 q1 q2 q3 hB9 hb16 hb17 hi9 hf9 ha
  cases qv
  · have e1 : oneE n n.source = ([], 1) := by unfold oneE; rw [HV.out]; rfl
    have e2 : oneE n n.sink = ([], 1) := by unfold oneE; rw [HV.out]; rfl
    have e3 : actsE n = ([], 1) := by unfold actsE; rw [HV.out]; rfl
    have e4 : revE n = (noNet, 1) := by unfold revE; rw [HV.out]; rfl
    rw [e4] at hr
    rw [e1, e2, e3, e4]
    clear e1 e2 e3 e4 hi10 hf10 ha10
    obtain ⟨rt, rfl, _, _, _, hrt⟩ := hr
    obtain ⟨Ar, cr, rfl, _, _, hrt⟩ := hrt.open_
    have hbo := bone w10 (.cells #[.int .i64 noNet.places, .slice Ar noNet.trans.length cr, .int .i64 noNet.source, .int .i64 noNet.sink] 24)
    have hbb := bthen hb18 hbo
    have hr1 : IsNet (Lt (w10.alloc (.cells #[.int .i64 noNet.places, .slice Ar noNet.trans.length cr, .int .i64 noNet.source, .int .i64 noNet.sink] 24)).heap.size) (w10.alloc (.cells #[.int .i64 noNet.places, .slice Ar noNet.trans.length cr, .int .i64 noNet.source, .int .i64 noNet.sink] 24)) (.agg #[.int .i64 noNet.places, .slice Ar noNet.trans.length cr, .int .i64 noNet.source, .int .i64 noNet.sink]) noNet :=
      ⟨_, rfl, by unfold Fit noNet; simp, by unfold Fit noNet; simp, by unfold Fit noNet; simp, hrt.now hbo⟩
    go_wp2_with fail
    refine (sameNet noNet _ _ _ hr1 noNet_is).mono ?_
    rintro e w11 ⟨rfl, hb19⟩
    go_wp2_with fail
    go_ret
    exact ⟨rfl, bthen hbb hb19⟩
  have e1 : oneE n n.source = (oneB n n.source, 0) := by unfold oneE; rw [HV.out]; rfl
  have e2 : oneE n n.sink = (oneB n n.sink, 0) := by unfold oneE; rw [HV.out]; rfl
  have e3 : actsE n = (actsL n, 0) := by unfold actsE; rw [HV.out]; rfl
  have e4 : revE n = (revN n, 0) := by unfold revE; rw [HV.out]; rfl
  rw [e1] at hi10
  rw [e2] at hf10
  rw [e3] at ha10
  rw [e4] at hr
  rw [e1, e2, e3, e4]
  clear e1 e2 e3 e4
  dsimp only at hi10 hf10 ha10 hr ⊢
  have HIN := Lib.hid (insideOk HV.out)
  have hr0 := hr
  obtain ⟨rt, rfl, _, _, _, hrt⟩ := hr
  obtain ⟨Ar, cr, rfl, r1, r2, hrt⟩ := hrt.open_
  have e1 : (revN n).trans.length = n.trans.length := by show (n.trans.map revT).length = _; simp
  have e2 : (revN n).places = n.places := rfl
  have e3 : (revN n).source = n.sink := rfl
  have e4 : (revN n).sink = n.source := rfl
  rw [e1, e2, e3, e4] at hr0 ⊢
  clear e1 e2 e3 e4 hrt r1 r2
  have hbo := bone w10 (.cells #[.int .i64 n.places, .slice Ar n.trans.length cr, .int .i64 n.sink, .int .i64 n.source] 24)
  have hb20 := bthen hb18 hbo
  have hB11 := hB10.now hbo
  have hR11 := Blk.new w10 24 #[.int .i64 n.places, .slice Ar n.trans.length cr, .int .i64 n.sink, .int .i64 n.source]
  have hi11 := hi10.now hbo
  have hf11 := hf10.now hbo
  have ha11 := ha10.now hbo
  have hr11 := hr0.now hbo
  go_upto_region 14 with fail
  clear hbo hb18 hB10 hi10 hf10 ha10 hr0
  generalize hw11 : w10.alloc (.cells #[.int .i64 n.places, .slice Ar n.trans.length cr, .int .i64 n.sink, .int .i64 n.source] 24) = wx at *
  generalize hbr : w10.heap.size = br at *
  clear hw11 hbr
  have HS : Hid (∀ W, Below wx.heap.size wx W → (W.cell? ⟨w.heap.size, 0, none⟩ = some (.int .i64 n.places) ∧ W.cell? ⟨w.heap.size, 1, none⟩ = some (.slice A n.trans.length c) ∧ W.cell? ⟨w.heap.size, 2, none⟩ = some (.int .i64 n.source) ∧ W.cell? ⟨w.heap.size, 3, none⟩ = some (.int .i64 n.sink)) ∧ W.cell? ⟨br, 0, none⟩ = some (.int .i64 n.places) ∧ W.cell? ⟨br, 1, none⟩ = some (.slice Ar n.trans.length cr) ∧ W.cell? ⟨br, 2, none⟩ = some (.int .i64 n.sink) ∧ W.cell? ⟨br, 3, none⟩ = some (.int .i64 n.source)) := fun W hW => ⟨(hB11.now hW).c4, (hR11.now hW).c4⟩
  have HO1 : Hid (∀ W, Below wx.heap.size wx W → Calls Tryd.prog 44 #[.agg #[.int .i64 n.places, .slice A n.trans.length c, .int .i64 n.source, .int .i64 n.sink], .int .i64 n.source] W fun e w' => ∃ A' c', e = .returned (.slice A' (oneB n n.source).length c') ∧ SlI (Lt w'.heap.size) w' (.slice A' (oneB n n.source).length c') (oneB n n.source) ∧ Below wx.heap.size wx w') :=
    fun W hW => (one_ref n _ n.source W (h0.now (bthen hb20 hW)) HV.out HIN.out.1).mono fun e w' ⟨v', he, hsl, hb⟩ => by
      obtain ⟨A', c', rfl, _, _, hsl⟩ := hsl.open_
      exact ⟨A', c', he, hsl, bthen hW hb⟩
  have HO2 : Hid (∀ W, Below wx.heap.size wx W → Calls Tryd.prog 44 #[.agg #[.int .i64 n.places, .slice A n.trans.length c, .int .i64 n.source, .int .i64 n.sink], .int .i64 n.sink] W fun e w' => ∃ A' c', e = .returned (.slice A' (oneB n n.sink).length c') ∧ SlI (Lt w'.heap.size) w' (.slice A' (oneB n n.sink).length c') (oneB n n.sink) ∧ Below wx.heap.size wx w') :=
    fun W hW => (one_ref n _ n.sink W (h0.now (bthen hb20 hW)) HV.out HIN.out.2).mono fun e w' ⟨v', he, hsl, hb⟩ => by
      obtain ⟨A', c', rfl, _, _, hsl⟩ := hsl.open_
      exact ⟨A', c', he, hsl, bthen hW hb⟩
  have HQ1 : Hid (∀ W A' c', Below wx.heap.size wx W → SlI (Lt W.heap.size) W (.slice A' (oneB n n.source).length c') (oneB n n.source) → Calls Tryd.prog 17 #[.slice Ai (oneB n n.source).length ci, .slice A' (oneB n n.source).length c'] W fun e w' => e = .returned (.bool true) ∧ Below wx.heap.size wx w') :=
    fun W A' c' hW hsl => (equalI _ _ (oneB n n.source) (oneB n n.source) W (hi11.now hW) hsl).mono fun e w' ⟨he, q, hq⟩ => ⟨by rw [he, beq_self_eq_true], by rw [hq]; exact bdrawn hW q⟩
  have HQ2 : Hid (∀ W A' c', Below wx.heap.size wx W → SlI (Lt W.heap.size) W (.slice A' (oneB n n.sink).length c') (oneB n n.sink) → Calls Tryd.prog 17 #[.slice Af (oneB n n.sink).length cf, .slice A' (oneB n n.sink).length c'] W fun e w' => e = .returned (.bool true) ∧ Below wx.heap.size wx w') :=
    fun W A' c' hW hsl => (equalI _ _ (oneB n n.sink) (oneB n n.sink) W (hf11.now hW) hsl).mono fun e w' ⟨he, q, hq⟩ => ⟨by rw [he, beq_self_eq_true], by rw [hq]; exact bdrawn hW q⟩
  have HAC : Hid (∀ W, Below wx.heap.size wx W → Calls Tryd.prog 45 #[.agg #[.int .i64 n.places, .slice A n.trans.length c, .int .i64 n.source, .int .i64 n.sink]] W fun e w' => ∃ A' c', e = .returned (.slice A' (actsL n).length c') ∧ SlS (Lt w'.heap.size) w' (.slice A' (actsL n).length c') (actsL n) ∧ Below wx.heap.size wx w') :=
    fun W hW => (acts_ref n _ W (h0.now (bthen hb20 hW)) HV.out).mono fun e w' ⟨v', he, hsl, hb⟩ => by
      obtain ⟨A', c', rfl, _, _, hsl⟩ := hsl.open_
      exact ⟨A', c', he, hsl, bthen hW hb⟩
  have HQS : Hid (∀ W A' c', Below wx.heap.size wx W → SlS (Lt W.heap.size) W (.slice A' (actsL n).length c') (actsL n) → Calls Tryd.prog 18 #[.slice Aa (actsL n).length ca, .slice A' (actsL n).length c'] W fun e w' => e = .returned (.bool true) ∧ Below wx.heap.size wx w') :=
    fun W A' c' hW hsl => (equalS _ _ (actsL n) (actsL n) W (ha11.now hW) hsl).mono fun e w' ⟨he, q, hq⟩ => ⟨by rw [he]; simp, by rw [hq]; exact bdrawn hW q⟩
  have HRV : Hid (∀ W, Below wx.heap.size wx W → Calls Tryd.prog 46 #[.agg #[.int .i64 n.places, .slice A n.trans.length c, .int .i64 n.source, .int .i64 n.sink]] W fun e w' => ∃ rv, e = .returned rv ∧ IsNet (Lt w'.heap.size) w' rv (revN n) ∧ Below wx.heap.size wx w') :=
    fun W hW => (reverse_ref n _ W (h0.now (bthen hb20 hW)) HV.out).mono fun e w' ⟨rv, he, hr, hb⟩ => ⟨rv, he, hr, bthen hW hb⟩
  have HSM : Hid (∀ W rv, Below wx.heap.size wx W → IsNet (Lt W.heap.size) W rv (revN n) → Calls Tryd.prog 43 #[.agg #[.int .i64 n.places, .slice Ar n.trans.length cr, .int .i64 n.sink, .int .i64 n.source], rv] W fun e w' => e = .returned (.bool true) ∧ Below wx.heap.size wx w') :=
    fun W rv hW hr => (sameNet (revN n) _ _ W (hr11.now hW) hr).mono fun e w' ⟨he, hb⟩ => ⟨he, bthen hW hb⟩
  have hbd : Below wx.heap.size wx wx.drew := (Below.refl _ _).drew
  obtain ⟨⟨a0, a1, a2, a3⟩, c0, c1, c2, c3⟩ := HS.out _ hbd
  clear hi11 hf11 ha11 hr11 hB11 hR11
  generalize oneB n n.source = o1 at *
  generalize oneB n n.sink = o2 at *
  generalize actsL n = al at *
  go_region_held3 (fun W => (W.cell? ⟨w.heap.size, 0, none⟩ = some (.int .i64 n.places) ∧ W.cell? ⟨w.heap.size, 1, none⟩ = some (.slice A n.trans.length c) ∧ W.cell? ⟨w.heap.size, 2, none⟩ = some (.int .i64 n.source) ∧ W.cell? ⟨w.heap.size, 3, none⟩ = some (.int .i64 n.sink)) ∧ W.cell? ⟨br, 0, none⟩ = some (.int .i64 n.places) ∧ W.cell? ⟨br, 1, none⟩ = some (.slice Ar n.trans.length cr) ∧ W.cell? ⟨br, 2, none⟩ = some (.int .i64 n.sink) ∧ W.cell? ⟨br, 3, none⟩ = some (.int .i64 n.source)) (exact HS.out _ (by assumption))
    (first
    | (go_at_call 44; (with_reducible refine (HO1.out _ (by assumption)).mono ?_); rintro e x1 ⟨A1, d1, rfl, hs1, hbx1⟩)
    | (go_at_call 44; (with_reducible refine (HO2.out _ (by assumption)).mono ?_); rintro e x3 ⟨A2, d2, rfl, hs2, hbx3⟩)
    | (go_at_call 17; (with_reducible refine (HQ1.out _ _ _ (by assumption) (by assumption)).mono ?_); rintro e x2 ⟨rfl, hbx2⟩)
    | (go_at_call 17; (with_reducible refine (HQ2.out _ _ _ (by assumption) (by assumption)).mono ?_); rintro e x4 ⟨rfl, hbx4⟩)
    | (go_at_call 45; (with_reducible refine (HAC.out _ (by assumption)).mono ?_); rintro e x5 ⟨A3, d3, rfl, hs3, hbx5⟩)
    | (go_at_call 18; (with_reducible refine (HQS.out _ _ _ (by assumption) (by assumption)).mono ?_); rintro e x6 ⟨rfl, hbx6⟩)
    | (go_at_call 46; (with_reducible refine (HRV.out _ (by assumption)).mono ?_); rintro e x7 ⟨rv, rfl, hrv, hbx7⟩)
    | (go_at_call 43; (with_reducible refine (HSM.out _ _ (by assumption) (by assumption)).mono ?_); rintro e x8 ⟨rfl, hbx8⟩))
  go_wp2_with fail
  go_ret
  exact ⟨rfl, bthen hb20 hbx8⟩
end Go.Proofs.YtphdafhidhfmnaaDoor
