/- casebookref21.Workflow. -/
import Derived.Test.YtphdafhidhfmnaaDoorReachRef
import Derived.Test.YtphdafhidhfmnaaDoorReverseRef
namespace Go.Proofs.YtphdafhidhfmnaaDoor
open Go.RowKit

def TrFine (n : Net) (zs ys : List Int) (t : Tr) : Prop := t.outs.contains n.source = false ∧ t.ins.contains n.sink = false ∧ (t.ins.any fun x => zs.contains x) = true ∧ (t.outs.any fun x => ys.contains x) = true
def AllFine (n : Net) (zs ys : List Int) : Prop := (∀ k : Nat, k < n.places.toNat → zs.contains (k : Int) = true ∧ ys.contains (k : Int) = true) ∧ ∀ t ∈ n.trans, TrFine n zs ys t
theorem wf_of {n : Net} {zs ys : List Int} (hv : validB n = true) (hs : n.source ≠ n.sink) (hz : ∀ p, p ∈ zs ↔ Reach (arcs false n) n.source p) (hy : ∀ p, p ∈ ys ↔ Reach (arcs true n) n.sink p) : WorkflowP n ↔ AllFine n zs ys := by
  have hz' : ∀ p, zs.contains p = true ↔ Reach (arcs false n) n.source p := fun p => by rw [List.contains_iff_mem]; exact hz p
  have hy' : ∀ p, ys.contains p = true ↔ Reach (arcs true n) n.sink p := fun p => by rw [List.contains_iff_mem]; exact hy p
  have ha : ∀ t : Tr, (t.ins.any fun x => zs.contains x) = true ↔ ∃ q ∈ t.ins, Reach (arcs false n) n.source q := fun t => by
    rw [List.any_eq_true]
    exact exists_congr fun x => and_congr_right fun _ => hz' x
  have hb : ∀ t : Tr, (t.outs.any fun x => ys.contains x) = true ↔ ∃ q ∈ t.outs, Reach (arcs true n) n.sink q := fun t => by
    rw [List.any_eq_true]
    exact exists_congr fun x => and_congr_right fun _ => hy' x
  constructor
  · rintro ⟨_, _, h3, h4, h5⟩
    refine ⟨fun k hk => ⟨(hz' _).2 (h4.1 k hk), (hy' _).2 (h5.1 k hk)⟩, fun t ht => ⟨?_, ?_, (ha t).2 (h4.2 t ht), (hb t).2 (h5.2 t ht)⟩⟩
    · have := (h3 t ht).1; simpa using this
    · have := (h3 t ht).2; simpa using this
  · rintro ⟨h1, h2⟩
    refine ⟨hv, hs, fun t ht => ⟨?_, ?_⟩, ⟨fun k hk => (hz' _).1 (h1 k hk).1, fun t ht => (ha t).1 (h2 t ht).2.2.1⟩, ⟨fun k hk => (hy' _).1 (h1 k hk).2, fun t ht => (hb t).1 (h2 t ht).2.2.2⟩⟩
    · have := (h2 t ht).1; simpa using this
    · have := (h2 t ht).2.1; simpa using this

set_option maxHeartbeats 2000000 in
set_option maxRecDepth 100000 in
theorem workflow_ref (n : Net) (v : Value) (w : World) (h : IsNet (Lt w.heap.size) w v n) :
    Calls Tryd.prog 39 #[v] w fun e w' => e = .returned (.bool (workflowB n)) ∧ Below w.heap.size w w' := by
  have h0 := h
  obtain ⟨tv, rfl, hp, hs, hkk, ht⟩ := h
  obtain ⟨A, c, rfl, h1, h2, ht⟩ := ht.open_
  go_enter Tryd.func39, Tryd.ntmps39
  go_wp2_with fail
  have hb := bone w (Obj.cells #[Value.int IntKind.i64 n.places, Value.slice A n.trans.length c, Value.int IntKind.i64 n.source, Value.int IntKind.i64 n.sink] 24)
  refine (valid_ref n _ _ (h0.now hb)).mono ?_
  rintro e w1 ⟨rfl, hb1⟩
  have hbw := bthen hb hb1
  have hB1 := (Blk.new w 24 #[.int .i64 n.places, .slice A n.trans.length c, .int .i64 n.source, .int .i64 n.sink]).now hb1
  clear hb hb1
  obtain ⟨q0, q1, q2, q3⟩ := hB1.c4
  generalize hq : validB n = q
  have HV := Lib.hid hq
  clear hq
  cases q
  · have HE := Lib.hid (workflow_no (n := n) (fun h => by have := h.1; rw [HV.out] at this; cases this))
    go_wp2_with fail
    go_ret
    exact ⟨ret_bool HE.out.symm, hbw⟩
  obtain ⟨v1, v2, v3, v4⟩ := validOk HV.out
  have HIN := Lib.hid (insideOk HV.out)
  clear v4
  by_cases hss : n.source = n.sink
  · have HE := Lib.hid (workflow_no (n := n) (fun h => h.2.1 hss))
    have hss' : (n.source == n.sink) = true := by simpa using hss
    clear hss
    go_wp2_with fail
    go_ret
    exact ⟨ret_bool HE.out.symm, hbw⟩
  have hss' : (n.source == n.sink) = false := by simpa using hss
  have HSS := Lib.hid hss
  clear hss
  go_wp2_with fail
  refine (reach_ref n _ n.source _ (h0.now hbw) HV.out HIN.out.1).mono ?_
  rintro e w2 ⟨fv, zs, rfl, hzs, hzm, hb2⟩
  have HZ := Lib.hid hzm
  have hbw2 := bthen hbw hb2
  have hB2 := hB1.now hb2
  clear hzm hb2 hbw hB1 q0 q1 q2 q3
  obtain ⟨Af, cf, rfl, f1, f2, hzs⟩ := hzs.open_
  go_upto_region 4 with fail
  have HS : Hid (∀ W, Below w2.heap.size w2 W → W.cell? ⟨w.heap.size, 0, none⟩ = some (.int .i64 n.places) ∧ W.cell? ⟨w.heap.size, 1, none⟩ = some (.slice A n.trans.length c) ∧ W.cell? ⟨w.heap.size, 2, none⟩ = some (.int .i64 n.source) ∧ W.cell? ⟨w.heap.size, 3, none⟩ = some (.int .i64 n.sink)) := fun W hW => (hB2.now hW).c4
  have HC1 : Hid (∀ W, Below w2.heap.size w2 W → Calls Tryd.prog 46 #[.agg #[.int .i64 n.places, .slice A n.trans.length c, .int .i64 n.source, .int .i64 n.sink]] W fun e w' => ∃ rv, e = .returned rv ∧ IsNet (Lt w'.heap.size) w' rv (revN n) ∧ Below w2.heap.size w2 w') :=
    fun W hW => (reverse_ref n _ W (h0.now (bthen hbw2 hW)) HV.out).mono fun e w' ⟨rv, he, hr, hb⟩ => ⟨rv, he, hr, bthen hW hb⟩
  have HC2 : Hid (∀ W rv, Below w2.heap.size w2 W → IsNet (Lt W.heap.size) W rv (revN n) → Calls Tryd.prog 70 #[rv, .int .i64 n.sink] W fun e w' => ∃ A c ys, e = .returned (.slice A ys.length c) ∧ SlI (Lt w'.heap.size) w' (.slice A ys.length c) ys ∧ (∀ p, p ∈ ys ↔ Reach (arcs true n) n.sink p) ∧ Below w2.heap.size w2 w') :=
    fun W rv hW hr => (reach_ref (revN n) rv n.sink W hr (by rw [validB_rev]; exact HV.out) HIN.out.2).mono fun e w' ⟨v, ys, he, hsl, hm, hb⟩ => by
      obtain ⟨A', c', rfl, _, _, hsl⟩ := hsl.open_
      exact ⟨A', c', ys, he, hsl, fun p => by rw [hm, arcs_rev]; exact Iff.rfl, bthen hW hb⟩
  have hbd : Below w2.heap.size w2 w2.drew := (Below.refl _ _).drew
  obtain ⟨a0, a1, a2, a3⟩ := HS.out _ hbd
  go_region_held3 (fun W => W.cell? ⟨w.heap.size, 0, none⟩ = some (.int .i64 n.places) ∧ W.cell? ⟨w.heap.size, 1, none⟩ = some (.slice A n.trans.length c) ∧ W.cell? ⟨w.heap.size, 2, none⟩ = some (.int .i64 n.source) ∧ W.cell? ⟨w.heap.size, 3, none⟩ = some (.int .i64 n.sink)) (exact HS.out _ (by assumption))
    (first
    | (go_at_call 46; (with_reducible refine (HC1.out _ (by assumption)).mono ?_); rintro e w5 ⟨rv, rfl, hrv, hb7⟩)
    | (go_at_call 70; (with_reducible refine (HC2.out _ _ (by assumption) (by assumption)).mono ?_); rintro e w6 ⟨Ay, cy, ys, rfl, hys, hym, hb8⟩))
  have HY := Lib.hid hym
  have hB6 := hB2.now hb8
  have hz6 := hzs.now hb8
  have hb9 := bthen hbw2 hb8
  have HWF := Lib.hid (wf_of HV.out HSS.out HZ.out HY.out)
  clear a0 a1 a2 a3 HS HC1 HC2 hB2 hbw2 hb7 hb8 hbd hrv hym hzs HZ HY HSS hss'
  clear hp
  go_wp2_with fail
  go_loopw [5] (fun i wr => ∃ k : Nat, k ≤ n.places.toNat ∧ i = .int .i64 k ∧ wr = w6 ∧ ∀ j : Nat, j < k → zs.contains (j : Int) = true ∧ ys.contains (j : Int) = true) (fun i _ => n.places.toNat - (intOf i).toNat)
  case atStart => exact ⟨0, Nat.zero_le _, rfl, rfl, fun j hj => absurd hj (by omega)⟩
  case round =>
    obtain ⟨k, hk, rfl, rfl, hpre⟩ := hrel
    have HP := Lib.hid hpre
    clear hpre
    obtain ⟨q0, q1, q2, q3⟩ := hB6.c4
    by_cases hlt : (k : Int) < n.places
    · have i1 : k < n.places.toNat := by omega
      go_wp2_with fail
      refine (has_ref _ zs k _ hz6).mono ?_
      rintro e w' ⟨rfl, rfl⟩
      generalize hqz : zs.contains (k : Int) = qz
      have HQZ := Lib.hid hqz
      clear hqz
      cases qz
      · have HE := Lib.hid (workflow_no (n := n) (fun h => by
          have := ((HWF.out.1 h).1 k i1).1
          rw [HQZ.out] at this; cases this))
        go_wp2_with fail
        go_ret
        exact ⟨ret_bool HE.out.symm, hb9⟩
      go_wp2_with fail
      refine (has_ref _ ys k _ hys).mono ?_
      rintro e w' ⟨rfl, rfl⟩
      generalize hqy : ys.contains (k : Int) = qy
      have HQY := Lib.hid hqy
      clear hqy
      cases qy
      · have HE := Lib.hid (workflow_no (n := n) (fun h => by
          have := ((HWF.out.1 h).1 k i1).2
          rw [HQY.out] at this; cases this))
        go_wp2_with fail
        go_ret
        exact ⟨ret_bool HE.out.symm, hb9⟩
      go_wp2_with fail
      go_roundw
      case rel =>
        refine ⟨k + 1, by omega, by go_num, trivial, fun j hj => ?_⟩
        by_cases e : j = k
        · subst e; exact ⟨HQZ.out, HQY.out⟩
        · exact HP.out j (by omega)
      case measure => simp [intOf]; omega
    · have i1 : n.places.toNat ≤ k := by omega
      have HP1 : Hid (∀ k : Nat, k < n.places.toNat → zs.contains (k : Int) = true ∧ ys.contains (k : Int) = true) := fun j hj => HP.out j (by omega)
      clear HP hk i1
      go_wp2_with fail
      clear q0 q1 q2 q3
      obtain ⟨wo, rfl⟩ : ∃ wo : World, wo = wr := ⟨_, rfl⟩
      go_loopw [6] (fun i wx => ∃ k : Nat, k ≤ n.trans.length ∧ i = .int .i64 k ∧ Below wo.heap.size wo wx ∧ ∀ (j : Nat) (t : Tr), j < k → n.trans[j]? = some t → TrFine n zs ys t) (fun i _ => n.trans.length - (intOf i).toNat)
      case atStart => exact ⟨0, Nat.zero_le _, rfl, Below.refl _ _, fun j _ hj => absurd hj (by omega)⟩
      case round =>
        obtain ⟨k, hk, rfl, hbx, hpre⟩ := hrel
        have HP := Lib.hid hpre
        clear hpre
        have hBx := hB6.now hbx
        obtain ⟨q0, q1, q2, q3⟩ := hBx.c4
        have hbr := bthen hb9 hbx
        by_cases hlt : k < n.trans.length
        · obtain ⟨b, o, t, iv, ov, rfl, hD, hx, hl, hi, ho, c0, c1, c2⟩ := (ht.now hbr).at_ hlt
          obtain ⟨Ai, ci, rfl, i1, i2, hi⟩ := hi.open_
          obtain ⟨Ao, co, rfl, o1, o2, ho⟩ := ho.open_
          have HX := Lib.hid hx
          have hbo := bone wr (.cells #[.string t.label, .slice Ai t.ins.length ci, .slice Ao t.outs.length co] 64)
          have ho1 := ho.now hbo
          have hi1 := hi.now hbo
          have hz1 := (hz6.now hbx).now hbo
          have hy1 := (hys.now hbx).now hbo
          have hlt0 := hBx.lt
          clear hx
          go_wp2_with fail
          refine (has_ref _ t.outs n.source _ ho1).mono ?_
          rintro e w2 ⟨rfl, rfl⟩
          generalize hc1 : t.outs.contains n.source = qa
          have HC1 := Lib.hid hc1
          clear hc1
          cases qa
          rotate_left
          · have HE := Lib.hid (workflow_no (n := n) (fun h => by
              have := ((HWF.out.1 h).2 t (List.mem_of_getElem? HX.out)).1
              rw [HC1.out] at this; cases this))
            go_wp2_with fail
            go_ret
            exact ⟨ret_bool HE.out.symm, bbox hbr _⟩
          go_wp2_with fail
          refine (has_ref _ t.ins n.sink _ hi1).mono ?_
          rintro e w2 ⟨rfl, rfl⟩
          generalize hc2 : t.ins.contains n.sink = qb
          have HC2 := Lib.hid hc2
          clear hc2
          cases qb
          rotate_left
          · have HE := Lib.hid (workflow_no (n := n) (fun h => by
              have := ((HWF.out.1 h).2 t (List.mem_of_getElem? HX.out)).2.1
              rw [HC2.out] at this; cases this))
            go_wp2_with fail
            go_ret
            exact ⟨ret_bool HE.out.symm, bbox hbr _⟩
          go_wp2_with fail
          refine (some_ref _ _ t.ins zs _ hi1 hz1).mono ?_
          rintro e w2 ⟨rfl, rfl⟩
          generalize hc3 : (t.ins.any fun x => zs.contains x) = qc
          have HC3 := Lib.hid hc3
          clear hc3
          cases qc
          · have HE := Lib.hid (workflow_no (n := n) (fun h => by
              have := ((HWF.out.1 h).2 t (List.mem_of_getElem? HX.out)).2.2.1
              rw [HC3.out] at this; cases this))
            go_wp2_with fail
            go_ret
            exact ⟨ret_bool HE.out.symm, bbox hbr _⟩
          go_wp2_with fail
          refine (some_ref _ _ t.outs ys _ ho1 hy1).mono ?_
          rintro e w2 ⟨rfl, rfl⟩
          generalize hc4 : (t.outs.any fun x => ys.contains x) = qd
          have HC4 := Lib.hid hc4
          clear hc4
          cases qd
          · have HE := Lib.hid (workflow_no (n := n) (fun h => by
              have := ((HWF.out.1 h).2 t (List.mem_of_getElem? HX.out)).2.2.2
              rw [HC4.out] at this; cases this))
            go_wp2_with fail
            go_ret
            exact ⟨ret_bool HE.out.symm, bbox hbr _⟩
          go_wp2_with fail
          go_roundw
          case rel =>
            refine ⟨k + 1, by omega, by go_num, bbox hbx _, fun j t' hj ht' => ?_⟩
            by_cases e : j = k
            · subst e; rw [HX.out] at ht'; injection ht' with ht'; subst ht'
              exact ⟨HC1.out, HC2.out, HC3.out, HC4.out⟩
            · exact HP.out j t' (by omega) ht'
          case measure => simp [intOf]; omega
        · have HE := Lib.hid (workflow_yes (HWF.out.2 ⟨HP1.out, fun t ht => by
            obtain ⟨j, hj, rfl⟩ := List.mem_iff_getElem.1 ht
            exact HP.out j _ (by omega) (List.getElem?_eq_getElem hj)⟩))
          go_wp2_with fail
          go_ret
          exact ⟨ret_bool HE.out.symm, hbr⟩
end Go.Proofs.YtphdafhidhfmnaaDoor
