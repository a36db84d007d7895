/- petri.Workflow. -/
import Derived.Test.YtlkkfkkhllijbaaDoorReach
import Derived.Test.YtlkkfkkhllijbaaDoorSlices
namespace Go.Proofs.YtlkkfkkhllijbaaDoor
open Go.RowKit

def startOf (n : Net) (back : Bool) : Int := if back then n.sink else n.source
def Covers (n : Net) (back : Bool) : Prop :=
  (∀ k : Nat, k < n.places.toNat → Reach (arcs back n) (startOf n back) k) ∧ (∀ t ∈ n.trans, ∃ q ∈ (arcOf back t).1, Reach (arcs back n) (startOf n back) q)
def Bare (n : Net) (t : Tr) : Prop := n.source ∉ t.outs ∧ n.sink ∉ t.ins
def WorkflowP (n : Net) : Prop := validB n = true ∧ n.source ≠ n.sink ∧ (∀ t ∈ n.trans, Bare n t) ∧ Covers n false ∧ Covers n true
open Classical in
noncomputable def workflowB (n : Net) : Bool := decide (WorkflowP n)
theorem workflow_yes {n : Net} (h : WorkflowP n) : workflowB n = true := by unfold workflowB; simpa using h
theorem workflow_no {n : Net} (h : ¬ WorkflowP n) : workflowB n = false := by unfold workflowB; simpa using h

theorem covers_of {n : Net} {back : Bool} {pl tr : List Bool} (h : Found (arcs back n) n.places.toNat (startOf n back) pl tr) :
    Covers n back ↔ ((pl.any fun y => false == y) = false ∧ (tr.any fun y => false == y) = false) := by
  obtain ⟨h1, h2, h3, h4⟩ := h
  have e1 : (∀ k : Nat, k < n.places.toNat → Reach (arcs back n) (startOf n back) k) ↔ (pl.any fun y => false == y) = false := by
    rw [List.any_eq_false]
    constructor
    · intro h x hx
      obtain ⟨k, hk, rfl⟩ := List.mem_iff_getElem.1 hx
      have := (h3 k).2 (h k (by omega))
      rw [List.getD_eq_getElem?_getD, List.getElem?_eq_getElem hk] at this
      have h' : pl[k] = true := this
      rw [h']; simp
    · intro h k hk
      rw [← h3 k, List.getD_eq_getElem?_getD, List.getElem?_eq_getElem (by omega)]
      have := h pl[k] (List.getElem_mem (by omega))
      simpa using this
  have e2 : (∀ t ∈ n.trans, ∃ q ∈ (arcOf back t).1, Reach (arcs back n) (startOf n back) q) ↔ (tr.any fun y => false == y) = false := by
    have hl : (arcs back n).length = n.trans.length := by unfold arcs; simp
    have hget : ∀ (i : Nat) (hi : i < n.trans.length), (arcs back n)[i]? = some (arcOf back n.trans[i]) := fun i hi => by
      unfold arcs; rw [List.getElem?_map, List.getElem?_eq_getElem hi]; rfl
    rw [List.any_eq_false]
    constructor
    · intro h x hx
      obtain ⟨k, hk, rfl⟩ := List.mem_iff_getElem.1 hx
      have hk' : k < n.trans.length := by omega
      have := (h4 k _ (hget k hk')).2 (h _ (List.getElem_mem hk'))
      rw [List.getD_eq_getElem?_getD, List.getElem?_eq_getElem hk] at this
      have h' : tr[k] = true := this
      rw [h']; simp
    · intro h t ht
      obtain ⟨k, hk, rfl⟩ := List.mem_iff_getElem.1 ht
      rw [← h4 k _ (hget k hk), List.getD_eq_getElem?_getD, List.getElem?_eq_getElem (by omega)]
      have := h tr[k] (List.getElem_mem (by omega))
      simpa using this
  unfold Covers
  rw [e1, e2]

set_option maxHeartbeats 2000000 in
theorem workflow_any (n : Net) (v : Value) (w : World) (h : IsNet (Lt w.heap.size) w v n) :
    Calls Tryd.prog 7 #[v] w fun e w' => e = .returned (.bool (workflowB n)) ∧ Below w.heap.size w w' := by
  have h0 := h
  obtain ⟨tv, rfl, hp, hs, hkk, ht⟩ := h
  obtain ⟨A, c, rfl, h1, h2, ht⟩ := ht.open_
  go_enter Tryd.func7, Tryd.ntmps7
  go_wp2_with fail
  have hb := bone w (Obj.cells #[Value.int IntKind.i64 n.places, Value.slice A n.trans.length c, Value.int IntKind.i64 n.source, Value.int IntKind.i64 n.sink] 24)
  refine (valid_any n _ _ (h0.now hb)).mono ?_
  rintro e w1 ⟨rfl, hb1⟩
  have hbw := bthen hb hb1
  have hB1 := (Blk.new w 24 #[.int .i64 n.places, .slice A n.trans.length c, .int .i64 n.source, .int .i64 n.sink]).now hb1
  obtain ⟨q0, q1, q2, q3⟩ := hB1.c4
  generalize hq : validB n = q
  have HV := Lib.hid hq
  clear hq
  cases q
  · have HE := Lib.hid (workflow_no (n := n) (fun h => by have := h.1; rw [HV.out] at this; cases this))
    go_wp2_with fail
    go_ret
    exact ⟨ret_bool HE.out.symm, hbw⟩
  obtain ⟨v1, v2, v3, v4⟩ := validOk HV.out
  have HIN := Lib.hid (insideOk HV.out)
  clear v4
  by_cases hss : n.source = n.sink
  · have HE := Lib.hid (workflow_no (n := n) (fun h => h.2.1 hss))
    have hss' : (n.source == n.sink) = true := by simpa using hss
    clear hss
    go_wp2_with fail
    go_ret
    exact ⟨ret_bool HE.out.symm, hbw⟩
  have hss' : (n.source == n.sink) = false := by simpa using hss
  have HSS := Lib.hid hss
  clear hss
  go_wp2_with fail
  clear q0 q1 q2 q3
  go_loopw [23] (fun i wr => ∃ k : Nat, k ≤ n.trans.length ∧ i = .int .i64 k ∧ (∀ (j : Nat) (t : Tr), j < k → n.trans[j]? = some t → Bare n t) ∧ Below w.heap.size w wr ∧ Blk wr w.heap.size 24 #[.int .i64 n.places, .slice A n.trans.length c, .int .i64 n.source, .int .i64 n.sink]) (fun i _ => n.trans.length - (intOf i).toNat)
  case atStart => exact ⟨0, Nat.zero_le _, rfl, fun j _ h => absurd h (by omega), hbw, hB1⟩
  case round =>
    obtain ⟨k, hk, rfl, hp', hbr, hBr⟩ := hrel
    have HP := Lib.hid hp'
    clear hp'
    have hlt0 := hBr.lt
    obtain ⟨q0, q1, q2, q3⟩ := hBr.c4
    by_cases hlt : k < n.trans.length
    · obtain ⟨b, o, t, iv, ov, rfl, hD, hx, hl, hi, ho, c0, c1, c2⟩ := (ht.now hbr).at_ hlt
      obtain ⟨Ai, ci, rfl, i1, i2, hi⟩ := hi.open_
      obtain ⟨Ao, co, rfl, o1, o2, ho⟩ := ho.open_
      have HX := Lib.hid hx
      have ho1 := ho.now (bone wr (.cells #[.string t.label, .slice Ai t.ins.length ci, .slice Ao t.outs.length co] 30))
      have hi1 := hi.now (bone wr (.cells #[.string t.label, .slice Ai t.ins.length ci, .slice Ao t.outs.length co] 30))
      clear hx
      go_wp2_with fail
      refine (containsI _ t.outs n.source _ ho1).mono ?_
      rintro e w2 ⟨rfl, rfl⟩
      cases hc1 : t.outs.contains n.source with
      | true =>
        have HE := Lib.hid (workflow_no (n := n) (fun h => (h.2.2.1 t (List.mem_of_getElem? HX.out)).1 (by simpa using hc1)))
        clear hc1
        go_wp2_with fail
        go_ret
        exact ⟨ret_bool HE.out.symm, bbox hbr _⟩
      | false =>
        have HC1 := Lib.hid hc1
        clear hc1
        go_wp2_with fail
        refine (containsI _ t.ins n.sink _ hi1).mono ?_
        rintro e w2 ⟨rfl, rfl⟩
        cases hc2 : t.ins.contains n.sink with
        | true =>
          have HE := Lib.hid (workflow_no (n := n) (fun h => (h.2.2.1 t (List.mem_of_getElem? HX.out)).2 (by simpa using hc2)))
          clear hc2
          go_wp2_with fail
          go_ret
          exact ⟨ret_bool HE.out.symm, bbox hbr _⟩
        | false =>
          have HC2 := Lib.hid hc2
          clear hc2
          go_wp2_with fail
          go_roundw
          case rel =>
            refine ⟨k + 1, by omega, by go_num, fun j t' hj ht' => ?_, bbox hbr _, hBr.alloc _⟩
            by_cases e : j = k
            · subst e; rw [HX.out] at ht'; injection ht' with ht'; subst ht'
              exact ⟨by have := HC1.out; simpa using this, by have := HC2.out; simpa using this⟩
            · exact HP.out j t' (by omega) ht'
          case measure => simp [intOf]; omega
    · have HBA : Hid (∀ t ∈ n.trans, Bare n t) := by
        intro t ht
        obtain ⟨j, hj, rfl⟩ := List.mem_iff_getElem.1 ht
        exact HP.out j _ (by omega) (List.getElem?_eq_getElem hj)
      obtain ⟨wo, rfl⟩ : ∃ wo : World, wo = wr := ⟨_, rfl⟩
      have hBo := hBr.alloc (.cells #[.bool false, .bool true] 4)
      have hbo := bbox hbr (.cells #[.bool false, .bool true] 4)
      have hLo := Blk.new wo 4 #[.bool false, .bool true]
      clear q0 q1 q2 q3
      go_wp2_with fail
      go_loopw [42] (fun i wx => ∃ k : Nat, k ≤ 2 ∧ i = .int .i64 k ∧ (0 < k → Covers n false) ∧ (1 < k → Covers n true) ∧ Below w.heap.size w wx ∧ Blk wx w.heap.size 24 #[.int .i64 n.places, .slice A n.trans.length c, .int .i64 n.source, .int .i64 n.sink] ∧ Blk wx wo.heap.size 4 #[.bool false, .bool true]) (fun i _ => 2 - (intOf i).toNat)
      case atStart => exact ⟨0, by omega, rfl, (fun h => absurd h (by omega)), (fun h => absurd h (by omega)), hbo, hBo, hLo⟩
      case round =>
        obtain ⟨k2, hk2, rfl, hcf, hct, hbx, hBx, hLx⟩ := hrel
        have HCF := Lib.hid hcf
        have HCT := Lib.hid hct
        clear hcf hct hBo hbo hLo hBr hbr
        have hltx := hBx.lt
        obtain ⟨q0, q1, q2, q3⟩ := hBx.c4
        obtain ⟨x0, x1⟩ := hLx.c2
        rcases (show k2 = 0 ∨ k2 = 1 ∨ k2 = 2 by omega) with rfl | rfl | rfl
        · have HRC := Lib.hid (fun W (hW : Below w.heap.size w W) => reached_any n _ n.source false W (h0.now hW) HV.out HIN.out.1)
          go_wp2_with fail
          refine (HRC.out _ hbx).mono ?_
          rintro e w3 ⟨pv, tv', pl, tr, rfl, hpl, htr, hfo, hb3⟩
          have HCV := Lib.hid (covers_of (n := n) (back := false) hfo)
          obtain ⟨Ap, cp, rfl, p1, p2, hpl⟩ := hpl.open_
          obtain ⟨At, ct, rfl, t1, t2, htr⟩ := htr.open_
          clear HRC hfo
          go_wp2_with fail
          refine (containsB _ pl false _ hpl).mono ?_
          rintro e w4 ⟨rfl, rfl⟩
          cases hc1 : (pl.any fun y => false == y) with
          | true =>
            have HE := Lib.hid (workflow_no (n := n) (fun h => by have := (HCV.out.1 h.2.2.2.1).1; rw [hc1] at this; cases this))
            clear hc1
            go_wp2_with fail
            go_ret
            exact ⟨ret_bool HE.out.symm, bthen hbx hb3⟩
          | false =>
            have HC1 := Lib.hid hc1
            clear hc1
            go_wp2_with fail
            refine (containsB _ tr false _ htr).mono ?_
            rintro e w4 ⟨rfl, rfl⟩
            cases hc2 : (tr.any fun y => false == y) with
            | true =>
              have HE := Lib.hid (workflow_no (n := n) (fun h => by have := (HCV.out.1 h.2.2.2.1).2; rw [hc2] at this; cases this))
              clear hc2
              go_wp2_with fail
              go_ret
              exact ⟨ret_bool HE.out.symm, bthen hbx hb3⟩
            | false =>
              have HOK := Lib.hid (HCV.out.2 ⟨HC1.out, hc2⟩)
              clear hc2
              go_wp2_with fail
              go_roundw
              case rel => exact ⟨1, by omega, by go_num, (fun _ => HOK.out), (fun h => absurd h (by omega)), bthen hbx hb3, hBx.now hb3, hLx.now hb3⟩
              case measure => simp [intOf]
        · have HRC := Lib.hid (fun W (hW : Below w.heap.size w W) => reached_any n _ n.sink true W (h0.now hW) HV.out HIN.out.2)
          go_wp2_with fail
          refine (HRC.out _ hbx).mono ?_
          rintro e w3 ⟨pv, tv', pl, tr, rfl, hpl, htr, hfo, hb3⟩
          have HCV := Lib.hid (covers_of (n := n) (back := true) hfo)
          obtain ⟨Ap, cp, rfl, p1, p2, hpl⟩ := hpl.open_
          obtain ⟨At, ct, rfl, t1, t2, htr⟩ := htr.open_
          clear HRC hfo
          go_wp2_with fail
          refine (containsB _ pl false _ hpl).mono ?_
          rintro e w4 ⟨rfl, rfl⟩
          cases hc1 : (pl.any fun y => false == y) with
          | true =>
            have HE := Lib.hid (workflow_no (n := n) (fun h => by have := (HCV.out.1 h.2.2.2.2).1; rw [hc1] at this; cases this))
            clear hc1
            go_wp2_with fail
            go_ret
            exact ⟨ret_bool HE.out.symm, bthen hbx hb3⟩
          | false =>
            have HC1 := Lib.hid hc1
            clear hc1
            go_wp2_with fail
            refine (containsB _ tr false _ htr).mono ?_
            rintro e w4 ⟨rfl, rfl⟩
            cases hc2 : (tr.any fun y => false == y) with
            | true =>
              have HE := Lib.hid (workflow_no (n := n) (fun h => by have := (HCV.out.1 h.2.2.2.2).2; rw [hc2] at this; cases this))
              clear hc2
              go_wp2_with fail
              go_ret
              exact ⟨ret_bool HE.out.symm, bthen hbx hb3⟩
            | false =>
              have HOK := Lib.hid (HCV.out.2 ⟨HC1.out, hc2⟩)
              clear hc2
              go_wp2_with fail
              go_roundw
              case rel => exact ⟨2, by omega, by go_num, (fun _ => HCF.out (by omega)), (fun _ => HOK.out), bthen hbx hb3, hBx.now hb3, hLx.now hb3⟩
              case measure => simp [intOf]
        · have HE := Lib.hid (workflow_yes (n := n) ⟨HV.out, HSS.out, HBA.out, HCF.out (by omega), HCT.out (by omega)⟩)
          go_wp2_with fail
          go_ret
          exact ⟨ret_bool HE.out.symm, hbx⟩
end Go.Proofs.YtlkkfkkhllijbaaDoor
