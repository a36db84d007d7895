/- PetriConnected: the walk. -/
import Derived.Test.YtlkkfkkhllijbaaDoorConnP
import Derived.Test.YtlkkfkkhllijbaaDoorStrong
import Derived.Test.YtlkkfkkhllijbaaDoorGreat
import Derived.Test.YtlkkfkkhllijbaaDoorAwake
import Derived.Test.YtlkkfkkhllijbaaDoorValid
namespace Go.Proofs.YtlkkfkkhllijbaaDoor
open Go.RowKit

theorem IsNet.form {D : Nat → Prop} {w : World} {v : Value} {n : Net} (h : IsNet D w v n) : ∃ A c, v = .agg #[.int .i64 n.places, .slice A n.trans.length c, .int .i64 n.source, .int .i64 n.sink] := by
  obtain ⟨tv, rfl, _, _, _, ht⟩ := h
  obtain ⟨A, c, rfl, _, _, _⟩ := ht.open_
  exact ⟨A, c, rfl⟩
def bareNot (n : Net) (t : Tr) : Bool := t.outs.contains n.source || t.ins.contains n.sink
theorem bare_no {n : Net} (h : n.trans.any (bareNot n) = true) : workflowB n = false := by
  refine workflow_no fun hw => ?_
  rw [List.any_eq_true] at h
  obtain ⟨t, ht, h⟩ := h
  obtain ⟨h1, h2⟩ := hw.2.2.1 t ht
  unfold bareNot at h
  simp only [Bool.or_eq_true, List.contains_iff_mem] at h
  rcases h with h | h
  · exact h1 h
  · exact h2 h
theorem bare_yes {n : Net} (h : n.trans.any (bareNot n) = false) : ∀ t ∈ n.trans, Bare n t := by
  intro t ht
  rw [List.any_eq_false] at h
  have h := h t ht
  unfold bareNot at h
  simp only [Bool.or_eq_true, List.contains_iff_mem, not_or] at h
  exact h
theorem invalid_no {n : Net} (h : validB n = false) : workflowB n = false := workflow_no (fun h' => by have := h'.1; rw [h] at this; cases this)
theorem same_no {n : Net} (h : n.source = n.sink) : workflowB n = false := workflow_no fun hw => hw.2.1 h

set_option maxHeartbeats 1000000 in
theorem conn1_any (n : Net) (A : Option Addr) (c g : Nat) (t : Tr) (v : Value) (w : World) (hg : Blk w g 24 #[.int .i64 n.places, .slice A n.trans.length c, .int .i64 n.source, .int .i64 n.sink]) (h : IsTr (Lt w.heap.size) w v t) :
    Calls Tryd.prog 9 (#[v] ++ #[.pointer (some ⟨g, 0, none⟩)]) w fun e w' => e = .returned (.bool (bareNot n t)) ∧ Below w.heap.size w w' := by
  obtain ⟨iv, ov, rfl, hl, hi, ho⟩ := h
  obtain ⟨Ai, ci, rfl, _, _, hi⟩ := hi.open_
  obtain ⟨Ao, co, rfl, _, _, ho⟩ := ho.open_
  have hb := bone w (.cells #[.string t.label, .slice Ai t.ins.length ci, .slice Ao t.outs.length co] 30)
  have hB := Blk.new w 30 #[.string t.label, .slice Ai t.ins.length ci, .slice Ao t.outs.length co]
  have hg1 := hg.now hb
  have HI := Lib.hid (hi.now hb)
  have HO := Lib.hid (ho.now hb)
  have HP : Hid (bareNot n t = (t.outs.contains n.source || t.ins.contains n.sink)) := rfl
  clear hi ho hg
  go_enter Tryd.func9, Tryd.ntmps9
  go_upto_region 1 with fail
  generalize w.alloc (.cells #[.string t.label, .slice Ai t.ins.length ci, .slice Ao t.outs.length co] 30) = w1 at *
  obtain ⟨q0, q1, q2, q3⟩ := hg1.c4
  obtain ⟨e0, e1, e2⟩ := hB.c3
  generalize hbi : t.ins.contains n.sink = bi at *
  generalize hbo : t.outs.contains n.source = bo at *
  cases bo
  · go_wp2_with fail
    refine (containsI _ t.outs n.source _ HO.out).mono ?_
    rintro e w2 ⟨rfl, rfl⟩
    rw [hbo]
    go_wp2_with fail
    refine (containsI _ t.ins n.sink _ HI.out).mono ?_
    rintro e w2 ⟨rfl, rfl⟩
    rw [hbi]
    go_wp2_with fail
    go_ret
    exact ⟨ret_bool (by rw [HP.out]; simp), hb⟩
  · go_wp2_with fail
    refine (containsI _ t.outs n.source _ HO.out).mono ?_
    rintro e w2 ⟨rfl, rfl⟩
    rw [hbo]
    go_wp2_with fail
    go_ret
    exact ⟨ret_bool (by rw [HP.out]; simp), hb⟩
theorem arcV_one (e : Nat × Nat) : ∀ u ∈ arcV e, u.oneCell' = true := by
  intro u hu
  unfold arcV at hu
  simp only [List.mem_cons, List.not_mem_nil, or_false] at hu
  rcases hu with rfl | rfl <;> rfl
theorem appArc : AppInfo Tryd.prog 33 36 2 := AppInfo.mk' (z := .agg #[.int .i64 0, .int .i64 0]) (bytes := 16) Tryd.underlying33 (by kernel_rfl) (by omega) rfl (by omega)

set_option maxHeartbeats 8000000 in
set_option maxRecDepth 100000 in
theorem petriConnected_law (n : Net) (v : Value) (w : World) (h : IsNet (Lt w.heap.size) w v n) :
    Calls Tryd.prog 3 #[v] w fun e w' => e = .returned (.bool true) ∧ Below w.heap.size w w' := by
  obtain ⟨A, c, rfl⟩ := h.form
  have hb0 := bone w (.cells #[.int .i64 n.places, .slice A n.trans.length c, .int .i64 n.source, .int .i64 n.sink] 24)
  have hB0 := Blk.new w 24 #[.int .i64 n.places, .slice A n.trans.length c, .int .i64 n.source, .int .i64 n.sink]
  go_enter Tryd.func3, Tryd.ntmps3
  go_upto_region 1 with fail
  generalize w.alloc (.cells #[.int .i64 n.places, .slice A n.trans.length c, .int .i64 n.source, .int .i64 n.sink] 24) = w0 at *
  go_wp2_with fail
  refine (awake_any _).mono ?_
  rintro e w1 ⟨rfl, hx⟩
  have hB1 := hB0.now hx
  have hb1 := bthen hb0 hx
  clear hB0 hb0 hx
  obtain ⟨q0, q1, q2, q3⟩ := hB1.c4
  obtain ⟨g, hg⟩ : ∃ g, greatB n = g := ⟨_, rfl⟩
  have HG := Lib.hid hg
  go_wp2_with fail
  refine (great_any n _ _ (h.now hb1)).mono ?_
  rintro e w2 ⟨rfl, hx⟩
  rw [hg]
  have hB2 := hB1.now hx
  have hb2 := bthen hb1 hx
  clear q0 q1 q2 q3 hB1 hb1 hx
  obtain ⟨q0, q1, q2, q3⟩ := hB2.c4
  cases g
  rotate_left
  · have hg' := HG.out
    go_wp2_with fail
    refine (workflow_any n _ _ (h.now hb2)).mono ?_
    rintro e w3 ⟨rfl, hx⟩
    have hB3 := hB2.now hx
    have hb3 := bthen hb2 hx
    clear q0 q1 q2 q3 hB2 hb2 hx
    obtain ⟨q0, q1, q2, q3⟩ := hB3.c4
    cases hw : workflowB n
    · clear hg hg'
      go_wp2_with fail
      go_ret
      exact ⟨rfl, hb3⟩
    · clear hw
      go_wp2_with fail
      refine (great_any n _ _ (h.now hb3)).mono ?_
      rintro e w4 ⟨rfl, hx⟩
      rw [hg']
      have hB4 := hB3.now hx
      have hb4 := bthen hb3 hx
      clear q0 q1 q2 q3 hB3 hb3 hx
      obtain ⟨q0, q1, q2, q3⟩ := hB4.c4
      clear hg hg'
      go_wp2_with fail
      go_ret
      exact ⟨rfl, hb4⟩
  clear hg
  obtain ⟨vb, hvb⟩ : ∃ vb, validB n = vb := ⟨_, rfl⟩
  have HVB := Lib.hid hvb
  go_wp2_with fail
  refine (valid_ref n _ _ (h.now hb2)).mono ?_
  rintro e w3 ⟨rfl, hx⟩
  rw [hvb]
  have hB3 := hB2.now hx
  have hb3 := bthen hb2 hx
  clear q0 q1 q2 q3 hB2 hb2 hx
  obtain ⟨q0, q1, q2, q3⟩ := hB3.c4
  clear hvb
  cases vb
  · have hw := invalid_no HVB.out
    go_wp2_with fail
    refine (workflow_any n _ _ (h.now hb3)).mono ?_
    rintro e w4 ⟨rfl, hx⟩
    rw [hw]
    have hB4 := hB3.now hx
    have hb4 := bthen hb3 hx
    clear q0 q1 q2 q3 hB3 hb3 hx
    obtain ⟨q0, q1, q2, q3⟩ := hB4.c4
    clear hw
    go_wp2_with fail
    go_ret
    exact ⟨rfl, hb4⟩
  by_cases hsk : n.source = n.sink
  · have hw := same_no hsk
    have d1 : (n.source == n.sink) = true := by simpa using hsk
    clear hsk
    go_wp2_with fail
    refine (workflow_any n _ _ (h.now hb3)).mono ?_
    rintro e w4 ⟨rfl, hx⟩
    rw [hw]
    have hB4 := hB3.now hx
    have hb4 := bthen hb3 hx
    clear q0 q1 q2 q3 hB3 hb3 hx
    obtain ⟨q0, q1, q2, q3⟩ := hB4.c4
    clear hw
    go_wp2_with fail
    go_ret
    exact ⟨rfl, hb4⟩
  have HSK := Lib.hid hsk
  have d1 : (n.source == n.sink) = false := by simpa using hsk
  clear hsk
  have eg : ∀ args w, (callFunc 9 args).run Tryd.prog w = .ok (.enter 9 args) w := enters_of Tryd.func9 (by kernel_rfl) rfl
  have HBL := Lib.hid hB3
  have HC := Lib.hid (containsFuncT 9 eg #[.pointer (some ⟨w.heap.size, 0, none⟩)] (.slice A n.trans.length c) n.trans (bareNot n) w3 (by obtain ⟨tv, e, _, _, _, ht⟩ := h.now hb3; injection e with e; injection e with e; injection e with _ e; injection e with e _; rw [e]; exact ht)
    (fun x v w1 _ hb _ hx => conn1_any n A c w.heap.size x v w1 (HBL.out.below hb HBL.out.lt) hx))
  clear eg
  obtain ⟨nb, hnb⟩ : ∃ nb, n.trans.any (bareNot n) = nb := ⟨_, rfl⟩
  rw [hnb] at HC
  have HNB := Lib.hid hnb
  clear hnb
  go_wp2_with fail
  refine (HC.out).mono ?_
  rintro e w4 ⟨rfl, hx⟩
  have hB4 := hB3.now hx
  have hb4 := bthen hb3 hx
  clear q0 q1 q2 q3 hB3 hb3 hx
  obtain ⟨q0, q1, q2, q3⟩ := hB4.c4
  clear HC HBL d1
  cases nb
  rotate_left
  · have hw := bare_no HNB.out
    go_wp2_with fail
    refine (workflow_any n _ _ (h.now hb4)).mono ?_
    rintro e w5 ⟨rfl, hx⟩
    rw [hw]
    have hB5 := hB4.now hx
    have hb5 := bthen hb4 hx
    clear q0 q1 q2 q3 hB4 hb4 hx
    obtain ⟨q0, q1, q2, q3⟩ := hB5.c4
    clear hw
    go_wp2_with fail
    go_ret
    exact ⟨rfl, hb5⟩
  have hbare := bare_yes HNB.out
  have HLAW := Lib.hid (conn_law HVB.out HSK.out hbare)
  have HELT := Lib.hid (edgesN_lt HVB.out)
  obtain ⟨v1, v2, v3, v4⟩ := validOk HVB.out
  obtain ⟨⟨s1, s2⟩, k1, k2⟩ := insideOk HVB.out
  have HPL := Lib.hid (fun t (ht : t ∈ n.trans) => place_in HVB.out ht)
  have HLN : Hid (∀ t ∈ n.trans, t.ins.length ≤ 40 ∧ t.outs.length ≤ 40) := fun t ht => by
    obtain ⟨pi, po⟩ := trPlaces (v4 t ht)
    have := places_len pi
    have := places_len po
    omega
  clear hbare v4
  have h4 := h.now hb4
  obtain ⟨tv, hfe, _, _, _, ht4⟩ := h4
  injection hfe with hfe
  injection hfe with hfe
  injection hfe with _ hfe
  injection hfe with hfe _
  subst hfe
  obtain ⟨P, hPe⟩ : ∃ P : Nat, n.places.toNat = P := ⟨_, rfl⟩
  have hPi : n.places = (P : Int) := by omega
  obtain ⟨Sk, hSk⟩ : ∃ Sk : Nat, n.sink.toNat = Sk := ⟨_, rfl⟩
  obtain ⟨So, hSo⟩ : ∃ So : Nat, n.source.toNat = So := ⟨_, rfl⟩
  have hSki : n.sink = (Sk : Int) := by omega
  have hSoi : n.source = (So : Int) := by omega
  have HPE := Lib.hid hPe
  have HED : Hid (edgesN n = edgesTo' P n.trans n.trans.length ++ [(Sk, P + n.trans.length), (P + n.trans.length, So)]) := by show _ = _; unfold edgesN; rw [hPe, hSk, hSo]
  have HVN : Hid (vertsN n = P + n.trans.length + 1) := by show _ = _; unfold vertsN; rw [hPe]
  obtain ⟨NV, hNV⟩ : ∃ NV : Int, (P : Int) + (n.trans.length : Int) + 1 = NV := ⟨_, rfl⟩
  have hNV2 : NV = ((P + n.trans.length + 1 : Nat) : Int) := by omega
  have HNV := Lib.hid hNV2
  have HBN := Lib.hid hB4
  rw [hPi, hSki, hSoi] at hB4
  clear q0 q1 q2 q3
  obtain ⟨q0, q1, q2, q3⟩ := hB4.c4
  have hP40 : P ≤ 40 := by omega
  clear hPe hSk hSo hPi hSki hSoi s1 s2 k1 k2 v1 v2 hNV2
  go_upto_region 8 with fail
  have hgb0 := Blk.new w4 35 #[.int .i64 NV, .slice none 0 0]
  have hb45 := bone w4 (.cells #[.int .i64 NV, .slice none 0 0] 35)
  have hsz5 : w4.heap.size + 1 ≤ (w4.alloc (.cells #[.int .i64 NV, .slice none 0 0] 35)).heap.size := by simp
  have hB5 := hB4.now hb45
  clear q0 q1 q2 q3
  obtain ⟨q0, q1, q2, q3⟩ := hB5.c4
  generalize hw5 : w4.alloc (.cells #[.int .i64 NV, .slice none 0 0] 35) = w5 at *
  clear hw5 hNV
  have HL20 := Lib.hid (show n.trans.length ≤ 60 from (validOk HVB.out).2.2.1)
  go_wp2_with fail
  clear q0 q1 q2 q3
  go_loopw [53] (fun iv wr => ∃ (k : Nat) (ev : Value), k ≤ n.trans.length ∧ iv = .int .i64 k ∧ Blk wr w4.heap.size 35 #[.int .i64 NV, ev] ∧ OwnW 2 arcV wr (w4.heap.size + 1) 36 ev (edgesTo' P n.trans k) ∧ (edgesTo' P n.trans k).length ≤ 80 * k ∧ Below w4.heap.size w4 wr ∧ w4.heap.size + 1 ≤ wr.heap.size) (fun iv _ => n.trans.length - (intOf iv).toNat)
  case atStart => exact ⟨0, _, Nat.zero_le _, rfl, hgb0, OwnW.nil, by simp [edgesTo'], hb45, hsz5⟩
  case round =>
    obtain ⟨k, ev, hk, rfl, hgb, hown, hel, hbr, hszr⟩ := hrel
    clear hgb0 hb45 hB5 hsz5
    by_cases hlt : k < n.trans.length
    · obtain ⟨b, o, t, iv, ov, rfl, hD, hx, hl, hi, ho, d0, d1, d2⟩ := ht4.at_ hlt
      obtain ⟨l1, l2⟩ := HLN.out t (List.mem_of_getElem? hx)
      obtain ⟨p1, p2⟩ := HPL.out t (List.mem_of_getElem? hx)
      have HP1 := Lib.hid p1
      have HP2 := Lib.hid p2
      have HX := Lib.hid hx
      obtain ⟨V, hV⟩ : ∃ V : Nat, P + k = V := ⟨_, rfl⟩
      have HST : Hid (edgesTo' P n.trans (k + 1) = edgesTo' P n.trans k ++ t.ins.map (fun p => (p.toNat, V)) ++ t.outs.map (fun p => (V, p.toNat))) := by
        show _ = _
        rw [edgesTo', hx]
        unfold tEdges
        rw [hV, List.append_assoc]
      have hVi : (P : Int) + (k : Int) = (V : Int) := by omega
      have HV := Lib.hid hV
      clear hV
      clear p1 p2 hx
      obtain ⟨Ai, ci, rfl, _, _, hi⟩ := hi.open_
      obtain ⟨Ao, co, rfl, _, _, ho⟩ := ho.open_
      have hD' : b < w4.heap.size := hD
      have e0 : wr.cell? ⟨b, o + k * 3, none⟩ = some (.string t.label) := (hbr.cell (p := ⟨b, o + k * 3, none⟩) hD').trans d0
      have e1 : wr.cell? ⟨b, o + k * 3 + 1, none⟩ = some (.slice Ai t.ins.length ci) := (hbr.cell (p := ⟨b, o + k * 3 + 1, none⟩) hD').trans d1
      have e2 : wr.cell? ⟨b, o + k * 3 + 2, none⟩ = some (.slice Ao t.outs.length co) := (hbr.cell (p := ⟨b, o + k * 3 + 2, none⟩) hD').trans d2
      have hTd := Blk.new wr 30 #[.string t.label, .slice Ai t.ins.length ci, .slice Ao t.outs.length co]
      have hbo := bone wr (.cells #[.string t.label, .slice Ai t.ins.length ci, .slice Ao t.outs.length co] 30)
      have hgbd := hgb.now hbo
      have hownd := hown.now hbo
      have hbrd := hbr.trans (hbo.mono hbr.size)
      have hnt : ∀ g, ev.ownBlock = some g → g ≠ wr.heap.size := fun g e => Nat.ne_of_lt (World.ownsRow.lt hown g e).2
      have hszd := Nat.le_trans hszr hbo.size
      have a1 : (0 : Int) ≤ (k : Int) := by omega
      have a2 : (k : Int) < (n.trans.length : Int) := by omega
      obtain ⟨td, htd⟩ : ∃ td, wr.heap.size = td := ⟨_, rfl⟩
      rw [htd] at hTd hnt hszr
      go_upto_region 11 with fail
      clear htd
      generalize hwd : wr.alloc (.cells #[.string t.label, .slice Ai t.ins.length ci, .slice Ao t.outs.length co] 30) = wd at *
      clear hwd e0 e1 e2 d0 d1 d2 hgb hown hbr hbo
      obtain ⟨r0, r1, r2⟩ := hTd.c3
      have htdlt : w4.heap.size + 1 ≤ td := hszr
      clear hszr
      have he80 : (edgesTo' P n.trans k).length ≤ 4800 := by have := HL20.out; omega
      go_wp2_with fail
      go_loopw [61] (fun jv wr => ∃ (j : Nat) (ev : Value), j ≤ t.ins.length ∧ jv = .int .i64 j ∧ Blk wr w4.heap.size 35 #[.int .i64 NV, ev] ∧ Blk wr td 30 #[.string t.label, .slice Ai t.ins.length ci, .slice Ao t.outs.length co] ∧ OwnW 2 arcV wr (w4.heap.size + 1) 36 ev ((edgesTo' P n.trans k) ++ (t.ins.take j).map (fun p => (p.toNat, V))) ∧ Below w4.heap.size w4 wr ∧ (∀ g, ev.ownBlock = some g → g ≠ td) ∧ w4.heap.size + 1 ≤ wr.heap.size) (fun jv _ => t.ins.length - (intOf jv).toNat)
      case atStart => exact ⟨0, _, Nat.zero_le _, rfl, hgbd, hTd, by rw [List.take_zero, List.map_nil, List.append_nil]; exact hownd, hbrd, hnt, hszd⟩
      case round =>
        obtain ⟨j, ew, hj, rfl, hgbj, hTj, hownj, hbrj, hntj, hszj⟩ := hrel
        clear hgbd hTd hownd hbrd hnt hszd r0 r1 r2
        by_cases hltj : j < t.ins.length
        · obtain ⟨bp, op, z, rfl, _, hz, _, c0⟩ := SlI.at_ (SlI.below hi hbrj (Nat.le_refl _)) hltj
          have hz0 := HP1.out z (List.mem_of_getElem? hz)
          obtain ⟨z', rfl⟩ : ∃ z' : Nat, z = (z' : Int) := ⟨z.toNat, by omega⟩
          have HE : Hid ((edgesTo' P n.trans k) ++ (t.ins.take (j + 1)).map (fun p => (p.toNat, V)) = ((edgesTo' P n.trans k) ++ (t.ins.take j).map (fun p => (p.toNat, V))) ++ [(z', V)]) := by
            show _ = _
            rw [List.take_add_one, hz, List.append_assoc]
            simp
          have hlen : ((edgesTo' P n.trans k) ++ (t.ins.take j).map (fun p => (p.toNat, V))).length ≤ (edgesTo' P n.trans k).length + 40 := by rw [List.length_append, List.length_map, List.length_take]; omega
          have hnet := hB4.below (w' := wr) hbrj hB4.lt
          obtain ⟨q0, q1, q2, q3⟩ := hnet.c4
          obtain ⟨g0, g1⟩ := hgbj.c2
          have i1 : (0 : Int) ≤ (j : Int) := by omega
          have i2 : (j : Int) < (t.ins.length : Int) := by omega
          clear hz hz0 hnet
          go_wp2_with (at_builtin; refine wpList_pushW (fc := arcV) appArc rfl (.tmp 66) (.tmp 73) rfl wr (z', V) _ (arcV_len _) (arcV_one _) _ rfl hownj rfl (by omega) hszj ?_; intro v' w' hown' hgr hat; generalize hW : @wpList = WL)
          subst hW
          obtain ⟨g', cap', rfl, _, hgf, _⟩ := OwnW.form hown' (by simp only [List.length_append, List.length_cons]; omega)
          have hge : ∀ g, ew.ownBlock = some g → w4.heap.size + 1 ≤ g := fun g e => (World.ownsRow.lt hownj g e).1
          have hgb' := hgbj.grown hgr (fun e => by have := hge _ e.symm; omega)
          have hT' := (hTj.grown hgr (fun e => hntj _ e.symm rfl)).far (p := ⟨w4.heap.size, 1, none⟩) (show td ≠ w4.heap.size by omega) (.slice (some ⟨g', 0, none⟩) (((edgesTo' P n.trans k) ++ (t.ins.take j).map (fun p => (p.toNat, V))) ++ [(z', V)]).length cap')
          have hown'' : OwnW 2 arcV (w'.setCell ⟨w4.heap.size, 1, none⟩ (.slice (some ⟨g', 0, none⟩) (((edgesTo' P n.trans k) ++ (t.ins.take j).map (fun p => (p.toNat, V))) ++ [(z', V)]).length cap')) (w4.heap.size + 1) 36 _ _ := ownsRow_setCell_other (a := ⟨w4.heap.size, 1, none⟩) hown' (fun e => by injection e with e; have : w4.heap.size = g' := e.symm; omega) _
          have hbr' := (hbrj.trans (below_of_grown hgr (Nat.le_trans (Nat.le_succ _) hszj) (fun g e => by have := hge g e; omega))).setCell (p := ⟨w4.heap.size, 1, none⟩) (Nat.le_refl _) (.slice (some ⟨g', 0, none⟩) (((edgesTo' P n.trans k) ++ (t.ins.take j).map (fun p => (p.toNat, V))) ++ [(z', V)]).length cap')
          have hsz' : w4.heap.size + 1 ≤ (w'.setCell ⟨w4.heap.size, 1, none⟩ (.slice (some ⟨g', 0, none⟩) (((edgesTo' P n.trans k) ++ (t.ins.take j).map (fun p => (p.toNat, V))) ++ [(z', V)]).length cap')).heap.size := by rw [World.size_setCell]; exact Nat.le_trans hszj hgr.size
          have htl := hTj.lt
          have hnt' : ∀ g, (Value.slice (some ⟨g', 0, none⟩) (((edgesTo' P n.trans k) ++ (t.ins.take j).map (fun p => (p.toNat, V))) ++ [(z', V)]).length cap').ownBlock = some g → g ≠ td := fun g e => by
            rcases hat with h | h
            · exact hntj g (h ▸ e)
            · rw [h] at e; injection e with e; omega
          have hgbs := hgb'.set_ 1 (.slice (some ⟨g', 0, none⟩) (((edgesTo' P n.trans k) ++ (t.ins.take j).map (fun p => (p.toNat, V))) ++ [(z', V)]).length cap')
          obtain ⟨m0, m1⟩ := hgb'.c2
          have m2 := hgb'.frozen 1
          clear c0 hgbj hTj hownj hbrj hntj hszj hown' hgr hat q0 q1 q2 q3 g0 g1 hgb'
          obtain ⟨Es, hEs⟩ : ∃ Es, ((edgesTo' P n.trans k) ++ (t.ins.take j).map (fun p => (p.toNat, V))) ++ [(z', V)] = Es := ⟨_, rfl⟩
          rw [hEs] at hgbs hT' hown'' hbr' hnt' hsz' ⊢
          have HES : Hid ((edgesTo' P n.trans k) ++ (t.ins.take (j + 1)).map (fun p => (p.toNat, V)) = Es) := HE.out.trans hEs
          clear hEs HE hlen
          go_wp2_with fail
          go_roundw
          case rel => exact ⟨j + 1, _, by omega, by go_num, hgbs, hT', by rw [HES.out]; exact hown'', hbr', hnt', hsz'⟩
          case measure => simp [intOf]; omega
        · have hjl : j = t.ins.length := by omega
          subst hjl
          clear hltj hj
          rw [List.take_of_length_le (Nat.le_refl _)] at hownj
          have hTl := hTj.lt
          obtain ⟨r0, r1, r2⟩ := hTj.c3
          obtain ⟨E1, hE1⟩ : ∃ E1, (edgesTo' P n.trans k) ++ t.ins.map (fun p => (p.toNat, V)) = E1 := ⟨_, rfl⟩
          have he1 : E1.length ≤ 4840 := by rw [← hE1, List.length_append, List.length_map]; omega
          rw [hE1] at hownj
          have HST2 : Hid (edgesTo' P n.trans (k + 1) = E1 ++ t.outs.map (fun p => (V, p.toNat))) := by show _ = _; rw [HST.out, hE1]
          have hgbd := hgbj
          have hTd := hTj
          have hownd := hownj
          have hbrd := hbrj
          have hnt := hntj
          have hszd := hszj
          clear hE1 hgbj hTj hownj hbrj hntj hszj
          generalize hwx : wr = wx at *
          clear hwx
          go_wp2_with fail
          go_loopw [80] (fun jv wr => ∃ (j : Nat) (ev : Value), j ≤ t.outs.length ∧ jv = .int .i64 j ∧ Blk wr w4.heap.size 35 #[.int .i64 NV, ev] ∧ Blk wr td 30 #[.string t.label, .slice Ai t.ins.length ci, .slice Ao t.outs.length co] ∧ OwnW 2 arcV wr (w4.heap.size + 1) 36 ev (E1 ++ (t.outs.take j).map (fun p => (V, p.toNat))) ∧ Below w4.heap.size w4 wr ∧ (∀ g, ev.ownBlock = some g → g ≠ td) ∧ w4.heap.size + 1 ≤ wr.heap.size) (fun jv _ => t.outs.length - (intOf jv).toNat)
          case atStart => exact ⟨0, _, Nat.zero_le _, rfl, hgbd, hTd, by rw [List.take_zero, List.map_nil, List.append_nil]; exact hownd, hbrd, hnt, hszd⟩
          case round =>
            obtain ⟨j, ew, hj, rfl, hgbj, hTj, hownj, hbrj, hntj, hszj⟩ := hrel
            clear hgbd hTd hownd hbrd hnt hszd r0 r1 r2
            by_cases hltj : j < t.outs.length
            · obtain ⟨bp, op, z, rfl, _, hz, _, c0⟩ := SlI.at_ (SlI.below ho hbrj (Nat.le_refl _)) hltj
              have hz0 := HP2.out z (List.mem_of_getElem? hz)
              obtain ⟨z', rfl⟩ : ∃ z' : Nat, z = (z' : Int) := ⟨z.toNat, by omega⟩
              have HE : Hid (E1 ++ (t.outs.take (j + 1)).map (fun p => (V, p.toNat)) = (E1 ++ (t.outs.take j).map (fun p => (V, p.toNat))) ++ [(V, z')]) := by
                show _ = _
                rw [List.take_add_one, hz, List.append_assoc]
                simp
              have hlen : (E1 ++ (t.outs.take j).map (fun p => (V, p.toNat))).length ≤ E1.length + 40 := by rw [List.length_append, List.length_map, List.length_take]; omega
              have hnet := hB4.below (w' := wr) hbrj hB4.lt
              obtain ⟨q0, q1, q2, q3⟩ := hnet.c4
              obtain ⟨g0, g1⟩ := hgbj.c2
              have i1 : (0 : Int) ≤ (j : Int) := by omega
              have i2 : (j : Int) < (t.outs.length : Int) := by omega
              clear hz hz0 hnet
              go_wp2_with (at_builtin; refine wpList_pushW (fc := arcV) appArc rfl (.tmp 85) (.tmp 92) rfl wr (V, z') _ (arcV_len _) (arcV_one _) _ rfl hownj rfl (by omega) hszj ?_; intro v' w' hown' hgr hat; generalize hW : @wpList = WL)
              subst hW
              obtain ⟨g', cap', rfl, _, hgf, _⟩ := OwnW.form hown' (by simp only [List.length_append, List.length_cons]; omega)
              have hge : ∀ g, ew.ownBlock = some g → w4.heap.size + 1 ≤ g := fun g e => (World.ownsRow.lt hownj g e).1
              have hgb' := hgbj.grown hgr (fun e => by have := hge _ e.symm; omega)
              have hT' := (hTj.grown hgr (fun e => hntj _ e.symm rfl)).far (p := ⟨w4.heap.size, 1, none⟩) (show td ≠ w4.heap.size by omega) (.slice (some ⟨g', 0, none⟩) ((E1 ++ (t.outs.take j).map (fun p => (V, p.toNat))) ++ [(V, z')]).length cap')
              have hown'' : OwnW 2 arcV (w'.setCell ⟨w4.heap.size, 1, none⟩ (.slice (some ⟨g', 0, none⟩) ((E1 ++ (t.outs.take j).map (fun p => (V, p.toNat))) ++ [(V, z')]).length cap')) (w4.heap.size + 1) 36 _ _ := ownsRow_setCell_other (a := ⟨w4.heap.size, 1, none⟩) hown' (fun e => by injection e with e; have : w4.heap.size = g' := e.symm; omega) _
              have hbr' := (hbrj.trans (below_of_grown hgr (Nat.le_trans (Nat.le_succ _) hszj) (fun g e => by have := hge g e; omega))).setCell (p := ⟨w4.heap.size, 1, none⟩) (Nat.le_refl _) (.slice (some ⟨g', 0, none⟩) ((E1 ++ (t.outs.take j).map (fun p => (V, p.toNat))) ++ [(V, z')]).length cap')
              have hsz' : w4.heap.size + 1 ≤ (w'.setCell ⟨w4.heap.size, 1, none⟩ (.slice (some ⟨g', 0, none⟩) ((E1 ++ (t.outs.take j).map (fun p => (V, p.toNat))) ++ [(V, z')]).length cap')).heap.size := by rw [World.size_setCell]; exact Nat.le_trans hszj hgr.size
              have htl := hTj.lt
              have hnt' : ∀ g, (Value.slice (some ⟨g', 0, none⟩) ((E1 ++ (t.outs.take j).map (fun p => (V, p.toNat))) ++ [(V, z')]).length cap').ownBlock = some g → g ≠ td := fun g e => by
                rcases hat with h | h
                · exact hntj g (h ▸ e)
                · rw [h] at e; injection e with e; omega
              have hgbs := hgb'.set_ 1 (.slice (some ⟨g', 0, none⟩) ((E1 ++ (t.outs.take j).map (fun p => (V, p.toNat))) ++ [(V, z')]).length cap')
              obtain ⟨m0, m1⟩ := hgb'.c2
              have m2 := hgb'.frozen 1
              clear c0 hgbj hTj hownj hbrj hntj hszj hown' hgr hat q0 q1 q2 q3 g0 g1 hgb'
              obtain ⟨Es, hEs⟩ : ∃ Es, (E1 ++ (t.outs.take j).map (fun p => (V, p.toNat))) ++ [(V, z')] = Es := ⟨_, rfl⟩
              rw [hEs] at hgbs hT' hown'' hbr' hnt' hsz' ⊢
              have HES : Hid (E1 ++ (t.outs.take (j + 1)).map (fun p => (V, p.toNat)) = Es) := HE.out.trans hEs
              clear hEs HE hlen
              go_wp2_with fail
              go_roundw
              case rel => exact ⟨j + 1, _, by omega, by go_num, hgbs, hT', by rw [HES.out]; exact hown'', hbr', hnt', hsz'⟩
              case measure => simp [intOf]; omega
            · have hjl : j = t.outs.length := by omega
              subst hjl
              clear hltj hj
              rw [List.take_of_length_le (Nat.le_refl _)] at hownj
              have hel2 : (edgesTo' P n.trans (k + 1)).length ≤ 80 * (k + 1) := by rw [HST.out, List.length_append, List.length_append, List.length_map, List.length_map]; omega
              rw [← HST2.out] at hownj
              go_wp2_with fail
              go_roundw
              case rel => exact ⟨k + 1, _, by omega, by go_num, hgbj, hownj, hel2, hbrj, hszj⟩
              case measure => simp [intOf]; omega
    · have hkn : k = n.trans.length := by omega
      subst hkn
      clear hlt
      obtain ⟨M, hM⟩ : ∃ M : Nat, P + n.trans.length = M := ⟨_, rfl⟩
      have hM100 : M ≤ 100 := by have := HL20.out; omega
      have hN1 : NV - 1 = (M : Int) := by have := HNV.out; omega
      have HN1 := Lib.hid hN1
      have HEN : Hid (edgesN n = edgesTo' P n.trans n.trans.length ++ [(Sk, M), (M, So)]) := by show _ = _; rw [HED.out, hM]
      have HVM : Hid (vertsN n = M + 1) := by show _ = _; rw [HVN.out, hM]
      clear hM
      have hel3 : (edgesTo' P n.trans n.trans.length).length ≤ 4800 := by have := HL20.out; omega
      have hnet := hB4.below (w' := wr) hbr hB4.lt
      obtain ⟨q0, q1, q2, q3⟩ := hnet.c4
      obtain ⟨g0, g1⟩ := hgb.c2
      generalize edgesTo' P n.trans n.trans.length = E0 at *
      have hlit : Sl 2 RArc (fun _ => True) (wr.alloc (.cells #[.int .i64 (Sk : Int), .int .i64 (M : Int), .int .i64 (M : Int), .int .i64 (So : Int)] 36)) (.slice (some ⟨wr.heap.size, 0, none⟩) 2 2) [(Sk, M), (M, So)] := by
        obtain ⟨x0, x1, x2, x3⟩ := (Blk.new wr 36 #[.int .i64 (Sk : Int), .int .i64 (M : Int), .int .i64 (M : Int), .int .i64 (So : Int)]).c4
        refine ⟨_, 2, rfl, Nat.le_refl _, by unfold maxLen; omega, fun i x hx => ?_⟩
        match i, hx with
        | 0, hx =>
          injection hx with hx; subst hx
          refine ⟨wr.heap.size, 0, arcV (Sk, M), rfl, trivial, rfl, rfl, fun j u hj => ?_⟩
          match j, hj with
          | 0, hj => injection hj with hj; subst hj; exact x0
          | 1, hj => injection hj with hj; subst hj; exact x1
          | j + 2, hj => simp [arcV] at hj
        | 1, hx =>
          injection hx with hx; subst hx
          refine ⟨wr.heap.size, 0, arcV (M, So), rfl, trivial, rfl, rfl, fun j u hj => ?_⟩
          match j, hj with
          | 0, hj => injection hj with hj; subst hj; exact x2
          | 1, hj => injection hj with hj; subst hj; exact x3
          | j + 2, hj => simp [arcV] at hj
        | i + 2, hx => simp at hx
      have hownl : OwnW 2 arcV (wr.alloc (.cells #[.int .i64 (Sk : Int), .int .i64 (M : Int), .int .i64 (M : Int), .int .i64 (So : Int)] 36)) (w4.heap.size + 1) 36 ev E0 := hown.now (bone _ _)
      have hgbl := hgb.now (bone wr (.cells #[.int .i64 (Sk : Int), .int .i64 (M : Int), .int .i64 (M : Int), .int .i64 (So : Int)] 36))
      have hbrl := hbr.trans ((bone wr (.cells #[.int .i64 (Sk : Int), .int .i64 (M : Int), .int .i64 (M : Int), .int .i64 (So : Int)] 36)).mono hbr.size)
      have hszl : w4.heap.size + 1 ≤ (wr.alloc (.cells #[.int .i64 (Sk : Int), .int .i64 (M : Int), .int .i64 (M : Int), .int .i64 (So : Int)] 36)).heap.size := by rw [World.size_alloc]; omega
      go_wp2_with (at_builtin; refine wpList_appendAllW (fc := arcV) (D := fun _ => True) (R := RArc) appArc rfl (.tmp 98) (.tmp 111) rfl _ arcV_len E0 _ rfl hownl _ [(Sk, M), (M, So)] rfl hlit (fun _ _ h => h) arcV_one (by simp only [List.length_cons, List.length_nil]; omega) hszl ?_; intro v' w' hown' hgr hat; generalize hW : @wpList = WL)
      subst hW
      obtain ⟨g', cap', rfl, _, hgf, _⟩ := OwnW.form hown' (by simp only [List.length_append, List.length_cons]; omega)
      have hge : ∀ g, ev.ownBlock = some g → w4.heap.size + 1 ≤ g := fun g e => (World.ownsRow.lt hownl g e).1
      have hgb' := hgbl.grown hgr (fun e => by have := hge _ e.symm; omega)
      obtain ⟨Es, hEs⟩ : ∃ Es, E0 ++ [(Sk, M), (M, So)] = Es := ⟨_, rfl⟩
      rw [hEs] at hown' ⊢
      have hesl : Es.length ≤ 20000 := by rw [← hEs, List.length_append]; simp only [List.length_cons, List.length_nil]; omega
      have HEE : Hid (edgesN n = Es) := HEN.out.trans hEs
      clear hEs
      have hown'' : OwnW 2 arcV (w'.setCell ⟨w4.heap.size, 1, none⟩ (.slice (some ⟨g', 0, none⟩) Es.length cap')) (w4.heap.size + 1) 36 _ _ := ownsRow_setCell_other (a := ⟨w4.heap.size, 1, none⟩) hown' (fun e => by injection e with e; have : w4.heap.size = g' := e.symm; omega) _
      have hbr' := (hbrl.trans (below_of_grown hgr (Nat.le_trans (Nat.le_succ _) hszl) (fun g e => by have := hge g e; omega))).setCell (p := ⟨w4.heap.size, 1, none⟩) (Nat.le_refl _) (.slice (some ⟨g', 0, none⟩) Es.length cap')
      have hgbs : Blk (w'.setCell ⟨w4.heap.size, 1, none⟩ (.slice (some ⟨g', 0, none⟩) Es.length cap')) w4.heap.size 35 #[.int .i64 NV, .slice (some ⟨g', 0, none⟩) Es.length cap'] := hgb'.set_ 1 _
      obtain ⟨m0, m1⟩ := hgb'.c2
      have m2 := hgb'.frozen 1
      clear q0 q1 q2 q3 g0 g1 hnet hgb hown hbr hszr hlit hownl hgbl hbrl hszl hgr hat hgb' hown'
      go_upto_region 23 with fail
      generalize hw6 : w'.setCell ⟨w4.heap.size, 1, none⟩ (.slice (some ⟨g', 0, none⟩) Es.length cap') = w6 at *
      clear hw6 m0 m1 m2 hN1
      have hNVM : NV = ((M + 1 : Nat) : Int) := by have := HN1.out; omega
      rw [hNVM] at hgbs
      clear hNVM
      obtain ⟨g0, g1⟩ := hgbs.c2
      have hss := SlE.of_own hown''
      have hst := strong_any (M + 1) Es (some ⟨g', 0, none⟩) cap' w6 hss (by omega) hesl (by have := HELT.out; rw [HEE.out, HVM.out] at this; exact this)
      have HLW := HLAW.out
      rw [HEE.out, HVM.out] at HLW
      have HLW := Lib.hid HLW
      generalize (visitTo (nextE Es) (M + 1) (M + 1)).cc = cc at *
      have HSTR := Lib.hid hst
      clear hst
      go_wp2_with fail
      refine HSTR.out.mono ?_
      rintro e w7 ⟨A', c', rfl, hb67⟩
      have hb47 := hbr'.trans (hb67.mono (by have := hbr'.size; omega))
      have hnet := hB4.below (w' := w7) hb47 hB4.lt
      have hb7 := hb4.trans (hb47.mono hb4.size)
      clear g0 g1
      obtain ⟨q0, q1, q2, q3⟩ := hnet.c4
      have hB4n := (HBN.out.below (w' := w7) hb47 HBN.out.lt)
      clear q0 q1 q2 q3
      obtain ⟨q0, q1, q2, q3⟩ := hB4n.c4
      go_wp2_with fail
      refine (workflow_any n _ _ (h.now hb7)).mono ?_
      rintro e w8 ⟨rfl, hb78⟩
      rw [HLW.out]
      have hb8 := bthen hb7 hb78
      by_cases hcc : cc = 1
      · rw [decide_eq_true hcc]
        have d1 : ((cc : Int) == 1) = true := by rw [hcc]; rfl
        clear hcc
        go_wp2_with fail
        go_ret
        exact ⟨rfl, hb8⟩
      · rw [decide_eq_false hcc]
        have d1 : ((cc : Int) == 1) = false := by rw [beq_eq_false_iff_ne]; omega
        clear hcc
        go_wp2_with fail
        go_ret
        exact ⟨rfl, hb8⟩
end Go.Proofs.YtlkkfkkhllijbaaDoor
