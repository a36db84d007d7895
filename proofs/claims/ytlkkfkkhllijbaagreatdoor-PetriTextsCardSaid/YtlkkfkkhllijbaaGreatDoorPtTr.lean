/- The line of a transition, as the program reads it. -/
import Derived.Test.YtlkkfkkhllijbaaGreatDoorPtTrS
import Derived.Test.YtlkkfkkhllijbaaGreatDoorPtFirst




import Derived.Deep.CutRange
import Derived.Deep.CutBlock
namespace Go.Proofs.YtlkkfkkhllijbaaGreatDoor
open Go.RowKit

set_option maxHeartbeats 4000000 in
set_option maxRecDepth 100000 in
theorem transition_any (s : ByteArray) (w : World) (hs : s.size ≤ 1000000) (ha : AmbP w) : Calls Tryz.prog 23 #[.string s] w (RetTr s.data.toList w) := by
  have hb0 := bone w (.cells #[.string ⟨#[]⟩, .slice none 0 0, .slice none 0 0] 52)
  have hB0 := Blk.new w 52 #[.string ⟨#[]⟩, .slice none 0 0, .slice none 0 0]
  have ha0 := ha.now hb0
  go_enter Tryz.func23, Tryz.ntmps23
  go_upto_region 1 with fail
  generalize hw1 : w.alloc (.cells #[.string ⟨#[]⟩, .slice none 0 0, .slice none 0 0] 52) = w1 at *
  clear hw1
  have HCUT := Lib.hid (cut_any 58 s w1 hs ha0)
  go_wp2_with fail
  refine HCUT.out.mono ?_
  rintro e w2 ⟨he, hb2⟩
  have hB2 := hB0.now hb2
  have hb12 := bthen hb0 hb2
  have ha2 := ha0.now hb2
  have hlt2 := hB2.lt
  clear HCUT hB0 hb0 hb2 ha0
  cases hc : cutB 58 s.data.toList with
  | none =>
    rw [hc] at he
    dsimp only at he
    subst he
    have HF := Lib.hid (trans_nocut hc)
    clear hc
    obtain ⟨z0, z1, z2⟩ := hB2.c3
    have f0 := hB2.frozen 0
    have f1 := hB2.frozen 1
    have f2 := hB2.frozen 2
    go_wp2_with fail
    obtain ⟨t0, t1, t2⟩ := (hB2.set3 (.string ⟨#[]⟩) (.slice none 0 0) (.slice none 0 0)).c3
    refine bodyPost_ret (v := .tuple #[.agg #[.string ⟨#[]⟩, .slice none 0 0, .slice none 0 0], .bool false]) (by simp [results, Tryz.results23, go_sem, t0, t1, t2]) rfl ?_
    exact ⟨_, _, _, _, false, rfl, zero_tr, by rw [HF.out]; rfl, Below.set3 hb12 (Nat.le_refl _) _ _ _⟩
  | some x =>
    obtain ⟨lab, rest⟩ := x
    rw [hc] at he
    dsimp only at he
    subst he
    have HC := Lib.hid hc
    obtain ⟨hcl, _⟩ := cut_some hc
    have hlen : s.data.toList.length = lab.length + (1 + rest.length) := by rw [hcl]; simp only [List.length_append, List.length_cons]; omega
    rw [size_list] at hlen
    have hszl : (bsOf lab).size ≤ 1000000 := by rw [bs_size]; omega
    have hszr : (bsOf rest).size ≤ 1000000 := by rw [bs_size]; omega
    clear hc hcl
    go_upto_region 2 with fail
    go_cut [30] from 20 to 30 (fun b wc => b = .bool (!labB lab) ∧ w2 = wc)
    case first =>
      have e95 := lit_of (l := lab) (k := [95]) _ rfl
      by_cases hl : lab = [95]
      · rw [decide_eq_true hl] at e95
        have HL : Hid (labB lab = true) := by show labB lab = true; unfold labB; rw [decide_eq_true hl]; rfl
        clear hl
        go_wp2_with fail
        go_meet
        exact ⟨by rw [HL.out]; rfl, rfl⟩
      · rw [decide_eq_false hl] at e95
        have HL : Hid (labB lab = isNameB (bsOf lab)) := by show labB lab = _; unfold labB; rw [decide_eq_false hl]; rfl
        clear hl
        have HI := Lib.hid (isName_any (bsOf lab) w2 (by unfold maxLen; omega))
        go_wp2_with fail
        refine HI.out.mono ?_
        rintro e w3 ⟨rfl, rfl⟩
        go_wp2_with fail
        go_meet
        exact ⟨by rw [HL.out], rfl⟩
    case rest =>
      obtain ⟨rfl, rfl⟩ := hcut
      generalize hq : labB lab = q
      have HL := Lib.hid hq
      clear hq
      cases q
      · have HF := Lib.hid (trans_lab HC.out HL.out)
        obtain ⟨z0, z1, z2⟩ := hB2.c3
        have f0 := hB2.frozen 0
        have f1 := hB2.frozen 1
        have f2 := hB2.frozen 2
        go_wp2_with fail
        obtain ⟨t0, t1, t2⟩ := (hB2.set3 (.string ⟨#[]⟩) (.slice none 0 0) (.slice none 0 0)).c3
        refine bodyPost_ret (v := .tuple #[.agg #[.string ⟨#[]⟩, .slice none 0 0, .slice none 0 0], .bool false]) (by simp [results, Tryz.results23, go_sem, t0, t1, t2]) rfl ?_
        exact ⟨_, _, _, _, false, rfl, zero_tr, by rw [HF.out]; rfl, Below.set3 hb12 (Nat.le_refl _) _ _ _⟩
      have hT0 := Blk.new w2 52 #[.string ⟨#[]⟩, .slice none 0 0, .slice none 0 0]
      have hbT := bone w2 (.cells #[.string ⟨#[]⟩, .slice none 0 0, .slice none 0 0] 52)
      go_upto_region 5 with fail
      obtain ⟨ql, hql⟩ : ∃ ql, decide (lab = [95]) = ql := ⟨_, rfl⟩
      have e95 := lit_of (l := lab) (k := [95]) ql hql
      have HQL := Lib.hid hql
      clear hql
      go_upto_if 33 with fail
      go_cut [] from 32 to 35 (fun wc => Blk wc w2.heap.size 52 #[.string (outB lab), .slice none 0 0, .slice none 0 0] ∧ Below w2.heap.size w2 wc)
      case first =>
        cases ql
        rotate_left
        · have HO : Hid (outB lab = ⟨#[]⟩) := if_pos (of_decide_eq_true HQL.out)
          go_wp2_with fail
          go_meet
          exact ⟨by rw [HO.out]; exact hT0, hbT⟩
        · have HO : Hid (outB lab = bsOf lab) := if_neg (of_decide_eq_false HQL.out)
          obtain ⟨z0, z1, z2⟩ := hT0.c3
          have f0 := hT0.frozen 0
          go_wp2_with fail
          go_meet
          exact ⟨by rw [HO.out]; first | exact hT0.set_ 0 _ | exact Blk.new w2 _ _, by first | exact hbT.setCell (p := ⟨w2.heap.size, 0, none⟩) (Nat.le_refl _) _ | exact bone w2 _⟩
      case rest =>
        obtain ⟨hT, hb3⟩ := hcut
        have hB3 := hB2.now hb3
        have hb13 := bthen hb12 hb3
        have ha3 := ha2.now hb3
        clear hB2 hb12 ha2 hT0 hbT e95 hlen
        go_wp2_with fail
        refine (split_fr 32 (bsOf rest) _ hszr ha3).mono ?_
        rintro e w4 ⟨rfl, hl, hb4⟩
        rw [bs_list] at hl ⊢
        have hgt := hT.lt
        have hB4 := hB3.now hb4
        have hb14 := bthen hb13 hb4
        have ha4 := ha3.now hb4
        have hT4 := hT.now hb4
        clear hB3 hb13 ha3 hT hb3 hb4
        obtain ⟨p, ts, hp⟩ := parts_ne 32 rest
        have hpl := parts_len 32 rest
        rw [bs_size] at hszr
        rw [hp] at hl hpl ⊢
        have HP := Lib.hid hp
        have HPL : Hid (∀ t ∈ ts, (bsOf t).size ≤ 1000000) := fun t ht => by
          have := hpl.2 t (by simp [ht])
          rw [bs_size]; omega
        have hpl1 := hpl.1
        clear hp hpl
        rw [List.length_cons] at hl hpl1 ⊢
        obtain ⟨g, o, hA, hD, hr⟩ := SlP.row hl (by omega)
        injection hA with hA
        injection hA with hg ho _
        rw [hg] at hgt ⊢
        subst ho
        have c0 : w4.cell? ⟨g, 0, none⟩ = some (.string (bsOf p)) := hr 0 p rfl
        clear hg hl
        have hlt4 := hT4.lt
        by_cases h0 : p = []
        rotate_left
        · have HF := Lib.hid (trans_first HC.out HP.out h0)
          have e0 : (bsOf p).toList.isEmpty = false := by
            rw [Lib.toList_data]
            show p.isEmpty = false
            cases p with
            | nil => exact absurd rfl h0
            | cons a b => rfl
          clear h0
          obtain ⟨z0, z1, z2⟩ := hB4.c3
          have f0 := hB4.frozen 0
          have f1 := hB4.frozen 1
          have f2 := hB4.frozen 2
          go_wp2_with fail
          obtain ⟨t0, t1, t2⟩ := (hB4.set3 (.string ⟨#[]⟩) (.slice none 0 0) (.slice none 0 0)).c3
          refine bodyPost_ret (v := .tuple #[.agg #[.string ⟨#[]⟩, .slice none 0 0, .slice none 0 0], .bool false]) (by simp [results, Tryz.results23, go_sem, t0, t1, t2]) rfl ?_
          exact ⟨_, _, _, _, false, rfl, zero_tr, by rw [HF.out]; rfl, Below.set3 hb14 (Nat.le_refl _) _ _ _⟩
        · subst h0
          have e0 : (bsOf ([] : List UInt8)).toList.isEmpty = true := by rw [Lib.toList_data]; rfl
          have HT := Lib.hid (trans_some HC.out HL.out HP.out)
          have hI4 : TrI w4 w4.heap.size w2.heap.size (outB lab) (.slice none 0 0) (.slice none 0 0) [] [] := TrI.start hT4 hlt4
          go_upto_region 11 with fail
          go_cut [44, 45, 46] from 43 to 46 (fun sv nv iv wc => w4 = wc ∧ nv = .int .i64 ts.length ∧ iv = .int .i64 0 ∧ ∃ o' c', sv = .slice (some ⟨g, o', none⟩) ts.length c' ∧ Hid (∀ (k : Nat) l, ts[k]? = some l → w4.cell? ⟨g, o' + k, none⟩ = some (.string (bsOf l))))
          case first =>
            cases ts with
            | nil =>
              go_wp2_with fail
              go_meet
              exact ⟨rfl, rfl, rfl, _, _, rfl, fun k l h => (by cases h)⟩
            | cons t1 ts1 =>
              rw [List.length_cons] at *
              go_wp2_with fail
              go_meet
              refine ⟨rfl, rfl, rfl, 1, _, rfl, fun k l h => ?_⟩
              have := hr (k + 1) l (by rw [List.getElem?_cons_succ]; exact h)
              rw [show 1 + k = 0 + (k + 1) by omega]; exact this
          case rest =>
            obtain ⟨rfl, rfl, rfl, o', c', rfl, HCL⟩ := hcut
            clear c0 e0 hr
            go_wp2_with fail
            go_loopw [9, 46] (fun av iv wr => ∃ (k a : Nat) (i o : List Int) (xi xo : Value), k ≤ ts.length ∧ iv = .int .i64 k ∧ av = .int .i64 a ∧ a ≤ k ∧ i.length ≤ k ∧ o.length ≤ k ∧ Hid (transB s.data.toList = trOf lab (ts.drop k) a i o) ∧ Hid ((∀ z ∈ i, Fit z) ∧ ∀ z ∈ o, Fit z) ∧ TrI wr w4.heap.size w2.heap.size (outB lab) xi xo i o ∧ w4.grownBy wr (some w2.heap.size)) (fun _ iv _ => ts.length - (intOf iv).toNat)
            case atStart => exact ⟨0, 0, [], [], _, _, Nat.zero_le _, rfl, rfl, Nat.le_refl _, Nat.le_refl _, Nat.le_refl _, HT.out, ⟨fun z h => (by cases h), fun z h => (by cases h)⟩, hI4, grown_of_below (Below.refl _ _) _⟩
            case round =>
              obtain ⟨k, a, zi, zo, xi, xo, hk, rfl, rfl, hak, hli, hlo, HTK, HFT, hI, hgw⟩ := hrel
              have hD' : g < w4.heap.size := hD
              have hbr : Below w2.heap.size w4 wr := below_of_grown hgw (by omega) (fun g' e => by injection e with e; omega)
              have hb1r : Below w.heap.size w wr := hb14.trans (hbr.mono (by omega))
              have hBr := hB4.grown hgw (fun e => by injection e with e; omega)
              have har := ha.now hb1r
              have hszr : w4.heap.size ≤ wr.heap.size := hgw.size
              by_cases hlt : k < ts.length
              · obtain ⟨t, hx⟩ : ∃ t, ts[k]? = some t := ⟨_, List.getElem?_eq_getElem hlt⟩
                have hdk : ts.drop k = t :: ts.drop (k + 1) := by
                  rw [List.drop_eq_getElem_cons hlt]
                  rw [List.getElem?_eq_getElem hlt] at hx
                  injection hx with hx
                  rw [hx]
                have c1 : wr.cell? ⟨g, o' + k, none⟩ = some (.string (bsOf t)) := (World.cell?_of_block (hgw.block g hD' (fun e => by injection e with e; omega))).trans (HCL.out k t hx)
                have HC := Lib.hid (ptNum_any (bsOf t) wr (HPL.out t (List.mem_of_getElem? hx)) har)
                have HTD := Lib.hid (HTK.out.trans (by rw [hdk] : trOf lab (ts.drop k) a zi zo = trOf lab (t :: ts.drop (k + 1)) a zi zo))
                obtain ⟨qa, hqa⟩ : ∃ qa, decide (t = arrowB) = qa := ⟨_, rfl⟩
                have eA : ((bsOf t).toList == [45, 62]) = qa := lit_of qa hqa
                have HQA := Lib.hid hqa
                clear hx hdk hqa
                cases qa
                rotate_left
                · have HS : Hid (transB s.data.toList = trOf lab (ts.drop (k + 1)) (a + 1) zi zo) := by
                    show _ = _
                    rw [HTD.out, of_decide_eq_true HQA.out]
                    exact trOf_arrow _ _ _ _ _
                  go_wp2_with fail
                  go_roundw
                  case rel => exact ⟨k + 1, a + 1, zi, zo, xi, xo, by omega, by go_num, by go_num, by omega, by omega, by omega, HS.out, HFT.out, hI, hgw⟩
                  case measure => simp [intOf]; omega
                · have HNA : Hid (t ≠ arrowB) := of_decide_eq_false HQA.out
                  go_wp2_with fail
                  refine HC.out.mono ?_
                  rintro e w5 ⟨⟨z, ok, rfl, hn⟩, hb5⟩
                  rw [bs_list] at hn
                  have HN := Lib.hid hn
                  clear hn HC c1 eA
                  have hB5 := hBr.now hb5
                  have hb15 := bthen hb1r hb5
                  have hI5 := hI.now hb5
                  have hg5 := grown_then hgw hb5
                  have hsz5 := hg5.size
                  clear hgw hbr hb1r hBr har hI hb5
                  cases ok
                  · have HF : Hid (transB s.data.toList = none) := by
                      show _ = _
                      rw [HTD.out]
                      exact trOf_bad _ _ _ _ _ HNA.out HN.out
                    obtain ⟨z0, z1, z2⟩ := hB5.c3
                    have f0 := hB5.frozen 0
                    have f1 := hB5.frozen 1
                    have f2 := hB5.frozen 2
                    go_wp2_with fail
                    obtain ⟨t0, t1, t2⟩ := (hB5.set3 (.string ⟨#[]⟩) (.slice none 0 0) (.slice none 0 0)).c3
                    refine bodyPost_ret (v := .tuple #[.agg #[.string ⟨#[]⟩, .slice none 0 0, .slice none 0 0], .bool false]) (by simp [results, Tryz.results23, go_sem, t0, t1, t2]) rfl ?_
                    exact ⟨_, _, _, _, false, rfl, zero_tr, by rw [HF.out]; rfl, Below.set3 hb15 (Nat.le_refl _) _ _ _⟩
                  · have HZ : Hid (Fit z) := num9_fit HN.out
                    by_cases ha0 : a = 0
                    · subst ha0
                      have HS : Hid (transB s.data.toList = trOf lab (ts.drop (k + 1)) 0 (zi ++ [z]) zo) := by
                        show _ = _
                        rw [HTD.out]
                        exact trOf_in _ _ _ _ HNA.out HN.out
                      obtain ⟨k0, k1, k2⟩ := hI5.bl.c3
                      have e1 := hI5.bl.frozen 1
                      go_wp2_with (at_builtin; refine wpList_push appInts' rfl (.tmp 65) (.tmp 67) rfl w5 [.int .i64 z] rfl (by simp [Value.oneCell']) _ zi.length (zi.map (Value.int .i64)) rfl hI5.ri rfl (by omega) hsz5 ?_; intro v' w' hown' hgr hat; obtain ⟨A9, c9, rfl⟩ := own_form hown'; obtain ⟨hB9, hI9⟩ := hI5.pushI hown' hgr hat; have hg9 := grown_step hg5 hgr (fun g' e => (hI5.ri.lt g' e).1) 1 (.slice A9 (zi.length + 1) c9); clear k0 k1 k2 e1; obtain ⟨k0, k1, k2⟩ := hB9.c3; have e1 := hB9.frozen 1)
                      go_roundw
                      case rel =>
                        refine ⟨k + 1, 0, zi ++ [z], zo, _, _, by omega, by go_num, rfl, by omega, by rw [List.length_append, List.length_singleton]; omega, by omega, HS.out, ?_, hI9, hg9⟩
                        refine ⟨fun y hy => (List.mem_append.1 hy).elim (HFT.out.1 y) (fun h => by rw [List.mem_singleton] at h; rw [h]; exact HZ.out), HFT.out.2⟩
                      case measure => simp [intOf]; omega
                    · have HS : Hid (transB s.data.toList = trOf lab (ts.drop (k + 1)) a zi (zo ++ [z])) := by
                        show _ = _
                        rw [HTD.out]
                        exact trOf_out _ _ _ _ HNA.out HN.out ha0
                      have eq0 : ((a : Int) == 0) = false := by rw [beq_eq_false_iff_ne]; omega
                      obtain ⟨k0, k1, k2⟩ := hI5.bl.c3
                      have e1 := hI5.bl.frozen 2
                      go_wp2_with (at_builtin; refine wpList_push appInts' rfl (.tmp 71) (.tmp 73) rfl w5 [.int .i64 z] rfl (by simp [Value.oneCell']) _ zo.length (zo.map (Value.int .i64)) rfl hI5.ro rfl (by omega) hsz5 ?_; intro v' w' hown' hgr hat; obtain ⟨A9, c9, rfl⟩ := own_form hown'; obtain ⟨hB9, hI9⟩ := hI5.pushO hown' hgr hat; have hg9 := grown_step hg5 hgr (fun g' e => (hI5.ro.lt g' e).1) 2 (.slice A9 (zo.length + 1) c9); clear k0 k1 k2 e1; obtain ⟨k0, k1, k2⟩ := hB9.c3; have e1 := hB9.frozen 2)
                      go_roundw
                      case rel =>
                        refine ⟨k + 1, a, zi, zo ++ [z], _, _, by omega, by go_num, rfl, by omega, by omega, by rw [List.length_append, List.length_singleton]; omega, HS.out, ?_, hI9, hg9⟩
                        refine ⟨HFT.out.1, fun y hy => (List.mem_append.1 hy).elim (HFT.out.2 y) (fun h => by rw [List.mem_singleton] at h; rw [h]; exact HZ.out)⟩
                      case measure => simp [intOf]; omega
              · obtain rfl : k = ts.length := by omega
                have HE : Hid (transB s.data.toList = if a = 1 then some ⟨outB lab, zi, zo⟩ else none) := by
                  show _ = _
                  rw [HTK.out, List.drop_length]
                  exact trOf_nil _ _ _ _
                obtain ⟨Ai, ci, rfl⟩ := own_form hI.ri
                obtain ⟨Ao, co, rfl⟩ := own_form hI.ro
                have HO : Hid ((outB lab).size ≤ maxLen) := out_size hszl
                have HIF := Lib.hid (hI.far3 (g := w.heap.size) (by omega) (by omega) (.string (outB lab)) (.slice Ai zi.length ci) (.slice Ao zo.length co))
                have HS3 := Lib.hid (hBr.set3 (.string (outB lab)) (.slice Ai zi.length ci) (.slice Ao zo.length co))
                obtain ⟨k0, k1, k2⟩ := hI.bl.c3
                obtain ⟨z0, z1, z2⟩ := hBr.c3
                have f0 := hBr.frozen 0
                have f1 := hBr.frozen 1
                have f2 := hBr.frozen 2
                obtain ⟨q1, hq1⟩ : ∃ q1, ((a : Int) == 1) = q1 := ⟨_, rfl⟩
                have HQ1 : Hid ((if a = 1 then some (⟨outB lab, zi, zo⟩ : Tr) else none) = if q1 then some ⟨outB lab, zi, zo⟩ else none) := by
                  show _ = _
                  by_cases h : a = 1
                  · have : q1 = true := by rw [← hq1, h]; rfl
                    rw [if_pos h, this]; rfl
                  · have : q1 = false := by rw [← hq1, beq_eq_false_iff_ne]; omega
                    rw [if_neg h, this]; rfl
                go_wp2_with fail
                obtain ⟨t0, t1, t2⟩ := HS3.out.c3
                refine bodyPost_ret (v := .tuple #[.agg #[.string (outB lab), .slice Ai zi.length ci, .slice Ao zo.length co], .bool q1]) (by simp [results, Tryz.results23, go_sem, t0, t1, t2]) rfl ?_
                exact ⟨_, _, _, ⟨outB lab, zi, zo⟩, q1, rfl, HIF.out.isF (by omega) HO.out HFT.out.1 HFT.out.2, HE.out.trans HQ1.out, Below.set3 hb1r (Nat.le_refl _) _ _ _⟩
end Go.Proofs.YtlkkfkkhllijbaaGreatDoor
