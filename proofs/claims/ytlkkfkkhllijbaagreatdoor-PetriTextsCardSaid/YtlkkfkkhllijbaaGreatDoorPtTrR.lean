/- The line of a transition, as the reference reads it. -/
import Derived.Test.YtlkkfkkhllijbaaGreatDoorPtTr
import Derived.BigQuiet
namespace Go.Proofs.YtlkkfkkhllijbaaGreatDoor
open Go.RowKit

theorem last_at {S : ByteArray} {q : List UInt8} {b : UInt8} (h : S.data.toList = q ++ [b]) {k : Nat} (hk : k = q.length) (h' : k < S.size) : S[k] = b := by
  subst hk
  have := at_list h'
  rw [h, List.getElem?_append_right (Nat.le_refl _), Nat.sub_self] at this
  injection this with this
  exact this.symm
theorem ext_last {S : ByteArray} {q : List UInt8} {b : UInt8} (h : S.data.toList = q ++ [b]) {k : Nat} (hk : k = q.length) : S.extract 0 k = bsOf q := by
  rw [ext_bs, h, List.drop_zero, hk, Nat.sub_zero, List.take_left']
  rfl
set_option maxHeartbeats 4000000 in
set_option maxRecDepth 100000 in
theorem transition_ref (s : ByteArray) (w : World) (hs : s.size ≤ 1000000) : Calls Tryz.prog 26 #[.string s] w (RetTr s.data.toList w) := by
  have hb0 := bone w (.cells #[.string ⟨#[]⟩, .slice none 0 0, .slice none 0 0] 52)
  have hB0 := Blk.new w 52 #[.string ⟨#[]⟩, .slice none 0 0, .slice none 0 0]
  go_enter Tryz.func26, Tryz.ntmps26
  go_upto_region 1 with fail
  generalize hw1 : w.alloc (.cells #[.string ⟨#[]⟩, .slice none 0 0, .slice none 0 0] 52) = w1 at *
  clear hw1
  go_wp2_with fail
  refine (fields_ref s w1 hs).mono ?_
  rintro e w2 ⟨lv, rfl, hl, hb2⟩
  have hB2 := hB0.now hb2
  have hb12 := bthen hb0 hb2
  have hlt2 := hB2.lt
  clear hB0 hb0 hb2
  obtain ⟨p, ts, hp⟩ := parts_ne 32 s.data.toList
  have hpl := parts_len 32 s.data.toList
  have hps := hl.size
  rw [size_list] at hpl
  rw [hp] at hl hpl hps
  have HP := Lib.hid (trans_refs hp)
  have HPL : Hid (∀ t ∈ ts, (bsOf t).size ≤ 1000000) := fun t ht => by
    have := hpl.2 t (by simp [ht])
    rw [bs_size]; omega
  have hpl1 := hpl.1
  have hpl2 := hpl.2 p (by simp)
  clear hp hpl hps
  obtain ⟨A, c, rfl, h1, h2, hl⟩ := hl.open_
  rw [List.length_cons] at hl h1 hpl1 ⊢
  obtain ⟨g, o, rfl, hD, hr⟩ := SlP.row hl (by omega)
  have c0 : w2.cell? ⟨g, o, none⟩ = some (.string (bsOf p)) := hr 0 p rfl
  clear hl
  have i0 : (0 : Int) ≤ 0 := by omega
  have i1 : (0 : Int) < ((ts.length + 1 : Nat) : Int) := by omega
  by_cases h2l : p.length < 2
  · have HF : Hid (transB s.data.toList = none) := by
      show _ = _
      rw [HP.out]
      exact if_neg (fun h => by omega)
    have hd : decide (((bsOf p).size : Int) < 2) = true := by rw [bs_size]; simp; omega
    generalize bsOf p = S at *
    go_wp2_with fail
    go_quiet (fail)
    generalize hwd : w2.drewN _ = wd
    have hBd : Blk wd w.heap.size 52 #[.string ⟨#[]⟩, .slice none 0 0, .slice none 0 0] := by rw [← hwd]; exact hB2
    have hbd : Below w.heap.size w wd := by rw [← hwd]; exact bdrawn hb12 _
    clear hwd
    obtain ⟨z0, z1, z2⟩ := hBd.c3
    have f0 := hBd.frozen 0
    have f1 := hBd.frozen 1
    have f2 := hBd.frozen 2
    go_wp2_with fail
    obtain ⟨t0, t1, t2⟩ := (hBd.set3 (.string ⟨#[]⟩) (.slice none 0 0) (.slice none 0 0)).c3
    refine bodyPost_ret (v := .tuple #[.agg #[.string ⟨#[]⟩, .slice none 0 0, .slice none 0 0], .bool false]) (by simp [results, Tryz.results26, go_sem, t0, t1, t2]) rfl ?_
    exact ⟨_, _, _, _, false, rfl, zero_tr, by rw [HF.out]; rfl, Below.set3 hbd (Nat.le_refl _) _ _ _⟩
  · obtain ⟨q, b, rfl⟩ : ∃ q b, p = q ++ [b] := by
      rcases List.eq_nil_or_concat p with h | ⟨q, b, h⟩
      · subst h; simp at h2l
      · exact ⟨q, b, by rw [h, List.concat_eq_append]⟩
    rw [List.length_append, List.length_singleton] at h2l hpl2
    have hS : (bsOf (q ++ [b])).data.toList = q ++ [b] := rfl
    have hsz : (bsOf (q ++ [b])).size = q.length + 1 := by rw [bs_size, List.length_append, List.length_singleton]
    have hd : decide (((bsOf (q ++ [b])).size : Int) < 2) = false := by rw [hsz]; simp; omega
    have HL : Hid (∀ (k : Nat) (h' : k < (bsOf (q ++ [b])).size), k = q.length → (bsOf (q ++ [b]))[k] = b) := fun k h' hk => last_at hS hk h'
    have HX : Hid (∀ k, k = q.length → (bsOf (q ++ [b])).extract 0 k = bsOf q) := fun k hk => ext_last hS hk
    have HSZ := Lib.hid hsz
    have hk : q.length < (bsOf (q ++ [b])).size := by omega
    have j1 : (0 : Int) ≤ (q.length : Int) := by omega
    have j2 : (q.length : Int) < ((bsOf (q ++ [b])).size : Int) := by omega
    have j3 : IntKind.i64.wrap (((bsOf (q ++ [b])).size : Int) - 1) = (q.length : Int) := by rw [IntWalk.i64_in _ (by omega)]; omega
    obtain ⟨qb, hqb⟩ : ∃ qb, (((bsOf (q ++ [b]))[q.length].toNat : Int) != 58) = qb := ⟨_, rfl⟩
    have HQB : Hid (decide (b = 58) = !qb) := by
      show _ = _
      rw [← hqb, HL.out q.length hk rfl, bne, Bool.not_not]
      exact (byte_eq (a := b) (b := 58)).symm
    have hSb : (bsOf (q ++ [b])).size ≤ 1000000 := by omega
    have hSa : 2 ≤ (bsOf (q ++ [b])).size := by omega
    clear hS hsz
    generalize bsOf (q ++ [b]) = S at *
    go_wp2_with fail
    go_quiet (fail)
    generalize hwd : w2.drewN _ = wd
    have hBd : Blk wd w.heap.size 52 #[.string ⟨#[]⟩, .slice none 0 0, .slice none 0 0] := by rw [← hwd]; exact hB2
    have hbd : Below w.heap.size w wd := by rw [← hwd]; exact bdrawn hb12 _
    have hrd : ∀ (k : Nat) (l : List UInt8), (((q ++ [b]) :: ts))[k]? = some l → wd.cell? ⟨g, o + k, none⟩ = some (.string (bsOf l)) := by rw [← hwd]; exact hr
    have hgd : g < wd.heap.size := by rw [← hwd]; exact hD
    have c0 : wd.cell? ⟨g, o, none⟩ = some (.string S) := by rw [← hwd]; exact c0
    clear hwd hr
    cases qb
    rotate_left
    · have HF : Hid (transB s.data.toList = none) := by
        show _ = _
        rw [HP.out]
        refine if_neg (fun h => ?_)
        have h2 := h.2.1
        rw [List.getLast?_append] at h2
        have h2 : b = 58 := by simpa using h2
        have := HQB.out
        rw [decide_eq_true h2] at this
        cases this
      obtain ⟨z0, z1, z2⟩ := hBd.c3
      have f0 := hBd.frozen 0
      have f1 := hBd.frozen 1
      have f2 := hBd.frozen 2
      go_wp2_with fail
      obtain ⟨t0, t1, t2⟩ := (hBd.set3 (.string ⟨#[]⟩) (.slice none 0 0) (.slice none 0 0)).c3
      refine bodyPost_ret (v := .tuple #[.agg #[.string ⟨#[]⟩, .slice none 0 0, .slice none 0 0], .bool false]) (by simp [results, Tryz.results26, go_sem, t0, t1, t2]) rfl ?_
      exact ⟨_, _, _, _, false, rfl, zero_tr, by rw [HF.out]; rfl, Below.set3 hbd (Nat.le_refl _) _ _ _⟩
    · have hx := HX.out q.length rfl
      have j4 : (q.length : Int) ≤ (S.size : Int) := by omega
      have ca : ∀ ob, (wd.alloc ob).cell? ⟨g, o, none⟩ = some (.string S) := fun ob => by rw [World.cell?_alloc_old _ _ _ (Nat.ne_of_lt hgd)]; exact c0
      go_upto_region 4 with fail
      go_region
      have hT0 : Blk (wd.alloc (.cells #[.string (bsOf q), .slice none 0 0, .slice none 0 0] 52)).drew wd.heap.size 52 #[.string (bsOf q), .slice none 0 0, .slice none 0 0] := (Blk.new wd _ _).drew
      have hbT : Below wd.heap.size wd (wd.alloc (.cells #[.string (bsOf q), .slice none 0 0, .slice none 0 0] 52)).drew := (bone wd _).drew
      generalize hw3 : (wd.alloc (.cells #[.string (bsOf q), .slice none 0 0, .slice none 0 0] 52)).drew = w3 at *
      clear hw3 ca c0 j4 hx j3 hd
      have hBT := hBd.below hbT hBd.lt
      have hbT2 := bthen hbd hbT
      have hltd := hBd.lt
      have HB58 : Hid (b = 58) := by show b = 58; exact of_decide_eq_true HQB.out
      have hsq : (bsOf q).size ≤ maxLen := by rw [bs_size]; unfold maxLen; omega
      obtain ⟨ql, hql⟩ : ∃ ql, decide (q = [95]) = ql := ⟨_, rfl⟩
      have e95 := lit_of (l := q) (k := [95]) ql hql
      have HQL := Lib.hid hql
      clear hql
      obtain ⟨y0, y1, y2⟩ := hT0.c3
      have g0 := hT0.frozen 0
      go_upto_if 42 with fail
      go_cut [] from 43 to 48 (fun wc => Blk wc wd.heap.size 52 #[.string (outB q), .slice none 0 0, .slice none 0 0] ∧ Below wd.heap.size wd wc ∧ Hid (labB q = true))
      case first =>
        cases ql
        rotate_left
        · have hq95 := of_decide_eq_true HQL.out
          have HO : Hid (outB q = ⟨#[]⟩) := if_pos hq95
          have HL2 : Hid (labB q = true) := by show labB q = true; unfold labB; rw [HQL.out]; rfl
          clear hq95
          go_wp2_with fail
          go_meet
          exact ⟨by rw [HO.out]; exact hT0.set_ 0 _, hbT.setCell (p := ⟨wd.heap.size, 0, none⟩) (Nat.le_refl _) _, HL2⟩
        · have HO : Hid (outB q = bsOf q) := if_neg (of_decide_eq_false HQL.out)
          have HL2 : Hid (labB q = isNameB (bsOf q)) := by show labB q = _; unfold labB; rw [HQL.out]; rfl
          have HI := Lib.hid (isName_ref (bsOf q) w3 hsq)
          go_wp2_with fail
          refine HI.out.mono ?_
          rintro e w4 ⟨rfl, rfl⟩
          generalize hq : isNameB (bsOf q) = qn at *
          have HQ := Lib.hid hq
          clear hq HI
          cases qn
          · have HF : Hid (transB s.data.toList = none) := by
              show _ = _
              rw [HP.out]
              refine if_neg (fun h => ?_)
              have h2 := h.2.2
              rw [List.dropLast_concat, HL2.out] at h2
              cases h2
            obtain ⟨z0, z1, z2⟩ := hBT.c3
            have f0 := hBT.frozen 0
            have f1 := hBT.frozen 1
            have f2 := hBT.frozen 2
            go_wp2_with fail
            obtain ⟨t0, t1, t2⟩ := (hBT.set3 (.string ⟨#[]⟩) (.slice none 0 0) (.slice none 0 0)).c3
            refine bodyPost_ret (v := .tuple #[.agg #[.string ⟨#[]⟩, .slice none 0 0, .slice none 0 0], .bool false]) (by simp [results, Tryz.results26, go_sem, t0, t1, t2]) rfl ?_
            exact ⟨_, _, _, _, false, rfl, zero_tr, by rw [HF.out]; rfl, Below.set3 hbT2 (Nat.le_refl _) _ _ _⟩
          · go_wp2_with fail
            go_meet
            exact ⟨by rw [HO.out]; exact hT0, hbT, HL2⟩
      case rest =>
        obtain ⟨hT, hb3, HL2⟩ := hcut
        have HTR : Hid (transB s.data.toList = trOf q ts 0 [] []) := by
          show _ = _
          rw [HP.out, List.dropLast_concat]
          refine if_pos ⟨by rw [List.length_append, List.length_singleton]; omega, ?_, HL2.out⟩
          rw [List.getLast?_append, HB58.out]; rfl
        have hlt4 := hT.lt
        have hB4 := hBd.below hb3 hBd.lt
        have hb14 := bthen hbd hb3
        have hrc : ∀ (k : Nat) (l : List UInt8), (((q ++ [b]) :: ts))[k]? = some l → wc.cell? ⟨g, o + k, none⟩ = some (.string (bsOf l)) := fun k l h => (World.cell?_of_block (hb3.block g hgd)).trans (hrd k l h)
        have HRC := Lib.hid hrc
        have hI4 : TrI wc wc.heap.size wd.heap.size (outB q) (.slice none 0 0) (.slice none 0 0) [] [] := TrI.start hT hlt4
        have hsq1 : (bsOf q).size ≤ 1000000 := by rw [bs_size]; omega
        clear hrc hrd y0 y1 y2 g0 e95 hT0 hbT hBT hbT2 hb3 hBd hbd
        generalize hPS : (q ++ [b]) :: ts = PS at *
        have hPL : PS.length = ts.length + 1 := by rw [← hPS, List.length_cons]
        have HP1 : Hid (trOf q (PS.drop 1) 0 [] [] = transB s.data.toList) := by show _ = _; rw [← hPS, HTR.out]; rfl
        have HPM : Hid (∀ (j : Nat) t, 1 ≤ j → PS[j]? = some t → (bsOf t).size ≤ 1000000) := fun j t hj h => by
          rw [← hPS] at h
          obtain ⟨m, rfl⟩ : ∃ m, j = m + 1 := ⟨j - 1, by omega⟩
          rw [List.getElem?_cons_succ] at h
          exact HPL.out t (List.mem_of_getElem? h)
        clear hPS
        go_wp2_with fail
        go_loopw [6, 7] (fun av iv wr => ∃ (j : Nat) (ar : Bool) (zi zo : List Int) (xi xo : Value), 1 ≤ j ∧ j ≤ ts.length + 1 ∧ iv = .int .i64 j ∧ av = .bool ar ∧ zi.length ≤ j ∧ zo.length ≤ j ∧ Hid (transB s.data.toList = trOf q (PS.drop j) (if ar then 1 else 0) zi zo) ∧ Hid ((∀ z ∈ zi, Fit z) ∧ ∀ z ∈ zo, Fit z) ∧ TrI wr wc.heap.size wd.heap.size (outB q) xi xo zi zo ∧ wc.grownBy wr (some wd.heap.size)) (fun _ iv _ => ts.length + 1 - (intOf iv).toNat)
        case atStart => exact ⟨1, false, [], [], _, _, Nat.le_refl _, by omega, rfl, rfl, by simp, by simp, HP1.out.symm, ⟨fun z h => (by cases h), fun z h => (by cases h)⟩, hI4, grown_of_below (Below.refl _ _) _⟩
        case round =>
          obtain ⟨j, ar, zi, zo, xi, xo, hj1, hj, rfl, rfl, hli, hlo, HTK, HFT, hI, hgw⟩ := hrel
          have hbr : Below wd.heap.size wc wr := below_of_grown hgw (by omega) (fun g' e => by injection e with e; omega)
          have hb1r : Below w.heap.size w wr := hb14.trans (hbr.mono (by omega))
          have hBr := hB4.grown hgw (fun e => by injection e with e; omega)
          have hszr : wc.heap.size ≤ wr.heap.size := hgw.size
          by_cases hlt : j < ts.length + 1
          · obtain ⟨t, hx⟩ : ∃ t, PS[j]? = some t := ⟨_, List.getElem?_eq_getElem (by omega)⟩
            have hdk : PS.drop j = t :: PS.drop (j + 1) := by
              rw [List.drop_eq_getElem_cons (by omega)]
              rw [List.getElem?_eq_getElem (by omega)] at hx
              injection hx with hx
              rw [hx]
            have c1 : wr.cell? ⟨g, o + j, none⟩ = some (.string (bsOf t)) := (World.cell?_of_block (hgw.block g (by omega) (fun e => by injection e with e; omega))).trans (HRC.out j t hx)
            have HC := Lib.hid (ptNum_ref (bsOf t) wr (HPM.out j t hj1 hx))
            have HTD := Lib.hid (HTK.out.trans (by rw [hdk] : trOf q (PS.drop j) (if ar then 1 else 0) zi zo = trOf q (t :: PS.drop (j + 1)) (if ar then 1 else 0) zi zo))
            obtain ⟨qa, hqa⟩ : ∃ qa, decide (t = arrowB) = qa := ⟨_, rfl⟩
            have eA : ((bsOf t).toList == [45, 62]) = qa := lit_of qa hqa
            have HQA := Lib.hid hqa
            have i1 : (0 : Int) ≤ (j : Int) := by omega
            have i2 : (j : Int) < ((ts.length + 1 : Nat) : Int) := by omega
            clear hx hdk hqa
            by_cases hgo : qa = true ∧ ar = false
            · obtain ⟨rfl, rfl⟩ := hgo
              have HS : Hid (transB s.data.toList = trOf q (PS.drop (j + 1)) (if true then 1 else 0) zi zo) := by
                show _ = _
                rw [HTD.out, of_decide_eq_true HQA.out]
                exact trOf_arrow _ _ _ _ _
              go_wp2_with fail
              go_roundw
              case rel => exact ⟨j + 1, true, zi, zo, xi, xo, by omega, by omega, by go_num, rfl, by omega, by omega, HS.out, HFT.out, hI, hgw⟩
              case measure => simp [intOf]; omega
            · have HBAD : Hid (num9 t = none → transB s.data.toList = none) := fun hn => by
                rw [HTD.out]
                by_cases ht : t = arrowB
                · have har : ar = true := by
                    cases ar
                    · exact absurd ⟨by rw [← HQA.out]; exact decide_eq_true ht, rfl⟩ hgo
                    · rfl
                  rw [ht, har]
                  rw [trOf_arrow]
                  exact trOf_two _ _ _ _ (by simp)
                · exact trOf_bad _ _ _ _ _ ht hn
              have HNA : Hid (∀ z, num9 t = some z → t ≠ arrowB) := fun z h e => by rw [e, num9_arrow] at h; cases h
              have hgo' : (qa = false) ∨ (qa = true ∧ ar = true) := by cases qa <;> cases ar <;> simp_all
              clear hgo
              rcases hgo' with rfl | ⟨rfl, rfl⟩
              · go_wp2_with fail
                refine HC.out.mono ?_
                rintro e w5 ⟨z, ok, rfl, hn, hfz, rfl⟩
                rw [bs_list] at hn
                have HN := Lib.hid hn
                have HZ := Lib.hid hfz
                clear hn hfz HC c1 eA
                cases ok
                · have HF := Lib.hid (HBAD.out HN.out)
                  obtain ⟨z0, z1, z2⟩ := hBr.c3
                  have f0 := hBr.frozen 0
                  have f1 := hBr.frozen 1
                  have f2 := hBr.frozen 2
                  go_wp2_with fail
                  obtain ⟨t0, t1, t2⟩ := (hBr.set3 (.string ⟨#[]⟩) (.slice none 0 0) (.slice none 0 0)).c3
                  refine bodyPost_ret (v := .tuple #[.agg #[.string ⟨#[]⟩, .slice none 0 0, .slice none 0 0], .bool false]) (by simp [results, Tryz.results26, go_sem, t0, t1, t2]) rfl ?_
                  exact ⟨_, _, _, _, false, rfl, zero_tr, by rw [HF.out]; rfl, Below.set3 hb1r (Nat.le_refl _) _ _ _⟩
                · have HNT := Lib.hid (HNA.out z HN.out)
                  have hI5 := hI
                  have hg5 := hgw
                  have hsz5 := hszr
                  clear hI hgw hszr
                  cases ar
                  · have HS : Hid (transB s.data.toList = trOf q (PS.drop (j + 1)) (if false then 1 else 0) (zi ++ [z]) zo) := by
                      show _ = _
                      rw [HTD.out]
                      exact trOf_in _ _ _ _ HNT.out HN.out
                    obtain ⟨k0, k1, k2⟩ := hI5.bl.c3
                    have e1 := hI5.bl.frozen 1
                    go_wp2_with (at_builtin; refine wpList_push appInts' rfl (.tmp 83) (.tmp 85) rfl wr [.int .i64 z] rfl (by simp [Value.oneCell']) _ zi.length (zi.map (Value.int .i64)) rfl hI5.ri rfl (by omega) hsz5 ?_; intro v' w' hown' hgr hat; obtain ⟨A9, c9, rfl⟩ := own_form hown'; obtain ⟨hB9, hI9⟩ := hI5.pushI hown' hgr hat; have hg9 := grown_step hg5 hgr (fun g' e => (hI5.ri.lt g' e).1) 1 (.slice A9 (zi.length + 1) c9); clear k0 k1 k2 e1; obtain ⟨k0, k1, k2⟩ := hB9.c3; have e1 := hB9.frozen 1)
                    go_roundw
                    case rel =>
                      refine ⟨j + 1, false, zi ++ [z], zo, _, _, by omega, by omega, by go_num, rfl, by rw [List.length_append, List.length_singleton]; omega, by omega, HS.out, ⟨fun y hy => (List.mem_append.1 hy).elim (HFT.out.1 y) (fun h => by rw [List.mem_singleton] at h; rw [h]; exact HZ.out), HFT.out.2⟩, hI9, hg9⟩
                    case measure => simp [intOf]; omega
                  · have HS : Hid (transB s.data.toList = trOf q (PS.drop (j + 1)) (if true then 1 else 0) zi (zo ++ [z])) := by
                      show _ = _
                      rw [HTD.out]
                      exact trOf_out _ _ _ _ HNT.out HN.out (by simp)
                    obtain ⟨k0, k1, k2⟩ := hI5.bl.c3
                    have e1 := hI5.bl.frozen 2
                    go_wp2_with (at_builtin; refine wpList_push appInts' rfl (.tmp 77) (.tmp 79) rfl wr [.int .i64 z] rfl (by simp [Value.oneCell']) _ zo.length (zo.map (Value.int .i64)) rfl hI5.ro rfl (by omega) hsz5 ?_; intro v' w' hown' hgr hat; obtain ⟨A9, c9, rfl⟩ := own_form hown'; obtain ⟨hB9, hI9⟩ := hI5.pushO hown' hgr hat; have hg9 := grown_step hg5 hgr (fun g' e => (hI5.ro.lt g' e).1) 2 (.slice A9 (zo.length + 1) c9); clear k0 k1 k2 e1; obtain ⟨k0, k1, k2⟩ := hB9.c3; have e1 := hB9.frozen 2)
                    go_roundw
                    case rel =>
                      refine ⟨j + 1, true, zi, zo ++ [z], _, _, by omega, by omega, by go_num, rfl, by omega, by rw [List.length_append, List.length_singleton]; omega, HS.out, ⟨HFT.out.1, fun y hy => (List.mem_append.1 hy).elim (HFT.out.2 y) (fun h => by rw [List.mem_singleton] at h; rw [h]; exact HZ.out)⟩, hI9, hg9⟩
                    case measure => simp [intOf]; omega
              · go_wp2_with fail
                refine HC.out.mono ?_
                rintro e w5 ⟨z, ok, rfl, hn, hfz, rfl⟩
                rw [bs_list] at hn
                have HN := Lib.hid hn
                have HZ := Lib.hid hfz
                clear hn hfz HC c1 eA
                cases ok
                · have HF := Lib.hid (HBAD.out HN.out)
                  obtain ⟨z0, z1, z2⟩ := hBr.c3
                  have f0 := hBr.frozen 0
                  have f1 := hBr.frozen 1
                  have f2 := hBr.frozen 2
                  go_wp2_with fail
                  obtain ⟨t0, t1, t2⟩ := (hBr.set3 (.string ⟨#[]⟩) (.slice none 0 0) (.slice none 0 0)).c3
                  refine bodyPost_ret (v := .tuple #[.agg #[.string ⟨#[]⟩, .slice none 0 0, .slice none 0 0], .bool false]) (by simp [results, Tryz.results26, go_sem, t0, t1, t2]) rfl ?_
                  exact ⟨_, _, _, _, false, rfl, zero_tr, by rw [HF.out]; rfl, Below.set3 hb1r (Nat.le_refl _) _ _ _⟩
                · exact absurd (of_decide_eq_true HQA.out) (HNA.out z HN.out)
          · obtain rfl : j = ts.length + 1 := by omega
            have HE : Hid (transB s.data.toList = if ar then some ⟨outB q, zi, zo⟩ else none) := by
              show _ = _
              rw [HTK.out, List.drop_of_length_le (by omega), trOf_nil]
              cases ar <;> rfl
            obtain ⟨Ai, ci, rfl⟩ := own_form hI.ri
            obtain ⟨Ao, co, rfl⟩ := own_form hI.ro
            have HO : Hid ((outB q).size ≤ maxLen) := out_size hsq1
            have HIF := Lib.hid (hI.far3 (g := w.heap.size) (by omega) (by omega) (.string (outB q)) (.slice Ai zi.length ci) (.slice Ao zo.length co))
            have HS3 := Lib.hid (hBr.set3 (.string (outB q)) (.slice Ai zi.length ci) (.slice Ao zo.length co))
            obtain ⟨k0, k1, k2⟩ := hI.bl.c3
            obtain ⟨z0, z1, z2⟩ := hBr.c3
            have f0 := hBr.frozen 0
            have f1 := hBr.frozen 1
            have f2 := hBr.frozen 2
            go_wp2_with fail
            obtain ⟨t0, t1, t2⟩ := HS3.out.c3
            refine bodyPost_ret (v := .tuple #[.agg #[.string (outB q), .slice Ai zi.length ci, .slice Ao zo.length co], .bool ar]) (by simp [results, Tryz.results26, go_sem, t0, t1, t2]) rfl ?_
            exact ⟨_, _, _, ⟨outB q, zi, zo⟩, ar, rfl, HIF.out.isF (by omega) HO.out HFT.out.1 HFT.out.2, HE.out, Below.set3 hb1r (Nat.le_refl _) _ _ _⟩
end Go.Proofs.YtlkkfkkhllijbaaGreatDoor
