/- Parse of the reference. -/
import Derived.Test.YtlkkfkkhllijbaaGreatDoorPtParS
import Derived.Deep.CutRange
import Derived.Deep.CutBlock
namespace Go.Proofs.YtlkkfkkhllijbaaGreatDoor
open Go.RowKit

set_option maxHeartbeats 8000000 in
set_option maxRecDepth 100000 in
theorem parse_ref (s : ByteArray) (w : World) (hs : s.size ≤ 1000000) : Calls Tryz.prog 7 #[.string s] w (RetParR s.data.toList w) := by
  have hb0 := bone w (.cells #[.int .i64 0, .slice none 0 0, .int .i64 0, .int .i64 0] 24)
  have hA0 := Blk.new w 24 #[.int .i64 0, .slice none 0 0, .int .i64 0, .int .i64 0]
  have hb13 := bbox hb0 (.cells #[.int .i64 0, .slice none 0 0, .int .i64 0, .int .i64 0] 24)
  have hA3 := hA0.alloc (.cells #[.int .i64 0, .slice none 0 0, .int .i64 0, .int .i64 0] 24)
  have hI3 := NtI.start (base := w.heap.size + 2) (Blk.new_at (t := 24) (cs := #[.int .i64 0, .slice none 0 0, .int .i64 0, .int .i64 0]) (w := w.alloc (.cells #[.int .i64 0, .slice none 0 0, .int .i64 0, .int .i64 0] 24)) (s := w.heap.size + 1) (World.size_alloc _ _)) (by omega)
  have hsz3 : ((w.alloc (.cells #[.int .i64 0, .slice none 0 0, .int .i64 0, .int .i64 0] 24)).alloc (.cells #[.int .i64 0, .slice none 0 0, .int .i64 0, .int .i64 0] 24)).heap.size = w.heap.size + 2 := by rw [World.size_alloc, World.size_alloc]
  go_enter Tryz.func7, Tryz.ntmps7
  by_cases hlong : 16384 < s.size
  · have HR : Hid (parseB s.data.toList = (noNet, 0, 5)) := by
      show _ = _
      unfold parseB
      rw [if_pos (by rw [size_list]; exact hlong)]
    clear hI3 hA3 hb13 hsz3
    go_upto_region 1 with fail
    generalize hw1 : w.alloc (.cells #[.int .i64 0, .slice none 0 0, .int .i64 0, .int .i64 0] 24) = w1 at *
    clear hw1
    obtain ⟨z0, z1, z2, z3⟩ := hA0.c4
    have f0 := hA0.frozen 0
    have f1 := hA0.frozen 1
    have f2 := hA0.frozen 2
    have f3 := hA0.frozen 3
    go_wp2_with fail
    obtain ⟨r0, r1, r2, r3⟩ := (hA0.set4 (.int .i64 0) (.slice none 0 0) (.int .i64 0) (.int .i64 0)).c4
    refine bodyPost_ret (v := .tuple #[.agg #[.int .i64 0, .slice none 0 0, .int .i64 0, .int .i64 0], .int .i64 0, .int .i64 5]) (by simp [results, Tryz.results7, go_sem, r0, r1, r2, r3]) rfl ?_
    exact ⟨_, by rw [HR.out]; rfl, by rw [HR.out]; exact noNet_is', Below.set4 hb0 (Nat.le_refl _) (.int .i64 0) (.slice none 0 0) (.int .i64 0) (.int .i64 0)⟩
  have HR0 : Hid (parseB s.data.toList = linesB (partsB 10 (s.data.toList.drop 0)) 0 noNet) := by
    show _ = _
    unfold parseB
    rw [if_neg (by rw [size_list]; omega), List.drop_zero]
  clear hA0 hb0
  go_upto_region 4 with fail
  generalize hw3 : ((w.alloc (.cells #[.int .i64 0, .slice none 0 0, .int .i64 0, .int .i64 0] 24)).alloc (.cells #[.int .i64 0, .slice none 0 0, .int .i64 0, .int .i64 0] 24)) = w3 at *
  clear hw3
  have HSZ3 := Lib.hid hsz3
  have hsz3' : w.heap.size + 2 ≤ w3.heap.size := by omega
  clear hsz3
  have HN0 : Hid (∀ b ∈ (s.data.toList.drop 0).take (0 - 0), b ≠ 10) := fun b hb => by simp at hb
  go_wp2_with fail
  go_loopw [6, 7, 8] (fun lv jv kv wr => ∃ (k j i : Nat) (tv : Value) (n : Net), k ≤ s.size ∧ j ≤ k ∧ kv = .int .i64 k ∧ jv = .int .i64 j ∧ lv = .int .i64 ((i : Int) + 1) ∧ Hid (parseB s.data.toList = linesB (partsB 10 (s.data.toList.drop j)) i n) ∧ Hid (∀ b ∈ (s.data.toList.drop j).take (k - j), b ≠ 10) ∧ NtI wr (w.heap.size + 2) (w.heap.size + 1) tv n ∧ n.trans.length ≤ i ∧ i ≤ k ∧ w3.grownBy wr (some (w.heap.size + 1))) (fun _ _ kv _ => s.size - (intOf kv).toNat)
  case atStart => exact ⟨0, 0, 0, _, noNet, by omega, Nat.le_refl _, rfl, rfl, rfl, HR0.out, HN0.out, hI3, Nat.zero_le _, Nat.le_refl _, grown_of_below (Below.refl _ _) _⟩
  case round =>
    obtain ⟨k, j, i, tv, n, hk, hjk, rfl, rfl, rfl, HT, HNO, hI, hnl, hik, hgw⟩ := hrel
    have hszr : w.heap.size + 2 ≤ wr.heap.size := Nat.le_trans hsz3' hgw.size
    have hbr : Below w.heap.size w3 wr := below_of_grown hgw (by omega) (fun g' e => by injection e with e; omega)
    have hb1r : Below w.heap.size w wr := hb13.trans (hbr.mono (by omega))
    have hAr := hA3.grown hgw (fun e => by injection e with e; omega)
    by_cases hlt : k < s.size
    · have i1 : (0 : Int) ≤ (k : Int) := by omega
      have i2 : (k : Int) < (s.size : Int) := by omega
      obtain ⟨qn, hqn⟩ : ∃ qn, ((s[k].toNat : Int) != 10) = qn := ⟨_, rfl⟩
      have HQN : Hid (qn = !decide (s[k] = 10)) := by
        show _ = _
        rw [← hqn, bne]
        congr 1
        exact byte_eq (a := s[k]) (b := 10)
      cases qn
      rotate_left
      · have HN2 : Hid (∀ b ∈ (s.data.toList.drop j).take (k + 1 - j), b ≠ 10) := fun x hx => by
          rw [drop_split (at_list hlt) hjk, show k + 1 - j = (k - j) + 1 by omega, List.take_append, List.length_take, List.length_drop, List.take_take] at hx
          rw [size_list, show min (k - j) (s.size - j) = k - j by omega, Nat.min_eq_right (by omega), show k - j + 1 - (k - j) = 1 by omega] at hx
          rcases List.mem_append.1 hx with hx | hx
          · exact HNO.out x hx
          · rw [List.take_succ_cons, List.take_zero, List.mem_singleton] at hx
            rw [hx]
            intro e
            have := HQN.out
            rw [decide_eq_true e] at this
            cases this
        go_wp2_with fail
        go_roundw
        case rel => exact ⟨k + 1, j, i, tv, n, by omega, by omega, by go_num, rfl, rfl, HT.out, HN2.out, hI, hnl, by omega, hgw⟩
        case measure => simp [intOf]; omega
      · have h10 : s[k] = 10 := by
          have := HQN.out
          cases hd : decide (s[k] = 10)
          · rw [hd] at this; cases this
          · exact of_decide_eq_true hd
        have HDK : Hid (parseB s.data.toList = linesB ((s.data.toList.drop j).take (k - j) :: partsB 10 (s.data.toList.drop (k + 1))) i n) := by
          show _ = _
          rw [HT.out]
          congr 1
          rw [drop_split (at_list hlt) hjk, h10, parts_app HNO.out]
          congr 1
          have hlen : ((s.data.toList.drop j).take (k - j)).length = k - j := by rw [List.length_take, List.length_drop, size_list]; omega
          rw [List.take_append_of_le_length (by omega), List.take_take, Nat.min_self]
        have HNE : Hid (partsB 10 (s.data.toList.drop (k + 1)) ≠ []) := fun e => by
          obtain ⟨p, ps, hp⟩ := parts_ne 10 (s.data.toList.drop (k + 1))
          rw [hp] at e; cases e
        have HNT : Hid (∀ b ∈ (s.data.toList.drop (k + 1)).take (k + 1 - (k + 1)), b ≠ 10) := fun b hb => by rw [Nat.sub_self, List.take_zero] at hb; cases hb
        have hext := ext_bs s j k
        have hsp : (bsOf ((s.data.toList.drop j).take (k - j))).size ≤ 1000000 := by
          rw [bs_size, List.length_take, List.length_drop, size_list]; omega
        have j1 : (0 : Int) ≤ (j : Int) := by omega
        have j2 : (j : Int) ≤ (k : Int) := by omega
        have j3 : (k : Int) ≤ (s.size : Int) := by omega
        clear h10
        generalize hpe : (s.data.toList.drop j).take (k - j) = p at *
        clear hpe
        by_cases hi0 : i = 0
        · have hiz : (((i : Int) + 1) == 1) = true := by rw [beq_iff_eq]; omega
          have HI0 := Lib.hid hi0
          clear hi0
          have HF := Lib.hid (first_ref (bsOf p) wr hsp)
          obtain ⟨At, ct, rfl⟩ := hI.tr.open_
          go_wp2_with fail
          refine HF.out.mono ?_
          rintro e w5 ⟨zp, zx, zy, ok, rfl, hf, fp, fx, fy, hb5⟩
          rw [bs_list] at hf
          unfold netV0
          have hI6 := hI.now hb5
          have hI7 := hI6.set4 fp fx fy
          have hg7 := grown_set4 hgw hb5 (.int .i64 zp) (.slice none 0 0) (.int .i64 zx) (.int .i64 zy)
          have hA7 := hA3.grown hg7 (fun e => by injection e with e; omega)
          have hb17 : Below w.heap.size w _ := hb13.trans ((below_of_grown hg7 (B := w.heap.size) (by omega) (fun g' e => by injection e with e; omega)).mono (by omega))
          have HBAD : Hid (ok = false → parseB s.data.toList = (noNet, i + 1, 3)) := fun h1 => by
            rw [h1] at hf
            rw [HDK.out, HI0.out]
            exact lines_nofirst HNE.out hf
          have HGO : Hid (ok = true → parseB s.data.toList = linesB (partsB 10 (s.data.toList.drop (k + 1))) (i + 1) ⟨zp, [], zx, zy⟩) := fun h1 => by
            rw [h1] at hf
            rw [HDK.out, HI0.out]
            exact lines_first HNE.out hf
          obtain ⟨q0, q1, q2, q3⟩ := hI6.bl.c4
          have h0 := hI6.bl.frozen 0
          have h1 := hI6.bl.frozen 1
          have h2 := hI6.bl.frozen 2
          have h3 := hI6.bl.frozen 3
          clear hI6 hb5 hI hAr hb1r hgw hbr HF hf fp fx fy
          go_upto_region 17 with fail
          generalize hw7 : (((w5.setCell ⟨w.heap.size + 1, 0, none⟩ (.int .i64 zp)).setCell ⟨w.heap.size + 1, 1, none⟩ (.slice none 0 0)).setCell ⟨w.heap.size + 1, 2, none⟩ (.int .i64 zx)).setCell ⟨w.heap.size + 1, 3, none⟩ (.int .i64 zy) = w7 at *
          clear hw7 q0 q1 q2 q3 h0 h1 h2 h3
          cases ok
          · have HR := Lib.hid (HBAD.out rfl)
            obtain ⟨z0, z1, z2, z3⟩ := hA7.c4
            have f0 := hA7.frozen 0
            have f1 := hA7.frozen 1
            have f2 := hA7.frozen 2
            have f3 := hA7.frozen 3
            go_wp2_with fail
            obtain ⟨r0, r1, r2, r3⟩ := (hA7.set4 (.int .i64 0) (.slice none 0 0) (.int .i64 0) (.int .i64 0)).c4
            refine bodyPost_ret (v := .tuple #[.agg #[.int .i64 0, .slice none 0 0, .int .i64 0, .int .i64 0], .int .i64 ((i : Int) + 1), .int .i64 3]) (by simp [results, Tryz.results7, go_sem, r0, r1, r2, r3]) rfl ?_
            exact ⟨_, by rw [HR.out]; rfl, by rw [HR.out]; exact noNet_is', Below.set4 hb17 (Nat.le_refl _) (.int .i64 0) (.slice none 0 0) (.int .i64 0) (.int .i64 0)⟩
          · go_wp2_with fail
            go_roundw
            case rel => exact ⟨k + 1, k + 1, i + 1, _, ⟨zp, [], zx, zy⟩, by omega, Nat.le_refl _, by go_num, by go_num, by go_num, HGO.out rfl, HNT.out, hI7, Nat.zero_le _, by omega, hg7⟩
            case measure => simp [intOf]; omega
        · have hiz : (((i : Int) + 1) == 1) = false := by rw [beq_eq_false_iff_ne]; omega
          have HI0 := Lib.hid hi0
          clear hi0
          have HF := Lib.hid (transition_ref (bsOf p) wr hsp)
          obtain ⟨At, ct, rfl⟩ := hI.tr.open_
          go_wp2_with fail
          refine HF.out.mono ?_
          rintro e w5 ⟨lab, iv, ov, t, ok, rfl, ht, hf, hb5⟩
          rw [bs_list] at hf
          obtain ⟨rfl, Ai, ci, Ao, co, rfl, rfl⟩ := tr_form ht
          have hT6 := Blk.new w5 52 #[.string t.label, .slice Ai t.ins.length ci, .slice Ao t.outs.length co]
          have hb56 := bone w5 (.cells #[.string t.label, .slice Ai t.ins.length ci, .slice Ao t.outs.length co] 52)
          have hb6 := bthen hb5 hb56
          have hI6 := hI.now hb6
          have hg6 := grown_then hgw hb6
          have hy := hI.elem (B := wr.heap.size) hszr (fun g e => (hI.tr.lt g e).2) (ht.keepF hb56)
          have hsz6 : w.heap.size + 2 ≤ (w5.alloc (.cells #[.string t.label, .slice Ai t.ins.length ci, .slice Ao t.outs.length co] 52)).heap.size := Nat.le_trans hszr hb6.size
          have HBAD : Hid (ok = false → parseB s.data.toList = (noNet, i + 1, 3)) := fun h1 => by
            rw [h1] at hf
            rw [HDK.out]
            exact lines_notrans HNE.out HI0.out hf
          have HGO : Hid (ok = true → parseB s.data.toList = linesB (partsB 10 (s.data.toList.drop (k + 1))) (i + 1) ⟨n.places, n.trans ++ [t], n.source, n.sink⟩) := fun h1 => by
            rw [h1] at hf
            rw [HDK.out]
            exact lines_trans HNE.out HI0.out hf
          clear HF hf ht hb5 hb56 hI hAr hb1r hgw hbr hb6
          go_upto_region 15 with fail
          generalize hw6 : w5.alloc (.cells #[.string t.label, .slice Ai t.ins.length ci, .slice Ao t.outs.length co] 52) = w6 at *
          clear hw6
          obtain ⟨q0, q1, q2, q3⟩ := hI6.bl.c4
          obtain ⟨t0, t1, t2⟩ := hT6.c3
          have h1 := hI6.bl.frozen 1
          clear hT6
          go_wp2_with (at_builtin; refine wpList_pushR appTrs' RTr.kept rfl (.tmp 44) (.tmp 46) rfl w6 [.string t.label, .slice Ai t.ins.length ci, .slice Ao t.outs.length co] rfl (by simp [Value.oneCell']) (.slice At n.trans.length ct) n.trans t rfl hI6.tr hy rfl (by omega) hsz6 ?_; intro v' w' hown' hgr hat; obtain ⟨A9, c9, hA9⟩ := hown'.open_; rw [List.length_append, List.length_singleton] at hA9; subst hA9; obtain ⟨hB9, hI7⟩ := hI6.push hown' hgr; have hg7 := grown_step hg6 hgr (fun g' e => by have := (hI6.tr.lt g' e).1; have := HSZ3.out; omega) 1 (.slice A9 (n.trans.length + 1) c9); clear q0 q1 q2 q3 h1; obtain ⟨q0, q1, q2, q3⟩ := hB9.c4; have h1 := hB9.frozen 1; generalize hW : @wpList = WL)
          subst hW
          go_upto_region 16 with fail
          have hA7 := hA3.grown hg7 (fun e => by injection e with e; omega)
          have hb17 : Below w.heap.size w _ := hb13.trans ((below_of_grown hg7 (B := w.heap.size) (by omega) (fun g' e => by injection e with e; omega)).mono (by omega))
          generalize hw7 : w'.setCell ⟨w.heap.size + 1, 1, none⟩ (.slice A9 (n.trans.length + 1) c9) = w7 at *
          clear hw7 q0 q1 q2 q3 t0 t1 t2 h1 hB9
          cases ok
          · have HR := Lib.hid (HBAD.out rfl)
            obtain ⟨z0, z1, z2, z3⟩ := hA7.c4
            have f0 := hA7.frozen 0
            have f1 := hA7.frozen 1
            have f2 := hA7.frozen 2
            have f3 := hA7.frozen 3
            go_wp2_with fail
            obtain ⟨r0, r1, r2, r3⟩ := (hA7.set4 (.int .i64 0) (.slice none 0 0) (.int .i64 0) (.int .i64 0)).c4
            refine bodyPost_ret (v := .tuple #[.agg #[.int .i64 0, .slice none 0 0, .int .i64 0, .int .i64 0], .int .i64 ((i : Int) + 1), .int .i64 3]) (by simp [results, Tryz.results7, go_sem, r0, r1, r2, r3]) rfl ?_
            exact ⟨_, by rw [HR.out]; rfl, by rw [HR.out]; exact noNet_is', Below.set4 hb17 (Nat.le_refl _) (.int .i64 0) (.slice none 0 0) (.int .i64 0) (.int .i64 0)⟩
          · go_wp2_with fail
            go_roundw
            case rel => exact ⟨k + 1, k + 1, i + 1, _, ⟨n.places, n.trans ++ [t], n.source, n.sink⟩, by omega, Nat.le_refl _, by go_num, by go_num, by go_num, HGO.out (by simp), HNT.out, hI7, by rw [List.length_append, List.length_singleton]; omega, by omega, hg7⟩
            case measure => simp [intOf]; omega
    · obtain rfl : k = s.size := by omega
      have HP1 : Hid (parseB s.data.toList = linesB [s.data.toList.drop j] i n) := by
        show _ = _
        rw [HT.out, parts_one (l := s.data.toList.drop j) (fun b hb => HNO.out b (by rw [List.take_of_length_le (by rw [List.length_drop, size_list]; exact Nat.le_refl _)]; exact hb))]
      have HDE : Hid (s.data.toList.drop j = [] ↔ j = s.size) := by
        show _ ↔ _
        rw [List.drop_eq_nil_iff, size_list]; omega
      by_cases hi0 : i = 0
      · have hiz : (((i : Int) + 1) == 1) = true := by rw [beq_iff_eq]; omega
        have HR : Hid (parseB s.data.toList = (noNet, i + 1, 3)) := by
          show _ = _
          rw [HP1.out]
          exact lines_stop (fun h => by omega)
        clear hi0
        obtain ⟨z0, z1, z2, z3⟩ := hAr.c4
        have f0 := hAr.frozen 0
        have f1 := hAr.frozen 1
        have f2 := hAr.frozen 2
        have f3 := hAr.frozen 3
        go_wp2_with fail
        obtain ⟨r0, r1, r2, r3⟩ := (hAr.set4 (.int .i64 0) (.slice none 0 0) (.int .i64 0) (.int .i64 0)).c4
        refine bodyPost_ret (v := .tuple #[.agg #[.int .i64 0, .slice none 0 0, .int .i64 0, .int .i64 0], .int .i64 ((i : Int) + 1), .int .i64 3]) (by simp [results, Tryz.results7, go_sem, r0, r1, r2, r3]) rfl ?_
        exact ⟨_, by rw [HR.out]; rfl, by rw [HR.out]; exact noNet_is', Below.set4 hb1r (Nat.le_refl _) (.int .i64 0) (.slice none 0 0) (.int .i64 0) (.int .i64 0)⟩
      have hiz : (((i : Int) + 1) == 1) = false := by rw [beq_eq_false_iff_ne]; omega
      by_cases hj : j < s.size
      · have HR : Hid (parseB s.data.toList = (noNet, i + 1, 3)) := by
          show _ = _
          rw [HP1.out]
          exact lines_stop (fun h => by have := HDE.out.1 h.1; omega)
        have j1 : (j : Int) < (s.size : Int) := by omega
        obtain ⟨z0, z1, z2, z3⟩ := hAr.c4
        have f0 := hAr.frozen 0
        have f1 := hAr.frozen 1
        have f2 := hAr.frozen 2
        have f3 := hAr.frozen 3
        go_wp2_with fail
        obtain ⟨r0, r1, r2, r3⟩ := (hAr.set4 (.int .i64 0) (.slice none 0 0) (.int .i64 0) (.int .i64 0)).c4
        refine bodyPost_ret (v := .tuple #[.agg #[.int .i64 0, .slice none 0 0, .int .i64 0, .int .i64 0], .int .i64 ((i : Int) + 1), .int .i64 3]) (by simp [results, Tryz.results7, go_sem, r0, r1, r2, r3]) rfl ?_
        exact ⟨_, by rw [HR.out]; rfl, by rw [HR.out]; exact noNet_is', Below.set4 hb1r (Nat.le_refl _) (.int .i64 0) (.slice none 0 0) (.int .i64 0) (.int .i64 0)⟩
      · have j1 : (s.size : Int) ≤ (j : Int) := by omega
        have HRE : Hid (parseB s.data.toList = if validB n = true then (n, 0, 0) else (noNet, 0, 1)) := by
          show _ = _
          rw [HP1.out, HDE.out.2 (by omega)]
          exact lines_end ⟨rfl, by omega⟩
        obtain ⟨At, ct, rfl⟩ := hI.tr.open_
        obtain ⟨q0, q1, q2, q3⟩ := hI.bl.c4
        have HV := Lib.hid (valid_ref n _ wr hI.is_)
        go_wp2_with fail
        refine HV.out.mono ?_
        rintro e w5 ⟨rfl, hb5⟩
        have hA5 := hAr.now hb5
        have hI5 := hI.now hb5
        have hb15 := bthen hb1r hb5
        clear q0 q1 q2 q3 HV hI hAr hb1r hgw hbr hb5
        generalize hv : validB n = vb at *
        have HVB := Lib.hid hv
        clear hv
        cases vb
        · have HR : Hid (parseB s.data.toList = (noNet, 0, 1)) := HRE.out
          obtain ⟨z0, z1, z2, z3⟩ := hA5.c4
          have f0 := hA5.frozen 0
          have f1 := hA5.frozen 1
          have f2 := hA5.frozen 2
          have f3 := hA5.frozen 3
          go_wp2_with fail
          obtain ⟨r0, r1, r2, r3⟩ := (hA5.set4 (.int .i64 0) (.slice none 0 0) (.int .i64 0) (.int .i64 0)).c4
          refine bodyPost_ret (v := .tuple #[.agg #[.int .i64 0, .slice none 0 0, .int .i64 0, .int .i64 0], .int .i64 0, .int .i64 1]) (by simp [results, Tryz.results7, go_sem, r0, r1, r2, r3]) rfl ?_
          exact ⟨_, by rw [HR.out]; rfl, by rw [HR.out]; exact noNet_is', Below.set4 hb15 (Nat.le_refl _) (.int .i64 0) (.slice none 0 0) (.int .i64 0) (.int .i64 0)⟩
        · have HR : Hid (parseB s.data.toList = (n, 0, 0)) := HRE.out
          obtain ⟨q0, q1, q2, q3⟩ := hI5.bl.c4
          obtain ⟨z0, z1, z2, z3⟩ := hA5.c4
          have f0 := hA5.frozen 0
          have f1 := hA5.frozen 1
          have f2 := hA5.frozen 2
          have f3 := hA5.frozen 3
          go_wp2_with fail
          obtain ⟨r0, r1, r2, r3⟩ := (hA5.set4 (.int .i64 n.places) (.slice At n.trans.length ct) (.int .i64 n.source) (.int .i64 n.sink)).c4
          refine bodyPost_ret (v := .tuple #[.agg #[.int .i64 n.places, .slice At n.trans.length ct, .int .i64 n.source, .int .i64 n.sink], .int .i64 0, .int .i64 0]) (by simp [results, Tryz.results7, go_sem, r0, r1, r2, r3]) rfl ?_
          exact ⟨_, by rw [HR.out]; rfl, by rw [HR.out]; exact (hI5.far4 (g := w.heap.size) (by omega) (by omega) _ _ _ _).is_, Below.set4 hb15 (Nat.le_refl _) (.int .i64 n.places) (.slice At n.trans.length ct) (.int .i64 n.source) (.int .i64 n.sink)⟩
end Go.Proofs.YtlkkfkkhllijbaaGreatDoor
