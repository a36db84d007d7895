/- petri.Parse: the net of a text, or the line of the first fault. -/
import Derived.Test.YtlkkfkkhllijbaaGreatDoorPtParS
import Derived.Deep.CutRange
import Derived.Deep.CutBlock
namespace Go.Proofs.YtlkkfkkhllijbaaGreatDoor
open Go.RowKit

set_option maxHeartbeats 8000000 in
set_option maxRecDepth 100000 in
theorem parse_any (s : ByteArray) (w : World) (hs : s.size ≤ 1000000) (ha : AmbP w) : Calls Tryz.prog 6 #[.string s] w (RetPar s.data.toList w) := by
  have hb00 := bone w (.cells #[.int .i64 0, .slice none 0 0, .int .i64 0, .int .i64 0] 24)
  have hb0 := bbox hb00 (.cells #[.int .i64 0, .int .i64 0] 28)
  have hA0 := (Blk.new w 24 #[.int .i64 0, .slice none 0 0, .int .i64 0, .int .i64 0]).alloc (.cells #[.int .i64 0, .int .i64 0] 28)
  have hP0 := Blk.new_at (t := 28) (cs := #[.int .i64 0, .int .i64 0]) (w := w.alloc (.cells #[.int .i64 0, .slice none 0 0, .int .i64 0, .int .i64 0] 24)) (s := w.heap.size + 1) (World.size_alloc _ _)
  clear hb00
  go_enter Tryz.func6, Tryz.ntmps6
  go_upto_region 1 with fail
  generalize hw1 : (w.alloc (.cells #[.int .i64 0, .slice none 0 0, .int .i64 0, .int .i64 0] 24)).alloc (.cells #[.int .i64 0, .int .i64 0] 28) = w1 at *
  clear hw1
  by_cases hlong : 16384 < s.size
  · have HR : Hid (parseB s.data.toList = (noNet, 0, 5)) := by
      show _ = _
      unfold parseB
      rw [if_pos (by rw [size_list]; exact hlong)]
    obtain ⟨z0, z1, z2, z3⟩ := hA0.c4
    obtain ⟨y0, y1⟩ := hP0.c2
    have f0 := hA0.frozen 0
    have f1 := hA0.frozen 1
    have f2 := hA0.frozen 2
    have f3 := hA0.frozen 3
    have g0 := hP0.frozen 0
    have g1 := hP0.frozen 1
    go_wp2_with fail
    have hA9 := (hA0.set4 (.int .i64 0) (.slice none 0 0) (.int .i64 0) (.int .i64 0)).far2 (g := w.heap.size) (h := w.heap.size + 1) (by omega) (.int .i64 0) (.int .i64 0)
    have hP9 := (hP0.far4 (h := w.heap.size) (by omega) (.int .i64 0) (.slice none 0 0) (.int .i64 0) (.int .i64 0)).set2 (.int .i64 0) (.int .i64 0)
    obtain ⟨r0, r1, r2, r3⟩ := hA9.c4
    obtain ⟨p0, p1⟩ := hP9.c2
    refine bodyPost_ret (v := .tuple #[.agg #[.int .i64 0, .slice none 0 0, .int .i64 0, .int .i64 0], .agg #[.int .i64 0, .int .i64 0], .int .i64 5]) (by simp [results, Tryz.results6, go_sem, r0, r1, r2, r3, p0, p1]) rfl ?_
    exact ⟨_, by rw [HR.out]; rfl, by rw [HR.out]; exact noNet_is', Below.set2 (Below.set4 hb0 (Nat.le_refl _) (.int .i64 0) (.slice none 0 0) (.int .i64 0) (.int .i64 0)) (Nat.le_succ _) (.int .i64 0) (.int .i64 0)⟩
  have HR0 : Hid (parseB s.data.toList = linesB (partsB 10 s.data.toList) 0 noNet) := by
    show _ = _
    unfold parseB
    rw [if_neg (by rw [size_list]; omega)]
  have ha1 := ha.now hb0
  have hlt1 := hP0.lt
  go_wp2_with fail
  refine (split_fr 10 s w1 hs ha1).mono ?_
  rintro e w2 ⟨rfl, hl, hb2⟩
  have hA2 := hA0.now hb2
  have hP2 := hP0.now hb2
  have hb12 := bthen hb0 hb2
  have hsz2 := hb2.size
  have hpl := parts_len 10 s.data.toList
  rw [size_list] at hpl
  have hpne := parts_ne 10 s.data.toList
  generalize hLS : partsB 10 s.data.toList = ls at *
  have HLS : Hid (∀ l ∈ ls, (bsOf l).size ≤ 1000000) := fun l hl => by
    have := hpl.2 l hl
    rw [bs_size]; omega
  have hm1 : 1 ≤ ls.length := by obtain ⟨p, ps, e⟩ := hpne; rw [e]; simp
  have hm2 : ls.length ≤ 1000001 := by have := hpl.1; omega
  obtain ⟨g, o, hgo, hD, hr⟩ := SlP.row hl (by omega)
  injection hgo with hgo
  injection hgo with hg ho _
  have hgl : g < w2.heap.size := hD
  have hg2 : g ≠ w.heap.size + 1 ∧ g ≠ w.heap.size := by omega
  rw [hg]
  subst ho
  clear hg hl hpl hpne hLS hA0 hP0 hb0 hb2 ha1
  have hA3 := hA2.alloc (.cells #[.int .i64 0, .slice none 0 0, .int .i64 0, .int .i64 0] 24)
  have hP3 := hP2.alloc (.cells #[.int .i64 0, .slice none 0 0, .int .i64 0, .int .i64 0] 24)
  have hb3 := bone w2 (.cells #[.int .i64 0, .slice none 0 0, .int .i64 0, .int .i64 0] 24)
  have hb13 := bthen hb12 hb3
  have hI3 := NtI.start (base := w2.heap.size + 1) (Blk.new w2 24 #[.int .i64 0, .slice none 0 0, .int .i64 0, .int .i64 0]) (Nat.lt_succ_self _)
  have hsz3 : (w2.alloc (.cells #[.int .i64 0, .slice none 0 0, .int .i64 0, .int .i64 0] 24)).heap.size = w2.heap.size + 1 := World.size_alloc _ _
  have HR3 : Hid (∀ (k : Nat) l, ls[k]? = some l → (w2.alloc (.cells #[.int .i64 0, .slice none 0 0, .int .i64 0, .int .i64 0] 24)).cell? ⟨g, k, none⟩ = some (.string (bsOf l))) := fun k l h => by
    rw [World.cell?_alloc_old _ _ _ (Nat.ne_of_lt hgl)]
    have := hr k l h
    rw [Nat.zero_add] at this
    exact this
  clear hA2 hP2 hr hb3 hb12 hD
  go_wp2_with fail
  generalize hw3 : w2.alloc (.cells #[.int .i64 0, .slice none 0 0, .int .i64 0, .int .i64 0] 24) = w3 at *
  clear hw3
  have HSZ3 := Lib.hid hsz3
  have hsz3' : w2.heap.size + 1 ≤ w3.heap.size := by omega
  clear hsz3
  go_loopw [24] (fun iv wr => ∃ (k : Nat) (tv : Value) (n : Net), k < ls.length ∧ iv = .int .i64 k ∧ Hid (parseB s.data.toList = linesB (ls.drop k) k n) ∧ NtI wr (w2.heap.size + 1) w2.heap.size tv n ∧ n.trans.length ≤ k ∧ w3.grownBy wr (some w2.heap.size)) (fun iv _ => ls.length - (intOf iv).toNat)
  case atStart => exact ⟨0, _, noNet, by omega, rfl, HR0.out, hI3, Nat.zero_le _, grown_of_below (Below.refl _ _) _⟩
  case round =>
    obtain ⟨k, tv, n, hk, rfl, HT, hI, hnl, hgw⟩ := hrel
    obtain ⟨l, hx⟩ : ∃ l, ls[k]? = some l := ⟨_, List.getElem?_eq_getElem hk⟩
    have HDK := Lib.hid (HT.out.trans (by rw [drop_one hx] : linesB (ls.drop k) k n = linesB (l :: ls.drop (k + 1)) k n))
    have hsl := HLS.out l (List.mem_of_getElem? hx)
    have hszr : w2.heap.size + 1 ≤ wr.heap.size := Nat.le_trans hsz3' hgw.size
    have hbr : Below w2.heap.size w3 wr := below_of_grown hgw (by omega) (fun g' e => by injection e with e; omega)
    have hb1r : Below w.heap.size w wr := hb13.trans (hbr.mono (by omega))
    have har := ha.now hb1r
    have hAr := hA3.grown hgw (fun e => by injection e with e; omega)
    have hPr := hP3.grown hgw (fun e => by injection e with e; omega)
    have c1 : wr.cell? ⟨g, k, none⟩ = some (.string (bsOf l)) := (World.cell?_of_block (hgw.block g (by omega) (fun e => by injection e with e; omega))).trans (HR3.out k l hx)
    have hkm : (k : Int) < (ls.length : Int) := by omega
    have hk0 : (0 : Int) ≤ (k : Int) := by omega
    clear hx
    obtain ⟨lb, hlb⟩ : ∃ lb, ((k : Int) == (ls.length : Int) - 1) = lb := ⟨_, rfl⟩
    have HLB : Hid (lb = decide (k + 1 = ls.length)) := by
      show _ = _
      rw [← hlb, Bool.eq_iff_iff, beq_iff_eq, decide_eq_true_eq]; omega
    obtain ⟨le, hle⟩ : ∃ le, (bsOf l).toList.isEmpty = le := ⟨_, rfl⟩
    have HLE : Hid (le = decide (l = [])) := by
      show _ = _
      rw [← hle, Lib.toList_data]
      show l.isEmpty = _
      cases l <;> rfl
    have hwm : IntKind.i64.wrap ((ls.length : Int) - 1) = (ls.length : Int) - 1 := IntWalk.i64_in _ (by omega)
    go_upto_region 9 with fail
    go_cut [42] from 34 to 42 (fun b wc => b = .bool (lb && le && decide (0 < k)) ∧ wr = wc)
    case first =>
      by_cases hk1 : 0 < k
      · have hk2 : (0 : Int) < (k : Int) := by omega
        cases lb <;> cases le
        all_goals
          go_wp2_with fail
          go_meet
          exact ⟨by rw [decide_eq_true hk1]; rfl, rfl⟩
      · have hk2 : (k : Int) ≤ 0 := by omega
        cases lb <;> cases le
        all_goals
          go_wp2_with fail
          go_meet
          exact ⟨by rw [decide_eq_false hk1]; rfl, rfl⟩
    case rest =>
      obtain ⟨rfl, rfl⟩ := hcut
      clear c1 hwm hlb hle
      generalize hbk : (lb && le && decide (0 < k)) = bk
      have HBK := Lib.hid hbk
      clear hbk
      cases bk
      rotate_left
      · have hh : (k + 1 = ls.length ∧ l = []) ∧ 0 < k := by
          have := HBK.out
          rw [HLB.out, HLE.out] at this
          simpa using this
        have HRE : Hid (parseB s.data.toList = if validB n = true then (n, 0, 0) else (noNet, 0, 1)) := by
          show _ = _
          rw [HDK.out, List.drop_of_length_le (by omega), lines_end ⟨hh.1.2, hh.2⟩]
        clear hh
        obtain ⟨At, ct, rfl⟩ := hI.tr.open_
        obtain ⟨q0, q1, q2, q3⟩ := hI.bl.c4
        have HV := Lib.hid (valid_any n _ wr hI.is_)
        go_wp2_with fail
        refine HV.out.mono ?_
        rintro e w5 ⟨rfl, hb5⟩
        have hA5 := hAr.now hb5
        have hP5 := hPr.now hb5
        have hI5 := hI.now hb5
        have hb15 := bthen hb1r hb5
        clear q0 q1 q2 q3 HV hI hAr hPr hb1r hgw hbr har hb5
        generalize hv : validB n = vb at *
        have HVB := Lib.hid hv
        clear hv
        cases vb
        · have HR : Hid (parseB s.data.toList = (noNet, 0, 1)) := HRE.out
          obtain ⟨z0, z1, z2, z3⟩ := hA5.c4
          obtain ⟨y0, y1⟩ := hP5.c2
          have f0 := hA5.frozen 0
          have f1 := hA5.frozen 1
          have f2 := hA5.frozen 2
          have f3 := hA5.frozen 3
          have g0 := hP5.frozen 0
          have g1 := hP5.frozen 1
          go_wp2_with fail
          have hA9 := (hA5.set4 (.int .i64 0) (.slice none 0 0) (.int .i64 0) (.int .i64 0)).far2 (g := w.heap.size) (h := w.heap.size + 1) (by omega) (.int .i64 0) (.int .i64 0)
          have hP9 := (hP5.far4 (h := w.heap.size) (by omega) (.int .i64 0) (.slice none 0 0) (.int .i64 0) (.int .i64 0)).set2 (.int .i64 0) (.int .i64 0)
          obtain ⟨r0, r1, r2, r3⟩ := hA9.c4
          obtain ⟨p0, p1⟩ := hP9.c2
          refine bodyPost_ret (v := .tuple #[.agg #[.int .i64 0, .slice none 0 0, .int .i64 0, .int .i64 0], .agg #[.int .i64 0, .int .i64 0], .int .i64 1]) (by simp [results, Tryz.results6, go_sem, r0, r1, r2, r3, p0, p1]) rfl ?_
          exact ⟨_, by rw [HR.out]; rfl, by rw [HR.out]; exact noNet_is', Below.set2 (Below.set4 hb15 (Nat.le_refl _) (.int .i64 0) (.slice none 0 0) (.int .i64 0) (.int .i64 0)) (Nat.le_succ _) (.int .i64 0) (.int .i64 0)⟩
        · have HR : Hid (parseB s.data.toList = (n, 0, 0)) := HRE.out
          obtain ⟨q0, q1, q2, q3⟩ := hI5.bl.c4
          obtain ⟨z0, z1, z2, z3⟩ := hA5.c4
          obtain ⟨y0, y1⟩ := hP5.c2
          have f0 := hA5.frozen 0
          have f1 := hA5.frozen 1
          have f2 := hA5.frozen 2
          have f3 := hA5.frozen 3
          have g0 := hP5.frozen 0
          have g1 := hP5.frozen 1
          go_wp2_with fail
          have hA9 := (hA5.set4 (.int .i64 n.places) (.slice At n.trans.length ct) (.int .i64 n.source) (.int .i64 n.sink)).far2 (g := w.heap.size) (h := w.heap.size + 1) (by omega) (.int .i64 0) (.int .i64 0)
          have hP9 := (hP5.far4 (h := w.heap.size) (by omega) (.int .i64 n.places) (.slice At n.trans.length ct) (.int .i64 n.source) (.int .i64 n.sink)).set2 (.int .i64 0) (.int .i64 0)
          obtain ⟨r0, r1, r2, r3⟩ := hA9.c4
          obtain ⟨p0, p1⟩ := hP9.c2
          refine bodyPost_ret (v := .tuple #[.agg #[.int .i64 n.places, .slice At n.trans.length ct, .int .i64 n.source, .int .i64 n.sink], .agg #[.int .i64 0, .int .i64 0], .int .i64 0]) (by simp [results, Tryz.results6, go_sem, r0, r1, r2, r3, p0, p1]) rfl ?_
          exact ⟨_, by rw [HR.out]; rfl, by rw [HR.out]; exact ((hI5.far4 (g := w.heap.size) (by omega) (by omega) _ _ _ _).far2 (g := w.heap.size + 1) (by omega) (by omega) _ _).is_, Below.set2 (Below.set4 hb15 (Nat.le_refl _) (.int .i64 n.places) (.slice At n.trans.length ct) (.int .i64 n.source) (.int .i64 n.sink)) (Nat.le_succ _) (.int .i64 0) (.int .i64 0)⟩
      · have HNB : Hid (¬ (k + 1 = ls.length ∧ l = [] ∧ 0 < k)) := fun h => by
          have := HBK.out
          rw [HLB.out, HLE.out, decide_eq_true h.1, decide_eq_true h.2.1, decide_eq_true h.2.2] at this
          cases this
        have HLAST : Hid (lb = true → parseB s.data.toList = (noNet, k + 1, 3)) := fun h => by
          have h1 : k + 1 = ls.length := by rw [HLB.out] at h; exact of_decide_eq_true h
          rw [HDK.out, List.drop_of_length_le (by omega), lines_stop (fun h2 => HNB.out ⟨h1, h2⟩)]
        have HNL : Hid (lb = false → k + 1 < ls.length) := fun h => by
          rw [HLB.out] at h
          have := of_decide_eq_false h
          omega
        by_cases hk0 : k = 0
        · have hkz : ((k : Int) == 0) = true := by rw [beq_iff_eq]; omega
          have HK0 := Lib.hid hk0
          clear hk0
          have HF := Lib.hid (first_any (bsOf l) wr hsl har)
          obtain ⟨At, ct, rfl⟩ := hI.tr.open_
          go_wp2_with fail
          refine HF.out.mono ?_
          rintro e w5 ⟨p, x, y, ok, rfl, hf, fp, fx, fy, hb5⟩
          rw [bs_list] at hf
          have HFF := Lib.hid hf
          unfold netV0
          have hT6 := Blk.new w5 24 #[.int .i64 p, .slice none 0 0, .int .i64 x, .int .i64 y]
          have hb6 := bthen hb5 (bone w5 (.cells #[.int .i64 p, .slice none 0 0, .int .i64 x, .int .i64 y] 24))
          have hI6 := hI.now hb6
          have hI7 := hI6.set4 fp fx fy
          have hg7 := grown_set4 hgw hb6 (.int .i64 p) (.slice none 0 0) (.int .i64 x) (.int .i64 y)
          have hA7 := hA3.grown hg7 (fun e => by injection e with e; omega)
          have hP7 := hP3.grown hg7 (fun e => by injection e with e; omega)
          have hb17 : Below w.heap.size w _ := hb13.trans ((below_of_grown hg7 (B := w2.heap.size) (by omega) (fun g' e => by injection e with e; omega)).mono (by omega))
          have HBAD : Hid (ok = false → lb = false → parseB s.data.toList = (noNet, k + 1, 3)) := fun h1 h2 => by
            rw [h1] at hf
            rw [HDK.out, HK0.out]
            exact lines_nofirst (drop_ne (by have := HNL.out h2; have := HK0.out; omega)) hf
          have HGO : Hid (ok = true → lb = false → parseB s.data.toList = linesB (ls.drop (k + 1)) (k + 1) ⟨p, [], x, y⟩) := fun h1 h2 => by
            rw [h1] at hf
            rw [HDK.out, HK0.out]
            exact lines_first (drop_ne (by have := HNL.out h2; have := HK0.out; omega)) hf
          obtain ⟨q0, q1, q2, q3⟩ := hI6.bl.c4
          obtain ⟨t0, t1, t2, t3⟩ := hT6.c4
          have h0 := hI6.bl.frozen 0
          have h1 := hI6.bl.frozen 1
          have h2 := hI6.bl.frozen 2
          have h3 := hI6.bl.frozen 3
          clear hT6 hI6 hb6 hb5 hI hAr hPr hb1r hgw hbr har HF hf fp fx fy
          go_upto_region 13 with fail
          generalize hw6 : w5.alloc (.cells #[.int .i64 p, .slice none 0 0, .int .i64 x, .int .i64 y] 24) = w6 at *
          clear hw6
          cases lb <;> cases ok
          · have HR : Hid (parseB s.data.toList = (noNet, k + 1, 3)) := HBAD.out rfl rfl
            go_upto_region 16 with fail
            generalize hw7 : (((w6.setCell ⟨w2.heap.size, 0, none⟩ (.int .i64 p)).setCell ⟨w2.heap.size, 1, none⟩ (.slice none 0 0)).setCell ⟨w2.heap.size, 2, none⟩ (.int .i64 x)).setCell ⟨w2.heap.size, 3, none⟩ (.int .i64 y) = w7 at *
            clear hw7 q0 q1 q2 q3 t0 t1 t2 t3 h0 h1 h2 h3
            obtain ⟨z0, z1, z2, z3⟩ := hA7.c4
            obtain ⟨y0, y1⟩ := hP7.c2
            have f0 := hA7.frozen 0
            have f1 := hA7.frozen 1
            have f2 := hA7.frozen 2
            have f3 := hA7.frozen 3
            have g0 := hP7.frozen 0
            have g1 := hP7.frozen 1
            go_wp2_with fail
            have hA9 := (hA7.set4 (.int .i64 0) (.slice none 0 0) (.int .i64 0) (.int .i64 0)).far2 (g := w.heap.size) (h := w.heap.size + 1) (by omega) (.int .i64 ((k : Int) + 1)) (.int .i64 1)
            have hP9 := (hP7.far4 (h := w.heap.size) (by omega) (.int .i64 0) (.slice none 0 0) (.int .i64 0) (.int .i64 0)).set2 (.int .i64 ((k : Int) + 1)) (.int .i64 1)
            obtain ⟨r0, r1, r2, r3⟩ := hA9.c4
            obtain ⟨p0, p1⟩ := hP9.c2
            refine bodyPost_ret (v := .tuple #[.agg #[.int .i64 0, .slice none 0 0, .int .i64 0, .int .i64 0], .agg #[.int .i64 ((k : Int) + 1), .int .i64 1], .int .i64 3]) (by simp [results, Tryz.results6, go_sem, r0, r1, r2, r3, p0, p1]) rfl ?_
            exact ⟨_, by rw [HR.out]; rfl, by rw [HR.out]; exact noNet_is', Below.set2 (Below.set4 hb17 (Nat.le_refl _) (.int .i64 0) (.slice none 0 0) (.int .i64 0) (.int .i64 0)) (Nat.le_succ _) (.int .i64 ((k : Int) + 1)) (.int .i64 1)⟩
          · go_upto_region 16 with fail
            generalize hw7 : (((w6.setCell ⟨w2.heap.size, 0, none⟩ (.int .i64 p)).setCell ⟨w2.heap.size, 1, none⟩ (.slice none 0 0)).setCell ⟨w2.heap.size, 2, none⟩ (.int .i64 x)).setCell ⟨w2.heap.size, 3, none⟩ (.int .i64 y) = w7 at *
            clear hw7 q0 q1 q2 q3 t0 t1 t2 t3 h0 h1 h2 h3
            go_wp2_with fail
            go_roundw
            case rel => exact ⟨k + 1, _, ⟨p, [], x, y⟩, HNL.out rfl, by go_num, HGO.out rfl rfl, hI7, Nat.zero_le _, hg7⟩
            case measure => simp [intOf]; omega
          · have HR : Hid (parseB s.data.toList = (noNet, k + 1, 3)) := HLAST.out rfl
            go_upto_region 16 with fail
            generalize hw7 : (((w6.setCell ⟨w2.heap.size, 0, none⟩ (.int .i64 p)).setCell ⟨w2.heap.size, 1, none⟩ (.slice none 0 0)).setCell ⟨w2.heap.size, 2, none⟩ (.int .i64 x)).setCell ⟨w2.heap.size, 3, none⟩ (.int .i64 y) = w7 at *
            clear hw7 q0 q1 q2 q3 t0 t1 t2 t3 h0 h1 h2 h3
            obtain ⟨z0, z1, z2, z3⟩ := hA7.c4
            obtain ⟨y0, y1⟩ := hP7.c2
            have f0 := hA7.frozen 0
            have f1 := hA7.frozen 1
            have f2 := hA7.frozen 2
            have f3 := hA7.frozen 3
            have g0 := hP7.frozen 0
            have g1 := hP7.frozen 1
            go_wp2_with fail
            have hA9 := (hA7.set4 (.int .i64 0) (.slice none 0 0) (.int .i64 0) (.int .i64 0)).far2 (g := w.heap.size) (h := w.heap.size + 1) (by omega) (.int .i64 ((k : Int) + 1)) (.int .i64 1)
            have hP9 := (hP7.far4 (h := w.heap.size) (by omega) (.int .i64 0) (.slice none 0 0) (.int .i64 0) (.int .i64 0)).set2 (.int .i64 ((k : Int) + 1)) (.int .i64 1)
            obtain ⟨r0, r1, r2, r3⟩ := hA9.c4
            obtain ⟨p0, p1⟩ := hP9.c2
            refine bodyPost_ret (v := .tuple #[.agg #[.int .i64 0, .slice none 0 0, .int .i64 0, .int .i64 0], .agg #[.int .i64 ((k : Int) + 1), .int .i64 1], .int .i64 3]) (by simp [results, Tryz.results6, go_sem, r0, r1, r2, r3, p0, p1]) rfl ?_
            exact ⟨_, by rw [HR.out]; rfl, by rw [HR.out]; exact noNet_is', Below.set2 (Below.set4 hb17 (Nat.le_refl _) (.int .i64 0) (.slice none 0 0) (.int .i64 0) (.int .i64 0)) (Nat.le_succ _) (.int .i64 ((k : Int) + 1)) (.int .i64 1)⟩
          · have HR : Hid (parseB s.data.toList = (noNet, k + 1, 3)) := HLAST.out rfl
            go_upto_region 16 with fail
            generalize hw7 : (((w6.setCell ⟨w2.heap.size, 0, none⟩ (.int .i64 p)).setCell ⟨w2.heap.size, 1, none⟩ (.slice none 0 0)).setCell ⟨w2.heap.size, 2, none⟩ (.int .i64 x)).setCell ⟨w2.heap.size, 3, none⟩ (.int .i64 y) = w7 at *
            clear hw7 q0 q1 q2 q3 t0 t1 t2 t3 h0 h1 h2 h3
            obtain ⟨z0, z1, z2, z3⟩ := hA7.c4
            obtain ⟨y0, y1⟩ := hP7.c2
            have f0 := hA7.frozen 0
            have f1 := hA7.frozen 1
            have f2 := hA7.frozen 2
            have f3 := hA7.frozen 3
            have g0 := hP7.frozen 0
            have g1 := hP7.frozen 1
            go_wp2_with fail
            have hA9 := (hA7.set4 (.int .i64 0) (.slice none 0 0) (.int .i64 0) (.int .i64 0)).far2 (g := w.heap.size) (h := w.heap.size + 1) (by omega) (.int .i64 ((k : Int) + 1)) (.int .i64 1)
            have hP9 := (hP7.far4 (h := w.heap.size) (by omega) (.int .i64 0) (.slice none 0 0) (.int .i64 0) (.int .i64 0)).set2 (.int .i64 ((k : Int) + 1)) (.int .i64 1)
            obtain ⟨r0, r1, r2, r3⟩ := hA9.c4
            obtain ⟨p0, p1⟩ := hP9.c2
            refine bodyPost_ret (v := .tuple #[.agg #[.int .i64 0, .slice none 0 0, .int .i64 0, .int .i64 0], .agg #[.int .i64 ((k : Int) + 1), .int .i64 1], .int .i64 3]) (by simp [results, Tryz.results6, go_sem, r0, r1, r2, r3, p0, p1]) rfl ?_
            exact ⟨_, by rw [HR.out]; rfl, by rw [HR.out]; exact noNet_is', Below.set2 (Below.set4 hb17 (Nat.le_refl _) (.int .i64 0) (.slice none 0 0) (.int .i64 0) (.int .i64 0)) (Nat.le_succ _) (.int .i64 ((k : Int) + 1)) (.int .i64 1)⟩
        · have hkz : ((k : Int) == 0) = false := by rw [beq_eq_false_iff_ne]; omega
          have HK0 := Lib.hid hk0
          clear hk0
          have HF := Lib.hid (transition_any (bsOf l) wr hsl har)
          obtain ⟨At, ct, rfl⟩ := hI.tr.open_
          go_wp2_with fail
          refine HF.out.mono ?_
          rintro e w5 ⟨lab, iv, ov, t, ok, rfl, ht, hf, hb5⟩
          rw [bs_list] at hf
          obtain ⟨rfl, Ai, ci, Ao, co, rfl, rfl⟩ := tr_form ht
          have hT6 := Blk.new w5 52 #[.string t.label, .slice Ai t.ins.length ci, .slice Ao t.outs.length co]
          have hb56 := bone w5 (.cells #[.string t.label, .slice Ai t.ins.length ci, .slice Ao t.outs.length co] 52)
          have hb6 := bthen hb5 hb56
          have hI6 := hI.now hb6
          have hg6 := grown_then hgw hb6
          have hy := hI.elem (B := wr.heap.size) hszr (fun g e => (hI.tr.lt g e).2) (ht.keepF hb56)
          have hsz6 : w2.heap.size + 1 ≤ (w5.alloc (.cells #[.string t.label, .slice Ai t.ins.length ci, .slice Ao t.outs.length co] 52)).heap.size := Nat.le_trans hszr hb6.size
          have HBAD : Hid (ok = false → lb = false → parseB s.data.toList = (noNet, k + 1, 3)) := fun h1 h2 => by
            rw [h1] at hf
            rw [HDK.out]
            exact lines_notrans (drop_ne (by have := HNL.out h2; omega)) HK0.out hf
          have HGO : Hid (ok = true → lb = false → parseB s.data.toList = linesB (ls.drop (k + 1)) (k + 1) ⟨n.places, n.trans ++ [t], n.source, n.sink⟩) := fun h1 h2 => by
            rw [h1] at hf
            rw [HDK.out]
            exact lines_trans (drop_ne (by have := HNL.out h2; omega)) HK0.out hf
          clear HF hf ht hb5 hb56 hI hAr hPr hb1r hgw hbr har hb6
          go_upto_region 15 with fail
          generalize hw6 : w5.alloc (.cells #[.string t.label, .slice Ai t.ins.length ci, .slice Ao t.outs.length co] 52) = w6 at *
          clear hw6
          obtain ⟨q0, q1, q2, q3⟩ := hI6.bl.c4
          obtain ⟨t0, t1, t2⟩ := hT6.c3
          have h1 := hI6.bl.frozen 1
          clear hT6
          cases lb <;> cases ok
          · have HR : Hid (parseB s.data.toList = (noNet, k + 1, 3)) := HBAD.out rfl rfl
            go_wp2_with (at_builtin; refine wpList_pushR appTrs' RTr.kept rfl (.tmp 63) (.tmp 65) rfl w6 [.string t.label, .slice Ai t.ins.length ci, .slice Ao t.outs.length co] rfl (by simp [Value.oneCell']) (.slice At n.trans.length ct) n.trans t rfl hI6.tr hy rfl (by omega) hsz6 ?_; intro v' w' hown' hgr hat; obtain ⟨A9, c9, hA9⟩ := hown'.open_; rw [List.length_append, List.length_singleton] at hA9; subst hA9; obtain ⟨hB9, hI7⟩ := hI6.push hown' hgr; have hg7 := grown_step hg6 hgr (fun g' e => by have := (hI6.tr.lt g' e).1; have := HSZ3.out; omega) 1 (.slice A9 (n.trans.length + 1) c9); clear q0 q1 q2 q3 h1; obtain ⟨q0, q1, q2, q3⟩ := hB9.c4; have h1 := hB9.frozen 1; generalize hW : @wpList = WL)
            subst hW
            go_upto_region 16 with fail
            have hA7 := hA3.grown hg7 (fun e => by injection e with e; omega)
            have hP7 := hP3.grown hg7 (fun e => by injection e with e; omega)
            have hb17 : Below w.heap.size w _ := hb13.trans ((below_of_grown hg7 (B := w2.heap.size) (by omega) (fun g' e => by injection e with e; omega)).mono (by omega))
            generalize hw7 : w'.setCell ⟨w2.heap.size, 1, none⟩ (.slice A9 (n.trans.length + 1) c9) = w7 at *
            clear hw7 q0 q1 q2 q3 t0 t1 t2 h1 hB9
            obtain ⟨z0, z1, z2, z3⟩ := hA7.c4
            obtain ⟨y0, y1⟩ := hP7.c2
            have f0 := hA7.frozen 0
            have f1 := hA7.frozen 1
            have f2 := hA7.frozen 2
            have f3 := hA7.frozen 3
            have g0 := hP7.frozen 0
            have g1 := hP7.frozen 1
            go_wp2_with fail
            have hA9 := (hA7.set4 (.int .i64 0) (.slice none 0 0) (.int .i64 0) (.int .i64 0)).far2 (g := w.heap.size) (h := w.heap.size + 1) (by omega) (.int .i64 ((k : Int) + 1)) (.int .i64 1)
            have hP9 := (hP7.far4 (h := w.heap.size) (by omega) (.int .i64 0) (.slice none 0 0) (.int .i64 0) (.int .i64 0)).set2 (.int .i64 ((k : Int) + 1)) (.int .i64 1)
            obtain ⟨r0, r1, r2, r3⟩ := hA9.c4
            obtain ⟨p0, p1⟩ := hP9.c2
            refine bodyPost_ret (v := .tuple #[.agg #[.int .i64 0, .slice none 0 0, .int .i64 0, .int .i64 0], .agg #[.int .i64 ((k : Int) + 1), .int .i64 1], .int .i64 3]) (by simp [results, Tryz.results6, go_sem, r0, r1, r2, r3, p0, p1]) rfl ?_
            exact ⟨_, by rw [HR.out]; rfl, by rw [HR.out]; exact noNet_is', Below.set2 (Below.set4 hb17 (Nat.le_refl _) (.int .i64 0) (.slice none 0 0) (.int .i64 0) (.int .i64 0)) (Nat.le_succ _) (.int .i64 ((k : Int) + 1)) (.int .i64 1)⟩
          · go_wp2_with (at_builtin; refine wpList_pushR appTrs' RTr.kept rfl (.tmp 63) (.tmp 65) rfl w6 [.string t.label, .slice Ai t.ins.length ci, .slice Ao t.outs.length co] rfl (by simp [Value.oneCell']) (.slice At n.trans.length ct) n.trans t rfl hI6.tr hy rfl (by omega) hsz6 ?_; intro v' w' hown' hgr hat; obtain ⟨A9, c9, hA9⟩ := hown'.open_; rw [List.length_append, List.length_singleton] at hA9; subst hA9; obtain ⟨hB9, hI7⟩ := hI6.push hown' hgr; have hg7 := grown_step hg6 hgr (fun g' e => by have := (hI6.tr.lt g' e).1; have := HSZ3.out; omega) 1 (.slice A9 (n.trans.length + 1) c9); clear q0 q1 q2 q3 h1; obtain ⟨q0, q1, q2, q3⟩ := hB9.c4; have h1 := hB9.frozen 1; generalize hW : @wpList = WL)
            subst hW
            go_upto_region 16 with fail
            have hA7 := hA3.grown hg7 (fun e => by injection e with e; omega)
            have hP7 := hP3.grown hg7 (fun e => by injection e with e; omega)
            have hb17 : Below w.heap.size w _ := hb13.trans ((below_of_grown hg7 (B := w2.heap.size) (by omega) (fun g' e => by injection e with e; omega)).mono (by omega))
            generalize hw7 : w'.setCell ⟨w2.heap.size, 1, none⟩ (.slice A9 (n.trans.length + 1) c9) = w7 at *
            clear hw7 q0 q1 q2 q3 t0 t1 t2 h1 hB9
            go_wp2_with fail
            go_roundw
            case rel => exact ⟨k + 1, _, ⟨n.places, n.trans ++ [t], n.source, n.sink⟩, HNL.out (by simp), by go_num, HGO.out (by simp) (by simp), hI7, by rw [List.length_append, List.length_singleton]; omega, hg7⟩
            case measure => simp [intOf]; omega
          · have HR : Hid (parseB s.data.toList = (noNet, k + 1, 3)) := HLAST.out rfl
            go_wp2_with (at_builtin; refine wpList_pushR appTrs' RTr.kept rfl (.tmp 63) (.tmp 65) rfl w6 [.string t.label, .slice Ai t.ins.length ci, .slice Ao t.outs.length co] rfl (by simp [Value.oneCell']) (.slice At n.trans.length ct) n.trans t rfl hI6.tr hy rfl (by omega) hsz6 ?_; intro v' w' hown' hgr hat; obtain ⟨A9, c9, hA9⟩ := hown'.open_; rw [List.length_append, List.length_singleton] at hA9; subst hA9; obtain ⟨hB9, hI7⟩ := hI6.push hown' hgr; have hg7 := grown_step hg6 hgr (fun g' e => by have := (hI6.tr.lt g' e).1; have := HSZ3.out; omega) 1 (.slice A9 (n.trans.length + 1) c9); clear q0 q1 q2 q3 h1; obtain ⟨q0, q1, q2, q3⟩ := hB9.c4; have h1 := hB9.frozen 1; generalize hW : @wpList = WL)
            subst hW
            go_upto_region 16 with fail
            have hA7 := hA3.grown hg7 (fun e => by injection e with e; omega)
            have hP7 := hP3.grown hg7 (fun e => by injection e with e; omega)
            have hb17 : Below w.heap.size w _ := hb13.trans ((below_of_grown hg7 (B := w2.heap.size) (by omega) (fun g' e => by injection e with e; omega)).mono (by omega))
            generalize hw7 : w'.setCell ⟨w2.heap.size, 1, none⟩ (.slice A9 (n.trans.length + 1) c9) = w7 at *
            clear hw7 q0 q1 q2 q3 t0 t1 t2 h1 hB9
            obtain ⟨z0, z1, z2, z3⟩ := hA7.c4
            obtain ⟨y0, y1⟩ := hP7.c2
            have f0 := hA7.frozen 0
            have f1 := hA7.frozen 1
            have f2 := hA7.frozen 2
            have f3 := hA7.frozen 3
            have g0 := hP7.frozen 0
            have g1 := hP7.frozen 1
            go_wp2_with fail
            have hA9 := (hA7.set4 (.int .i64 0) (.slice none 0 0) (.int .i64 0) (.int .i64 0)).far2 (g := w.heap.size) (h := w.heap.size + 1) (by omega) (.int .i64 ((k : Int) + 1)) (.int .i64 1)
            have hP9 := (hP7.far4 (h := w.heap.size) (by omega) (.int .i64 0) (.slice none 0 0) (.int .i64 0) (.int .i64 0)).set2 (.int .i64 ((k : Int) + 1)) (.int .i64 1)
            obtain ⟨r0, r1, r2, r3⟩ := hA9.c4
            obtain ⟨p0, p1⟩ := hP9.c2
            refine bodyPost_ret (v := .tuple #[.agg #[.int .i64 0, .slice none 0 0, .int .i64 0, .int .i64 0], .agg #[.int .i64 ((k : Int) + 1), .int .i64 1], .int .i64 3]) (by simp [results, Tryz.results6, go_sem, r0, r1, r2, r3, p0, p1]) rfl ?_
            exact ⟨_, by rw [HR.out]; rfl, by rw [HR.out]; exact noNet_is', Below.set2 (Below.set4 hb17 (Nat.le_refl _) (.int .i64 0) (.slice none 0 0) (.int .i64 0) (.int .i64 0)) (Nat.le_succ _) (.int .i64 ((k : Int) + 1)) (.int .i64 1)⟩
          · have HR : Hid (parseB s.data.toList = (noNet, k + 1, 3)) := HLAST.out rfl
            go_wp2_with (at_builtin; refine wpList_pushR appTrs' RTr.kept rfl (.tmp 63) (.tmp 65) rfl w6 [.string t.label, .slice Ai t.ins.length ci, .slice Ao t.outs.length co] rfl (by simp [Value.oneCell']) (.slice At n.trans.length ct) n.trans t rfl hI6.tr hy rfl (by omega) hsz6 ?_; intro v' w' hown' hgr hat; obtain ⟨A9, c9, hA9⟩ := hown'.open_; rw [List.length_append, List.length_singleton] at hA9; subst hA9; obtain ⟨hB9, hI7⟩ := hI6.push hown' hgr; have hg7 := grown_step hg6 hgr (fun g' e => by have := (hI6.tr.lt g' e).1; have := HSZ3.out; omega) 1 (.slice A9 (n.trans.length + 1) c9); clear q0 q1 q2 q3 h1; obtain ⟨q0, q1, q2, q3⟩ := hB9.c4; have h1 := hB9.frozen 1; generalize hW : @wpList = WL)
            subst hW
            go_upto_region 16 with fail
            have hA7 := hA3.grown hg7 (fun e => by injection e with e; omega)
            have hP7 := hP3.grown hg7 (fun e => by injection e with e; omega)
            have hb17 : Below w.heap.size w _ := hb13.trans ((below_of_grown hg7 (B := w2.heap.size) (by omega) (fun g' e => by injection e with e; omega)).mono (by omega))
            generalize hw7 : w'.setCell ⟨w2.heap.size, 1, none⟩ (.slice A9 (n.trans.length + 1) c9) = w7 at *
            clear hw7 q0 q1 q2 q3 t0 t1 t2 h1 hB9
            obtain ⟨z0, z1, z2, z3⟩ := hA7.c4
            obtain ⟨y0, y1⟩ := hP7.c2
            have f0 := hA7.frozen 0
            have f1 := hA7.frozen 1
            have f2 := hA7.frozen 2
            have f3 := hA7.frozen 3
            have g0 := hP7.frozen 0
            have g1 := hP7.frozen 1
            go_wp2_with fail
            have hA9 := (hA7.set4 (.int .i64 0) (.slice none 0 0) (.int .i64 0) (.int .i64 0)).far2 (g := w.heap.size) (h := w.heap.size + 1) (by omega) (.int .i64 ((k : Int) + 1)) (.int .i64 1)
            have hP9 := (hP7.far4 (h := w.heap.size) (by omega) (.int .i64 0) (.slice none 0 0) (.int .i64 0) (.int .i64 0)).set2 (.int .i64 ((k : Int) + 1)) (.int .i64 1)
            obtain ⟨r0, r1, r2, r3⟩ := hA9.c4
            obtain ⟨p0, p1⟩ := hP9.c2
            refine bodyPost_ret (v := .tuple #[.agg #[.int .i64 0, .slice none 0 0, .int .i64 0, .int .i64 0], .agg #[.int .i64 ((k : Int) + 1), .int .i64 1], .int .i64 3]) (by simp [results, Tryz.results6, go_sem, r0, r1, r2, r3, p0, p1]) rfl ?_
            exact ⟨_, by rw [HR.out]; rfl, by rw [HR.out]; exact noNet_is', Below.set2 (Below.set4 hb17 (Nat.le_refl _) (.int .i64 0) (.slice none 0 0) (.int .i64 0) (.int .i64 0)) (Nat.le_succ _) (.int .i64 ((k : Int) + 1)) (.int .i64 1)⟩
end Go.Proofs.YtlkkfkkhllijbaaGreatDoor
