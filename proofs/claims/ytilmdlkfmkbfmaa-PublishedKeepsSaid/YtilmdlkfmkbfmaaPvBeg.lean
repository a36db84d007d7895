/- privacy.beginnings. -/
import Derived.Test.YtilmdlkfmkbfmaaPvBeg0
set_option linter.all false
namespace Go.Proofs.Ytilmdlkfmkbfmaa
open Go.RowKit Go.Maps Go.WideMaps

theorem allp_next {l : List Vr} {i : Nat} {x : Vr} (h : l[i]? = some x) : allp (l.take (i + 1)) = allp (l.take i) ++ pres x := by
  rw [take_next h, allp_append]; simp [allp]
theorem totW_next (f : Wd → Int) {l : List Vr} {i : Nat} {x : Vr} (h : l[i]? = some x) : totW f (l.take (i + 1)) = totW f (l.take i) + x.n * f x.acts := by
  rw [take_next h, totW_append, totW_cons, totW_nil]; omega
theorem evs_le : ∀ l : List Vr, (∀ x ∈ l, x.acts.length ≤ 200 ∧ 1 ≤ x.n ∧ x.n ≤ 1048576) → 0 ≤ totW lenW l ∧ totW lenW l ≤ 209715200 * (l.length : Int)
  | [], _ => ⟨Int.le_refl _, by rw [totW_nil]; simp⟩
  | x :: l, h => by
    obtain ⟨h1, h2⟩ := evs_le l (fun y hy => h y (List.mem_cons_of_mem _ hy))
    obtain ⟨a1, a2, a3⟩ := h x List.mem_cons_self
    have a4 : x.n * lenW x.acts ≤ 1048576 * 200 := Int.mul_le_mul a3 (by unfold lenW; omega) (lenW_nonneg _) (by omega)
    have a5 : 0 ≤ x.n * lenW x.acts := Int.mul_nonneg (by omega) (lenW_nonneg _)
    rw [totW_cons, List.length_cons]
    omega
set_option maxHeartbeats 4000000 in
set_option maxRecDepth 100000 in
theorem beginnings_any (u : Value) (l : List Vr) (w : World) (hu : SlVr (Lt w.heap.size) w u l) (hok : RightOk l) :
    Calls Try.prog 32 #[u] w fun e w' => ∃ b n, e = .returned (.tuple #[.map (some b), .int .i64 (totW lenW l)]) ∧ MapI w' b n (allp l) ∧ Below w.heap.size w w' := by
  have HU := Lib.hid hu
  obtain ⟨A, c, rfl, h1, h2, hu⟩ := hu.open_
  have HU := Lib.hid hu
  have HOK := Lib.hid hok
  have hmm := @run_makeMap Try.prog
  have hM0 := MapI.made w
  have hb0 := bone w (.map #[] 0)
  have hln := hok.len
  clear hu hok
  go_enter Try.func32, Try.ntmps32
  go_upto_region 2 with fail
  obtain ⟨w1, hw1⟩ : ∃ w1, w.alloc (.map #[] 0) = w1 := ⟨_, rfl⟩
  rw [hw1] at hM0 hb0 ⊢
  obtain ⟨b, hbb⟩ : ∃ b, w.heap.size = b := ⟨_, rfl⟩
  have HBB := Lib.hid hbb
  rw [hbb] at hM0 ⊢
  have HM0 := Lib.hid hM0
  have HB0 := Lib.hid hb0
  clear hw1 hbb hmm hM0 hb0
  go_wp2_with fail
  go_loopw [5, 12] (fun ev iv wr => ∃ (i n : Nat) (z : Int), iv = .int .i64 (i : Int) ∧ ev = .int .i64 z ∧ z = totW lenW (l.take i) ∧ i ≤ l.length ∧ n ≤ 201 * i ∧ Hid (MapI wr b n (allp (l.take i))) ∧ Hid (Below w.heap.size w wr)) (fun _ iv _ => l.length - (intOf iv).toNat)
  case atStart => exact ⟨0, 0, 0, rfl, rfl, rfl, Nat.zero_le _, Nat.zero_le _, HM0, HB0⟩
  case round =>
    obtain ⟨i, n, z, rfl, rfl, hz, hi, hn, HM, HB⟩ := hrel
    have HZ := Lib.hid hz
    clear hz
    by_cases hlt : i < l.length
    · obtain ⟨bb, o, x, sv, rfl, hD, hx, hf, hs, c0', c1'⟩ := HU.out.at_ hlt
      have c0 := (HB.out.cell (p := ⟨bb, o + i * 2, none⟩) hD).trans c0'
      have c1 := (HB.out.cell (p := ⟨bb, o + i * 2 + 1, none⟩) hD).trans c1'
      obtain ⟨Au, cu, rfl, hcu, _, hs⟩ := hs.open_
      have HX := Lib.hid hx
      obtain ⟨x1, x2, x3, x4⟩ := HOK.out.each x (List.mem_of_getElem? hx)
      have HXN := Lib.hid x4
      have HC := Lib.hid (PreOk.allp (l.take i) (fun y hy => (HOK.out.each y (List.mem_of_mem_take hy)).2))
      have HCL : Hid ((allp (l.take i)).length ≤ 60300) := Lib.hid (by
        have a1 := allp_len (l.take i) (fun y hy => (HOK.out.each y (List.mem_of_mem_take hy)).1)
        have a2 : (l.take i).length ≤ 300 := by rw [List.length_take]; omega
        omega)
      have hb2 := bone wr (.cells #[.slice Au x.acts.length cu, .int .i64 x.n] 62)
      have hT := Blk.new wr 62 #[.slice Au x.acts.length cu, .int .i64 x.n]
      have hM2 := HM.out.now hb2
      have hbB := HB.out.trans (hb2.mono HB.out.size)
      obtain ⟨m, hm⟩ : ∃ m, x.acts.length = m := ⟨_, rfl⟩
      have HML := Lib.hid hm
      have hs2 : SlS (Lt w.heap.size) (wr.alloc (.cells #[.slice Au x.acts.length cu, .int .i64 x.n] 62)) (.slice Au x.acts.length cu) x.acts := Sl.keep hs RStr.kept (fun _ => id) (fun b hb => hbB.block b hb)
      rw [hm] at hb2 hT hM2 hbB hs2 x1 hcu c0
      have hs0 := hs
      rw [hm] at hs0
      have HS0 := Lib.hid hs0
      clear hx hs c0' c1' hm hs2 x4 hs0
      go_upto_region 5 with fail
      obtain ⟨w2, hw2⟩ : ∃ w2, wr.alloc (.cells #[.slice Au m cu, .int .i64 x.n] 62) = w2 := ⟨_, rfl⟩
      obtain ⟨T, hTT⟩ : ∃ T, wr.heap.size = T := ⟨_, rfl⟩
      rw [hw2] at hT hM2 hbB ⊢
      rw [hTT] at hT ⊢
      obtain ⟨t0, t1⟩ := hT.c2
      have hTl : w.heap.size ≤ T := by rw [← hTT]; exact HB.out.size
      have hbT : Hid (b ≠ T) := Lib.hid (by have := HM.out.lt; omega)
      have HM2 := Lib.hid hM2
      have HB2 := Lib.hid hbB
      have HTB := Lib.hid hT
      clear hw2 hTT hb2 c0 c1 hM2 hbB hT HM HB
      go_wp2_with fail
      clear t0 t1
      go_loopw [20] (fun jv wq => ∃ (j q : Nat), jv = .int .i64 (j : Int) ∧ j ≤ m + 1 ∧ q ≤ 201 * i + j ∧ Hid (MapI wq b q (allp (l.take i) ++ presTo x j)) ∧ Hid (Blk wq T 62 #[.slice Au m cu, .int .i64 x.n]) ∧ Hid (Below w.heap.size w wq)) (fun jv _ => m + 1 - (intOf jv).toNat)
      case atStart => exact ⟨0, n, rfl, Nat.zero_le _, by omega, Lib.hid (by show MapI w2 b n (allp (l.take i) ++ []); rw [List.append_nil]; exact HM2.out), HTB, HB2⟩
      case round =>
        obtain ⟨j, q, rfl, hj, hq, HMq, HTq, HBq⟩ := hrel
        by_cases hj2 : j < m + 1
        · have y0 : (j : Int) < (m : Int) + 1 := by omega
          have y1 : (0 : Int) ≤ (j : Int) := by omega
          have y2 : (j : Int) ≤ (cu : Int) := by omega
          obtain ⟨wq, rfl⟩ : ∃ wq, wq = wr := ⟨_, rfl⟩
          obtain ⟨v, hv⟩ : ∃ v, x.acts.take j = v := ⟨_, rfl⟩
          have HV := Lib.hid hv
          have hvl : v.length = j := by rw [← hv, List.length_take, HML.out]; omega
          have hvn : Names v := fun a ha => HXN.out a (by rw [← hv] at ha; exact List.mem_of_mem_take ha)
          have HVS : Hid (SlS (Lt w.heap.size) w (.slice Au j cu) v) := Lib.hid (by rw [← hv]; exact Sl.take_ HS0.out (by rw [HML.out]; omega))
          obtain ⟨C, hC⟩ : ∃ C, allp (l.take i) ++ presTo x j = C := ⟨_, rfl⟩
          have HCC := Lib.hid hC
          have hpre : PreOk C := by rw [← hC]; exact HC.out.append (PreOk.pres x2 x3 HXN.out j)
          have hcln : C.length ≤ 60600 := by rw [← hC, List.length_append, presTo_len]; have := HCL.out; omega
          rw [hC] at HMq
          have HPRE := Lib.hid hpre
          have HVN := Lib.hid (And.intro hvl hvn)
          have hcb1 := hpre.cnt_le hcln v
          have hcb0 := cnt_nonneg hpre.pos v
          have hbq := HMq.out.lt
          have hTq := HTq.out.lt
          have HK : Hid (∀ W, Below wq.heap.size wq W → Calls Try.prog 26 #[.slice Au j cu] W fun e w' => e = .returned (.string (keyS v)) ∧ Below W.heap.size W w') := Lib.hid fun W hW => by
            have hWw := HBq.out.trans (hW.mono HBq.out.size)
            exact key_any _ v W (Sl.keep HVS.out RStr.kept (fun b hb => Nat.lt_of_lt_of_le hb hWw.size) (fun b hb => hWw.block b hb)) hvn (by omega)
          have HSS : Hid (∀ W, Below wq.heap.size wq W → W.cell? ⟨T, 0, none⟩ = some (.slice Au m cu) ∧ W.cell? ⟨T, 1, none⟩ = some (.int .i64 x.n)) := Lib.hid fun W hW => (HTq.out.now hW).c2
          have HS3 : Hid (∀ W w', Below wq.heap.size wq W → W.grownBy w' (some b) → w'.cell? ⟨T, 0, none⟩ = some (.slice Au m cu) ∧ w'.cell? ⟨T, 1, none⟩ = some (.int .i64 x.n)) := Lib.hid fun W w' hW hg => by
            obtain ⟨k1, k2⟩ := HSS.out W hW
            have hk := hg.block T (Nat.lt_of_lt_of_le hTq hW.size) (fun e => by injection e with e; exact hbT.out e.symm)
            exact ⟨(World.cell?_of_block (a := ⟨T, 0, none⟩) hk).trans k1, (World.cell?_of_block (a := ⟨T, 1, none⟩) hk).trans k2⟩
          have HLK : Hid (∀ W, Below wq.heap.size wq W → (Instr.lookup 70 (.map (some b)) (.string (keyS v)) false).run Try.prog W = .ok (.int .i64 (cnt C v)) W) := Lib.hid fun W hW => (HMq.out.now hW).look HPRE.out HVN.out.2 (by have := HVN.out.1; omega)
          have HUP : Hid (∀ W, Below wq.heap.size wq W → ∃ w', (Instr.mapUpdate 70 (.map (some b)) (.string (keyS v)) (.int .i64 (cnt C v + x.n))).run Try.prog W = .ok () w' ∧ MapI w' b (q + 1) (C ++ [⟨v, x.n⟩]) ∧ W.grownBy w' (some b)) := Lib.hid fun W hW => (HMq.out.now hW).put HPRE.out HVN.out.2 (by have := HVN.out.1; omega) x2 (by unfold maxLen; omega)
          have hwr : IntKind.i64.wrap (cnt C v + x.n) = cnt C v + x.n := i64wrap (by omega)
          obtain ⟨cb, hcb⟩ : ∃ cb, cnt C v = cb := ⟨_, rfl⟩
          rw [hcb] at HLK HUP hwr
          obtain ⟨s0, s1⟩ := HSS.out wq (Below.refl _ _)
          clear hv hC hpre hcb1 hcb0 hcb hvl hvn hbq hTq hcln
          go_upto_region 8 with fail
          have hcd : Below wq.heap.size wq wq.drew := (Below.refl _ _).drew
          go_region_held3 (fun W => W.cell? ⟨T, 0, none⟩ = some (.slice Au m cu) ∧ W.cell? ⟨T, 1, none⟩ = some (.int .i64 x.n)) (first | exact HSS.out _ (by assumption) | exact HS3.out _ _ (by assumption) (by assumption))
            (first | (go_at_call 26; (with_reducible refine (HK.out _ hcd).mono ?_); rintro _ w4 ⟨rfl, hb4⟩; have hc4 : Below wq.heap.size wq w4 := hcd.trans (hb4.mono hcd.size); have hlk := HLK.out w4 hc4; obtain ⟨w5, hup, hmi, hgr⟩ := HUP.out w4 hc4))
          all_goals
            have hT5 : Hid (Blk w5 T 62 #[.slice Au m cu, .int .i64 x.n]) := Lib.hid ((hgr.block T (Nat.lt_of_lt_of_le HTq.out.lt hc4.size) (fun e => by injection e with e; exact hbT.out e.symm)).trans (HTq.out.now hc4))
            have hB5 : Hid (Below w.heap.size w w5) := Lib.hid (HBq.out.trans ((hc4.mono HBq.out.size).trans (below_of_grown hgr (Nat.le_trans HBq.out.size hc4.size) (fun g e => by injection e with e; have := HBB.out; omega))))
            have hM5 : Hid (MapI w5 b (q + 1) (allp (l.take i) ++ presTo x (j + 1))) := Lib.hid (by rw [presTo_succ, ← List.append_assoc, HCC.out, HV.out]; exact hmi)
            clear hmi hgr hup hlk
            go_wp2_with fail
            go_roundw
            case rel => exact ⟨j + 1, q + 1, by go_num, by omega, by omega, hM5, hT5, hB5⟩
            case measure => simp [intOf]; omega
        · obtain rfl : j = m + 1 := by omega
          have y0 : ¬ ((m : Int) + 1 < (m : Int) + 1) := by omega
          have y3 : ¬ (((m + 1 : Nat) : Int) < (m : Int) + 1) := by omega
          obtain ⟨s0, s1⟩ := HTq.out.c2
          have hev := evs_le (l.take i) (fun y hy => by have := HOK.out.each y (List.mem_of_mem_take hy); exact ⟨this.1, this.2.1, this.2.2.1⟩)
          have hll : (l.take i).length ≤ 300 := by rw [List.length_take]; omega
          have hzz := HZ.out
          have hmx : x.n * (m : Int) ≤ 1048576 * 200 := Int.mul_le_mul x3 (by omega) (by omega) (by omega)
          have hmx0 : 0 ≤ x.n * (m : Int) := Int.mul_nonneg (by omega) (by omega)
          have y4 : IntKind.i64.wrap (x.n * (m : Int)) = x.n * (m : Int) := i64wrap (by omega)
          have y5 : IntKind.i64.wrap (z + x.n * (m : Int)) = z + x.n * (m : Int) := i64wrap (by omega)
          have HZ2 : Hid (z + x.n * (m : Int) = totW lenW (l.take (i + 1))) := Lib.hid (by rw [totW_next lenW HX.out, ← hzz]; unfold lenW; rw [HML.out])
          have HM5 : Hid (MapI wr b q (allp (l.take (i + 1)))) := Lib.hid (by
            rw [allp_next HX.out]
            unfold pres
            rw [HML.out]
            exact HMq.out)
          obtain ⟨p, hp⟩ : ∃ p, x.n * (m : Int) = p := ⟨_, rfl⟩
          rw [hp] at y4 y5 HZ2
          clear hev hll hzz hmx hmx0
          go_wp2_with fail
          go_roundw
          case rel => exact ⟨i + 1, q, _, by go_num, rfl, by first | exact HZ2.out | (rw [hp]; exact HZ2.out), by omega, by omega, HM5, HBq⟩
          case measure => simp [intOf]; omega
    · obtain rfl : i = l.length := by omega
      have hfin := HM.out
      rw [List.take_length] at hfin
      have hz := HZ.out
      rw [List.take_length] at hz
      subst hz
      go_wp2_with fail
      go_ret2
      exact ⟨b, n, rfl, hfin, HB.out⟩
end Go.Proofs.Ytilmdlkfmkbfmaa
