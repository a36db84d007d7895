/- frac.Sub and privacy.Spend. -/
import Derived.Test.YtilmdlkfmkbfmaaPvAdd
set_option linter.all false
namespace Go.Proofs.Ytilmdlkfmkbfmaa
open Go.RowKit

set_option maxHeartbeats 2000000 in
set_option maxRecDepth 100000 in
theorem sub_any (a b : Fr) (w : World) (ha : frB a = true) (hb : frB b = true) : Calls Try.prog 20 #[frV a, frV b] w (RetFr (subF a b) w) := by
  obtain ⟨b1, b2, b3, b4, _⟩ := frB_iff.1 hb
  have k1 : IntKind.i64.wrap (-b.num) = -b.num := i64wrap (by omega)
  have hb1 := bone w (.cells #[.int .i64 a.num, .int .i64 a.den] 24)
  have hb2 := bbox hb1 (.cells #[.int .i64 b.num, .int .i64 b.den] 24)
  have hb3 := bbox hb2 (.cells #[.int .i64 0, .int .i64 0] 24)
  have hA := ((Blk.new w 24 #[.int .i64 a.num, .int .i64 a.den]).alloc (.cells #[.int .i64 b.num, .int .i64 b.den] 24)).alloc (.cells #[.int .i64 0, .int .i64 0] 24)
  have hB := (Blk.new (w.alloc (.cells #[.int .i64 a.num, .int .i64 a.den] 24)) 24 #[.int .i64 b.num, .int .i64 b.den]).alloc (.cells #[.int .i64 0, .int .i64 0] 24)
  have hR := Blk.new ((w.alloc (.cells #[.int .i64 a.num, .int .i64 a.den] 24)).alloc (.cells #[.int .i64 b.num, .int .i64 b.den] 24)) 24 #[.int .i64 0, .int .i64 0]
  rw [World.size_alloc] at hB
  rw [World.size_alloc, World.size_alloc] at hR
  have hvv := fun W => valid_any _ [a, b] _ (slF_two W a b (FitF.of ha) (FitF.of hb))
  rw [all2 ha hb] at hvv
  have HV := Lib.hid hvv
  have hadd := fun W => addFr_any a (negF b) W ha (negF_B hb)
  rw [show addF a (negF b) = subF a b from rfl] at hadd
  unfold frV negF at hadd
  obtain ⟨⟨⟨fn, fd⟩, fe⟩, hf⟩ : ∃ f, subF a b = f := ⟨_, rfl⟩
  rw [hf] at hadd ⊢
  have HF : Hid (∀ W, Calls Try.prog 36 #[.agg #[.int .i64 a.num, .int .i64 a.den], .agg #[.int .i64 (-b.num), .int .i64 b.den]] W fun e w' => e = .returned (.tuple #[.agg #[.int .i64 fn, .int .i64 fd], .int .i64 fe]) ∧ Below W.heap.size W w') := Lib.hid hadd
  unfold frV
  clear hvv hadd hf hb1 hb2 ha hb b1 b2 b3 b4
  go_enter Try.func20, Try.ntmps20
  go_upto_region 1 with fail
  obtain ⟨w1, hw1⟩ : ∃ w1, ((w.alloc (.cells #[.int .i64 a.num, .int .i64 a.den] 24)).alloc (.cells #[.int .i64 b.num, .int .i64 b.den] 24)).alloc (.cells #[.int .i64 0, .int .i64 0] 24) = w1 := ⟨_, rfl⟩
  rw [hw1] at hb3 hA hB hR ⊢
  have hb4 := bone w1 (.cells #[.int .i64 a.num, .int .i64 a.den, .int .i64 b.num, .int .i64 b.den] 24)
  obtain ⟨c0, c1⟩ := hA.c2
  obtain ⟨d0, d1⟩ := hB.c2
  clear hw1
  go_wp2_with fail
  (with_reducible refine (HV.out w1).mono ?_)
  rintro e w2 ⟨rfl, hb5⟩
  have hb45 := hb4.trans (hb5.mono hb4.size)
  have hA2 := hA.now hb45
  have hB2 := hB.now hb45
  have hR2 := hR.now hb45
  have hb2 := hb3.trans (hb45.mono hb3.size)
  clear c0 c1 d0 d1 hA hB hR hb3 hb4 hb5 hb45 HV
  obtain ⟨d0, d1⟩ := hB2.c2
  have fz := hB2.frozen 0
  go_upto_region 3 with fail
  have hA3 := hA2.far (p := ⟨w.heap.size + 1, 0, none⟩) (by show w.heap.size ≠ w.heap.size + 1; omega) (.int .i64 (-b.num))
  have hR3 := hR2.far (p := ⟨w.heap.size + 1, 0, none⟩) (by show w.heap.size + 1 + 1 ≠ w.heap.size + 1; omega) (.int .i64 (-b.num))
  have hB3 : Blk (w2.setCell ⟨w.heap.size + 1, 0, none⟩ (.int .i64 (-b.num))) (w.heap.size + 1) 24 #[.int .i64 (-b.num), .int .i64 b.den] := hB2.set_ 0 _
  have hb3 := hb2.setCell (p := ⟨w.heap.size + 1, 0, none⟩) (by show w.heap.size ≤ w.heap.size + 1; omega) (.int .i64 (-b.num))
  go_upto_region 4 with fail
  obtain ⟨w3, hw3⟩ : ∃ w3, w2.setCell ⟨w.heap.size + 1, 0, none⟩ (.int .i64 (-b.num)) = w3 := ⟨_, rfl⟩
  rw [hw3] at hA3 hB3 hR3 hb3 ⊢
  clear hw3 d0 d1 fz hA2 hB2 hR2 hb2 k1
  obtain ⟨c0, c1⟩ := hA3.c2
  obtain ⟨d0, d1⟩ := hB3.c2
  go_wp2_with fail
  (with_reducible refine (HF.out _).mono ?_)
  rintro e w6 ⟨rfl, hb6⟩
  have hR6 := hR3.now hb6
  have hb56 := hb3.trans (hb6.mono hb3.size)
  obtain ⟨r0, r1⟩ := hR6.c2
  have fz0 := hR6.frozen 0
  have fz1 := hR6.frozen 1
  obtain ⟨s0, s1⟩ := ((hR6.set_ 0 (.int .i64 fn)).set_ 1 (.int .i64 fd)).c2
  have HB : Hid (Below w.heap.size w ((w6.setCell ⟨w.heap.size + 1 + 1, 0, none⟩ (.int .i64 fn)).setCell ⟨w.heap.size + 1 + 1, 1, none⟩ (.int .i64 fd))) := Lib.hid ((hb56.setCell (p := ⟨w.heap.size + 1 + 1, 0, none⟩) (by show w.heap.size ≤ w.heap.size + 1 + 1; omega) _).setCell (p := ⟨w.heap.size + 1 + 1, 1, none⟩) (by show w.heap.size ≤ w.heap.size + 1 + 1; omega) _)
  clear hR3 hR6 hb3 hb6 hb56 c0 c1 d0 d1 hA3 hB3
  go_wp2_with fail
  refine bodyPost_ret (v := .tuple #[.agg #[.int .i64 fn, .int .i64 fd], .int .i64 fe]) (by simp [results, Try.results20, go_sem, s0, s1]) rfl ?_
  exact ⟨rfl, HB.out⟩
theorem spend1_any (a : Fr) (w : World) : Calls Try.prog 17 #[frV a] w fun e w' => e = .returned (.bool (badF a)) ∧ Below w.heap.size w w' := by
  have hb1 := bone w (.cells #[.int .i64 a.num, .int .i64 a.den] 24)
  have hA := Blk.new w 24 #[.int .i64 a.num, .int .i64 a.den]
  obtain ⟨c0, c1⟩ := hA.c2
  have hc := frValid_any a (w.alloc (.cells #[.int .i64 a.num, .int .i64 a.den] 24))
  unfold frV at hc ⊢
  have HBF : Hid (badF a = (!frB a || decide (a.num < 0))) := Lib.hid rfl
  obtain ⟨q, hq⟩ : ∃ q, frB a = q := ⟨_, rfl⟩
  rw [hq] at hc HBF
  have HC := Lib.hid hc
  clear hc hq
  cases q
  · go_enter Try.func17, Try.ntmps17
    go_wp2_with fail
    (with_reducible refine HC.out.mono ?_)
    rintro e w' ⟨rfl, hb2⟩
    go_wp2_with fail
    go_ret
    exact ⟨by rw [HBF.out]; rfl, hb1.trans (hb2.mono hb1.size)⟩
  · go_enter Try.func17, Try.ntmps17
    go_wp2_with fail
    (with_reducible refine HC.out.mono ?_)
    rintro e w' ⟨rfl, hb2⟩
    obtain ⟨d0, d1⟩ := (hA.now hb2).c2
    go_wp2_with fail
    go_ret
    exact ⟨by rw [HBF.out]; rfl, hb1.trans (hb2.mono hb1.size)⟩
theorem enters_spend1 : ∀ args w, (callFunc 17 args).run Try.prog w = .ok (.enter 17 args) w := enters_of Try.func17 (by kernel_rfl) rfl
def RetSpend (r : Fr × Nat × Int) (w : World) (e : Ending) (w' : World) : Prop := e = .returned (.tuple #[frV r.1, .int .i64 (r.2.1 : Int), .int .i64 r.2.2]) ∧ Below w.heap.size w w'
/-- The way out with nothing left. -/
theorem spend_out {w W : World} {R : Nat} (hR : w.heap.size ≤ R) (hb : Below w.heap.size w W) (a : Fr) : Below w.heap.size w ((W.setCell ⟨R, 0, none⟩ (.int .i64 a.num)).setCell ⟨R, 1, none⟩ (.int .i64 a.den)) :=
  (hb.setCell (p := ⟨R, 0, none⟩) hR _).setCell (p := ⟨R, 1, none⟩) hR _
set_option maxHeartbeats 4000000 in
set_option maxRecDepth 100000 in
theorem spend_any (b : Fr) (l : List Fr) (u : Value) (w : World) (hfb : FitF b) (hu : SlF (Lt w.heap.size) w u l) : Calls Try.prog 7 #[frV b, u] w (RetSpend (spendF b l) w) := by
  have HU := Lib.hid hu
  obtain ⟨A, c, rfl, hl1, hl2, _⟩ := hu.open_
  have hb1 := bone w (.cells #[.int .i64 b.num, .int .i64 b.den] 24)
  have hb2 := bbox hb1 (.cells #[.int .i64 0, .int .i64 0] 24)
  have hA := (Blk.new w 24 #[.int .i64 b.num, .int .i64 b.den]).alloc (.cells #[.int .i64 0, .int .i64 0] 24)
  have hR := Blk.new (w.alloc (.cells #[.int .i64 b.num, .int .i64 b.den] 24)) 24 #[.int .i64 0, .int .i64 0]
  rw [World.size_alloc] at hR
  have hsp := fun W => spend1_any b W
  unfold frV at hsp ⊢
  have HSP := Lib.hid hsp
  have HCF := Lib.hid (fun W (h : SlF (Lt W.heap.size) W (.slice A l.length c) l) => containsFuncF 17 enters_spend1 _ l badF W h (fun a W _ => spend1_any a W))
  have HRF : Hid (spendF b l = if badF b || l.any badF then (fr0, 0, 1) else if 1000 < l.length then (fr0, 0, 5) else spendL 0 b l) := Lib.hid rfl
  clear hu hsp hb1
  go_enter Try.func7, Try.ntmps7
  go_upto_region 1 with fail
  obtain ⟨w1, hw1⟩ : ∃ w1, (w.alloc (.cells #[.int .i64 b.num, .int .i64 b.den] 24)).alloc (.cells #[.int .i64 0, .int .i64 0] 24) = w1 := ⟨_, rfl⟩
  rw [hw1] at hb2 hA hR ⊢
  clear hw1
  obtain ⟨P, hPP⟩ : ∃ P, w.heap.size = P := ⟨_, rfl⟩
  rw [hPP] at hA hR ⊢
  have HPP := Lib.hid hPP
  clear hPP
  obtain ⟨c0, c1⟩ := hA.c2
  go_wp2_with fail
  (with_reducible refine (HSP.out _).mono ?_)
  rintro e w2 ⟨rfl, hb3⟩
  have hA2 := hA.now hb3
  have hR2 := hR.now hb3
  have hb02 := hb2.trans (hb3.mono hb2.size)
  obtain ⟨q1, hq1⟩ : ∃ q, badF b = q := ⟨_, rfl⟩
  rw [hq1]
  have HQ1 := Lib.hid hq1
  clear hq1 hA hR hb2 hb3 c0 c1 HSP
  cases q1
  case true =>
    obtain ⟨r0, r1⟩ := hR2.c2
    have fz0 := hR2.frozen 0
    have fz1 := hR2.frozen 1
    obtain ⟨s0, s1⟩ := ((hR2.set_ 0 (.int .i64 0)).set_ 1 (.int .i64 0)).c2
    have HB := Lib.hid (spend_out (R := P + 1) (by rw [HPP.out]; omega) hb02 fr0)
    have HE := Lib.hid (show spendF b l = (fr0, 0, 1) by rw [HRF.out, HQ1.out]; rfl)
    go_wp2_with fail
    refine bodyPost_ret (v := .tuple #[.agg #[.int .i64 0, .int .i64 0], .int .i64 0, .int .i64 1]) (by simp [results, Try.results7, go_sem, s0, s1]) rfl ?_
    exact ⟨by rw [HE.out]; rfl, HB.out⟩
  case false =>
    have HC2 := Lib.hid (HCF.out w2 (SlF.now HU.out hb02))
    go_wp2_with fail
    (with_reducible refine HC2.out.mono ?_)
    rintro e w3 ⟨rfl, hb3⟩
    have hA3 := hA2.now hb3
    have hR3 := hR2.now hb3
    have hb03 := hb02.trans (hb3.mono hb02.size)
    obtain ⟨q2, hq2⟩ : ∃ q, l.any badF = q := ⟨_, rfl⟩
    rw [hq2]
    have HQ2 := Lib.hid hq2
    clear hq2 hA2 hR2 hb02 hb3 HC2 HCF
    cases q2
    case true =>
      obtain ⟨r0, r1⟩ := hR3.c2
      have fz0 := hR3.frozen 0
      have fz1 := hR3.frozen 1
      obtain ⟨s0, s1⟩ := ((hR3.set_ 0 (.int .i64 0)).set_ 1 (.int .i64 0)).c2
      have HB := Lib.hid (spend_out (R := P + 1) (by rw [HPP.out]; omega) hb03 fr0)
      have HE := Lib.hid (show spendF b l = (fr0, 0, 1) by rw [HRF.out, HQ1.out, HQ2.out]; rfl)
      go_wp2_with fail
      refine bodyPost_ret (v := .tuple #[.agg #[.int .i64 0, .int .i64 0], .int .i64 0, .int .i64 1]) (by simp [results, Try.results7, go_sem, s0, s1]) rfl ?_
      exact ⟨by rw [HE.out]; rfl, HB.out⟩
    case false =>
      by_cases hbig : 1000 < l.length
      · have z1 : (1000 : Int) < (l.length : Int) := by omega
        obtain ⟨r0, r1⟩ := hR3.c2
        have fz0 := hR3.frozen 0
        have fz1 := hR3.frozen 1
        obtain ⟨s0, s1⟩ := ((hR3.set_ 0 (.int .i64 0)).set_ 1 (.int .i64 0)).c2
        have HB := Lib.hid (spend_out (R := P + 1) (by rw [HPP.out]; omega) hb03 fr0)
        have HE := Lib.hid (show spendF b l = (fr0, 0, 5) by rw [HRF.out, HQ1.out, HQ2.out, if_neg (by decide), if_pos hbig])
        go_wp2_with fail
        refine bodyPost_ret (v := .tuple #[.agg #[.int .i64 0, .int .i64 0], .int .i64 0, .int .i64 5]) (by simp [results, Try.results7, go_sem, s0, s1]) rfl ?_
        exact ⟨by rw [HE.out]; rfl, HB.out⟩
      · have z1 : ¬ (1000 : Int) < (l.length : Int) := by omega
        have HRL : Hid (spendF b l = spendL 0 b l) := Lib.hid (by rw [HRF.out, HQ1.out, HQ2.out, if_neg (by decide), if_neg hbig])
        have HBA : Hid (∀ a ∈ l, badF a = false) := Lib.hid (fun a ha => by have h := HQ2.out; rw [List.any_eq_false] at h; simpa using h a ha)
        have HA3 := Lib.hid hA3
        have HR3 := Lib.hid hR3
        have HB3 := Lib.hid hb03
        have HU3 := Lib.hid HU.out
        clear hA3 hR3 hb03 hbig
        go_wp2_with fail
        go_loopw [31] (fun iv wr => ∃ (i : Nat) (c : Fr), iv = .int .i64 (i : Int) ∧ i ≤ l.length ∧ Hid (badF c = false) ∧ Hid (spendF b l = spendL i c (l.drop i)) ∧ Hid (Blk wr P 24 #[.int .i64 c.num, .int .i64 c.den]) ∧ Hid (Blk wr (P + 1) 24 #[.int .i64 0, .int .i64 0]) ∧ Hid (Below w.heap.size w wr)) (fun iv _ => l.length - (intOf iv).toNat)
        case atStart => exact ⟨0, b, rfl, Nat.zero_le _, HQ1, HRL, HA3, HR3, HB3⟩
        case round =>
          obtain ⟨i, cu, rfl, hi, HCU, HS, HA, HR, HB0⟩ := hrel
          by_cases hlt : i < l.length
          · obtain ⟨bb, o, a, rfl, hD, hx, hff, f0, f1⟩ := SlF.at_ (Sl.below HU3.out RFr.kept HB0.out (Nat.le_refl _)) hlt
            obtain ⟨hcv, hcn⟩ := badF_no HCU.out
            obtain ⟨hav, han⟩ := badF_no (HBA.out a (List.mem_of_getElem? hx))
            have hdr : l.drop i = a :: l.drop (i + 1) := by
              rw [List.drop_eq_getElem_cons hlt]
              rw [List.getElem?_eq_getElem hlt] at hx
              injection hx with hx
              rw [hx]
            have hs := HS.out
            rw [hdr, spendL_cons] at hs
            have HS2 := Lib.hid hs
            have hP := HA.out.lt
            have hb4 := bone wr (.cells #[.int .i64 a.num, .int .i64 a.den] 24)
            have hT4 := Blk.new wr 24 #[.int .i64 a.num, .int .i64 a.den]
            have hA4 := HA.out.now hb4
            have hR4 := HR.out.now hb4
            have hb04 := HB0.out.trans (hb4.mono HB0.out.size)
            have hcmp := fun W => cmp_any a cu W hav hcv
            have hsub := fun W => sub_any cu a W hcv hav
            unfold frV at hcmp
            unfold RetFr frV at hsub
            have HCMP := Lib.hid hcmp
            have HSUB := Lib.hid hsub
            have HSK := Lib.hid (fun r (h : subF cu a = (r, 0)) => sub_ok hcv hav h)
            have HIL := Lib.hid hlt
            clear hx hs hdr hcv hcn hav han hcmp hsub
            go_upto_region 9 with fail
            obtain ⟨w4, hw4⟩ : ∃ w4, wr.alloc (.cells #[.int .i64 a.num, .int .i64 a.den] 24) = w4 := ⟨_, rfl⟩
            obtain ⟨T, hTT⟩ : ∃ T, wr.heap.size = T := ⟨_, rfl⟩
            rw [hw4] at hT4 hA4 hR4 hb04 ⊢
            rw [hTT] at hT4 ⊢
            clear hw4 hTT hb4 f0 f1
            obtain ⟨t0, t1⟩ := hT4.c2
            obtain ⟨c0, c1⟩ := hA4.c2
            go_wp2_with fail
            (with_reducible refine (HCMP.out _).mono ?_)
            rintro e w5 ⟨rfl, hb5⟩
            have hT5 := hT4.now hb5
            have hA5 := hA4.now hb5
            have hR5 := hR4.now hb5
            have hb05 := hb04.trans (hb5.mono hb04.size)
            clear t0 t1 c0 c1 hT4 hA4 hR4 hb04 hb5
            have hcf : cmpF a cu = if a.num * cu.den < cu.num * a.den then -1 else if cu.num * a.den < a.num * cu.den then 1 else 0 := rfl
            by_cases hgt : cu.num * a.den < a.num * cu.den
            · have hc1 : cmpF a cu = 1 := by rw [hcf, if_neg (by omega), if_pos hgt]
              have HE0 : Hid (spendF b l = (fr0, i, 27)) := Lib.hid (by rw [HS2.out, if_pos hgt])
              rw [hc1]
              clear hc1 hcf hgt
              obtain ⟨r0, r1⟩ := hR5.c2
              have fz0 := hR5.frozen 0
              have fz1 := hR5.frozen 1
              obtain ⟨s0, s1⟩ := ((hR5.set_ 0 (.int .i64 0)).set_ 1 (.int .i64 0)).c2
              have HB := Lib.hid (spend_out (R := P + 1) (by rw [HPP.out]; omega) hb05 fr0)
              have HE := Lib.hid HE0.out
              go_wp2_with fail
              refine bodyPost_ret (v := .tuple #[.agg #[.int .i64 0, .int .i64 0], .int .i64 (i : Int), .int .i64 27]) (by simp [results, Try.results7, go_sem, s0, s1]) rfl ?_
              exact ⟨by rw [HE.out]; rfl, HB.out⟩
            · have hc1 : ¬ (0 : Int) < cmpF a cu := by
                rw [hcf, if_neg hgt]
                split <;> omega
              have HS3 : Hid (spendF b l = if (subF cu a).2 = 0 then spendL (i + 1) (subF cu a).1 (l.drop (i + 1)) else (fr0, i, (subF cu a).2)) := Lib.hid (by rw [HS2.out, if_neg hgt])
              obtain ⟨z, hz⟩ : ∃ z, cmpF a cu = z := ⟨_, rfl⟩
              rw [hz] at hc1 ⊢
              have HGT := Lib.hid hgt
              clear hcf hgt hz
              obtain ⟨t0, t1⟩ := hT5.c2
              obtain ⟨c0, c1⟩ := hA5.c2
              obtain ⟨⟨⟨fn, fd⟩, fe⟩, hf⟩ : ∃ f, subF cu a = f := ⟨_, rfl⟩
              rw [hf] at HSUB HS3 HSK
              clear hf
              go_wp2_with fail
              (with_reducible refine (HSUB.out _).mono ?_)
              rintro e w6 ⟨rfl, hb6⟩
              have hA6 := hA5.now hb6
              have hR6 := hR5.now hb6
              have hb06 := hb05.trans (hb6.mono hb05.size)
              have hb7 := bone w6 (.cells #[.int .i64 fn, .int .i64 fd] 24)
              have hN7 := Blk.new w6 24 #[.int .i64 fn, .int .i64 fd]
              have hA7 := hA6.now hb7
              have hR7 := hR6.now hb7
              have hb07 := hb06.trans (hb7.mono hb06.size)
              clear t0 t1 c0 c1 hT5 hA5 hR5 hb05 hb6
              dsimp only
              go_upto_region 13 with fail
              obtain ⟨w7, hw7⟩ : ∃ w7, w6.alloc (.cells #[.int .i64 fn, .int .i64 fd] 24) = w7 := ⟨_, rfl⟩
              obtain ⟨N, hNN⟩ : ∃ N, w6.heap.size = N := ⟨_, rfl⟩
              rw [hw7] at hN7 hA7 hR7 hb07 ⊢
              rw [hNN] at hN7 ⊢
              clear hw7 hNN hb7 hA6 hR6 hb06
              by_cases hfe : fe = 0
              · subst hfe
                have hk := HSK.out ⟨fn, fd⟩ rfl
                have HBN : Hid (badF ⟨fn, fd⟩ = false) := Lib.hid (badF_of hk.1 (hk.2 (by have := HGT.out; omega)))
                have HSN : Hid (spendF b l = spendL (i + 1) ⟨fn, fd⟩ (l.drop (i + 1))) := Lib.hid (by rw [HS3.out]; rfl)
                obtain ⟨n0, n1⟩ := hN7.c2
                obtain ⟨c0, c1⟩ := hA7.c2
                have fz0 := hA7.frozen 0
                have fz1 := hA7.frozen 1
                have HA8 : Hid (Blk ((w7.setCell ⟨P, 0, none⟩ (.int .i64 fn)).setCell ⟨P, 1, none⟩ (.int .i64 fd)) P 24 #[.int .i64 fn, .int .i64 fd]) := Lib.hid ((hA7.set_ 0 (.int .i64 fn)).set_ 1 (.int .i64 fd))
                have HR8 := Lib.hid ((hR7.far (p := ⟨P, 0, none⟩) (by show P + 1 ≠ P; omega) (.int .i64 fn)).far (p := ⟨P, 1, none⟩) (by show P + 1 ≠ P; omega) (.int .i64 fd))
                have HB8 := Lib.hid (spend_out (R := P) (by rw [HPP.out]; exact Nat.le_refl _) hb07 ⟨fn, fd⟩)
                clear hk hN7 hA7 hR7 hb07
                go_wp2_with fail
                go_roundw
                case rel => exact ⟨i + 1, ⟨fn, fd⟩, by go_num, by omega, HBN, HSN, HA8, HR8, HB8⟩
                case measure => simp [intOf]; omega
              · have z2 : (fe != 0) = true := by simp [hfe]
                have HE0 : Hid (spendF b l = (fr0, i, fe)) := Lib.hid (by rw [HS3.out, if_neg hfe])
                clear hfe
                obtain ⟨r0, r1⟩ := hR7.c2
                have fz0 := hR7.frozen 0
                have fz1 := hR7.frozen 1
                obtain ⟨s0, s1⟩ := ((hR7.set_ 0 (.int .i64 0)).set_ 1 (.int .i64 0)).c2
                have HB := Lib.hid (spend_out (R := P + 1) (by rw [HPP.out]; omega) hb07 fr0)
                have HE := Lib.hid HE0.out
                go_wp2_with fail
                refine bodyPost_ret (v := .tuple #[.agg #[.int .i64 0, .int .i64 0], .int .i64 (i : Int), .int .i64 fe]) (by simp [results, Try.results7, go_sem, s0, s1]) rfl ?_
                exact ⟨by rw [HE.out]; rfl, HB.out⟩
          · obtain rfl : i = l.length := by omega
            have z2 : ¬ (l.length : Int) < (l.length : Int) := by omega
            obtain ⟨c0, c1⟩ := HA.out.c2
            obtain ⟨r0, r1⟩ := HR.out.c2
            have fz0 := HR.out.frozen 0
            have fz1 := HR.out.frozen 1
            obtain ⟨s0, s1⟩ := ((HR.out.set_ 0 (.int .i64 cu.num)).set_ 1 (.int .i64 cu.den)).c2
            have HB := Lib.hid (spend_out (R := P + 1) (by rw [HPP.out]; omega) HB0.out cu)
            have HE : Hid (spendF b l = (cu, l.length, 0)) := Lib.hid (by rw [HS.out, List.drop_length]; rfl)
            go_wp2_with fail
            refine bodyPost_ret (v := .tuple #[.agg #[.int .i64 cu.num, .int .i64 cu.den], .int .i64 (l.length : Int), .int .i64 0]) (by simp [results, Try.results7, go_sem, s0, s1]) rfl ?_
            exact ⟨by rw [HE.out]; rfl, HB.out⟩
end Go.Proofs.Ytilmdlkfmkbfmaa
