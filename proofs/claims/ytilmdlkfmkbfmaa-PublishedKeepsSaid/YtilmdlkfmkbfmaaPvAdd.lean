/- frac.Cmp, Add and Sub of valid fractions. -/
import Derived.Test.YtilmdlkfmkbfmaaPvFit
set_option linter.all false
namespace Go.Proofs.Ytilmdlkfmkbfmaa
open Go.RowKit

theorem mulB {x y : Int} (h1 : -1073741824 ≤ x) (h2 : x ≤ 1073741824) (h3 : 0 ≤ y) (h4 : y ≤ 1073741824) : -1152921504606846976 ≤ x * y ∧ x * y ≤ 1152921504606846976 := by
  have a1 := Int.mul_le_mul_of_nonneg_right h2 h3
  have a2 := Int.mul_le_mul_of_nonneg_right h1 h3
  omega
theorem all2 {a b : Fr} (ha : frB a = true) (hb : frB b = true) : [a, b].all frB = true := by simp [ha, hb]
set_option maxHeartbeats 1000000 in
theorem cmp_any (a b : Fr) (w : World) (ha : frB a = true) (hb : frB b = true) : Calls Try.prog 8 #[frV a, frV b] w fun e w' => e = .returned (.tuple #[.int .i64 (cmpF a b), .int .i64 0]) ∧ Below w.heap.size w w' := by
  obtain ⟨a1, a2, a3, a4, _⟩ := frB_iff.1 ha
  obtain ⟨b1, b2, b3, b4, _⟩ := frB_iff.1 hb
  have hb1 := bone w (.cells #[.int .i64 a.num, .int .i64 a.den] 24)
  have hb2 := bbox hb1 (.cells #[.int .i64 b.num, .int .i64 b.den] 24)
  have hA := (Blk.new w 24 #[.int .i64 a.num, .int .i64 a.den]).alloc (.cells #[.int .i64 b.num, .int .i64 b.den] 24)
  have hB := Blk.new (w.alloc (.cells #[.int .i64 a.num, .int .i64 a.den] 24)) 24 #[.int .i64 b.num, .int .i64 b.den]
  have hm1 := mulB a1 a2 (show 0 ≤ b.den by omega) b4
  have hm2 := mulB b1 b2 (show 0 ≤ a.den by omega) a4
  have k1 : IntKind.i64.wrap (a.num * b.den) = a.num * b.den := i64wrap (by omega)
  have k2 : IntKind.i64.wrap (b.num * a.den) = b.num * a.den := i64wrap (by omega)
  have HCM : Hid (cmpF a b = if a.num * b.den < b.num * a.den then -1 else if b.num * a.den < a.num * b.den then 1 else 0) := Lib.hid rfl
  unfold frV
  go_enter Try.func8, Try.ntmps8
  go_upto_region 1 with fail
  obtain ⟨w1, hw1⟩ : ∃ w1, (w.alloc (.cells #[.int .i64 a.num, .int .i64 a.den] 24)).alloc (.cells #[.int .i64 b.num, .int .i64 b.den] 24) = w1 := ⟨_, rfl⟩
  rw [hw1] at hb2 hA hB ⊢
  obtain ⟨c0, c1⟩ := hA.c2
  obtain ⟨d0, d1⟩ := hB.c2
  rw [World.size_alloc] at d0 d1 hB
  have hb3 := bone w1 (.cells #[.int .i64 a.num, .int .i64 a.den, .int .i64 b.num, .int .i64 b.den] 24)
  have hv := valid_any _ [a, b] _ (slF_two w1 a b (FitF.of ha) (FitF.of hb))
  rw [all2 ha hb] at hv
  have HV := Lib.hid hv
  clear hw1 hv hb1 ha hb a1 a2 a3 a4 b1 b2 b3 b4 hm1 hm2
  go_wp2_with (go_at_call 21; refine HV.out.mono ?_; rintro e w2 ⟨rfl, hb4⟩)
  have hb34 := hb3.trans (hb4.mono hb3.size)
  have HB := Lib.hid (hb2.trans (hb34.mono hb2.size))
  obtain ⟨x0, x1⟩ := (hA.now hb34).c2
  obtain ⟨y0, y1⟩ := (hB.now hb34).c2
  clear c0 c1 d0 d1 hA hB hb2 hb3 hb4 hb34 HV
  go_upto_region 3 with fail
  go_quiet (fail)
  generalize a.num * b.den = x at *
  generalize b.num * a.den = y at *
  by_cases h1 : x < y
  · have HE : Hid (cmpF a b = -1) := Lib.hid (by rw [HCM.out, if_pos h1])
    go_wp2_with fail
    go_ret2
    exact ⟨by rw [HE.out]; rfl, below_drewN HB.out nq⟩
  · by_cases h2 : y < x
    · have HE : Hid (cmpF a b = 1) := Lib.hid (by rw [HCM.out, if_neg h1, if_pos h2])
      go_wp2_with fail
      go_ret2
      exact ⟨by rw [HE.out]; rfl, below_drewN HB.out nq⟩
    · have HE : Hid (cmpF a b = 0) := Lib.hid (by rw [HCM.out, if_neg h1, if_neg h2])
      go_wp2_with fail
      go_ret2
      exact ⟨by rw [HE.out]; rfl, below_drewN HB.out nq⟩
theorem retFr_fin {w W : World} {P : Nat} {f : Fr × Int} {x y : Value} (hP : P = w.heap.size) (hb : Below w.heap.size w W) (hB : Blk W P 24 #[x, y]) : RetFr f w (.returned (.tuple #[.agg #[.int .i64 f.1.num, .int .i64 f.1.den], .int .i64 f.2])) ((W.setCell ⟨P, 0, none⟩ (.int .i64 f.1.num)).setCell ⟨P, 1, none⟩ (.int .i64 f.1.den)) :=
  ⟨rfl, fit_fin hP hb hB⟩
theorem natAbs_sum {x y : Int} (h : (x < 0) = (y < 0)) : ((x.natAbs : Nat) : Int) + ((y.natAbs : Nat) : Int) = (((x + y).natAbs : Nat) : Int) := by
  by_cases hx : x < 0
  · have hy : y < 0 := by rw [← h]; exact hx
    omega
  · have hy : ¬ y < 0 := by rw [← h]; exact hx
    omega
set_option maxHeartbeats 4000000 in
set_option maxRecDepth 100000 in
theorem addFr_any (a b : Fr) (w : World) (ha : frB a = true) (hb : frB b = true) : Calls Try.prog 36 #[frV a, frV b] w (RetFr (addF a b) w) := by
  obtain ⟨g, X, Y, hg, hX, hY, e1, e2, e3, e4, e5, m1, m2, m3⟩ := den_split ha hb
  obtain ⟨a1, a2, a3, a4, _⟩ := frB_iff.1 ha
  obtain ⟨b1, b2, b3, b4, _⟩ := frB_iff.1 hb
  have hD : addD a b = a.den * (Y : Int) := by unfold addD; rw [e3, e5]
  have hN : addN a b = a.num * (Y : Int) + b.num * (X : Int) := by unfold addN crossX; rw [e3, e5, Nat.gcd_comm, e3, e4]
  have hx := mulB a1 a2 (show (0 : Int) ≤ (Y : Int) by omega) (by omega)
  have hy := mulB b1 b2 (show (0 : Int) ≤ (X : Int) by omega) (by omega)
  have hd := mulB (x := a.den) (y := (Y : Int)) (by omega) a4 (by omega) (by omega)
  have hd0 : 0 < a.den * (Y : Int) := Int.mul_pos (by omega) (by omega)
  have HAF : Hid (addF a b = fitF (decide (a.num * (Y : Int) + b.num * (X : Int) < 0)) (a.num * (Y : Int) + b.num * (X : Int)).natAbs (a.den * (Y : Int)).toNat) := Lib.hid (by unfold addF; rw [hD, hN])
  have t1 : b.den.tdiv (g : Int) = (Y : Int) := by rw [Int.tdiv_eq_ediv_of_nonneg (by omega)]; exact e5
  have t2 : a.den.tdiv (g : Int) = (X : Int) := by rw [Int.tdiv_eq_ediv_of_nonneg (by omega)]; exact e4
  have z1 : (g : Int) ≠ 0 := by omega
  have z2 : ¬ (g : Int) = 0 := by omega
  have k1 : IntKind.i64.wrap (Y : Int) = (Y : Int) := i64wrap (by omega)
  have k2 : IntKind.i64.wrap (X : Int) = (X : Int) := i64wrap (by omega)
  have k3 : IntKind.i64.wrap (a.num * (Y : Int)) = a.num * (Y : Int) := i64wrap (by omega)
  have k4 : IntKind.i64.wrap (b.num * (X : Int)) = b.num * (X : Int) := i64wrap (by omega)
  have k5 : IntKind.u64.wrap a.den = a.den := u64wrap (by omega)
  have k6 : IntKind.u64.wrap (Y : Int) = (Y : Int) := u64wrap (by omega)
  have k7 : IntKind.u64.wrap (a.den * (Y : Int)) = a.den * (Y : Int) := u64wrap (by omega)
  have hb1 := bone w (.cells #[.int .i64 a.num, .int .i64 a.den] 24)
  have hb2 := bbox hb1 (.cells #[.int .i64 b.num, .int .i64 b.den] 24)
  have hb3 := bbox hb2 (.cells #[.int .i64 0, .int .i64 0] 24)
  have hA := ((Blk.new w 24 #[.int .i64 a.num, .int .i64 a.den]).alloc (.cells #[.int .i64 b.num, .int .i64 b.den] 24)).alloc (.cells #[.int .i64 0, .int .i64 0] 24)
  have hB := (Blk.new (w.alloc (.cells #[.int .i64 a.num, .int .i64 a.den] 24)) 24 #[.int .i64 b.num, .int .i64 b.den]).alloc (.cells #[.int .i64 0, .int .i64 0] 24)
  have hR := Blk.new ((w.alloc (.cells #[.int .i64 a.num, .int .i64 a.den] 24)).alloc (.cells #[.int .i64 b.num, .int .i64 b.den] 24)) 24 #[.int .i64 0, .int .i64 0]
  rw [World.size_alloc] at hB
  rw [World.size_alloc, World.size_alloc] at hR
  have HG := Lib.hid (fun W => gcd_any a.den.toNat b.den.toNat W (by omega) (by omega))
  rw [e3, show ((a.den.toNat : Nat) : Int) = a.den by omega, show ((b.den.toNat : Nat) : Int) = b.den by omega] at HG
  have HFT := Lib.hid (fun neg num W (hn : num < 9223372036854775808) => fit_any neg num (a.den * (Y : Int)).toNat W hn (by omega) (by omega))
  rw [show (((a.den * (Y : Int)).toNat : Nat) : Int) = a.den * (Y : Int) by omega] at HFT
  have hvv := fun W => valid_any _ [a, b] _ (slF_two W a b (FitF.of ha) (FitF.of hb))
  rw [all2 ha hb] at hvv
  have HV := Lib.hid hvv
  unfold frV
  clear hvv hb1 ha hb a1 a2 a3 a4 b1 b2 b3 b4 hD hN e1 e2 e3 e4 e5 m1 m2 m3 hg hX hY hd hd0
  go_enter Try.func36, Try.ntmps36
  go_upto_region 1 with fail
  obtain ⟨w1, hw1⟩ : ∃ w1, ((w.alloc (.cells #[.int .i64 a.num, .int .i64 a.den] 24)).alloc (.cells #[.int .i64 b.num, .int .i64 b.den] 24)).alloc (.cells #[.int .i64 0, .int .i64 0] 24) = w1 := ⟨_, rfl⟩
  rw [hw1] at hb3 hA hB hR ⊢
  have hb4 := bone w1 (.cells #[.int .i64 a.num, .int .i64 a.den, .int .i64 b.num, .int .i64 b.den] 24)
  obtain ⟨c0, c1⟩ := hA.c2
  obtain ⟨d0, d1⟩ := hB.c2
  clear hw1 hb2
  go_wp2_with fail
  (with_reducible refine (HV.out w1).mono ?_)
  rintro e w2 ⟨rfl, hb5⟩
  have hb45 := hb4.trans (hb5.mono hb4.size)
  have hA2 := hA.now hb45
  have hB2 := hB.now hb45
  have hR2 := hR.now hb45
  have hb2 := hb3.trans (hb45.mono hb3.size)
  clear c0 c1 d0 d1 hA hB hR hb3 hb4 hb5 hb45 HV
  obtain ⟨c0, c1⟩ := hA2.c2
  obtain ⟨d0, d1⟩ := hB2.c2
  go_wp2_with fail
  (with_reducible refine (HG.out _).mono ?_)
  rintro e w' ⟨rfl, n, rfl⟩
  go_upto_region 4 with fail
  have hA3 := hA2.drewN n
  have hB3 := hB2.drewN n
  have hR3 := hR2.drewN n
  have hb3 := below_drewN hb2 n
  obtain ⟨w3, hw3⟩ : ∃ w3, w2.drewN n = w3 := ⟨_, rfl⟩
  rw [hw3] at hA3 hB3 hR3 hb3 ⊢
  clear hw3 c0 c1 d0 d1 hA2 hB2 hR2 hb2 HG
  obtain ⟨c0, c1⟩ := hA3.c2
  obtain ⟨d0, d1⟩ := hB3.c2
  go_quiet (fail)
  have hA4 := hA3.drewN nq
  have hB4 := hB3.drewN nq
  have hR4 := hR3.drewN nq
  have hb4 := below_drewN hb3 nq
  obtain ⟨w4, hw4⟩ : ∃ w4, w3.drewN nq = w4 := ⟨_, rfl⟩
  rw [hw4] at hA4 hB4 hR4 hb4 ⊢
  clear hw4 c0 c1 d0 d1 hA3 hB3 hR3 hb3
  obtain ⟨c0, c1⟩ := hA4.c2
  obtain ⟨d0, d1⟩ := hB4.c2
  go_upto_region 5 with fail
  go_quiet (fail)
  have hR5 := hR4.drewN nq
  have hb5 := below_drewN hb4 nq
  obtain ⟨w5, hw5⟩ : ∃ w5, w4.drewN nq = w5 := ⟨_, rfl⟩
  rw [hw5] at hR5 hb5 ⊢
  clear hw5 c0 c1 d0 d1 hA4 hB4 hR4 hb4 t1 t2 z1 z2 k1 k2 k3 k4 k5 k6 k7
  obtain ⟨x, hxe⟩ : ∃ x, a.num * (Y : Int) = x := ⟨_, rfl⟩
  obtain ⟨y, hye⟩ : ∃ y, b.num * (X : Int) = y := ⟨_, rfl⟩
  obtain ⟨d, hde⟩ : ∃ d, a.den * (Y : Int) = d := ⟨_, rfl⟩
  rw [hxe] at hx HAF ⊢
  rw [hye] at hy HAF ⊢
  rw [hde] at HFT HAF ⊢
  clear hxe hye hde
  go_upto_region 6 with fail
  by_cases hx0 : x < 0
  · by_cases hy0 : y < 0
    · skip
      have HX := Lib.hid (fun W => abs_any x W (by omega))
      have HY := Lib.hid (fun W => abs_any y W (by omega))
      have hsum := natAbs_sum (x := x) (y := y) (by simp [hx0, hy0])
      have HE0 : Hid (addF a b = fitF true (x + y).natAbs d.toNat) := Lib.hid (by rw [HAF.out]; congr 1; simp; omega)
      obtain ⟨p, hp⟩ : ∃ p, x.natAbs = p := ⟨_, rfl⟩
      obtain ⟨q, hq⟩ : ∃ q, y.natAbs = q := ⟨_, rfl⟩
      have hpq : p ≤ 1152921504606846976 ∧ q ≤ 1152921504606846976 := by omega
      rw [hp, hq] at hsum
      rw [hp] at HX
      rw [hq] at HY
      have hpq2 : (x + y).natAbs = p + q := by omega
      rw [hpq2] at HE0
      have hw : IntKind.u64.wrap ((p : Int) + (q : Int)) = (p : Int) + (q : Int) := u64wrap (by omega)
      have hft := fun W => HFT.out true (p + q) W (by omega)
      rw [Int.natCast_add] at hft
      obtain ⟨⟨⟨fn, fd⟩, fe⟩, hf⟩ : ∃ f, fitF true (p + q) d.toNat = f := ⟨_, rfl⟩
      rw [hf] at hft HE0
      have HE : Hid (addF a b = (⟨fn, fd⟩, fe)) := HE0
      have HF : Hid (∀ W, Calls Try.prog 48 #[.bool true, .int .u64 ((p : Int) + (q : Int)), .int .u64 d] W fun e w' => e = .returned (.tuple #[.agg #[.int .i64 fn, .int .i64 fd], .int .i64 fe]) ∧ Below W.heap.size W w') := Lib.hid hft
      clear hft hf hpq2 hpq hp hq hsum HE0
      go_wp2_with fail
      (with_reducible refine (HX.out _).mono ?_)
      rintro e w' ⟨rfl, rfl⟩
      go_wp2_with fail
      (with_reducible refine (HY.out _).mono ?_)
      rintro e w' ⟨rfl, rfl⟩
      go_wp2_with fail
      (with_reducible refine (HF.out _).mono ?_)
      rintro e w6 ⟨rfl, hb6⟩
      have hR6 := hR5.now hb6
      have hb56 := hb5.trans (hb6.mono hb5.size)
      obtain ⟨r0, r1⟩ := hR6.c2
      have fz0 := hR6.frozen 0
      have fz1 := hR6.frozen 1
      obtain ⟨s0, s1⟩ := ((hR6.set_ 0 (.int .i64 fn)).set_ 1 (.int .i64 fd)).c2
      have HB : Hid (Below w.heap.size w ((w6.setCell ⟨w.heap.size + 1 + 1, 0, none⟩ (.int .i64 fn)).setCell ⟨w.heap.size + 1 + 1, 1, none⟩ (.int .i64 fd))) := Lib.hid ((hb56.setCell (p := ⟨w.heap.size + 1 + 1, 0, none⟩) (by show w.heap.size ≤ w.heap.size + 1 + 1; omega) _).setCell (p := ⟨w.heap.size + 1 + 1, 1, none⟩) (by show w.heap.size ≤ w.heap.size + 1 + 1; omega) _)
      clear hR5 hR6 hb5 hb6 hb56
      go_wp2_with fail
      refine bodyPost_ret (v := .tuple #[.agg #[.int .i64 fn, .int .i64 fd], .int .i64 fe]) (by simp [results, Try.results36, go_sem, s0, s1]) rfl ?_
      exact ⟨by rw [HE.out]; rfl, HB.out⟩
    · skip
      have hxy : IntKind.i64.wrap (x + y) = x + y := i64wrap (by omega)
      have HX := Lib.hid (fun W => abs_any (x + y) W (by omega))
      obtain ⟨p, hp⟩ : ∃ p, (x + y).natAbs = p := ⟨_, rfl⟩
      have hpb : p < 9223372036854775808 := by omega
      rw [hp] at HX HAF
      obtain ⟨N, hN⟩ : ∃ N, x + y = N := ⟨_, rfl⟩
      rw [hN] at HX HAF hxy
      have hft := fun W => HFT.out (decide (N < 0)) p W hpb
      obtain ⟨⟨⟨fn, fd⟩, fe⟩, hf⟩ : ∃ f, fitF (decide (N < 0)) p d.toNat = f := ⟨_, rfl⟩
      rw [hf] at hft HAF
      have HE : Hid (addF a b = (⟨fn, fd⟩, fe)) := HAF
      have HF : Hid (∀ W, Calls Try.prog 48 #[.bool (decide (N < 0)), .int .u64 (p : Int), .int .u64 d] W fun e w' => e = .returned (.tuple #[.agg #[.int .i64 fn, .int .i64 fd], .int .i64 fe]) ∧ Below W.heap.size W w') := Lib.hid hft
      clear hft hf hp
      go_wp2_with fail
      (with_reducible refine (HX.out _).mono ?_)
      rintro e w' ⟨rfl, rfl⟩
      go_wp2_with fail
      (with_reducible refine (HF.out _).mono ?_)
      rintro e w6 ⟨rfl, hb6⟩
      have hR6 := hR5.now hb6
      have hb56 := hb5.trans (hb6.mono hb5.size)
      obtain ⟨r0, r1⟩ := hR6.c2
      have fz0 := hR6.frozen 0
      have fz1 := hR6.frozen 1
      obtain ⟨s0, s1⟩ := ((hR6.set_ 0 (.int .i64 fn)).set_ 1 (.int .i64 fd)).c2
      have HB : Hid (Below w.heap.size w ((w6.setCell ⟨w.heap.size + 1 + 1, 0, none⟩ (.int .i64 fn)).setCell ⟨w.heap.size + 1 + 1, 1, none⟩ (.int .i64 fd))) := Lib.hid ((hb56.setCell (p := ⟨w.heap.size + 1 + 1, 0, none⟩) (by show w.heap.size ≤ w.heap.size + 1 + 1; omega) _).setCell (p := ⟨w.heap.size + 1 + 1, 1, none⟩) (by show w.heap.size ≤ w.heap.size + 1 + 1; omega) _)
      clear hR5 hR6 hb5 hb6 hb56
      go_wp2_with fail
      refine bodyPost_ret (v := .tuple #[.agg #[.int .i64 fn, .int .i64 fd], .int .i64 fe]) (by simp [results, Try.results36, go_sem, s0, s1]) rfl ?_
      exact ⟨by rw [HE.out]; rfl, HB.out⟩
  · by_cases hy0 : y < 0
    · skip
      have hxy : IntKind.i64.wrap (x + y) = x + y := i64wrap (by omega)
      have HX := Lib.hid (fun W => abs_any (x + y) W (by omega))
      obtain ⟨p, hp⟩ : ∃ p, (x + y).natAbs = p := ⟨_, rfl⟩
      have hpb : p < 9223372036854775808 := by omega
      rw [hp] at HX HAF
      obtain ⟨N, hN⟩ : ∃ N, x + y = N := ⟨_, rfl⟩
      rw [hN] at HX HAF hxy
      have hft := fun W => HFT.out (decide (N < 0)) p W hpb
      obtain ⟨⟨⟨fn, fd⟩, fe⟩, hf⟩ : ∃ f, fitF (decide (N < 0)) p d.toNat = f := ⟨_, rfl⟩
      rw [hf] at hft HAF
      have HE : Hid (addF a b = (⟨fn, fd⟩, fe)) := HAF
      have HF : Hid (∀ W, Calls Try.prog 48 #[.bool (decide (N < 0)), .int .u64 (p : Int), .int .u64 d] W fun e w' => e = .returned (.tuple #[.agg #[.int .i64 fn, .int .i64 fd], .int .i64 fe]) ∧ Below W.heap.size W w') := Lib.hid hft
      clear hft hf hp
      go_wp2_with fail
      (with_reducible refine (HX.out _).mono ?_)
      rintro e w' ⟨rfl, rfl⟩
      go_wp2_with fail
      (with_reducible refine (HF.out _).mono ?_)
      rintro e w6 ⟨rfl, hb6⟩
      have hR6 := hR5.now hb6
      have hb56 := hb5.trans (hb6.mono hb5.size)
      obtain ⟨r0, r1⟩ := hR6.c2
      have fz0 := hR6.frozen 0
      have fz1 := hR6.frozen 1
      obtain ⟨s0, s1⟩ := ((hR6.set_ 0 (.int .i64 fn)).set_ 1 (.int .i64 fd)).c2
      have HB : Hid (Below w.heap.size w ((w6.setCell ⟨w.heap.size + 1 + 1, 0, none⟩ (.int .i64 fn)).setCell ⟨w.heap.size + 1 + 1, 1, none⟩ (.int .i64 fd))) := Lib.hid ((hb56.setCell (p := ⟨w.heap.size + 1 + 1, 0, none⟩) (by show w.heap.size ≤ w.heap.size + 1 + 1; omega) _).setCell (p := ⟨w.heap.size + 1 + 1, 1, none⟩) (by show w.heap.size ≤ w.heap.size + 1 + 1; omega) _)
      clear hR5 hR6 hb5 hb6 hb56
      go_wp2_with fail
      refine bodyPost_ret (v := .tuple #[.agg #[.int .i64 fn, .int .i64 fd], .int .i64 fe]) (by simp [results, Try.results36, go_sem, s0, s1]) rfl ?_
      exact ⟨by rw [HE.out]; rfl, HB.out⟩
    · skip
      have HX := Lib.hid (fun W => abs_any x W (by omega))
      have HY := Lib.hid (fun W => abs_any y W (by omega))
      have hsum := natAbs_sum (x := x) (y := y) (by simp [hx0, hy0])
      have HE0 : Hid (addF a b = fitF false (x + y).natAbs d.toNat) := Lib.hid (by rw [HAF.out]; congr 1; simp; omega)
      obtain ⟨p, hp⟩ : ∃ p, x.natAbs = p := ⟨_, rfl⟩
      obtain ⟨q, hq⟩ : ∃ q, y.natAbs = q := ⟨_, rfl⟩
      have hpq : p ≤ 1152921504606846976 ∧ q ≤ 1152921504606846976 := by omega
      rw [hp, hq] at hsum
      rw [hp] at HX
      rw [hq] at HY
      have hpq2 : (x + y).natAbs = p + q := by omega
      rw [hpq2] at HE0
      have hw : IntKind.u64.wrap ((p : Int) + (q : Int)) = (p : Int) + (q : Int) := u64wrap (by omega)
      have hft := fun W => HFT.out false (p + q) W (by omega)
      rw [Int.natCast_add] at hft
      obtain ⟨⟨⟨fn, fd⟩, fe⟩, hf⟩ : ∃ f, fitF false (p + q) d.toNat = f := ⟨_, rfl⟩
      rw [hf] at hft HE0
      have HE : Hid (addF a b = (⟨fn, fd⟩, fe)) := HE0
      have HF : Hid (∀ W, Calls Try.prog 48 #[.bool false, .int .u64 ((p : Int) + (q : Int)), .int .u64 d] W fun e w' => e = .returned (.tuple #[.agg #[.int .i64 fn, .int .i64 fd], .int .i64 fe]) ∧ Below W.heap.size W w') := Lib.hid hft
      clear hft hf hpq2 hpq hp hq hsum HE0
      go_wp2_with fail
      (with_reducible refine (HX.out _).mono ?_)
      rintro e w' ⟨rfl, rfl⟩
      go_wp2_with fail
      (with_reducible refine (HY.out _).mono ?_)
      rintro e w' ⟨rfl, rfl⟩
      go_wp2_with fail
      (with_reducible refine (HF.out _).mono ?_)
      rintro e w6 ⟨rfl, hb6⟩
      have hR6 := hR5.now hb6
      have hb56 := hb5.trans (hb6.mono hb5.size)
      obtain ⟨r0, r1⟩ := hR6.c2
      have fz0 := hR6.frozen 0
      have fz1 := hR6.frozen 1
      obtain ⟨s0, s1⟩ := ((hR6.set_ 0 (.int .i64 fn)).set_ 1 (.int .i64 fd)).c2
      have HB : Hid (Below w.heap.size w ((w6.setCell ⟨w.heap.size + 1 + 1, 0, none⟩ (.int .i64 fn)).setCell ⟨w.heap.size + 1 + 1, 1, none⟩ (.int .i64 fd))) := Lib.hid ((hb56.setCell (p := ⟨w.heap.size + 1 + 1, 0, none⟩) (by show w.heap.size ≤ w.heap.size + 1 + 1; omega) _).setCell (p := ⟨w.heap.size + 1 + 1, 1, none⟩) (by show w.heap.size ≤ w.heap.size + 1 + 1; omega) _)
      clear hR5 hR6 hb5 hb6 hb56
      go_wp2_with fail
      refine bodyPost_ret (v := .tuple #[.agg #[.int .i64 fn, .int .i64 fd], .int .i64 fe]) (by simp [results, Try.results36, go_sem, s0, s1]) rfl ?_
      exact ⟨by rw [HE.out]; rfl, HB.out⟩
end Go.Proofs.Ytilmdlkfmkbfmaa
