/- frac.abs, fit, Cmp, Add, Sub. -/
import Derived.Test.YtilmdlkfmkbfmaaPvFr
import Derived.Deep.CutRange
set_option linter.all false
namespace Go.Proofs.Ytilmdlkfmkbfmaa
open Go.RowKit

theorem u64wrap {n : Int} (h : 0 ≤ n ∧ n ≤ 18446744073709551615) : IntKind.u64.wrap n = n := by
  simp [IntKind.wrap, IntKind.bits, IntKind.signed]
  omega
theorem u64neg {n : Int} (h : -9223372036854775808 ≤ n ∧ n < 0) : IntKind.u64.wrap n = n + 18446744073709551616 := by
  simp [IntKind.wrap, IntKind.bits, IntKind.signed]
  omega
theorem u64back {n : Int} (h : -9223372036854775808 ≤ n ∧ n < 0) : IntKind.u64.wrap (-(n + 18446744073709551616)) = ((n.natAbs : Nat) : Int) := by
  simp [IntKind.wrap, IntKind.bits, IntKind.signed]
  omega
set_option maxHeartbeats 400000 in
theorem abs_any (n : Int) (w : World) (h : -9223372036854775808 ≤ n ∧ n ≤ 9223372036854775807) : Calls Try.prog 49 #[.int .i64 n] w fun e w' => e = .returned (.int .u64 ((n.natAbs : Nat) : Int)) ∧ w' = w := by
  by_cases h0 : n < 0
  · have z1 := u64neg (n := n) ⟨h.1, h0⟩
    have z2 := u64back (n := n) ⟨h.1, h0⟩
    go_enter Try.func49, Try.ntmps49
    go_wp2_with fail
    go_ret
    exact ⟨by first | rfl | (simp [z2]; done), rfl⟩
  · have z1 := u64wrap (n := n) (by omega)
    have HE : Hid (((n.natAbs : Nat) : Int) = n) := Lib.hid (by omega)
    go_enter Try.func49, Try.ntmps49
    go_wp2_with fail
    go_ret
    exact ⟨by rw [HE.out]; rfl, rfl⟩
def RetFr (f : Fr × Int) (w : World) (e : Ending) (w' : World) : Prop := e = .returned (.tuple #[frV f.1, .int .i64 f.2]) ∧ Below w.heap.size w w'
theorem fit_fin {w W : World} {P : Nat} {a : Fr} {x y : Value} (hP : P = w.heap.size) (hb : Below w.heap.size w W) (hB : Blk W P 24 #[x, y]) : Below w.heap.size w ((W.setCell ⟨P, 0, none⟩ (.int .i64 a.num)).setCell ⟨P, 1, none⟩ (.int .i64 a.den)) := by
  subst hP
  exact (hb.setCell (p := ⟨w.heap.size, 0, none⟩) (Nat.le_refl _) _).setCell (p := ⟨w.heap.size, 1, none⟩) (Nat.le_refl _) _
set_option maxHeartbeats 2000000 in
set_option maxRecDepth 100000 in
theorem fit_any (neg : Bool) (num den : Nat) (w : World) (hn : num < 9223372036854775808) (hd : den < 9223372036854775808) (hd0 : 0 < den) : Calls Try.prog 48 #[.bool neg, .int .u64 (num : Int), .int .u64 (den : Int)] w (RetFr (fitF neg num den) w) := by
  have hb1 := bone w (.cells #[.int .i64 0, .int .i64 0] 24)
  have hP := Blk.new w 24 #[.int .i64 0, .int .i64 0]
  have HFF : Hid (fitF neg num den = if 1073741824 < num / Nat.gcd num den ∨ 1073741824 < den / Nat.gcd num den then (fr0, 6) else (⟨if neg then -((num / Nat.gcd num den : Nat) : Int) else ((num / Nat.gcd num den : Nat) : Int), ((den / Nat.gcd num den : Nat) : Int)⟩, 0)) := Lib.hid rfl
  go_enter Try.func48, Try.ntmps48
  go_upto_region 1 with fail
  obtain ⟨w1, hw1⟩ : ∃ w1, w.alloc (.cells #[.int .i64 0, .int .i64 0] 24) = w1 := ⟨_, rfl⟩
  rw [hw1] at hb1 hP ⊢
  clear hw1
  go_wp2_with fail
  go_loopw [8, 9] (fun av bv wr => ∃ p q n : Nat, av = .int .u64 (p : Int) ∧ bv = .int .u64 (q : Int) ∧ p < 9223372036854775808 ∧ q < 9223372036854775808 ∧ Hid (Nat.gcd p q = Nat.gcd num den) ∧ wr = w1.drewN n) (fun _ bv _ => (intOf bv).toNat)
  case atStart => exact ⟨num, den, 0, rfl, rfl, hn, hd, Lib.hid rfl, rfl⟩
  case round =>
    obtain ⟨p, q, n, rfl, rfl, hp, hq, HG, rfl⟩ := hrel
    by_cases h0 : q = 0
    · subst h0
      have hpe : p = Nat.gcd num den := by rw [← HG.out]; simp
      have hp0 : 0 < p := by rw [hpe]; exact Nat.gcd_pos_of_pos_right _ hd0
      rw [← hpe] at HFF
      have z1 : (p : Int) ≠ 0 := by omega
      have z2 : ¬ (p : Int) = 0 := by omega
      have f1 : (num : Int).tdiv (p : Int) = ((num / p : Nat) : Int) := (Int.ofNat_tdiv num p).symm
      have f2 : (den : Int).tdiv (p : Int) = ((den / p : Nat) : Int) := (Int.ofNat_tdiv den p).symm
      have g1 : (num : Int) / (p : Int) = ((num / p : Nat) : Int) := (Int.natCast_ediv num p).symm
      have g2 : (den : Int) / (p : Int) = ((den / p : Nat) : Int) := (Int.natCast_ediv den p).symm
      have hx := Nat.div_le_self num p
      have hy := Nat.div_le_self den p
      obtain ⟨x, hxx⟩ : ∃ x, num / p = x := ⟨_, rfl⟩
      obtain ⟨y, hyy⟩ : ∃ y, den / p = y := ⟨_, rfl⟩
      rw [hxx] at f1 g1 hx HFF
      rw [hyy] at f2 g2 hy HFF
      have k1 : IntKind.u64.wrap (x : Int) = (x : Int) := u64wrap (by omega)
      have k2 : IntKind.u64.wrap (y : Int) = (y : Int) := u64wrap (by omega)
      have hPn := hP.drewN n
      clear hpe hxx hyy
      go_wp2_with fail
      go_quiet (fail)
      clear f1 f2 g1 g2 z1 z2
      have hbn := below_drewN hb1 (n + nq)
      have hPq := hP.drewN (n + nq)
      rw [World.drewN_drewN]
      obtain ⟨w2, hw2⟩ : ∃ w2, w1.drewN (n + nq) = w2 := ⟨_, rfl⟩
      rw [hw2] at hbn hPq ⊢
      clear hw2
      obtain ⟨q0, q1⟩ := hPq.c2
      have fz0 := hPq.frozen 0
      have fz1 := hPq.frozen 1
      by_cases hbig : 1073741824 < x ∨ 1073741824 < y
      · have HE : Hid (fitF neg num den = (fr0, 6)) := Lib.hid (by rw [HFF.out, if_pos hbig])
        have HB := Lib.hid (fit_fin (a := fr0) rfl hbn hPq)
        obtain ⟨r0, r1⟩ := ((hPq.set_ 0 (.int .i64 0)).set_ 1 (.int .i64 0)).c2
        by_cases hx1 : 1073741824 < x
        · have b1 : (1073741824 : Int) < (x : Int) := by omega
          clear hbig
          go_wp2_with fail
          refine bodyPost_ret (v := .tuple #[.agg #[.int .i64 0, .int .i64 0], .int .i64 6]) (by simp [results, Try.results48, go_sem, r0, r1]) rfl ?_
          exact ⟨by rw [HE.out]; rfl, HB.out⟩
        · have b1 : ¬ (1073741824 : Int) < (x : Int) := by omega
          have b2 : (1073741824 : Int) < (y : Int) := by omega
          clear hbig
          go_wp2_with fail
          refine bodyPost_ret (v := .tuple #[.agg #[.int .i64 0, .int .i64 0], .int .i64 6]) (by simp [results, Try.results48, go_sem, r0, r1]) rfl ?_
          exact ⟨by rw [HE.out]; rfl, HB.out⟩
      · have b1 : ¬ (1073741824 : Int) < (x : Int) := by omega
        have b2 : ¬ (1073741824 : Int) < (y : Int) := by omega
        have c1 : IntKind.i64.wrap (x : Int) = (x : Int) := i64wrap (by omega)
        have c2 : IntKind.i64.wrap (y : Int) = (y : Int) := i64wrap (by omega)
        have c3 : IntKind.i64.wrap (-(x : Int)) = -(x : Int) := i64wrap (by omega)
        have HE : Hid (fitF neg num den = (⟨if neg then -(x : Int) else (x : Int), (y : Int)⟩, 0)) := Lib.hid (by rw [HFF.out, if_neg hbig])
        have hA := Blk.new w2 24 #[.int .i64 (x : Int), .int .i64 (y : Int)]
        have hbA := bone w2 (.cells #[.int .i64 (x : Int), .int .i64 (y : Int)] 24)
        have hPA := hPq.now hbA
        have hbnA := hbn.trans (hbA.mono hbn.size)
        have hPl := hPq.lt
        clear hbig
        go_upto_region 8 with fail
        obtain ⟨w3, hw3⟩ : ∃ w3, w2.alloc (.cells #[.int .i64 (x : Int), .int .i64 (y : Int)] 24) = w3 := ⟨_, rfl⟩
        obtain ⟨G, hGG⟩ : ∃ G, w2.heap.size = G := ⟨_, rfl⟩
        obtain ⟨P, hPP⟩ : ∃ P, w.heap.size = P := ⟨_, rfl⟩
        rw [hw3] at hA hPA hbnA ⊢
        rw [hGG] at hA hPl ⊢
        rw [hPP] at hPA hPl ⊢
        have hPP' := hPP.symm
        clear hw3 hGG hbA hPP hPq q0 q1 fz0 fz1
        obtain ⟨a0, a1⟩ := hA.c2
        cases neg
        · rw [if_neg (by decide)] at HE
          obtain ⟨p0, p1⟩ := hPA.c2
          have gz0 := hPA.frozen 0
          have gz1 := hPA.frozen 1
          have HB := Lib.hid (fit_fin (a := ⟨(x : Int), (y : Int)⟩) hPP' hbnA hPA)
          obtain ⟨r0, r1⟩ := ((hPA.set_ 0 (.int .i64 (x : Int))).set_ 1 (.int .i64 (y : Int))).c2
          clear hPP'
          go_wp2_with fail
          refine bodyPost_ret (v := .tuple #[.agg #[.int .i64 (x : Int), .int .i64 (y : Int)], .int .i64 0]) (by simp [results, Try.results48, go_sem, r0, r1]) rfl ?_
          exact ⟨by rw [HE.out]; rfl, HB.out⟩
        · rw [if_pos rfl] at HE
          have hA2 : Blk (w3.setCell ⟨G, 0, none⟩ (.int .i64 (-(x : Int)))) G 24 #[.int .i64 (-(x : Int)), .int .i64 (y : Int)] := hA.set_ 0 (.int .i64 (-(x : Int)))
          have hne : P ≠ G := by omega
          have hPA2 := hPA.far (p := ⟨G, 0, none⟩) hne (.int .i64 (-(x : Int)))
          have hz0 := hA.frozen 0
          have hbn2 := hbnA.setCell (p := ⟨G, 0, none⟩) (by show w.heap.size ≤ G; omega) (.int .i64 (-(x : Int)))
          go_upto_region 10 with fail
          obtain ⟨w4, hw4⟩ : ∃ w4, w3.setCell ⟨G, 0, none⟩ (.int .i64 (-(x : Int))) = w4 := ⟨_, rfl⟩
          rw [hw4] at hA2 hPA2 hbn2 ⊢
          clear hw4 a0 a1 hA hPA hz0
          obtain ⟨a0, a1⟩ := hA2.c2
          obtain ⟨p0, p1⟩ := hPA2.c2
          have gz0 := hPA2.frozen 0
          have gz1 := hPA2.frozen 1
          have HB := Lib.hid (fit_fin (a := ⟨-(x : Int), (y : Int)⟩) hPP' hbn2 hPA2)
          obtain ⟨r0, r1⟩ := ((hPA2.set_ 0 (.int .i64 (-(x : Int)))).set_ 1 (.int .i64 (y : Int))).c2
          clear hPP'
          go_wp2_with fail
          refine bodyPost_ret (v := .tuple #[.agg #[.int .i64 (-(x : Int)), .int .i64 (y : Int)], .int .i64 0]) (by simp [results, Try.results48, go_sem, r0, r1]) rfl ?_
          exact ⟨by rw [HE.out]; rfl, HB.out⟩
    · have z1 : ((q : Int) != 0) = true := by simp [h0]
      have z2 : (q : Int) ≠ 0 := by omega
      have z3 : ¬ (q : Int) = 0 := by omega
      have hlt := Nat.mod_lt p (Nat.pos_of_ne_zero h0)
      have he : (p : Int) % (q : Int) = ((p % q : Nat) : Int) := (Int.natCast_emod p q).symm
      have hm2 : (p : Int).tmod (q : Int) = (p : Int) % (q : Int) := by rw [he]; exact (Int.ofNat_tmod p q).symm
      have hm : IntKind.u64.wrap ((p : Int) % (q : Int)) = (p : Int) % (q : Int) := u64wrap (by rw [he]; omega)
      clear he
      have HN : Hid (Nat.gcd q (p % q) = Nat.gcd num den) := Lib.hid ((gcd_step p q).trans HG.out)
      go_wp2_with fail
      go_quiet (fail)
      go_wp2_with fail
      go_roundw
      case rel => exact ⟨q, p % q, n + nq, rfl, by first | rfl | go_num, hq, by omega, HN, by simp⟩
      case measure => simp [intOf]; omega
end Go.Proofs.Ytilmdlkfmkbfmaa
