/- The first line of a net's text, as the program reads it. -/
import Derived.Test.YtlkkfkkhllijbaaGreatDoorPtFirst
namespace Go.Proofs.YtlkkfkkhllijbaaGreatDoor
open Go.RowKit

set_option maxHeartbeats 2000000 in
set_option maxRecDepth 100000 in
theorem first_any (s : ByteArray) (w : World) (hs : s.size ≤ 1000000) (ha : AmbP w) : Calls Tryz.prog 22 #[.string s] w (RetFirst s.data.toList w) := by
  have hb0 := bone w (.cells #[.int .i64 0, .slice none 0 0, .int .i64 0, .int .i64 0] 24)
  have hB0 := Blk.new w 24 #[.int .i64 0, .slice none 0 0, .int .i64 0, .int .i64 0]
  go_enter Tryz.func22, Tryz.ntmps22
  go_upto_region 1 with fail
  generalize hw1 : w.alloc (.cells #[.int .i64 0, .slice none 0 0, .int .i64 0, .int .i64 0] 24) = w1 at *
  clear hw1
  go_wp2_with fail
  refine (split_any 32 s _ hs (ha.now hb0)).mono ?_
  rintro e w2 ⟨lv, rfl, hl, hb2⟩
  have hB2 := hB0.now hb2
  have hb12 := bthen hb0 hb2
  have ha2 := ha.now hb12
  clear hB0 hb0 hb2
  have hsz := hl.size
  obtain ⟨A, c, rfl, h1, h2, hl⟩ := hl.open_
  by_cases h6 : (partsB 32 s.data.toList).length = 6
  · obtain ⟨a, p, b, x, d, y, hp⟩ := six_of h6
    rw [h6] at hl h1 ⊢
    obtain ⟨g, o, rfl, hD, hr⟩ := SlP.row (n := 6) (c := c) hl (by omega)
    rw [hp] at hr hsz
    have c0 : w2.cell? ⟨g, o, none⟩ = some (.string (bsOf a)) := hr 0 a rfl
    have c1 := hr 1 p rfl
    have c2 := hr 2 b rfl
    have c3 := hr 3 x rfl
    have c4 := hr 4 d rfl
    have c5 := hr 5 y rfl
    have HP := Lib.hid hp
    have HSZ : Hid (∀ l ∈ [a, p, b, x, d, y], (bsOf l).size ≤ 1000000) := fun l hl => by
      have := (parts_len 32 s.data.toList).2 l (by rw [HP.out]; exact hl)
      rw [size_list] at this
      rw [bs_size]; omega
    clear hp hr hsz h6
    generalize hqa : decide (a = wordNet) = qa
    have la : ((bsOf a).toList == [110, 101, 116]) = qa := lit_of qa hqa
    have HQA := Lib.hid hqa
    clear hqa
    cases qa
    · have HF : Hid (firstB s.data.toList = none) := first_bad HP.out (fun h => by have := HQA.out; rw [decide_eq_false_iff_not] at this; exact this h.1)
      obtain ⟨z0, z1, z2, z3⟩ := hB2.c4
      have f0 := hB2.frozen 0
      have f1 := hB2.frozen 1
      have f2 := hB2.frozen 2
      have f3 := hB2.frozen 3
      go_wp2_with fail
      obtain ⟨t0, t1, t2, t3⟩ := (hB2.set4 (.int .i64 0) (.slice none 0 0) (.int .i64 0) (.int .i64 0)).c4
      refine bodyPost_ret (v := .tuple #[netV0 0 0 0, .bool false]) (by simp [results, Tryz.results22, go_sem, t0, t1, t2, t3, netV0]) rfl ?_
      exact ⟨0, 0, 0, false, rfl, by rw [HF.out]; rfl, by unfold Fit; omega, by unfold Fit; omega, by unfold Fit; omega, Below.set4 hb12 (Nat.le_refl _) _ _ _ _⟩
    generalize hqb : decide (b = wordSource) = qb
    have lb : ((bsOf b).toList == [115, 111, 117, 114, 99, 101]) = qb := lit_of qb hqb
    have HQB := Lib.hid hqb
    clear hqb
    cases qb
    · have HF : Hid (firstB s.data.toList = none) := first_bad HP.out (fun h => by have := HQB.out; rw [decide_eq_false_iff_not] at this; exact this h.2.1)
      obtain ⟨z0, z1, z2, z3⟩ := hB2.c4
      have f0 := hB2.frozen 0
      have f1 := hB2.frozen 1
      have f2 := hB2.frozen 2
      have f3 := hB2.frozen 3
      go_wp2_with fail
      obtain ⟨t0, t1, t2, t3⟩ := (hB2.set4 (.int .i64 0) (.slice none 0 0) (.int .i64 0) (.int .i64 0)).c4
      refine bodyPost_ret (v := .tuple #[netV0 0 0 0, .bool false]) (by simp [results, Tryz.results22, go_sem, t0, t1, t2, t3, netV0]) rfl ?_
      exact ⟨0, 0, 0, false, rfl, by rw [HF.out]; rfl, by unfold Fit; omega, by unfold Fit; omega, by unfold Fit; omega, Below.set4 hb12 (Nat.le_refl _) _ _ _ _⟩
    generalize hqd : decide (d = wordSink) = qd
    have ld : ((bsOf d).toList == [115, 105, 110, 107]) = qd := lit_of qd hqd
    have HQD := Lib.hid hqd
    clear hqd
    cases qd
    · have HF : Hid (firstB s.data.toList = none) := first_bad HP.out (fun h => by have := HQD.out; rw [decide_eq_false_iff_not] at this; exact this h.2.2)
      obtain ⟨z0, z1, z2, z3⟩ := hB2.c4
      have f0 := hB2.frozen 0
      have f1 := hB2.frozen 1
      have f2 := hB2.frozen 2
      have f3 := hB2.frozen 3
      go_wp2_with fail
      obtain ⟨t0, t1, t2, t3⟩ := (hB2.set4 (.int .i64 0) (.slice none 0 0) (.int .i64 0) (.int .i64 0)).c4
      refine bodyPost_ret (v := .tuple #[netV0 0 0 0, .bool false]) (by simp [results, Tryz.results22, go_sem, t0, t1, t2, t3, netV0]) rfl ?_
      exact ⟨0, 0, 0, false, rfl, by rw [HF.out]; rfl, by unfold Fit; omega, by unfold Fit; omega, by unfold Fit; omega, Below.set4 hb12 (Nat.le_refl _) _ _ _ _⟩
    have HN := Lib.hid (first_num HP.out (of_decide_eq_true HQA.out) (of_decide_eq_true HQB.out) (of_decide_eq_true HQD.out))
    have hlt2 := hB2.lt
    have hb3 := bone w2 (.cells #[.int .i64 0, .int .i64 0, .int .i64 0] 84)
    have hK3 := Blk.new w2 84 #[.int .i64 0, .int .i64 0, .int .i64 0]
    go_wp2_with fail
    clear c0 c1 c2 c3 c4 c5 la lb ld
    go_loopw [33] (fun iv wr => ∃ (i : Nat) (y0 y1 y2 : Int), i ≤ 3 ∧ iv = .int .i64 i ∧ Blk wr w2.heap.size 84 #[.int .i64 y0, .int .i64 y1, .int .i64 y2] ∧ Hid (1 ≤ i → num9 p = some y0) ∧ Hid (2 ≤ i → num9 x = some y1) ∧ Hid (3 ≤ i → num9 y = some y2) ∧ Below w2.heap.size w2 wr) (fun iv _ => 3 - (intOf iv).toNat)
    case atStart => exact ⟨0, 0, 0, 0, by omega, rfl, hK3, fun h => (by omega), fun h => (by omega), fun h => (by omega), hb3⟩
    case round =>
      obtain ⟨i, y0, y1, y2, hi, rfl, hK, HY0, HY1, HY2, hbr⟩ := hrel
      have hB3 := hB2.now hbr
      have hb13 := bthen hb12 hbr
      obtain ⟨g', o', he, _, hr⟩ := SlP.row (n := 6) (c := c) (hl.now hbr) (by omega)
      injection he with he
      injection he with he1 he2 _
      subst he1 he2
      rw [HP.out] at hr
      have har := ha2.now hbr
      rcases (show i = 0 ∨ i = 1 ∨ i = 2 ∨ i = 3 by omega) with rfl | rfl | rfl | rfl
      · have c1 := hr 1 p rfl
        have HC := Lib.hid (ptNum_any (bsOf p) wr (HSZ.out p (by simp)) har)
        obtain ⟨k0, k1, k2⟩ := hK.c3
        have e0 := hK.frozen 0
        go_wp2_with fail
        refine HC.out.mono ?_
        rintro e w4 ⟨⟨z, ok, rfl, hn⟩, hb4⟩
        have HNZ : Hid (num9 p = (if ok then some z else none)) := by rw [bs_list] at hn; exact hn
        clear hn k0 k1 k2 e0 HC c1
        have hB4 := hB3.now hb4
        have hb14 := bthen hb13 hb4
        have hK4 := hK.now hb4
        have hbr4 := hbr.trans (hb4.mono hbr.size)
        cases ok
        · have HF : Hid (firstB s.data.toList = none) := by
            show _ = _
            rw [HN.out, HNZ.out]
            cases num9 x <;> cases num9 y <;> rfl
          obtain ⟨z0, z1, z2, z3⟩ := hB4.c4
          have f0 := hB4.frozen 0
          have f1 := hB4.frozen 1
          have f2 := hB4.frozen 2
          have f3 := hB4.frozen 3
          go_wp2_with fail
          obtain ⟨t0, t1, t2, t3⟩ := (hB4.set4 (.int .i64 0) (.slice none 0 0) (.int .i64 0) (.int .i64 0)).c4
          refine bodyPost_ret (v := .tuple #[netV0 0 0 0, .bool false]) (by simp [results, Tryz.results22, go_sem, t0, t1, t2, t3, netV0]) rfl ?_
          exact ⟨0, 0, 0, false, rfl, by rw [HF.out]; rfl, by unfold Fit; omega, by unfold Fit; omega, by unfold Fit; omega, Below.set4 hb14 (Nat.le_refl _) _ _ _ _⟩
        · obtain ⟨k0, k1, k2⟩ := hK4.c3
          have e0 := hK4.frozen 0
          go_wp2_with fail
          go_roundw
          case rel => exact ⟨1, z, y1, y2, by omega, rfl, hK4.set_ 0 (.int .i64 z), fun _ => HNZ.out, fun h => (by omega), fun h => (by omega), hbr4.setCell (p := ⟨w2.heap.size, 0, none⟩) (Nat.le_refl _) _⟩
          case measure => simp [intOf]
      · have c1 := hr 3 x rfl
        have HC := Lib.hid (ptNum_any (bsOf x) wr (HSZ.out x (by simp)) har)
        obtain ⟨k0, k1, k2⟩ := hK.c3
        have e0 := hK.frozen 1
        go_wp2_with fail
        refine HC.out.mono ?_
        rintro e w4 ⟨⟨z, ok, rfl, hn⟩, hb4⟩
        have HNZ : Hid (num9 x = (if ok then some z else none)) := by rw [bs_list] at hn; exact hn
        clear hn k0 k1 k2 e0 HC c1
        have hB4 := hB3.now hb4
        have hb14 := bthen hb13 hb4
        have hK4 := hK.now hb4
        have hbr4 := hbr.trans (hb4.mono hbr.size)
        cases ok
        · have HF : Hid (firstB s.data.toList = none) := by
            show _ = _
            rw [HN.out, HNZ.out]
            cases num9 p <;> cases num9 y <;> rfl
          obtain ⟨z0, z1, z2, z3⟩ := hB4.c4
          have f0 := hB4.frozen 0
          have f1 := hB4.frozen 1
          have f2 := hB4.frozen 2
          have f3 := hB4.frozen 3
          go_wp2_with fail
          obtain ⟨t0, t1, t2, t3⟩ := (hB4.set4 (.int .i64 0) (.slice none 0 0) (.int .i64 0) (.int .i64 0)).c4
          refine bodyPost_ret (v := .tuple #[netV0 0 0 0, .bool false]) (by simp [results, Tryz.results22, go_sem, t0, t1, t2, t3, netV0]) rfl ?_
          exact ⟨0, 0, 0, false, rfl, by rw [HF.out]; rfl, by unfold Fit; omega, by unfold Fit; omega, by unfold Fit; omega, Below.set4 hb14 (Nat.le_refl _) _ _ _ _⟩
        · obtain ⟨k0, k1, k2⟩ := hK4.c3
          have e0 := hK4.frozen 1
          go_wp2_with fail
          go_roundw
          case rel => exact ⟨2, y0, z, y2, by omega, rfl, hK4.set_ 1 (.int .i64 z), fun _ => HY0.out (by omega), fun _ => HNZ.out, fun h => (by omega), hbr4.setCell (p := ⟨w2.heap.size, 1, none⟩) (Nat.le_refl _) _⟩
          case measure => simp [intOf]
      · have c1 := hr 5 y rfl
        have HC := Lib.hid (ptNum_any (bsOf y) wr (HSZ.out y (by simp)) har)
        obtain ⟨k0, k1, k2⟩ := hK.c3
        have e0 := hK.frozen 2
        go_wp2_with fail
        refine HC.out.mono ?_
        rintro e w4 ⟨⟨z, ok, rfl, hn⟩, hb4⟩
        have HNZ : Hid (num9 y = (if ok then some z else none)) := by rw [bs_list] at hn; exact hn
        clear hn k0 k1 k2 e0 HC c1
        have hB4 := hB3.now hb4
        have hb14 := bthen hb13 hb4
        have hK4 := hK.now hb4
        have hbr4 := hbr.trans (hb4.mono hbr.size)
        cases ok
        · have HF : Hid (firstB s.data.toList = none) := by
            show _ = _
            rw [HN.out, HNZ.out]
            cases num9 p <;> cases num9 x <;> rfl
          obtain ⟨z0, z1, z2, z3⟩ := hB4.c4
          have f0 := hB4.frozen 0
          have f1 := hB4.frozen 1
          have f2 := hB4.frozen 2
          have f3 := hB4.frozen 3
          go_wp2_with fail
          obtain ⟨t0, t1, t2, t3⟩ := (hB4.set4 (.int .i64 0) (.slice none 0 0) (.int .i64 0) (.int .i64 0)).c4
          refine bodyPost_ret (v := .tuple #[netV0 0 0 0, .bool false]) (by simp [results, Tryz.results22, go_sem, t0, t1, t2, t3, netV0]) rfl ?_
          exact ⟨0, 0, 0, false, rfl, by rw [HF.out]; rfl, by unfold Fit; omega, by unfold Fit; omega, by unfold Fit; omega, Below.set4 hb14 (Nat.le_refl _) _ _ _ _⟩
        · obtain ⟨k0, k1, k2⟩ := hK4.c3
          have e0 := hK4.frozen 2
          go_wp2_with fail
          go_roundw
          case rel => exact ⟨3, y0, y1, z, by omega, rfl, hK4.set_ 2 (.int .i64 z), fun _ => HY0.out (by omega), fun _ => HY1.out (by omega), fun _ => HNZ.out, hbr4.setCell (p := ⟨w2.heap.size, 2, none⟩) (Nat.le_refl _) _⟩
          case measure => simp [intOf]
      · have e1 := HY0.out (by omega)
        have e2 := HY1.out (by omega)
        have e3 := HY2.out (by omega)
        have HR : Hid (firstB s.data.toList = some ⟨y0, [], y1, y2⟩) := by show _ = _; rw [HN.out, e1, e2, e3]
        have HFF := Lib.hid (And.intro (num9_fit e1) (And.intro (num9_fit e2) (num9_fit e3)))
        clear e1 e2 e3
        obtain ⟨k0, k1, k2⟩ := hK.c3
        obtain ⟨z0, z1, z2, z3⟩ := hB3.c4
        have f0 := hB3.frozen 0
        have f1 := hB3.frozen 1
        have f2 := hB3.frozen 2
        have f3 := hB3.frozen 3
        go_wp2_with fail
        obtain ⟨t0, t1, t2, t3⟩ := (hB3.set4 (.int .i64 y0) (.slice none 0 0) (.int .i64 y1) (.int .i64 y2)).c4
        refine bodyPost_ret (v := .tuple #[netV0 y0 y1 y2, .bool true]) (by simp [results, Tryz.results22, go_sem, t0, t1, t2, t3, netV0]) rfl ?_
        exact ⟨y0, y1, y2, true, rfl, HR.out, HFF.out.1, HFF.out.2.1, HFF.out.2.2, Below.set4 hb13 (Nat.le_refl _) _ _ _ _⟩
  · have HF := Lib.hid (first_len h6)
    have k1 : (((partsB 32 s.data.toList).length : Int) != 6) = true := by rw [bne_iff_ne]; omega
    clear h6
    obtain ⟨z0, z1, z2, z3⟩ := hB2.c4
    have f0 := hB2.frozen 0
    have f1 := hB2.frozen 1
    have f2 := hB2.frozen 2
    have f3 := hB2.frozen 3
    go_wp2_with fail
    obtain ⟨t0, t1, t2, t3⟩ := (hB2.set4 (.int .i64 0) (.slice none 0 0) (.int .i64 0) (.int .i64 0)).c4
    refine bodyPost_ret (v := .tuple #[netV0 0 0 0, .bool false]) (by simp [results, Tryz.results22, go_sem, t0, t1, t2, t3, netV0]) rfl ?_
    exact ⟨0, 0, 0, false, rfl, by rw [HF.out]; rfl, by unfold Fit; omega, by unfold Fit; omega, by unfold Fit; omega, Below.set4 hb12 (Nat.le_refl _) _ _ _ _⟩
end Go.Proofs.YtlkkfkkhllijbaaGreatDoor
