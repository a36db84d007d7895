/- The first line of a net's text: both sides. -/
import Derived.Test.YtlkkfkkhllijbaaGreatDoorPtSplit
namespace Go.Proofs.YtlkkfkkhllijbaaGreatDoor
open Go.RowKit

def netV0 (p x y : Int) : Value := .agg #[.int .i64 p, .slice none 0 0, .int .i64 x, .int .i64 y]
def RetFirst (l : List UInt8) (w : World) (e : Ending) (w' : World) : Prop :=
  ∃ (p x y : Int) (ok : Bool), e = .returned (.tuple #[netV0 p x y, .bool ok]) ∧ firstB l = (if ok then some ⟨p, [], x, y⟩ else none) ∧ Fit p ∧ Fit x ∧ Fit y ∧ Below w.heap.size w w'
theorem first_len {l : List UInt8} (h : (partsB 32 l).length ≠ 6) : firstB l = none := by
  unfold firstB
  split
  · rename_i e; rw [e] at h; exact absurd rfl h
  · rfl
theorem first_bad {l a p b x c y : List UInt8} (h : partsB 32 l = [a, p, b, x, c, y]) (hb : ¬ (a = wordNet ∧ b = wordSource ∧ c = wordSink)) : firstB l = none := by
  unfold firstB
  rw [h]
  dsimp only
  rw [if_neg hb]
theorem first_num {l a p b x c y : List UInt8} (h : partsB 32 l = [a, p, b, x, c, y]) (ha : a = wordNet) (hb : b = wordSource) (hc : c = wordSink) : firstB l = match num9 p, num9 x, num9 y with
      | some p, some x, some y => some ⟨p, [], x, y⟩
      | _, _, _ => none := by
  unfold firstB
  rw [h]
  dsimp only
  rw [if_pos ⟨ha, hb, hc⟩]
  cases num9 p <;> cases num9 x <;> cases num9 y <;> rfl
theorem six_of {α : Type} {l : List α} (h : l.length = 6) : ∃ a b c d e f, l = [a, b, c, d, e, f] := by
  match l, h with
  | [a, b, c, d, e, f], _ => exact ⟨a, b, c, d, e, f, rfl⟩
theorem lit_of {l k : List UInt8} (q : Bool) (h : decide (l = k) = q) : ((bsOf l).toList == k) = q := by
  rw [Lib.toList_data]
  show (l == k) = q
  rw [← h]
  rw [Bool.eq_iff_iff]; simp
set_option maxHeartbeats 2000000 in
set_option maxRecDepth 100000 in
theorem first_ref (s : ByteArray) (w : World) (hs : s.size ≤ 1000000) : Calls Tryz.prog 25 #[.string s] w (RetFirst s.data.toList w) := by
  have hb0 := bone w (.cells #[.int .i64 0, .slice none 0 0, .int .i64 0, .int .i64 0] 24)
  have hB0 := Blk.new w 24 #[.int .i64 0, .slice none 0 0, .int .i64 0, .int .i64 0]
  go_enter Tryz.func25, Tryz.ntmps25
  go_upto_region 1 with fail
  generalize hw1 : w.alloc (.cells #[.int .i64 0, .slice none 0 0, .int .i64 0, .int .i64 0] 24) = w1 at *
  clear hw1
  go_wp2_with fail
  refine (fields_ref s _ hs).mono ?_
  rintro e w2 ⟨lv, rfl, hl, hb2⟩
  have hB2 := hB0.now hb2
  have hb12 := bthen hb0 hb2
  clear hB0 hb0 hb2
  have hsz := hl.size
  obtain ⟨A, c, rfl, h1, h2, hl⟩ := hl.open_
  by_cases h6 : (partsB 32 s.data.toList).length = 6
  · obtain ⟨a, p, b, x, d, y, hp⟩ := six_of h6
    rw [h6] at hl h1 ⊢
    obtain ⟨g, o, rfl, hD, hr⟩ := SlP.row (n := 6) (c := c) hl (by omega)
    rw [hp] at hr hsz
    have c0 : w2.cell? ⟨g, o, none⟩ = some (.string (bsOf a)) := hr 0 a rfl
    have c1 := hr 1 p rfl
    have c2 := hr 2 b rfl
    have c3 := hr 3 x rfl
    have c4 := hr 4 d rfl
    have c5 := hr 5 y rfl
    have HP := Lib.hid hp
    have HSZ : Hid (∀ l ∈ [a, p, b, x, d, y], (bsOf l).size ≤ 1000000) := fun l hl => by
      have := (parts_len 32 s.data.toList).2 l (by rw [HP.out]; exact hl)
      rw [size_list] at this
      rw [bs_size]; omega
    clear hp hr hsz h6
    generalize hqa : decide (a = wordNet) = qa
    have la : ((bsOf a).toList == [110, 101, 116]) = qa := lit_of qa hqa
    have HQA := Lib.hid hqa
    clear hqa
    cases qa
    · have HF : Hid (firstB s.data.toList = none) := first_bad HP.out (fun h => by have := HQA.out; rw [decide_eq_false_iff_not] at this; exact this h.1)
      obtain ⟨z0, z1, z2, z3⟩ := hB2.c4
      have f0 := hB2.frozen 0
      have f1 := hB2.frozen 1
      have f2 := hB2.frozen 2
      have f3 := hB2.frozen 3
      go_wp2_with fail
      obtain ⟨t0, t1, t2, t3⟩ := (hB2.set4 (.int .i64 0) (.slice none 0 0) (.int .i64 0) (.int .i64 0)).c4
      refine bodyPost_ret (v := .tuple #[netV0 0 0 0, .bool false]) (by simp [results, Tryz.results25, go_sem, t0, t1, t2, t3, netV0]) rfl ?_
      exact ⟨0, 0, 0, false, rfl, by rw [HF.out]; rfl, by unfold Fit; omega, by unfold Fit; omega, by unfold Fit; omega, Below.set4 hb12 (Nat.le_refl _) _ _ _ _⟩
    generalize hqb : decide (b = wordSource) = qb
    have lb : ((bsOf b).toList == [115, 111, 117, 114, 99, 101]) = qb := lit_of qb hqb
    have HQB := Lib.hid hqb
    clear hqb
    cases qb
    · have HF : Hid (firstB s.data.toList = none) := first_bad HP.out (fun h => by have := HQB.out; rw [decide_eq_false_iff_not] at this; exact this h.2.1)
      obtain ⟨z0, z1, z2, z3⟩ := hB2.c4
      have f0 := hB2.frozen 0
      have f1 := hB2.frozen 1
      have f2 := hB2.frozen 2
      have f3 := hB2.frozen 3
      go_wp2_with fail
      obtain ⟨t0, t1, t2, t3⟩ := (hB2.set4 (.int .i64 0) (.slice none 0 0) (.int .i64 0) (.int .i64 0)).c4
      refine bodyPost_ret (v := .tuple #[netV0 0 0 0, .bool false]) (by simp [results, Tryz.results25, go_sem, t0, t1, t2, t3, netV0]) rfl ?_
      exact ⟨0, 0, 0, false, rfl, by rw [HF.out]; rfl, by unfold Fit; omega, by unfold Fit; omega, by unfold Fit; omega, Below.set4 hb12 (Nat.le_refl _) _ _ _ _⟩
    generalize hqd : decide (d = wordSink) = qd
    have ld : ((bsOf d).toList == [115, 105, 110, 107]) = qd := lit_of qd hqd
    have HQD := Lib.hid hqd
    clear hqd
    cases qd
    · have HF : Hid (firstB s.data.toList = none) := first_bad HP.out (fun h => by have := HQD.out; rw [decide_eq_false_iff_not] at this; exact this h.2.2)
      obtain ⟨z0, z1, z2, z3⟩ := hB2.c4
      have f0 := hB2.frozen 0
      have f1 := hB2.frozen 1
      have f2 := hB2.frozen 2
      have f3 := hB2.frozen 3
      go_wp2_with fail
      obtain ⟨t0, t1, t2, t3⟩ := (hB2.set4 (.int .i64 0) (.slice none 0 0) (.int .i64 0) (.int .i64 0)).c4
      refine bodyPost_ret (v := .tuple #[netV0 0 0 0, .bool false]) (by simp [results, Tryz.results25, go_sem, t0, t1, t2, t3, netV0]) rfl ?_
      exact ⟨0, 0, 0, false, rfl, by rw [HF.out]; rfl, by unfold Fit; omega, by unfold Fit; omega, by unfold Fit; omega, Below.set4 hb12 (Nat.le_refl _) _ _ _ _⟩
    have HN := Lib.hid (first_num HP.out (of_decide_eq_true HQA.out) (of_decide_eq_true HQB.out) (of_decide_eq_true HQD.out))
    go_wp2_with fail
    refine (ptNum_ref (bsOf p) _ (HSZ.out p (by simp))).mono ?_
    rintro e w3 ⟨zp, okp, rfl, hnp, hfp, rfl⟩
    have HNP := Lib.hid hnp
    clear hnp
    go_wp2_with fail
    refine (ptNum_ref (bsOf x) _ (HSZ.out x (by simp))).mono ?_
    rintro e w3 ⟨zx, okx, rfl, hnx, hfx, rfl⟩
    have HNX := Lib.hid hnx
    clear hnx
    go_wp2_with fail
    refine (ptNum_ref (bsOf y) _ (HSZ.out y (by simp))).mono ?_
    rintro e w3 ⟨zy, oky, rfl, hny, hfy, rfl⟩
    have HNY := Lib.hid hny
    clear hny c0 c1 c2 c3 c4 c5 la lb ld
    have HFF := Lib.hid (And.intro hfp (And.intro hfx hfy))
    clear hfp hfx hfy
    have HR : Hid (firstB s.data.toList = (if (okp && okx && oky) then some ⟨zp, [], zx, zy⟩ else none)) := by
      show _ = _
      rw [HN.out]
      have e1 := HNP.out
      have e2 := HNX.out
      have e3 := HNY.out
      rw [bs_list] at e1 e2 e3
      rw [e1, e2, e3]
      cases okp <;> cases okx <;> cases oky <;> rfl
    obtain ⟨z0, z1, z2, z3⟩ := hB2.c4
    have f0 := hB2.frozen 0
    have f1 := hB2.frozen 1
    have f2 := hB2.frozen 2
    have f3 := hB2.frozen 3
    cases okp <;> cases okx <;> cases oky
    · go_wp2_with fail
      obtain ⟨t0, t1, t2, t3⟩ := (hB2.set4 (.int .i64 zp) (.slice none 0 0) (.int .i64 zx) (.int .i64 zy)).c4
      refine bodyPost_ret (v := .tuple #[netV0 zp zx zy, .bool false]) (by simp [results, Tryz.results25, go_sem, t0, t1, t2, t3, netV0]) rfl ?_
      exact ⟨zp, zx, zy, false, rfl, HR.out, HFF.out.1, HFF.out.2.1, HFF.out.2.2, Below.set4 hb12 (Nat.le_refl _) _ _ _ _⟩
    · go_wp2_with fail
      obtain ⟨t0, t1, t2, t3⟩ := (hB2.set4 (.int .i64 zp) (.slice none 0 0) (.int .i64 zx) (.int .i64 zy)).c4
      refine bodyPost_ret (v := .tuple #[netV0 zp zx zy, .bool false]) (by simp [results, Tryz.results25, go_sem, t0, t1, t2, t3, netV0]) rfl ?_
      exact ⟨zp, zx, zy, false, rfl, HR.out, HFF.out.1, HFF.out.2.1, HFF.out.2.2, Below.set4 hb12 (Nat.le_refl _) _ _ _ _⟩
    · go_wp2_with fail
      obtain ⟨t0, t1, t2, t3⟩ := (hB2.set4 (.int .i64 zp) (.slice none 0 0) (.int .i64 zx) (.int .i64 zy)).c4
      refine bodyPost_ret (v := .tuple #[netV0 zp zx zy, .bool false]) (by simp [results, Tryz.results25, go_sem, t0, t1, t2, t3, netV0]) rfl ?_
      exact ⟨zp, zx, zy, false, rfl, HR.out, HFF.out.1, HFF.out.2.1, HFF.out.2.2, Below.set4 hb12 (Nat.le_refl _) _ _ _ _⟩
    · go_wp2_with fail
      obtain ⟨t0, t1, t2, t3⟩ := (hB2.set4 (.int .i64 zp) (.slice none 0 0) (.int .i64 zx) (.int .i64 zy)).c4
      refine bodyPost_ret (v := .tuple #[netV0 zp zx zy, .bool false]) (by simp [results, Tryz.results25, go_sem, t0, t1, t2, t3, netV0]) rfl ?_
      exact ⟨zp, zx, zy, false, rfl, HR.out, HFF.out.1, HFF.out.2.1, HFF.out.2.2, Below.set4 hb12 (Nat.le_refl _) _ _ _ _⟩
    · go_wp2_with fail
      obtain ⟨t0, t1, t2, t3⟩ := (hB2.set4 (.int .i64 zp) (.slice none 0 0) (.int .i64 zx) (.int .i64 zy)).c4
      refine bodyPost_ret (v := .tuple #[netV0 zp zx zy, .bool false]) (by simp [results, Tryz.results25, go_sem, t0, t1, t2, t3, netV0]) rfl ?_
      exact ⟨zp, zx, zy, false, rfl, HR.out, HFF.out.1, HFF.out.2.1, HFF.out.2.2, Below.set4 hb12 (Nat.le_refl _) _ _ _ _⟩
    · go_wp2_with fail
      obtain ⟨t0, t1, t2, t3⟩ := (hB2.set4 (.int .i64 zp) (.slice none 0 0) (.int .i64 zx) (.int .i64 zy)).c4
      refine bodyPost_ret (v := .tuple #[netV0 zp zx zy, .bool false]) (by simp [results, Tryz.results25, go_sem, t0, t1, t2, t3, netV0]) rfl ?_
      exact ⟨zp, zx, zy, false, rfl, HR.out, HFF.out.1, HFF.out.2.1, HFF.out.2.2, Below.set4 hb12 (Nat.le_refl _) _ _ _ _⟩
    · go_wp2_with fail
      obtain ⟨t0, t1, t2, t3⟩ := (hB2.set4 (.int .i64 zp) (.slice none 0 0) (.int .i64 zx) (.int .i64 zy)).c4
      refine bodyPost_ret (v := .tuple #[netV0 zp zx zy, .bool false]) (by simp [results, Tryz.results25, go_sem, t0, t1, t2, t3, netV0]) rfl ?_
      exact ⟨zp, zx, zy, false, rfl, HR.out, HFF.out.1, HFF.out.2.1, HFF.out.2.2, Below.set4 hb12 (Nat.le_refl _) _ _ _ _⟩
    · go_wp2_with fail
      obtain ⟨t0, t1, t2, t3⟩ := (hB2.set4 (.int .i64 zp) (.slice none 0 0) (.int .i64 zx) (.int .i64 zy)).c4
      refine bodyPost_ret (v := .tuple #[netV0 zp zx zy, .bool true]) (by simp [results, Tryz.results25, go_sem, t0, t1, t2, t3, netV0]) rfl ?_
      exact ⟨zp, zx, zy, true, rfl, HR.out, HFF.out.1, HFF.out.2.1, HFF.out.2.2, Below.set4 hb12 (Nat.le_refl _) _ _ _ _⟩
  · have HF := Lib.hid (first_len h6)
    have k1 : (((partsB 32 s.data.toList).length : Int) != 6) = true := by rw [bne_iff_ne]; omega
    clear h6
    obtain ⟨z0, z1, z2, z3⟩ := hB2.c4
    have f0 := hB2.frozen 0
    have f1 := hB2.frozen 1
    have f2 := hB2.frozen 2
    have f3 := hB2.frozen 3
    go_wp2_with fail
    obtain ⟨t0, t1, t2, t3⟩ := (hB2.set4 (.int .i64 0) (.slice none 0 0) (.int .i64 0) (.int .i64 0)).c4
    refine bodyPost_ret (v := .tuple #[netV0 0 0 0, .bool false]) (by simp [results, Tryz.results25, go_sem, t0, t1, t2, t3, netV0]) rfl ?_
    exact ⟨0, 0, 0, false, rfl, by rw [HF.out]; rfl, by unfold Fit; omega, by unfold Fit; omega, by unfold Fit; omega, Below.set4 hb12 (Nat.le_refl _) _ _ _ _⟩
end Go.Proofs.YtlkkfkkhllijbaaGreatDoor
