/- privacy.Loss, where nothing is won. -/
import Derived.Test.YtilmdlkfmkbfmaaPvBeg
set_option linter.all false
namespace Go.Proofs.Ytilmdlkfmkbfmaa
open Go.RowKit Go.Maps Go.WideMaps

theorem allp_short {l : List Vr} (h : ∀ x ∈ l, x.acts.length ≤ 200) {u : Wd} (hp : Pos (allp l)) (hu : 0 < cnt (allp l) u) : u.length ≤ 200 := by
  obtain ⟨x, hx, rfl⟩ := (cnt_pos hp).1 hu
  obtain ⟨y, hy, hxy⟩ := List.mem_flatMap.1 hx
  obtain ⟨j, rfl⟩ := presTo_mem hxy
  have := h y hy
  show (y.acts.take j).length ≤ 200
  rw [List.length_take]; omega
set_option maxHeartbeats 4000000 in
set_option maxRecDepth 100000 in
theorem loss_any (u v : Value) (l m : List Vr) (w : World) (hu : SlVr (Lt w.heap.size) w u l) (hv : SlVr (Lt w.heap.size) w v m) (hl : rightB l = true) (hm : rightB m = true) (hd : ∀ p, cnt (allp m) p ≤ cnt (allp l) p) :
    Calls Try.prog 11 #[u, v] w fun e w' => e = .returned (.tuple #[.int .i64 (totW lenW l - totW lenW m), .int .i64 0]) ∧ Below w.heap.size w w' := by
  have HOL := Lib.hid (right_ok hl)
  have HOM := Lib.hid (right_ok hm)
  have hll := HOL.out.len
  have hlm := HOM.out.len
  have HU := Lib.hid (fun W (hW : Below w.heap.size w W) => hu.now hW)
  have HV := Lib.hid (fun W (hW : Below w.heap.size w W) => hv.now hW)
  have HVA := Lib.hid (fun W (hW : Below w.heap.size w W) => variants_any u l W (hu.now hW) (by omega))
  have HPA := Lib.hid (fun W (hW : Below w.heap.size w W) => published_any v m W (hv.now hW) (by omega))
  have HVD := Lib.hid (fun W (hW : Below w.heap.size w W) => pvValid_any v m W (hv.now hW) (by omega))
  rw [hm] at HVD
  have HRT := Lib.hid (fun x W (h : SlVr (Lt W.heap.size) W x l) => right_any x l W h)
  rw [hl] at HRT
  have HBG := Lib.hid (fun x (y : List Vr) W h hok => beginnings_any x y W h hok)
  have HDM := Lib.hid hd
  have hel := evs_le l (fun y hy => by have := HOL.out.each y hy; exact ⟨this.1, this.2.1, this.2.2.1⟩)
  have hem := evs_le m (fun y hy => by have := HOM.out.each y hy; exact ⟨this.1, this.2.1, this.2.2.1⟩)
  have HWR : Hid (IntKind.i64.wrap (totW lenW l - totW lenW m) = totW lenW l - totW lenW m) := Lib.hid (i64wrap (by omega))
  obtain ⟨A, c, rfl, _, _, _⟩ := hu.open_
  obtain ⟨A2, c2, rfl, _, _, _⟩ := hv.open_
  clear hu hv hl hm hd hel hem hll hlm
  go_enter Try.func11, Try.ntmps11
  go_wp2_with fail
  (with_reducible refine (HVA.out w (Below.refl _ _)).mono ?_)
  rintro e w1 ⟨v1, rfl, hO1, hb1⟩
  have HR1 := Lib.hid (HRT.out _ _ (hO1.ownSl hb1))
  obtain ⟨A3, c3, rfl⟩ := hO1.isSlice
  clear hO1
  go_wp2_with fail
  (with_reducible refine HR1.out.mono ?_)
  rintro e w2 ⟨rfl, hb2⟩
  have hb02 := hb1.trans (hb2.mono hb1.size)
  clear hb1 hb2 HR1
  go_wp2_with fail
  (with_reducible refine (HVD.out w2 hb02).mono ?_)
  rintro e w3 ⟨rfl, hb3⟩
  have hb03 := hb02.trans (hb3.mono hb02.size)
  clear hb02 hb3
  go_wp2_with fail
  (with_reducible refine (HVA.out w3 hb03).mono ?_)
  rintro e w4 ⟨v4, rfl, hO4, hb4⟩
  have HB4 := Lib.hid (HBG.out _ _ _ (hO4.ownSl hb4) HOL.out)
  have hb04 := hb03.trans (hb4.mono hb03.size)
  obtain ⟨A5, c5, rfl⟩ := hO4.isSlice
  clear hO4 hb03 hb4
  go_wp2_with fail
  (with_reducible refine HB4.out.mono ?_)
  rintro e w5 ⟨b1, n1, rfl, hm5, hb5⟩
  have hb05 := hb04.trans (hb5.mono hb04.size)
  clear HB4 hb04 hb5
  go_wp2_with fail
  (with_reducible refine (HPA.out w5 hb05).mono ?_)
  rintro e w6 ⟨v6, rfl, hO6, hb6⟩
  have HB6 := Lib.hid (HBG.out _ _ _ (hO6.ownSl hb6) HOM.out)
  have hb06 := hb05.trans (hb6.mono hb05.size)
  have hm6 := hm5.now hb6
  obtain ⟨A7, c7, rfl⟩ := hO6.isSlice
  clear hO6 hb6 hm5 hb05
  go_wp2_with fail
  (with_reducible refine HB6.out.mono ?_)
  rintro e w7 ⟨b2, n2, rfl, hm7, hb7⟩
  have hb07 := hb06.trans (hb7.mono hb06.size)
  have HM1 := Lib.hid (hm6.now hb7)
  have HB07 := Lib.hid hb07
  obtain ⟨D, hown, hism, hkeys, hvals⟩ := hm7
  have HKEY := Lib.hid (And.intro hkeys hvals)
  clear HB6 hb06 hm6 hb7 hb07 hism hkeys hvals
  have HZ := HWR
  obtain ⟨zl, hzl⟩ : ∃ zl, totW lenW l = zl := ⟨_, rfl⟩
  obtain ⟨zm, hzm⟩ : ∃ zm, totW lenW m = zm := ⟨_, rfl⟩
  rw [hzl, hzm] at HZ ⊢
  have HZL := Lib.hid (And.intro hzl hzm)
  clear hzl hzm HWR
  go_wp2_with (at_range; refine wpList_range_own _ rfl _ 70 rfl 9 3 (string_keyed Try.underlying9) Try.underlying70 RH b2 n2 D rfl hown ?_; intro w8 hrg0 hg0 hs0)
  go_frame
  have hb78 := below_of_grown hg0 (Nat.le_refl _) (fun _ e => by cases e)
  have HM8 := Lib.hid (HM1.out.now hb78)
  have HB8 := Lib.hid (HB07.out.trans (hb78.mono HB07.out.size))
  have HRG0 := Lib.hid hrg0
  have HSR : Hid (w.heap.size ≤ w7.heap.size) := Lib.hid HB07.out.size
  obtain ⟨r, hr⟩ : ∃ r, w7.heap.size = r := ⟨_, rfl⟩
  rw [hr] at HRG0 HSR ⊢
  clear hb78 hrg0 hg0 hs0 hr hown HM1 HB07
  go_loopw [4] (fun zv wr => ∃ (left : Lit → Bool) (ct : Nat), zv = .int .i64 0 ∧ Hid (wr.ranges Try.prog 9 RH b2 r n2 D left ct) ∧ Hid (MapI wr b1 n1 (allp l)) ∧ Hid (Below w.heap.size w wr)) (fun _ wr => wr.rangeLeft b2 r)
  case atStart => exact ⟨_, _, rfl, HRG0, HM8, HB8⟩
  case round =>
    obtain ⟨left, ct, rfl, HRG, HM, HB⟩ := hrel
    have hrg := HRG.out
    go_wp2_with (at_next; refine wpList_next_ranges _ rfl _ rfl 9 (string_keyed Try.underlying9) RH encStr (fun v : Value => v) (fun key kl hk => by obtain ⟨x, hx, _⟩ := Maps.keyOf_str Try.underlying9 hk; exact ⟨x, hx⟩) (fun v y _ => ⟨v, rfl⟩) b2 r n2 _ _ _ rfl hrg ?_ ?_)
    · intro hc0 hl0
      have hz := HZ.out
      clear hrg hl0
      go_wp2_with fail
      go_ret2
      exact ⟨by rw [HZL.out.1, HZL.out.2]; rfl, HB.out⟩
    · intro x cv kl yd yp w9 ct2 hkey hlk hv hat hrg2 hlt2 hg2 hs2 hen
      obtain ⟨x', ex, rfl, _⟩ := Maps.keyOf_str Try.underlying9 hkey
      obtain rfl : x = x' := encStr_inj ex
      obtain ⟨q, hq, rfl⟩ := (HKEY.out.1 x).1 (has_true_of_atKey hat)
      have hcv : cv = .int .i64 (cnt (allp m) q) := by
        have hv' : DataW.held cv = yd := congrArg Prod.fst (Option.some.inj hv)
        have e1 := hat (.held cv)
        rw [HKEY.out.2 q hq, ← hv'] at e1
        exact (DataW.held.inj e1).symm
      subst hcv
      have hpm := PreOk.allp m (fun y hy => (HOM.out.each y hy).2)
      have hpl := PreOk.allp l (fun y hy => (HOL.out.each y hy).2)
      have hnq := namesIn_of hpm.pos hpm.names q hq
      have hql := allp_short (fun y hy => (HOM.out.each y hy).1) hpm.pos hq
      have hm9 : MapI w9 b1 n1 (allp l) := HM.out.keep (hg2.block b1 HM.out.lt (fun e => by
        injection e with e
        obtain ⟨mm, ss, ee, cc, hit⟩ := ranges_iter HRG.out
        obtain ⟨_, ⟨es, cl, k1, _⟩, _⟩ := HM.out
        rw [e, hit] at k1; cases k1))
      have hlook := hm9.look hpl hnq (by omega)
      have henc : encStr (keyB q) = .string (keyS q) := rfl
      rw [henc] at hen ⊢
      have hle := HDM.out q
      have HRG2 := Lib.hid hrg2
      have HM9 := Lib.hid hm9
      have HB9 := Lib.hid (HB.out.trans (below_of_grown hg2 HB.out.size (fun g e => by injection e with e; have := HSR.out; omega)))
      obtain ⟨y1, hy1⟩ : ∃ y1, cnt (allp m) q = y1 := ⟨_, rfl⟩
      obtain ⟨y2, hy2⟩ : ∃ y2, cnt (allp l) q = y2 := ⟨_, rfl⟩
      rw [hy1] at hle hen ⊢
      rw [hy2] at hle hlook
      have hge : ¬ y2 < y1 := by omega
      have HLT := Lib.hid hlt2
      clear hkey ex hlk hv hat hrg2 hlt2 hg2 hs2 hq hpm hpl hnq hql hm9 hle hy1 hy2 hrg henc
      go_wp2_with fail
      go_roundw
      case rel => exact ⟨_, ct2, rfl, HRG2, HM9, HB9⟩
      case measure => rw [HRG2.out.left_eq, HRG.out.left_eq]; exact HLT.out
end Go.Proofs.Ytilmdlkfmkbfmaa
