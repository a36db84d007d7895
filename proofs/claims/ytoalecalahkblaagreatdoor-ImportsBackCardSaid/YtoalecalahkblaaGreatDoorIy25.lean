/- Texts of this seat, merged. -/
import Derived.Test.YtoalecalahkblaaGreatDoorIy01
import Derived.Test.YtoalecalahkblaaGreatDoorIy02
import Derived.Test.YtoalecalahkblaaGreatDoorIy03
import Derived.Test.YtoalecalahkblaaGreatDoorIy04
import Derived.Test.YtoalecalahkblaaGreatDoorIy05
import Derived.Test.YtoalecalahkblaaGreatDoorIy06
import Derived.Test.YtoalecalahkblaaGreatDoorIy07
import Derived.Test.YtoalecalahkblaaGreatDoorIy08
import Derived.Test.YtoalecalahkblaaGreatDoorIy09
import Derived.Test.YtoalecalahkblaaGreatDoorIy10
import Derived.Test.YtoalecalahkblaaGreatDoorIy11
import Derived.Test.YtoalecalahkblaaGreatDoorIy12
import Derived.Test.YtoalecalahkblaaGreatDoorIy13
import Derived.Test.YtoalecalahkblaaGreatDoorIy14
import Derived.Test.YtoalecalahkblaaGreatDoorIy15
import Derived.Test.YtoalecalahkblaaGreatDoorIy16
import Derived.Test.YtoalecalahkblaaGreatDoorIy17
import Derived.Test.YtoalecalahkblaaGreatDoorIy18
import Derived.Test.YtoalecalahkblaaGreatDoorIy19
import Derived.Test.YtoalecalahkblaaGreatDoorIy20
import Derived.Test.YtoalecalahkblaaGreatDoorIy21
import Derived.Test.YtoalecalahkblaaGreatDoorIy22
import Derived.Test.YtoalecalahkblaaGreatDoorIy23
import Derived.Test.YtoalecalahkblaaGreatDoorIy24
set_option linter.all false
set_option linter.all false
namespace Go.Proofs.YtoalecalahkblaaGreatDoor
open Go.RowKit
theorem export_err {l : List Ev} {m : Mp} (h : (exportE vtN l m).2 ≠ 0) : (exportE vtN l m).1 = [] := by
  unfold exportE at h ⊢
  by_cases h1 : logB l = false ∨ mapB m = false
  · rw [if_pos h1]
  rw [if_neg h1] at h ⊢
  by_cases h2 : (colsL l).length ≠ m.data.length
  · rw [if_pos h2]
  rw [if_neg h2] at h ⊢
  dsimp only at h ⊢
  by_cases h3 : (rowsX (rowX vtN (colsL l) m (widthX m)) l [headX (colsL l) m (widthX m)]).2 ≠ 0
  · rw [if_pos h3]
  rw [if_neg h3] at h ⊢
  exact write_err h
theorem export_len {l : List Ev} {m : Mp} {x : Bt} {k : Int} (h : exportE vtN l m = (x, k)) : x.length ≤ 16384 := by
  have hw : ∀ (sep : UInt8) (rows : List (List Bt)), (writeE sep rows).1.length ≤ 16384 := fun sep rows => by
    unfold writeE
    by_cases h1 : isSep sep = false ∨ tableB rows = false
    · rw [if_pos h1]; exact Nat.zero_le _
    rw [if_neg h1]
    by_cases h2 : 2001 < rows.length
    · rw [if_pos h2]; exact Nat.zero_le _
    rw [if_neg h2]
    by_cases h3 : 16384 < (tableT sep rows).length
    · rw [if_pos h3]; exact Nat.zero_le _
    rw [if_neg h3]
    simp only
    omega
  unfold exportE at h
  by_cases h1 : logB l = false ∨ mapB m = false
  · rw [if_pos h1] at h; injection h with h _; rw [← h]; exact Nat.zero_le _
  rw [if_neg h1] at h
  by_cases h2 : (colsL l).length ≠ m.data.length
  · rw [if_pos h2] at h; injection h with h _; rw [← h]; exact Nat.zero_le _
  rw [if_neg h2] at h
  dsimp only at h
  by_cases h3 : (rowsX (rowX vtN (colsL l) m (widthX m)) l [headX (colsL l) m (widthX m)]).2 ≠ 0
  · rw [if_pos h3] at h; injection h with h _; rw [← h]; exact Nat.zero_le _
  rw [if_neg h3] at h
  have := hw m.sep (rowsX (rowX vtN (colsL l) m (widthX m)) l [headX (colsL l) m (widthX m)]).1
  rw [h] at this
  exact this
theorem great_len {m : Mp} (hg : greatB m = false) : m.data.length ≤ 1000000 := by
  unfold greatB at hg
  rw [Bool.or_eq_false_iff] at hg
  have := of_decide_eq_false hg.1
  omega
set_option maxHeartbeats 4000000 in
set_option maxRecDepth 100000 in
theorem importsBack_law (l : List Ev) (m : Mp) (u um : Value) (w : World) (h : IsLog (Lt w.heap.size) w u l) (hm : IsMp (Lt w.heap.size) w um m) (ha : AmbP w) :
    Calls Tryz.prog 9 #[u, um] w fun e w' => e = .returned (.bool true) ∧ Below w.heap.size w w' := by
  have HAW := Lib.hid (fun W hW => awake_any W hW)
  have HLOG := Lib.hid h
  have HMP := Lib.hid hm
  have HAM := Lib.hid ha
  have HHV := Lib.hid (fun W hW => heavy_any u l W hW)
  have HGT := Lib.hid (fun W hW => great_any um m W hW)
  have HIM := Lib.hid (fun s W h1 h2 h3 h4 => import_any s um m W h1 h2 h3 h4)
  have HP := Lib.hid (fun W h1 h2 h3 h4 h5 => export_any u um l m W h1 h2 h3 h4 h5)
  obtain ⟨ev, rfl, hs⟩ := h
  obtain ⟨A, cl, rfl, _, _, hs⟩ := hs.open_
  obtain ⟨mv, kv, rfl, _, hmd, hmk⟩ := hm
  obtain ⟨Am, cm, rfl, _, _, hmd⟩ := hmd.open_
  obtain ⟨Ak, ck, rfl, _, _, hmk⟩ := hmk.open_
  unfold mpV at HMP HGT HP HIM ⊢
  obtain ⟨z, hz⟩ : ∃ z, (m.sep.toNat : Int) = z := ⟨_, rfl⟩
  rw [hz] at HMP HGT HP HIM ⊢
  obtain ⟨q1, hq1⟩ : ∃ q, heavyB l = q := ⟨_, rfl⟩
  obtain ⟨q2, hq2⟩ : ∃ q, greatB m = q := ⟨_, rfl⟩
  have HQ1 := Lib.hid hq1
  have HQ2 := Lib.hid hq2
  rw [hq1] at HHV
  rw [hq2] at HGT
  obtain ⟨p, hp⟩ : ∃ p, exportE vtN l m = p := ⟨_, rfl⟩
  rw [hp] at HP
  have HX := Lib.hid hp
  obtain ⟨x, k⟩ := p
  obtain ⟨xs, hxs⟩ : ∃ xs, bsOf x = xs := ⟨_, rfl⟩
  have HXS := Lib.hid hxs
  have HP : Hid (∀ W, IsLog (Lt W.heap.size) W (.agg #[.slice A l.length cl]) l → IsMp (Lt W.heap.size) W (.agg #[.int .i64 m.cas, .int .i64 m.act, .int .i64 m.res, .int .i64 m.life, .int .i64 m.time, .slice Am m.data.length cm, .slice Ak m.kinds.length ck, .int .u8 z]) m → heavyB l = false → greatB m = false → AmbP W → Calls Tryz.prog 34 #[.agg #[.slice A l.length cl], .agg #[.int .i64 m.cas, .int .i64 m.act, .int .i64 m.res, .int .i64 m.life, .int .i64 m.time, .slice Am m.data.length cm, .slice Ak m.kinds.length ck, .int .u8 z]] W fun e w' => e = .returned (.tuple #[.string xs, .int .i64 k]) ∧ Below W.heap.size W w') := by
    show ∀ W, _
    rw [← hxs]
    exact HP.out
  have hb1 := bone w (.cells #[.slice A l.length cl] 38)
  have k1 := Blk.new w 38 #[.slice A l.length cl]
  clear hs hmd hmk hz hp hq1 hq2 hxs ha
  go_enter Tryz.func9, Tryz.ntmps9
  go_upto_region 1 with fail
  obtain ⟨w1, hw1⟩ : ∃ w1, w.alloc (.cells #[.slice A l.length cl] 38) = w1 := ⟨_, rfl⟩
  have z1 : w1.heap.size = w.heap.size + 1 := by rw [← hw1]; simp
  rw [hw1] at hb1 k1 ⊢
  clear hw1
  have hb2 := bone w1 (.cells #[.int .i64 m.cas, .int .i64 m.act, .int .i64 m.res, .int .i64 m.life, .int .i64 m.time, .slice Am m.data.length cm, .slice Ak m.kinds.length ck, .int .u8 z] 33)
  have k2 := Blk.new w1 33 #[.int .i64 m.cas, .int .i64 m.act, .int .i64 m.res, .int .i64 m.life, .int .i64 m.time, .slice Am m.data.length cm, .slice Ak m.kinds.length ck, .int .u8 z]
  have k1 := k1.now hb2
  have HB := Lib.hid (bthen hb1 hb2)
  obtain ⟨w2, hw2⟩ : ∃ w2, w1.alloc (.cells #[.int .i64 m.cas, .int .i64 m.act, .int .i64 m.res, .int .i64 m.life, .int .i64 m.time, .slice Am m.data.length cm, .slice Ak m.kinds.length ck, .int .u8 z] 33) = w2 := ⟨_, rfl⟩
  rw [hw2] at HB k1 k2 ⊢
  rw [z1] at k2
  have HK1 := Lib.hid k1
  have HK2 := Lib.hid k2
  have HA2 := Lib.hid (HAW.out w2 (HAM.out.now HB.out))
  clear hw2 z1 hb1 hb2 k1 k2
  go_wp2_with fail
  (with_reducible refine HA2.out.mono ?_)
  rintro _ w3 ⟨rfl, hb3⟩
  have HB3 := Lib.hid (bthen HB.out hb3)
  have a0 := (HK1.out.now hb3).c1
  have HV3 := Lib.hid (HHV.out w3 (HLOG.out.now (bthen HB.out hb3)))
  have HK3 := Lib.hid (HK2.out.now hb3)
  have HL3 := Lib.hid (HK1.out.now hb3)
  clear hb3 HA2
  go_wp2_with fail
  (with_reducible refine HV3.out.mono ?_)
  rintro _ w4 ⟨rfl, hb4⟩
  have HB4 := Lib.hid (bthen HB3.out hb4)
  have HK4 := Lib.hid (HK3.out.now hb4)
  have HL4 := Lib.hid (HL3.out.now hb4)
  have HG4 := Lib.hid (HGT.out w4 (HMP.out.now HB4.out))
  clear hb4 HV3 HB3 a0 HK3 HL3
  obtain ⟨c0, c1, c2, c3, c4, c5, c6, c7⟩ := HK4.out.c8m
  have a0 := HL4.out.c1
  cases q1 with
  | true =>
    go_wp2_with fail
    go_ret
    exact ⟨rfl, HB4.out⟩
  | false =>
    go_wp2_with fail
    (with_reducible refine HG4.out.mono ?_)
    rintro _ w5 ⟨rfl, hb5⟩
    have HB5 := Lib.hid (bthen HB4.out hb5)
    have HK5 := Lib.hid (HK4.out.now hb5)
    have HL5 := Lib.hid (HL4.out.now hb5)
    clear hb5 HG4 HB4 c0 c1 c2 c3 c4 c5 c6 c7 a0 HK4 HL4
    obtain ⟨c0, c1, c2, c3, c4, c5, c6, c7⟩ := HK5.out.c8m
    have a0 := HL5.out.c1
    cases q2 with
    | true =>
      go_wp2_with fail
      go_ret
      exact ⟨rfl, HB5.out⟩
    | false =>
      have HP5 := Lib.hid (HP.out w5 (HLOG.out.now HB5.out) (HMP.out.now HB5.out) HQ1.out HQ2.out (HAM.out.now HB5.out))
      go_wp2_with fail
      (with_reducible refine HP5.out.mono ?_)
      rintro _ w6 ⟨rfl, hb6⟩
      have HB6 := Lib.hid (bthen HB5.out hb6)
      have HK6 := Lib.hid (HK5.out.now hb6)
      have HL6 := Lib.hid (HL5.out.now hb6)
      clear hb6 HP5 HB5 c0 c1 c2 c3 c4 c5 c6 c7 a0 HK5 HL5
      obtain ⟨c0, c1, c2, c3, c4, c5, c6, c7⟩ := HK6.out.c8m
      have a0 := HL6.out.c1
      by_cases hk0 : k = 0
      · subst hk0
        have hbk := back_same HX.out
        have hxl := export_len HX.out
        have hxd : xs.data.toList = x := by rw [← HXS.out]; exact bs_list x
        have hxz : xs.size ≤ 9223372036854775807 := by rw [← HXS.out, bs_size]; omega
        have hmd8 : m.data.length ≤ 1000000 := great_len HQ2.out
        have HI6 : Hid (Calls Tryz.prog 16 #[.string xs, .agg #[.int .i64 m.cas, .int .i64 m.act, .int .i64 m.res, .int .i64 m.life, .int .i64 m.time, .slice Am m.data.length cm, .slice Ak m.kinds.length ck, .int .u8 z]] w6 (RetImp (l, (0, 0), 0) w6)) := Lib.hid (by
          have := HIM.out xs w6 hxz (HMP.out.now HB6.out) hmd8 (HAM.out.now HB6.out)
          rwa [hxd, hbk] at this)
        clear hbk hxl hxd hxz hmd8 HIM HP HX HXS
        go_wp2_with fail
        (with_reducible refine HI6.out.mono ?_)
        rintro _ w7 ⟨lv, rfl, hs7, hb7⟩
        obtain ⟨A7, c7', rfl, _, _, hs7⟩ := hs7.open_
        have HS7 := Lib.hid hs7
        have HB7 := Lib.hid (bthen HB6.out hb7)
        have HL7 := Lib.hid (HL6.out.now hb7)
        clear hb7 hs7 HB6 c0 c1 c2 c3 c4 c5 c6 c7 a0 HK6 HL6 HI6
        go_upto_region 9 with fail
        have hg1 := Blk.new w7 38 #[.slice A7 l.length c7']
        have hb3a := bone w7 (.cells #[.slice A7 l.length c7'] 38)
        have hb3b := bone (w7.alloc (.cells #[.slice A7 l.length c7'] 38)) (.cells #[.int .i64 0, .int .i64 0] 40)
        have hp1 := Blk.new (w7.alloc (.cells #[.slice A7 l.length c7'] 38)) 40 #[.int .i64 0, .int .i64 0]
        have hs1 : (w7.alloc (.cells #[.slice A7 l.length c7'] 38)).heap.size = w7.heap.size + 1 := by simp
        rw [hs1] at hp1
        have HG8 := Lib.hid (hg1.now hb3b)
        have HB78 := Lib.hid (bthen hb3a hb3b)
        obtain ⟨w8, hw8⟩ : ∃ w8, (w7.alloc (.cells #[.slice A7 l.length c7'] 38)).alloc (.cells #[.int .i64 0, .int .i64 0] 40) = w8 := ⟨_, rfl⟩
        rw [hw8] at HG8 HB78 hp1 ⊢
        have HP8 := Lib.hid hp1
        clear hg1 hb3a hb3b hw8 hp1 hs1
        have HB8 := Lib.hid (bthen HB7.out HB78.out)
        have HL8 := Lib.hid (HL7.out.now HB78.out)
        have HSA := Lib.hid (logSame_ref l _ _ w8 ⟨_, rfl, SlEv.now HS7.out HB78.out⟩ (HLOG.out.now HB8.out))
        obtain ⟨p0, p1⟩ := HP8.out.c2
        have a0 := HL8.out.c1
        have a1 := HG8.out.c1
        go_wp2_with fail
        (with_reducible refine HSA.out.mono ?_)
        rintro _ w9 ⟨rfl, hb9⟩
        have HB9 := Lib.hid (bthen HB8.out hb9)
        clear hb9
        go_wp2_with fail
        go_ret
        exact ⟨rfl, HB9.out⟩
      · have he : x = [] := by have := export_err (l := l) (m := m) (by rw [HX.out]; exact hk0); rw [HX.out] at this; exact this
        have hbe : xs = ⟨#[]⟩ := by rw [← HXS.out, he]; rfl
        subst hbe
        have e1 : (k != 0) = true := by simpa using hk0
        clear he hk0
        go_wp2_with fail
        go_ret
        exact ⟨rfl, HB6.out⟩
end Go.Proofs.YtoalecalahkblaaGreatDoor
