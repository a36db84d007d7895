/- Texts of this seat, merged. -/
import Derived.StillTailTactics
import Derived.RegionTactic
import Derived.Deep.CutRange
import Derived.Deep.CutBlock
import Derived.Lib.ItoaNum
import Derived.Lib.ItoaMem
import Derived.Lib.AtoiTie
import Derived.Test.YtijmnenojbfdnaaGreatDoorEq01
import Derived.Test.YtijmnenojbfdnaaGreatDoorEq02
import Derived.Test.YtijmnenojbfdnaaGreatDoorEq10
import Derived.Test.YtijmnenojbfdnaaGreatDoorEq15
set_option linter.unusedSimpArgs false
set_option linter.unusedVariables false
namespace Go.Proofs.YtijmnenojbfdnaaGreatDoor
open Go.RowKit
theorem Blk.set5' {w : World} {g : Nat} {t : TypeId} {a b c d e : Value} (h : Blk w g t #[a, b, c, d, e]) (a' b' c' d' e' : Value) : Blk (((((w.setCell ⟨g, 0, none⟩ a').setCell ⟨g, 1, none⟩ b').setCell ⟨g, 2, none⟩ c').setCell ⟨g, 3, none⟩ d').setCell ⟨g, 4, none⟩ e') g t #[a', b', c', d', e'] :=
  ((((h.set_ 0 a').set_ 1 b').set_ 2 c').set_ 3 d').set_ 4 e'
theorem lexBytes {w w2 : World} {e : TypeId} (h : w2 = w ∨ ∃ t, w2 = Lib.bytesWorld w e t) : Below w.heap.size w w2 := by
  rcases h with rfl | ⟨t, rfl⟩
  · exact Below.refl _ _
  · exact Lib.bytesWorld_below _ _ _
theorem bset5' {w w1 : World} {B g : Nat} (h : Below B w w1) (hg : B ≤ g) (a b c d e : Value) : Below B w (((((w1.setCell ⟨g, 0, none⟩ a).setCell ⟨g, 1, none⟩ b).setCell ⟨g, 2, none⟩ c).setCell ⟨g, 3, none⟩ d).setCell ⟨g, 4, none⟩ e) :=
  ((((h.setCell (p := ⟨g, 0, none⟩) hg a).setCell (p := ⟨g, 1, none⟩) hg b).setCell (p := ⟨g, 2, none⟩) hg c).setCell (p := ⟨g, 3, none⟩) hg d).setCell (p := ⟨g, 4, none⟩) hg e
set_option maxHeartbeats 8000000 in
set_option maxRecDepth 100000 in
theorem next_any (g : Nat) (s : ByteArray) (col : Int) (w : World) (hs : s.size ≤ 16384) (k n : Int) (t : ByteArray) (len : Nat) (hx : nextB s = some (k, t, n, len)) (h : IsRd w g s col) :
    Calls Tryz.prog 117 #[.pointer (some ⟨g, 0, none⟩)] w fun e w' => e = .returned (.tuple #[.agg #[.int .i64 k, .string t, .int .i64 n, .int .i64 1, .int .i64 col], .int .i64 (len : Int), .int .i64 0]) ∧ Below w.heap.size w w' := by
  have hb1 := bbox (bone w (.cells #[.int .i64 0, .string ⟨#[]⟩, .int .i64 0, .int .i64 0, .int .i64 0] 117)) (.cells #[.int .i64 0, .string ⟨#[]⟩, .int .i64 0, .int .i64 1, .int .i64 col] 117)
  have hR1 := (Blk.new w 117 #[.int .i64 0, .string ⟨#[]⟩, .int .i64 0, .int .i64 0, .int .i64 0]).alloc (.cells #[.int .i64 0, .string ⟨#[]⟩, .int .i64 0, .int .i64 1, .int .i64 col] 117)
  have hT1 := Blk.new_at (t := 117) (cs := #[.int .i64 0, .string ⟨#[]⟩, .int .i64 0, .int .i64 1, .int .i64 col]) (w := w.alloc (.cells #[.int .i64 0, .string ⟨#[]⟩, .int .i64 0, .int .i64 0, .int .i64 0] 117)) (s := w.heap.size + 1) (World.size_alloc _ _)
  have h' : Blk w g 152 #[.string s, .int .i64 1, .int .i64 col] := h
  obtain ⟨c0, c1, c2⟩ := h'.c3
  have hg := h'.lt
  have hr1 := h'.now hb1
  have hsz1 : ((w.alloc (.cells #[.int .i64 0, .string ⟨#[]⟩, .int .i64 0, .int .i64 0, .int .i64 0] 117)).alloc (.cells #[.int .i64 0, .string ⟨#[]⟩, .int .i64 0, .int .i64 1, .int .i64 col] 117)).heap.size = w.heap.size + 2 := by rw [World.size_alloc, World.size_alloc]
  go_enter Tryz.func117, Tryz.ntmps117
  go_upto_region 2 with fail
  generalize hw1 : ((w.alloc (.cells #[.int .i64 0, .string ⟨#[]⟩, .int .i64 0, .int .i64 0, .int .i64 0] 117)).alloc (.cells #[.int .i64 0, .string ⟨#[]⟩, .int .i64 0, .int .i64 1, .int .i64 col] 117)) = w1 at *
  clear hw1 c0 c1 c2 h h'
  have HSZ1 := Lib.hid hsz1
  clear hsz1
  obtain ⟨c0, c1, c2⟩ := hr1.c3
  cases hd : s.data.toList with
  | nil =>
    unfold nextB at hx
    rw [hd] at hx
    injection hx with hx
    injection hx with x1 hx
    injection hx with x2 hx
    injection hx with x3 x4
    subst x1 x2 x3 x4
    have e0 : s.toList = [] := by rw [lexEmpty, hd]
    have e1 : s.toList.isEmpty = true := by rw [e0]; rfl
    clear hd
    obtain ⟨t0, t1, t2, t3, t4⟩ := hT1.c5
    have ft0 := hT1.frozen 0
    have ft1 := hT1.frozen 1
    have ft2 := hT1.frozen 2
    go_upto_region 4 with fail
    have hT2 : Blk (w1.setCell ⟨w.heap.size + 1, 0, none⟩ (.int .i64 5)) (w.heap.size + 1) 117 #[.int .i64 5, .string ⟨#[]⟩, .int .i64 0, .int .i64 1, .int .i64 col] := (hT1.set_ 0 (.int .i64 5))
    have hR2 := (hR1.far (p := ⟨w.heap.size + 1, 0, none⟩) (show w.heap.size ≠ w.heap.size + 1 by omega) (.int .i64 5))
    have hb2 := (hb1.setCell (p := ⟨w.heap.size + 1, 0, none⟩) (show w.heap.size ≤ w.heap.size + 1 by omega) (.int .i64 5))
    generalize hw2 : (w1.setCell ⟨w.heap.size + 1, 0, none⟩ (.int .i64 5)) = w2 at *
    clear hw2 t0 t1 t2 t3 t4 ft0 ft1 ft2 hT1 hR1 hb1
    obtain ⟨t0, t1, t2, t3, t4⟩ := hT2.c5
    obtain ⟨z0, z1, z2, z3, z4⟩ := hR2.c5
    have fr0 := hR2.frozen 0
    have fr1 := hR2.frozen 1
    have fr2 := hR2.frozen 2
    have fr3 := hR2.frozen 3
    have fr4 := hR2.frozen 4
    go_wp2_with fail
    obtain ⟨r0, r1, r2, r3, r4⟩ := (hR2.set5' (.int .i64 5) (.string ⟨#[]⟩) (.int .i64 0) (.int .i64 1) (.int .i64 col)).c5
    refine bodyPost_ret (v := .tuple #[.agg #[.int .i64 5, .string ⟨#[]⟩, .int .i64 0, .int .i64 1, .int .i64 col], .int .i64 0, .int .i64 0]) (by simp [results, Tryz.results117, go_sem, r0, r1, r2, r3, r4]) rfl ?_
    exact ⟨rfl, bset5' hb2 (Nat.le_refl _) _ _ _ _ _⟩
  | cons c l =>
    have e0 : ¬ s.toList = [] := by rw [lexEmpty, hd]; simp
    have e1 : s.toList.isEmpty = false := by rw [lexEmpty, hd]; rfl
    obtain ⟨h0, hc0⟩ := lexHead hd
    have i0 : (0 : Int) < (s.size : Int) := by omega
    have HD := Lib.hid hd
    unfold nextB at hx
    rw [hd] at hx
    dsimp only at hx
    clear hd
    cases hl : letB c with
    | true =>
      rw [hl, if_pos rfl] at hx
      obtain ⟨ln, hln⟩ : ∃ ln, lenP wordC (c :: l) = ln := ⟨_, rfl⟩
      rw [hln] at hx
      by_cases hl40 : ln ≤ 40
      rotate_left
      · rw [if_neg hl40] at hx; cases hx
      rw [if_pos hl40] at hx
      injection hx with hx
      injection hx with x1 hx
      injection hx with x2 hx
      injection hx with x3 x4
      subst x1 x2 x3 x4
      have hls : ln ≤ s.size := by have := lenP_le wordC (c :: l); rw [hln, ← HD.out, lexSize] at this; exact this
      have eg : ∀ args w, (callFunc 160 args).run Tryz.prog w = .ok (.enter 160 args) w := enters_of Tryz.func160 (by kernel_rfl) rfl
      have HLEN := Lib.hid (length_any 160 eg wordC tokWord_any s w1 (by omega))
      rw [HD.out, hln] at HLEN
      have HC := Lib.hid (tokLetter_any c w1)
      rw [hl] at HC
      clear hl hln eg
      have i1 : (0 : Int) ≤ (ln : Int) := by omega
      have i2 : (ln : Int) ≤ (s.size : Int) := by omega
      have i3 : ¬ (40 : Int) < (ln : Int) := by omega
      go_wp2_with fail
      refine HC.out.mono ?_
      rintro e w2 ⟨rfl, rfl⟩
      go_wp2_with fail
      refine HLEN.out.mono ?_
      rintro e w2 ⟨rfl, rfl⟩
      obtain ⟨t0, t1, t2, t3, t4⟩ := hT1.c5
      have ft0 := hT1.frozen 0
      have ft1 := hT1.frozen 1
      have ft2 := hT1.frozen 2
      go_upto_region 10 with fail
      go_region
      go_upto_region 11 with fail
      have hT2 : Blk ((w1.setCell ⟨w.heap.size + 1, 0, none⟩ (.int .i64 1)).setCell ⟨w.heap.size + 1, 1, none⟩ (.string (s.extract 0 ln))).drew (w.heap.size + 1) 117 #[.int .i64 1, .string (s.extract 0 ln), .int .i64 0, .int .i64 1, .int .i64 col] := ((hT1.set_ 0 (.int .i64 1)).set_ 1 (.string (s.extract 0 ln))).drew
      have hR2 := ((hR1.far (p := ⟨w.heap.size + 1, 0, none⟩) (show w.heap.size ≠ w.heap.size + 1 by omega) (.int .i64 1)).far (p := ⟨w.heap.size + 1, 1, none⟩) (show w.heap.size ≠ w.heap.size + 1 by omega) (.string (s.extract 0 ln))).drew
      have hb2 := ((hb1.setCell (p := ⟨w.heap.size + 1, 0, none⟩) (show w.heap.size ≤ w.heap.size + 1 by omega) (.int .i64 1)).setCell (p := ⟨w.heap.size + 1, 1, none⟩) (show w.heap.size ≤ w.heap.size + 1 by omega) (.string (s.extract 0 ln))).drew
      generalize hw2 : ((w1.setCell ⟨w.heap.size + 1, 0, none⟩ (.int .i64 1)).setCell ⟨w.heap.size + 1, 1, none⟩ (.string (s.extract 0 ln))).drew = w2 at *
      clear hw2 t0 t1 t2 t3 t4 ft0 ft1 ft2 hT1 hR1 hb1
      obtain ⟨t0, t1, t2, t3, t4⟩ := hT2.c5
      obtain ⟨z0, z1, z2, z3, z4⟩ := hR2.c5
      have fr0 := hR2.frozen 0
      have fr1 := hR2.frozen 1
      have fr2 := hR2.frozen 2
      have fr3 := hR2.frozen 3
      have fr4 := hR2.frozen 4
      go_wp2_with fail
      obtain ⟨r0, r1, r2, r3, r4⟩ := (hR2.set5' (.int .i64 1) (.string (s.extract 0 ln)) (.int .i64 0) (.int .i64 1) (.int .i64 col)).c5
      refine bodyPost_ret (v := .tuple #[.agg #[.int .i64 1, .string (s.extract 0 ln), .int .i64 0, .int .i64 1, .int .i64 col], .int .i64 (ln : Int), .int .i64 0]) (by simp [results, Tryz.results117, go_sem, r0, r1, r2, r3, r4]) rfl ?_
      exact ⟨rfl, bset5' hb2 (Nat.le_refl _) _ _ _ _ _⟩
    | false =>
      rw [hl, if_neg (by simp)] at hx
      cases hdg : digB c with
      | true =>
        rw [hdg, if_pos rfl] at hx
        obtain ⟨dn, hdn⟩ : ∃ dn, lenP digB (c :: l) = dn := ⟨_, rfl⟩
        rw [hdn] at hx
        have hdl : dn ≤ s.size := by have := lenP_le digB (c :: l); rw [hdn, ← HD.out, lexSize] at this; exact this
        obtain ⟨hmap, hnext⟩ : (digV ((c :: l).take dn)).map (fun v => ((2 : Int), (⟨#[]⟩ : ByteArray), v, dn)) = some (k, t, n, len) ∧ (∀ h : dn < s.size, letB s[dn] = false ∧ (s[dn] == 95) = false) := by
          by_cases he : dn = s.size
          · rw [if_pos he] at hx
            exact ⟨hx, fun h => by omega⟩
          · rw [if_neg he] at hx
            have hlt : dn < s.size := by omega
            have h1 := lexDrop hlt
            rw [HD.out] at h1
            by_cases hq : badNext ((c :: l).drop dn) = true
            · rw [if_pos hq] at hx; cases hx
            · rw [if_neg hq] at hx
              rw [h1] at hq
              have hq : ¬ (letB s[dn] || s[dn] == 95) = true := hq
              rw [Bool.not_eq_true, Bool.or_eq_false_iff] at hq
              exact ⟨hx, fun _ => hq⟩
        obtain ⟨v, hv, hx2⟩ := Option.map_eq_some_iff.1 hmap
        injection hx2 with x1 hx2
        injection hx2 with x2 hx2
        injection hx2 with x3 x4
        subst x1 x2 x3 x4
        obtain ⟨hat, hv0, hv4⟩ := digV_ok hv
        have eg : ∀ args w, (callFunc 161 args).run Tryz.prog w = .ok (.enter 161 args) w := enters_of Tryz.func161 (by kernel_rfl) rfl
        have HLEN := Lib.hid (length_any 161 eg digB tokDigit_any s w1 (by omega))
        rw [HD.out, hdn] at HLEN
        have HC := Lib.hid (tokLetter_any c w1)
        rw [hl] at HC
        have HC2 := Lib.hid (tokDigit_any c w1)
        rw [hdg] at HC2
        have HNX := Lib.hid hnext
        have hsl : (s.extract 0 dn).data.toList = (c :: l).take dn := by rw [lexExt, HD.out]; rfl
        have hss : (s.extract 0 dn).size ≤ 16384 := by rw [ByteArray.size_extract]; omega
        have HAT := Lib.hid (Tryz.strconv_Atoi_ok (s.extract 0 dn) (by omega) v (by rw [hsl]; exact hat) w1)
        clear hl hdn eg hdg hx hmap hv hat hsl hnext
        have i1 : (0 : Int) ≤ (dn : Int) := by omega
        have i2 : (dn : Int) ≤ (s.size : Int) := by omega
        have i3 : ¬ (4503599627370496 : Int) < v := by omega
        go_wp2_with fail
        refine HC.out.mono ?_
        rintro e w2 ⟨rfl, rfl⟩
        go_wp2_with fail
        refine HC2.out.mono ?_
        rintro e w2 ⟨rfl, rfl⟩
        go_wp2_with fail
        refine HLEN.out.mono ?_
        rintro e w2 ⟨rfl, rfl⟩
        go_upto_region 14 with fail
        go_cut [86] from 62 to 86 (fun u W => u = .bool false ∧ w1 = W)
        case first =>
          by_cases he : dn < s.size
          · obtain ⟨b1, b2⟩ := HNX.out he
            have j1 : (dn : Int) < (s.size : Int) := by omega
            have HL2 := Lib.hid (tokLetter_any s[dn] w1)
            rw [b1] at HL2
            have b3 : ((s[dn].toNat : Int) == 95) = false := (u8_eq s[dn] 95 (by omega)).trans b2
            clear b1 b2
            go_wp2_with fail
            refine HL2.out.mono ?_
            rintro e w2 ⟨rfl, rfl⟩
            go_wp2_with fail
            go_meet
            exact ⟨rfl, rfl⟩
          · have j1 : ¬ (dn : Int) < (s.size : Int) := by omega
            go_wp2_with fail
            go_meet
            exact ⟨rfl, rfl⟩
        case rest =>
          obtain ⟨rfl, rfl⟩ := hcut
          go_wp2_with fail
          refine HAT.out.mono ?_
          rintro e w2 ⟨rfl, hw2⟩
          have hbA := lexBytes hw2
          have hb2 := hb1.trans (hbA.mono hb1.size)
          have hT2 := hT1.now hbA
          have hR2 := hR1.now hbA
          have hr2 := hr1.now hbA
          clear hw2 hbA hb1 hT1 hR1 hr1 c0 c1 c2
          obtain ⟨c0, c1, c2⟩ := hr2.c3
          obtain ⟨t0, t1, t2, t3, t4⟩ := hT2.c5
          have ft0 := hT2.frozen 0
          have ft1 := hT2.frozen 1
          have ft2 := hT2.frozen 2
          go_upto_region 20 with fail
          have hT3 : Blk ((w2.setCell ⟨w.heap.size + 1, 0, none⟩ (.int .i64 2)).setCell ⟨w.heap.size + 1, 2, none⟩ (.int .i64 v)) (w.heap.size + 1) 117 #[.int .i64 2, .string ⟨#[]⟩, .int .i64 v, .int .i64 1, .int .i64 col] := ((hT2.set_ 0 (.int .i64 2)).set_ 2 (.int .i64 v))
          have hR3 := ((hR2.far (p := ⟨w.heap.size + 1, 0, none⟩) (show w.heap.size ≠ w.heap.size + 1 by omega) (.int .i64 2)).far (p := ⟨w.heap.size + 1, 2, none⟩) (show w.heap.size ≠ w.heap.size + 1 by omega) (.int .i64 v))
          have hb3 := ((hb2.setCell (p := ⟨w.heap.size + 1, 0, none⟩) (show w.heap.size ≤ w.heap.size + 1 by omega) (.int .i64 2)).setCell (p := ⟨w.heap.size + 1, 2, none⟩) (show w.heap.size ≤ w.heap.size + 1 by omega) (.int .i64 v))
          generalize hw3 : ((w2.setCell ⟨w.heap.size + 1, 0, none⟩ (.int .i64 2)).setCell ⟨w.heap.size + 1, 2, none⟩ (.int .i64 v)) = w3 at *
          clear hw3 t0 t1 t2 t3 t4 ft0 ft1 ft2 hT2 hR2 hb2
          obtain ⟨t0, t1, t2, t3, t4⟩ := hT3.c5
          obtain ⟨z0, z1, z2, z3, z4⟩ := hR3.c5
          have fr0 := hR3.frozen 0
          have fr1 := hR3.frozen 1
          have fr2 := hR3.frozen 2
          have fr3 := hR3.frozen 3
          have fr4 := hR3.frozen 4
          go_wp2_with fail
          obtain ⟨r0, r1, r2, r3, r4⟩ := (hR3.set5' (.int .i64 2) (.string ⟨#[]⟩) (.int .i64 v) (.int .i64 1) (.int .i64 col)).c5
          refine bodyPost_ret (v := .tuple #[.agg #[.int .i64 2, .string ⟨#[]⟩, .int .i64 v, .int .i64 1, .int .i64 col], .int .i64 (dn : Int), .int .i64 0]) (by simp [results, Tryz.results117, go_sem, r0, r1, r2, r3, r4]) rfl ?_
          exact ⟨rfl, bset5' hb3 (Nat.le_refl _) _ _ _ _ _⟩
      | false =>
        rw [hdg, if_neg (by simp)] at hx
        by_cases h34 : c = 34
        · rw [if_pos h34] at hx; cases hx
        rw [if_neg h34] at hx
        obtain ⟨x, hsy, hx2⟩ := Option.map_eq_some_iff.1 hx
        injection hx2 with x1 hx2
        injection hx2 with x2 hx2
        injection hx2 with x3 x4
        subst x1 x2 x3 x4
        have HC := Lib.hid (tokLetter_any c w1)
        rw [hl] at HC
        have HC2 := Lib.hid (tokDigit_any c w1)
        rw [hdg] at HC2
        have hsb := symbol_any s w1
        rw [HD.out, hsy] at hsb
        have HSB := Lib.hid hsb
        have b3 : ((c.toNat : Int) == 34) = false := (u8_eq c 34 (by omega)).trans (by simpa using h34)
        have hxs : x.size ≤ 2 := by
          have h1 := List.mem_of_find?_eq_some hsy
          have h2 : ∀ y ∈ symL, y.size ≤ 2 := by decide
          exact h2 x h1
        clear hl hdg hx h34 hsy hsb
        go_wp2_with fail
        refine HC.out.mono ?_
        rintro e w2 ⟨rfl, rfl⟩
        go_wp2_with fail
        refine HC2.out.mono ?_
        rintro e w2 ⟨rfl, rfl⟩
        go_wp2_with fail
        refine HSB.out.mono ?_
        rintro e w2 ⟨rfl, hbA⟩
        have hb2 := hb1.trans (hbA.mono hb1.size)
        have hT2 := hT1.now hbA
        have hR2 := hR1.now hbA
        have hr2 := hr1.now hbA
        clear hbA hb1 hT1 hR1 hr1 c0 c1 c2
        obtain ⟨c0, c1, c2⟩ := hr2.c3
        obtain ⟨t0, t1, t2, t3, t4⟩ := hT2.c5
        have ft0 := hT2.frozen 0
        have ft1 := hT2.frozen 1
        have ft2 := hT2.frozen 2
        go_upto_region 32 with fail
        have hT3 : Blk ((w2.setCell ⟨w.heap.size + 1, 0, none⟩ (.int .i64 4)).setCell ⟨w.heap.size + 1, 1, none⟩ (.string x)) (w.heap.size + 1) 117 #[.int .i64 4, .string x, .int .i64 0, .int .i64 1, .int .i64 col] := ((hT2.set_ 0 (.int .i64 4)).set_ 1 (.string x))
        have hR3 := ((hR2.far (p := ⟨w.heap.size + 1, 0, none⟩) (show w.heap.size ≠ w.heap.size + 1 by omega) (.int .i64 4)).far (p := ⟨w.heap.size + 1, 1, none⟩) (show w.heap.size ≠ w.heap.size + 1 by omega) (.string x))
        have hb3 := ((hb2.setCell (p := ⟨w.heap.size + 1, 0, none⟩) (show w.heap.size ≤ w.heap.size + 1 by omega) (.int .i64 4)).setCell (p := ⟨w.heap.size + 1, 1, none⟩) (show w.heap.size ≤ w.heap.size + 1 by omega) (.string x))
        generalize hw3 : ((w2.setCell ⟨w.heap.size + 1, 0, none⟩ (.int .i64 4)).setCell ⟨w.heap.size + 1, 1, none⟩ (.string x)) = w3 at *
        clear hw3 t0 t1 t2 t3 t4 ft0 ft1 ft2 hT2 hR2 hb2
        obtain ⟨t0, t1, t2, t3, t4⟩ := hT3.c5
        obtain ⟨z0, z1, z2, z3, z4⟩ := hR3.c5
        have fr0 := hR3.frozen 0
        have fr1 := hR3.frozen 1
        have fr2 := hR3.frozen 2
        have fr3 := hR3.frozen 3
        have fr4 := hR3.frozen 4
        go_wp2_with fail
        obtain ⟨r0, r1, r2, r3, r4⟩ := (hR3.set5' (.int .i64 4) (.string x) (.int .i64 0) (.int .i64 1) (.int .i64 col)).c5
        refine bodyPost_ret (v := .tuple #[.agg #[.int .i64 4, .string x, .int .i64 0, .int .i64 1, .int .i64 col], .int .i64 (x.size : Int), .int .i64 0]) (by simp [results, Tryz.results117, go_sem, r0, r1, r2, r3, r4]) rfl ?_
        exact ⟨rfl, bset5' hb3 (Nat.le_refl _) _ _ _ _ _⟩
end Go.Proofs.YtijmnenojbfdnaaGreatDoor

namespace Go.Proofs.YtijmnenojbfdnaaGreatDoor
open Go.RowKit
def tokV (x : Tok) : List Value := [.int .i64 x.kind, .string x.text, .int .i64 x.n, .int .i64 1, .int .i64 x.col]
theorem tokV_len (x : Tok) : (tokV x).length = 5 := rfl
theorem tokV_one (x : Tok) : ∀ u ∈ tokV x, u.oneCell' = true := by
  intro u hu
  unfold tokV at hu
  simp only [List.mem_cons, List.not_mem_nil, or_false] at hu
  rcases hu with rfl | rfl | rfl | rfl | rfl <;> rfl
def RTok : ElemR Tok := fun _ _ x cs => cs = tokV x
theorem RTok.kept : ElemR.Kept RTok := fun _ _ _ _ _ _ _ _ h => h
def SlTk := Sl 5 RTok
theorem appTok : AppInfo Tryz.prog 107 117 5 := AppInfo.mk' (z := .agg #[.int .i64 0, .string ⟨#[]⟩, .int .i64 0, .int .i64 0, .int .i64 0]) (bytes := 48) Tryz.underlying107 (by kernel_rfl) (by omega) rfl (by omega)
theorem lexB_step {f : Nat} {s : ByteArray} {col : Int} {toks : List Tok} (h : lexB f s col = some toks) : ∃ f' k t n len, f = f' + 1 ∧ plainBlank s.data.toList = true ∧ nextB (s.extract (lenP (· == 32) s.data.toList) s.size) = some (k, t, n, len) ∧
    ((k = 5 ∧ toks = [⟨k, t, n, col + (lenP (· == 32) s.data.toList : Nat)⟩]) ∨ (k ≠ 5 ∧ len ≤ s.size - lenP (· == 32) s.data.toList ∧ ((s.data.toList.drop (lenP (· == 32) s.data.toList)).take len).all (· != 10) = true ∧
      ∃ rest, toks = ⟨k, t, n, col + (lenP (· == 32) s.data.toList : Nat)⟩ :: rest ∧ lexB f' (s.extract (lenP (· == 32) s.data.toList + len) s.size) (col + (lenP (· == 32) s.data.toList : Nat) + len) = some rest)) := by
  cases f with
  | zero => cases h
  | succ f =>
    unfold lexB at h
    by_cases hp : plainBlank s.data.toList = true
    rotate_left
    · rw [if_neg hp] at h; cases h
    rw [if_pos hp] at h
    generalize lenP (· == 32) s.data.toList = nb at *
    cases hn : nextB (s.extract nb s.size) with
    | none => rw [hn] at h; cases h
    | some r =>
      obtain ⟨k, t, n, len⟩ := r
      rw [hn] at h
      dsimp only at h
      refine ⟨f, k, t, n, len, rfl, hp, rfl, ?_⟩
      by_cases hk : k = 5
      · rw [if_pos hk] at h
        injection h with h
        exact .inl ⟨hk, h.symm⟩
      · rw [if_neg hk] at h
        by_cases hc : len ≤ s.size - nb ∧ ((s.data.toList.drop nb).take len).all (· != 10) = true
        · rw [if_pos hc] at h
          obtain ⟨rest, h1, h2⟩ := Option.map_eq_some_iff.1 h
          exact .inr ⟨hk, hc.1, hc.2, rest, h2.symm, h1⟩
        · rw [if_neg hc] at h; cases h
set_option maxHeartbeats 8000000 in
set_option maxRecDepth 100000 in
theorem tokens_any (s : ByteArray) (w : World) (hs : s.size ≤ 16384) (F : Nat) (toks : List Tok) (hF : F ≤ 100) (hx : lexB F s 1 = some toks) :
    Calls Tryz.prog 73 #[.string s] w fun e w' => ∃ A c, e = .returned (.tuple #[.slice A toks.length c, .agg #[.int .i64 0, .int .i64 0], .int .i64 0]) ∧ SlTk (Lt w'.heap.size) w' (.slice A toks.length c) toks ∧ Below w.heap.size w w' := by
  have HX := Lib.hid hx
  clear hx
  have hb1 := bbox (bone w (.cells #[.int .i64 0, .int .i64 0] 74)) (.cells #[.string s, .int .i64 1, .int .i64 1] 152)
  have hP1 := (Blk.new w 74 #[.int .i64 0, .int .i64 0]).alloc (.cells #[.string s, .int .i64 1, .int .i64 1] 152)
  have hr1 : IsRd ((w.alloc (.cells #[.int .i64 0, .int .i64 0] 74)).alloc (.cells #[.string s, .int .i64 1, .int .i64 1] 152)) (w.heap.size + 1) s 1 := Blk.new_at (t := 152) (cs := #[.string s, .int .i64 1, .int .i64 1]) (w := w.alloc (.cells #[.int .i64 0, .int .i64 0] 74)) (s := w.heap.size + 1) (World.size_alloc _ _)
  have hsz1 : w.heap.size + 2 ≤ ((w.alloc (.cells #[.int .i64 0, .int .i64 0] 74)).alloc (.cells #[.string s, .int .i64 1, .int .i64 1] 152)).heap.size := by rw [World.size_alloc, World.size_alloc]; omega
  go_enter Tryz.func73, Tryz.ntmps73
  go_upto_region 4 with fail
  generalize hw1 : ((w.alloc (.cells #[.int .i64 0, .int .i64 0] 74)).alloc (.cells #[.string s, .int .i64 1, .int .i64 1] 152)) = w1 at *
  clear hw1
  go_wp2_with fail
  go_loopg [6] F (fun gg ov wr => ∃ (f : Nat) (done rest : List Tok) (s' : ByteArray) (col : Int) (sv : Value), sv = ov ∧ f ≤ gg ∧ done.length + f ≤ F ∧ Hid (lexB f s' col = some rest) ∧ Hid (toks = done ++ rest) ∧ s'.size ≤ s.size ∧ 0 ≤ col ∧ col + s'.size = 1 + s.size ∧
    OwnW 5 tokV wr (w.heap.size + 2) 117 sv done ∧ IsRd wr (w.heap.size + 1) s' col ∧ Blk wr w.heap.size 74 #[.int .i64 0, .int .i64 0] ∧ Below w.heap.size w wr ∧ w.heap.size + 2 ≤ wr.heap.size)
  case atStart => exact ⟨F, [], toks, s, 1, _, rfl, Nat.le_refl _, by simp, HX.out, rfl, Nat.le_refl _, by omega, by omega, OwnW.nil, hr1, hP1, hb1, hsz1⟩
  case round =>
    obtain ⟨f, done, rest, s', col, sv, rfl, hfg, hdf, HL, HT, hss, hc0, hcs, hown, hrd, hP, hbr, hszr⟩ := hrel
    clear hr1 hP1 hb1 hsz1
    have hnb : ∀ g, sv.ownBlock = some g → w.heap.size + 2 ≤ g := fun g e => (World.ownsRow.lt hown g e).1
    obtain ⟨f', k, t, n, len, rfl, hpb, hnx, hcase⟩ := lexB_step HL.out
    have hnl : lenP (· == 32) s'.data.toList ≤ s'.size := by rw [← lexSize]; exact lenP_le _ _
    have hbl := blanks_any (w.heap.size + 1) s' col wr (by omega) (by omega) hpb hrd
    have HSK := Lib.hid (fun k (hk : lenP (· == 32) s'.data.toList + k ≤ s'.size) => lexExtExt s' hk)
    have HEL := Lib.hid (lexExtList s' (lenP (· == 32) s'.data.toList))
    have hes := lexExtSize s' hnl
    have HCS := Lib.hid hcase
    have HNX := Lib.hid hnx
    clear hcase hnx hpb HL
    generalize lenP (· == 32) s'.data.toList = nb at *
    have HBL := Lib.hid hbl
    clear hbl
    go_wp2_with fail
    refine HBL.out.mono ?_
    rintro e w2 ⟨rfl, hr2, hg2⟩
    have hown2 : OwnW 5 tokV w2 (w.heap.size + 2) 117 sv done := hown.kept hg2 (by
      cases e : sv.ownBlock with
      | none => exact .inl rfl
      | some g => exact .inr (fun e2 => by injection e2 with e2; have := hnb g e; omega))
    have hP2 := hP.grown hg2 (fun e => by injection e with e; omega)
    have hbr2 := hbr.trans (below_of_grown hg2 (Nat.le_trans (by omega) hszr) (fun g e => by injection e with e; omega))
    have hsz2 := Nat.le_trans hszr hg2.size
    have hnx := next_any (w.heap.size + 1) (s'.extract nb s'.size) (col + nb) w2 (by rw [hes]; omega) k n t len HNX.out hr2
    have HN := Lib.hid hnx
    clear hnx HNX HBL hown hP hbr hszr hrd hg2
    go_wp2_with fail
    refine HN.out.mono ?_
    rintro e w3 ⟨rfl, hb3⟩
    have hown3 := OwnW.now hown2 (hb3)
    have hnk : ∀ g, sv.ownBlock = some g → g < w3.heap.size := fun g e => (World.ownsRow.lt hown3 g e).2
    have hP3 := hP2.now hb3
    have hr3 : IsRd w3 (w.heap.size + 1) (s'.extract nb s'.size) (col + nb) := Blk.now hr2 hb3
    have hbr3 := hbr2.trans (hb3.mono hbr2.size)
    have hsz3 := Nat.le_trans hsz2 hb3.size
    clear HN hown2 hP2 hbr2 hsz2 hr2 hb3
    have hb4 := bone w3 (.cells #[.int .i64 k, .string t, .int .i64 n, .int .i64 1, .int .i64 (col + nb)] 117)
    have hK4 := Blk.new w3 117 #[.int .i64 k, .string t, .int .i64 n, .int .i64 1, .int .i64 (col + nb)]
    have hown4 := OwnW.now hown3 hb4
    have hP4 := hP3.now hb4
    have hr4 : IsRd (w3.alloc (.cells #[.int .i64 k, .string t, .int .i64 n, .int .i64 1, .int .i64 (col + nb)] 117)) (w.heap.size + 1) (s'.extract nb s'.size) (col + nb) := Blk.now hr3 hb4
    have hbr4 := hbr3.trans (hb4.mono hbr3.size)
    have hsz4 := Nat.le_trans hsz3 hb4.size
    go_upto_region 7 with fail
    generalize hw4 : w3.alloc (.cells #[.int .i64 k, .string t, .int .i64 n, .int .i64 1, .int .i64 (col + nb)] 117) = w4 at *
    clear hw4 hown3 hP3 hr3 hbr3 hb4
    have hKlt : w3.heap.size < w4.heap.size := hK4.lt
    obtain ⟨k0, k1, k2, k3, k4⟩ := hK4.c5
    generalize hkb : w3.heap.size = kb at *
    clear hkb
    have f0 := hP4.frozen 0
    have f1 := hP4.frozen 1
    obtain ⟨p0, p1⟩ := hP4.c2
    rcases HCS.out with ⟨hk5, hrest⟩ | ⟨hk5, hlen, hall, rest', hrest, hrec⟩
    · subst hk5
      have HTK : Hid (toks = done ++ [⟨5, t, n, col + nb⟩]) := by show _ = _; rw [HT.out, hrest]
      clear hrest HCS HT HSK
      go_wp2_with (at_builtin; refine wpList_pushW (fc := tokV) appTok rfl (.tmp 45) (.tmp 47) rfl w4 ⟨5, t, n, col + nb⟩ done (tokV_len _) (tokV_one _) _ rfl hown4 rfl (by omega) hsz4 ?_; intro v' w' hown' hgr hat; generalize hW : @wpList = WL)
      subst hW
      have hKg := hK4.grown hgr (fun e => by have := hnk kb e.symm; omega)
      have hP5 := hP4.grown hgr (fun e => by have := hnb _ e.symm; omega)
      have hr5 : IsRd w' (w.heap.size + 1) (s'.extract nb s'.size) (col + nb) := Blk.grown hr4 hgr (fun e => by have := hnb _ e.symm; omega)
      have hbr5 : Below w.heap.size w w' := hbr4.trans (below_of_grown hgr (by omega) (fun g e => by have := hnb g e; omega))
      have hsz5 := Nat.le_trans hsz4 hgr.size
      obtain ⟨g', cap', rfl, _, hgf, _⟩ := OwnW.form hown' (by simp)
      clear k0 k1 k2 k3 k4 p0 p1 f0 f1 hK4 hown4 hP4 hr4 hbr4 hsz4 hgr hat
      obtain ⟨k0, k1, k2, k3, k4⟩ := hKg.c5
      rw [← HTK.out] at hown' ⊢
      obtain ⟨p0, p1⟩ := hP5.c2
      have f0 := hP5.frozen 0
      have f1 := hP5.frozen 1
      go_wp2_with fail
      obtain ⟨r0, r1⟩ := ((hP5.set_ 0 (.int .i64 0)).set_ 1 (.int .i64 0)).c2
      refine bodyPost_ret (v := .tuple #[.slice (some ⟨g', 0, none⟩) toks.length cap', .agg #[.int .i64 0, .int .i64 0], .int .i64 0]) (by simp [results, Tryz.results73, go_sem, r0, r1]) rfl ?_
      have ho1 : OwnW 5 tokV (w'.setCell ⟨w.heap.size, 0, none⟩ (.int .i64 0)) (w.heap.size + 2) 117 _ toks := ownsRow_setCell_other (a := ⟨w.heap.size, 0, none⟩) hown' (fun e => by injection e with e; have : w.heap.size = g' := e.symm; omega) _
      have ho2 : OwnW 5 tokV ((w'.setCell ⟨w.heap.size, 0, none⟩ (.int .i64 0)).setCell ⟨w.heap.size, 1, none⟩ (.int .i64 0)) (w.heap.size + 2) 117 _ toks := ownsRow_setCell_other (a := ⟨w.heap.size, 1, none⟩) ho1 (fun e => by injection e with e; have : w.heap.size = g' := e.symm; omega) _
      exact ⟨_, _, rfl, OwnW.sl ho2 tokV_len (fun _ _ _ _ => rfl), (hbr5.setCell (p := ⟨w.heap.size, 0, none⟩) (Nat.le_refl _) _).setCell (p := ⟨w.heap.size, 1, none⟩) (Nat.le_refl _) _⟩
    · have HTK : Hid (toks = (done ++ [⟨k, t, n, col + nb⟩]) ++ rest') := by show _ = _; rw [HT.out, hrest, List.append_assoc]; rfl
      have HREC : Hid (lexB f' ((s'.extract nb s'.size).extract len (s'.extract nb s'.size).size) (col + nb + len) = some rest') := by show _ = _; rw [HSK.out len (by omega)]; exact hrec
      have hall2 : ((s'.extract nb s'.size).data.toList.take len).all (· != 10) = true := by rw [HEL.out]; exact hall
      have HALL := Lib.hid hall2
      have b1 : (k != 5) = true := by simpa using hk5
      have b2 : (k == 5) = false := by simpa using hk5
      have b3 : ((done.length : Int) == 4000) = false := by rw [beq_eq_false_iff_ne]; omega
      have hes2 : ((s'.extract nb s'.size).extract len (s'.extract nb s'.size).size).size = s'.size - nb - len := by rw [lexExtSize _ (by rw [hes]; omega), hes]
      clear hrest HCS HT hrec hall hall2 hk5 HSK HEL
      obtain ⟨se, hse⟩ : ∃ se, s'.extract nb s'.size = se := ⟨_, rfl⟩
      rw [hse] at hr4 HREC HALL hes hes2
      clear hse
      have hsvf : ∃ A c, sv = .slice A done.length c := by
        rcases hown4.2 with ⟨e, e0⟩ | ⟨g, c, cur, e, _⟩
        · exact ⟨none, 0, by rw [e, e0]⟩
        · exact ⟨_, _, e⟩
      obtain ⟨Asv, csv, rfl⟩ := hsvf
      go_wp2_with (at_builtin; refine wpList_pushW (fc := tokV) appTok rfl (.tmp 45) (.tmp 47) rfl w4 ⟨k, t, n, col + nb⟩ done (tokV_len _) (tokV_one _) _ rfl hown4 rfl (by omega) hsz4 ?_; intro v' w' hown' hgr hat; generalize hW : @wpList = WL)
      subst hW
      have hKg := hK4.grown hgr (fun e => by have := hnk kb e.symm; omega)
      have hP5 := hP4.grown hgr (fun e => by have := hnb _ e.symm; omega)
      have hr5 : IsRd w' (w.heap.size + 1) se (col + nb) := Blk.grown hr4 hgr (fun e => by have := hnb _ e.symm; omega)
      have hbr5 : Below w.heap.size w w' := hbr4.trans (below_of_grown hgr (by omega) (fun g e => by have := hnb g e; omega))
      have hsz5 := Nat.le_trans hsz4 hgr.size
      obtain ⟨g', cap', rfl, _, hgf, _⟩ := OwnW.form hown' (by simp)
      clear k0 k1 k2 k3 k4 p0 p1 f0 f1 hK4 hown4 hP4 hr4 hbr4 hsz4 hgr hat
      obtain ⟨k0, k1, k2, k3, k4⟩ := hKg.c5
      have hsk := skip_any (w.heap.size + 1) len se (col + nb) w' (by omega) (by omega) HALL.out (by omega) hr5
      have HSKP := Lib.hid hsk
      clear hsk
      go_wp2_with fail
      refine HSKP.out.mono ?_
      rintro e w6 ⟨rfl, hr6, hg6⟩
      have hown6 : OwnW 5 tokV w6 (w.heap.size + 2) 117 _ (done ++ [⟨k, t, n, col + nb⟩]) := hown'.kept hg6 (.inr (fun e => by injection e with e; have : g' = w.heap.size + 1 := e; omega))
      have hP6 := hP5.grown hg6 (fun e => by injection e with e; omega)
      have hbr6 := hbr5.trans (below_of_grown hg6 (by omega) (fun g e => by injection e with e; omega))
      have hsz6 := Nat.le_trans hsz5 hg6.size
      clear hown' hP5 hbr5 hsz5 hr5 hg6 HSKP k0 k1 k2 k3 k4 hKg
      go_wp2_with fail
      go_roundg f'
      case rel =>
        have hl1 : (done ++ [(⟨k, t, n, col + nb⟩ : Tok)]).length = done.length + 1 := by simp
        rw [hl1] at hown6
        exact ⟨f', done ++ [(⟨k, t, n, col + nb⟩ : Tok)], rest', _, _, _, rfl, Nat.le_refl _, by simp; omega, HREC.out, HTK.out, by omega, by omega, by omega, hown6, hr6, hP6, hbr6, hsz6⟩
      case measure => omega
end Go.Proofs.YtijmnenojbfdnaaGreatDoor
