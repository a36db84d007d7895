/- Texts of this seat, merged. -/
import Derived.Orders
import Derived.Deep.Quiet
import Derived.StillTail
import Derived.Deep.RegionHeld
import Derived.Deep.RegionHeld3
import Derived.Test.YtoalecalahkblaaGreatDoorIw01
import Derived.Test.YtoalecalahkblaaGreatDoorIw02
import Derived.Test.YtoalecalahkblaaGreatDoorIw04
import Derived.Test.YtoalecalahkblaaGreatDoorIw05
set_option linter.all false
set_option linter.all false
namespace Go.Proofs.YtoalecalahkblaaGreatDoor
open Go.RowKit
theorem rowR_bad {sep : UInt8} {n : Nat} {acc : List Bt} {t rest : Bt} {e : Int} (h : cellR sep t = .bad rest e) : rowR sep n acc t = .bad rest e := by
  cases n <;> (unfold rowR; rw [h])
theorem rowR_end {sep : UInt8} {n : Nat} {acc : List Bt} {t b : Bt} (h : cellR sep t = .ok b []) : rowR sep n acc t = .ok (acc ++ [b]) [] := by
  cases n <;> (unfold rowR; rw [h])
theorem rowR_line {sep : UInt8} {n : Nat} {acc : List Bt} {t b rest : Bt} (h : cellR sep t = .ok b (10 :: rest)) : rowR sep n acc t = .ok (acc ++ [b]) rest := by
  cases n with
  | zero => unfold rowR; rw [h]
  | succ n => unfold rowR; rw [h]; simp only [if_pos]
theorem rowR_next {sep c : UInt8} {n : Nat} {acc : List Bt} {t b rest : Bt} (h : cellR sep t = .ok b (c :: rest)) (hc : c ≠ 10) : rowR sep (n + 1) acc t = rowR sep n (acc ++ [b]) rest := by
  conv => lhs; unfold rowR
  rw [h]; simp only [if_neg hc]
theorem tabR_end {sep : UInt8} {n : Nat} {acc : List (List Bt)} : tabR sep n acc [] = .ok acc := by cases n <;> rfl
theorem tabR_full {sep c : UInt8} {n : Nat} {acc : List (List Bt)} {t : Bt} (h : acc.length = 2001) : tabR sep n acc (c :: t) = .bad (c :: t) 5 := by
  cases n with
  | zero => rfl
  | succ n => unfold tabR; rw [if_pos h]
theorem tabR_bad {sep c : UInt8} {n : Nat} {acc : List (List Bt)} {t rest : Bt} {e : Int} (h : acc.length ≠ 2001) (hr : rowR sep (c :: t).length [] (c :: t) = .bad rest e) : tabR sep (n + 1) acc (c :: t) = .bad rest e := by
  unfold tabR; rw [if_neg h, hr]
theorem tabR_row {sep c : UInt8} {n : Nat} {acc : List (List Bt)} {t rest : Bt} {r : List Bt} (h : acc.length ≠ 2001) (hr : rowR sep (c :: t).length [] (c :: t) = .ok r rest) : tabR sep (n + 1) acc (c :: t) = tabR sep n (acc ++ [r]) rest := by
  conv => lhs; unfold tabR
  rw [if_neg h, hr]
def RetRows (p : List (List Bt) × (Int × Int) × Int) (w : World) (e : Ending) (w' : World) : Prop := ∃ v, e = .returned (.tuple #[v, .agg #[.int .i64 p.2.1.1, .int .i64 p.2.1.2], .int .i64 p.2.2]) ∧ SlSS (Lt w'.heap.size) w' v p.1 ∧ Below w.heap.size w w'
theorem own_slPD {D : Nat → Prop} {w : World} {base t : Nat} {v : Value} {ls : List Bt} (h : w.ownsRow base t 1 v ls.length (ls.map fun l => Value.string (bsOf l))) (hD : ∀ g, v.ownBlock = some g → D g) (hf : ∀ l ∈ ls, l.length ≤ maxLen) : SlP D w v ls := by
  have e : (ls.map fun l => Value.string (bsOf l)) = (ls.map bsOf).map Value.string := by rw [List.map_map]; rfl
  rw [e] at h
  have hl : ls.length = (ls.map bsOf).length := by rw [List.length_map]
  rw [hl] at h
  refine Sl.of_own1 h rfl hD fun i x hx => ?_
  refine ⟨.string x, ?_, rfl, ?_⟩
  · rw [List.getElem?_map, hx]; rfl
  · obtain ⟨l, hl, rfl⟩ := List.mem_map.1 (List.mem_of_getElem? hx)
    rw [bs_size]; exact hf l hl
def OwnT (w : World) (base : Nat) (v : Value) (ls : List Bt) : Prop := w.ownsRow base 9 1 v ls.length (ls.map fun l => Value.string (bsOf l))
theorem OwnT.nil {w : World} {base : Nat} : OwnT w base (.slice none 0 0) [] := World.ownsRow_nil _ _ _ _
theorem OwnT.chg {R base : Nat} {w w' : World} {v : Value} {l : List Bt} (h : OwnT w base v l) (k : Chg (One R) w w') (hR : R < base) : OwnT w' base v l := by
  refine World.ownsRow.kept h k.grown ?_
  cases e : v.ownBlock with
  | none => exact .inl rfl
  | some g => exact .inr (fun h' => by injection h' with h'; have := (World.ownsRow.lt h g e).1; omega)
theorem OwnT.open_ {base : Nat} {w : World} {v : Value} {l : List Bt} (h : OwnT w base v l) : ∃ A c, v = .slice A l.length c := by
  rcases h.2 with ⟨rfl, h0⟩ | ⟨g, cap, cur, rfl, _⟩
  · exact ⟨none, 0, by rw [h0]⟩
  · exact ⟨_, _, rfl⟩
theorem appStr : AppInfo Tryz.prog 51 9 1 := AppInfo.mk' (z := .string ⟨#[]⟩) (bytes := 16) Tryz.underlying51 (by kernel_rfl) (by decide) rfl (by decide)
theorem appStrs : AppInfo Tryz.prog 22 51 1 := AppInfo.mk' (z := .slice none 0 0) (bytes := 24) Tryz.underlying22 (by kernel_rfl) (by decide) rfl (by decide)
theorem OwnR.chg {α : Type} {size : Nat} {E : ElemR α} {X : Nat → Prop} {R base t : Nat} {w w' : World} {v : Value} {xs : List α} (h : OwnR size E X w base t v xs) (hE : ElemR.Kept E) (k : Chg (One R) w w') (hX : X R) (hR : R < base) : OwnR size E X w' base t v xs :=
  h.grown hE k.grown fun g e => by
    injection e with e
    subst e
    exact ⟨hX, fun e => by have := (h.lt _ e).1; omega⟩
theorem bset2' {B g : Nat} {w0 w : World} (h : Below B w0 w) (hg : B ≤ g) (a b : Value) : Below B w0 ((w.setCell ⟨g, 0, none⟩ a).setCell ⟨g, 1, none⟩ b) :=
  (h.setCell (p := ⟨g, 0, none⟩) hg a).setCell (p := ⟨g, 1, none⟩) hg b
theorem Blk.put2 {w : World} {g t : Nat} {a b : Value} (h : Blk w g t #[a, b]) (x y : Value) : Blk ((w.setCell ⟨g, 0, none⟩ x).setCell ⟨g, 1, none⟩ y) g t #[x, y] := (h.set_ 0 x).set_ 1 y
set_option maxHeartbeats 8000000 in
set_option maxRecDepth 100000 in
theorem cells_any (s : ByteArray) (sep : UInt8) (w : World) (hsz : s.size ≤ 9223372036854775807) :
    Calls Tryz.prog 22 #[.string s, .int .u8 (sep.toNat : Int)] w (RetRows (cellsE sep s.data.toList) w) := by
  have hlen : s.data.toList.length = s.size := by simp
  have HSEP := Lib.hid (separates_any sep)
  obtain ⟨q, hq⟩ : ∃ q, isSep sep = q := ⟨_, rfl⟩
  rw [hq] at HSEP
  have hb1 := bone w (.cells #[.int .i64 0, .int .i64 0] 40)
  have hP1 := Blk.new w 40 #[.int .i64 0, .int .i64 0]
  have f0 := hP1.frozen 0
  have f1 := hP1.frozen 1
  cases q with
  | false =>
    have HE : Hid (cellsE sep s.data.toList = ([], (0, 0), 1)) := by show _ = _; unfold cellsE; rw [if_pos hq]
    clear hq hlen
    go_enter Tryz.func22, Tryz.ntmps22
    go_upto_region 1 with fail
    obtain ⟨w1, hw1⟩ : ∃ w1, w.alloc (.cells #[.int .i64 0, .int .i64 0] 40) = w1 := ⟨_, rfl⟩
    rw [hw1] at hb1 hP1 f0 f1 ⊢
    clear hw1
    obtain ⟨d0, d1⟩ := hP1.c2
    go_wp2_with fail
    (with_reducible refine (HSEP.out _).mono ?_)
    rintro _ w2 ⟨rfl, rfl⟩
    go_wp2_with fail
    obtain ⟨r0, r1⟩ := (hP1.put2 (.int .i64 0) (.int .i64 0)).c2
    refine bodyPost_ret (v := .tuple #[.slice none 0 0, .agg #[.int .i64 0, .int .i64 0], .int .i64 1]) (by simp [results, Tryz.results22, go_sem, r0, r1]) rfl ?_
    rw [HE.out]
    exact ⟨_, rfl, Sl.none_, bset2' hb1 (Nat.le_refl _) _ _⟩
  | true =>
  by_cases hlong : 16384 < s.size
  · have HE : Hid (cellsE sep s.data.toList = ([], (0, 0), 5)) := by show _ = _; unfold cellsE; rw [if_neg (by rw [hq]; decide), if_pos (by omega)]
    have i1 : (16384 : Int) < (s.size : Int) := by omega
    clear hq hlen
    go_enter Tryz.func22, Tryz.ntmps22
    go_upto_region 1 with fail
    obtain ⟨w1, hw1⟩ : ∃ w1, w.alloc (.cells #[.int .i64 0, .int .i64 0] 40) = w1 := ⟨_, rfl⟩
    rw [hw1] at hb1 hP1 f0 f1 ⊢
    clear hw1
    obtain ⟨d0, d1⟩ := hP1.c2
    go_wp2_with fail
    (with_reducible refine (HSEP.out _).mono ?_)
    rintro _ w2 ⟨rfl, rfl⟩
    go_wp2_with fail
    obtain ⟨r0, r1⟩ := (hP1.put2 (.int .i64 0) (.int .i64 0)).c2
    refine bodyPost_ret (v := .tuple #[.slice none 0 0, .agg #[.int .i64 0, .int .i64 0], .int .i64 5]) (by simp [results, Tryz.results22, go_sem, r0, r1]) rfl ?_
    rw [HE.out]
    exact ⟨_, rfl, Sl.none_, bset2' hb1 (Nat.le_refl _) _ _⟩
  have hs : s.size ≤ 16384 := by omega
  have HE : Hid (cellsE sep s.data.toList = tabE s.data.toList (tabR sep s.data.toList.length [] s.data.toList)) := by
    show _ = _
    unfold cellsE
    rw [if_neg (by rw [hq]; decide), if_neg (by omega)]
  have i1 : ¬ (16384 : Int) < (s.size : Int) := by omega
  clear hq hlong
  go_enter Tryz.func22, Tryz.ntmps22
  go_upto_region 1 with fail
  obtain ⟨w1, hw1⟩ : ∃ w1, w.alloc (.cells #[.int .i64 0, .int .i64 0] 40) = w1 := ⟨_, rfl⟩
  have hs1 : w1.heap.size = w.heap.size + 1 := by rw [← hw1]; simp
  rw [hw1] at hb1 hP1 f0 f1 ⊢
  clear hw1 f0 f1
  go_wp2_with fail
  (with_reducible refine (HSEP.out _).mono ?_)
  rintro _ w2 ⟨rfl, rfl⟩
  go_upto_region 6 with fail
  have hR2 := Blk.new w1 107 #[.string s, .int .u8 (sep.toNat : Int), .int .i64 0, .int .i64 1, .int .i64 1]
  have hb12 := bone w1 (.cells #[.string s, .int .u8 (sep.toNat : Int), .int .i64 0, .int .i64 1, .int .i64 1] 107)
  have hP2 := hP1.now hb12
  have hb2 := bbox hb1 (.cells #[.string s, .int .u8 (sep.toNat : Int), .int .i64 0, .int .i64 1, .int .i64 1] 107)
  have hs2 : (w1.alloc (.cells #[.string s, .int .u8 (sep.toNat : Int), .int .i64 0, .int .i64 1, .int .i64 1] 107)).heap.size = w.heap.size + 2 := by simp [hs1]
  rw [hs1] at hR2
  obtain ⟨w2, hw2⟩ : ∃ w2, w1.alloc (.cells #[.string s, .int .u8 (sep.toNat : Int), .int .i64 0, .int .i64 1, .int .i64 1] 107) = w2 := ⟨_, rfl⟩
  rw [hw2] at hR2 hP2 hb2 hs2 ⊢
  have HR2 : Hid (RdC w2 (w.heap.size + 1) s sep 0) := hR2
  have HP2 := Lib.hid hP2
  have HB2 := Lib.hid hb2
  have HS2 := Lib.hid hs2
  clear hw2 hb12 hP1 hb1 hs1 hR2 hP2 hb2 hs2
  go_wp2_with fail
  go_loopg [8] s.size (fun g1 ov wr => ∃ (i n : Nat) (acc : List (List Bt)), i ≤ s.size ∧ s.size ≤ g1 + i ∧ acc.length ≤ i ∧ RdC wr (w.heap.size + 1) s sep i ∧ Blk wr w.heap.size 40 #[.int .i64 0, .int .i64 0] ∧ OwnR 1 RStrs (Lt w2.heap.size) wr w2.heap.size 51 ov acc ∧ Chg (One (w.heap.size + 1)) w2 wr ∧ s.size ≤ n + i ∧ Hid (tabR sep s.data.toList.length [] s.data.toList = tabR sep n acc (s.data.toList.drop i)))
  case atStart => exact ⟨0, s.size, [], Nat.zero_le _, by omega, Nat.le_refl _, HR2.out, HP2.out, OwnR.nil, Chg.refl, by omega, by show _ = _; rw [hlen, List.drop_zero]⟩
  case round =>
    obtain ⟨i, n, acc, his, hg, hal, hR, hP, hO, hC, hn, hQ⟩ := hrel
    have HRI := Lib.hid hR
    have HPI := Lib.hid hP
    have HOI := Lib.hid hO
    have HC := Lib.hid hC
    have HMI := Lib.hid (more_any _ s sep i wr hR hs)
    obtain ⟨A, cb, hA⟩ := hO.open_
    subst hA
    clear hR hP hO hC
    by_cases hi : i < s.size
    · have HM : Hid (Calls Tryz.prog 68 #[.pointer (some ⟨w.heap.size + 1, 0, none⟩)] wr fun e w' => e = .returned (.bool true) ∧ Below wr.heap.size wr w') := by have := HMI.out; rwa [decide_eq_true hi] at this
      have HDI := Lib.hid (dropAt hi)
      clear HMI
      go_wp2_with fail
      (with_reducible refine HM.out.mono ?_)
      rintro _ w3 ⟨rfl, hb3⟩
      have HR3 : Hid (RdC w3 (w.heap.size + 1) s sep i) := Blk.now HRI.out hb3
      have HP3 := Lib.hid (HPI.out.now hb3)
      have HO3 := Lib.hid (HOI.out.now RStrs.kept hb3)
      have HC3 := Lib.hid (HC.out.trans (Chg.of_below hb3))
      clear HM hb3 HRI HPI HOI HC
      by_cases hful : acc.length = 2001
      · have e1 : ((acc.length : Int) == 2001) = true := by rw [hful]; rfl
        have HT : Hid (tabR sep s.data.toList.length [] s.data.toList = .bad (s.data.toList.drop i) 5) := by
          show _ = _
          rw [hQ.out, HDI.out, tabR_full hful]
        have hB3 : Blk w3 (w.heap.size + 1) 107 (rdrCells s sep i (plAt s.data.toList i)) := HR3.out
        obtain ⟨c0, c1, c2, c3, c4⟩ := hB3.c5
        obtain ⟨d0, d1⟩ := HP3.out.c2
        have f0 := HP3.out.frozen 0
        have f1 := HP3.out.frozen 1
        have HB3 := Lib.hid (HB2.out.trans (HC3.out.below (B := w.heap.size) (by have := HB2.out.size; omega) fun b hb e => by have e : b = w.heap.size + 1 := e; omega))
        clear hful hB3
        obtain ⟨⟨p1, p2⟩, hpl⟩ : ∃ pl, plAt s.data.toList i = pl := ⟨_, rfl⟩
        rw [hpl] at c3 c4
        have HPL := Lib.hid hpl
        clear hpl
        simp only at c3 c4
        go_upto_region 9 with fail
        go_region
        have hz := (HP3.out.put2 (.int .i64 p1) (.int .i64 p2)).drew
        have hbz := (bset2' HB3.out (Nat.le_refl _) (.int .i64 p1) (.int .i64 p2)).drew
        generalize ((w3.setCell ⟨w.heap.size, 0, none⟩ (.int .i64 p1)).setCell ⟨w.heap.size, 1, none⟩ (.int .i64 p2)).drew = wz at hz hbz ⊢
        obtain ⟨r0, r1⟩ := hz.c2
        go_wp2_with fail
        refine bodyPost_ret (v := .tuple #[.slice none 0 0, .agg #[.int .i64 p1, .int .i64 p2], .int .i64 5]) (by simp [results, Tryz.results22, go_sem, r0, r1]) rfl ?_
        have HF : cellsE sep s.data.toList = ([], (p1, p2), 5) := by
          rw [HE.out, HT.out]
          show ([], plAt s.data.toList (s.data.toList.length - (s.data.toList.drop i).length), 5) = _
          rw [List.length_drop, hlen, show s.size - (s.size - i) = i by omega, HPL.out]
        rw [HF]
        exact ⟨_, rfl, Sl.none_, hbz⟩
      · have e1 : ((acc.length : Int) == 2001) = false := beq_false_of_ne (by omega)
        go_wp2_with fail
        go_loopg [9] s.size (fun g2 rv wr2 => ∃ (j m : Nat) (racc : List Bt), i ≤ j ∧ j ≤ s.size ∧ s.size ≤ g2 + j ∧ racc.length ≤ j ∧ (∀ l ∈ racc, l.length ≤ maxLen) ∧ RdC wr2 (w.heap.size + 1) s sep j ∧ OwnT wr2 w3.heap.size rv racc ∧ Chg (One (w.heap.size + 1)) w3 wr2 ∧ s.size ≤ m + j ∧ Hid (rowR sep (s.data.toList.drop i).length [] (s.data.toList.drop i) = rowR sep m racc (s.data.toList.drop j)))
        case atStart => exact ⟨i, (s.data.toList.drop i).length, [], Nat.le_refl _, his, by omega, Nat.zero_le _, (fun l hl => by cases hl), HR3.out, OwnT.nil, Chg.refl, by rw [List.length_drop]; omega, rfl⟩
        case round =>
          obtain ⟨j, m, racc, hij, hjs, hg2, hrl, hrb, hR, hT, hC, hm, hRQ⟩ := hrel
          have HT := Lib.hid hT
          have HC := Lib.hid hC
          have HCELL := Lib.hid (cell_any _ s sep j wr hR hs hjs)
          obtain ⟨Ar, cr, hA⟩ := hT.open_
          subst hA
          clear hR hT hC
          go_wp2_with fail
          (with_reducible refine HCELL.out.mono ?_)
          rintro e w4 ⟨j1, hj1, hj1s, hR4, hC4, hm4⟩
          obtain ⟨cr, hcr⟩ : ∃ cr, cellR sep (s.data.toList.drop j) = cr := ⟨_, rfl⟩
          rw [hcr] at hm4
          have HC4 := Lib.hid (HC.out.trans hC4)
          have HT4 := Lib.hid (HT.out.chg hC4 (by have := HS2.out; have := HC3.out.size; omega))
          have HR4 := Lib.hid hR4
          clear HCELL HC HT hR4 hC4
          cases cr with
          | bad rest k =>
            obtain ⟨rfl, hk, rfl⟩ := hm4
            have hkk : (k != 0) = true := by simpa using hk
            obtain ⟨n', rfl⟩ : ∃ n', n = n' + 1 := ⟨n - 1, by omega⟩
            have HTT : Hid (tabR sep s.data.toList.length [] s.data.toList = .bad (s.data.toList.drop j1) k) := by
              show _ = _
              rw [hQ.out, HDI.out, tabR_bad hful (by rw [← HDI.out, hRQ.out, rowR_bad hcr])]
            have hB4 : Blk w4 (w.heap.size + 1) 107 (rdrCells s sep j1 (plAt s.data.toList j1)) := HR4.out
            obtain ⟨c0, c1, c2, c3, c4⟩ := hB4.c5
            have HP4 := Lib.hid (HP3.out.chg HC4.out (show ¬ w.heap.size = w.heap.size + 1 by omega))
            obtain ⟨d0, d1⟩ := HP4.out.c2
            have f0 := HP4.out.frozen 0
            have f1 := HP4.out.frozen 1
            have HB4 := Lib.hid (HB2.out.trans ((HC3.out.trans HC4.out).below (B := w.heap.size) (by have := HB2.out.size; omega) fun b hb e => by have e : b = w.heap.size + 1 := e; omega))
            clear hB4 hcr hk
            obtain ⟨⟨p1, p2⟩, hpl⟩ : ∃ pl, plAt s.data.toList j1 = pl := ⟨_, rfl⟩
            rw [hpl] at c3 c4
            have HPL := Lib.hid hpl
            clear hpl
            simp only at c3 c4
            go_upto_region 13 with fail
            go_region
            have hz := (HP4.out.put2 (.int .i64 p1) (.int .i64 p2)).drew
            have hbz := (bset2' HB4.out (Nat.le_refl _) (.int .i64 p1) (.int .i64 p2)).drew
            generalize ((w4.setCell ⟨w.heap.size, 0, none⟩ (.int .i64 p1)).setCell ⟨w.heap.size, 1, none⟩ (.int .i64 p2)).drew = wz at hz hbz ⊢
            obtain ⟨r0, r1⟩ := hz.c2
            go_wp2_with fail
            refine bodyPost_ret (v := .tuple #[.slice none 0 0, .agg #[.int .i64 p1, .int .i64 p2], .int .i64 k]) (by simp [results, Tryz.results22, go_sem, r0, r1]) rfl ?_
            have HF : cellsE sep s.data.toList = ([], (p1, p2), k) := by
              rw [HE.out, HTT.out]
              show ([], plAt s.data.toList (s.data.toList.length - (s.data.toList.drop j1).length), k) = _
              rw [List.length_drop, hlen, show s.size - (s.size - j1) = j1 by omega, HPL.out]
            rw [HF]
            exact ⟨_, rfl, Sl.none_, hbz⟩
          | ok b rest =>
            obtain ⟨hrest, hbl, rfl⟩ := hm4
            have HS4 := Lib.hid HC4.out.size
            have hbm : b.length ≤ maxLen := by unfold maxLen; omega
            have HCR := Lib.hid hcr
            have HREST := Lib.hid hrest
            clear hcr hrest
            go_upto_region 15 with (at_builtin; refine wpList_push appStr rfl (.tmp 48) (.tmp 50) rfl w4 [.string (bsOf b)] rfl (fun u hu => by simp at hu; subst hu; rfl) _ racc.length (racc.map fun l => Value.string (bsOf l)) rfl HT4.out rfl (by omega) HS4.out ?_; intro v' w5 hown hgr hat)
            have hrl2 : (racc ++ [b]).length = racc.length + 1 := by rw [List.length_append, List.length_singleton]
            have HT5 : Hid (OwnT w5 w3.heap.size v' (racc ++ [b])) := by
              show World.ownsRow _ _ _ _ _ _ _
              rw [hrl2, List.map_append]; exact hown
            have HR5 := Lib.hid (HR4.out.grown hgr (fun e => by have := (World.ownsRow.lt HT4.out _ e.symm).1; have := HS2.out; have := HC3.out.size; omega))
            have HC5 := Lib.hid (HC4.out.more hgr (fun g hg => .inl (World.ownsRow.lt HT4.out g hg).1))
            have hrb2 : ∀ l ∈ racc ++ [b], l.length ≤ maxLen := fun l hl => by
              rcases List.mem_append.1 hl with hl | hl
              · exact hrb l hl
              · rw [List.mem_singleton] at hl; rw [hl]; exact hbm
            obtain ⟨Av, cv, hv⟩ := HT5.out.open_
            rw [hrl2] at hv
            subst hv
            clear hown hgr hat HT4 HR4 HC4 hrb hbm
            have HMJ := Lib.hid (more_any _ s sep j1 w5 HR5.out hs)
            go_cut [59] from 52 to 59 (fun x W => ∃ (q : Bool) (j2 : Nat), x = .bool q ∧ RdC W (w.heap.size + 1) s sep j2 ∧ Chg (One (w.heap.size + 1)) w5 W ∧ i < j2 ∧ j2 ≤ s.size ∧ j1 ≤ j2 ∧ j ≤ j2 ∧ (q = true → rowR sep m racc (s.data.toList.drop j) = .ok (racc ++ [b]) (s.data.toList.drop j2)) ∧ (q = false → j < j2 ∧ 1 ≤ m ∧ rowR sep m racc (s.data.toList.drop j) = rowR sep (m - 1) (racc ++ [b]) (s.data.toList.drop j2)))
            case first =>
              by_cases hj1 : j1 < s.size
              · have HM : Hid (Calls Tryz.prog 68 #[.pointer (some ⟨w.heap.size + 1, 0, none⟩)] w5 fun e w' => e = .returned (.bool true) ∧ Below w5.heap.size w5 w') := by have := HMJ.out; rwa [decide_eq_true hj1] at this
                have HDJ := Lib.hid (dropAt hj1)
                have e3 := beqI s[j1] 10 10 rfl
                have HN0 := Lib.hid (fun W hW => next_any (w.heap.size + 1) s sep j1 W hW hs hj1)
                generalize s[j1] = c at *
                obtain ⟨z, hz⟩ : ∃ z, (c.toNat : Int) = z := ⟨_, rfl⟩
                rw [hz] at e3 HN0
                obtain ⟨q, hq⟩ : ∃ q, (c == 10) = q := ⟨_, rfl⟩
                rw [hq] at e3
                have HQQ := Lib.hid hq
                clear HMJ hz hq
                go_wp2_with fail
                (with_reducible refine HM.out.mono ?_)
                rintro _ w6 ⟨rfl, hb6⟩
                have HR6 : Hid (RdC w6 (w.heap.size + 1) s sep j1) := Blk.now HR5.out hb6
                have HC6 := Lib.hid (Chg.of_below (S := One (w.heap.size + 1)) hb6)
                clear hb6
                go_wp2_with fail
                (with_reducible refine (HN0.out w6 HR6.out).mono ?_)
                rintro _ w7 ⟨rfl, hR7, hC7⟩
                have HR7 := Lib.hid hR7
                have HC7 := Lib.hid (HC6.out.trans hC7)
                clear hR7 hC7
                go_wp2_with fail
                go_meet
                refine ⟨q, j1 + 1, rfl, HR7.out, HC7.out, by omega, by omega, by omega, by omega, fun h => ?_, fun h => ?_⟩
                · have hc : c = 10 := by have := HQQ.out; rw [h] at this; exact beq_iff_eq.1 this
                  have h1 := HCR.out
                  rw [HREST.out, HDJ.out, hc] at h1
                  exact rowR_line h1
                · have hc : c ≠ 10 := fun e => by have := HQQ.out; rw [h, e] at this; cases this
                  have h1 := HCR.out
                  rw [HREST.out, HDJ.out] at h1
                  obtain ⟨m', rfl⟩ : ∃ m', m = m' + 1 := ⟨m - 1, by omega⟩
                  exact ⟨by omega, by omega, rowR_next h1 hc⟩
              · have HM : Hid (Calls Tryz.prog 68 #[.pointer (some ⟨w.heap.size + 1, 0, none⟩)] w5 fun e w' => e = .returned (.bool false) ∧ Below w5.heap.size w5 w') := by have := HMJ.out; rwa [decide_eq_false hj1] at this
                clear HMJ
                go_wp2_with fail
                (with_reducible refine HM.out.mono ?_)
                rintro _ w6 ⟨rfl, hb6⟩
                have HR6 : Hid (RdC w6 (w.heap.size + 1) s sep j1) := Blk.now HR5.out hb6
                have HC6 := Lib.hid (Chg.of_below (S := One (w.heap.size + 1)) hb6)
                clear hb6
                go_wp2_with fail
                go_meet
                have hde : s.data.toList.drop j1 = [] := dropEnd (by omega)
                refine ⟨true, j1, rfl, HR6.out, HC6.out, by omega, by omega, by omega, by omega, fun h => ?_, fun h => by cases h⟩
                have h1 := HCR.out
                rw [HREST.out, hde] at h1
                rw [hde]
                exact rowR_end h1
            obtain ⟨q, j2, rfl, hR6, hC6, hij2, hj2s, hj12, hjj2, hqt, hqf⟩ := hcut
            have HT6 := Lib.hid (HT5.out.chg hC6 (by have := HS2.out; have := HC3.out.size; omega))
            have HC6 := Lib.hid (HC5.out.trans hC6)
            have HR6 := Lib.hid hR6
            clear hR6 hC6 HT5 HC5 HR5 HMJ
            cases q with
            | false =>
              obtain ⟨hlt, hm1, hrw⟩ := hqf rfl
              have HRW : Hid (rowR sep (s.data.toList.drop i).length [] (s.data.toList.drop i) = rowR sep (m - 1) (racc ++ [b]) (s.data.toList.drop j2)) := by show _ = _; rw [hRQ.out, hrw]
              clear hqt hqf hrw
              go_wp2_with fail
              go_roundg (s.size - j2)
              case measure => omega
              case rel => exact ⟨j2, m - 1, racc ++ [b], by omega, hj2s, by omega, by omega, hrb2, HR6.out, HT6.out, HC6.out, by omega, HRW.out⟩
            | true =>
              have hrw := hqt rfl
              obtain ⟨n', rfl⟩ : ∃ n', n = n' + 1 := ⟨n - 1, by omega⟩
              have HTR : Hid (tabR sep s.data.toList.length [] s.data.toList = tabR sep n' (acc ++ [racc ++ [b]]) (s.data.toList.drop j2)) := by
                show _ = _
                rw [hQ.out, HDI.out, tabR_row hful (by rw [← HDI.out, hRQ.out, hrw])]
              clear hqt hqf hrw
              have HP6 := Lib.hid (HP3.out.chg HC6.out (show ¬ w.heap.size = w.heap.size + 1 by omega))
              have HO6 := Lib.hid (OwnR.chg HO3.out RStrs.kept HC6.out (show w.heap.size + 1 < w2.heap.size by have := HS2.out; omega) (by have := HS2.out; omega))
              have HC6' := Lib.hid (HC3.out.trans HC6.out)
              have HS6 := Lib.hid HC6'.out.size
              have HY : Hid (RStrs (Off (Lt w2.heap.size) wc (.slice A acc.length cb)) wc (racc ++ [b]) [.slice Av (racc.length + 1) cv]) := by
                refine ⟨_, rfl, own_slPD HT6.out (fun g hg => ?_) hrb2⟩
                have h1 := World.ownsRow.lt HT6.out g hg
                have h2 := HS2.out
                have h3 := HC3.out.size
                refine ⟨h1.2, fun e => ?_, fun e => ?_⟩
                · have := (HO3.out.lt g e).2
                  omega
                · have e : g < w2.heap.size := e
                  omega
              clear HO3 HP3 HR3 HT6 HC6 hrb2
              go_wp2_with (at_builtin; refine wpList_pushR (X := Lt w2.heap.size) appStrs RStrs.kept rfl (.tmp 60) (.tmp 62) rfl wc [.slice Av (racc.length + 1) cv] rfl (fun u hu => by simp at hu; subst hu; rfl) _ acc (racc ++ [b]) rfl HO6.out HY.out rfl (by omega) HS6.out ?_; intro v' w7 hown hgr hat)
              have HO7 := Lib.hid hown
              have HG7 := Lib.hid hgr
              clear hown hgr hat
              go_roundg (s.size - j2)
              case measure => omega
              case rel =>
                have hne : ∀ x, x < w2.heap.size → some x ≠ (Value.slice A acc.length cb).ownBlock := fun x hx e => by
                  have := (HO6.out.lt x e.symm).1
                  omega
                refine ⟨j2, n', acc ++ [racc ++ [b]], hj2s, by omega, by rw [List.length_append, List.length_singleton]; omega, HR6.out.grown HG7.out (hne _ (by have := HS2.out; omega)), HP6.out.grown HG7.out (hne _ (by have := HS2.out; omega)), HO7.out, HC6'.out.more HG7.out (fun g hg => .inl (HO6.out.lt g hg).1), by omega, HTR.out⟩
    · have HM : Hid (Calls Tryz.prog 68 #[.pointer (some ⟨w.heap.size + 1, 0, none⟩)] wr fun e w' => e = .returned (.bool false) ∧ Below wr.heap.size wr w') := by have := HMI.out; rwa [decide_eq_false hi] at this
      have HF : Hid (cellsE sep s.data.toList = (acc, (0, 0), 0)) := by
        show _ = _
        rw [HE.out, hQ.out, dropEnd (by omega), tabR_end]; rfl
      clear HMI
      go_wp2_with fail
      (with_reducible refine HM.out.mono ?_)
      rintro _ w3 ⟨rfl, hb3⟩
      have HR3 : Hid (RdC w3 (w.heap.size + 1) s sep i) := Blk.now HRI.out hb3
      have hP3 := HPI.out.now hb3
      have HO3 := Lib.hid (HOI.out.now RStrs.kept hb3)
      have HC3 := Lib.hid (HC.out.trans (Chg.of_below hb3))
      have HB3 := Lib.hid (HB2.out.trans (HC3.out.below (B := w.heap.size) (by have := HB2.out.size; omega) fun b hb e => by have e : b = w.heap.size + 1 := e; omega))
      obtain ⟨d0, d1⟩ := hP3.c2
      have f0 := hP3.frozen 0
      have f1 := hP3.frozen 1
      have HP3 := Lib.hid hP3
      clear HM hb3 HRI HPI HOI HC hP3
      go_wp2_with fail
      have hz := HP3.out.put2 (.int .i64 0) (.int .i64 0)
      have hbz := bset2' HB3.out (Nat.le_refl _) (.int .i64 0) (.int .i64 0)
      have hoz : Sl 1 RStrs (Lt ((w3.setCell ⟨w.heap.size, 0, none⟩ (.int .i64 0)).setCell ⟨w.heap.size, 1, none⟩ (.int .i64 0)).heap.size) ((w3.setCell ⟨w.heap.size, 0, none⟩ (.int .i64 0)).setCell ⟨w.heap.size, 1, none⟩ (.int .i64 0)) (.slice A acc.length cb) acc := by
        have hpl : w.heap.size < w2.heap.size := by have := HS2.out; omega
        have hne : (Value.slice A acc.length cb).ownBlock ≠ some w.heap.size := fun e => by
          have := (HO3.out.lt _ e).1
          omega
        exact ((HO3.out.far RStrs.kept (p := ⟨w.heap.size, 0, none⟩) hpl hne _).far RStrs.kept (p := ⟨w.heap.size, 1, none⟩) hpl hne _).sl RStrs.kept
      generalize (w3.setCell ⟨w.heap.size, 0, none⟩ (.int .i64 0)).setCell ⟨w.heap.size, 1, none⟩ (.int .i64 0) = wz at hz hbz hoz ⊢
      obtain ⟨r0, r1⟩ := hz.c2
      refine bodyPost_ret (v := .tuple #[.slice A acc.length cb, .agg #[.int .i64 0, .int .i64 0], .int .i64 0]) (by simp [results, Tryz.results22, go_sem, r0, r1]) rfl ?_
      rw [HF.out]
      exact ⟨_, rfl, hoz, hbz⟩
end Go.Proofs.YtoalecalahkblaaGreatDoor

namespace Go.Proofs.YtoalecalahkblaaGreatDoor
def unlisted (listed : Array Bool) : Nat := (listed.toList.filter (fun b => !b)).length
theorem unlisted_list (l : List Bool) : ∀ i, l[i]? = some false → ((l.set i true).filter (fun b => !b)).length + 1 = (l.filter (fun b => !b)).length := by
  induction l with
  | nil => intro i h; simp at h
  | cons b l ih =>
    intro i h
    cases i with
    | zero => simp at h; subst h; simp
    | succ i =>
      have := ih i (by simpa using h)
      cases b
      · simp only [List.set_cons_succ, List.filter_cons, Bool.not_false, if_true, List.length_cons]; omega
      · simp only [List.set_cons_succ, List.filter_cons, Bool.not_true, Bool.false_eq_true, if_false]; omega
theorem unlisted_set {listed : Array Bool} {i : Nat} (h : listed.getD i true = false) : unlisted (listed.setIfInBounds i true) + 1 = unlisted listed := by
  have hi : i < listed.size := by
    rcases Nat.lt_or_ge i listed.size with h' | h'
    · exact h'
    · simp [Array.getElem?_eq_none h'] at h
  have hb : listed[i] = false := by simpa [hi] using h
  unfold unlisted
  rw [Array.toList_setIfInBounds]
  exact unlisted_list _ i (by simp [hi, hb])
theorem wpAny_inv {P : Program} {ops : Array Oper} {md : Region.Mode} {Q : Exit → Act → World → Prop} (J : Array Bool → Act → World → Prop)
    (hstep : ∀ listed a w i, J listed a w → i ∈ Region.ready md ops listed → wpOp P ops Q i (J (listed.setIfInBounds i true)) a w)
    (hend : ∀ listed a w, J listed a w → Region.ready md ops listed = [] → Q .normal a w) :
    ∀ (fuel : Nat) (listed : Array Bool) (a : Act) (w : World), unlisted listed ≤ fuel → J listed a w → wpAny P md ops Q fuel listed a w := by
  intro fuel
  induction fuel with
  | zero =>
    intro listed a w hf hJ
    have hr : Region.ready md ops listed = [] := by
      cases h : Region.ready md ops listed with
      | nil => rfl
      | cons i l =>
        have hi : i ∈ Region.ready md ops listed := by rw [h]; simp
        have := unlisted_set (mem_ready.1 hi).1
        omega
    exact ⟨hr, hend _ _ _ hJ hr⟩
  | succ fuel ih =>
    intro listed a w hf hJ
    refine ⟨fun hr => hend _ _ _ hJ hr, fun i hi => ?_⟩
    exact wpOp_mono (fun a' w' h' => ih _ a' w' (by have := unlisted_set (mem_ready.1 hi).1; omega) h') (hstep listed a w i hJ hi)
theorem wp_region_inv {P : Program} {ops : Array Oper} {id : Nat} {Q : Exit → Act → World → Prop} {a : Act} {w : World} (hm : P.follows .mixedOrders = true) (J : Array Bool → Act → World → Prop)
    (h0 : J (Array.replicate ops.size false) a w.drew)
    (hstep : ∀ listed a w i, J listed a w → i ∈ Region.ready .any ops listed → wpOp P ops Q i (J (listed.setIfInBounds i true)) a w)
    (hend : ∀ listed a w, J listed a w → Region.ready .any ops listed = [] → Q .normal a w) : (Code.region id ops true).wp P Q a w := by
  refine wp_region_any hm (wpAny_inv J hstep hend _ _ _ _ ?_ h0)
  unfold unlisted
  exact Nat.le_trans (List.length_filter_le _ _) (by simp)
def Act.slot (a : Act) (s : Nat) : Value := a.tmps.getD s undef
def upd (σ : Nat → Value) (d : Option Tmp) (v : Value) : Nat → Value := match d with | some d => fun s => if s = d then v else σ s | none => σ
theorem slot_put {a : Act} {d : Option Tmp} {v : Value} (h : ∀ k, d = some k → k < a.tmps.size) : Act.slot (a.put d v) = upd (Act.slot a) d v := by
  cases d with
  | none => rfl
  | some d =>
    funext s
    have hd := h d rfl
    simp only [Act.slot, Act.put, upd, Array.getD_eq_getD_getElem?, Array.getElem?_setIfInBounds]
    by_cases hs : s = d
    · subst hs; simp [hd]
    · rw [if_neg (fun e => hs e.symm), if_neg hs]
theorem size_put (a : Act) (d : Option Tmp) (v : Value) : (a.put d v).tmps.size = a.tmps.size := by cases d <;> simp [Act.put]
theorem defers_put (a : Act) (d : Option Tmp) (v : Value) : (a.put d v).defers = a.defers := by cases d <;> rfl
structure Kin (l : List Oper) (a0 a : Act) : Prop where
  size : a.tmps.size = a0.tmps.size
  defers : a.defers = a0.defers
  slots : ∀ s, (∀ o ∈ l, o.dst ≠ some s) → Act.slot a s = Act.slot a0 s
theorem Kin.refl (l : List Oper) (a : Act) : Kin l a a := ⟨rfl, rfl, fun _ _ => rfl⟩
theorem Kin.put {l : List Oper} {a0 a : Act} (h : Kin l a0 a) (hd : ∀ o ∈ l, ∀ k, o.dst = some k → k < a0.tmps.size) {o : Oper} (ho : o ∈ l) (v : Value) : Kin l a0 (a.put o.dst v) ∧ Act.slot (a.put o.dst v) = upd (Act.slot a) o.dst v := by
  have e := slot_put (a := a) (d := o.dst) (v := v) (fun k hk => by rw [h.size]; exact hd o ho k hk)
  refine ⟨⟨(size_put _ _ _).trans h.size, (defers_put _ _ _).trans h.defers, fun s hs => ?_⟩, e⟩
  rw [e, ← h.slots s hs]
  have := hs o ho
  cases hk : o.dst with
  | none => rfl
  | some d =>
    simp only [upd]
    rw [if_neg]
    intro e'
    subst e'
    exact this hk
def Up (listed : Array Bool) (j : Nat) : Prop := listed.getD j false = true
structure Shut (l : List Oper) (listed : Array Bool) : Prop where
  size : listed.size = l.length
  closed : ∀ j oj, l[j]? = some oj → Up listed j → ∀ e ∈ oj.after, Region.binds .any e = true → Up listed e.on
theorem Shut.start (l : List Oper) : Shut l (Array.replicate l.length false) :=
  ⟨by simp, fun j oj _ hl => by unfold Up at hl; rw [getD_replicate_false] at hl; cases hl⟩
theorem Shut.up {l : List Oper} {listed : Array Bool} {j i : Nat} (h : Shut l listed) (hj : Up listed j) (hw : Region.waitsFor .any l.toArray j i = true) : Up listed i := by
  obtain ⟨oj, hoj, e, he, hb, rfl⟩ := Region.waitsFor_spec hw
  exact h.closed j oj (by simpa using hoj) hj e he hb
theorem ready_up {l : List Oper} {listed : Array Bool} {i j : Nat} (hi : i ∈ Region.ready .any l.toArray listed) (hw : Region.waitsFor .any l.toArray i j = true) : Up listed j := by
  obtain ⟨_, o, ho, hall⟩ := mem_ready.1 hi
  obtain ⟨oj, hoj, e, he, hb, rfl⟩ := Region.waitsFor_spec hw
  have : oj = o := Option.some.inj (hoj.symm.trans ho)
  subst this
  exact hall e he hb
theorem ready_not {l : List Oper} {listed : Array Bool} {i : Nat} (hi : i ∈ Region.ready .any l.toArray listed) : ¬ Up listed i := by
  unfold Up
  rw [getD_both (mem_ready.1 hi).1]
  simp
theorem Shut.set {l : List Oper} {listed : Array Bool} {i : Nat} (h : Shut l listed) (hi : i ∈ Region.ready .any l.toArray listed) : Shut l (listed.setIfInBounds i true) := by
  obtain ⟨_, oi, hoi, hall⟩ := mem_ready.1 hi
  refine ⟨by simp [h.size], fun j oj hj hl e he hb => ?_⟩
  unfold Up at hl ⊢
  by_cases hij : i = j
  · subst hij
    have : oj = oi := Option.some.inj ((show l.toArray[i]? = some oj by simpa using hj).symm.trans hoi)
    subst this
    exact getD_set_true (hall e he hb)
  · rw [getD_set_ne false hij] at hl
    exact getD_set_true (h.closed j oj hj hl e he hb)
theorem up_set {listed : Array Bool} {i j : Nat} (h : Up (listed.setIfInBounds i true) j) (hij : i ≠ j) : Up listed j := by
  unfold Up at *
  rwa [getD_set_ne false hij] at h
def Steps (P : Program) (l : List Oper) (Q : Exit → Act → World → Prop) (a0 : Act) (K : Array Bool → (Nat → Value) → World → Prop) : Nat → List Oper → Prop
  | _, [] => True
  | i, o :: rest => (∀ listed (a : Act) w, Shut l listed → i ∈ Region.ready .any l.toArray listed → Kin l a0 a → K listed (Act.slot a) w →
      o.wp P a w (fun a' w' => ∃ v, a' = a.put o.dst v ∧ K (listed.setIfInBounds i true) (upd (Act.slot a) o.dst v) w') Q) ∧ Steps P l Q a0 K (i + 1) rest
theorem Steps.at_ {P : Program} {l : List Oper} {Q : Exit → Act → World → Prop} {a0 : Act} {K : Array Bool → (Nat → Value) → World → Prop} : ∀ (m : List Oper) (k i : Nat) (o : Oper), Steps P l Q a0 K k m → m[i]? = some o →
    ∀ listed (a : Act) w, Shut l listed → (k + i) ∈ Region.ready .any l.toArray listed → Kin l a0 a → K listed (Act.slot a) w →
      o.wp P a w (fun a' w' => ∃ v, a' = a.put o.dst v ∧ K (listed.setIfInBounds (k + i) true) (upd (Act.slot a) o.dst v) w') Q := by
  intro m
  induction m with
  | nil => intro k i o _ h; simp at h
  | cons x m ih =>
    intro k i o hs h
    cases i with
    | zero => injection h with h; subst h; exact hs.1
    | succ i =>
      have := ih (k + 1) i o hs.2 (by simpa using h)
      rwa [show k + 1 + i = k + (i + 1) from by omega] at this
def dstsB (l : List Oper) (n : Nat) : Bool := l.all fun o => o.guard.isNone && match o.dst with | some k => decide (k < n) | none => true
theorem wp_region_slots {P : Program} {l : List Oper} {id : Nat} {Q : Exit → Act → World → Prop} {a0 : Act} {w : World} (hm : P.follows .mixedOrders = true)
    (hB : dstsB l a0.tmps.size = true) (K : Array Bool → (Nat → Value) → World → Prop)
    (h0 : K (Array.replicate l.length false) (Act.slot a0) w.drew) (hstep : Steps P l Q a0 K 0 l)
    (hend : ∀ listed (a : Act) w, (∀ i, i < l.length → Up listed i) → Kin l a0 a → K listed (Act.slot a) w → Q .normal a w) (hall : ∀ listed, Shut l listed → Region.ready .any l.toArray listed = [] → ∀ i, i < l.length → Up listed i) : (Code.region id l.toArray true).wp P Q a0 w := by
  unfold dstsB at hB
  rw [List.all_eq_true] at hB
  refine wp_region_inv hm (fun listed a w => Shut l listed ∧ Kin l a0 a ∧ K listed (Act.slot a) w) ⟨by simpa using Shut.start l, Kin.refl _ _, by simpa using h0⟩ ?_ (fun listed a w h hr => hend listed a w (hall listed h.1 hr) h.2.1 h.2.2)
  rintro listed a w i ⟨hsh, hk, hK⟩ hi
  obtain ⟨_, o, ho, _⟩ := mem_ready.1 hi
  have ho' : l[i]? = some o := by simpa using ho
  have hmem : o ∈ l := List.mem_of_getElem? ho'
  have hb := hB o hmem
  rw [Bool.and_eq_true] at hb
  unfold wpOp
  rw [ho]
  have hw : Region.wanted o (yielded l.toArray a.tmps) = true := by simp [Region.wanted, Option.isNone_iff_eq_none.1 hb.1]
  simp only [hw, if_true]
  left
  refine Oper.wp_mono ?_ (by have := hstep.at_ l 0 i o ho' listed a w hsh (by rwa [Nat.zero_add]) hk hK; rwa [Nat.zero_add] at this)
  rintro a' w' ⟨v, rfl, h⟩
  obtain ⟨k1, k2⟩ := hk.put (fun o' ho' k hk' => by
    have := hB o' ho'
    rw [Bool.and_eq_true, hk'] at this
    simpa using this.2) hmem v
  exact ⟨hsh.set hi, k1, by rw [k2]; exact h⟩
end Go.Proofs.YtoalecalahkblaaGreatDoor

namespace Go.Proofs.YtoalecalahkblaaGreatDoor
open Go.RowKit
def dstOf (l : List Oper) (j : Nat) : Nat := ((l[j]?).bind (·.dst)).getD 0
def apartB (l : List Oper) (n : Nat) : Bool := (List.range n).all fun i => match (l[i]?).bind (·.dst) with
  | none => false
  | some a => (List.range l.length).all fun j => i == j || match (l[j]?).bind (·.dst) with
    | none => true
    | some b => a != b
def lastB (l : List Oper) (n : Nat) : Bool := (List.range n).all fun i => Region.waitsFor .any l.toArray n i
def StepsM (P : Program) (l : List Oper) (Q : Exit → Act → World → Prop) (a0 : Act) (w0 : World) (F : Nat → Value → World → Prop) : Nat → List Oper → Prop
  | _, [] => True
  | i, o :: rest => (∀ (a : Act) W, Kin l a0 a → Below w0.heap.size w0 W → (∀ j, Region.waitsFor .any l.toArray i j = true → F j (Act.slot a (dstOf l j)) W) →
      o.wp P a W (fun a' W' => ∃ v, a' = a.put o.dst v ∧ Below W.heap.size W W' ∧ F i v W') Q) ∧ StepsM P l Q a0 w0 F (i + 1) rest
theorem StepsM.at_ {P : Program} {l : List Oper} {Q : Exit → Act → World → Prop} {a0 : Act} {w0 : World} {F : Nat → Value → World → Prop} : ∀ (m : List Oper) (k i : Nat) (o : Oper), StepsM P l Q a0 w0 F k m → m[i]? = some o →
    ∀ (a : Act) W, Kin l a0 a → Below w0.heap.size w0 W → (∀ j, Region.waitsFor .any l.toArray (k + i) j = true → F j (Act.slot a (dstOf l j)) W) →
      o.wp P a W (fun a' W' => ∃ v, a' = a.put o.dst v ∧ Below W.heap.size W W' ∧ F (k + i) v W') Q := by
  intro m
  induction m with
  | nil => intro k i o _ h; simp at h
  | cons x m ih =>
    intro k i o hs h
    cases i with
    | zero => injection h with h; subst h; exact hs.1
    | succ i =>
      have := ih (k + 1) i o hs.2 (by simpa using h)
      rwa [show k + 1 + i = k + (i + 1) from by omega] at this
theorem steps_all {P : Program} {l : List Oper} {Q : Exit → Act → World → Prop} {a0 : Act} {K : Array Bool → (Nat → Value) → World → Prop} (h : ∀ (i : Nat) (o : Oper), l[i]? = some o →
    ∀ listed (a : Act) w, Shut l listed → i ∈ Region.ready .any l.toArray listed → Kin l a0 a → K listed (Act.slot a) w →
      o.wp P a w (fun a' w' => ∃ v, a' = a.put o.dst v ∧ K (listed.setIfInBounds i true) (upd (Act.slot a) o.dst v) w') Q) : Steps P l Q a0 K 0 l := by
  have gen : ∀ (m : List Oper) (k : Nat), (∀ i o, m[i]? = some o → l[k + i]? = some o) → Steps P l Q a0 K k m := by
    intro m
    induction m with
    | nil => intro k _; trivial
    | cons x m ih =>
      intro k hk
      refine ⟨fun listed a w => h k x (by simpa using hk 0 x rfl) listed a w, ih (k + 1) fun i o ho => ?_⟩
      have := hk (i + 1) o (by simpa using ho)
      rwa [show k + (i + 1) = k + 1 + i by omega] at this
  exact gen l 0 (fun i o ho => by rw [Nat.zero_add]; exact ho)
end Go.Proofs.YtoalecalahkblaaGreatDoor

namespace Go.Proofs.YtoalecalahkblaaGreatDoor
def TailPost (P : Program) (l : List Oper) (n : Nat) (Q : Exit → Act → World → Prop) : Exit → Act → World → Prop
  | .normal, a, w => wpList P l.toArray Q (l.drop n) a w
  | e, a, w => Q e a w
def earlyB (l : List Oper) : Bool := (List.range l.length).all fun j => match l[j]? with
  | some o => o.guard.isNone && o.after.all fun e => !Region.binds .any e || decide (e.on < j)
  | none => true
theorem early_spec {l : List Oper} (h : earlyB l = true) {j : Nat} {o : Oper} (hj : l[j]? = some o) : o.guard = none ∧ ∀ e ∈ o.after, Region.binds .any e = true → e.on < j := by
  have hlt : j < l.length := by
    rcases Nat.lt_or_ge j l.length with h' | h'
    · exact h'
    · rw [List.getElem?_eq_none h'] at hj; cases hj
  have h1 := List.all_eq_true.1 h j (List.mem_range.2 hlt)
  rw [hj] at h1
  simp only [Bool.and_eq_true, Array.all_eq_true_iff_forall_mem, Bool.or_eq_true, Bool.not_eq_true', decide_eq_true_eq] at h1
  refine ⟨Option.isNone_iff_eq_none.1 h1.1, fun e he hb => (h1.2 e he).resolve_left (by rw [hb]; simp)⟩
def tailB (l : List Oper) (n : Nat) : Bool := earlyB l && decide (n < l.length) && Region.sinkB .any l.toArray n && Region.chainB .any l.toArray n && Region.seqB .any l.toArray (l.length - n) n (Array.replicate n true ++ Array.replicate (l.length - n) false)
section
variable {P : Program} {l : List Oper} {n : Nat} {Q : Exit → Act → World → Prop}
theorem first_ready (hE : earlyB l = true) {L : Array Bool} (hs : L.size = l.length) : ∀ (i : Nat), i < L.size → L.getD i true = false → ∃ j, j ≤ i ∧ j ∈ Region.ready .any l.toArray L := by
  intro i
  induction i using Nat.strongRecOn with
  | _ i ih =>
    intro hi hun
    have hi' : i < l.length := by omega
    by_cases hr : i ∈ Region.ready .any l.toArray L
    · exact ⟨i, Nat.le_refl _, hr⟩
    · have ho : l[i]? = some l[i] := List.getElem?_eq_getElem hi'
      have hsp := early_spec hE ho
      have : ∃ e ∈ l[i].after, Region.binds .any e = true ∧ L.getD e.on false = false := by
        apply Classical.byContradiction
        intro hno
        refine hr (mem_ready.2 ⟨hun, l[i], by simp, fun e he hb => ?_⟩)
        cases h : L.getD e.on false with
        | true => rfl
        | false => exact absurd ⟨e, he, hb, h⟩ hno
      obtain ⟨e, he, hb, hf⟩ := this
      have hlt := hsp.2 e he hb
      obtain ⟨j, hj, hr'⟩ := ih e.on hlt (by omega) (getD_in (by omega) hf)
      exact ⟨j, by omega, hr'⟩
end
end Go.Proofs.YtoalecalahkblaaGreatDoor

namespace Go.Proofs.YtoalecalahkblaaGreatDoor
open Go.RowKit
section
variable {P : Program} {o : Oper} {a : Act} {w : World} {K : Act → World → Prop} {Q : Exit → Act → World → Prop}
theorem wpM_load (t : TypeId) (x : Operand) (p V : Value) (ho : o.op = .load t x) (hv : a.eval x = p) (hr : (Instr.loadAt t p).run P w = .ok V w) (h : K (a.put o.dst V) w) : o.wp P a w K Q := by
  unfold Oper.wp execOp
  simp only [ho, hv, Sem.run_bind, hr, Result.andThen_ok]
  exact h
theorem wpM_alloc (t : TypeId) (V : Value) (w' : World) (ho : o.op = .alloc t) (hr : (Instr.alloc t true (.tuple #[])).run P w = .ok V w') (h : K (a.put o.dst V) w') : o.wp P a w K Q := by
  unfold Oper.wp execOp
  simp only [ho, Sem.run_bind, hr, Result.andThen_ok]
  exact h
theorem wpM_store (t : TypeId) (x y : Operand) (p V : Value) (w' : World) (u : Unit) (ho : o.op = .store t x y) (hv : a.eval x = p) (hv2 : a.eval y = V) (hr : (Instr.storeAt t p V).run P w = .ok u w') (h : K (a.put o.dst undef) w') : o.wp P a w K Q := by
  unfold Oper.wp execOp
  simp only [ho, hv, hv2, Sem.run_bind, hr, Result.andThen_ok]
  exact h
theorem wpM_run (V : Value) (w' : World) (hr : (execOp a.eval o).run P w = .ok (.value V) w') (h : K (a.put o.dst V) w') : o.wp P a w K Q := by
  unfold Oper.wp
  rw [hr]
  exact h
end
def noDstB (l : List Oper) (s : Nat) : Bool := l.all fun o => o.dst != some s
theorem Kin.same {l : List Oper} {a0 a : Act} (h : Kin l a0 a) {s : Nat} (hs : noDstB l s = true) : Act.slot a s = Act.slot a0 s :=
  h.slots s fun o ho e => by
    have := List.all_eq_true.1 hs o ho
    rw [e] at this
    simp at this
theorem hall_of {l : List Oper} (hE : earlyB l = true) : ∀ listed, Shut l listed → Region.ready .any l.toArray listed = [] → ∀ i, i < l.length → Up listed i := by
  intro listed hs hr i hi
  have hsz := hs.size
  cases h : listed.getD i true with
  | true =>
    unfold Up
    rw [Array.getD_eq_getD_getElem?, Array.getElem?_eq_getElem (by omega)] at h ⊢
    exact h
  | false =>
    obtain ⟨j, _, hj⟩ := first_ready hE hsz i (by omega) h
    rw [hr] at hj; cases hj
def putsAll (σ : Nat → Value) : List Oper → Act → Act
  | [], a => a
  | o :: l, a => putsAll σ l (a.put o.dst (σ (o.dst.getD 0)))
theorem puts_size (σ : Nat → Value) : ∀ (l : List Oper) (a : Act), (putsAll σ l a).tmps.size = a.tmps.size
  | [], a => rfl
  | o :: l, a => by rw [putsAll, puts_size σ l, size_put]
theorem puts_defers (σ : Nat → Value) : ∀ (l : List Oper) (a : Act), (putsAll σ l a).defers = a.defers
  | [], a => rfl
  | o :: l, a => by rw [putsAll, puts_defers σ l, defers_put]
theorem puts_slot (σ : Nat → Value) : ∀ (l : List Oper) (a : Act), (∀ o ∈ l, ∀ k, o.dst = some k → k < a.tmps.size) → ∀ s, Act.slot (putsAll σ l a) s = if (l.any fun o => o.dst == some s) = true then σ s else Act.slot a s
  | [], a, _, s => by simp [putsAll]
  | o :: l, a, h, s => by
    rw [putsAll, puts_slot σ l _ (fun o' ho' k hk => by rw [size_put]; exact h o' (by simp [ho']) k hk) s, slot_put (h o (by simp)), List.any_cons]
    cases hd : o.dst with
    | none => simp [upd]
    | some d =>
      by_cases hs : s = d
      · subst hs; simp [upd]
      · have hds : (some d == some s) = false := by simpa using fun e => hs e.symm
        simp [upd, hs, hds]
theorem act_ext {a b : Act} (h1 : a.tmps.size = b.tmps.size) (h2 : a.defers = b.defers) (h3 : ∀ s, Act.slot a s = Act.slot b s) : a = b := by
  obtain ⟨t, d⟩ := a
  obtain ⟨t', d'⟩ := b
  dsimp only at h1 h2
  subst h2
  congr 1
  refine Array.ext h1 fun i hi hi' => ?_
  have := h3 i
  simpa [Act.slot, hi, hi'] using this
theorem Kin.form {l : List Oper} {a0 a : Act} (h : Kin l a0 a) (hB : dstsB l a0.tmps.size = true) : a = putsAll (Act.slot a) l a0 := by
  have hd : ∀ o ∈ l, ∀ k, o.dst = some k → k < a0.tmps.size := fun o ho k hk => by
    unfold dstsB at hB
    rw [List.all_eq_true] at hB
    have := hB o ho
    rw [Bool.and_eq_true, hk] at this
    simpa using this.2
  refine act_ext ?_ ?_ fun s => ?_
  · rw [puts_size]; exact h.size
  · rw [puts_defers]; exact h.defers
  · rw [puts_slot _ _ _ hd]
    split
    · rfl
    · rename_i hn
      refine h.slots s fun o ho e => hn ?_
      rw [List.any_eq_true]
      exact ⟨o, ho, by rw [e]; simp⟩
theorem wpM_assign {P : Program} {o : Oper} {a : Act} {w : World} {K : Act → World → Prop} {Q : Exit → Act → World → Prop} (x : Operand) (V : Value) (ho : o.op = .assign x) (hv : a.eval x = V) (h : K (a.put o.dst V) w) : o.wp P a w K Q := by
  unfold Oper.wp execOp
  simp only [ho, hv]
  exact h
def blkOf : Value → Nat
  | .pointer (some a) => a.block
  | .slice (some a) _ _ => a.block
  | _ => 0
def vOf (l : List Oper) (σ : Nat → Value) (j : Nat) : Value := match (l[j]?).bind (·.dst) with
  | some d => σ d
  | none => undef
def dsts2B (l : List Oper) : Bool := (List.range l.length).all fun i => (List.range l.length).all fun j => i == j || match (l[i]?).bind (·.dst), (l[j]?).bind (·.dst) with
  | some a, some b => a != b
  | _, _ => true
theorem vOf_put {l : List Oper} (hD : dsts2B l = true) {i : Nat} {o : Oper} (ho : l[i]? = some o) (σ : Nat → Value) (v : Value) : (o.dst ≠ none → vOf l (upd σ o.dst v) i = v) ∧ ∀ j, j < l.length → j ≠ i → vOf l (upd σ o.dst v) j = vOf l σ j := by
  have hil : i < l.length := by
    rcases Nat.lt_or_ge i l.length with h | h
    · exact h
    · rw [List.getElem?_eq_none h] at ho; cases ho
  constructor
  · intro hd
    unfold vOf
    rw [ho]
    cases e : o.dst with
    | none => exact absurd e hd
    | some d => simp [e, upd]
  · intro j hj hji
    unfold vOf
    unfold dsts2B at hD
    rw [List.all_eq_true] at hD
    have h1 := hD i (List.mem_range.2 hil)
    rw [List.all_eq_true] at h1
    have h2 := h1 j (List.mem_range.2 hj)
    rw [ho] at h2
    cases e : o.dst with
    | none => rfl
    | some d =>
      cases e2 : (l[j]?).bind (·.dst) with
      | none => rfl
      | some d' =>
        simp only [Option.bind_some, e, e2, Bool.or_eq_true, beq_iff_eq, bne_iff_ne] at h2
        have hne : d ≠ d' := by
          rcases h2 with h2 | h2
          · exact absurd h2.symm hji
          · exact h2
        simp only [upd]
        rw [if_neg (fun h => hne h.symm)]
structure MkSt (n : Nat) (mk : Nat → Bool) (w0 : World) (F : Nat → (Nat → Value) → World → Prop) (listed : Array Bool) (τ : Nat → Value) (W : World) : Prop where
  below : Below w0.heap.size w0 W
  lo : ∀ i, i < n → mk i = true → Up listed i → w0.heap.size ≤ blkOf (τ i) ∧ blkOf (τ i) < W.heap.size
  apart : ∀ i j, i < n → j < n → mk i = true → mk j = true → Up listed i → Up listed j → i ≠ j → blkOf (τ i) ≠ blkOf (τ j)
  facts : ∀ j, j < n → Up listed j → F j τ W
theorem wp_region_mk {P : Program} {l : List Oper} {id : Nat} {Q : Exit → Act → World → Prop} {a0 : Act} {w : World} (hm : P.follows .mixedOrders = true)
    (hB : dstsB l a0.tmps.size = true) (hD : dsts2B l = true) (mk : Nat → Bool) (F : Nat → (Nat → Value) → World → Prop)
    (hstep : ∀ (i : Nat) (o : Oper), l[i]? = some o → ∀ listed (a : Act) W, Shut l listed → i ∈ Region.ready .any l.toArray listed → Kin l a0 a → MkSt l.length mk w.drew F listed (vOf l (Act.slot a)) W →
      o.wp P a W (fun a' W' => ∃ v, a' = a.put o.dst v ∧ Below w.drew.heap.size W W' ∧ (mk i = true → W.heap.size ≤ blkOf v ∧ blkOf v < W'.heap.size) ∧
        ∀ τ', (o.dst ≠ none → τ' i = v) → (∀ j, j < l.length → j ≠ i → τ' j = vOf l (Act.slot a) j) → F i τ' W' ∧ ∀ j, j < l.length → j ≠ i → Up listed j → F j τ' W') Q)
    (hmk : ∀ (i : Nat) (o : Oper), l[i]? = some o → mk i = true → o.dst ≠ none)
    (hend : ∀ listed (a : Act) W, (∀ i, i < l.length → Up listed i) → Kin l a0 a → MkSt l.length mk w.drew F listed (vOf l (Act.slot a)) W → Q .normal a W)
    (hall : ∀ listed, Shut l listed → Region.ready .any l.toArray listed = [] → ∀ i, i < l.length → Up listed i) : (Code.region id l.toArray true).wp P Q a0 w := by
  refine wp_region_slots hm hB (fun listed σ W => MkSt l.length mk w.drew F listed (vOf l σ) W) ⟨Below.refl _ _, fun i _ _ hu => ?_, fun i j _ _ _ _ hu => ?_, fun j _ hu => ?_⟩ (steps_all fun i o ho listed a W hsh hi hk hK => ?_) hend hall
  · unfold Up at hu; rw [getD_replicate_false] at hu; cases hu
  · unfold Up at hu; rw [getD_replicate_false] at hu; cases hu
  · unfold Up at hu; rw [getD_replicate_false] at hu; cases hu
  · refine Oper.wp_mono ?_ (hstep i o ho listed a W hsh hi hk hK)
    rintro a' W' ⟨v, rfl, hb, hnew, hf⟩
    refine ⟨v, rfl, ?_⟩
    obtain ⟨p1, p2⟩ := vOf_put hD ho (Act.slot a) v
    generalize vOf l (upd (Act.slot a) o.dst v) = τ' at *
    obtain ⟨f1, f2⟩ := hf τ' p1 p2
    refine ⟨hK.below.trans hb, fun j hj hm' hu => ?_, fun j k hj hk' hmj hmk' huj huk hjk => ?_, fun j hj hu => ?_⟩
    · by_cases e : j = i
      · subst e
        rw [p1 (hmk j o ho hm')]
        have := hnew hm'
        have := hK.below.size
        omega
      · rw [p2 j hj e]
        have := hK.lo j hj hm' (up_set hu (fun h => e h.symm))
        have := hb.size
        omega
    · by_cases e1 : j = i
      · subst e1
        have e2 : k ≠ j := fun h => hjk h.symm
        rw [p1 (hmk j o ho hmj), p2 k hk' e2]
        have h1 := hnew hmj
        have h2 := hK.lo k hk' hmk' (up_set huk (fun h => e2 h.symm))
        omega
      · by_cases e2 : k = i
        · subst e2
          rw [p1 (hmk k o ho hmk'), p2 j hj e1]
          have h1 := hnew hmk'
          have h2 := hK.lo j hj hmj (up_set huj (fun h => e1 h.symm))
          omega
        · rw [p2 j hj e1, p2 k hk' e2]
          exact hK.apart j k hj hk' hmj hmk' (up_set huj (fun h => e1 h.symm)) (up_set huk (fun h => e2 h.symm)) hjk
    · by_cases e : j = i
      · subst e; exact f1
      · exact f2 j hj e (up_set hu (fun h => e h.symm))
end Go.Proofs.YtoalecalahkblaaGreatDoor
