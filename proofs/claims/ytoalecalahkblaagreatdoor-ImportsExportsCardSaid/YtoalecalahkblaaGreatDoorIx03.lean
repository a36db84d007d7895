/- Texts of this seat, merged. -/
import Derived.Lib.AtoiErrMem
import Derived.Shelf.Strconv.ErrVarAll
import Derived.Test.YtoalecalahkblaaGreatDoorProg
import Derived.Outline
import Derived.Shelf.Abstract
import Derived.StillTailTactics
import Derived.RegionTactic
import Derived.Deep.CutRange
import Derived.Deep.CutBlock
import Derived.Test.YtoalecalahkblaaGreatDoorIx01
import Derived.Test.YtoalecalahkblaaGreatDoorIx02
set_option linter.all false
set_option linter.all false
namespace Go.Proofs.YtoalecalahkblaaGreatDoor
open Go.RowKit
theorem rowR_bad {sep : UInt8} {n : Nat} {acc : List Bt} {t rest : Bt} {e : Int} (h : cellR sep t = .bad rest e) : rowR sep n acc t = .bad rest e := by
  cases n <;> (unfold rowR; rw [h])
theorem rowR_end {sep : UInt8} {n : Nat} {acc : List Bt} {t b : Bt} (h : cellR sep t = .ok b []) : rowR sep n acc t = .ok (acc ++ [b]) [] := by
  cases n <;> (unfold rowR; rw [h])
theorem rowR_line {sep : UInt8} {n : Nat} {acc : List Bt} {t b rest : Bt} (h : cellR sep t = .ok b (10 :: rest)) : rowR sep n acc t = .ok (acc ++ [b]) rest := by
  cases n with
  | zero => unfold rowR; rw [h]
  | succ n => unfold rowR; rw [h]; simp only [if_pos]
theorem rowR_next {sep c : UInt8} {n : Nat} {acc : List Bt} {t b rest : Bt} (h : cellR sep t = .ok b (c :: rest)) (hc : c ≠ 10) : rowR sep (n + 1) acc t = rowR sep n (acc ++ [b]) rest := by
  conv => lhs; unfold rowR
  rw [h]; simp only [if_neg hc]
theorem tabR_end {sep : UInt8} {n : Nat} {acc : List (List Bt)} : tabR sep n acc [] = .ok acc := by cases n <;> rfl
theorem tabR_full {sep c : UInt8} {n : Nat} {acc : List (List Bt)} {t : Bt} (h : acc.length = 2001) : tabR sep n acc (c :: t) = .bad (c :: t) 5 := by
  cases n with
  | zero => rfl
  | succ n => unfold tabR; rw [if_pos h]
theorem tabR_bad {sep c : UInt8} {n : Nat} {acc : List (List Bt)} {t rest : Bt} {e : Int} (h : acc.length ≠ 2001) (hr : rowR sep (c :: t).length [] (c :: t) = .bad rest e) : tabR sep (n + 1) acc (c :: t) = .bad rest e := by
  unfold tabR; rw [if_neg h, hr]
theorem tabR_row {sep c : UInt8} {n : Nat} {acc : List (List Bt)} {t rest : Bt} {r : List Bt} (h : acc.length ≠ 2001) (hr : rowR sep (c :: t).length [] (c :: t) = .ok r rest) : tabR sep (n + 1) acc (c :: t) = tabR sep n (acc ++ [r]) rest := by
  conv => lhs; unfold tabR
  rw [if_neg h, hr]
def RetRows (p : List (List Bt) × (Int × Int) × Int) (w : World) (e : Ending) (w' : World) : Prop := ∃ v, e = .returned (.tuple #[v, .agg #[.int .i64 p.2.1.1, .int .i64 p.2.1.2], .int .i64 p.2.2]) ∧ SlSS (Lt w'.heap.size) w' v p.1 ∧ Below w.heap.size w w'
theorem own_slPD {D : Nat → Prop} {w : World} {base t : Nat} {v : Value} {ls : List Bt} (h : w.ownsRow base t 1 v ls.length (ls.map fun l => Value.string (bsOf l))) (hD : ∀ g, v.ownBlock = some g → D g) (hf : ∀ l ∈ ls, l.length ≤ maxLen) : SlP D w v ls := by
  have e : (ls.map fun l => Value.string (bsOf l)) = (ls.map bsOf).map Value.string := by rw [List.map_map]; rfl
  rw [e] at h
  have hl : ls.length = (ls.map bsOf).length := by rw [List.length_map]
  rw [hl] at h
  refine Sl.of_own1 h rfl hD fun i x hx => ?_
  refine ⟨.string x, ?_, rfl, ?_⟩
  · rw [List.getElem?_map, hx]; rfl
  · obtain ⟨l, hl, rfl⟩ := List.mem_map.1 (List.mem_of_getElem? hx)
    rw [bs_size]; exact hf l hl
def OwnT (w : World) (base : Nat) (v : Value) (ls : List Bt) : Prop := w.ownsRow base 9 1 v ls.length (ls.map fun l => Value.string (bsOf l))
theorem OwnT.nil {w : World} {base : Nat} : OwnT w base (.slice none 0 0) [] := World.ownsRow_nil _ _ _ _
theorem OwnT.chg {R base : Nat} {w w' : World} {v : Value} {l : List Bt} (h : OwnT w base v l) (k : Chg (One R) w w') (hR : R < base) : OwnT w' base v l := by
  refine World.ownsRow.kept h k.grown ?_
  cases e : v.ownBlock with
  | none => exact .inl rfl
  | some g => exact .inr (fun h' => by injection h' with h'; have := (World.ownsRow.lt h g e).1; omega)
theorem OwnT.open_ {base : Nat} {w : World} {v : Value} {l : List Bt} (h : OwnT w base v l) : ∃ A c, v = .slice A l.length c := by
  rcases h.2 with ⟨rfl, h0⟩ | ⟨g, cap, cur, rfl, _⟩
  · exact ⟨none, 0, by rw [h0]⟩
  · exact ⟨_, _, rfl⟩
theorem appStr : AppInfo Tryz.prog 51 9 1 := AppInfo.mk' (z := .string ⟨#[]⟩) (bytes := 16) Tryz.underlying51 (by kernel_rfl) (by decide) rfl (by decide)
theorem appStrs : AppInfo Tryz.prog 22 51 1 := AppInfo.mk' (z := .slice none 0 0) (bytes := 24) Tryz.underlying22 (by kernel_rfl) (by decide) rfl (by decide)
theorem OwnR.chg {α : Type} {size : Nat} {E : ElemR α} {X : Nat → Prop} {R base t : Nat} {w w' : World} {v : Value} {xs : List α} (h : OwnR size E X w base t v xs) (hE : ElemR.Kept E) (k : Chg (One R) w w') (hX : X R) (hR : R < base) : OwnR size E X w' base t v xs :=
  h.grown hE k.grown fun g e => by
    injection e with e
    subst e
    exact ⟨hX, fun e => by have := (h.lt _ e).1; omega⟩
theorem bset2' {B g : Nat} {w0 w : World} (h : Below B w0 w) (hg : B ≤ g) (a b : Value) : Below B w0 ((w.setCell ⟨g, 0, none⟩ a).setCell ⟨g, 1, none⟩ b) :=
  (h.setCell (p := ⟨g, 0, none⟩) hg a).setCell (p := ⟨g, 1, none⟩) hg b
theorem Blk.put2 {w : World} {g t : Nat} {a b : Value} (h : Blk w g t #[a, b]) (x y : Value) : Blk ((w.setCell ⟨g, 0, none⟩ x).setCell ⟨g, 1, none⟩ y) g t #[x, y] := (h.set_ 0 x).set_ 1 y
set_option maxHeartbeats 8000000 in
set_option maxRecDepth 100000 in
theorem cells_any (s : ByteArray) (sep : UInt8) (w : World) (hsz : s.size ≤ 9223372036854775807) :
    Calls Tryz.prog 22 #[.string s, .int .u8 (sep.toNat : Int)] w (RetRows (cellsE sep s.data.toList) w) := by
  have hlen : s.data.toList.length = s.size := by simp
  have HSEP := Lib.hid (separates_any sep)
  obtain ⟨q, hq⟩ : ∃ q, isSep sep = q := ⟨_, rfl⟩
  rw [hq] at HSEP
  have hb1 := bone w (.cells #[.int .i64 0, .int .i64 0] 40)
  have hP1 := Blk.new w 40 #[.int .i64 0, .int .i64 0]
  have f0 := hP1.frozen 0
  have f1 := hP1.frozen 1
  cases q with
  | false =>
    have HE : Hid (cellsE sep s.data.toList = ([], (0, 0), 1)) := by show _ = _; unfold cellsE; rw [if_pos hq]
    clear hq hlen
    go_enter Tryz.func22, Tryz.ntmps22
    go_upto_region 1 with fail
    obtain ⟨w1, hw1⟩ : ∃ w1, w.alloc (.cells #[.int .i64 0, .int .i64 0] 40) = w1 := ⟨_, rfl⟩
    rw [hw1] at hb1 hP1 f0 f1 ⊢
    clear hw1
    obtain ⟨d0, d1⟩ := hP1.c2
    go_wp2_with fail
    (with_reducible refine (HSEP.out _).mono ?_)
    rintro _ w2 ⟨rfl, rfl⟩
    go_wp2_with fail
    obtain ⟨r0, r1⟩ := (hP1.put2 (.int .i64 0) (.int .i64 0)).c2
    refine bodyPost_ret (v := .tuple #[.slice none 0 0, .agg #[.int .i64 0, .int .i64 0], .int .i64 1]) (by simp [results, Tryz.results22, go_sem, r0, r1]) rfl ?_
    rw [HE.out]
    exact ⟨_, rfl, Sl.none_, bset2' hb1 (Nat.le_refl _) _ _⟩
  | true =>
  by_cases hlong : 16384 < s.size
  · have HE : Hid (cellsE sep s.data.toList = ([], (0, 0), 5)) := by show _ = _; unfold cellsE; rw [if_neg (by rw [hq]; decide), if_pos (by omega)]
    have i1 : (16384 : Int) < (s.size : Int) := by omega
    clear hq hlen
    go_enter Tryz.func22, Tryz.ntmps22
    go_upto_region 1 with fail
    obtain ⟨w1, hw1⟩ : ∃ w1, w.alloc (.cells #[.int .i64 0, .int .i64 0] 40) = w1 := ⟨_, rfl⟩
    rw [hw1] at hb1 hP1 f0 f1 ⊢
    clear hw1
    obtain ⟨d0, d1⟩ := hP1.c2
    go_wp2_with fail
    (with_reducible refine (HSEP.out _).mono ?_)
    rintro _ w2 ⟨rfl, rfl⟩
    go_wp2_with fail
    obtain ⟨r0, r1⟩ := (hP1.put2 (.int .i64 0) (.int .i64 0)).c2
    refine bodyPost_ret (v := .tuple #[.slice none 0 0, .agg #[.int .i64 0, .int .i64 0], .int .i64 5]) (by simp [results, Tryz.results22, go_sem, r0, r1]) rfl ?_
    rw [HE.out]
    exact ⟨_, rfl, Sl.none_, bset2' hb1 (Nat.le_refl _) _ _⟩
  have hs : s.size ≤ 16384 := by omega
  have HE : Hid (cellsE sep s.data.toList = tabE s.data.toList (tabR sep s.data.toList.length [] s.data.toList)) := by
    show _ = _
    unfold cellsE
    rw [if_neg (by rw [hq]; decide), if_neg (by omega)]
  have i1 : ¬ (16384 : Int) < (s.size : Int) := by omega
  clear hq hlong
  go_enter Tryz.func22, Tryz.ntmps22
  go_upto_region 1 with fail
  obtain ⟨w1, hw1⟩ : ∃ w1, w.alloc (.cells #[.int .i64 0, .int .i64 0] 40) = w1 := ⟨_, rfl⟩
  have hs1 : w1.heap.size = w.heap.size + 1 := by rw [← hw1]; simp
  rw [hw1] at hb1 hP1 f0 f1 ⊢
  clear hw1 f0 f1
  go_wp2_with fail
  (with_reducible refine (HSEP.out _).mono ?_)
  rintro _ w2 ⟨rfl, rfl⟩
  go_upto_region 6 with fail
  have hR2 := Blk.new w1 107 #[.string s, .int .u8 (sep.toNat : Int), .int .i64 0, .int .i64 1, .int .i64 1]
  have hb12 := bone w1 (.cells #[.string s, .int .u8 (sep.toNat : Int), .int .i64 0, .int .i64 1, .int .i64 1] 107)
  have hP2 := hP1.now hb12
  have hb2 := bbox hb1 (.cells #[.string s, .int .u8 (sep.toNat : Int), .int .i64 0, .int .i64 1, .int .i64 1] 107)
  have hs2 : (w1.alloc (.cells #[.string s, .int .u8 (sep.toNat : Int), .int .i64 0, .int .i64 1, .int .i64 1] 107)).heap.size = w.heap.size + 2 := by simp [hs1]
  rw [hs1] at hR2
  obtain ⟨w2, hw2⟩ : ∃ w2, w1.alloc (.cells #[.string s, .int .u8 (sep.toNat : Int), .int .i64 0, .int .i64 1, .int .i64 1] 107) = w2 := ⟨_, rfl⟩
  rw [hw2] at hR2 hP2 hb2 hs2 ⊢
  have HR2 : Hid (RdC w2 (w.heap.size + 1) s sep 0) := hR2
  have HP2 := Lib.hid hP2
  have HB2 := Lib.hid hb2
  have HS2 := Lib.hid hs2
  clear hw2 hb12 hP1 hb1 hs1 hR2 hP2 hb2 hs2
  go_wp2_with fail
  go_loopg [8] s.size (fun g1 ov wr => ∃ (i n : Nat) (acc : List (List Bt)), i ≤ s.size ∧ s.size ≤ g1 + i ∧ acc.length ≤ i ∧ RdC wr (w.heap.size + 1) s sep i ∧ Blk wr w.heap.size 40 #[.int .i64 0, .int .i64 0] ∧ OwnR 1 RStrs (Lt w2.heap.size) wr w2.heap.size 51 ov acc ∧ Chg (One (w.heap.size + 1)) w2 wr ∧ s.size ≤ n + i ∧ Hid (tabR sep s.data.toList.length [] s.data.toList = tabR sep n acc (s.data.toList.drop i)))
  case atStart => exact ⟨0, s.size, [], Nat.zero_le _, by omega, Nat.le_refl _, HR2.out, HP2.out, OwnR.nil, Chg.refl, by omega, by show _ = _; rw [hlen, List.drop_zero]⟩
  case round =>
    obtain ⟨i, n, acc, his, hg, hal, hR, hP, hO, hC, hn, hQ⟩ := hrel
    have HRI := Lib.hid hR
    have HPI := Lib.hid hP
    have HOI := Lib.hid hO
    have HC := Lib.hid hC
    have HMI := Lib.hid (more_any _ s sep i wr hR hs)
    obtain ⟨A, cb, hA⟩ := hO.open_
    subst hA
    clear hR hP hO hC
    by_cases hi : i < s.size
    · have HM : Hid (Calls Tryz.prog 68 #[.pointer (some ⟨w.heap.size + 1, 0, none⟩)] wr fun e w' => e = .returned (.bool true) ∧ Below wr.heap.size wr w') := by have := HMI.out; rwa [decide_eq_true hi] at this
      have HDI := Lib.hid (dropAt hi)
      clear HMI
      go_wp2_with fail
      (with_reducible refine HM.out.mono ?_)
      rintro _ w3 ⟨rfl, hb3⟩
      have HR3 : Hid (RdC w3 (w.heap.size + 1) s sep i) := Blk.now HRI.out hb3
      have HP3 := Lib.hid (HPI.out.now hb3)
      have HO3 := Lib.hid (HOI.out.now RStrs.kept hb3)
      have HC3 := Lib.hid (HC.out.trans (Chg.of_below hb3))
      clear HM hb3 HRI HPI HOI HC
      by_cases hful : acc.length = 2001
      · have e1 : ((acc.length : Int) == 2001) = true := by rw [hful]; rfl
        have HT : Hid (tabR sep s.data.toList.length [] s.data.toList = .bad (s.data.toList.drop i) 5) := by
          show _ = _
          rw [hQ.out, HDI.out, tabR_full hful]
        have hB3 : Blk w3 (w.heap.size + 1) 107 (rdrCells s sep i (plAt s.data.toList i)) := HR3.out
        obtain ⟨c0, c1, c2, c3, c4⟩ := hB3.c5
        obtain ⟨d0, d1⟩ := HP3.out.c2
        have f0 := HP3.out.frozen 0
        have f1 := HP3.out.frozen 1
        have HB3 := Lib.hid (HB2.out.trans (HC3.out.below (B := w.heap.size) (by have := HB2.out.size; omega) fun b hb e => by have e : b = w.heap.size + 1 := e; omega))
        clear hful hB3
        obtain ⟨⟨p1, p2⟩, hpl⟩ : ∃ pl, plAt s.data.toList i = pl := ⟨_, rfl⟩
        rw [hpl] at c3 c4
        have HPL := Lib.hid hpl
        clear hpl
        simp only at c3 c4
        go_upto_region 9 with fail
        go_region
        have hz := (HP3.out.put2 (.int .i64 p1) (.int .i64 p2)).drew
        have hbz := (bset2' HB3.out (Nat.le_refl _) (.int .i64 p1) (.int .i64 p2)).drew
        generalize ((w3.setCell ⟨w.heap.size, 0, none⟩ (.int .i64 p1)).setCell ⟨w.heap.size, 1, none⟩ (.int .i64 p2)).drew = wz at hz hbz ⊢
        obtain ⟨r0, r1⟩ := hz.c2
        go_wp2_with fail
        refine bodyPost_ret (v := .tuple #[.slice none 0 0, .agg #[.int .i64 p1, .int .i64 p2], .int .i64 5]) (by simp [results, Tryz.results22, go_sem, r0, r1]) rfl ?_
        have HF : cellsE sep s.data.toList = ([], (p1, p2), 5) := by
          rw [HE.out, HT.out]
          show ([], plAt s.data.toList (s.data.toList.length - (s.data.toList.drop i).length), 5) = _
          rw [List.length_drop, hlen, show s.size - (s.size - i) = i by omega, HPL.out]
        rw [HF]
        exact ⟨_, rfl, Sl.none_, hbz⟩
      · have e1 : ((acc.length : Int) == 2001) = false := beq_false_of_ne (by omega)
        go_wp2_with fail
        go_loopg [9] s.size (fun g2 rv wr2 => ∃ (j m : Nat) (racc : List Bt), i ≤ j ∧ j ≤ s.size ∧ s.size ≤ g2 + j ∧ racc.length ≤ j ∧ (∀ l ∈ racc, l.length ≤ maxLen) ∧ RdC wr2 (w.heap.size + 1) s sep j ∧ OwnT wr2 w3.heap.size rv racc ∧ Chg (One (w.heap.size + 1)) w3 wr2 ∧ s.size ≤ m + j ∧ Hid (rowR sep (s.data.toList.drop i).length [] (s.data.toList.drop i) = rowR sep m racc (s.data.toList.drop j)))
        case atStart => exact ⟨i, (s.data.toList.drop i).length, [], Nat.le_refl _, his, by omega, Nat.zero_le _, (fun l hl => by cases hl), HR3.out, OwnT.nil, Chg.refl, by rw [List.length_drop]; omega, rfl⟩
        case round =>
          obtain ⟨j, m, racc, hij, hjs, hg2, hrl, hrb, hR, hT, hC, hm, hRQ⟩ := hrel
          have HT := Lib.hid hT
          have HC := Lib.hid hC
          have HCELL := Lib.hid (cell_any _ s sep j wr hR hs hjs)
          obtain ⟨Ar, cr, hA⟩ := hT.open_
          subst hA
          clear hR hT hC
          go_wp2_with fail
          (with_reducible refine HCELL.out.mono ?_)
          rintro e w4 ⟨j1, hj1, hj1s, hR4, hC4, hm4⟩
          obtain ⟨cr, hcr⟩ : ∃ cr, cellR sep (s.data.toList.drop j) = cr := ⟨_, rfl⟩
          rw [hcr] at hm4
          have HC4 := Lib.hid (HC.out.trans hC4)
          have HT4 := Lib.hid (HT.out.chg hC4 (by have := HS2.out; have := HC3.out.size; omega))
          have HR4 := Lib.hid hR4
          clear HCELL HC HT hR4 hC4
          cases cr with
          | bad rest k =>
            obtain ⟨rfl, hk, rfl⟩ := hm4
            have hkk : (k != 0) = true := by simpa using hk
            obtain ⟨n', rfl⟩ : ∃ n', n = n' + 1 := ⟨n - 1, by omega⟩
            have HTT : Hid (tabR sep s.data.toList.length [] s.data.toList = .bad (s.data.toList.drop j1) k) := by
              show _ = _
              rw [hQ.out, HDI.out, tabR_bad hful (by rw [← HDI.out, hRQ.out, rowR_bad hcr])]
            have hB4 : Blk w4 (w.heap.size + 1) 107 (rdrCells s sep j1 (plAt s.data.toList j1)) := HR4.out
            obtain ⟨c0, c1, c2, c3, c4⟩ := hB4.c5
            have HP4 := Lib.hid (HP3.out.chg HC4.out (show ¬ w.heap.size = w.heap.size + 1 by omega))
            obtain ⟨d0, d1⟩ := HP4.out.c2
            have f0 := HP4.out.frozen 0
            have f1 := HP4.out.frozen 1
            have HB4 := Lib.hid (HB2.out.trans ((HC3.out.trans HC4.out).below (B := w.heap.size) (by have := HB2.out.size; omega) fun b hb e => by have e : b = w.heap.size + 1 := e; omega))
            clear hB4 hcr hk
            obtain ⟨⟨p1, p2⟩, hpl⟩ : ∃ pl, plAt s.data.toList j1 = pl := ⟨_, rfl⟩
            rw [hpl] at c3 c4
            have HPL := Lib.hid hpl
            clear hpl
            simp only at c3 c4
            go_upto_region 13 with fail
            go_region
            have hz := (HP4.out.put2 (.int .i64 p1) (.int .i64 p2)).drew
            have hbz := (bset2' HB4.out (Nat.le_refl _) (.int .i64 p1) (.int .i64 p2)).drew
            generalize ((w4.setCell ⟨w.heap.size, 0, none⟩ (.int .i64 p1)).setCell ⟨w.heap.size, 1, none⟩ (.int .i64 p2)).drew = wz at hz hbz ⊢
            obtain ⟨r0, r1⟩ := hz.c2
            go_wp2_with fail
            refine bodyPost_ret (v := .tuple #[.slice none 0 0, .agg #[.int .i64 p1, .int .i64 p2], .int .i64 k]) (by simp [results, Tryz.results22, go_sem, r0, r1]) rfl ?_
            have HF : cellsE sep s.data.toList = ([], (p1, p2), k) := by
              rw [HE.out, HTT.out]
              show ([], plAt s.data.toList (s.data.toList.length - (s.data.toList.drop j1).length), k) = _
              rw [List.length_drop, hlen, show s.size - (s.size - j1) = j1 by omega, HPL.out]
            rw [HF]
            exact ⟨_, rfl, Sl.none_, hbz⟩
          | ok b rest =>
            obtain ⟨hrest, hbl, rfl⟩ := hm4
            have HS4 := Lib.hid HC4.out.size
            have hbm : b.length ≤ maxLen := by unfold maxLen; omega
            have HCR := Lib.hid hcr
            have HREST := Lib.hid hrest
            clear hcr hrest
            go_upto_region 15 with (at_builtin; refine wpList_push appStr rfl (.tmp 48) (.tmp 50) rfl w4 [.string (bsOf b)] rfl (fun u hu => by simp at hu; subst hu; rfl) _ racc.length (racc.map fun l => Value.string (bsOf l)) rfl HT4.out rfl (by omega) HS4.out ?_; intro v' w5 hown hgr hat)
            have hrl2 : (racc ++ [b]).length = racc.length + 1 := by rw [List.length_append, List.length_singleton]
            have HT5 : Hid (OwnT w5 w3.heap.size v' (racc ++ [b])) := by
              show World.ownsRow _ _ _ _ _ _ _
              rw [hrl2, List.map_append]; exact hown
            have HR5 := Lib.hid (HR4.out.grown hgr (fun e => by have := (World.ownsRow.lt HT4.out _ e.symm).1; have := HS2.out; have := HC3.out.size; omega))
            have HC5 := Lib.hid (HC4.out.more hgr (fun g hg => .inl (World.ownsRow.lt HT4.out g hg).1))
            have hrb2 : ∀ l ∈ racc ++ [b], l.length ≤ maxLen := fun l hl => by
              rcases List.mem_append.1 hl with hl | hl
              · exact hrb l hl
              · rw [List.mem_singleton] at hl; rw [hl]; exact hbm
            obtain ⟨Av, cv, hv⟩ := HT5.out.open_
            rw [hrl2] at hv
            subst hv
            clear hown hgr hat HT4 HR4 HC4 hrb hbm
            have HMJ := Lib.hid (more_any _ s sep j1 w5 HR5.out hs)
            go_cut [59] from 52 to 59 (fun x W => ∃ (q : Bool) (j2 : Nat), x = .bool q ∧ RdC W (w.heap.size + 1) s sep j2 ∧ Chg (One (w.heap.size + 1)) w5 W ∧ i < j2 ∧ j2 ≤ s.size ∧ j1 ≤ j2 ∧ j ≤ j2 ∧ (q = true → rowR sep m racc (s.data.toList.drop j) = .ok (racc ++ [b]) (s.data.toList.drop j2)) ∧ (q = false → j < j2 ∧ 1 ≤ m ∧ rowR sep m racc (s.data.toList.drop j) = rowR sep (m - 1) (racc ++ [b]) (s.data.toList.drop j2)))
            case first =>
              by_cases hj1 : j1 < s.size
              · have HM : Hid (Calls Tryz.prog 68 #[.pointer (some ⟨w.heap.size + 1, 0, none⟩)] w5 fun e w' => e = .returned (.bool true) ∧ Below w5.heap.size w5 w') := by have := HMJ.out; rwa [decide_eq_true hj1] at this
                have HDJ := Lib.hid (dropAt hj1)
                have e3 := beqI s[j1] 10 10 rfl
                have HN0 := Lib.hid (fun W hW => next_any (w.heap.size + 1) s sep j1 W hW hs hj1)
                generalize s[j1] = c at *
                obtain ⟨z, hz⟩ : ∃ z, (c.toNat : Int) = z := ⟨_, rfl⟩
                rw [hz] at e3 HN0
                obtain ⟨q, hq⟩ : ∃ q, (c == 10) = q := ⟨_, rfl⟩
                rw [hq] at e3
                have HQQ := Lib.hid hq
                clear HMJ hz hq
                go_wp2_with fail
                (with_reducible refine HM.out.mono ?_)
                rintro _ w6 ⟨rfl, hb6⟩
                have HR6 : Hid (RdC w6 (w.heap.size + 1) s sep j1) := Blk.now HR5.out hb6
                have HC6 := Lib.hid (Chg.of_below (S := One (w.heap.size + 1)) hb6)
                clear hb6
                go_wp2_with fail
                (with_reducible refine (HN0.out w6 HR6.out).mono ?_)
                rintro _ w7 ⟨rfl, hR7, hC7⟩
                have HR7 := Lib.hid hR7
                have HC7 := Lib.hid (HC6.out.trans hC7)
                clear hR7 hC7
                go_wp2_with fail
                go_meet
                refine ⟨q, j1 + 1, rfl, HR7.out, HC7.out, by omega, by omega, by omega, by omega, fun h => ?_, fun h => ?_⟩
                · have hc : c = 10 := by have := HQQ.out; rw [h] at this; exact beq_iff_eq.1 this
                  have h1 := HCR.out
                  rw [HREST.out, HDJ.out, hc] at h1
                  exact rowR_line h1
                · have hc : c ≠ 10 := fun e => by have := HQQ.out; rw [h, e] at this; cases this
                  have h1 := HCR.out
                  rw [HREST.out, HDJ.out] at h1
                  obtain ⟨m', rfl⟩ : ∃ m', m = m' + 1 := ⟨m - 1, by omega⟩
                  exact ⟨by omega, by omega, rowR_next h1 hc⟩
              · have HM : Hid (Calls Tryz.prog 68 #[.pointer (some ⟨w.heap.size + 1, 0, none⟩)] w5 fun e w' => e = .returned (.bool false) ∧ Below w5.heap.size w5 w') := by have := HMJ.out; rwa [decide_eq_false hj1] at this
                clear HMJ
                go_wp2_with fail
                (with_reducible refine HM.out.mono ?_)
                rintro _ w6 ⟨rfl, hb6⟩
                have HR6 : Hid (RdC w6 (w.heap.size + 1) s sep j1) := Blk.now HR5.out hb6
                have HC6 := Lib.hid (Chg.of_below (S := One (w.heap.size + 1)) hb6)
                clear hb6
                go_wp2_with fail
                go_meet
                have hde : s.data.toList.drop j1 = [] := dropEnd (by omega)
                refine ⟨true, j1, rfl, HR6.out, HC6.out, by omega, by omega, by omega, by omega, fun h => ?_, fun h => by cases h⟩
                have h1 := HCR.out
                rw [HREST.out, hde] at h1
                rw [hde]
                exact rowR_end h1
            obtain ⟨q, j2, rfl, hR6, hC6, hij2, hj2s, hj12, hjj2, hqt, hqf⟩ := hcut
            have HT6 := Lib.hid (HT5.out.chg hC6 (by have := HS2.out; have := HC3.out.size; omega))
            have HC6 := Lib.hid (HC5.out.trans hC6)
            have HR6 := Lib.hid hR6
            clear hR6 hC6 HT5 HC5 HR5 HMJ
            cases q with
            | false =>
              obtain ⟨hlt, hm1, hrw⟩ := hqf rfl
              have HRW : Hid (rowR sep (s.data.toList.drop i).length [] (s.data.toList.drop i) = rowR sep (m - 1) (racc ++ [b]) (s.data.toList.drop j2)) := by show _ = _; rw [hRQ.out, hrw]
              clear hqt hqf hrw
              go_wp2_with fail
              go_roundg (s.size - j2)
              case measure => omega
              case rel => exact ⟨j2, m - 1, racc ++ [b], by omega, hj2s, by omega, by omega, hrb2, HR6.out, HT6.out, HC6.out, by omega, HRW.out⟩
            | true =>
              have hrw := hqt rfl
              obtain ⟨n', rfl⟩ : ∃ n', n = n' + 1 := ⟨n - 1, by omega⟩
              have HTR : Hid (tabR sep s.data.toList.length [] s.data.toList = tabR sep n' (acc ++ [racc ++ [b]]) (s.data.toList.drop j2)) := by
                show _ = _
                rw [hQ.out, HDI.out, tabR_row hful (by rw [← HDI.out, hRQ.out, hrw])]
              clear hqt hqf hrw
              have HP6 := Lib.hid (HP3.out.chg HC6.out (show ¬ w.heap.size = w.heap.size + 1 by omega))
              have HO6 := Lib.hid (OwnR.chg HO3.out RStrs.kept HC6.out (show w.heap.size + 1 < w2.heap.size by have := HS2.out; omega) (by have := HS2.out; omega))
              have HC6' := Lib.hid (HC3.out.trans HC6.out)
              have HS6 := Lib.hid HC6'.out.size
              have HY : Hid (RStrs (Off (Lt w2.heap.size) wc (.slice A acc.length cb)) wc (racc ++ [b]) [.slice Av (racc.length + 1) cv]) := by
                refine ⟨_, rfl, own_slPD HT6.out (fun g hg => ?_) hrb2⟩
                have h1 := World.ownsRow.lt HT6.out g hg
                have h2 := HS2.out
                have h3 := HC3.out.size
                refine ⟨h1.2, fun e => ?_, fun e => ?_⟩
                · have := (HO3.out.lt g e).2
                  omega
                · have e : g < w2.heap.size := e
                  omega
              clear HO3 HP3 HR3 HT6 HC6 hrb2
              go_wp2_with (at_builtin; refine wpList_pushR (X := Lt w2.heap.size) appStrs RStrs.kept rfl (.tmp 60) (.tmp 62) rfl wc [.slice Av (racc.length + 1) cv] rfl (fun u hu => by simp at hu; subst hu; rfl) _ acc (racc ++ [b]) rfl HO6.out HY.out rfl (by omega) HS6.out ?_; intro v' w7 hown hgr hat)
              have HO7 := Lib.hid hown
              have HG7 := Lib.hid hgr
              clear hown hgr hat
              go_roundg (s.size - j2)
              case measure => omega
              case rel =>
                have hne : ∀ x, x < w2.heap.size → some x ≠ (Value.slice A acc.length cb).ownBlock := fun x hx e => by
                  have := (HO6.out.lt x e.symm).1
                  omega
                refine ⟨j2, n', acc ++ [racc ++ [b]], hj2s, by omega, by rw [List.length_append, List.length_singleton]; omega, HR6.out.grown HG7.out (hne _ (by have := HS2.out; omega)), HP6.out.grown HG7.out (hne _ (by have := HS2.out; omega)), HO7.out, HC6'.out.more HG7.out (fun g hg => .inl (HO6.out.lt g hg).1), by omega, HTR.out⟩
    · have HM : Hid (Calls Tryz.prog 68 #[.pointer (some ⟨w.heap.size + 1, 0, none⟩)] wr fun e w' => e = .returned (.bool false) ∧ Below wr.heap.size wr w') := by have := HMI.out; rwa [decide_eq_false hi] at this
      have HF : Hid (cellsE sep s.data.toList = (acc, (0, 0), 0)) := by
        show _ = _
        rw [HE.out, hQ.out, dropEnd (by omega), tabR_end]; rfl
      clear HMI
      go_wp2_with fail
      (with_reducible refine HM.out.mono ?_)
      rintro _ w3 ⟨rfl, hb3⟩
      have HR3 : Hid (RdC w3 (w.heap.size + 1) s sep i) := Blk.now HRI.out hb3
      have hP3 := HPI.out.now hb3
      have HO3 := Lib.hid (HOI.out.now RStrs.kept hb3)
      have HC3 := Lib.hid (HC.out.trans (Chg.of_below hb3))
      have HB3 := Lib.hid (HB2.out.trans (HC3.out.below (B := w.heap.size) (by have := HB2.out.size; omega) fun b hb e => by have e : b = w.heap.size + 1 := e; omega))
      obtain ⟨d0, d1⟩ := hP3.c2
      have f0 := hP3.frozen 0
      have f1 := hP3.frozen 1
      have HP3 := Lib.hid hP3
      clear HM hb3 HRI HPI HOI HC hP3
      go_wp2_with fail
      have hz := HP3.out.put2 (.int .i64 0) (.int .i64 0)
      have hbz := bset2' HB3.out (Nat.le_refl _) (.int .i64 0) (.int .i64 0)
      have hoz : Sl 1 RStrs (Lt ((w3.setCell ⟨w.heap.size, 0, none⟩ (.int .i64 0)).setCell ⟨w.heap.size, 1, none⟩ (.int .i64 0)).heap.size) ((w3.setCell ⟨w.heap.size, 0, none⟩ (.int .i64 0)).setCell ⟨w.heap.size, 1, none⟩ (.int .i64 0)) (.slice A acc.length cb) acc := by
        have hpl : w.heap.size < w2.heap.size := by have := HS2.out; omega
        have hne : (Value.slice A acc.length cb).ownBlock ≠ some w.heap.size := fun e => by
          have := (HO3.out.lt _ e).1
          omega
        exact ((HO3.out.far RStrs.kept (p := ⟨w.heap.size, 0, none⟩) hpl hne _).far RStrs.kept (p := ⟨w.heap.size, 1, none⟩) hpl hne _).sl RStrs.kept
      generalize (w3.setCell ⟨w.heap.size, 0, none⟩ (.int .i64 0)).setCell ⟨w.heap.size, 1, none⟩ (.int .i64 0) = wz at hz hbz hoz ⊢
      obtain ⟨r0, r1⟩ := hz.c2
      refine bodyPost_ret (v := .tuple #[.slice A acc.length cb, .agg #[.int .i64 0, .int .i64 0], .int .i64 0]) (by simp [results, Tryz.results22, go_sem, r0, r1]) rfl ?_
      rw [HF.out]
      exact ⟨_, rfl, hoz, hbz⟩
end Go.Proofs.YtoalecalahkblaaGreatDoor

set_option linter.all false
namespace Go.Proofs.YtoalecalahkblaaGreatDoor
open Go.RowKit
def nmOf (f : Fld) : Bs := f.nm.data.toList
def namesE (e : Ev) : List Bs := e.data.map nmOf
def namesTo (l : List Ev) (i : Nat) : List Bs := (l.take i).flatMap namesE
def colsL (l : List Ev) : List Bs := setB (namesTo l l.length)
theorem namesTo_step {l : List Ev} {i : Nat} {e : Ev} (h : l[i]? = some e) : namesTo l (i + 1) = namesTo l i ++ namesE e := by
  unfold namesTo
  rw [List.take_add_one, h, List.flatMap_append]
  simp
theorem namesE_step {e : Ev} {j : Nat} {f : Fld} (h : e.data[j]? = some f) : (e.data.take (j + 1)).map nmOf = (e.data.take j).map nmOf ++ [nmOf f] := by
  rw [List.take_add_one, h, List.map_append]; rfl
theorem namesTo_le (l : List Ev) {i : Nat} : (namesTo l i).length ≤ (namesTo l l.length).length := by
  unfold namesTo
  rw [List.take_of_length_le (Nat.le_refl _)]
  conv => rhs; rw [← List.take_append_drop i l, List.flatMap_append, List.length_append]
  omega
def FitN (l : List Ev) : Prop := ∀ e ∈ l, ∀ f ∈ e.data, f.nm.size ≤ maxLen
set_option maxHeartbeats 2000000 in
set_option maxRecDepth 100000 in
theorem columns_any (u : Value) (l : List Ev) (w : World) (h : IsLog (Lt w.heap.size) w u l) (hl : (namesTo l l.length).length ≤ 1000) (hf : FitN l) :
    Calls Tryz.prog 86 #[u] w fun e w' => ∃ v, e = .returned v ∧ SlS (Lt w'.heap.size) w' v ((colsL l).map mkS) ∧ Below w.heap.size w w' := by
  obtain ⟨ev, rfl, hs⟩ := h
  obtain ⟨A, c, rfl, h1, h2, hs⟩ := hs.open_
  have HL := Lib.hid hl
  have HF := Lib.hid hf
  have HS := Lib.hid hs
  have hB := Blk.new w 38 #[.slice A l.length c]
  have hb := bone w (.cells #[.slice A l.length c] 38)
  clear hl hf hs
  go_enter Tryz.func86, Tryz.ntmps86
  go_upto_region 2 with fail
  obtain ⟨w1, hw1⟩ : ∃ w1, w.alloc (.cells #[.slice A l.length c] 38) = w1 := ⟨_, rfl⟩
  rw [hw1] at hB hb ⊢
  clear hw1
  have c0 := hB.c1
  have HB1 := Lib.hid hb
  have HLT : Hid (w.heap.size < w1.heap.size) := hB.lt
  clear hB hb
  obtain ⟨g, hg⟩ : ∃ g, w.heap.size = g := ⟨_, rfl⟩
  rw [hg] at c0 HLT ⊢
  have HG := Lib.hid hg
  clear hg
  go_wp2_with fail
  clear c0
  go_loopw [3, 11] (fun ov iv wr => ∃ i : Nat, iv = .int .i64 (i : Int) ∧ i ≤ l.length ∧ Hid (OwnS wr w1.heap.size ov (namesTo l i)) ∧ Hid (Below w1.heap.size w1 wr)) (fun _ iv _ => l.length - (intOf iv).toNat)
  case atStart => exact ⟨0, rfl, Nat.zero_le _, Lib.hid (World.ownsRow_nil _ _ _ _), Lib.hid (Below.refl _ _)⟩
  case round =>
    obtain ⟨i, rfl, hi, HO, HB⟩ := hrel
    by_cases hlt : i < l.length
    · obtain ⟨b, o, e, dv, rfl, hD, hx, _, hdv, r0, r1, r2, r3, r4, r5⟩ := SlEv.at_ (Sl.keep HS.out REv.kept (fun _ => id) (Same.of_below (HB1.out.trans (HB.out.mono HB1.out.size)))) hlt
      obtain ⟨Ad, cd, rfl, d1, d2, hdv⟩ := hdv.open_
      have hbe := bone wr (.cells #[.string e.cas, .string e.act, .string e.res, .int .i64 e.life, .int .i64 e.time, .slice Ad e.data.length cd] 69)
      have hE := Blk.new wr 69 #[.string e.cas, .string e.act, .string e.res, .int .i64 e.life, .int .i64 e.time, .slice Ad e.data.length cd]
      have HX := Lib.hid hx
      have HDV := Lib.hid hdv
      have HOB := Lib.hid (own_now HO.out hbe)
      have HBE := Lib.hid (bthen HB.out hbe)
      clear hx hdv
      go_upto_region 5 with fail
      obtain ⟨wt, hwt⟩ : ∃ wt, wr.alloc (.cells #[.string e.cas, .string e.act, .string e.res, .int .i64 e.life, .int .i64 e.time, .slice Ad e.data.length cd] 69) = wt := ⟨_, rfl⟩
      rw [hwt] at hE HOB HBE ⊢
      rw [hwt] at hbe
      have hwr := (HB1.out.trans (HB.out.mono HB1.out.size)).size
      have HDT : Hid (SlFl (Lt w.heap.size) wt (.slice Ad e.data.length cd) e.data) := Lib.hid (Sl.keep HDV.out RFld.kept (fun _ => id) (Same.of_below (hbe.mono hwr)))
      obtain ⟨e0, e1, e2, e3, e4, e5⟩ := hE.c6
      clear hwt hbe hwr hE r0 r1 r2 r3 r4 r5 HO HB HDV
      go_wp2_with fail
      clear e0 e1 e2 e3 e4 e5
      go_loopw [3, 18] (fun ov jv wy => ∃ j : Nat, jv = .int .i64 (j : Int) ∧ j ≤ e.data.length ∧ Hid (OwnS wy w1.heap.size ov (namesTo l i ++ (e.data.take j).map nmOf)) ∧ Hid (Below w1.heap.size w1 wy) ∧ Hid (Below w1.heap.size wt wy)) (fun _ jv _ => e.data.length - (intOf jv).toNat)
      case atStart => exact ⟨0, rfl, Nat.zero_le _, Lib.hid (by rw [List.take_zero, List.map_nil, List.append_nil]; exact HOB.out), HBE, Lib.hid (Below.refl _ _)⟩
      case round =>
        obtain ⟨j, rfl, hj, HOj, HBj, HTj⟩ := hrel
        obtain ⟨wy, hwy⟩ : ∃ wy, wr = wy := ⟨_, rfl⟩
        rw [hwy] at HOj HBj HTj ⊢
        clear hwy
        have HLE : Hid ((namesTo l i ++ (e.data.take j).map nmOf).length < 10000000) := by
          show _ < _
          have q1 := namesTo_le l (i := i + 1)
          rw [namesTo_step HX.out, List.length_append] at q1
          have q2 := HL.out
          have q3 : (namesE e).length = e.data.length := by unfold namesE; rw [List.length_map]
          rw [List.length_append, List.length_map, List.length_take]
          omega
        by_cases hjl : j < e.data.length
        · obtain ⟨b2, o2, f, rfl, hD2, hx2, _, t0, t1, t2, t3⟩ := SlFl.at_ (Sl.keep HDT.out RFld.kept (fun _ => id) (Same.of_below (HTj.out.mono HB1.out.size))) hjl
          have HX2 := Lib.hid hx2
          have hbf := bone wy (.cells #[.string f.nm, .int .i64 f.v.kind, .int .i64 f.v.n, .string f.v.s] 123)
          have hF := Blk.new wy 123 #[.string f.nm, .int .i64 f.v.kind, .int .i64 f.v.n, .string f.v.s]
          have HOf := Lib.hid (own_now HOj.out hbf)
          have HBf := Lib.hid (bthen HBj.out hbf)
          have HTf := Lib.hid (HTj.out.trans (hbf.mono HBj.out.size))
          clear hx2
          go_upto_region 8 with fail
          obtain ⟨wf, hwf⟩ : ∃ wf, wy.alloc (.cells #[.string f.nm, .int .i64 f.v.kind, .int .i64 f.v.n, .string f.v.s] 123) = wf := ⟨_, rfl⟩
          rw [hwf] at hF HOf HBf HTf ⊢
          clear hwf hbf t0 t1 t2 t3 HOj HBj HTj
          obtain ⟨f0, f1, f2, f3⟩ := hF.c4
          clear hF
          have HMK : Hid (Value.string f.nm = encStr (nmOf f)) := by
            show _ = Value.string (mkS f.nm.data.toList)
            rw [mkS_of]
          go_wp2_with (at_builtin; refine wpList_push appStr rfl (.tmp 22) (.tmp 25) rfl wf [.string f.nm] rfl (by simp [Value.oneCell']) _ (namesTo l i ++ (e.data.take j).map nmOf).length ((namesTo l i ++ (e.data.take j).map nmOf).map encStr) rfl HOf.out rfl HLE.out HBf.out.size ?_; intro v' w' hown' hgr hat)
          have hbg : Below w1.heap.size wf w' := below_of_grown hgr HBf.out.size (fun g hg => (World.ownsRow.lt HOf.out g hg).1)
          go_roundw
          case rel =>
            refine ⟨j + 1, by go_num, by omega, Lib.hid ?_, Lib.hid (HBf.out.trans hbg), Lib.hid (HTf.out.trans hbg)⟩
            rw [namesE_step HX2.out, ← List.append_assoc]
            unfold OwnS
            rw [List.length_append, List.map_append]
            rw [HMK.out] at hown'
            exact hown'
          case measure => simp [intOf]; omega
        · have hje : j = e.data.length := by omega
          have HEND : Hid (OwnS wy w1.heap.size _ (namesTo l (i + 1))) := Lib.hid (by
            rw [namesTo_step HX.out]
            have := HOj.out
            rw [hje, List.take_of_length_le (Nat.le_refl _)] at this
            exact this)
          have hjn : ¬ (j : Int) < (e.data.length : Int) := by omega
          clear hje hjl
          go_wp2_with fail
          go_roundw
          case rel => exact ⟨i + 1, by go_num, by omega, HEND, HBj⟩
          case measure => simp [intOf]; omega
    · have hie : i = l.length := by omega
      have hil : ¬ (i : Int) < (l.length : Int) := by omega
      rw [hie] at HO
      have HFS : Hid (∀ s ∈ colsL l, s.length ≤ maxLen) := Lib.hid fun s hs => by
        have := (setB_mem _ s).1 hs
        unfold namesTo at this
        rw [List.take_of_length_le (Nat.le_refl _)] at this
        obtain ⟨e, he, hs⟩ := List.mem_flatMap.1 this
        obtain ⟨f, hf, rfl⟩ := List.mem_map.1 hs
        have := HF.out e he f hf
        unfold nmOf
        rw [Array.length_toList]; exact this
      have hsl := sortB_len (namesTo l l.length)
      have HSL : Hid ((sortB (namesTo l l.length)).length ≤ 1000) := Lib.hid (by rw [hsl]; exact HL.out)
      clear hie hlt hsl
      go_wp2_with fail
      refine (sortStrs _ _ _ _ HO.out HL.out).mono ?_
      rintro e w2 ⟨rfl, hown2, hb2⟩
      have HO2 := Lib.hid hown2
      have HB2 := Lib.hid (HB.out.trans hb2)
      clear hown2 hb2
      go_wp2_with fail
      refine (compactS _ _ _ _ HO2.out HSL.out HFS.out).mono ?_
      rintro e w3 ⟨v', rfl, hsl', hb3⟩
      go_wp2_with fail
      go_ret
      exact ⟨_, rfl, hsl', HB1.out.trans ((HB2.out.trans hb3).mono HB1.out.size)⟩
end Go.Proofs.YtoalecalahkblaaGreatDoor

set_option linter.all false
namespace Go.Proofs.YtoalecalahkblaaGreatDoor
open Go.RowKit
structure Mp where
  cas : Int
  act : Int
  res : Int
  life : Int
  time : Int
  data : List Int
  kinds : List Int
  sep : UInt8
def Mp.zero : Mp := ⟨0, 0, 0, 0, 0, [], [], 0⟩
def colsB (m : Mp) : List Int := ([m.cas, m.act, m.time] ++ m.data) ++ (if m.res = -1 then [] else [m.res]) ++ (if m.life = -1 then [] else [m.life])
def distB : List Int → Bool
  | [] => true
  | x :: r => !r.contains x && distB r
def kindB (k : Int) : Bool := decide (k = 1) || decide (k = 2) || decide (k = 3)
def mapB (m : Mp) : Bool := isSep m.sep && decide (m.data.length ≤ 8) && decide (m.kinds.length = m.data.length) && (colsB m).all (fun k => decide (0 ≤ k) && decide (k < 40)) && decide (colsB m).Nodup && m.kinds.all kindB
def lowB (c : UInt8) : UInt8 := if 65 ≤ c ∧ c ≤ 90 then c + 32 else c
def smallB (s : Bt) : Bt := s.map lowB
def findB (ws cells : List Bt) : Int := match cells.findIdx? (fun s => decide (smallB s ∈ ws)) with
  | some i => (i : Int)
  | none => -1
def pickB (taken : List Int) : Nat → List Bt → List Int → List Bt → List Int
  | _, _, data, [] => data
  | i, seen, data, s :: r =>
    if data.length = 8 ∨ (i : Int) ∈ taken ∨ isNameB ⟨s.toArray⟩ = false ∨ s ∈ seen then pickB taken (i + 1) seen data r
    else pickB taken (i + 1) (seen ++ [s]) (data ++ [(i : Int)]) r
def fieldsB (m : Mp) : List Int := [m.cas, m.act, m.res, m.life, m.time].filter fun k => decide (0 ≤ k)
structure Wds where
  cas : List Bt
  act : List Bt
  res : List Bt
  life : List Bt
  time : List Bt
def guessE (W : Wds) (cells : List Bt) : Mp × Int :=
  if 40 < cells.length then (Mp.zero, 5)
  else
    let m : Mp := ⟨findB W.cas cells, findB W.act cells, findB W.res cells, findB W.life cells, findB W.time cells, [], [], 44⟩
    if m.cas < 0 ∨ m.act < 0 ∨ m.time < 0 then (Mp.zero, 10)
    else
      let d := pickB (fieldsB m) 0 [] [] cells
      ({ m with data := d, kinds := List.replicate d.length 3 }, 0)
structure Apart (W : Wds) : Prop where
  ca : ∀ x ∈ W.cas, x ∉ W.act
  cr : ∀ x ∈ W.cas, x ∉ W.res
  cl : ∀ x ∈ W.cas, x ∉ W.life
  ct : ∀ x ∈ W.cas, x ∉ W.time
  ar : ∀ x ∈ W.act, x ∉ W.res
  al : ∀ x ∈ W.act, x ∉ W.life
  at_ : ∀ x ∈ W.act, x ∉ W.time
  tr : ∀ x ∈ W.time, x ∉ W.res
  tl : ∀ x ∈ W.time, x ∉ W.life
  rl : ∀ x ∈ W.res, x ∉ W.life
end Go.Proofs.YtoalecalahkblaaGreatDoor

set_option linter.all false
namespace Go.Proofs.YtoalecalahkblaaGreatDoor
open Go.RowKit
def setZ (r : List Bt) (k : Int) (s : Bt) : List Bt := r.set k.toNat s
def lifeW : List Bt := [[115, 99, 104, 101, 100, 117, 108, 101], [115, 116, 97, 114, 116], [115, 117, 115, 112, 101, 110, 100], [114, 101, 115, 117, 109, 101], [99, 111, 109, 112, 108, 101, 116, 101], [97, 98, 111, 114, 116]]
def cellV (vt : Val → Bt) (v : Val) : Bt := if v.kind = 3 then v.s.data.toList else vt v
def datR (vt : Val → Bt) (names : List Bs) (m : Mp) : List Fld → List Bt → Option (List Bt)
  | [], r => some r
  | f :: fs, r =>
    let k := names.idxOf (nmOf f)
    if f.v.kind ≠ m.kinds.getD k 0 ∨ cellV vt f.v = [] then none
    else datR vt names m fs (setZ r (m.data.getD k 0) (cellV vt f.v))
def rowX (vt : Val → Bt) (names : List Bs) (m : Mp) (width : Nat) (e : Ev) : List Bt × Int :=
  if m.res < 0 ∧ e.res.data.toList ≠ [] then ([], 12)
  else if m.life < 0 ∧ e.life ≠ 5 then ([], 20)
  else
    let r0 := setZ (setZ (setZ (List.replicate width []) m.cas e.cas.data.toList) m.act e.act.data.toList) m.time (Lib.itoa e.time)
    let r1 := if 0 ≤ m.res then setZ r0 m.res e.res.data.toList else r0
    let r2 := if 0 ≤ m.life then setZ r1 m.life (lifeW.getD (e.life - 1).toNat []) else r1
    match datR vt names m e.data r2 with
    | none => ([], 11)
    | some r => (r, 0)
def headX (names : List Bs) (m : Mp) (width : Nat) : List Bt :=
  let r0 := setZ (setZ (setZ (List.replicate width []) m.cas [99, 97, 115, 101]) m.act [97, 99, 116, 105, 118, 105, 116, 121]) m.time [116, 105, 109, 101]
  let r1 := if 0 ≤ m.res then setZ r0 m.res [114, 101, 115, 111, 117, 114, 99, 101] else r0
  let r2 := if 0 ≤ m.life then setZ r1 m.life [108, 105, 102, 101] else r1
  (m.data.zip names).foldl (fun r p => setZ r p.1 p.2) r2
def rowsX (f : Ev → List Bt × Int) : List Ev → List (List Bt) → List (List Bt) × Int
  | [], acc => (acc, 0)
  | e :: l, acc => if (f e).2 ≠ 0 then ([], (f e).2) else rowsX f l (acc ++ [(f e).1])
def widthX (m : Mp) : Nat := ((fieldsB m ++ m.data).foldl (fun a k => max a (k + 1)) 0).toNat
def exportE (vt : Val → Bt) (l : List Ev) (m : Mp) : Bt × Int :=
  if logB l = false ∨ mapB m = false then ([], 1)
  else if (colsL l).length ≠ m.data.length then ([], 29)
  else
    let p := rowsX (rowX vt (colsL l) m (widthX m)) l [headX (colsL l) m (widthX m)]
    if p.2 ≠ 0 then ([], p.2) else writeE m.sep p.1
theorem setZ_len (r : List Bt) (k : Int) (s : Bt) : (setZ r k s).length = r.length := by unfold setZ; simp
theorem datR_len {vt : Val → Bt} {names : List Bs} {m : Mp} : ∀ (fs : List Fld) (r r' : List Bt), datR vt names m fs r = some r' → r'.length = r.length
  | [], r, r', h => by unfold datR at h; injection h with h; rw [h]
  | f :: fs, r, r', h => by
    unfold datR at h
    simp only at h
    split at h
    · cases h
    · rw [datR_len fs _ _ h, setZ_len]
end Go.Proofs.YtoalecalahkblaaGreatDoor

set_option linter.all false
namespace Go.Proofs.YtoalecalahkblaaGreatDoor
open Go.RowKit
def plainS (s : ByteArray) : Bool := s.data.toList.all plainC
theorem any_not_allC (l : List UInt8) : (l.any fun x => !plainC x) = !l.all plainC := by
  induction l with
  | nil => rfl
  | cons a m ih => simp [List.any_cons, List.all_cons, ih]
theorem textB_long {s : ByteArray} (h : 200 < s.size) : textB s = false := by
  unfold textB
  have h' : ¬ s.size ≤ 200 := by omega
  simp [h']
theorem textB_short {s : ByteArray} (h : s.size ≤ 200) : textB s = plainS s := by unfold textB plainS; simp [h]
theorem rowB_new (w : World) (s : ByteArray) (cap t : Nat) (fr : Nat × Nat) : RowB (w.alloc (.cells (bytesRow s cap) t fr)).drew w.heap.size s.data.toList := by
  intro k c hk
  rw [Array.getElem?_toList] at hk
  have hkl : k < s.data.size := by
    rcases Nat.lt_or_ge k s.data.size with h | h
    · exact h
    · rw [Array.getElem?_eq_none h] at hk; cases hk
  have h1 : (w.alloc (.cells (bytesRow s cap) t fr)).drew.heap[w.heap.size]? = some (.cells (bytesRow s cap) t fr) := by
    show (w.heap.push _)[w.heap.size]? = _
    simp
  simp only [World.cell?, h1]
  simp only [Option.isSome_none, Bool.false_eq_true, if_false]
  unfold bytesRow
  rw [Array.getElem?_append_left (by simpa using hkl), Array.getElem?_map, hk]
  rfl
set_option maxHeartbeats 400000 in
theorem text_any (s : ByteArray) (w : World) (hs : s.size ≤ maxLen) : Calls Tryz.prog 167 #[.string s] w fun e w' => e = .returned (.bool (textB s)) ∧ Below w.heap.size w w' := by
  unfold maxLen at hs
  by_cases h1 : 200 < s.size
  · have HE := Lib.hid (textB_long h1)
    go_enter Tryz.func167, Tryz.ntmps167
    go_wp2
    go_ret
    exact ⟨ret_bool HE.out.symm, Below.refl _ _⟩
  · have h2 : s.size ≤ 200 := by omega
    have HE : Hid (textB s = !(s.data.toList.any fun x => !plainC x)) := by show textB s = _; rw [textB_short h2, any_not_allC]; unfold plainS; simp
    have hconv := fun w => run_bytes_of_string (P := Tryz.prog) w 9 72 5 s Tryz.underlying9 Tryz.underlying72 Tryz.underlying5
    go_enter Tryz.func167, Tryz.ntmps167
    go_wp2_with fail
    refine (containsTextB w.heap.size _ s.data.toList _ (by rw [Array.length_toList]; show s.size ≤ _; omega) (rowB_new w s _ _ _)).mono ?_
    rintro e w1 ⟨rfl, rfl⟩
    generalize (s.data.toList.any fun x => !plainC x) = q at *
    go_wp2_with fail
    go_ret
    exact ⟨ret_bool HE.out.symm, (bone w _).drew⟩
theorem byte_plain {s : ByteArray} {k : Nat} (h : k < s.size) : plainC (s.data.toList[k]'(by simpa using h)) = true ↔ 32 ≤ (s[k].toNat : Int) ∧ (s[k].toNat : Int) ≤ 126 := plainC_iff _
theorem all_plain {s : ByteArray} (h : ∀ j (hj : j < s.size), plainC (s.data.toList[j]'(by simpa using hj)) = true) : plainS s = true := by
  unfold plainS
  rw [List.all_eq_true]
  intro c hc
  obtain ⟨j, hj, rfl⟩ := List.mem_iff_getElem.1 hc
  exact h j (by simpa using hj)
theorem not_plain {s : ByteArray} {j : Nat} (hj : j < s.size) (h : ¬ plainC (s.data.toList[j]'(by simpa using hj)) = true) : plainS s = false := by
  unfold plainS
  rw [Bool.eq_false_iff]
  intro h'
  exact h (List.all_eq_true.1 h' _ (List.getElem_mem _))
set_option maxHeartbeats 400000 in
theorem printable_ref (s : ByteArray) (w : World) (hs : s.size ≤ maxLen) : Calls Tryz.prog 95 #[.string s] w fun e w' => e = .returned (.bool (plainS s)) ∧ w = w' := by
  unfold maxLen at hs
  go_enter Tryz.func95, Tryz.ntmps95
  go_wp2_with fail
  go_loop [3] (fun i => ∃ k : Nat, k ≤ s.size ∧ i = .int .i64 k ∧ ∀ j (hj : j < s.size), j < k → plainC (s.data.toList[j]'(by simpa using hj)) = true) (fun i => s.size - (intOf i).toNat)
  case atStart => exact ⟨0, Nat.zero_le _, rfl, fun j _ hj => absurd hj (by omega)⟩
  case round =>
    obtain ⟨k, hk, rfl, hp⟩ := hrel
    have HP := Lib.hid hp
    clear hp
    by_cases hlt : k < s.size
    · have HY := Lib.hid (byte_plain hlt)
      by_cases h1 : (s[k].toNat : Int) < 32
      · have HE := Lib.hid (not_plain hlt (fun h => by have := HY.out.1 h; omega))
        go_wp2_with fail
        go_ret
        exact ⟨ret_bool HE.out.symm, rfl⟩
      by_cases h2 : 126 < (s[k].toNat : Int)
      · have HE := Lib.hid (not_plain hlt (fun h => by have := HY.out.1 h; omega))
        go_wp2_with fail
        go_ret
        exact ⟨ret_bool HE.out.symm, rfl⟩
      have HQ := Lib.hid (HY.out.2 ⟨by omega, by omega⟩)
      go_wp2_with fail
      go_round
      case rel => exact ⟨k + 1, by omega, by go_num, fun j hj hjk => by
        by_cases e : j = k
        · subst e; exact HQ.out
        · exact HP.out j hj (by omega)⟩
      case measure => simp [intOf]; omega
    · have HE := Lib.hid (all_plain (s := s) (fun j hj => HP.out j hj (by omega)))
      go_wp2_with fail
      go_ret
      exact ⟨ret_bool HE.out.symm, rfl⟩
set_option maxHeartbeats 400000 in
theorem text_ref (s : ByteArray) (w : World) (hs : s.size ≤ maxLen) : Calls Tryz.prog 153 #[.string s] w fun e w' => e = .returned (.bool (textB s)) ∧ w = w' := by
  have HC := Lib.hid (fun w => printable_ref s w hs)
  unfold maxLen at hs
  by_cases h1 : 200 < s.size
  · have HE := Lib.hid (textB_long h1)
    go_enter Tryz.func153, Tryz.ntmps153
    go_wp2
    go_ret
    exact ⟨ret_bool HE.out.symm, rfl⟩
  · have h2 : s.size ≤ 200 := by omega
    have HE := Lib.hid (textB_short h2)
    generalize plainS s = q at *
    go_enter Tryz.func153, Tryz.ntmps153
    go_wp2_with (go_at_call 95; refine (HC.out _).mono ?_; rintro e w' ⟨rfl, rfl⟩)
    go_ret
    exact ⟨ret_bool HE.out.symm, rfl⟩
set_option maxHeartbeats 1000000 in
theorem validV_any (v : Val) (w : World) (h : FitV v) : Calls Tryz.prog 143 #[valV v] w fun e w' => e = .returned (.bool (validV v)) ∧ Below w.heap.size w w' := by
  obtain ⟨k, n, s⟩ := v
  obtain ⟨h1, h2, h3⟩ := h
  have HT := Lib.hid (fun w => text_any s w h3)
  have HN := Lib.hid (fun w => number_any n w)
  unfold validV valV noS
  dsimp only at h1 h2 h3 ⊢
  clear h1 h2 h3
  have hb := bone w (.cells #[.int .i64 k, .int .i64 n, .string s] 121)
  by_cases k1 : k = 1
  · subst k1
    by_cases hS : s.toList = []
    · have hS2 : s.toList.isEmpty = true := by simpa using hS
      by_cases n0 : n = 0
      · subst n0
        go_enter Tryz.func143, Tryz.ntmps143
        go_wp2_with fail
        go_ret
        exact ⟨ret_bool (by first | (simp; done) | simp [hS]), hb⟩
      · by_cases n1 : n = 1
        · subst n1
          go_enter Tryz.func143, Tryz.ntmps143
          go_wp2_with fail
          go_ret
          exact ⟨ret_bool (by first | (simp; done) | simp [hS]), hb⟩
        · go_enter Tryz.func143, Tryz.ntmps143
          go_wp2_with fail
          go_ret
          exact ⟨ret_bool (by first | (simp; done) | simp [n0, n1]), hb⟩
    · have hS2 : s.toList.isEmpty = false := by simpa using hS
      by_cases n0 : n = 0
      · subst n0
        go_enter Tryz.func143, Tryz.ntmps143
        go_wp2_with fail
        go_ret
        exact ⟨ret_bool (by first | (simp; done) | simp [hS]), hb⟩
      · by_cases n1 : n = 1
        · subst n1
          go_enter Tryz.func143, Tryz.ntmps143
          go_wp2_with fail
          go_ret
          exact ⟨ret_bool (by first | (simp; done) | simp [hS]), hb⟩
        · go_enter Tryz.func143, Tryz.ntmps143
          go_wp2_with fail
          go_ret
          exact ⟨ret_bool (by first | (simp; done) | simp [n0, n1]), hb⟩
  by_cases k2 : k = 2
  · subst k2
    generalize numB n = q at *
    by_cases hS : s.toList = []
    · have hS2 : s.toList.isEmpty = true := by simpa using hS
      cases q
      all_goals
        go_enter Tryz.func143, Tryz.ntmps143
        go_wp2_with (go_at_call 166; refine (HN.out _).mono ?_; rintro e w' ⟨rfl, rfl⟩)
        go_ret
        exact ⟨ret_bool (by first | (simp; done) | simp [hS]), hb⟩
    · have hS2 : s.toList.isEmpty = false := by simpa using hS
      cases q
      all_goals
        go_enter Tryz.func143, Tryz.ntmps143
        go_wp2_with (go_at_call 166; refine (HN.out _).mono ?_; rintro e w' ⟨rfl, rfl⟩)
        go_ret
        exact ⟨ret_bool (by first | (simp; done) | simp [hS]), hb⟩
  by_cases k3 : k = 3
  · subst k3
    by_cases n0 : n = 0
    · subst n0
      generalize textB s = q at *
      go_enter Tryz.func143, Tryz.ntmps143
      go_wp2_with (go_at_call 167; refine (HT.out _).mono ?_; rintro e w' ⟨rfl, hb1⟩)
      go_ret
      exact ⟨ret_bool (by simp), bthen hb hb1⟩
    · go_enter Tryz.func143, Tryz.ntmps143
      go_wp2_with fail
      go_ret
      exact ⟨ret_bool (by first | (simp; done) | simp [n0]), hb⟩
  · go_enter Tryz.func143, Tryz.ntmps143
    go_wp2_with fail
    go_ret
    exact ⟨ret_bool (by first | (simp; done) | simp [k1, k2, k3]), hb⟩
set_option maxHeartbeats 1000000 in
theorem validV_ref (v : Val) (w : World) (h : FitV v) : Calls Tryz.prog 115 #[valV v] w fun e w' => e = .returned (.bool (validV v)) ∧ Below w.heap.size w w' := by
  obtain ⟨k, n, s⟩ := v
  obtain ⟨h1, h2, h3⟩ := h
  have HT := Lib.hid (fun w => text_ref s w h3)
  have HN := Lib.hid (fun w => number_ref n w)
  unfold validV valV noS
  dsimp only at h1 h2 h3 ⊢
  clear h1 h2 h3
  have hb := bone w (.cells #[.int .i64 k, .int .i64 n, .string s] 121)
  by_cases k1 : k = 1
  · subst k1
    by_cases hS : s.toList = []
    · have hS2 : s.toList.isEmpty = true := by simpa using hS
      by_cases n0 : n = 0
      · subst n0
        go_enter Tryz.func115, Tryz.ntmps115
        go_wp2_with fail
        go_ret
        exact ⟨ret_bool (by first | (simp; done) | simp [hS]), hb⟩
      · by_cases n1 : n = 1
        · subst n1
          go_enter Tryz.func115, Tryz.ntmps115
          go_wp2_with fail
          go_ret
          exact ⟨ret_bool (by first | (simp; done) | simp [hS]), hb⟩
        · go_enter Tryz.func115, Tryz.ntmps115
          go_wp2_with fail
          go_ret
          exact ⟨ret_bool (by first | (simp; done) | simp [n0, n1]), hb⟩
    · have hS2 : s.toList.isEmpty = false := by simpa using hS
      by_cases n0 : n = 0
      · subst n0
        go_enter Tryz.func115, Tryz.ntmps115
        go_wp2_with fail
        go_ret
        exact ⟨ret_bool (by first | (simp; done) | simp [hS]), hb⟩
      · by_cases n1 : n = 1
        · subst n1
          go_enter Tryz.func115, Tryz.ntmps115
          go_wp2_with fail
          go_ret
          exact ⟨ret_bool (by first | (simp; done) | simp [hS]), hb⟩
        · go_enter Tryz.func115, Tryz.ntmps115
          go_wp2_with fail
          go_ret
          exact ⟨ret_bool (by first | (simp; done) | simp [n0, n1]), hb⟩
  by_cases k2 : k = 2
  · subst k2
    generalize numB n = q at *
    by_cases hS : s.toList = []
    · have hS2 : s.toList.isEmpty = true := by simpa using hS
      cases q
      all_goals
        go_enter Tryz.func115, Tryz.ntmps115
        go_wp2_with (go_at_call 152; refine (HN.out _).mono ?_; rintro e w' ⟨rfl, rfl⟩)
        go_ret
        exact ⟨ret_bool (by first | (simp; done) | simp [hS]), hb⟩
    · have hS2 : s.toList.isEmpty = false := by simpa using hS
      cases q
      all_goals
        go_enter Tryz.func115, Tryz.ntmps115
        go_wp2_with (go_at_call 152; refine (HN.out _).mono ?_; rintro e w' ⟨rfl, rfl⟩)
        go_ret
        exact ⟨ret_bool (by first | (simp; done) | simp [hS]), hb⟩
  by_cases k3 : k = 3
  · subst k3
    by_cases n0 : n = 0
    · subst n0
      generalize textB s = q at *
      go_enter Tryz.func115, Tryz.ntmps115
      go_wp2_with (go_at_call 153; refine (HT.out _).mono ?_; rintro e w' ⟨rfl, rfl⟩)
      go_ret
      exact ⟨ret_bool (by simp), hb⟩
    · go_enter Tryz.func115, Tryz.ntmps115
      go_wp2_with fail
      go_ret
      exact ⟨ret_bool (by first | (simp; done) | simp [n0]), hb⟩
  · go_enter Tryz.func115, Tryz.ntmps115
    go_wp2_with fail
    go_ret
    exact ⟨ret_bool (by first | (simp; done) | simp [k1, k2, k3]), hb⟩
end Go.Proofs.YtoalecalahkblaaGreatDoor

set_option linter.all false
namespace Go.Proofs.YtoalecalahkblaaGreatDoor
open Go.RowKit
theorem var_now {P : Program} {w w' : World} {n : String} {cs : Array Value} (h : w.var? P n = some cs) (hb : Below w.heap.size w w') : w'.var? P n = some cs := by
  unfold World.var? at h ⊢
  obtain ⟨g, hg, h1⟩ := Option.bind_eq_some_iff.1 h
  rw [hg]
  show (match w'.heap[g]? with | some (.cells cs _ _) => some cs | _ => none) = some cs
  have hlt : g < w.heap.size := by
    rcases Nat.lt_or_ge g w.heap.size with h' | h'
    · exact h'
    · rw [Array.getElem?_eq_none h'] at h1; cases h1
  rw [hb.block g hlt]
  exact h1
structure AmbP (w : World) : Prop where
  tab : Lib.TabIs Tryz.prog w "internal/strconv.uint64pow10" .u64 Lib.pow10Tab
  syn : ∃ tp p, w.var? Tryz.prog "strconv.ErrSyntax" = some #[.iface tp p]
  rng : ∃ tp p, w.var? Tryz.prog "strconv.ErrRange" = some #[.iface tp p]
  mx : ∃ m, w.cell? ⟨0, 0, none⟩ = some (.int .i64 m)
theorem AmbP.now {w w' : World} (h : AmbP w) (hb : Below w.heap.size w w') : AmbP w' := by
  obtain ⟨h1, ⟨t, p, h2⟩, ⟨t', p', h3⟩, ⟨m, h4⟩⟩ := h
  exact ⟨var_now h1 hb, ⟨t, p, var_now h2 hb⟩, ⟨t', p', var_now h3 hb⟩, ⟨m, (World.cell?_of_block (hb.block _ (World.block_lt_of_cell? _ _ h4))).trans h4⟩⟩
def itoaS (n : Int) : ByteArray := ⟨(Lib.itoa n).toArray⟩
theorem bgrow (w : World) (k : Nat) (os : Array Obj) : Below w.heap.size w (Go.Sort.grow (w.drewN k) os) := by
  refine ⟨rfl, rfl, rfl, ?_, fun b hb => ?_⟩
  · show w.heap.size ≤ (w.heap ++ os).size
    rw [Array.size_append]; omega
  · show (w.heap ++ os)[b]? = w.heap[b]?
    rw [Array.getElem?_append_left hb]
theorem itoa_any (n : Int) (w : World) (hf : Fit n) (ha : AmbP w) : Calls Tryz.prog 131 #[.int .i64 n] w fun e w' => e = .returned (.string (itoaS n)) ∧ Below w.heap.size w w' :=
  (Tryz.strconv_Itoa n hf.1 hf.2 _ ha.tab).mono fun e w' ⟨he, kk, os, hw⟩ => ⟨he, by rw [hw]; exact bgrow w kk os⟩
def okOf : Lib.NumEnd Int → Option Int
  | .ok n => some n
  | _ => none
theorem below_of_bytes {w w2 : World} {e : TypeId} {t : ByteArray} (h : w2 = Lib.bytesWorld w e t) : Below w.heap.size w w2 := by rw [h]; exact Lib.bytesWorld_below _ _ _
theorem below_of_bytes' {w w2 : World} {e : TypeId} (h : w2 = w ∨ ∃ t, w2 = Lib.bytesWorld w e t) : Below w.heap.size w w2 := by
  rcases h with h | ⟨t, h⟩
  · rw [h]; exact Below.refl _ _
  · exact below_of_bytes h
def AtoiPost (s : ByteArray) (w : World) (e : Ending) (w' : World) : Prop :=
  ((∃ n, okOf (Lib.atoiAll s.data.toList) = some n ∧ Fit n ∧ e = .returned (.tuple #[.int .i64 n, .nilIface])) ∨
    (okOf (Lib.atoiAll s.data.toList) = none ∧ ∃ z N, e = .returned (.tuple #[.int .i64 z, .iface 209 (.pointer (some ⟨N, 0, none⟩))]))) ∧ Below w.heap.size w w'
theorem atoi_call (s : ByteArray) (w : World) (hs : s.size ≤ 1000000) (ha : AmbP w) : Calls Tryz.prog 142 #[.string s] w (AtoiPost s w) := by
  cases h : Lib.atoiAll s.data.toList
  · rename_i n
    refine (Tryz.strconv_Atoi_ok s (by omega) n h w).mono ?_
    rintro e w' ⟨rfl, hw⟩
    exact ⟨.inl ⟨n, by rw [h]; rfl, Lib.atoiAll_bounds h, rfl⟩, below_of_bytes' hw⟩
  · obtain ⟨tp, p, hv⟩ := ha.syn
    refine (Any.strconv_Atoi_syntax_var Tryz.laysC172 s (by omega) h tp p w hv).mono ?_
    rintro e w' ⟨N, rfl, _, _, hb⟩
    exact ⟨.inr ⟨by rw [h]; rfl, _, N, rfl⟩, hb⟩
  · obtain ⟨tp, p, hv⟩ := ha.rng
    refine (Tryz.strconv_Atoi_range_var s (by omega) h tp p w hv).mono ?_
    rintro e w' ⟨N, rfl, _, _, hb⟩
    exact ⟨.inr ⟨by rw [h]; rfl, _, N, rfl⟩, hb⟩
end Go.Proofs.YtoalecalahkblaaGreatDoor

set_option linter.all false
namespace Go.Proofs.YtoalecalahkblaaGreatDoor
open Go.RowKit
def textNV (v : Val) : ByteArray := if v.kind = 1 then ⟨(Lib.formatBool (decide (v.n = 1))).toArray⟩ else itoaS v.n
theorem validNV1 {v : Val} (h : validV v = true) (h1 : v.kind = 1) : v.n = 0 ∨ v.n = 1 := by
  unfold validV at h
  simp [h1] at h
  omega
set_option maxHeartbeats 1000000 in
theorem textNV_any (v : Val) (w : World) (hf : FitV v) (hv : validV v = true) (hk : v.kind = 1 ∨ v.kind = 2) (ha : AmbP w) :
    Calls Tryz.prog 132 #[valV v] w fun e w' => e = .returned (.tuple #[.string (textNV v), .int .i64 0]) ∧ Below w.heap.size w w' := by
  have hb := bone w (.cells #[.int .i64 v.kind, .int .i64 v.n, .string v.s] 121)
  have hB := Blk.new w 121 #[.int .i64 v.kind, .int .i64 v.n, .string v.s]
  have ha1 := ha.now hb
  have HV := Lib.hid hv
  have HK := Lib.hid hk
  clear hv hk
  unfold valV
  go_enter Tryz.func132, Tryz.ntmps132
  go_wp2_with fail
  refine (validV_any v _ hf).mono ?_
  rintro e w2 ⟨rfl, hb2⟩
  have hB2 := hB.now hb2
  have hbw2 := bthen hb hb2
  have ha2 := ha1.now hb2
  obtain ⟨y0, y1, y2⟩ := hB2.c3
  rw [HV.out]
  obtain ⟨k, n, s⟩ := v
  obtain ⟨g1, g2, g3⟩ := hf
  dsimp only at *
  have HG := Lib.hid g2
  clear g1 g2 g3 hB hB2 hb hb2 ha ha1
  by_cases k1 : k = 1
  · subst k1
    rcases validNV1 HV.out rfl with hn | hn
    · dsimp only at hn
      subst hn
      have HT : Hid (textNV ⟨1, 0, s⟩ = ⟨(Lib.formatBool false).toArray⟩) := rfl
      go_wp2_with fail
      refine (Tryz.strconv_FormatBool _ _).mono ?_
      rintro e w3 ⟨rfl, rfl⟩
      go_wp2_with fail
      go_ret2
      exact ⟨by rw [HT.out]; rfl, hbw2⟩
    · dsimp only at hn
      subst hn
      have HT : Hid (textNV ⟨1, 1, s⟩ = ⟨(Lib.formatBool true).toArray⟩) := rfl
      go_wp2_with fail
      refine (Tryz.strconv_FormatBool _ _).mono ?_
      rintro e w3 ⟨rfl, rfl⟩
      go_wp2_with fail
      go_ret2
      exact ⟨by rw [HT.out]; rfl, hbw2⟩
  · have k2 : k = 2 := HK.out.resolve_left k1
    subst k2
    have HT : Hid (textNV ⟨2, n, s⟩ = itoaS n) := rfl
    clear k1
    go_wp2_with fail
    refine (itoa_any n _ HG.out ha2).mono ?_
    rintro e w3 ⟨rfl, hb3⟩
    go_wp2_with fail
    go_ret2
    exact ⟨by rw [HT.out]; rfl, bthen hbw2 hb3⟩
end Go.Proofs.YtoalecalahkblaaGreatDoor

set_option linter.all false
namespace Go.Proofs.YtoalecalahkblaaGreatDoor
open Go.RowKit
def firstF {α : Type} (p : α → Bool) (xs : List α) : Int := match xs.findIdx? p with
  | some i => (i : Int)
  | none => -1
theorem firstF_hit {α : Type} {p : α → Bool} {xs : List α} {j : Nat} {x : α} (hx : xs[j]? = some x) (hp : p x = true) (hb : ∀ (q : Nat) t, q < j → xs[q]? = some t → p t = false) : firstF p xs = (j : Int) := by
  obtain ⟨hj, e⟩ := List.getElem?_eq_some_iff.1 hx
  have : xs.findIdx? p = some j := List.findIdx?_eq_some_iff_getElem.2 ⟨hj, by rw [e]; exact hp, fun q hq => by
    have := hb q xs[q] hq (List.getElem?_eq_getElem (by omega))
    rw [this]; decide⟩
  unfold firstF; rw [this]
theorem firstF_miss {α : Type} {p : α → Bool} {xs : List α} (hb : ∀ (q : Nat) y, q < xs.length → xs[q]? = some y → p y = false) : firstF p xs = -1 := by
  have : xs.findIdx? p = none := List.findIdx?_eq_none_iff.2 fun x hx => by
    obtain ⟨q, hq, rfl⟩ := List.mem_iff_getElem.1 hx
    exact hb q _ hq (List.getElem?_eq_getElem hq)
  unfold firstF; rw [this]
theorem firstF_any {α : Type} (p : α → Bool) (xs : List α) : decide (0 ≤ firstF p xs) = xs.any p := by
  unfold firstF
  cases h : xs.findIdx? p with
  | none =>
    have := List.findIdx?_eq_none_iff.1 h
    rw [List.any_eq_false.2 fun x hx => by rw [this x hx]; decide]
    rfl
  | some i =>
    obtain ⟨hi, hp, _⟩ := List.findIdx?_eq_some_iff_getElem.1 h
    rw [List.any_eq_true.2 ⟨_, List.getElem_mem hi, hp⟩]
    exact decide_eq_true (by simp only; omega)
def AsksF {α : Type} (k : FuncId) (cb : Array Value) (R : ElemR α) (w : World) (ts : List α) (p : α → Bool) : Prop := ∀ (x : α) (u : Value) (W : World), x ∈ ts → R (Lt w.heap.size) w x [u] → Below w.heap.size w W → Calls Tryz.prog k (#[u] ++ cb) W fun e w' => e = .returned (.bool (p x)) ∧ Below W.heap.size W w'
def RByte : ElemR UInt8 := fun _ _ c cs => cs = [.int .u8 (c.toNat : Int)]
theorem RByte.kept : ElemR.Kept RByte := fun _ _ _ _ _ _ _ _ h => h
set_option maxHeartbeats 1000000 in
theorem idxFS (k : FuncId) (cb : Array Value) (eg : ∀ args w, (callFunc k args).run Tryz.prog w = .ok (.enter k args) w) (tv : Value) (ts : List (ByteArray)) (p : ByteArray → Bool) (w : World) (ht : Sl 1 RStr (Lt w.heap.size) w tv ts) (hf : AsksF k cb RStr w ts p) :
    Calls Tryz.prog 73 #[tv, .func (.func k) #[] cb] w fun e w' => e = .returned (.int .i64 (firstF p ts)) ∧ Below w.heap.size w w' := by
  obtain ⟨A, c, rfl, h1, h2, ht⟩ := ht.open_
  have HF := Lib.hid hf
  have HT := Lib.hid ht
  clear hf ht
  go_enter Tryz.func73, Tryz.ntmps73
  go_wp2_with fail
  go_loopw [8] (fun i wr => ∃ j : Nat, j ≤ ts.length ∧ i = .int .i64 j ∧ Hid (∀ (q : Nat) t, q < j → ts[q]? = some t → p t = false) ∧ Hid (Below w.heap.size w wr)) (fun i _ => ts.length - (intOf i).toNat)
  case atStart => exact ⟨0, Nat.zero_le _, rfl, Lib.hid (fun q _ h => absurd h (by omega)), Lib.hid (Below.refl _ _)⟩
  case round =>
    obtain ⟨j, hj, rfl, HP, HB⟩ := hrel
    by_cases hlt : j < ts.length
    · obtain ⟨b, o, t, u, rfl, hD, hx, hr, hc⟩ := HT.out.at1 hlt
      have c0 := (HB.out.cell (p := ⟨b, o + j, none⟩) hD).trans hc
      have hcall := HF.out t u wr (List.mem_of_getElem? hx) hr HB.out
      have HX := Lib.hid hx
      clear hx hr hc
      generalize hq : p t = q' at *
      have HQ := Lib.hid hq
      have HC := Lib.hid hcall
      clear hcall hq
      cases q'
      · go_wp2_with (go_at_fn k; (with_reducible refine HC.out.mono ?_); rintro e w' ⟨rfl, hb'⟩; have HB' := Lib.hid (bthen HB.out hb'); clear hb')
        go_roundw
        case rel =>
          refine ⟨j + 1, by omega, by go_num, Lib.hid (fun q y hq hy => ?_), HB'⟩
          by_cases e : q = j
          · subst e; rw [HX.out] at hy; injection hy with hy; subst hy; exact HQ.out
          · exact HP.out q y (by omega) hy
        case measure => simp [intOf]; omega
      · go_wp2_with (go_at_fn k; (with_reducible refine HC.out.mono ?_); rintro e w' ⟨rfl, hb'⟩; have HB' := Lib.hid (bthen HB.out hb'); clear hb')
        go_ret
        exact ⟨ret_int (firstF_hit HX.out HQ.out HP.out).symm, HB'.out⟩
    · go_wp2_with fail
      go_ret
      exact ⟨ret_int (firstF_miss (fun q y hq hy => HP.out q y (by omega) hy)).symm, HB.out⟩
theorem contFS (k : FuncId) (cb : Array Value) (eg : ∀ args w, (callFunc k args).run Tryz.prog w = .ok (.enter k args) w) (tv : Value) (ts : List (ByteArray)) (p : ByteArray → Bool) (w : World) (ht : Sl 1 RStr (Lt w.heap.size) w tv ts) (hf : AsksF k cb RStr w ts p) :
    Calls Tryz.prog 28 #[tv, .func (.func k) #[] cb] w fun e w' => e = .returned (.bool (ts.any p)) ∧ Below w.heap.size w w' := by
  have HC := Lib.hid (idxFS k cb eg tv ts p w ht hf)
  have HZ := Lib.hid (firstF_any p ts)
  generalize firstF p ts = z at *
  obtain ⟨A, c, rfl, h1, h2, _⟩ := ht.open_
  clear hf ht
  go_enter Tryz.func28, Tryz.ntmps28
  go_wp2_with fail
  (with_reducible refine HC.out.mono ?_)
  rintro e w' ⟨rfl, hb'⟩
  go_wp2_with fail
  go_ret
  exact ⟨by rw [← HZ.out]; rfl, hb'⟩
set_option maxHeartbeats 1000000 in
theorem idxFI (k : FuncId) (cb : Array Value) (eg : ∀ args w, (callFunc k args).run Tryz.prog w = .ok (.enter k args) w) (tv : Value) (ts : List (Int)) (p : Int → Bool) (w : World) (ht : Sl 1 RInt (Lt w.heap.size) w tv ts) (hf : AsksF k cb RInt w ts p) :
    Calls Tryz.prog 114 #[tv, .func (.func k) #[] cb] w fun e w' => e = .returned (.int .i64 (firstF p ts)) ∧ Below w.heap.size w w' := by
  obtain ⟨A, c, rfl, h1, h2, ht⟩ := ht.open_
  have HF := Lib.hid hf
  have HT := Lib.hid ht
  clear hf ht
  go_enter Tryz.func114, Tryz.ntmps114
  go_wp2_with fail
  go_loopw [8] (fun i wr => ∃ j : Nat, j ≤ ts.length ∧ i = .int .i64 j ∧ Hid (∀ (q : Nat) t, q < j → ts[q]? = some t → p t = false) ∧ Hid (Below w.heap.size w wr)) (fun i _ => ts.length - (intOf i).toNat)
  case atStart => exact ⟨0, Nat.zero_le _, rfl, Lib.hid (fun q _ h => absurd h (by omega)), Lib.hid (Below.refl _ _)⟩
  case round =>
    obtain ⟨j, hj, rfl, HP, HB⟩ := hrel
    by_cases hlt : j < ts.length
    · obtain ⟨b, o, t, u, rfl, hD, hx, hr, hc⟩ := HT.out.at1 hlt
      have c0 := (HB.out.cell (p := ⟨b, o + j, none⟩) hD).trans hc
      have hcall := HF.out t u wr (List.mem_of_getElem? hx) hr HB.out
      have HX := Lib.hid hx
      clear hx hr hc
      generalize hq : p t = q' at *
      have HQ := Lib.hid hq
      have HC := Lib.hid hcall
      clear hcall hq
      cases q'
      · go_wp2_with (go_at_fn k; (with_reducible refine HC.out.mono ?_); rintro e w' ⟨rfl, hb'⟩; have HB' := Lib.hid (bthen HB.out hb'); clear hb')
        go_roundw
        case rel =>
          refine ⟨j + 1, by omega, by go_num, Lib.hid (fun q y hq hy => ?_), HB'⟩
          by_cases e : q = j
          · subst e; rw [HX.out] at hy; injection hy with hy; subst hy; exact HQ.out
          · exact HP.out q y (by omega) hy
        case measure => simp [intOf]; omega
      · go_wp2_with (go_at_fn k; (with_reducible refine HC.out.mono ?_); rintro e w' ⟨rfl, hb'⟩; have HB' := Lib.hid (bthen HB.out hb'); clear hb')
        go_ret
        exact ⟨ret_int (firstF_hit HX.out HQ.out HP.out).symm, HB'.out⟩
    · go_wp2_with fail
      go_ret
      exact ⟨ret_int (firstF_miss (fun q y hq hy => HP.out q y (by omega) hy)).symm, HB.out⟩
theorem contFI (k : FuncId) (cb : Array Value) (eg : ∀ args w, (callFunc k args).run Tryz.prog w = .ok (.enter k args) w) (tv : Value) (ts : List (Int)) (p : Int → Bool) (w : World) (ht : Sl 1 RInt (Lt w.heap.size) w tv ts) (hf : AsksF k cb RInt w ts p) :
    Calls Tryz.prog 62 #[tv, .func (.func k) #[] cb] w fun e w' => e = .returned (.bool (ts.any p)) ∧ Below w.heap.size w w' := by
  have HC := Lib.hid (idxFI k cb eg tv ts p w ht hf)
  have HZ := Lib.hid (firstF_any p ts)
  generalize firstF p ts = z at *
  obtain ⟨A, c, rfl, h1, h2, _⟩ := ht.open_
  clear hf ht
  go_enter Tryz.func62, Tryz.ntmps62
  go_wp2_with fail
  (with_reducible refine HC.out.mono ?_)
  rintro e w' ⟨rfl, hb'⟩
  go_wp2_with fail
  go_ret
  exact ⟨by rw [← HZ.out]; rfl, hb'⟩
end Go.Proofs.YtoalecalahkblaaGreatDoor

set_option linter.all false
namespace Go.Proofs.YtoalecalahkblaaGreatDoor
open Go.RowKit
def mpV (m : Mp) (dv kv : Value) : Value := .agg #[.int .i64 m.cas, .int .i64 m.act, .int .i64 m.res, .int .i64 m.life, .int .i64 m.time, dv, kv, .int .u8 (m.sep.toNat : Int)]
structure FitM (m : Mp) : Prop where
  cas : Fit m.cas
  act : Fit m.act
  res : Fit m.res
  life : Fit m.life
  time : Fit m.time
def IsMp (D : Nat → Prop) (w : World) (u : Value) (m : Mp) : Prop := ∃ dv kv, u = mpV m dv kv ∧ FitM m ∧ SlI D w dv m.data ∧ SlI D w kv m.kinds
theorem IsMp.now {w w' : World} {u : Value} {m : Mp} (h : IsMp (Lt w.heap.size) w u m) (hb : Below w.heap.size w w') : IsMp (Lt w'.heap.size) w' u m := by
  obtain ⟨dv, kv, rfl, hf, h1, h2⟩ := h
  exact ⟨dv, kv, rfl, hf, h1.now hb, h2.now hb⟩
theorem Blk.c8m {w : World} {g : Nat} {t : TypeId} {a b c d e f x y : Value} (h : Blk w g t #[a, b, c, d, e, f, x, y]) : w.cell? ⟨g, 0, none⟩ = some a ∧ w.cell? ⟨g, 1, none⟩ = some b ∧ w.cell? ⟨g, 2, none⟩ = some c ∧ w.cell? ⟨g, 3, none⟩ = some d ∧ w.cell? ⟨g, 4, none⟩ = some e ∧ w.cell? ⟨g, 5, none⟩ = some f ∧ w.cell? ⟨g, 6, none⟩ = some x ∧ w.cell? ⟨g, 7, none⟩ = some y :=
  ⟨h.cell 0, h.cell 1, h.cell 2, h.cell 3, h.cell 4, h.cell 5, h.cell 6, h.cell 7⟩
def headC (m : Mp) (k : Nat) : List Int := ([m.cas, m.act, m.time] ++ m.data) ++ (if 1 ≤ k ∧ m.res ≠ -1 then [m.res] else []) ++ (if 2 ≤ k ∧ m.life ≠ -1 then [m.life] else [])
theorem headC_two (m : Mp) : headC m 2 = colsB m := by
  unfold headC colsB
  congr 1
  · congr 1
    by_cases h : m.res = -1
    · rw [if_neg (by simp [h]), if_pos h]
    · rw [if_pos ⟨by omega, h⟩, if_neg h]
  · by_cases h : m.life = -1
    · rw [if_neg (by simp [h]), if_pos h]
    · rw [if_pos ⟨by omega, h⟩, if_neg h]
theorem headC_zero (m : Mp) : headC m 0 = [m.cas, m.act, m.time] ++ m.data := by
  unfold headC; rw [if_neg (by omega), if_neg (by omega)]; simp
theorem headC_res (m : Mp) : headC m 1 = headC m 0 ++ (if m.res = -1 then [] else [m.res]) := by
  rw [headC_zero]
  unfold headC
  rw [if_neg (by omega : ¬ (2 ≤ 1 ∧ m.life ≠ -1)), List.append_nil]
  congr 1
  by_cases h : m.res = -1
  · rw [if_neg (by simp [h]), if_pos h]
  · rw [if_pos ⟨by omega, h⟩, if_neg h]
theorem headC_life (m : Mp) : headC m 2 = headC m 1 ++ (if m.life = -1 then [] else [m.life]) := by
  unfold headC
  rw [if_neg (by omega : ¬ (2 ≤ 1 ∧ m.life ≠ -1)), List.append_nil]
  congr 1
  · congr 1
    by_cases h : m.res = -1
    · rw [if_neg (by simp [h]), if_neg (by simp [h])]
    · rw [if_pos ⟨by omega, h⟩, if_pos ⟨by omega, h⟩]
  · by_cases h : m.life = -1
    · rw [if_neg (by simp [h]), if_pos h]
    · rw [if_pos ⟨by omega, h⟩, if_neg h]
theorem nodup_of : ∀ zs : List Int, (∀ (i : Nat) x, zs[i]? = some x → x ∉ zs.take i) → zs.Nodup := by
  intro zs
  have key : ∀ n, n ≤ zs.length → (∀ (i : Nat) x, zs[i]? = some x → x ∉ zs.take i) → (zs.take n).Nodup := by
    intro n
    induction n with
    | zero => intro _ _; rw [List.take_zero]; exact List.nodup_nil
    | succ n ih =>
      intro hn h
      rw [List.take_add_one, List.getElem?_eq_getElem (by omega), List.nodup_append]
      refine ⟨ih (by omega) h, by simp, ?_⟩
      intro a ha b hb e
      have hb : b = zs[n] := by simpa using hb
      subst hb
      rw [e] at ha
      exact h n _ (List.getElem?_eq_getElem (by omega)) ha
  intro h
  have := key zs.length (Nat.le_refl _) h
  rwa [List.take_of_length_le (Nat.le_refl _)] at this
theorem not_nodup {zs : List Int} {i : Nat} {x : Int} (hx : zs[i]? = some x) (h : x ∈ zs.take i) : ¬ zs.Nodup := by
  intro hn
  obtain ⟨hi, rfl⟩ := List.getElem?_eq_some_iff.1 hx
  obtain ⟨j, hj, e⟩ := List.mem_iff_getElem.1 h
  rw [List.getElem_take] at e
  rw [List.length_take] at hj
  exact List.pairwise_iff_getElem.1 hn j i (by omega) hi (by omega) e
theorem mapB_eq {m : Mp} (h1 : isSep m.sep = true) (h2 : m.data.length ≤ 8) (h3 : m.kinds.length = m.data.length) : mapB m = ((colsB m).all (fun k => decide (0 ≤ k) && decide (k < 40)) && decide (colsB m).Nodup && m.kinds.all kindB) := by
  unfold mapB
  rw [h1, decide_eq_true h2, decide_eq_true h3]; rfl
theorem mapB_bad {m : Mp} (h : isSep m.sep = false ∨ 8 < m.data.length ∨ m.kinds.length ≠ m.data.length) : mapB m = false := by
  unfold mapB
  rcases h with h | h | h
  · rw [h]; rfl
  · rw [decide_eq_false (by omega : ¬ m.data.length ≤ 8)]; simp
  · rw [decide_eq_false h]; simp
theorem kind_any (k : Int) (w : World) : Calls Tryz.prog 63 #[.int .i64 k] w fun e w' => e = .returned (.bool (!kindB k)) ∧ w = w' := by
  have HK : Hid (kindB k = ((k == 1) || (k == 2) || (k == 3))) := by
    show _ = _
    unfold kindB
    rw [show (k == 1) = decide (k = 1) from rfl, show (k == 2) = decide (k = 2) from rfl, show (k == 3) = decide (k = 3) from rfl]
  generalize kindB k = q at *
  have e1 : (k != 1) = !(k == 1) := rfl
  have e2 : (k != 2) = !(k == 2) := rfl
  have e3 : (k != 3) = !(k == 3) := rfl
  generalize (k == 1) = q1 at *
  generalize (k == 2) = q2 at *
  generalize (k == 3) = q3 at *
  cases q1 <;> cases q2 <;> cases q3
  all_goals
    simp only [Bool.not_true, Bool.not_false] at e1 e2 e3
    go_enter Tryz.func63, Tryz.ntmps63
    go_wp2_with fail
    go_ret
    exact ⟨ret_bool (by rw [HK.out]; rfl), rfl⟩
theorem enters_kind : ∀ args w, (callFunc 63 args).run Tryz.prog w = .ok (.enter 63 args) w := enters_of Tryz.func63 (by kernel_rfl) rfl
theorem kinds_any (v : Value) (zs : List Int) (w : World) (h : SlI (Lt w.heap.size) w v zs) :
    Calls Tryz.prog 62 #[v, .func (.func 63) #[] #[]] w fun e w' => e = .returned (.bool (!zs.all kindB)) ∧ Below w.heap.size w w' := by
  have hf : AsksF 63 #[] RInt w zs (fun k => !kindB k) := by
    intro x u W _ hr _
    obtain ⟨h1, _⟩ := hr
    injection h1 with h1
    subst h1
    exact (kind_any x W).mono fun e w' ⟨h1, h2⟩ => ⟨h1, h2 ▸ Below.refl _ _⟩
  have hc := contFI 63 #[] enters_kind v zs _ w h hf
  have e : (zs.any fun k => !kindB k) = !zs.all kindB := by
    clear hc hf h
    induction zs with
    | nil => rfl
    | cons a r ih => simp [List.any_cons, List.all_cons, ih]
  rw [e] at hc
  exact hc
abbrev mpCells (m : Mp) (dv kv : Value) : Array Value := #[.int .i64 m.cas, .int .i64 m.act, .int .i64 m.res, .int .i64 m.life, .int .i64 m.time, dv, kv, .int .u8 (m.sep.toNat : Int)]
theorem appInts : AppInfo Tryz.prog 31 3 1 := AppInfo.mk' (z := .int .i64 0) (bytes := 8) Tryz.underlying31 (by kernel_rfl) (by decide) rfl (by decide)
def OwnZ (w : World) (base : Nat) (v : Value) (zs : List Int) : Prop := w.ownsRow base 3 1 v zs.length (zs.map (Value.int .i64))
set_option maxHeartbeats 8000000 in
set_option maxRecDepth 100000 in
theorem valid_any (u : Value) (m : Mp) (w : World) (h : IsMp (Lt w.heap.size) w u m) (hb : m.data.length ≤ 1000000) :
    Calls Tryz.prog 18 #[u] w fun e w' => e = .returned (.bool (mapB m)) ∧ Below w.heap.size w w' := by
  obtain ⟨dv, kv, rfl, hfm, hd, hk⟩ := h
  obtain ⟨Ad, cd, rfl, _, _, hd⟩ := hd.open_
  obtain ⟨Ak, ck, rfl, _, _, hk⟩ := hk.open_
  have HFM := Lib.hid hfm
  have HD := Lib.hid hd
  have HK := Lib.hid hk
  have HSEP := Lib.hid (separates_any m.sep)
  obtain ⟨q, hq⟩ : ∃ q, isSep m.sep = q := ⟨_, rfl⟩
  rw [hq] at HSEP
  have HQ := Lib.hid hq
  have HB1 := Lib.hid (bone w (.cells (mpCells m (.slice Ad m.data.length cd) (.slice Ak m.kinds.length ck)) 33))
  have HM1 := Lib.hid (Blk.new w 33 (mpCells m (.slice Ad m.data.length cd) (.slice Ak m.kinds.length ck)))
  obtain ⟨z, hz⟩ : ∃ z, (m.sep.toNat : Int) = z := ⟨_, rfl⟩
  unfold mpV
  unfold mpCells at HB1 HM1
  rw [hz] at HSEP HB1 HM1 ⊢
  clear hfm hd hk hq hz
  go_enter Tryz.func18, Tryz.ntmps18
  go_upto_region 1 with fail
  obtain ⟨w1, hw1⟩ : ∃ w1, w.alloc (.cells #[.int .i64 m.cas, .int .i64 m.act, .int .i64 m.res, .int .i64 m.life, .int .i64 m.time, .slice Ad m.data.length cd, .slice Ak m.kinds.length ck, .int .u8 z] 33) = w1 := ⟨_, rfl⟩
  rw [hw1] at HB1 HM1 ⊢
  clear hw1
  obtain ⟨c0, c1, c2, c3, c4, c5, c6, c7⟩ := HM1.out.c8m
  obtain ⟨q1, hq1⟩ : ∃ q1, decide ((8 : Int) < (m.data.length : Int)) = q1 := ⟨_, rfl⟩
  obtain ⟨q2, hq2⟩ : ∃ q2, ((m.kinds.length : Int) != (m.data.length : Int)) = q2 := ⟨_, rfl⟩
  have HQ1 := Lib.hid hq1
  have HQ2 := Lib.hid hq2
  go_cut [26] from 8 to 26 (fun x W => x = .bool (!q || (q1 || q2)) ∧ w1 = W)
  case first =>
    cases q <;> cases q1 <;> cases q2
    all_goals
      go_wp2_with (go_at_call 39; (with_reducible refine (HSEP.out _).mono ?_); rintro _ w' ⟨rfl, rfl⟩)
      go_meet
      exact ⟨rfl, rfl⟩
  obtain ⟨rfl, rfl⟩ := hcut
  have HBAD : Hid ((!q || (q1 || q2)) = true → mapB m = false) := fun h => by
    refine mapB_bad ?_
    cases q with
    | false => exact .inl HQ.out
    | true =>
      cases q1 with
      | true => exact .inr (.inl (by have := of_decide_eq_true HQ1.out; omega))
      | false =>
        cases q2 with
        | true => exact .inr (.inr (fun e => by have := HQ2.out; rw [e] at this; simp at this))
        | false => cases h
  have HGOOD : Hid ((!q || (q1 || q2)) = false → m.data.length ≤ 8 ∧ mapB m = ((colsB m).all (fun k => decide (0 ≤ k) && decide (k < 40)) && decide (colsB m).Nodup && m.kinds.all kindB)) := fun h => by
    cases q with
    | false => cases h
    | true =>
      cases q1 with
      | true => cases h
      | false =>
        cases q2 with
        | true => cases h
        | false =>
          have h1 : m.data.length ≤ 8 := by have := of_decide_eq_false HQ1.out; omega
          have h2 : m.kinds.length = m.data.length := by have := HQ2.out; simp at this; omega
          exact ⟨h1, mapB_eq HQ.out h1 h2⟩
  generalize (!q || (q1 || q2)) = qq at *
  clear hq1 hq2 HQ HQ1 HQ2 HSEP
  cases qq with
  | true =>
    have HE := Lib.hid (HBAD.out rfl)
    go_wp2_with fail
    go_ret
    exact ⟨ret_bool HE.out.symm, HB1.out⟩
  | false =>
    obtain ⟨hd8, hE⟩ := HGOOD.out rfl
    have HE := Lib.hid hE
    have HD1 : Hid (SlI (Lt w1.heap.size) w1 (.slice Ad m.data.length cd) m.data) := SlI.below HD.out HB1.out HB1.out.size
    have HK1 : Hid (SlI (Lt w1.heap.size) w1 (.slice Ak m.kinds.length ck) m.kinds) := SlI.below HK.out HB1.out HB1.out.size
    clear HBAD HGOOD hE HD HK
    have HB2 := Lib.hid (bone w1 (.cells #[.int .i64 m.cas, .int .i64 m.act, .int .i64 m.time] 3))
    have HO2 : Hid (World.ownsRow (w1.alloc (.cells #[.int .i64 m.cas, .int .i64 m.act, .int .i64 m.time] 3)) w1.heap.size 3 1 (.slice (some ⟨w1.heap.size, 0, none⟩) 3 3) 3 [.int .i64 m.cas, .int .i64 m.act, .int .i64 m.time]) := World.ownsRow_lit (base := w1.heap.size) (e := 3) (size := 1) w1 #[.int .i64 m.cas, .int .i64 m.act, .int .i64 m.time] 3 (Nat.le_refl _) (by unfold maxLen; omega) rfl
    obtain ⟨d0, d1, d2, d3, d4, d5, d6, d7⟩ := (HM1.out.now HB2.out).c8m
    have HM2 := Lib.hid (HM1.out.now HB2.out)
    have HDA := Lib.hid (SlI.below HD1.out HB2.out HB2.out.size)
    go_upto_region 4 with (at_builtin; refine wpList_appendAll (R := RInt) appInts rfl (.tmp 33) (.tmp 35) rfl _ _ 3 _ rfl HO2.out _ m.data (Value.int .i64) rfl HDA.out (fun y c h => by obtain ⟨h, _⟩ := h; injection h) (fun _ => rfl) (by omega) HB2.out.size ?_; intro v' w3 hown hgr hat)
    have HO3 : Hid (OwnZ w3 w1.heap.size v' (headC m 0)) := by
      show World.ownsRow _ _ _ _ _ _ _
      rw [headC_zero]
      have e : ([m.cas, m.act, m.time] ++ m.data).length = 3 + m.data.length := by rw [List.length_append]; rfl
      rw [e, List.map_append]
      exact hown
    have HB3 : Hid (Below w1.heap.size w1 w3) := HB2.out.grown hgr HB2.out.size (fun g hg => (HO2.out.lt g hg).1)
    clear hown hgr hat c0 c1 c2 c3 c4 c5 c6 c7 d0 d1 d2 d3 d4 d5 d6 d7 HDA HM2 HO2 HB2
    have HM3 := Lib.hid (HM1.out.now HB3.out)
    have HB4 := Lib.hid (HB3.out.trans ((bone w3 (.cells #[.int .i64 m.res, .int .i64 m.life] 3)).mono HB3.out.size))
    have HL4 := Lib.hid (Blk.new w3 3 #[.int .i64 m.res, .int .i64 m.life])
    have HO4 : Hid (OwnZ (w3.alloc (.cells #[.int .i64 m.res, .int .i64 m.life] 3)) w1.heap.size v' (headC m 0)) := own_now HO3.out (bone w3 _)
    have HN4 : Hid (v'.ownBlock ≠ some w3.heap.size) := fun e => by have := (World.ownsRow.lt HO3.out _ e).2; omega
    obtain ⟨c0, c1, c2, c3, c4, c5, c6, c7⟩ := HM3.out.c8m
    go_upto_region 5 with fail
    obtain ⟨w4, hw4⟩ : ∃ w4, w3.alloc (.cells #[.int .i64 m.res, .int .i64 m.life] 3) = w4 := ⟨_, rfl⟩
    have HLL : Hid (w3.heap.size < w4.heap.size) := by show _ < _; rw [← hw4]; simp
    rw [hw4] at HB4 HL4 HO4 ⊢
    clear hw4 c0 c1 c2 c3 c4 c5 c6 c7 HM3
    obtain ⟨L, hL⟩ : ∃ L, w3.heap.size = L := ⟨_, rfl⟩
    rw [hL] at HL4 HN4 HLL ⊢
    clear hL
    go_loopw [3, 43] (fun cv iv wr => ∃ k : Nat, iv = .int .i64 (k : Int) ∧ k ≤ 2 ∧ Hid (OwnZ wr w1.heap.size cv (headC m k)) ∧ Hid (Below w1.heap.size w1 wr) ∧ Hid (Blk wr L 3 #[.int .i64 m.res, .int .i64 m.life]) ∧ Hid (cv.ownBlock ≠ some L) ∧ Hid (L < wr.heap.size)) (fun _ iv _ => 2 - (intOf iv).toNat)
    case atStart => exact ⟨0, rfl, by omega, HO4, HB4, HL4, HN4, HLL⟩
    case round =>
      obtain ⟨k, rfl, hk, HO, HB, HL, HN, HLS⟩ := hrel
      obtain ⟨l0, l1⟩ := HL.out.c2
      have HLEN : Hid ((headC m k).length < 10000000) := by
        show _ < _
        unfold headC
        rw [List.length_append, List.length_append, List.length_append]
        have h1 : (if 1 ≤ k ∧ m.res ≠ -1 then [m.res] else []).length ≤ 1 := by by_cases h : 1 ≤ k ∧ m.res ≠ -1 <;> simp [h]
        have h2 : (if 2 ≤ k ∧ m.life ≠ -1 then [m.life] else []).length ≤ 1 := by by_cases h : 2 ≤ k ∧ m.life ≠ -1 <;> simp [h]
        simp only [List.length_cons, List.length_nil]
        omega
      have HSTEP : Hid (∀ x rest v' w7, headC m (k + 1) = headC m k ++ rest → rest = [x] → World.ownsRow w7 w1.heap.size 3 1 v' ((headC m k).length + 1) ((headC m k).map (Value.int .i64) ++ [.int .i64 x]) → OwnZ w7 w1.heap.size v' (headC m (k + 1))) := by
        intro x rest v' w7 h1 h2 h3
        show World.ownsRow _ _ _ _ _ _ _
        rw [h1, h2, List.length_append, List.map_append]
        exact h3
      rcases (by omega : k = 0 ∨ k = 1 ∨ k = 2) with rfl | rfl | rfl
      ·
        by_cases hr : m.res = -1
        · have e1 : (m.res != -1) = false := by rw [hr]; rfl
          have hh : headC m 1 = headC m 0 := by rw [headC_res, if_pos hr, List.append_nil]
          have HH := Lib.hid hh
          clear hr hh
          go_wp2_with fail
          go_roundw
          case rel => exact ⟨1, by go_num, by omega, by rw [HH.out]; exact HO, HB, HL, HN, HLS⟩
          case measure => simp [intOf]
        · have e1 : (m.res != -1) = true := by simpa using hr
          have hh : headC m 1 = headC m 0 ++ [m.res] := by rw [headC_res, if_neg hr]
          have HH := Lib.hid hh
          clear hr hh
          go_wp2_with (at_builtin; refine wpList_push appInts rfl (.tmp 49) (.tmp 51) rfl _ [.int .i64 m.res] rfl (fun u hu => by simp at hu; subst hu; rfl) _ _ _ rfl HO.out rfl HLEN.out HB.out.size ?_; intro v' w7 hown hgr hat)
          go_roundw
          case rel =>
            refine ⟨1, by go_num, by omega, HSTEP.out _ _ _ _ HH.out rfl hown, HB.out.grown hgr HB.out.size (fun g hg => (World.ownsRow.lt HO.out g hg).1), HL.out.grown hgr (fun e => HN.out e.symm), ?_, Nat.lt_of_lt_of_le HLS.out hgr.size⟩
            rcases hat with e | e
            · show _ ≠ _; rw [e]; exact HN.out
            · show _ ≠ _; rw [e]; intro e2; injection e2 with e2; have := HLS.out; omega
          case measure => simp [intOf]
      ·
        by_cases hr : m.life = -1
        · have e1 : (m.life != -1) = false := by rw [hr]; rfl
          have hh : headC m 2 = headC m 1 := by rw [headC_life, if_pos hr, List.append_nil]
          have HH := Lib.hid hh
          clear hr hh
          go_wp2_with fail
          go_roundw
          case rel => exact ⟨2, by go_num, by omega, by rw [HH.out]; exact HO, HB, HL, HN, HLS⟩
          case measure => simp [intOf]
        · have e1 : (m.life != -1) = true := by simpa using hr
          have hh : headC m 2 = headC m 1 ++ [m.life] := by rw [headC_life, if_neg hr]
          have HH := Lib.hid hh
          clear hr hh
          go_wp2_with (at_builtin; refine wpList_push appInts rfl (.tmp 49) (.tmp 51) rfl _ [.int .i64 m.life] rfl (fun u hu => by simp at hu; subst hu; rfl) _ _ _ rfl HO.out rfl HLEN.out HB.out.size ?_; intro v' w7 hown hgr hat)
          go_roundw
          case rel =>
            refine ⟨2, by go_num, by omega, HSTEP.out _ _ _ _ HH.out rfl hown, HB.out.grown hgr HB.out.size (fun g hg => (World.ownsRow.lt HO.out g hg).1), HL.out.grown hgr (fun e => HN.out e.symm), ?_, Nat.lt_of_lt_of_le HLS.out hgr.size⟩
            rcases hat with e | e
            · show _ ≠ _; rw [e]; exact HN.out
            · show _ ≠ _; rw [e]; intro e2; injection e2 with e2; have := HLS.out; omega
          case measure => simp [intOf]
      · rw [headC_two] at HO
        have hcl : (colsB m).length < 10000000 := by rw [← headC_two]; exact HLEN.out
        have hcp : 0 < (colsB m).length := by unfold colsB; simp
        obtain ⟨g, cap, rfl, hcap, hOI⟩ := OwnI.of HO.out hcp
        rw [show ((2 : Nat) : Int) = 2 from rfl]
        have HOI := Lib.hid hOI
        have HOZ := HO
        have HBW := Lib.hid (HB1.out.trans (HB.out.mono HB1.out.size))
        obtain ⟨zs, hzs⟩ : ∃ zs, colsB m = zs := ⟨_, rfl⟩
        rw [hzs] at HOI HE hcl hcp hcap ⊢
        clear hzs hOI HO HSTEP HLEN l0 l1 HOZ HN HL HLS
        obtain ⟨w5, hw5⟩ : ∃ w5, wr = w5 := ⟨_, rfl⟩
        rw [hw5] at HOI HB HBW ⊢
        clear hw5
        go_wp2_with fail
        go_loopw [56] (fun iv wr => ∃ i : Nat, iv = .int .i64 (i : Int) ∧ i ≤ zs.length ∧ Hid (∀ (j : Nat) x, j < i → zs[j]? = some x → 0 ≤ x ∧ x < 40 ∧ x ∉ zs.take j) ∧ w5 = wr) (fun iv _ => zs.length - (intOf iv).toNat)
        case atStart => exact ⟨0, rfl, Nat.zero_le _, fun j x hj _ => absurd hj (by omega), rfl⟩
        case round =>
          obtain ⟨i, rfl, hi, HP, rfl⟩ := hrel
          by_cases hlt : i < zs.length
          · have hx : zs[i]? = some zs[i] := List.getElem?_eq_getElem hlt
            have c0 := HOI.out.cell hx
            obtain ⟨x, hxx⟩ : ∃ x, zs[i] = x := ⟨_, rfl⟩
            rw [hxx] at hx c0
            have HX := Lib.hid hx
            have HCT := Lib.hid (Tryz.slices_Contains_int g 0 i cap zs x w5 (by omega) (by omega) (fun j hj => by
              have h1 := HOI.out.cell (List.getElem?_eq_getElem hj)
              rw [Nat.zero_add, h1, List.getD_eq_getElem?_getD, List.getElem?_eq_getElem hj]; rfl))
            have HNO : Hid (¬ (0 ≤ x ∧ x < 40 ∧ x ∉ zs.take i) → mapB m = false) := fun h => by
              rw [HE.out]
              have : (zs.all (fun k => decide (0 ≤ k) && decide (k < 40)) && decide zs.Nodup) = false := by
                rw [Bool.and_eq_false_iff]
                by_cases h1 : 0 ≤ x ∧ x < 40
                · right
                  have h2 : x ∈ zs.take i := by
                    by_cases h3 : x ∈ zs.take i
                    · exact h3
                    · exact absurd ⟨h1.1, h1.2, h3⟩ h
                  exact decide_eq_false (not_nodup HX.out h2)
                · left
                  rw [List.all_eq_false]
                  refine ⟨x, List.mem_of_getElem? HX.out, ?_⟩
                  rw [Bool.and_eq_true, decide_eq_true_eq, decide_eq_true_eq]
                  exact h1
              rw [this]; rfl
            have hic : (i : Int) ≤ (cap : Int) := by omega
            have hi0 : (0 : Int) ≤ (i : Int) := by omega
            clear hx hxx
            by_cases hx0 : x < 0
            · have HF := Lib.hid (HNO.out (fun h => by omega))
              clear HNO HCT
              go_wp2_with fail
              go_ret
              exact ⟨ret_bool HF.out.symm, HBW.out⟩
            by_cases hx40 : (40 : Int) ≤ x
            · have HF := Lib.hid (HNO.out (fun h => by omega))
              clear HNO HCT
              go_wp2_with fail
              go_ret
              exact ⟨ret_bool HF.out.symm, HBW.out⟩
            obtain ⟨q, hq⟩ : ∃ q, (zs.take i).contains x = q := ⟨_, rfl⟩
            rw [hq] at HCT
            cases q with
            | true =>
              have HF := Lib.hid (HNO.out (fun h => h.2.2 (by simpa using hq)))
              clear HNO hq
              go_wp2_with fail
              (with_reducible refine HCT.out.mono ?_)
              rintro _ w6 ⟨rfl, rfl⟩
              go_wp2_with fail
              go_ret
              exact ⟨ret_bool HF.out.symm, HBW.out⟩
            | false =>
              have HOK : Hid (0 ≤ x ∧ x < 40 ∧ x ∉ zs.take i) := ⟨by omega, by omega, by simpa using hq⟩
              clear HNO hq
              go_wp2_with fail
              (with_reducible refine HCT.out.mono ?_)
              rintro _ w6 ⟨rfl, rfl⟩
              go_wp2_with fail
              go_roundw
              case rel => exact ⟨i + 1, by go_num, by omega, fun j y hj hy => by
                by_cases e : j = i
                · subst e; rw [HX.out] at hy; injection hy with hy; subst hy; exact HOK.out
                · exact HP.out j y (by omega) hy, trivial⟩
              case measure => simp [intOf]; omega
          · have HF : Hid (mapB m = m.kinds.all kindB) := by
              show _ = _
              have h1 : zs.all (fun k => decide (0 ≤ k) && decide (k < 40)) = true := by
                rw [List.all_eq_true]
                intro x hx
                obtain ⟨j, hj, rfl⟩ := List.mem_iff_getElem.1 hx
                have := HP.out j zs[j] (by omega) (List.getElem?_eq_getElem hj)
                rw [decide_eq_true this.1, decide_eq_true this.2.1]; rfl
              have h2 : zs.Nodup := nodup_of zs fun j x hx => (HP.out j x (by have := (List.getElem?_eq_some_iff.1 hx).1; omega) hx).2.2
              rw [HE.out, h1, decide_eq_true h2]; rfl
            have HKK := Lib.hid (kinds_any _ m.kinds w5 (SlI.below HK1.out HB.out HB.out.size))
            obtain ⟨q, hq⟩ : ∃ q, m.kinds.all kindB = q := ⟨_, rfl⟩
            rw [hq] at HF HKK
            obtain ⟨c0, c1, c2, c3, c4, c5, c6, c7⟩ := (HM1.out.now HB.out).c8m
            clear hq
            go_wp2_with fail
            (with_reducible refine HKK.out.mono ?_)
            rintro _ w6 ⟨rfl, hb6⟩
            have HB6 := Lib.hid (bthen HBW.out hb6)
            clear hb6
            go_wp2_with fail
            go_ret
            exact ⟨ret_bool (by rw [HF.out]; first | done | rw [Bool.not_not] | simp), HB6.out⟩
end Go.Proofs.YtoalecalahkblaaGreatDoor
