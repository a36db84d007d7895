/- Texts of this seat, merged. -/
import Derived.Lib.Strings
import Derived.Lib.AtoiErrMem
import Derived.Shelf.Strconv.ErrVarAll
import Derived.Lib.Builder
import Derived.Lib.AppendStr
import Derived.Lib.UnsafeStr
import Derived.Lib.FrozenHead2
import Derived.Lib.OthersKept
import Derived.Laws.Externs
import Derived.Test.YtoalecalahkblaaGreatDoorIl01
import Derived.Test.YtoalecalahkblaaGreatDoorIl02
import Derived.Test.YtoalecalahkblaaGreatDoorIl03
set_option linter.all false
set_option linter.all false
namespace Go.Proofs.YtoalecalahkblaaGreatDoor
open Go.RowKit
theorem rowR_bad {sep : UInt8} {n : Nat} {acc : List Bt} {t rest : Bt} {e : Int} (h : cellR sep t = .bad rest e) : rowR sep n acc t = .bad rest e := by
  cases n <;> (unfold rowR; rw [h])
theorem rowR_end {sep : UInt8} {n : Nat} {acc : List Bt} {t b : Bt} (h : cellR sep t = .ok b []) : rowR sep n acc t = .ok (acc ++ [b]) [] := by
  cases n <;> (unfold rowR; rw [h])
theorem rowR_line {sep : UInt8} {n : Nat} {acc : List Bt} {t b rest : Bt} (h : cellR sep t = .ok b (10 :: rest)) : rowR sep n acc t = .ok (acc ++ [b]) rest := by
  cases n with
  | zero => unfold rowR; rw [h]
  | succ n => unfold rowR; rw [h]; simp only [if_pos]
theorem rowR_next {sep c : UInt8} {n : Nat} {acc : List Bt} {t b rest : Bt} (h : cellR sep t = .ok b (c :: rest)) (hc : c ≠ 10) : rowR sep (n + 1) acc t = rowR sep n (acc ++ [b]) rest := by
  conv => lhs; unfold rowR
  rw [h]; simp only [if_neg hc]
theorem tabR_end {sep : UInt8} {n : Nat} {acc : List (List Bt)} : tabR sep n acc [] = .ok acc := by cases n <;> rfl
theorem tabR_full {sep c : UInt8} {n : Nat} {acc : List (List Bt)} {t : Bt} (h : acc.length = 2001) : tabR sep n acc (c :: t) = .bad (c :: t) 5 := by
  cases n with
  | zero => rfl
  | succ n => unfold tabR; rw [if_pos h]
theorem tabR_bad {sep c : UInt8} {n : Nat} {acc : List (List Bt)} {t rest : Bt} {e : Int} (h : acc.length ≠ 2001) (hr : rowR sep (c :: t).length [] (c :: t) = .bad rest e) : tabR sep (n + 1) acc (c :: t) = .bad rest e := by
  unfold tabR; rw [if_neg h, hr]
theorem tabR_row {sep c : UInt8} {n : Nat} {acc : List (List Bt)} {t rest : Bt} {r : List Bt} (h : acc.length ≠ 2001) (hr : rowR sep (c :: t).length [] (c :: t) = .ok r rest) : tabR sep (n + 1) acc (c :: t) = tabR sep n (acc ++ [r]) rest := by
  conv => lhs; unfold tabR
  rw [if_neg h, hr]
def RetRows (p : List (List Bt) × (Int × Int) × Int) (w : World) (e : Ending) (w' : World) : Prop := ∃ v, e = .returned (.tuple #[v, .agg #[.int .i64 p.2.1.1, .int .i64 p.2.1.2], .int .i64 p.2.2]) ∧ SlSS (Lt w'.heap.size) w' v p.1 ∧ Below w.heap.size w w'
theorem own_slPD {D : Nat → Prop} {w : World} {base t : Nat} {v : Value} {ls : List Bt} (h : w.ownsRow base t 1 v ls.length (ls.map fun l => Value.string (bsOf l))) (hD : ∀ g, v.ownBlock = some g → D g) (hf : ∀ l ∈ ls, l.length ≤ maxLen) : SlP D w v ls := by
  have e : (ls.map fun l => Value.string (bsOf l)) = (ls.map bsOf).map Value.string := by rw [List.map_map]; rfl
  rw [e] at h
  have hl : ls.length = (ls.map bsOf).length := by rw [List.length_map]
  rw [hl] at h
  refine Sl.of_own1 h rfl hD fun i x hx => ?_
  refine ⟨.string x, ?_, rfl, ?_⟩
  · rw [List.getElem?_map, hx]; rfl
  · obtain ⟨l, hl, rfl⟩ := List.mem_map.1 (List.mem_of_getElem? hx)
    rw [bs_size]; exact hf l hl
def OwnT (w : World) (base : Nat) (v : Value) (ls : List Bt) : Prop := w.ownsRow base 9 1 v ls.length (ls.map fun l => Value.string (bsOf l))
theorem OwnT.nil {w : World} {base : Nat} : OwnT w base (.slice none 0 0) [] := World.ownsRow_nil _ _ _ _
theorem OwnT.chg {R base : Nat} {w w' : World} {v : Value} {l : List Bt} (h : OwnT w base v l) (k : Chg (One R) w w') (hR : R < base) : OwnT w' base v l := by
  refine World.ownsRow.kept h k.grown ?_
  cases e : v.ownBlock with
  | none => exact .inl rfl
  | some g => exact .inr (fun h' => by injection h' with h'; have := (World.ownsRow.lt h g e).1; omega)
theorem OwnT.open_ {base : Nat} {w : World} {v : Value} {l : List Bt} (h : OwnT w base v l) : ∃ A c, v = .slice A l.length c := by
  rcases h.2 with ⟨rfl, h0⟩ | ⟨g, cap, cur, rfl, _⟩
  · exact ⟨none, 0, by rw [h0]⟩
  · exact ⟨_, _, rfl⟩
theorem appStr : AppInfo Tryz.prog 51 9 1 := AppInfo.mk' (z := .string ⟨#[]⟩) (bytes := 16) Tryz.underlying51 (by kernel_rfl) (by decide) rfl (by decide)
theorem appStrs : AppInfo Tryz.prog 22 51 1 := AppInfo.mk' (z := .slice none 0 0) (bytes := 24) Tryz.underlying22 (by kernel_rfl) (by decide) rfl (by decide)
theorem OwnR.chg {α : Type} {size : Nat} {E : ElemR α} {X : Nat → Prop} {R base t : Nat} {w w' : World} {v : Value} {xs : List α} (h : OwnR size E X w base t v xs) (hE : ElemR.Kept E) (k : Chg (One R) w w') (hX : X R) (hR : R < base) : OwnR size E X w' base t v xs :=
  h.grown hE k.grown fun g e => by
    injection e with e
    subst e
    exact ⟨hX, fun e => by have := (h.lt _ e).1; omega⟩
theorem bset2' {B g : Nat} {w0 w : World} (h : Below B w0 w) (hg : B ≤ g) (a b : Value) : Below B w0 ((w.setCell ⟨g, 0, none⟩ a).setCell ⟨g, 1, none⟩ b) :=
  (h.setCell (p := ⟨g, 0, none⟩) hg a).setCell (p := ⟨g, 1, none⟩) hg b
theorem Blk.put2 {w : World} {g t : Nat} {a b : Value} (h : Blk w g t #[a, b]) (x y : Value) : Blk ((w.setCell ⟨g, 0, none⟩ x).setCell ⟨g, 1, none⟩ y) g t #[x, y] := (h.set_ 0 x).set_ 1 y
set_option maxHeartbeats 8000000 in
set_option maxRecDepth 100000 in
theorem cells_any (s : ByteArray) (sep : UInt8) (w : World) (hsz : s.size ≤ 9223372036854775807) :
    Calls Tryz.prog 22 #[.string s, .int .u8 (sep.toNat : Int)] w (RetRows (cellsE sep s.data.toList) w) := by
  have hlen : s.data.toList.length = s.size := by simp
  have HSEP := Lib.hid (separates_any sep)
  obtain ⟨q, hq⟩ : ∃ q, isSep sep = q := ⟨_, rfl⟩
  rw [hq] at HSEP
  have hb1 := bone w (.cells #[.int .i64 0, .int .i64 0] 40)
  have hP1 := Blk.new w 40 #[.int .i64 0, .int .i64 0]
  have f0 := hP1.frozen 0
  have f1 := hP1.frozen 1
  cases q with
  | false =>
    have HE : Hid (cellsE sep s.data.toList = ([], (0, 0), 1)) := by show _ = _; unfold cellsE; rw [if_pos hq]
    clear hq hlen
    go_enter Tryz.func22, Tryz.ntmps22
    go_upto_region 1 with fail
    obtain ⟨w1, hw1⟩ : ∃ w1, w.alloc (.cells #[.int .i64 0, .int .i64 0] 40) = w1 := ⟨_, rfl⟩
    rw [hw1] at hb1 hP1 f0 f1 ⊢
    clear hw1
    obtain ⟨d0, d1⟩ := hP1.c2
    go_wp2_with fail
    (with_reducible refine (HSEP.out _).mono ?_)
    rintro _ w2 ⟨rfl, rfl⟩
    go_wp2_with fail
    obtain ⟨r0, r1⟩ := (hP1.put2 (.int .i64 0) (.int .i64 0)).c2
    refine bodyPost_ret (v := .tuple #[.slice none 0 0, .agg #[.int .i64 0, .int .i64 0], .int .i64 1]) (by simp [results, Tryz.results22, go_sem, r0, r1]) rfl ?_
    rw [HE.out]
    exact ⟨_, rfl, Sl.none_, bset2' hb1 (Nat.le_refl _) _ _⟩
  | true =>
  by_cases hlong : 16384 < s.size
  · have HE : Hid (cellsE sep s.data.toList = ([], (0, 0), 5)) := by show _ = _; unfold cellsE; rw [if_neg (by rw [hq]; decide), if_pos (by omega)]
    have i1 : (16384 : Int) < (s.size : Int) := by omega
    clear hq hlen
    go_enter Tryz.func22, Tryz.ntmps22
    go_upto_region 1 with fail
    obtain ⟨w1, hw1⟩ : ∃ w1, w.alloc (.cells #[.int .i64 0, .int .i64 0] 40) = w1 := ⟨_, rfl⟩
    rw [hw1] at hb1 hP1 f0 f1 ⊢
    clear hw1
    obtain ⟨d0, d1⟩ := hP1.c2
    go_wp2_with fail
    (with_reducible refine (HSEP.out _).mono ?_)
    rintro _ w2 ⟨rfl, rfl⟩
    go_wp2_with fail
    obtain ⟨r0, r1⟩ := (hP1.put2 (.int .i64 0) (.int .i64 0)).c2
    refine bodyPost_ret (v := .tuple #[.slice none 0 0, .agg #[.int .i64 0, .int .i64 0], .int .i64 5]) (by simp [results, Tryz.results22, go_sem, r0, r1]) rfl ?_
    rw [HE.out]
    exact ⟨_, rfl, Sl.none_, bset2' hb1 (Nat.le_refl _) _ _⟩
  have hs : s.size ≤ 16384 := by omega
  have HE : Hid (cellsE sep s.data.toList = tabE s.data.toList (tabR sep s.data.toList.length [] s.data.toList)) := by
    show _ = _
    unfold cellsE
    rw [if_neg (by rw [hq]; decide), if_neg (by omega)]
  have i1 : ¬ (16384 : Int) < (s.size : Int) := by omega
  clear hq hlong
  go_enter Tryz.func22, Tryz.ntmps22
  go_upto_region 1 with fail
  obtain ⟨w1, hw1⟩ : ∃ w1, w.alloc (.cells #[.int .i64 0, .int .i64 0] 40) = w1 := ⟨_, rfl⟩
  have hs1 : w1.heap.size = w.heap.size + 1 := by rw [← hw1]; simp
  rw [hw1] at hb1 hP1 f0 f1 ⊢
  clear hw1 f0 f1
  go_wp2_with fail
  (with_reducible refine (HSEP.out _).mono ?_)
  rintro _ w2 ⟨rfl, rfl⟩
  go_upto_region 6 with fail
  have hR2 := Blk.new w1 107 #[.string s, .int .u8 (sep.toNat : Int), .int .i64 0, .int .i64 1, .int .i64 1]
  have hb12 := bone w1 (.cells #[.string s, .int .u8 (sep.toNat : Int), .int .i64 0, .int .i64 1, .int .i64 1] 107)
  have hP2 := hP1.now hb12
  have hb2 := bbox hb1 (.cells #[.string s, .int .u8 (sep.toNat : Int), .int .i64 0, .int .i64 1, .int .i64 1] 107)
  have hs2 : (w1.alloc (.cells #[.string s, .int .u8 (sep.toNat : Int), .int .i64 0, .int .i64 1, .int .i64 1] 107)).heap.size = w.heap.size + 2 := by simp [hs1]
  rw [hs1] at hR2
  obtain ⟨w2, hw2⟩ : ∃ w2, w1.alloc (.cells #[.string s, .int .u8 (sep.toNat : Int), .int .i64 0, .int .i64 1, .int .i64 1] 107) = w2 := ⟨_, rfl⟩
  rw [hw2] at hR2 hP2 hb2 hs2 ⊢
  have HR2 : Hid (RdC w2 (w.heap.size + 1) s sep 0) := hR2
  have HP2 := Lib.hid hP2
  have HB2 := Lib.hid hb2
  have HS2 := Lib.hid hs2
  clear hw2 hb12 hP1 hb1 hs1 hR2 hP2 hb2 hs2
  go_wp2_with fail
  go_loopg [8] s.size (fun g1 ov wr => ∃ (i n : Nat) (acc : List (List Bt)), i ≤ s.size ∧ s.size ≤ g1 + i ∧ acc.length ≤ i ∧ RdC wr (w.heap.size + 1) s sep i ∧ Blk wr w.heap.size 40 #[.int .i64 0, .int .i64 0] ∧ OwnR 1 RStrs (Lt w2.heap.size) wr w2.heap.size 51 ov acc ∧ Chg (One (w.heap.size + 1)) w2 wr ∧ s.size ≤ n + i ∧ Hid (tabR sep s.data.toList.length [] s.data.toList = tabR sep n acc (s.data.toList.drop i)))
  case atStart => exact ⟨0, s.size, [], Nat.zero_le _, by omega, Nat.le_refl _, HR2.out, HP2.out, OwnR.nil, Chg.refl, by omega, by show _ = _; rw [hlen, List.drop_zero]⟩
  case round =>
    obtain ⟨i, n, acc, his, hg, hal, hR, hP, hO, hC, hn, hQ⟩ := hrel
    have HRI := Lib.hid hR
    have HPI := Lib.hid hP
    have HOI := Lib.hid hO
    have HC := Lib.hid hC
    have HMI := Lib.hid (more_any _ s sep i wr hR hs)
    obtain ⟨A, cb, hA⟩ := hO.open_
    subst hA
    clear hR hP hO hC
    by_cases hi : i < s.size
    · have HM : Hid (Calls Tryz.prog 68 #[.pointer (some ⟨w.heap.size + 1, 0, none⟩)] wr fun e w' => e = .returned (.bool true) ∧ Below wr.heap.size wr w') := by have := HMI.out; rwa [decide_eq_true hi] at this
      have HDI := Lib.hid (dropAt hi)
      clear HMI
      go_wp2_with fail
      (with_reducible refine HM.out.mono ?_)
      rintro _ w3 ⟨rfl, hb3⟩
      have HR3 : Hid (RdC w3 (w.heap.size + 1) s sep i) := Blk.now HRI.out hb3
      have HP3 := Lib.hid (HPI.out.now hb3)
      have HO3 := Lib.hid (HOI.out.now RStrs.kept hb3)
      have HC3 := Lib.hid (HC.out.trans (Chg.of_below hb3))
      clear HM hb3 HRI HPI HOI HC
      by_cases hful : acc.length = 2001
      · have e1 : ((acc.length : Int) == 2001) = true := by rw [hful]; rfl
        have HT : Hid (tabR sep s.data.toList.length [] s.data.toList = .bad (s.data.toList.drop i) 5) := by
          show _ = _
          rw [hQ.out, HDI.out, tabR_full hful]
        have hB3 : Blk w3 (w.heap.size + 1) 107 (rdrCells s sep i (plAt s.data.toList i)) := HR3.out
        obtain ⟨c0, c1, c2, c3, c4⟩ := hB3.c5
        obtain ⟨d0, d1⟩ := HP3.out.c2
        have f0 := HP3.out.frozen 0
        have f1 := HP3.out.frozen 1
        have HB3 := Lib.hid (HB2.out.trans (HC3.out.below (B := w.heap.size) (by have := HB2.out.size; omega) fun b hb e => by have e : b = w.heap.size + 1 := e; omega))
        clear hful hB3
        obtain ⟨⟨p1, p2⟩, hpl⟩ : ∃ pl, plAt s.data.toList i = pl := ⟨_, rfl⟩
        rw [hpl] at c3 c4
        have HPL := Lib.hid hpl
        clear hpl
        simp only at c3 c4
        go_upto_region 9 with fail
        go_region
        have hz := (HP3.out.put2 (.int .i64 p1) (.int .i64 p2)).drew
        have hbz := (bset2' HB3.out (Nat.le_refl _) (.int .i64 p1) (.int .i64 p2)).drew
        generalize ((w3.setCell ⟨w.heap.size, 0, none⟩ (.int .i64 p1)).setCell ⟨w.heap.size, 1, none⟩ (.int .i64 p2)).drew = wz at hz hbz ⊢
        obtain ⟨r0, r1⟩ := hz.c2
        go_wp2_with fail
        refine bodyPost_ret (v := .tuple #[.slice none 0 0, .agg #[.int .i64 p1, .int .i64 p2], .int .i64 5]) (by simp [results, Tryz.results22, go_sem, r0, r1]) rfl ?_
        have HF : cellsE sep s.data.toList = ([], (p1, p2), 5) := by
          rw [HE.out, HT.out]
          show ([], plAt s.data.toList (s.data.toList.length - (s.data.toList.drop i).length), 5) = _
          rw [List.length_drop, hlen, show s.size - (s.size - i) = i by omega, HPL.out]
        rw [HF]
        exact ⟨_, rfl, Sl.none_, hbz⟩
      · have e1 : ((acc.length : Int) == 2001) = false := beq_false_of_ne (by omega)
        go_wp2_with fail
        go_loopg [9] s.size (fun g2 rv wr2 => ∃ (j m : Nat) (racc : List Bt), i ≤ j ∧ j ≤ s.size ∧ s.size ≤ g2 + j ∧ racc.length ≤ j ∧ (∀ l ∈ racc, l.length ≤ maxLen) ∧ RdC wr2 (w.heap.size + 1) s sep j ∧ OwnT wr2 w3.heap.size rv racc ∧ Chg (One (w.heap.size + 1)) w3 wr2 ∧ s.size ≤ m + j ∧ Hid (rowR sep (s.data.toList.drop i).length [] (s.data.toList.drop i) = rowR sep m racc (s.data.toList.drop j)))
        case atStart => exact ⟨i, (s.data.toList.drop i).length, [], Nat.le_refl _, his, by omega, Nat.zero_le _, (fun l hl => by cases hl), HR3.out, OwnT.nil, Chg.refl, by rw [List.length_drop]; omega, rfl⟩
        case round =>
          obtain ⟨j, m, racc, hij, hjs, hg2, hrl, hrb, hR, hT, hC, hm, hRQ⟩ := hrel
          have HT := Lib.hid hT
          have HC := Lib.hid hC
          have HCELL := Lib.hid (cell_any _ s sep j wr hR hs hjs)
          obtain ⟨Ar, cr, hA⟩ := hT.open_
          subst hA
          clear hR hT hC
          go_wp2_with fail
          (with_reducible refine HCELL.out.mono ?_)
          rintro e w4 ⟨j1, hj1, hj1s, hR4, hC4, hm4⟩
          obtain ⟨cr, hcr⟩ : ∃ cr, cellR sep (s.data.toList.drop j) = cr := ⟨_, rfl⟩
          rw [hcr] at hm4
          have HC4 := Lib.hid (HC.out.trans hC4)
          have HT4 := Lib.hid (HT.out.chg hC4 (by have := HS2.out; have := HC3.out.size; omega))
          have HR4 := Lib.hid hR4
          clear HCELL HC HT hR4 hC4
          cases cr with
          | bad rest k =>
            obtain ⟨rfl, hk, rfl⟩ := hm4
            have hkk : (k != 0) = true := by simpa using hk
            obtain ⟨n', rfl⟩ : ∃ n', n = n' + 1 := ⟨n - 1, by omega⟩
            have HTT : Hid (tabR sep s.data.toList.length [] s.data.toList = .bad (s.data.toList.drop j1) k) := by
              show _ = _
              rw [hQ.out, HDI.out, tabR_bad hful (by rw [← HDI.out, hRQ.out, rowR_bad hcr])]
            have hB4 : Blk w4 (w.heap.size + 1) 107 (rdrCells s sep j1 (plAt s.data.toList j1)) := HR4.out
            obtain ⟨c0, c1, c2, c3, c4⟩ := hB4.c5
            have HP4 := Lib.hid (HP3.out.chg HC4.out (show ¬ w.heap.size = w.heap.size + 1 by omega))
            obtain ⟨d0, d1⟩ := HP4.out.c2
            have f0 := HP4.out.frozen 0
            have f1 := HP4.out.frozen 1
            have HB4 := Lib.hid (HB2.out.trans ((HC3.out.trans HC4.out).below (B := w.heap.size) (by have := HB2.out.size; omega) fun b hb e => by have e : b = w.heap.size + 1 := e; omega))
            clear hB4 hcr hk
            obtain ⟨⟨p1, p2⟩, hpl⟩ : ∃ pl, plAt s.data.toList j1 = pl := ⟨_, rfl⟩
            rw [hpl] at c3 c4
            have HPL := Lib.hid hpl
            clear hpl
            simp only at c3 c4
            go_upto_region 13 with fail
            go_region
            have hz := (HP4.out.put2 (.int .i64 p1) (.int .i64 p2)).drew
            have hbz := (bset2' HB4.out (Nat.le_refl _) (.int .i64 p1) (.int .i64 p2)).drew
            generalize ((w4.setCell ⟨w.heap.size, 0, none⟩ (.int .i64 p1)).setCell ⟨w.heap.size, 1, none⟩ (.int .i64 p2)).drew = wz at hz hbz ⊢
            obtain ⟨r0, r1⟩ := hz.c2
            go_wp2_with fail
            refine bodyPost_ret (v := .tuple #[.slice none 0 0, .agg #[.int .i64 p1, .int .i64 p2], .int .i64 k]) (by simp [results, Tryz.results22, go_sem, r0, r1]) rfl ?_
            have HF : cellsE sep s.data.toList = ([], (p1, p2), k) := by
              rw [HE.out, HTT.out]
              show ([], plAt s.data.toList (s.data.toList.length - (s.data.toList.drop j1).length), k) = _
              rw [List.length_drop, hlen, show s.size - (s.size - j1) = j1 by omega, HPL.out]
            rw [HF]
            exact ⟨_, rfl, Sl.none_, hbz⟩
          | ok b rest =>
            obtain ⟨hrest, hbl, rfl⟩ := hm4
            have HS4 := Lib.hid HC4.out.size
            have hbm : b.length ≤ maxLen := by unfold maxLen; omega
            have HCR := Lib.hid hcr
            have HREST := Lib.hid hrest
            clear hcr hrest
            go_upto_region 15 with (at_builtin; refine wpList_push appStr rfl (.tmp 48) (.tmp 50) rfl w4 [.string (bsOf b)] rfl (fun u hu => by simp at hu; subst hu; rfl) _ racc.length (racc.map fun l => Value.string (bsOf l)) rfl HT4.out rfl (by omega) HS4.out ?_; intro v' w5 hown hgr hat)
            have hrl2 : (racc ++ [b]).length = racc.length + 1 := by rw [List.length_append, List.length_singleton]
            have HT5 : Hid (OwnT w5 w3.heap.size v' (racc ++ [b])) := by
              show World.ownsRow _ _ _ _ _ _ _
              rw [hrl2, List.map_append]; exact hown
            have HR5 := Lib.hid (HR4.out.grown hgr (fun e => by have := (World.ownsRow.lt HT4.out _ e.symm).1; have := HS2.out; have := HC3.out.size; omega))
            have HC5 := Lib.hid (HC4.out.more hgr (fun g hg => .inl (World.ownsRow.lt HT4.out g hg).1))
            have hrb2 : ∀ l ∈ racc ++ [b], l.length ≤ maxLen := fun l hl => by
              rcases List.mem_append.1 hl with hl | hl
              · exact hrb l hl
              · rw [List.mem_singleton] at hl; rw [hl]; exact hbm
            obtain ⟨Av, cv, hv⟩ := HT5.out.open_
            rw [hrl2] at hv
            subst hv
            clear hown hgr hat HT4 HR4 HC4 hrb hbm
            have HMJ := Lib.hid (more_any _ s sep j1 w5 HR5.out hs)
            go_cut [59] from 52 to 59 (fun x W => ∃ (q : Bool) (j2 : Nat), x = .bool q ∧ RdC W (w.heap.size + 1) s sep j2 ∧ Chg (One (w.heap.size + 1)) w5 W ∧ i < j2 ∧ j2 ≤ s.size ∧ j1 ≤ j2 ∧ j ≤ j2 ∧ (q = true → rowR sep m racc (s.data.toList.drop j) = .ok (racc ++ [b]) (s.data.toList.drop j2)) ∧ (q = false → j < j2 ∧ 1 ≤ m ∧ rowR sep m racc (s.data.toList.drop j) = rowR sep (m - 1) (racc ++ [b]) (s.data.toList.drop j2)))
            case first =>
              by_cases hj1 : j1 < s.size
              · have HM : Hid (Calls Tryz.prog 68 #[.pointer (some ⟨w.heap.size + 1, 0, none⟩)] w5 fun e w' => e = .returned (.bool true) ∧ Below w5.heap.size w5 w') := by have := HMJ.out; rwa [decide_eq_true hj1] at this
                have HDJ := Lib.hid (dropAt hj1)
                have e3 := beqI s[j1] 10 10 rfl
                have HN0 := Lib.hid (fun W hW => next_any (w.heap.size + 1) s sep j1 W hW hs hj1)
                generalize s[j1] = c at *
                obtain ⟨z, hz⟩ : ∃ z, (c.toNat : Int) = z := ⟨_, rfl⟩
                rw [hz] at e3 HN0
                obtain ⟨q, hq⟩ : ∃ q, (c == 10) = q := ⟨_, rfl⟩
                rw [hq] at e3
                have HQQ := Lib.hid hq
                clear HMJ hz hq
                go_wp2_with fail
                (with_reducible refine HM.out.mono ?_)
                rintro _ w6 ⟨rfl, hb6⟩
                have HR6 : Hid (RdC w6 (w.heap.size + 1) s sep j1) := Blk.now HR5.out hb6
                have HC6 := Lib.hid (Chg.of_below (S := One (w.heap.size + 1)) hb6)
                clear hb6
                go_wp2_with fail
                (with_reducible refine (HN0.out w6 HR6.out).mono ?_)
                rintro _ w7 ⟨rfl, hR7, hC7⟩
                have HR7 := Lib.hid hR7
                have HC7 := Lib.hid (HC6.out.trans hC7)
                clear hR7 hC7
                go_wp2_with fail
                go_meet
                refine ⟨q, j1 + 1, rfl, HR7.out, HC7.out, by omega, by omega, by omega, by omega, fun h => ?_, fun h => ?_⟩
                · have hc : c = 10 := by have := HQQ.out; rw [h] at this; exact beq_iff_eq.1 this
                  have h1 := HCR.out
                  rw [HREST.out, HDJ.out, hc] at h1
                  exact rowR_line h1
                · have hc : c ≠ 10 := fun e => by have := HQQ.out; rw [h, e] at this; cases this
                  have h1 := HCR.out
                  rw [HREST.out, HDJ.out] at h1
                  obtain ⟨m', rfl⟩ : ∃ m', m = m' + 1 := ⟨m - 1, by omega⟩
                  exact ⟨by omega, by omega, rowR_next h1 hc⟩
              · have HM : Hid (Calls Tryz.prog 68 #[.pointer (some ⟨w.heap.size + 1, 0, none⟩)] w5 fun e w' => e = .returned (.bool false) ∧ Below w5.heap.size w5 w') := by have := HMJ.out; rwa [decide_eq_false hj1] at this
                clear HMJ
                go_wp2_with fail
                (with_reducible refine HM.out.mono ?_)
                rintro _ w6 ⟨rfl, hb6⟩
                have HR6 : Hid (RdC w6 (w.heap.size + 1) s sep j1) := Blk.now HR5.out hb6
                have HC6 := Lib.hid (Chg.of_below (S := One (w.heap.size + 1)) hb6)
                clear hb6
                go_wp2_with fail
                go_meet
                have hde : s.data.toList.drop j1 = [] := dropEnd (by omega)
                refine ⟨true, j1, rfl, HR6.out, HC6.out, by omega, by omega, by omega, by omega, fun h => ?_, fun h => by cases h⟩
                have h1 := HCR.out
                rw [HREST.out, hde] at h1
                rw [hde]
                exact rowR_end h1
            obtain ⟨q, j2, rfl, hR6, hC6, hij2, hj2s, hj12, hjj2, hqt, hqf⟩ := hcut
            have HT6 := Lib.hid (HT5.out.chg hC6 (by have := HS2.out; have := HC3.out.size; omega))
            have HC6 := Lib.hid (HC5.out.trans hC6)
            have HR6 := Lib.hid hR6
            clear hR6 hC6 HT5 HC5 HR5 HMJ
            cases q with
            | false =>
              obtain ⟨hlt, hm1, hrw⟩ := hqf rfl
              have HRW : Hid (rowR sep (s.data.toList.drop i).length [] (s.data.toList.drop i) = rowR sep (m - 1) (racc ++ [b]) (s.data.toList.drop j2)) := by show _ = _; rw [hRQ.out, hrw]
              clear hqt hqf hrw
              go_wp2_with fail
              go_roundg (s.size - j2)
              case measure => omega
              case rel => exact ⟨j2, m - 1, racc ++ [b], by omega, hj2s, by omega, by omega, hrb2, HR6.out, HT6.out, HC6.out, by omega, HRW.out⟩
            | true =>
              have hrw := hqt rfl
              obtain ⟨n', rfl⟩ : ∃ n', n = n' + 1 := ⟨n - 1, by omega⟩
              have HTR : Hid (tabR sep s.data.toList.length [] s.data.toList = tabR sep n' (acc ++ [racc ++ [b]]) (s.data.toList.drop j2)) := by
                show _ = _
                rw [hQ.out, HDI.out, tabR_row hful (by rw [← HDI.out, hRQ.out, hrw])]
              clear hqt hqf hrw
              have HP6 := Lib.hid (HP3.out.chg HC6.out (show ¬ w.heap.size = w.heap.size + 1 by omega))
              have HO6 := Lib.hid (OwnR.chg HO3.out RStrs.kept HC6.out (show w.heap.size + 1 < w2.heap.size by have := HS2.out; omega) (by have := HS2.out; omega))
              have HC6' := Lib.hid (HC3.out.trans HC6.out)
              have HS6 := Lib.hid HC6'.out.size
              have HY : Hid (RStrs (Off (Lt w2.heap.size) wc (.slice A acc.length cb)) wc (racc ++ [b]) [.slice Av (racc.length + 1) cv]) := by
                refine ⟨_, rfl, own_slPD HT6.out (fun g hg => ?_) hrb2⟩
                have h1 := World.ownsRow.lt HT6.out g hg
                have h2 := HS2.out
                have h3 := HC3.out.size
                refine ⟨h1.2, fun e => ?_, fun e => ?_⟩
                · have := (HO3.out.lt g e).2
                  omega
                · have e : g < w2.heap.size := e
                  omega
              clear HO3 HP3 HR3 HT6 HC6 hrb2
              go_wp2_with (at_builtin; refine wpList_pushR (X := Lt w2.heap.size) appStrs RStrs.kept rfl (.tmp 60) (.tmp 62) rfl wc [.slice Av (racc.length + 1) cv] rfl (fun u hu => by simp at hu; subst hu; rfl) _ acc (racc ++ [b]) rfl HO6.out HY.out rfl (by omega) HS6.out ?_; intro v' w7 hown hgr hat)
              have HO7 := Lib.hid hown
              have HG7 := Lib.hid hgr
              clear hown hgr hat
              go_roundg (s.size - j2)
              case measure => omega
              case rel =>
                have hne : ∀ x, x < w2.heap.size → some x ≠ (Value.slice A acc.length cb).ownBlock := fun x hx e => by
                  have := (HO6.out.lt x e.symm).1
                  omega
                refine ⟨j2, n', acc ++ [racc ++ [b]], hj2s, by omega, by rw [List.length_append, List.length_singleton]; omega, HR6.out.grown HG7.out (hne _ (by have := HS2.out; omega)), HP6.out.grown HG7.out (hne _ (by have := HS2.out; omega)), HO7.out, HC6'.out.more HG7.out (fun g hg => .inl (HO6.out.lt g hg).1), by omega, HTR.out⟩
    · have HM : Hid (Calls Tryz.prog 68 #[.pointer (some ⟨w.heap.size + 1, 0, none⟩)] wr fun e w' => e = .returned (.bool false) ∧ Below wr.heap.size wr w') := by have := HMI.out; rwa [decide_eq_false hi] at this
      have HF : Hid (cellsE sep s.data.toList = (acc, (0, 0), 0)) := by
        show _ = _
        rw [HE.out, hQ.out, dropEnd (by omega), tabR_end]; rfl
      clear HMI
      go_wp2_with fail
      (with_reducible refine HM.out.mono ?_)
      rintro _ w3 ⟨rfl, hb3⟩
      have HR3 : Hid (RdC w3 (w.heap.size + 1) s sep i) := Blk.now HRI.out hb3
      have hP3 := HPI.out.now hb3
      have HO3 := Lib.hid (HOI.out.now RStrs.kept hb3)
      have HC3 := Lib.hid (HC.out.trans (Chg.of_below hb3))
      have HB3 := Lib.hid (HB2.out.trans (HC3.out.below (B := w.heap.size) (by have := HB2.out.size; omega) fun b hb e => by have e : b = w.heap.size + 1 := e; omega))
      obtain ⟨d0, d1⟩ := hP3.c2
      have f0 := hP3.frozen 0
      have f1 := hP3.frozen 1
      have HP3 := Lib.hid hP3
      clear HM hb3 HRI HPI HOI HC hP3
      go_wp2_with fail
      have hz := HP3.out.put2 (.int .i64 0) (.int .i64 0)
      have hbz := bset2' HB3.out (Nat.le_refl _) (.int .i64 0) (.int .i64 0)
      have hoz : Sl 1 RStrs (Lt ((w3.setCell ⟨w.heap.size, 0, none⟩ (.int .i64 0)).setCell ⟨w.heap.size, 1, none⟩ (.int .i64 0)).heap.size) ((w3.setCell ⟨w.heap.size, 0, none⟩ (.int .i64 0)).setCell ⟨w.heap.size, 1, none⟩ (.int .i64 0)) (.slice A acc.length cb) acc := by
        have hpl : w.heap.size < w2.heap.size := by have := HS2.out; omega
        have hne : (Value.slice A acc.length cb).ownBlock ≠ some w.heap.size := fun e => by
          have := (HO3.out.lt _ e).1
          omega
        exact ((HO3.out.far RStrs.kept (p := ⟨w.heap.size, 0, none⟩) hpl hne _).far RStrs.kept (p := ⟨w.heap.size, 1, none⟩) hpl hne _).sl RStrs.kept
      generalize (w3.setCell ⟨w.heap.size, 0, none⟩ (.int .i64 0)).setCell ⟨w.heap.size, 1, none⟩ (.int .i64 0) = wz at hz hbz hoz ⊢
      obtain ⟨r0, r1⟩ := hz.c2
      refine bodyPost_ret (v := .tuple #[.slice A acc.length cb, .agg #[.int .i64 0, .int .i64 0], .int .i64 0]) (by simp [results, Tryz.results22, go_sem, r0, r1]) rfl ?_
      rw [HF.out]
      exact ⟨_, rfl, hoz, hbz⟩
end Go.Proofs.YtoalecalahkblaaGreatDoor

set_option linter.all false
namespace Go.Proofs.YtoalecalahkblaaGreatDoor
open Go.RowKit
def nmOf (f : Fld) : Bs := f.nm.data.toList
def namesE (e : Ev) : List Bs := e.data.map nmOf
def namesTo (l : List Ev) (i : Nat) : List Bs := (l.take i).flatMap namesE
def colsL (l : List Ev) : List Bs := setB (namesTo l l.length)
def FitN (l : List Ev) : Prop := ∀ e ∈ l, ∀ f ∈ e.data, f.nm.size ≤ maxLen
end Go.Proofs.YtoalecalahkblaaGreatDoor

set_option linter.all false
namespace Go.Proofs.YtoalecalahkblaaGreatDoor
open Go.RowKit
theorem less_eqB : ∀ (x y : List UInt8), Op.bytesLess x y = decide (x < y)
  | [], [] => by simp [Op.bytesLess]
  | _ :: _, [] => by simp [Op.bytesLess]
  | [], _ :: _ => by simp [Op.bytesLess]
  | a :: x, b :: y => by
    rw [Op.bytesLess, less_eqB x y]
    simp only [List.cons_lt_cons_iff]
    by_cases h1 : a < b <;> by_cases h2 : a = b <;> by_cases h3 : x < y <;> simp [h1, h2, h3]
theorem less_at (x y : ByteArray) : Op.bytesLess x.toList y.toList = decide (x.data.toList < y.data.toList) := by
  rw [less_eqB, Lib.toList_data, Lib.toList_data]
end Go.Proofs.YtoalecalahkblaaGreatDoor

set_option linter.all false
namespace Go.Proofs.YtoalecalahkblaaGreatDoor
open Go.RowKit
def cmpS (x y : ByteArray) : Int := if x.data.toList < y.data.toList then -1 else if y.data.toList < x.data.toList then 1 else 0
theorem isNaN_str (x : ByteArray) (w : World) : Calls Tryz.prog 147 #[.string x] w fun e w' => e = .returned (.bool false) ∧ w' = w := by
  go_enter Tryz.func147, Tryz.ntmps147
  go_wp2_with fail
  go_ret
  exact ⟨by simp, rfl⟩
theorem compare_str (x y : ByteArray) (w : World) : Calls Tryz.prog 103 #[.string x, .string y] w fun e w' => e = .returned (.int .i64 (cmpS x y)) ∧ w' = w := by
  have HX := Lib.hid (isNaN_str x)
  have HY := Lib.hid (isNaN_str y)
  have HC : Hid (cmpS x y = if x.data.toList < y.data.toList then -1 else if y.data.toList < x.data.toList then 1 else 0) := Lib.hid rfl
  have h1 := less_at x y
  have h2 := less_at y x
  by_cases hl : x.data.toList < y.data.toList
  · rw [decide_eq_true hl] at h1
    have HE : Hid (cmpS x y = -1) := Lib.hid (by rw [HC.out, if_pos hl])
    clear hl h2
    go_enter Tryz.func103, Tryz.ntmps103
    go_wp2_with (first | (go_at_call 147; (with_reducible first | refine (HX.out _).mono ?_ | refine (HY.out _).mono ?_); rintro e w' ⟨rfl, rfl⟩))
    go_ret
    exact ⟨by rw [HE.out]; rfl, rfl⟩
  · rw [decide_eq_false hl] at h1
    by_cases hg : y.data.toList < x.data.toList
    · rw [decide_eq_true hg] at h2
      have HE : Hid (cmpS x y = 1) := Lib.hid (by rw [HC.out, if_neg hl, if_pos hg])
      have hne : (x.toList == y.toList) = false := by
        rw [Lib.toList_data, Lib.toList_data, beq_eq_false_iff_ne]
        intro e; rw [e] at hg; exact List.lt_irrefl _ hg
      clear hl hg
      go_enter Tryz.func103, Tryz.ntmps103
      go_wp2_with (first | (go_at_call 147; (with_reducible first | refine (HX.out _).mono ?_ | refine (HY.out _).mono ?_); rintro e w' ⟨rfl, rfl⟩))
      go_ret
      exact ⟨by rw [HE.out]; rfl, rfl⟩
    · rw [decide_eq_false hg] at h2
      have HE : Hid (cmpS x y = 0) := Lib.hid (by rw [HC.out, if_neg hl, if_neg hg])
      have hne : (x.toList == y.toList) = true := by
        rw [Lib.toList_data, Lib.toList_data, beq_iff_eq]
        exact List.le_antisymm (List.not_lt.1 hg) (List.not_lt.1 hl)
      clear hl hg
      go_enter Tryz.func103, Tryz.ntmps103
      go_wp2_with (first | (go_at_call 147; (with_reducible first | refine (HX.out _).mono ?_ | refine (HY.out _).mono ?_); rintro e w' ⟨rfl, rfl⟩))
      go_ret
      exact ⟨by rw [HE.out]; rfl, rfl⟩
def nlt (x y : Fld) : Bool := decide (nmOf x < nmOf y)
theorem swo_nlt : Go.Sort.SWO nlt := by
  refine ⟨fun x => ?_, fun x y z => ?_, fun x y z => ?_⟩ <;> unfold nlt
  · exact decide_eq_false (List.lt_irrefl _)
  · simp only [decide_eq_true_eq]; exact fun h1 h2 => List.lt_trans h1 h2
  · simp only [decide_eq_false_iff_not, List.not_lt]; exact fun h1 h2 => List.le_trans h2 h1
theorem ltOf_nm : (Go.Proofs.ltOf fun x y : Fld => cmpS x.nm y.nm) = nlt := by
  funext x y
  unfold nlt
  show decide ((if nmOf x < nmOf y then (-1 : Int) else if nmOf y < nmOf x then 1 else 0) < 0) = _
  by_cases h : nmOf x < nmOf y
  · rw [if_pos h, decide_eq_true h]; rfl
  · rw [if_neg h, decide_eq_false h]
    by_cases h2 : nmOf y < nmOf x
    · rw [if_pos h2]; rfl
    · rw [if_neg h2]; rfl
theorem nlt_unique {l m : List Fld} (h : l.Perm m) (hn : (l.map nmOf).Nodup) (h1 : AscM nlt l) (h2 : AscM nlt m) : l = m := by
  have key : ∀ {k : List Fld}, (k.map nmOf).Nodup → AscM nlt k → k.Pairwise fun x y => nmOf x < nmOf y := fun {k} hd ha => by
    have hd := List.pairwise_map.1 hd
    refine List.Pairwise.imp₂ (fun x y (h1 : nmOf x ≠ nmOf y) (h2 : nlt y x = false) => ?_) hd ha
    have h3 : nmOf x ≤ nmOf y := List.not_lt.1 (of_decide_eq_false h2)
    rcases Classical.em (nmOf x < nmOf y) with h | h
    · exact h
    · exact absurd (List.le_antisymm h3 (List.not_lt.1 h)) h1
  exact List.Perm.eq_of_pairwise (fun a b _ _ e1 e2 => absurd (List.lt_trans e1 e2) (List.lt_irrefl _)) (key hn h1) (key ((h.map _).nodup_iff.1 hn) h2) h
def fldC (f : Fld) : List Value := [.string f.nm, .int .i64 f.v.kind, .int .i64 f.v.n, .string f.v.s]
theorem fldC_one (f : Fld) : ∀ v ∈ fldC f, v.oneCell' = true := fun v hv => by
  simp [fldC] at hv
  rcases hv with rfl | rfl | rfl | rfl <;> rfl
def OwnFl (w : World) (base : Nat) (v : Value) (L : List Fld) : Prop := OwnW 4 fldC w base 123 v L
theorem fldCmp_any (x y : Fld) (W : World) :
    Calls Tryz.prog 102 #[.agg (fldC x).toArray, .agg (fldC y).toArray] W fun e w' => e = .returned (.int .i64 (cmpS x.nm y.nm)) ∧ ∃ q os', w' = Go.Sort.grow (W.drewN q) os' := by
  have hb1 := bone W (.cells (fldC x).toArray 123)
  have hb2 := bone (W.alloc (.cells (fldC x).toArray 123)) (.cells (fldC y).toArray 123)
  unfold fldC at hb1 hb2 ⊢
  have HX := Lib.hid ((Blk.new W 123 #[.string x.nm, .int .i64 x.v.kind, .int .i64 x.v.n, .string x.v.s]).now hb2)
  have HY := Lib.hid (Blk.new (W.alloc (.cells #[.string x.nm, .int .i64 x.v.kind, .int .i64 x.v.n, .string x.v.s] 123)) 123 #[.string y.nm, .int .i64 y.v.kind, .int .i64 y.v.n, .string y.v.s])
  have hsz1 : (W.alloc (.cells #[.string x.nm, .int .i64 x.v.kind, .int .i64 x.v.n, .string x.v.s] 123)).heap.size = W.heap.size + 1 := by simp
  rw [hsz1] at HY
  have HG : Hid (∃ q os', (W.alloc (.cells #[.string x.nm, .int .i64 x.v.kind, .int .i64 x.v.n, .string x.v.s] 123)).alloc (.cells #[.string y.nm, .int .i64 y.v.kind, .int .i64 y.v.n, .string y.v.s] 123) = Go.Sort.grow (W.drewN q) os') := Lib.hid ⟨0, _, by rw [Go.Sort.alloc_eq_grow, Go.Sort.alloc_eq_grow, Go.Sort.grow_grow]; rfl⟩
  have HC := Lib.hid (compare_str x.nm y.nm)
  clear hb1 hb2 hsz1
  go_enter Tryz.func102, Tryz.ntmps102
  go_upto_region 1 with fail
  obtain ⟨w2, hw2⟩ : ∃ w2, (W.alloc (.cells #[.string x.nm, .int .i64 x.v.kind, .int .i64 x.v.n, .string x.v.s] 123)).alloc (.cells #[.string y.nm, .int .i64 y.v.kind, .int .i64 y.v.n, .string y.v.s] 123) = w2 := ⟨_, rfl⟩
  rw [hw2] at HX HY HG ⊢
  clear hw2
  obtain ⟨a0, a1, a2, a3⟩ := HX.out.c4
  obtain ⟨b0, b1, b2, b3⟩ := HY.out.c4
  go_wp2_with fail
  (with_reducible refine (HC.out _).mono ?_)
  rintro e w' ⟨rfl, rfl⟩
  go_wp2_with fail
  go_ret
  exact ⟨rfl, HG.out⟩
theorem enters_fldCmp : ∀ args w, (callFunc 102 args).run Tryz.prog w = .ok (.enter 102 args) w := enters_of Tryz.func102 (by kernel_rfl) rfl
theorem OwnFl.open_ {base : Nat} {w : World} {v : Value} {l : List Fld} (h : OwnFl w base v l) : ∃ A c, v = .slice A l.length c := by
  rcases h.2 with ⟨rfl, h0⟩ | ⟨g, cap, cur, rfl, _⟩
  · exact ⟨none, 0, by rw [h0]⟩
  · exact ⟨_, _, rfl⟩
theorem sortFl_any {w : World} {base : Nat} {v : Value} {L : List Fld} (ho : OwnFl w base v L) (hn : (L.map nmOf).Nodup) (hl : L.length ≤ 1000000) :
    Calls Tryz.prog 101 #[v, .func (.func 102) #[] #[]] w fun e w' => e = .returned (.tuple #[]) ∧ OwnFl w' base v (sortS nlt L) ∧ w.grownBy w' v.ownBlock := by
  rcases Nat.eq_zero_or_pos L.length with h0 | h0
  · have hx : L = [] := List.eq_nil_of_length_eq_zero h0
    subst hx
    obtain ⟨A, c, rfl⟩ := ho.open_
    have h := Go.Proofs.AnyF.slices_SortFunc_none Tryz.sortE A c (.func (.func 102) #[] #[]) w
    refine Calls.mono (show Calls Tryz.prog 101 _ _ _ from h) fun e w' ⟨he, hw⟩ => ⟨he, ?_, ?_⟩
    · rw [hw]; exact ho
    · rw [hw]; exact World.grownBy.refl w _
  · rcases ho.2 with ⟨_, h1⟩ | ⟨g, cap, cur, rfl, hb, hg, hc1, hc2, hc3, htk⟩
    · omega
    have hgl : g < w.heap.size := (Array.getElem?_eq_some_iff.1 hg).1
    haveI : Inhabited Fld := ⟨L[0]'h0⟩
    have hF : (Go.Sort.flatK fldC 4 L.toArray).toList = flat fldC L := by
      have := flatK_eq (k := 4) fldC fldC (fun x : Fld => x) (fun _ => rfl) (fun _ => rfl) L.toArray
      rw [this, List.map_id']
    have hfl : (flat fldC L).length = L.length * 4 := flat_len (size := 4) (fun _ => rfl) L
    have hH : Go.Sort.HoldsK fldC 4 w g 0 L.toArray := by
      intro j hj
      have hjs : j < L.length * 4 := by rw [← hfl, ← hF, Array.length_toList]; exact hj
      refine ⟨?_, by simp [World.frozen?, hg]⟩
      have h1 : (cur.toList.take (L.length * 4))[j]? = (flat fldC L)[j]? := by rw [htk]
      rw [List.getElem?_take_of_lt (by omega), ← hF] at h1
      simp only [World.cell?, hg, Nat.zero_add, Option.isSome_none, Bool.false_eq_true, if_false]
      rw [← Array.getElem?_toList, h1, Array.getElem?_toList, Array.getElem?_eq_getElem hj, getElem!_pos _ j hj]; rfl
    have hcmp : Go.Proofs.CmpLays Tryz.prog 102 #[] fldC 4 (fun x y : Fld => cmpS x.nm y.nm) g 0 L.toArray.size w := fun m os dk hdk x y => fldCmp_any x y _
    have h := Go.Proofs.AnyQ.slices_SortFunc Tryz.sortE 4 Tryz.isAgg123 Tryz.sizeOf123 fldC (fun _ => rfl) (fun x => fldC_one x) (fun x y : Fld => cmpS x.nm y.nm) (by rw [ltOf_nm]; exact swo_nlt) 102 #[] g 0 cap L.toArray w enters_fldCmp hcmp hH hgl (by show L.length < _; omega)
    have hsz : L.toArray.size = L.length := rfl
    rw [ltOf_nm, hsz] at h
    refine Calls.mono (show Calls Tryz.prog 101 #[.slice (some ⟨g, 0, none⟩) L.length cap, .func (.func 102) #[] #[]] w _ from h) fun e w' ⟨he, d', n, os, hp, hs, hw⟩ => ?_
    have hd' : d'.size = L.length := hp.1
    have hperm : d'.toList.Perm L := by
      obtain ⟨h1, _, h3⟩ := hp
      have e1 : (d'.extract 0 L.length) = d' := by rw [← hd']; exact Array.extract_size
      have e2 : (L.toArray.extract 0 L.length) = L.toArray := Array.extract_size
      rw [e1, e2] at h3
      have h4 := h3
      simpa using h4
    have hasc : AscM nlt d'.toList := by
      refine List.pairwise_iff_getElem.2 fun i j hi hj hij => ?_
      have hi' : i < d'.size := by simpa using hi
      have hj' : j < d'.size := by simpa using hj
      have h5 := hs i j (Nat.zero_le _) hij (by omega)
      rw [getElem!_pos d' i hi', getElem!_pos d' j hj'] at h5
      exact h5
    have hS : d'.toList = sortS nlt L := nlt_unique (hperm.trans (perm_sortS (lt := nlt) L).symm) ((hperm.map nmOf).nodup_iff.2 hn) hasc (asc_sortS swo_nlt L)
    have hgr : w.grownBy w' (some g) := by rw [hw]; exact grown_sorted fldC 4 w g n d' os
    refine ⟨he, ?_, hgr⟩
    rw [← hS]
    have hdl : d'.toList.length = L.length := Array.length_toList.trans hd'
    refine ⟨by rw [flat_len (size := 4) (fun _ => rfl)], .inr ⟨g, cap, _, by rw [hdl], hb, by rw [hw]; exact heap_sortedK fldC 4 w g n d' os hg, by rw [hdl]; exact hc1, hc2, by simp [Go.Sort.putCells, hc3], ?_⟩⟩
    have e1 : d'.toList.length * 4 = (Go.Sort.flatK fldC 4 d').size := by rw [Array.length_toList, Go.Sort.size_flatK]
    have e2 := flatK_eq (k := 4) fldC fldC (fun x : Fld => x) (fun _ => rfl) (fun _ => rfl) d'
    rw [List.map_id'] at e2
    rw [e1, take_put cur _ (by rw [Go.Sort.size_flatK, hc3, hd']; omega), e2]
end Go.Proofs.YtoalecalahkblaaGreatDoor

set_option linter.all false
namespace Go.Proofs.YtoalecalahkblaaGreatDoor
open Go.RowKit
def plainS (s : ByteArray) : Bool := s.data.toList.all plainC
theorem any_not_allC (l : List UInt8) : (l.any fun x => !plainC x) = !l.all plainC := by
  induction l with
  | nil => rfl
  | cons a m ih => simp [List.any_cons, List.all_cons, ih]
theorem textB_long {s : ByteArray} (h : 200 < s.size) : textB s = false := by
  unfold textB
  have h' : ¬ s.size ≤ 200 := by omega
  simp [h']
theorem textB_short {s : ByteArray} (h : s.size ≤ 200) : textB s = plainS s := by unfold textB plainS; simp [h]
theorem rowB_new (w : World) (s : ByteArray) (cap t : Nat) (fr : Nat × Nat) : RowB (w.alloc (.cells (bytesRow s cap) t fr)).drew w.heap.size s.data.toList := by
  intro k c hk
  rw [Array.getElem?_toList] at hk
  have hkl : k < s.data.size := by
    rcases Nat.lt_or_ge k s.data.size with h | h
    · exact h
    · rw [Array.getElem?_eq_none h] at hk; cases hk
  have h1 : (w.alloc (.cells (bytesRow s cap) t fr)).drew.heap[w.heap.size]? = some (.cells (bytesRow s cap) t fr) := by
    show (w.heap.push _)[w.heap.size]? = _
    simp
  simp only [World.cell?, h1]
  simp only [Option.isSome_none, Bool.false_eq_true, if_false]
  unfold bytesRow
  rw [Array.getElem?_append_left (by simpa using hkl), Array.getElem?_map, hk]
  rfl
set_option maxHeartbeats 400000 in
theorem text_any (s : ByteArray) (w : World) (hs : s.size ≤ maxLen) : Calls Tryz.prog 167 #[.string s] w fun e w' => e = .returned (.bool (textB s)) ∧ Below w.heap.size w w' := by
  unfold maxLen at hs
  by_cases h1 : 200 < s.size
  · have HE := Lib.hid (textB_long h1)
    go_enter Tryz.func167, Tryz.ntmps167
    go_wp2
    go_ret
    exact ⟨ret_bool HE.out.symm, Below.refl _ _⟩
  · have h2 : s.size ≤ 200 := by omega
    have HE : Hid (textB s = !(s.data.toList.any fun x => !plainC x)) := by show textB s = _; rw [textB_short h2, any_not_allC]; unfold plainS; simp
    have hconv := fun w => run_bytes_of_string (P := Tryz.prog) w 9 72 5 s Tryz.underlying9 Tryz.underlying72 Tryz.underlying5
    go_enter Tryz.func167, Tryz.ntmps167
    go_wp2_with fail
    refine (containsTextB w.heap.size _ s.data.toList _ (by rw [Array.length_toList]; show s.size ≤ _; omega) (rowB_new w s _ _ _)).mono ?_
    rintro e w1 ⟨rfl, rfl⟩
    generalize (s.data.toList.any fun x => !plainC x) = q at *
    go_wp2_with fail
    go_ret
    exact ⟨ret_bool HE.out.symm, (bone w _).drew⟩
theorem byte_plain {s : ByteArray} {k : Nat} (h : k < s.size) : plainC (s.data.toList[k]'(by simpa using h)) = true ↔ 32 ≤ (s[k].toNat : Int) ∧ (s[k].toNat : Int) ≤ 126 := plainC_iff _
theorem all_plain {s : ByteArray} (h : ∀ j (hj : j < s.size), plainC (s.data.toList[j]'(by simpa using hj)) = true) : plainS s = true := by
  unfold plainS
  rw [List.all_eq_true]
  intro c hc
  obtain ⟨j, hj, rfl⟩ := List.mem_iff_getElem.1 hc
  exact h j (by simpa using hj)
theorem not_plain {s : ByteArray} {j : Nat} (hj : j < s.size) (h : ¬ plainC (s.data.toList[j]'(by simpa using hj)) = true) : plainS s = false := by
  unfold plainS
  rw [Bool.eq_false_iff]
  intro h'
  exact h (List.all_eq_true.1 h' _ (List.getElem_mem _))
set_option maxHeartbeats 400000 in
theorem printable_ref (s : ByteArray) (w : World) (hs : s.size ≤ maxLen) : Calls Tryz.prog 95 #[.string s] w fun e w' => e = .returned (.bool (plainS s)) ∧ w = w' := by
  unfold maxLen at hs
  go_enter Tryz.func95, Tryz.ntmps95
  go_wp2_with fail
  go_loop [3] (fun i => ∃ k : Nat, k ≤ s.size ∧ i = .int .i64 k ∧ ∀ j (hj : j < s.size), j < k → plainC (s.data.toList[j]'(by simpa using hj)) = true) (fun i => s.size - (intOf i).toNat)
  case atStart => exact ⟨0, Nat.zero_le _, rfl, fun j _ hj => absurd hj (by omega)⟩
  case round =>
    obtain ⟨k, hk, rfl, hp⟩ := hrel
    have HP := Lib.hid hp
    clear hp
    by_cases hlt : k < s.size
    · have HY := Lib.hid (byte_plain hlt)
      by_cases h1 : (s[k].toNat : Int) < 32
      · have HE := Lib.hid (not_plain hlt (fun h => by have := HY.out.1 h; omega))
        go_wp2_with fail
        go_ret
        exact ⟨ret_bool HE.out.symm, rfl⟩
      by_cases h2 : 126 < (s[k].toNat : Int)
      · have HE := Lib.hid (not_plain hlt (fun h => by have := HY.out.1 h; omega))
        go_wp2_with fail
        go_ret
        exact ⟨ret_bool HE.out.symm, rfl⟩
      have HQ := Lib.hid (HY.out.2 ⟨by omega, by omega⟩)
      go_wp2_with fail
      go_round
      case rel => exact ⟨k + 1, by omega, by go_num, fun j hj hjk => by
        by_cases e : j = k
        · subst e; exact HQ.out
        · exact HP.out j hj (by omega)⟩
      case measure => simp [intOf]; omega
    · have HE := Lib.hid (all_plain (s := s) (fun j hj => HP.out j hj (by omega)))
      go_wp2_with fail
      go_ret
      exact ⟨ret_bool HE.out.symm, rfl⟩
set_option maxHeartbeats 400000 in
theorem text_ref (s : ByteArray) (w : World) (hs : s.size ≤ maxLen) : Calls Tryz.prog 153 #[.string s] w fun e w' => e = .returned (.bool (textB s)) ∧ w = w' := by
  have HC := Lib.hid (fun w => printable_ref s w hs)
  unfold maxLen at hs
  by_cases h1 : 200 < s.size
  · have HE := Lib.hid (textB_long h1)
    go_enter Tryz.func153, Tryz.ntmps153
    go_wp2
    go_ret
    exact ⟨ret_bool HE.out.symm, rfl⟩
  · have h2 : s.size ≤ 200 := by omega
    have HE := Lib.hid (textB_short h2)
    generalize plainS s = q at *
    go_enter Tryz.func153, Tryz.ntmps153
    go_wp2_with (go_at_call 95; refine (HC.out _).mono ?_; rintro e w' ⟨rfl, rfl⟩)
    go_ret
    exact ⟨ret_bool HE.out.symm, rfl⟩
set_option maxHeartbeats 1000000 in
theorem validV_any (v : Val) (w : World) (h : FitV v) : Calls Tryz.prog 143 #[valV v] w fun e w' => e = .returned (.bool (validV v)) ∧ Below w.heap.size w w' := by
  obtain ⟨k, n, s⟩ := v
  obtain ⟨h1, h2, h3⟩ := h
  have HT := Lib.hid (fun w => text_any s w h3)
  have HN := Lib.hid (fun w => number_any n w)
  unfold validV valV noS
  dsimp only at h1 h2 h3 ⊢
  clear h1 h2 h3
  have hb := bone w (.cells #[.int .i64 k, .int .i64 n, .string s] 121)
  by_cases k1 : k = 1
  · subst k1
    by_cases hS : s.toList = []
    · have hS2 : s.toList.isEmpty = true := by simpa using hS
      by_cases n0 : n = 0
      · subst n0
        go_enter Tryz.func143, Tryz.ntmps143
        go_wp2_with fail
        go_ret
        exact ⟨ret_bool (by first | (simp; done) | simp [hS]), hb⟩
      · by_cases n1 : n = 1
        · subst n1
          go_enter Tryz.func143, Tryz.ntmps143
          go_wp2_with fail
          go_ret
          exact ⟨ret_bool (by first | (simp; done) | simp [hS]), hb⟩
        · go_enter Tryz.func143, Tryz.ntmps143
          go_wp2_with fail
          go_ret
          exact ⟨ret_bool (by first | (simp; done) | simp [n0, n1]), hb⟩
    · have hS2 : s.toList.isEmpty = false := by simpa using hS
      by_cases n0 : n = 0
      · subst n0
        go_enter Tryz.func143, Tryz.ntmps143
        go_wp2_with fail
        go_ret
        exact ⟨ret_bool (by first | (simp; done) | simp [hS]), hb⟩
      · by_cases n1 : n = 1
        · subst n1
          go_enter Tryz.func143, Tryz.ntmps143
          go_wp2_with fail
          go_ret
          exact ⟨ret_bool (by first | (simp; done) | simp [hS]), hb⟩
        · go_enter Tryz.func143, Tryz.ntmps143
          go_wp2_with fail
          go_ret
          exact ⟨ret_bool (by first | (simp; done) | simp [n0, n1]), hb⟩
  by_cases k2 : k = 2
  · subst k2
    generalize numB n = q at *
    by_cases hS : s.toList = []
    · have hS2 : s.toList.isEmpty = true := by simpa using hS
      cases q
      all_goals
        go_enter Tryz.func143, Tryz.ntmps143
        go_wp2_with (go_at_call 166; refine (HN.out _).mono ?_; rintro e w' ⟨rfl, rfl⟩)
        go_ret
        exact ⟨ret_bool (by first | (simp; done) | simp [hS]), hb⟩
    · have hS2 : s.toList.isEmpty = false := by simpa using hS
      cases q
      all_goals
        go_enter Tryz.func143, Tryz.ntmps143
        go_wp2_with (go_at_call 166; refine (HN.out _).mono ?_; rintro e w' ⟨rfl, rfl⟩)
        go_ret
        exact ⟨ret_bool (by first | (simp; done) | simp [hS]), hb⟩
  by_cases k3 : k = 3
  · subst k3
    by_cases n0 : n = 0
    · subst n0
      generalize textB s = q at *
      go_enter Tryz.func143, Tryz.ntmps143
      go_wp2_with (go_at_call 167; refine (HT.out _).mono ?_; rintro e w' ⟨rfl, hb1⟩)
      go_ret
      exact ⟨ret_bool (by simp), bthen hb hb1⟩
    · go_enter Tryz.func143, Tryz.ntmps143
      go_wp2_with fail
      go_ret
      exact ⟨ret_bool (by first | (simp; done) | simp [n0]), hb⟩
  · go_enter Tryz.func143, Tryz.ntmps143
    go_wp2_with fail
    go_ret
    exact ⟨ret_bool (by first | (simp; done) | simp [k1, k2, k3]), hb⟩
set_option maxHeartbeats 1000000 in
theorem validV_ref (v : Val) (w : World) (h : FitV v) : Calls Tryz.prog 115 #[valV v] w fun e w' => e = .returned (.bool (validV v)) ∧ Below w.heap.size w w' := by
  obtain ⟨k, n, s⟩ := v
  obtain ⟨h1, h2, h3⟩ := h
  have HT := Lib.hid (fun w => text_ref s w h3)
  have HN := Lib.hid (fun w => number_ref n w)
  unfold validV valV noS
  dsimp only at h1 h2 h3 ⊢
  clear h1 h2 h3
  have hb := bone w (.cells #[.int .i64 k, .int .i64 n, .string s] 121)
  by_cases k1 : k = 1
  · subst k1
    by_cases hS : s.toList = []
    · have hS2 : s.toList.isEmpty = true := by simpa using hS
      by_cases n0 : n = 0
      · subst n0
        go_enter Tryz.func115, Tryz.ntmps115
        go_wp2_with fail
        go_ret
        exact ⟨ret_bool (by first | (simp; done) | simp [hS]), hb⟩
      · by_cases n1 : n = 1
        · subst n1
          go_enter Tryz.func115, Tryz.ntmps115
          go_wp2_with fail
          go_ret
          exact ⟨ret_bool (by first | (simp; done) | simp [hS]), hb⟩
        · go_enter Tryz.func115, Tryz.ntmps115
          go_wp2_with fail
          go_ret
          exact ⟨ret_bool (by first | (simp; done) | simp [n0, n1]), hb⟩
    · have hS2 : s.toList.isEmpty = false := by simpa using hS
      by_cases n0 : n = 0
      · subst n0
        go_enter Tryz.func115, Tryz.ntmps115
        go_wp2_with fail
        go_ret
        exact ⟨ret_bool (by first | (simp; done) | simp [hS]), hb⟩
      · by_cases n1 : n = 1
        · subst n1
          go_enter Tryz.func115, Tryz.ntmps115
          go_wp2_with fail
          go_ret
          exact ⟨ret_bool (by first | (simp; done) | simp [hS]), hb⟩
        · go_enter Tryz.func115, Tryz.ntmps115
          go_wp2_with fail
          go_ret
          exact ⟨ret_bool (by first | (simp; done) | simp [n0, n1]), hb⟩
  by_cases k2 : k = 2
  · subst k2
    generalize numB n = q at *
    by_cases hS : s.toList = []
    · have hS2 : s.toList.isEmpty = true := by simpa using hS
      cases q
      all_goals
        go_enter Tryz.func115, Tryz.ntmps115
        go_wp2_with (go_at_call 152; refine (HN.out _).mono ?_; rintro e w' ⟨rfl, rfl⟩)
        go_ret
        exact ⟨ret_bool (by first | (simp; done) | simp [hS]), hb⟩
    · have hS2 : s.toList.isEmpty = false := by simpa using hS
      cases q
      all_goals
        go_enter Tryz.func115, Tryz.ntmps115
        go_wp2_with (go_at_call 152; refine (HN.out _).mono ?_; rintro e w' ⟨rfl, rfl⟩)
        go_ret
        exact ⟨ret_bool (by first | (simp; done) | simp [hS]), hb⟩
  by_cases k3 : k = 3
  · subst k3
    by_cases n0 : n = 0
    · subst n0
      generalize textB s = q at *
      go_enter Tryz.func115, Tryz.ntmps115
      go_wp2_with (go_at_call 153; refine (HT.out _).mono ?_; rintro e w' ⟨rfl, rfl⟩)
      go_ret
      exact ⟨ret_bool (by simp), hb⟩
    · go_enter Tryz.func115, Tryz.ntmps115
      go_wp2_with fail
      go_ret
      exact ⟨ret_bool (by first | (simp; done) | simp [n0]), hb⟩
  · go_enter Tryz.func115, Tryz.ntmps115
    go_wp2_with fail
    go_ret
    exact ⟨ret_bool (by first | (simp; done) | simp [k1, k2, k3]), hb⟩
end Go.Proofs.YtoalecalahkblaaGreatDoor

set_option linter.all false
namespace Go.Proofs.YtoalecalahkblaaGreatDoor
open Go.RowKit
theorem var_now {P : Program} {w w' : World} {n : String} {cs : Array Value} (h : w.var? P n = some cs) (hb : Below w.heap.size w w') : w'.var? P n = some cs := by
  unfold World.var? at h ⊢
  obtain ⟨g, hg, h1⟩ := Option.bind_eq_some_iff.1 h
  rw [hg]
  show (match w'.heap[g]? with | some (.cells cs _ _) => some cs | _ => none) = some cs
  have hlt : g < w.heap.size := by
    rcases Nat.lt_or_ge g w.heap.size with h' | h'
    · exact h'
    · rw [Array.getElem?_eq_none h'] at h1; cases h1
  rw [hb.block g hlt]
  exact h1
structure AmbP (w : World) : Prop where
  tab : Lib.TabIs Tryz.prog w "internal/strconv.uint64pow10" .u64 Lib.pow10Tab
  syn : ∃ tp p, w.var? Tryz.prog "strconv.ErrSyntax" = some #[.iface tp p]
  rng : ∃ tp p, w.var? Tryz.prog "strconv.ErrRange" = some #[.iface tp p]
  mx : ∃ m, w.cell? ⟨0, 0, none⟩ = some (.int .i64 m)
theorem AmbP.now {w w' : World} (h : AmbP w) (hb : Below w.heap.size w w') : AmbP w' := by
  obtain ⟨h1, ⟨t, p, h2⟩, ⟨t', p', h3⟩, ⟨m, h4⟩⟩ := h
  exact ⟨var_now h1 hb, ⟨t, p, var_now h2 hb⟩, ⟨t', p', var_now h3 hb⟩, ⟨m, (World.cell?_of_block (hb.block _ (World.block_lt_of_cell? _ _ h4))).trans h4⟩⟩
def itoaS (n : Int) : ByteArray := ⟨(Lib.itoa n).toArray⟩
theorem bgrow (w : World) (k : Nat) (os : Array Obj) : Below w.heap.size w (Go.Sort.grow (w.drewN k) os) := by
  refine ⟨rfl, rfl, rfl, ?_, fun b hb => ?_⟩
  · show w.heap.size ≤ (w.heap ++ os).size
    rw [Array.size_append]; omega
  · show (w.heap ++ os)[b]? = w.heap[b]?
    rw [Array.getElem?_append_left hb]
theorem itoa_any (n : Int) (w : World) (hf : Fit n) (ha : AmbP w) : Calls Tryz.prog 131 #[.int .i64 n] w fun e w' => e = .returned (.string (itoaS n)) ∧ Below w.heap.size w w' :=
  (Tryz.strconv_Itoa n hf.1 hf.2 _ ha.tab).mono fun e w' ⟨he, kk, os, hw⟩ => ⟨he, by rw [hw]; exact bgrow w kk os⟩
def okOf : Lib.NumEnd Int → Option Int
  | .ok n => some n
  | _ => none
theorem below_of_bytes {w w2 : World} {e : TypeId} {t : ByteArray} (h : w2 = Lib.bytesWorld w e t) : Below w.heap.size w w2 := by rw [h]; exact Lib.bytesWorld_below _ _ _
theorem below_of_bytes' {w w2 : World} {e : TypeId} (h : w2 = w ∨ ∃ t, w2 = Lib.bytesWorld w e t) : Below w.heap.size w w2 := by
  rcases h with h | ⟨t, h⟩
  · rw [h]; exact Below.refl _ _
  · exact below_of_bytes h
def AtoiPost (s : ByteArray) (w : World) (e : Ending) (w' : World) : Prop :=
  ((∃ n, okOf (Lib.atoiAll s.data.toList) = some n ∧ Fit n ∧ e = .returned (.tuple #[.int .i64 n, .nilIface])) ∨
    (okOf (Lib.atoiAll s.data.toList) = none ∧ ∃ z N, e = .returned (.tuple #[.int .i64 z, .iface 209 (.pointer (some ⟨N, 0, none⟩))]))) ∧ Below w.heap.size w w'
theorem atoi_call (s : ByteArray) (w : World) (hs : s.size ≤ 1000000) (ha : AmbP w) : Calls Tryz.prog 142 #[.string s] w (AtoiPost s w) := by
  cases h : Lib.atoiAll s.data.toList
  · rename_i n
    refine (Tryz.strconv_Atoi_ok s (by omega) n h w).mono ?_
    rintro e w' ⟨rfl, hw⟩
    exact ⟨.inl ⟨n, by rw [h]; rfl, Lib.atoiAll_bounds h, rfl⟩, below_of_bytes' hw⟩
  · obtain ⟨tp, p, hv⟩ := ha.syn
    refine (Any.strconv_Atoi_syntax_var Tryz.laysC172 s (by omega) h tp p w hv).mono ?_
    rintro e w' ⟨N, rfl, _, _, hb⟩
    exact ⟨.inr ⟨by rw [h]; rfl, _, N, rfl⟩, hb⟩
  · obtain ⟨tp, p, hv⟩ := ha.rng
    refine (Tryz.strconv_Atoi_range_var s (by omega) h tp p w hv).mono ?_
    rintro e w' ⟨N, rfl, _, _, hb⟩
    exact ⟨.inr ⟨by rw [h]; rfl, _, N, rfl⟩, hb⟩
end Go.Proofs.YtoalecalahkblaaGreatDoor

set_option linter.all false
namespace Go.Proofs.YtoalecalahkblaaGreatDoor
open Go.RowKit
def textNV (v : Val) : ByteArray := if v.kind = 1 then ⟨(Lib.formatBool (decide (v.n = 1))).toArray⟩ else itoaS v.n
end Go.Proofs.YtoalecalahkblaaGreatDoor

namespace Go.Proofs.YtoalecalahkblaaGreatDoor
open Go.RowKit
def Bld (w : World) (B b : Nat) (l : List UInt8) : Prop := Lib.IsBuilderF 75 5 B b (Lib.byteCells l) w
theorem builderSize : (Tryz.prog.info? 75).map (·.size) = some 2 := by kernel_rfl
theorem builderLies : liesAt Tryz.prog Tryz.prog.depth 75 (2 / Tryz.prog.cellsOf 75) 0 75 1 = true := by kernel_rfl
theorem byteInfo : (Tryz.prog.info? 5).map (fun i => (i.zero, i.size, i.bytes)) = some (some (.int .u8 0), 1, 1) := by kernel_rfl
set_option maxHeartbeats 1000000 in
set_option maxRecDepth 100000 in
theorem copyCheck_used (b : Nat) (w : World) (h0 : w.cell? ⟨b, 0, none⟩ = some (.pointer (some ⟨b, 0, none⟩))) :
    Calls Tryz.prog 92 #[.pointer (some ⟨b, 0, none⟩)] w fun e w' => e = .returned (.tuple #[]) ∧ w' = w := by
  obtain ⟨j, hj, _⟩ := Option.map_eq_some_iff.1 builderSize
  go_enter Tryz.func92, Tryz.ntmps92
  go_wp2
  rw [Lib.run_neq_ptr_same w _ Tryz.underlying73 hj]
  go_wp2
  go_end0
  exact ⟨rfl, rfl⟩
set_option maxHeartbeats 1000000 in
set_option maxRecDepth 100000 in
theorem copyCheck_fresh (b : Nat) (w : World) (h0 : w.cell? ⟨b, 0, none⟩ = some (.pointer none)) (hsh : w.shape? b = some (75, 2)) (hfz : w.frozen? ⟨b, 0, none⟩ = false) :
    Calls Tryz.prog 92 #[.pointer (some ⟨b, 0, none⟩)] w fun e w' => e = .returned (.tuple #[]) ∧ w' = w.setCell ⟨b, 0, none⟩ (.pointer (some ⟨b, 0, none⟩)) := by
  obtain ⟨j, hj, hjs⟩ := Option.map_eq_some_iff.1 builderSize
  go_enter Tryz.func92, Tryz.ntmps92
  go_wp2
  rw [Lib.run_to_unsafe w ⟨b, 0, none⟩ Tryz.underlying73 Tryz.underlying164 hj (by rw [hjs]; decide) hsh (Nat.zero_lt_succ 1)]
  simp only [Result.andThen]
  rw [Oper.upon_value]
  go_wp2
  rw [run_callFunc_extern Tryz.func136 (by kernel_rfl) (by kernel_rfl) (by kernel_rfl) (e := Extern.AbiNoEscape.same) (by kernel_rfl)]
  rw [Lib.run_noEscape]
  simp only [Result.andThen]
  rw [Oper.upon_value]
  go_wp2
  rw [Lib.run_from_unsafe w ⟨b, 0, none⟩ Tryz.underlying164 Tryz.underlying73 hj hsh builderLies]
  simp only [Result.andThen]
  rw [Oper.upon_value]
  go_wp2
  go_end0
  exact ⟨rfl, rfl⟩
theorem copyCheck_any (B b : Nat) (bs : List Value) (w : World) (h : Lib.IsBuilderF 75 5 B b bs w) :
    Calls Tryz.prog 92 #[.pointer (some ⟨b, 0, none⟩)] w fun e w' => e = .returned (.tuple #[]) ∧ (Lib.BuilderAtF 75 5 B b (.pointer (some ⟨b, 0, none⟩)) bs w' ∧ Below B w w' ∧ Lib.OthersKept 5 (some b) w w') := by
  rcases h with h | h
  · refine (copyCheck_fresh b w h.cell0 h.shape h.frozen0).mono ?_
    rintro e w' ⟨rfl, rfl⟩
    exact ⟨rfl, h.used _, (Below.refl B w).setCell (p := ⟨b, 0, none⟩) h.1 _, (Lib.OthersKept.refl _ _ w).setCell ⟨b, 0, none⟩ rfl _⟩
  · refine (copyCheck_used b w h.cell0).mono ?_
    rintro e w' ⟨rfl, rfl⟩
    exact ⟨rfl, h, Below.refl B _, Lib.OthersKept.refl _ _ _⟩
set_option maxHeartbeats 2000000 in
set_option maxRecDepth 100000 in
theorem writeString_any (B b : Nat) (l : List UInt8) (s : ByteArray) (w : World) (h : Bld w B b l) (hlen : l.length + s.size ≤ 140737488355328) (hBw : B ≤ w.heap.size) :
    Calls Tryz.prog 47 #[.pointer (some ⟨b, 0, none⟩), .string s] w fun e w' => e = .returned (.tuple #[.int .i64 s.size, .nilIface]) ∧ (Bld w' B b (l ++ s.data.toList) ∧ Below B w w' ∧ Lib.OthersKept 5 (some b) w w') := by
  obtain ⟨i0, hi, hz0, hz1, hz2⟩ := info_parts byteInfo
  have hbl : (Lib.byteCells l).length = l.length := Lib.byteCells_length l
  go_enter Tryz.func47, Tryz.ntmps47
  go_wp2_with (go_at_call 92; refine (copyCheck_any B b (Lib.byteCells l) _ h).mono ?_)
  rintro e w1 ⟨rfl, h1, hb1, hk1⟩
  obtain ⟨hB, v, hbk, hown, hne⟩ := h1
  have c0 : w1.cell? ⟨b, 0, none⟩ = some (.pointer (some ⟨b, 0, none⟩)) := by rw [Lib.cell_of_heap hbk]; rfl
  have c1 : w1.cell? ⟨b, 1, none⟩ = some v := by rw [Lib.cell_of_heap hbk]; rfl
  have HBL := Lib.hid hbl
  clear hbl
  go_wp2_with (at_builtin; refine Lib.wpList_append_own_stringF _ rfl _ _ 72 9 rfl B 5 i0 Tryz.underlying72 Tryz.underlying9 hi hz0 hz1 hz2 _ _ _ rfl hown s rfl ?c3 ?c4 ?c5 ?_)
  case c3 => have := HBL.out; unfold maxLen; omega
  case c4 => have := HBL.out; omega
  case c5 => have := hb1.size; omega
  intro v' w2 hown' hgrow _
  have hlt : b < w1.heap.size := by
    rcases Nat.lt_or_ge b w1.heap.size with h' | h'
    · exact h'
    · simp [Array.getElem?_eq_none h'] at hbk
  have hb2 : w2.heap[b]? = some (.cells #[.pointer (some ⟨b, 0, none⟩), v] 75 (0, 0)) := by
    rw [hgrow.block b hlt (fun e => hne e.symm)]
    exact hbk
  have d0 : w2.cell? ⟨b, 0, none⟩ = some (.pointer (some ⟨b, 0, none⟩)) := by rw [Lib.cell_of_heap hb2]; rfl
  have d1 : w2.cell? ⟨b, 1, none⟩ = some v := by rw [Lib.cell_of_heap hb2]; rfl
  have f1 : w2.frozen? ⟨b, 1, none⟩ = false := Lib.frozen_of_heap hb2 1
  obtain ⟨ao, n', cap, rfl⟩ : ∃ ao n' cap, v' = .slice ao n' cap := by
    rcases hown'.2 with ⟨hv, _⟩ | ⟨g, cap, cur, fz, hv, _⟩
    · exact ⟨_, _, _, hv⟩
    · exact ⟨_, _, _, hv⟩
  go_wp2
  go_ret2
  refine ⟨rfl, ?_, ?_, (hk1.grown hgrow (Lib.ownsRowF_kind hown)).setCell ⟨b, 1, none⟩ rfl _⟩
  · right
    rw [Lib.byteCells_append, ← Lib.strCells_eq]
    exact Lib.BuilderAtF.put (T := 75) (e := 5) hB hb2 (bs' := Lib.byteCells l ++ Lib.strCells s) (by simpa [Lib.strCells_length] using hown') (by decide)
  · exact (hb1.grown hgrow (by have := hb1.size; omega) (fun k hk => (hown.lt k hk).1)).setCell (p := ⟨b, 1, none⟩) hB _
set_option maxHeartbeats 2000000 in
set_option maxRecDepth 100000 in
theorem writeByte_any (B b : Nat) (l : List UInt8) (c : UInt8) (w : World) (h : Bld w B b l) (hlen : l.length + 1 ≤ 140737488355328) (hBw : B ≤ w.heap.size) :
    Calls Tryz.prog 44 #[.pointer (some ⟨b, 0, none⟩), .int .u8 (c.toNat : Int)] w fun e w' => e = .returned .nilIface ∧ (Bld w' B b (l ++ [c]) ∧ Below B w w' ∧ Lib.OthersKept 5 (some b) w w') := by
  obtain ⟨i0, hi, hz0, hz1, hz2⟩ := info_parts byteInfo
  have hbl : (Lib.byteCells l).length = l.length := Lib.byteCells_length l
  have HC : Hid (Lib.byteCells (l ++ [c]) = Lib.byteCells l ++ [.int .u8 (c.toNat : Int)]) := by show _ = _; rw [Lib.byteCells_append]; rfl
  generalize (c.toNat : Int) = z at *
  go_enter Tryz.func44, Tryz.ntmps44
  go_wp2_with (go_at_call 92; refine (copyCheck_any B b (Lib.byteCells l) _ h).mono ?_)
  rintro e w1 ⟨rfl, h1, hb1, hk1⟩
  obtain ⟨hB, v, hbk, hown, hne⟩ := h1
  have c0 : w1.cell? ⟨b, 0, none⟩ = some (.pointer (some ⟨b, 0, none⟩)) := by rw [Lib.cell_of_heap hbk]; rfl
  have c1 : w1.cell? ⟨b, 1, none⟩ = some v := by rw [Lib.cell_of_heap hbk]; rfl
  have HBL := Lib.hid hbl
  clear hbl
  go_wp2_with (at_builtin; refine wpList_append_ownF _ rfl _ _ 72 rfl B 5 i0 (.int .u8 0) 1 1 Tryz.underlying72 hi hz0 hz1 hz2 rfl (by decide) _ _ _ rfl (hown.alloc _) ⟨w1.heap.size, 0, none⟩ 1 1 [.int .u8 z] rfl rfl ?c1 ?c2 ?c3 ?c4 ?c5 ?_)
  case c1 =>
    intro j u hj
    match j, hj with
    | 0, hj => simp at hj; subst hj; simp [Addr.add]
  case c2 => intro u hu; simp at hu; subst hu; rfl
  case c3 => have := HBL.out; unfold maxLen; omega
  case c4 => have := HBL.out; omega
  case c5 => have := hb1.size; simp; omega
  intro v' w2 hown' hgrow _
  have hlt : b < w1.heap.size := by
    rcases Nat.lt_or_ge b w1.heap.size with h' | h'
    · exact h'
    · simp [Array.getElem?_eq_none h'] at hbk
  have hb2 : w2.heap[b]? = some (.cells #[.pointer (some ⟨b, 0, none⟩), v] 75 (0, 0)) := by
    rw [hgrow.block b (by simp; omega) (fun e => hne e.symm), Lib.alloc_old w1 _ b hlt]
    exact hbk
  have d0 : w2.cell? ⟨b, 0, none⟩ = some (.pointer (some ⟨b, 0, none⟩)) := by rw [Lib.cell_of_heap hb2]; rfl
  have d1 : w2.cell? ⟨b, 1, none⟩ = some v := by rw [Lib.cell_of_heap hb2]; rfl
  have f1 : w2.frozen? ⟨b, 1, none⟩ = false := Lib.frozen_of_heap hb2 1
  obtain ⟨ao, n', cap, rfl⟩ : ∃ ao n' cap, v' = .slice ao n' cap := by
    rcases hown'.2 with ⟨hv, _⟩ | ⟨g, cap, cur, fz, hv, _⟩
    · exact ⟨_, _, _, hv⟩
    · exact ⟨_, _, _, hv⟩
  go_wp2
  go_ret
  refine ⟨rfl, ?_, ?_, ((hk1.alloc _).grown hgrow (Lib.ownsRowF_kind (hown.alloc _))).setCell ⟨b, 1, none⟩ rfl _⟩
  · right
    rw [HC.out]
    exact Lib.BuilderAtF.put (T := 75) (e := 5) hB hb2 (bs' := Lib.byteCells l ++ [.int .u8 z]) (by simpa using hown') (by decide)
  · exact ((hb1.alloc (by have := hb1.size; omega) _).grown hgrow (by have := hb1.size; simp; omega) (fun k hk => (hown.lt k hk).1)).setCell (p := ⟨b, 1, none⟩) hB _
theorem string_any (B b : Nat) (l : List UInt8) (w : World) (h : Bld w B b l) (hBw : B ≤ w.heap.size) :
    Calls Tryz.prog 49 #[.pointer (some ⟨b, 0, none⟩)] w fun e w' => e = .returned (.string ⟨l.toArray⟩) ∧ (Bld w' B b l ∧ Below B w w' ∧ Lib.OthersKept 5 (some b) w w') :=
  Tryz.Builder_String_any_k B b l w h hBw
theorem Bld.new {w : World} {b B : Nat} (hb : Blk w b 75 #[.pointer none, .slice none 0 0]) (hB : B ≤ b) : Bld w B b [] := by
  left
  exact ⟨hB, .slice none 0 0, hb, World.ownsRowF_nil _ _ _ _, by simp [Value.ownBlock]⟩
theorem at_now {w w' : World} {B b : Nat} {p : Value} {bs : List Value} (h : Lib.BuilderAtF 75 5 B b p bs w) (hb : Below w.heap.size w w') : Lib.BuilderAtF 75 5 B b p bs w' := by
  obtain ⟨hB, v, hbk, hown, hne⟩ := h
  have hlt : b < w.heap.size := by
    rcases Nat.lt_or_ge b w.heap.size with h' | h'
    · exact h'
    · rw [Array.getElem?_eq_none h'] at hbk; cases hbk
  refine ⟨hB, v, (hb.block b hlt).trans hbk, hown.kept (grown_of_below hb none) ?_, hne⟩
  cases e : v.ownBlock with
  | none => exact .inl rfl
  | some g => exact .inr (by simp)
theorem Bld.now {w w' : World} {B b : Nat} {l : List UInt8} (h : Bld w B b l) (hb : Below w.heap.size w w') : Bld w' B b l := by
  rcases h with h | h
  · exact .inl (at_now h hb)
  · exact .inr (at_now h hb)
end Go.Proofs.YtoalecalahkblaaGreatDoor
