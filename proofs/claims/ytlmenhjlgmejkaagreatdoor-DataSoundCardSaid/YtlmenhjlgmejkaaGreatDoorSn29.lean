/- Merged texts. -/
import Derived.Test.YtlmenhjlgmejkaaGreatDoorSn20
set_option linter.all false
namespace Go.Proofs.YtlmenhjlgmejkaaGreatDoor
open Go.RowKit
set_option maxHeartbeats 4000000 in
set_option maxRecDepth 100000 in
theorem formed_ref (As : Option Addr) (N cs : Nat) (Am : Option Addr) (mv : List Mv) (cm : Nat) (fv : Bool) (w : World) (hM : SlM (Lt w.heap.size) w (.slice Am mv.length cm) mv) (hin : ∀ m ∈ mv, m.src < N ∧ m.dst < N) (hN : 1 ≤ N ∧ N ≤ 2000) (hm : mv.length ≤ 20000) :
  Calls Tryz.prog 129 #[.agg #[.slice As N cs, .slice Am mv.length cm, .bool fv]] w fun e w' => e = .returned (.bool true) ∧ Below w.heap.size w w' := by
 have hb := bone w (.cells #[.slice As N cs, .slice Am mv.length cm, .bool fv] 104)
 have hB := Blk.new w 104 #[.slice As N cs, .slice Am mv.length cm, .bool fv]
 have hM1 := hM.now hb
 have HIN := Lib.hid hin
 obtain ⟨hN1, hN2⟩ := hN
 clear hM hin
 have n1 : ¬ (N : Int) < 1 := by omega
 have n2 : ¬ (2000 : Int) < (N : Int) := by omega
 have n3 : ¬ (20000 : Int) < (mv.length : Int) := by omega
 go_enter Tryz.func129, Tryz.ntmps129
 go_upto_region 1 with fail
 generalize hw1 : w.alloc (.cells #[.slice As N cs, .slice Am mv.length cm, .bool fv] 104) = w1 at *
 clear hw1
 obtain ⟨q0, q1, q2⟩ := hB.c3
 go_wp2_with fail
 go_loopw [4] (fun i wr => ∃ k : Nat, k ≤ mv.length ∧ i = .int .i64 k ∧ Below w1.heap.size w1 wr) (fun i _ => mv.length - (intOf i).toNat)
 case atStart => exact ⟨0, Nat.zero_le _, rfl, Below.refl _ _⟩
 case round =>
  obtain ⟨k, hk, rfl, hbr⟩ := hrel
  clear q0 q1 q2
  obtain ⟨q0, q1, q2⟩ := (hB.now hbr).c3
  by_cases hlt : k < mv.length
  rotate_left
  ·go_wp2_with fail
   go_ret
   exact ⟨rfl, bthen hb hbr⟩
  obtain ⟨b, o, x, rfl, hD, hx, _, c0, c1, c2⟩ := (hM1.now hbr).at_ hlt
  obtain ⟨i1, i2⟩ := HIN.out x (List.mem_of_getElem? hx)
  have e1 : ¬ (x.src : Int) < 0 := by omega
  have e2 : ¬ (N : Int) ≤ (x.src : Int) := by omega
  have e3 : ¬ (x.dst : Int) < 0 := by omega
  have e4 : ¬ (N : Int) ≤ (x.dst : Int) := by omega
  have hb2 := bone wr (.cells #[.int .i64 (x.src : Int), .int .i64 (x.dst : Int), .int .i64 (x.sym : Int)] 73)
  have hY := Blk.new wr 73 #[.int .i64 (x.src : Int), .int .i64 (x.dst : Int), .int .i64 (x.sym : Int)]
  have hbr2 := hbr.trans (hb2.mono hbr.size)
  clear hx hD
  go_upto_region 8 with fail
  generalize hw2 : wr.alloc (.cells #[.int .i64 (x.src : Int), .int .i64 (x.dst : Int), .int .i64 (x.sym : Int)] 73) = w2 at *
  clear hw2 hb2 c0 c1 c2 q0 q1 q2
  obtain ⟨y0, y1, y2⟩ := hY.c3
  go_wp2_with fail
  go_roundw
  case rel => exact ⟨k + 1, by omega, by go_num, hbr2⟩
  case measure => simp [intOf]; omega
def qlist (c : Nat) : List Int := (List.range c).map fun (j : Nat) => (j : Int)
theorem qlist_len (c : Nat) : (qlist c).length = c := by unfold qlist; simp
theorem qlist_get {c i : Nat} (h : i < c) : (qlist c)[i]? = some (i : Int) := by unfold qlist; simp [h]
theorem qlist_succ (c : Nat) : qlist (c + 1) = qlist c ++ [(c : Int)] := by unfold qlist; rw [List.range_succ, List.map_append]; rfl
theorem backD_nil (mv : List Mv) : backD mv 0 0 = [] := by simp [backD]
set_option maxHeartbeats 16000000 in
set_option maxRecDepth 100000 in
theorem path22_ref (As : Option Addr) (N cs : Nat) (Am : Option Addr) (mv : List Mv) (cm : Nat) (fv : Bool) (t0 : Nat) (w : World) (hM : SlM (Lt w.heap.size) w (.slice Am mv.length cm) mv) (ho : Ord mv N) (hN : 1 ≤ N ∧ N ≤ 2000) (hm : mv.length ≤ 20000) (ht : t0 < N) :
  Calls Tryz.prog 85 #[.agg #[.slice As N cs, .slice Am mv.length cm, .bool fv], .int .i64 (t0 : Int)] w fun e w' => ∃ v, e = .returned (.tuple #[v, .int .i64 0]) ∧ SlI (Lt w'.heap.size) w' v (pathD mv t0) ∧ Below w.heap.size w w' := by
 have hb := bone w (.cells #[.slice As N cs, .slice Am mv.length cm, .bool fv] 104)
 have hB := Blk.new w 104 #[.slice As N cs, .slice Am mv.length cm, .bool fv]
 have hM1 := hM.now hb
 have HSM := Lib.hid hM.small
 have HO := Lib.hid ho
 have HN := Lib.hid hN
 have HT0 := Lib.hid ht
 have n1 : ¬ (t0 : Int) < 0 := by omega
 have n2 : ¬ (N : Int) ≤ (t0 : Int) := by omega
 have N1 := Lib.hid n1
 have N2 := Lib.hid n2
 clear hM ho ht n1 n2
 go_enter Tryz.func85, Tryz.ntmps85
 go_upto_region 1 with fail
 generalize hw1 : w.alloc (.cells #[.slice As N cs, .slice Am mv.length cm, .bool fv] 104) = w1 at *
 clear hw1
 obtain ⟨q0, q1, q2⟩ := hB.c3
 have HF := Lib.hid (formed_ref As N cs Am mv cm fv w1 hM1 HO.out.inn HN.out hm)
 go_wp2_with fail
 refine HF.out.mono ?_
 rintro e w2 ⟨rfl, hb2⟩
 have hB2 := hB.now hb2
 have hM2 := hM1.now hb2
 have hbw2 := bthen hb hb2
 clear HF hB hM1 hb hb2 q0 q1 q2
 obtain ⟨q0, q1, q2⟩ := hB2.c3
 have n1 := N1.out
 have n2 := N2.out
 have n2d : decide (N ≤ t0) = false := by have := HT0.out; simp; omega
 obtain ⟨hN1, hN2⟩ := hN
 go_wp2_with fail
 clear n1 n2
 go_loopw [6, 7] (fun bv i wr => ∃ k : Nat, k ≤ N ∧ i = .int .i64 k ∧ wr.ownsRow w2.heap.size 3 1 bv k ((List.replicate k (-1 : Int)).map (Value.int .i64)) ∧ Below w2.heap.size w2 wr) (fun _ i _ => N - (intOf i).toNat)
 case atStart => exact ⟨0, Nat.zero_le _, rfl, World.ownsRow_nil _ _ _ _, Below.refl _ _⟩
 case round =>
  obtain ⟨k, hk, rfl, hown, hbr⟩ := hrel
  clear q0 q1 q2
  have hszr := hbr.size
  obtain ⟨q0, q1, q2⟩ := (hB2.now hbr).c3
  by_cases hlt : k < N
  ·go_wp2_with (at_builtin; refine wpList_push appInts rfl (.tmp 34) (.tmp 35) rfl wr [.int .i64 (-1)] rfl (by simp [Value.oneCell']) _ k ((List.replicate k (-1 : Int)).map (Value.int .i64)) rfl hown rfl (by omega) hszr ?_; intro v' w' hown' hgr hat)
   have hbg : Below w2.heap.size wr w' := below_of_grown hgr hszr (fun g hg => (hown.lt g hg).1)
   go_roundw
   case rel =>
    refine ⟨k + 1, by omega, by go_num, ?_, hbr.trans hbg⟩
    rw [List.replicate_succ']
    simpa using hown'
   case measure => simp [intOf]; omega
  have hkN : k = N := by omega
  rw [hkN] at hown ⊢
  clear hkN hk hlt
  obtain ⟨g, cap, rfl, hcap, hoi⟩ := OwnI.of (zs := List.replicate N (-1 : Int)) (by simpa using hown) (by simp; omega)
  have hrl : (List.replicate N (-1 : Int)).length = N := by simp
  rw [hrl] at hcap ⊢
  have hb3 := bone wr (.cells #[.int .i64 0] 3)
  have hq3 := World.ownsRow_lit (base := wr.heap.size) (e := 3) (size := 1) wr #[.int .i64 0] 1 (Nat.le_refl _) (by unfold maxLen; omega) rfl
  have hoi3 := hoi.now hb3
  have hgr := hoi.lt
  have hbr3 := hbr.trans (hb3.mono hszr)
  have hB3 := hB2.now hbr3
  have HST := Lib.hid (bfs_start (mv := mv) (N := N) hN1)
  go_upto_region 11 with fail
  generalize hw3 : wr.alloc (.cells #[.int .i64 0] 3) = w3 at *
  have hsz3 : w3.heap.size = wr.heap.size + 1 := by rw [← hw3]; simp
  have hsz3 := Nat.le_of_eq hsz3.symm
  clear hw3 hb3 hoi hown q0 q1 q2 hrl
  obtain ⟨Bq, hBq⟩ : ∃ z, z = wr.heap.size := ⟨_, rfl⟩
  rw [← hBq] at hq3 hgr hsz3 ⊢
  clear hBq hszr
  go_wp2_with fail
  clear hbr
  go_loopw [8, 9] (fun qv iv wr => ∃ (i c : Nat) (bl : List Int), iv = .int .i64 i ∧ i ≤ c ∧ Bfs mv N i 0 bl c ∧ OwnI wr w2.heap.size 3 g cap bl ∧ wr.ownsRow Bq 3 1 qv c ((qlist c).map (Value.int .i64)) ∧ Bq ≤ wr.heap.size ∧ Below w2.heap.size w2 wr) (fun _ iv _ => N + 1 - (intOf iv).toNat)
  case atStart => exact ⟨0, 1, _, rfl, Nat.zero_le _, HST.out, hoi3, hq3, by omega, hbr3⟩
  case round =>
   obtain ⟨i, c, bl, rfl, hic, hBf, hoi, hq, hszq, hbr⟩ := hrel
   clear hoi3 hq3 hbr3 hB3 hsz3
   have HBF := Lib.hid hBf
   have hcp := hBf.pos
   have hcN := hBf.le
   clear hBf
   have hBr := hB2.now hbr
   obtain ⟨q0, q1, q2⟩ := hBr.c3
   have hbwr := bthen hbw2 hbr
   obtain ⟨gq, capq, rfl, hcapq, hoq⟩ := OwnI.of (zs := qlist c) hq (by rw [qlist_len]; omega)
   rw [qlist_len]
   by_cases hic2 : i < c
   ·have hi' : (i : Int) < (c : Int) := by omega
    go_wp2_with fail
    clear q0 q1 q2 hBr hbwr hcapq hoq hcp hcN
    obtain ⟨wo, hwo⟩ : ∃ z, z = wr := ⟨_, rfl⟩
    subst hwo
    rw [qlist_len] at hq
    go_loopw [8, 10] (fun qv kv wr => ∃ (k c : Nat) (bl : List Int), kv = .int .i64 k ∧ k ≤ mv.length ∧ i < c ∧ Bfs mv N i k bl c ∧ OwnI wr w2.heap.size 3 g cap bl ∧ wr.ownsRow Bq 3 1 qv c ((qlist c).map (Value.int .i64)) ∧ Bq ≤ wr.heap.size ∧ Below w2.heap.size w2 wr) (fun _ kv _ => mv.length - (intOf kv).toNat)
    case atStart => exact ⟨0, c, bl, rfl, Nat.zero_le _, hic2, HBF.out, hoi, hq, hszq, hbr⟩
    case round =>
     obtain ⟨k, c, bl, rfl, hk, hic2, hBf, hoi, hq, hszq, hbr⟩ := hrel
     have HBF := Lib.hid hBf
     have hcp := hBf.pos
     have hcN := hBf.le
     have hbl := hBf.len
     clear hBf
     have hBr := hB2.now hbr
     obtain ⟨q0, q1, q2⟩ := hBr.c3
     have hbwr := bthen hbw2 hbr
     by_cases hlt : k < mv.length
     rotate_left
     ·obtain rfl : k = mv.length := by omega
      have HRW := Lib.hid (bfs_row HBF.out)
      go_wp2_with fail
      go_roundw
      case rel => exact ⟨i + 1, c, bl, by go_num, by omega, HRW.out, hoi, hq, hszq, hbr⟩
      case measure => simp [intOf]; omega
     obtain ⟨b, o, x, rfl, hD, hx, _, c0, c1, c2⟩ := (hM2.now hbr).at_ hlt
     obtain ⟨in1, in2⟩ := HO.out.inn x (List.mem_of_getElem? hx)
     have HX := Lib.hid hx
     obtain ⟨z, hz⟩ : ∃ z, bl[x.dst]? = some z := ⟨_, List.getElem?_eq_getElem (by omega)⟩
     have HZ := Lib.hid hz
     obtain ⟨gq, capq, rfl, hcapq, hoq⟩ := OwnI.of (zs := qlist c) hq (by rw [qlist_len]; omega)
     rw [qlist_len] at hq ⊢
     have hi' : (i : Int) < (c : Int) := by omega
     have hk' : (k : Int) < (mv.length : Int) := by omega
     have hb2 := bone wr (.cells #[.int .i64 (x.src : Int), .int .i64 (x.dst : Int), .int .i64 (x.sym : Int)] 73)
     have hY := Blk.new wr 73 #[.int .i64 (x.src : Int), .int .i64 (x.dst : Int), .int .i64 (x.sym : Int)]
     have hgl := hoi.lt
     have hgY : g ≠ wr.heap.size := by omega
     have hgq := hoq.from_
     go_upto_region 18 with fail
     have hoi4 := hoi.now hb2
     have hoq4 := hoq.now hb2
     have hq4 := own_now hq hb2
     have hbr4 := hbr.trans (hb2.mono hbr.size)
     obtain ⟨gY, hgYe⟩ : ∃ z, z = wr.heap.size := ⟨_, rfl⟩
     rw [← hgYe] at hY hgY ⊢
     have hszq4 : Bq ≤ (wr.alloc (.cells #[.int .i64 (x.src : Int), .int .i64 (x.dst : Int), .int .i64 (x.sym : Int)] 73)).heap.size := Nat.le_trans hszq hb2.size
     generalize hw4 : wr.alloc (.cells #[.int .i64 (x.src : Int), .int .i64 (x.dst : Int), .int .i64 (x.sym : Int)] 73) = w4 at *
     clear hw4 hb2 c0 c1 c2 q0 q1 q2 hoi hoq hq hBr hbr hbwr hx hD hz hgYe hszq hgl
     obtain ⟨y0, y1, y2⟩ := hY.c3
     have e0 : w4.cell? ⟨gq, i, none⟩ = some (.int .i64 (i : Int)) := hoq4.cell (qlist_get hic2)
     have e1 : w4.cell? ⟨g, x.dst, none⟩ = some (.int .i64 z) := hoi4.cell HZ.out
     have i1 : (0 : Int) ≤ (i : Int) := by omega
     have i3 : (0 : Int) ≤ (x.dst : Int) := by omega
     have i4 : (x.dst : Int) < (N : Int) := by omega
     have HQ : Hid (∃ q : Bool, q = (decide (x.src = i) && (decide (x.dst ≠ 0) && decide (z < 0)))) := ⟨_, rfl⟩
     obtain ⟨q, hq0⟩ := HQ.out
     have HQ := Lib.hid hq0
     clear hq0
     go_cut [75] (fun s75 W => s75 = .bool q ∧ ∃ n, W = w4.drewN n)
     case first =>
      by_cases h1 : x.src = i
      ·have d1 : ((x.src : Int) == (i : Int)) = true := by simp [h1]
       by_cases h2 : x.dst = 0
       ·have d2 : ((x.dst : Int) != 0) = false := by simp [h2]
        obtain rfl : q = false := by rw [HQ.out, h1, h2]; simp
        clear h1 h2 HQ
        go_quiet (fail)
        go_wp2_with fail
        go_meet
        exact ⟨rfl, _, rfl⟩
       ·have d2 : ((x.dst : Int) != 0) = true := by simp [h2]
        by_cases h3 : z < 0
        ·have d3 : decide (z < 0) = true := by simpa using h3
         obtain rfl : q = true := by rw [HQ.out]; simp [h1, h2, h3]
         clear h1 h2 h3 HQ
         go_quiet (fail)
         go_wp2_with fail
         go_meet
         exact ⟨rfl, _, rfl⟩
        ·have d3 : decide (z < 0) = false := by simpa using h3
         obtain rfl : q = false := by rw [HQ.out]; simp [h3]
         clear h1 h2 h3 HQ
         go_quiet (fail)
         go_wp2_with fail
         go_meet
         exact ⟨rfl, _, rfl⟩
      ·have d1 : ((x.src : Int) == (i : Int)) = false := by rw [beq_eq_false_iff_ne]; omega
       obtain rfl : q = false := by rw [HQ.out]; simp [h1]
       clear h1 HQ
       go_quiet (fail)
       go_wp2_with fail
       go_meet
       exact ⟨rfl, _, rfl⟩
     case rest =>
      obtain ⟨rfl, nd, rfl⟩ := hcut
      have hbd := bdrawn (Below.refl w4.heap.size w4) nd
      have hoi5 := hoi4.drewN nd
      have hoq5 := hoq4.drewN nd
      have hq5 := own_now hq4 hbd
      have hY5 := hY.now hbd
      have hbr5 := hbr4.trans (hbd.mono hbr4.size)
      have hszq5 : Bq ≤ (w4.drewN nd).heap.size := hszq4
      generalize hw5 : w4.drewN nd = w5 at *
      clear hw5 hoi4 hoq4 hq4 hY hbr4 hszq4 hbd y0 y1 y2 e0 e1
      cases q with
      | false =>
       have hsk : x.src ≠ i ∨ x.dst = 0 ∨ ∃ z : Int, 0 ≤ z ∧ bl[x.dst]? = some z := by
        have h := HQ.out.symm
        by_cases h1 : x.src = i
        ·by_cases h2 : x.dst = 0
         ·exact .inr (.inl h2)
         ·refine .inr (.inr ⟨z, ?_, HZ.out⟩)
          simp [h1, h2] at h
          exact h
        ·exact .inl h1
       have HSK := Lib.hid (bfs_skip HBF.out HX.out hsk in2)
       clear hsk
       go_wp2_with fail
       go_roundw
       case rel => exact ⟨k + 1, c, bl, by go_num, by omega, hic2, HSK.out, hoi5, hq5, hszq5, hbr5⟩
       case measure => simp [intOf]; omega
      | true =>
       obtain ⟨h1, h2, h3⟩ : x.src = i ∧ x.dst ≠ 0 ∧ z < 0 := by
        have h := HQ.out.symm
        simpa using h
       obtain ⟨hdc, hBf⟩ := bfs_take HO.out HBF.out HX.out h1 h2 HZ.out h3
       have HBF2 := Lib.hid hBf
       have HDC := Lib.hid hdc
       clear h1 h2 h3 hdc hBf
       obtain ⟨y0, y1, y2⟩ := hY5.c3
       have e1 : w5.cell? ⟨g, x.dst, none⟩ = some (.int .i64 z) := hoi5.cell HZ.out
       have e1f := hoi5.frozen x.dst
       go_upto_region 20 with fail
       have hoi6 := hoi5.set_ x.dst (k : Int)
       have hq6 := ownsRow_setCell_below hq5 (a := ⟨g, x.dst, none⟩) hgr (.int .i64 (k : Int))
       have hY6 := hY5.far (p := ⟨g, x.dst, none⟩) (Ne.symm hgY) (.int .i64 (k : Int))
       have hbr6 : Below w2.heap.size w2 (w5.setCell ⟨g, x.dst, none⟩ (.int .i64 (k : Int))) := hbr5.setCell (p := ⟨g, x.dst, none⟩) hoi5.from_ _
       have hszq6 : Bq ≤ (w5.setCell ⟨g, x.dst, none⟩ (.int .i64 (k : Int))).heap.size := by simpa using hszq5
       generalize hw6 : w5.setCell ⟨g, x.dst, none⟩ (.int .i64 (k : Int)) = w6 at *
       clear hw6 hoi5 hoq5 hq5 hY5 hbr5 hszq5 y0 y1 y2 e1 e1f
       obtain ⟨y0, y1, y2⟩ := hY6.c3
       go_wp2_with (at_builtin; refine wpList_push appInts rfl (.tmp 81) (.tmp 84) rfl w6 [.int .i64 (x.dst : Int)] rfl (by simp [Value.oneCell']) _ c ((qlist c).map (Value.int .i64)) rfl hq6 rfl (by omega) hszq6 ?_; intro v' w' hown' hgr2 hat)
       have hbg : Below w2.heap.size w6 w' := below_of_grown hgr2 hbr6.size (fun g' hg => by have := (hq6.lt g' hg).1; have := hoi6.from_; omega)
       have hoi7 : OwnI w' w2.heap.size 3 g cap (bl.set x.dst (k : Int)) := ⟨World.ownsRow.kept hoi6.1 hgr2 (.inr (fun e => by have := (hq6.lt g (by first | exact e | exact e.symm)).1; omega)), Nat.lt_of_lt_of_le hoi6.2.1 hgr2.size, hoi6.2.2⟩
       go_roundw
       case rel =>
        refine ⟨k + 1, c + 1, _, by go_num, by omega, by omega, HBF2.out, hoi7, ?_, Nat.le_trans hszq6 hgr2.size, hbr6.trans hbg⟩
        rw [qlist_succ, show ((c : Nat) : Int) = (x.dst : Int) by rw [HDC.out]]
        simpa using hown'
       case measure => simp [intOf]; omega
   ·obtain rfl : i = c := by omega
    obtain ⟨hcN2, htab⟩ := bfs_done HO.out HBF.out
    have HT := Lib.hid htab
    have hbl := HBF.out.len
    clear hcN2 htab HST HBF hic hic2
    have hgl := hoi.lt
    have HP : Hid (∀ t : Nat, 0 < t → t < N → ∃ (a : Nat) (z : Mv), bl[t]? = some (a : Int) ∧ mv[a]? = some z ∧ byM mv t = some z) := HT
    have hb0 : ∃ z, bl[t0]? = some z ∧ (t0 ≠ 0 → ¬ z < 0) := by
     by_cases h0 : t0 = 0
     ·exact ⟨_, List.getElem?_eq_getElem (by have := HT0.out; omega), fun h => absurd h0 h⟩
     ·obtain ⟨a, _, ha, _⟩ := HT.out t0 (by omega) HT0.out
      exact ⟨_, ha, fun _ => by omega⟩
    obtain ⟨z0, hz0, hz1⟩ := hb0
    have e1 : wr.cell? ⟨g, t0, none⟩ = some (.int .i64 z0) := hoi.cell hz0
    have i1 : (0 : Int) ≤ (t0 : Int) := by omega
    have i2 : (t0 : Int) < (N : Int) := by have := HT0.out; omega
    clear hz0
    by_cases h0 : t0 = 0
    ·have d1 : ((t0 : Int) != 0) = false := by simp [h0]
     clear h0 hz1
     go_wp2_with fail
     clear q0 q1 q2 hBr e1 d1
     obtain ⟨wo, hwo⟩ : ∃ z, z = wr := ⟨_, rfl⟩
     subst hwo
     have hoio := hoi
     have hbo0 := hbr
     clear hoi hbr hbwr hq
     go_loopw [1, 12] (fun tv ov wr => ∃ (t : Nat) (outs : List Nat), tv = .int .i64 t ∧ t < N ∧ backD mv t0 t0 = outs ++ backD mv t t ∧ outs.length + t ≤ t0 ∧ (∀ x ∈ outs, x < 1000000) ∧ wr.ownsRow wo.heap.size 3 1 ov outs.length (outs.map fun (x : Nat) => Value.int .i64 (x : Int)) ∧ Below wo.heap.size wo wr) (fun tv _ _ => (intOf tv).toNat)
     case atStart => exact ⟨t0, [], rfl, HT0.out, rfl, by simp, fun x hx => by simp at hx, World.ownsRow_nil _ _ _ _, Below.refl _ _⟩
     case round =>
      obtain ⟨t, outs, rfl, htN, hbk, hlen, hsm, hown, hbr⟩ := hrel
      have HBK := Lib.hid hbk
      have HSO := Lib.hid hsm
      have hszr := hbr.size
      have hbrw := hbo0.trans (hbr.mono hbo0.size)
      have hBr := hB2.now hbrw
      have hoi := hoio.now hbr
      clear hbk hsm
      obtain ⟨q0, q1, q2⟩ := hBr.c3
      by_cases ht0 : t = 0
      ·subst ht0
       rw [show ((0 : Nat) : Int) = 0 from rfl]
       have HP2 : Hid (pathD mv t0 = (outs.map fun (x : Nat) => (x : Int)).reverse) := by show _ = _; unfold pathD; rw [HBK.out, backD_nil, List.append_nil, List.map_reverse]
       have HFT : Hid (∀ z ∈ outs.map fun (x : Nat) => (x : Int), Fit z) := fun z hz => by
        obtain ⟨x, hx, rfl⟩ := List.mem_map.1 hz
        have := HSO.out x hx
        unfold Fit; omega
       have hmm : outs.map (fun (x : Nat) => Value.int .i64 (x : Int)) = (outs.map fun (x : Nat) => (x : Int)).map (Value.int .i64) := by rw [List.map_map]; rfl
       rw [hmm] at hown
       have hll : (outs.map fun (x : Nat) => (x : Int)).length = outs.length := by simp
       generalize outs.map (fun (x : Nat) => (x : Int)) = zs at *
       have hol : outs.length ≤ 1000000 := by have := HT0.out; omega
       rw [← hll] at hown hol
       clear hmm hll HBK HSO hlen
       obtain ⟨Ab, cb, rfl, _, _, hsl⟩ := (SlI.of_own hown HFT.out).open_
       clear hown q0 q1 q2 hoi hBr
       go_wp2_with fail
       obtain ⟨w5, hw5⟩ : ∃ z, z = wr := ⟨_, rfl⟩
       subst hw5
       go_loopw [13, 14] (fun ov jv wr => ∃ j : Nat, j ≤ zs.length ∧ jv = .int .i64 ((j : Int) - 1) ∧ wr.ownsRow w5.heap.size 3 1 ov (zs.length - j) ((zs.reverse.take (zs.length - j)).map (Value.int .i64)) ∧ Below w5.heap.size w5 wr) (fun _ jv _ => (intOf jv + 1).toNat)
       case atStart => exact ⟨zs.length, Nat.le_refl _, by go_num, by rw [Nat.sub_self]; exact World.ownsRow_nil _ _ _ _, Below.refl _ _⟩
       case round =>
        obtain ⟨j, hj, rfl, hown, hbr5⟩ := hrel
        have hsz5 := hbr5.size
        rcases j with _ | j
        ·have em : ((0 : Nat) : Int) - 1 = -1 := by decide
         rw [em]
         rw [Nat.sub_zero, List.take_of_length_le (by simp)] at hown
         go_wp2_with fail
         (try simp only [Exit.inBlock, Exit.then])
         refine bodyPost_ret (results_tmp2 rfl _ _ _) rfl ?_
         refine ⟨_, rfl, ?_, bthen hbw2 (hbrw.trans (hbr5.mono hbrw.size))⟩
         rw [HP2.out]
         have hrl : zs.length = zs.reverse.length := by simp
         rw [hrl] at hown
         exact SlI.of_own hown (fun z hz => HFT.out z (List.mem_reverse.1 hz))
        ·have em : ((j + 1 : Nat) : Int) - 1 = (j : Int) := by omega
         rw [em]
         obtain ⟨b, o, x, rfl, hD, hx, _, c0⟩ := (hsl.now hbr5).at_ (k := j) (by omega)
         have HX : Hid (zs.reverse.take (zs.length - j) = zs.reverse.take (zs.length - (j + 1)) ++ [x]) := by
          show _ = _
          have hq : zs.length - j = (zs.length - (j + 1)) + 1 := by omega
          rw [hq]
          refine List.take_succ_eq_append_getElem (by simp; omega) |>.trans ?_
          congr 2
          rw [List.getElem_reverse]
          have hg := List.getElem?_eq_getElem (l := zs) (i := j) (by omega)
          rw [hx] at hg
          injection hg with hg
          rw [hg]
          congr 1
          omega
         have hln : zs.length - j = zs.length - (j + 1) + 1 := by omega
         have i1 : (0 : Int) ≤ (j : Int) := by omega
         have i2 : (j : Int) < (zs.length : Int) := by omega
         clear hx hD
         go_wp2_with (at_builtin; refine wpList_push appInts rfl (.tmp 125) (.tmp 130) rfl wr [.int .i64 x] rfl (by simp [Value.oneCell']) _ (zs.length - (j + 1)) ((zs.reverse.take (zs.length - (j + 1))).map (Value.int .i64)) rfl hown rfl (by omega) hsz5 ?_; intro v' w' hown' hgr hat)
         have hbg : Below w5.heap.size wr w' := below_of_grown hgr hsz5 (fun g hg => (hown.lt g hg).1)
         go_roundw
         case rel =>
          refine ⟨j, by omega, by go_num, ?_, hbr5.trans hbg⟩
          rw [HX.out, hln]
          simpa using hown'
         case measure => first | (simp [intOf]; done) | (simp [intOf]; omega)
      ·obtain ⟨a, z, ha, hza, hby⟩ := HT.out t (by omega) htN
       have hal := lt_of_get hza
       obtain ⟨b, o, x, rfl, hD, hx, ⟨m1, m2, m3⟩, c0, c1, c2⟩ := (hM2.now hbo0).at_ hal
       obtain rfl : x = z := by rw [hza] at hx; injection hx with hx; exact hx.symm
       have hsrc := (byM_some hby).2.2
       have HN1 : Hid (backD mv t0 t0 = (outs ++ [x.sym]) ++ backD mv x.src x.src) := by
        show _ = _
        rw [HBK.out, backD_step mv (by omega), hby]
        simp
       have HC : Hid (∀ W, Below wo.heap.size wo W → W.cell? ⟨w.heap.size, 1, none⟩ = some (.slice (some ⟨b, o, none⟩) mv.length cm) ∧ W.cell? ⟨g, t, none⟩ = some (.int .i64 (a : Int)) ∧ W.cell? ⟨b, o + a * 3, none⟩ = some (.int .i64 (x.src : Int)) ∧ W.cell? ⟨b, o + a * 3 + 2, none⟩ = some (.int .i64 (x.sym : Int))) := fun W hW => ⟨((hB2.now hbo0).now hW).c3.2.1, (hoio.now hW).cell ha, (hW.cell (p := ⟨b, _, none⟩) hD).trans c0, (hW.cell (p := ⟨b, _, none⟩) hD).trans c2⟩
       have HSO2 : Hid (∀ y ∈ outs ++ [x.sym], y < 1000000) := fun y hy => by
        rcases List.mem_append.1 hy with hy | hy
        ·exact HSO.out y hy
        ·rw [List.mem_singleton] at hy; omega
       have d1 : ((t : Int) != 0) = true := by simp [ht0]
       have i1 : (0 : Int) ≤ (t : Int) := by omega
       have i2 : (t : Int) < (N : Int) := by omega
       have i3 : (0 : Int) ≤ (a : Int) := by omega
       have i4 : (a : Int) < (mv.length : Int) := by omega
       have hol : outs.length < 10000000 := by have := HT0.out; omega
       clear hx hza hby ha c0 c1 c2 q0 q1 q2
       have hbd : Below wr.heap.size wr wr.drew := (Below.refl _ _).drew
       obtain ⟨e0, e1, e2, e3⟩ := HC.out _ hbr
       go_upto_region 25 with fail
       go_cut [12] (fun s12 W => ∃ A c, s12 = .slice A (outs.length + 1) c ∧ W.ownsRow wo.heap.size 3 1 (.slice A (outs.length + 1) c) (outs.length + 1) ((outs ++ [x.sym]).map fun (x : Nat) => Value.int .i64 (x : Int)) ∧ Below wo.heap.size wr W)
       case first =>
        go_region_law (refine step_push_drew appInts rfl (.tmp 97) (.tmp 107) rfl _ [.int .i64 (x.sym : Int)] rfl (by simp [Value.oneCell']) u12 outs.length (outs.map fun (x : Nat) => Value.int .i64 (x : Int)) rfl hown rfl hol hszr ?_; intro v' w' hown' hgr hat)
        all_goals
         have hbg : Below wo.heap.size wr w' := below_of_grown hgr hszr (fun g hg => (hown.lt g hg).1)
         go_wp2_with fail
         go_meet
         obtain ⟨A12, c12, e12⟩ : ∃ A c, v' = .slice A (outs.length + 1) c := by
          rcases hown'.2 with ⟨e, h0⟩ | ⟨g', cap', cur', e, _⟩
          ·omega
          ·exact ⟨_, _, e⟩
         exact ⟨A12, c12, e12, by rw [← e12]; simpa using hown', hbg⟩
       case rest =>
        obtain ⟨A12, c12, rfl, hown2, hbg⟩ := hcut
        have hbr2 := hbr.trans hbg
        obtain ⟨f0, f1, f2, f3⟩ := HC.out _ hbr2
        go_upto_region 26 with fail
        go_quiet (fail)
        go_wp2_with fail
        go_roundw
        case rel => exact ⟨x.src, outs ++ [x.sym], rfl, by omega, HN1.out, by simp; omega, HSO2.out, by rw [List.length_append, List.length_singleton]; exact hown2, bdrawn hbr2 _⟩
        case measure => simp [intOf]; omega
    ·have d1 : ((t0 : Int) != 0) = true := by simp [h0]
     have d2 : ¬ z0 < 0 := hz1 h0
     clear h0 hz1
     go_wp2_with fail
     clear q0 q1 q2 hBr e1 d1
     obtain ⟨wo, hwo⟩ : ∃ z, z = wr := ⟨_, rfl⟩
     subst hwo
     have hoio := hoi
     have hbo0 := hbr
     clear hoi hbr hbwr hq
     go_loopw [1, 12] (fun tv ov wr => ∃ (t : Nat) (outs : List Nat), tv = .int .i64 t ∧ t < N ∧ backD mv t0 t0 = outs ++ backD mv t t ∧ outs.length + t ≤ t0 ∧ (∀ x ∈ outs, x < 1000000) ∧ wr.ownsRow wo.heap.size 3 1 ov outs.length (outs.map fun (x : Nat) => Value.int .i64 (x : Int)) ∧ Below wo.heap.size wo wr) (fun tv _ _ => (intOf tv).toNat)
     case atStart => exact ⟨t0, [], rfl, HT0.out, rfl, by simp, fun x hx => by simp at hx, World.ownsRow_nil _ _ _ _, Below.refl _ _⟩
     case round =>
      obtain ⟨t, outs, rfl, htN, hbk, hlen, hsm, hown, hbr⟩ := hrel
      have HBK := Lib.hid hbk
      have HSO := Lib.hid hsm
      have hszr := hbr.size
      have hbrw := hbo0.trans (hbr.mono hbo0.size)
      have hBr := hB2.now hbrw
      have hoi := hoio.now hbr
      clear hbk hsm
      obtain ⟨q0, q1, q2⟩ := hBr.c3
      by_cases ht0 : t = 0
      ·subst ht0
       rw [show ((0 : Nat) : Int) = 0 from rfl]
       have HP2 : Hid (pathD mv t0 = (outs.map fun (x : Nat) => (x : Int)).reverse) := by show _ = _; unfold pathD; rw [HBK.out, backD_nil, List.append_nil, List.map_reverse]
       have HFT : Hid (∀ z ∈ outs.map fun (x : Nat) => (x : Int), Fit z) := fun z hz => by
        obtain ⟨x, hx, rfl⟩ := List.mem_map.1 hz
        have := HSO.out x hx
        unfold Fit; omega
       have hmm : outs.map (fun (x : Nat) => Value.int .i64 (x : Int)) = (outs.map fun (x : Nat) => (x : Int)).map (Value.int .i64) := by rw [List.map_map]; rfl
       rw [hmm] at hown
       have hll : (outs.map fun (x : Nat) => (x : Int)).length = outs.length := by simp
       generalize outs.map (fun (x : Nat) => (x : Int)) = zs at *
       have hol : outs.length ≤ 1000000 := by have := HT0.out; omega
       rw [← hll] at hown hol
       clear hmm hll HBK HSO hlen
       obtain ⟨Ab, cb, rfl, _, _, hsl⟩ := (SlI.of_own hown HFT.out).open_
       clear hown q0 q1 q2 hoi hBr
       go_wp2_with fail
       obtain ⟨w5, hw5⟩ : ∃ z, z = wr := ⟨_, rfl⟩
       subst hw5
       go_loopw [13, 14] (fun ov jv wr => ∃ j : Nat, j ≤ zs.length ∧ jv = .int .i64 ((j : Int) - 1) ∧ wr.ownsRow w5.heap.size 3 1 ov (zs.length - j) ((zs.reverse.take (zs.length - j)).map (Value.int .i64)) ∧ Below w5.heap.size w5 wr) (fun _ jv _ => (intOf jv + 1).toNat)
       case atStart => exact ⟨zs.length, Nat.le_refl _, by go_num, by rw [Nat.sub_self]; exact World.ownsRow_nil _ _ _ _, Below.refl _ _⟩
       case round =>
        obtain ⟨j, hj, rfl, hown, hbr5⟩ := hrel
        have hsz5 := hbr5.size
        rcases j with _ | j
        ·have em : ((0 : Nat) : Int) - 1 = -1 := by decide
         rw [em]
         rw [Nat.sub_zero, List.take_of_length_le (by simp)] at hown
         go_wp2_with fail
         (try simp only [Exit.inBlock, Exit.then])
         refine bodyPost_ret (results_tmp2 rfl _ _ _) rfl ?_
         refine ⟨_, rfl, ?_, bthen hbw2 (hbrw.trans (hbr5.mono hbrw.size))⟩
         rw [HP2.out]
         have hrl : zs.length = zs.reverse.length := by simp
         rw [hrl] at hown
         exact SlI.of_own hown (fun z hz => HFT.out z (List.mem_reverse.1 hz))
        ·have em : ((j + 1 : Nat) : Int) - 1 = (j : Int) := by omega
         rw [em]
         obtain ⟨b, o, x, rfl, hD, hx, _, c0⟩ := (hsl.now hbr5).at_ (k := j) (by omega)
         have HX : Hid (zs.reverse.take (zs.length - j) = zs.reverse.take (zs.length - (j + 1)) ++ [x]) := by
          show _ = _
          have hq : zs.length - j = (zs.length - (j + 1)) + 1 := by omega
          rw [hq]
          refine List.take_succ_eq_append_getElem (by simp; omega) |>.trans ?_
          congr 2
          rw [List.getElem_reverse]
          have hg := List.getElem?_eq_getElem (l := zs) (i := j) (by omega)
          rw [hx] at hg
          injection hg with hg
          rw [hg]
          congr 1
          omega
         have hln : zs.length - j = zs.length - (j + 1) + 1 := by omega
         have i1 : (0 : Int) ≤ (j : Int) := by omega
         have i2 : (j : Int) < (zs.length : Int) := by omega
         clear hx hD
         go_wp2_with (at_builtin; refine wpList_push appInts rfl (.tmp 125) (.tmp 130) rfl wr [.int .i64 x] rfl (by simp [Value.oneCell']) _ (zs.length - (j + 1)) ((zs.reverse.take (zs.length - (j + 1))).map (Value.int .i64)) rfl hown rfl (by omega) hsz5 ?_; intro v' w' hown' hgr hat)
         have hbg : Below w5.heap.size wr w' := below_of_grown hgr hsz5 (fun g hg => (hown.lt g hg).1)
         go_roundw
         case rel =>
          refine ⟨j, by omega, by go_num, ?_, hbr5.trans hbg⟩
          rw [HX.out, hln]
          simpa using hown'
         case measure => first | (simp [intOf]; done) | (simp [intOf]; omega)
      ·obtain ⟨a, z, ha, hza, hby⟩ := HT.out t (by omega) htN
       have hal := lt_of_get hza
       obtain ⟨b, o, x, rfl, hD, hx, ⟨m1, m2, m3⟩, c0, c1, c2⟩ := (hM2.now hbo0).at_ hal
       obtain rfl : x = z := by rw [hza] at hx; injection hx with hx; exact hx.symm
       have hsrc := (byM_some hby).2.2
       have HN1 : Hid (backD mv t0 t0 = (outs ++ [x.sym]) ++ backD mv x.src x.src) := by
        show _ = _
        rw [HBK.out, backD_step mv (by omega), hby]
        simp
       have HC : Hid (∀ W, Below wo.heap.size wo W → W.cell? ⟨w.heap.size, 1, none⟩ = some (.slice (some ⟨b, o, none⟩) mv.length cm) ∧ W.cell? ⟨g, t, none⟩ = some (.int .i64 (a : Int)) ∧ W.cell? ⟨b, o + a * 3, none⟩ = some (.int .i64 (x.src : Int)) ∧ W.cell? ⟨b, o + a * 3 + 2, none⟩ = some (.int .i64 (x.sym : Int))) := fun W hW => ⟨((hB2.now hbo0).now hW).c3.2.1, (hoio.now hW).cell ha, (hW.cell (p := ⟨b, _, none⟩) hD).trans c0, (hW.cell (p := ⟨b, _, none⟩) hD).trans c2⟩
       have HSO2 : Hid (∀ y ∈ outs ++ [x.sym], y < 1000000) := fun y hy => by
        rcases List.mem_append.1 hy with hy | hy
        ·exact HSO.out y hy
        ·rw [List.mem_singleton] at hy; omega
       have d1 : ((t : Int) != 0) = true := by simp [ht0]
       have i1 : (0 : Int) ≤ (t : Int) := by omega
       have i2 : (t : Int) < (N : Int) := by omega
       have i3 : (0 : Int) ≤ (a : Int) := by omega
       have i4 : (a : Int) < (mv.length : Int) := by omega
       have hol : outs.length < 10000000 := by have := HT0.out; omega
       clear hx hza hby ha c0 c1 c2 q0 q1 q2
       have hbd : Below wr.heap.size wr wr.drew := (Below.refl _ _).drew
       obtain ⟨e0, e1, e2, e3⟩ := HC.out _ hbr
       go_upto_region 25 with fail
       go_cut [12] (fun s12 W => ∃ A c, s12 = .slice A (outs.length + 1) c ∧ W.ownsRow wo.heap.size 3 1 (.slice A (outs.length + 1) c) (outs.length + 1) ((outs ++ [x.sym]).map fun (x : Nat) => Value.int .i64 (x : Int)) ∧ Below wo.heap.size wr W)
       case first =>
        go_region_law (refine step_push_drew appInts rfl (.tmp 97) (.tmp 107) rfl _ [.int .i64 (x.sym : Int)] rfl (by simp [Value.oneCell']) u12 outs.length (outs.map fun (x : Nat) => Value.int .i64 (x : Int)) rfl hown rfl hol hszr ?_; intro v' w' hown' hgr hat)
        all_goals
         have hbg : Below wo.heap.size wr w' := below_of_grown hgr hszr (fun g hg => (hown.lt g hg).1)
         go_wp2_with fail
         go_meet
         obtain ⟨A12, c12, e12⟩ : ∃ A c, v' = .slice A (outs.length + 1) c := by
          rcases hown'.2 with ⟨e, h0⟩ | ⟨g', cap', cur', e, _⟩
          ·omega
          ·exact ⟨_, _, e⟩
         exact ⟨A12, c12, e12, by rw [← e12]; simpa using hown', hbg⟩
       case rest =>
        obtain ⟨A12, c12, rfl, hown2, hbg⟩ := hcut
        have hbr2 := hbr.trans hbg
        obtain ⟨f0, f1, f2, f3⟩ := HC.out _ hbr2
        go_upto_region 26 with fail
        go_quiet (fail)
        go_wp2_with fail
        go_roundw
        case rel => exact ⟨x.src, outs ++ [x.sym], rfl, by omega, HN1.out, by simp; omega, HSO2.out, by rw [List.length_append, List.length_singleton]; exact hown2, bdrawn hbr2 _⟩
        case measure => simp [intOf]; omega
end Go.Proofs.YtlmenhjlgmejkaaGreatDoor
