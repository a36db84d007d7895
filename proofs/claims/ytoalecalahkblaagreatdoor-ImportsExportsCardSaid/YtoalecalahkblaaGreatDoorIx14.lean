/- Texts of this seat, merged. -/
import Derived.Deep.CutRange
import Derived.Test.YtoalecalahkblaaGreatDoorIx01
import Derived.Test.YtoalecalahkblaaGreatDoorIx02
import Derived.Test.YtoalecalahkblaaGreatDoorIx03
import Derived.Test.YtoalecalahkblaaGreatDoorIx04
import Derived.Test.YtoalecalahkblaaGreatDoorIx10
import Derived.Test.YtoalecalahkblaaGreatDoorIx13
set_option linter.all false
namespace Go.Proofs.YtoalecalahkblaaGreatDoor
open Go.RowKit
set_option maxHeartbeats 4000000 in
set_option maxRecDepth 100000 in
theorem logValid_ref (l : List Ev) (u : Value) (w : World) (h : IsLog (Lt w.heap.size) w u l) :
    Calls Tryz.prog 21 #[u] w fun x w' => x = .returned (.bool (logB l)) ∧ Below w.heap.size w w' := by
  obtain ⟨_, rfl, h⟩ := h
  obtain ⟨A, c, rfl, h1, h2, hs⟩ := h.open_
  have hb1 := bone w (.cells #[.slice A l.length c] 38)
  have HS1 := Lib.hid (SlEv.now hs hb1)
  have hq := (Blk.new w 38 #[.slice A l.length c]).c1
  have HE := Lib.hid (logB_eq l)
  have hlw : w.heap.size < (w.alloc (.cells #[.slice A l.length c] 38)).heap.size := by simp
  clear h hs
  by_cases hl : 2000 < l.length
  · have HX : Hid (logB l = false) := by show _ = _; rw [HE.out, decide_eq_false (by omega)]; rfl
    have hl' : (2000 : Int) < (l.length : Int) := by omega
    clear hlw
    go_enter Tryz.func21, Tryz.ntmps21
    go_wp2_with fail
    go_ret
    exact ⟨ret_bool HX.out.symm, hb1⟩
  have HX : Hid (logB l = (List.range l.length).all (evAt l)) := by show _ = _; rw [HE.out, decide_eq_true (by omega)]; rfl
  have hl' : ¬ (2000 : Int) < (l.length : Int) := by omega
  clear HE
  go_enter Tryz.func21, Tryz.ntmps21
  go_wp2_with fail
  obtain ⟨w1, hw1⟩ : ∃ w1, w.alloc (.cells #[.slice A l.length c] 38) = w1 := ⟨_, rfl⟩
  rw [hw1] at hb1 HS1 hq hlw ⊢
  clear hw1 hl'
  go_loopw [3] (fun iv wr => ∃ k : Nat, k ≤ l.length ∧ iv = .int .i64 (k : Int) ∧ Below w1.heap.size w1 wr ∧ Hid (∀ j, j < k → evAt l j = true)) (fun iv _ => l.length - (intOf iv).toNat)
  case atStart => exact ⟨0, Nat.zero_le _, rfl, Below.refl _ _, fun j hj => absurd hj (by omega)⟩
  case round =>
    obtain ⟨k, hk, rfl, hbr, HK⟩ := hrel
    by_cases hlt : k < l.length
    · obtain ⟨b, o, e, dv, rfl, hD, hx, hff, hdv, f0, f1, f2, f3, f4, f5⟩ := SlEv.at_ HS1.out hlt
      obtain ⟨Ad, cd, rfl, _, _, hdv⟩ := hdv.open_
      have HXK := Lib.hid hx
      have rq := (hbr.cell (p := ⟨w.heap.size, 0, none⟩) hlw).trans hq
      have r0 := (hbr.cell (p := ⟨b, o + k * 6, none⟩) hD).trans f0
      have r1 := (hbr.cell (p := ⟨b, o + k * 6 + 1, none⟩) hD).trans f1
      have r2 := (hbr.cell (p := ⟨b, o + k * 6 + 2, none⟩) hD).trans f2
      have r3 := (hbr.cell (p := ⟨b, o + k * 6 + 3, none⟩) hD).trans f3
      have r4 := (hbr.cell (p := ⟨b, o + k * 6 + 4, none⟩) hD).trans f4
      have r5 := (hbr.cell (p := ⟨b, o + k * 6 + 5, none⟩) hD).trans f5
      clear hx
      go_upto_region 6 with fail
      obtain ⟨w2, hw2⟩ : ∃ w2, wr = w2 := ⟨_, rfl⟩
      rw [hw2] at hbr r0 r1 r2 r3 r4 r5 rq ⊢
      have hb12 : Below w1.heap.size w1 w2 := hbr
      clear hw2
      have hD2 := Nat.lt_of_lt_of_le hD hb12.size
      have t0 : ∀ W, (ext w2 W).cell? ⟨b, o + k * 6, none⟩ = some (.string e.cas) := fun W => ((ext_below w2 W).cell (p := ⟨b, o + k * 6, none⟩) hD2).trans r0
      have t1 : ∀ W, (ext w2 W).cell? ⟨b, o + k * 6 + 1, none⟩ = some (.string e.act) := fun W => ((ext_below w2 W).cell (p := ⟨b, o + k * 6 + 1, none⟩) hD2).trans r1
      have t2 : ∀ W, (ext w2 W).cell? ⟨b, o + k * 6 + 2, none⟩ = some (.string e.res) := fun W => ((ext_below w2 W).cell (p := ⟨b, o + k * 6 + 2, none⟩) hD2).trans r2
      have t3 : ∀ W, (ext w2 W).cell? ⟨b, o + k * 6 + 3, none⟩ = some (.int .i64 e.life) := fun W => ((ext_below w2 W).cell (p := ⟨b, o + k * 6 + 3, none⟩) hD2).trans r3
      have t4 : ∀ W, (ext w2 W).cell? ⟨b, o + k * 6 + 4, none⟩ = some (.int .i64 e.time) := fun W => ((ext_below w2 W).cell (p := ⟨b, o + k * 6 + 4, none⟩) hD2).trans r4
      have t5 : ∀ W, (ext w2 W).cell? ⟨b, o + k * 6 + 5, none⟩ = some (.slice Ad e.data.length cd) := fun W => ((ext_below w2 W).cell (p := ⟨b, o + k * 6 + 5, none⟩) hD2).trans r5
      have tq : ∀ W, (ext w2 W).cell? ⟨w.heap.size, 0, none⟩ = some (.slice (some ⟨b, o, none⟩) l.length c) := fun W => ((ext_below w2 W).cell (p := ⟨w.heap.size, 0, none⟩) (Nat.lt_of_lt_of_le hlw hb12.size)).trans ((hb12.cell (p := ⟨w.heap.size, 0, none⟩) hlw).trans hq)
      have HV : Hid (∀ W, Calls Tryz.prog 67 #[evV e (.slice Ad e.data.length cd)] (ext w2 W) fun x w' => x = .returned (.bool (evB e)) ∧ Below (ext w2 W).heap.size (ext w2 W) w') :=
        fun W => eventValid_ref e _ (ext w2 W) hff ((hdv.below hb12 hb12.size).below (ext_below w2 W) (ext_below w2 W).size)
      unfold evV at HV
      have zk1 : (0 : Int) ≤ (k : Int) := by omega
      have zk2 : (k : Int) < (l.length : Int) := by omega
      generalize hfa : evAt l k = fa
      clear rq r0 r1 r2 r3 r4 r5
      go_cut [41] from 15 to 41 (fun b W => b = .bool (!fa) ∧ Below w2.heap.size w2 W)
      case first =>
        clear HX HK
        generalize hnn : evB e = nn at *
        cases nn
        · have HFA : Hid (fa = false) := by show _ = _; rw [← hfa]; exact evAt_bad HXK.out hnn
          clear hfa hnn
          refine wp_region_growV (by kernel_rfl) (by kernel_rfl) ?_
          repeat (refine veil_step (fun K hK => ?_); go_simp; first | (refine hK _ ?_; clear hK K) | (apply Exists.intro; refine ⟨fun Wq => ?_, hK _ ?_⟩; ((go_at_call 67; exact grow_of (HV.out Wq))); clear hK K))
          refine veil_nil ?_
          intro _ hw'
          obtain ⟨W, rfl⟩ := hw'
          go_wp2_with fail
          go_meet
          exact ⟨by first | (rw [HFA.out]; done) | (rw [HFA.out]; rfl), ext_below w2 W⟩
        by_cases hk0 : k = 0
        · have HFA : Hid (fa = true) := by
            show _ = _
            have h0 := HXK.out
            rw [hk0] at h0
            rw [← hfa, hk0, evAt_zero h0, hnn]
          have d0 : decide (0 < k) = false := by simp; omega
          clear hfa hnn hk0
          refine wp_region_growV (by kernel_rfl) (by kernel_rfl) ?_
          repeat (refine veil_step (fun K hK => ?_); go_simp; first | (refine hK _ ?_; clear hK K) | (apply Exists.intro; refine ⟨fun Wq => ?_, hK _ ?_⟩; ((go_at_call 67; exact grow_of (HV.out Wq))); clear hK K))
          refine veil_nil ?_
          intro _ hw'
          obtain ⟨W, rfl⟩ := hw'
          go_wp2_with fail
          go_meet
          exact ⟨by first | (rw [HFA.out]; done) | (rw [HFA.out]; rfl), ext_below w2 W⟩
        · obtain ⟨m, hm⟩ : ∃ m, k = m + 1 := ⟨k - 1, by omega⟩
          obtain ⟨b', o', e', dv', hA', hD', hx', hff', hdv', f0', f1', f2', f3', f4', f5'⟩ := SlEv.at_ HS1.out (k := m) (by omega)
          injection hA' with hA'
          injection hA' with e1 e2 _
          subst e1 e2
          have t6 : ∀ W, (ext w2 W).cell? ⟨b, o + m * 6 + 4, none⟩ = some (.int .i64 e'.time) := fun W => ((ext_below w2 W).cell (p := ⟨b, o + m * 6 + 4, none⟩) (Nat.lt_of_lt_of_le hD hb12.size)).trans ((hb12.cell (p := ⟨b, o + m * 6 + 4, none⟩) hD).trans f4')
          have hls := lt_not_le e.time e'.time
          have HFA : Hid (fa = decide (e'.time ≤ e.time)) := by show _ = _; rw [← hfa, hm, evAt_succ (hm ▸ HXK.out) hx', hnn]; rfl
          generalize decide (e'.time ≤ e.time) = dd at *
          have d0 : decide (0 < k) = true := by simp; omega
          have d1 : (0 : Int) ≤ (m : Int) := by omega
          have d2 : (m : Int) < (l.length : Int) := by omega
          have d3 : IntKind.i64.wrap ((k : Int) - 1) = m := by rw [i64wrap (by omega)]; omega
          clear hfa hnn hm hk0 f0' f1' f2' f3' f4' f5' hx'
          refine wp_region_growV (by kernel_rfl) (by kernel_rfl) ?_
          repeat (refine veil_step (fun K hK => ?_); go_simp; first | (refine hK _ ?_; clear hK K) | (apply Exists.intro; refine ⟨fun Wq => ?_, hK _ ?_⟩; ((go_at_call 67; exact grow_of (HV.out Wq))); clear hK K))
          refine veil_nil ?_
          intro _ hw'
          obtain ⟨W, rfl⟩ := hw'
          go_wp2_with fail
          go_meet
          exact ⟨by first | (rw [HFA.out]; done) | (rw [HFA.out]; rfl), ext_below w2 W⟩
      obtain ⟨rfl, hb3⟩ := hcut
      have hb13 := hb12.trans (hb3.mono hb12.size)
      cases fa
      · have HFF : Hid ((List.range l.length).all (evAt l) = false) := all_no hlt hfa
        clear hfa
        go_wp2_with fail
        go_ret
        exact ⟨ret_bool (by rw [HX.out, HFF.out]), hb1.trans (hb13.mono hb1.size)⟩
      · have HFT := Lib.hid hfa
        clear hfa
        go_wp2_with fail
        go_roundw
        case rel => exact ⟨k + 1, by omega, by go_num, hb13, fun j hj => by
          by_cases ej : j = k
          · subst ej; exact HFT.out
          · exact HK.out j (by omega)⟩
        case measure => simp [intOf]; omega
    · have HFF : Hid ((List.range l.length).all (evAt l) = true) := all_yes fun j hj => HK.out j (by omega)
      have rq := (hbr.cell (p := ⟨w.heap.size, 0, none⟩) hlw).trans hq
      go_wp2_with fail
      go_ret
      exact ⟨ret_bool (by rw [HX.out, HFF.out]), hb1.trans (hbr.mono hb1.size)⟩
end Go.Proofs.YtoalecalahkblaaGreatDoor

set_option linter.all false
namespace Go.Proofs.YtoalecalahkblaaGreatDoor
open Go.RowKit
theorem printC {s : ByteArray} {k : Nat} (h : k < s.size) : printB (s.data.toList[k]'(by simpa using h)) = true ↔ 32 ≤ (s[k].toNat : Int) ∧ (s[k].toNat : Int) ≤ 126 := by
  have e : (s.data.toList[k]'(by simpa using h)) = s[k] := rfl
  rw [e, printI, Bool.and_eq_true, decide_eq_true_eq, decide_eq_true_eq]
set_option maxHeartbeats 400000 in
theorem printable_refI (s : ByteArray) (w : World) (hs : s.size ≤ maxLen) : Calls Tryz.prog 95 #[.string s] w fun e w' => e = .returned (.bool (s.data.toList.all printB)) ∧ w = w' := by
  unfold maxLen at hs
  obtain ⟨p, hp⟩ : ∃ p, s.data.toList.all printB = p := ⟨_, rfl⟩
  rw [hp]
  have HPP := Lib.hid hp
  clear hp
  go_enter Tryz.func95, Tryz.ntmps95
  go_wp2_with fail
  go_loop [3] (fun i => ∃ k : Nat, k ≤ s.size ∧ i = .int .i64 k ∧ ∀ j (hj : j < s.size), j < k → printB (s.data.toList[j]'(by simpa using hj)) = true) (fun i => s.size - (intOf i).toNat)
  case atStart => exact ⟨0, Nat.zero_le _, rfl, fun j _ hj => absurd hj (by omega)⟩
  case round =>
    obtain ⟨k, hk, rfl, hp⟩ := hrel
    have HP := Lib.hid hp
    clear hp
    by_cases hlt : k < s.size
    · have HY := Lib.hid (printC hlt)
      have HNO : Hid (¬ printB (s.data.toList[k]'(by simpa using hlt)) = true → p = false) := fun h => by
        rw [← HPP.out, Bool.eq_false_iff]
        intro h'
        exact h (List.all_eq_true.1 h' _ (List.getElem_mem _))
      by_cases h1 : (s[k].toNat : Int) < 32
      · have HE := Lib.hid (HNO.out (fun h => by have := HY.out.1 h; omega))
        go_wp2_with fail
        go_ret
        exact ⟨ret_bool HE.out.symm, rfl⟩
      by_cases h2 : 126 < (s[k].toNat : Int)
      · have HE := Lib.hid (HNO.out (fun h => by have := HY.out.1 h; omega))
        go_wp2_with fail
        go_ret
        exact ⟨ret_bool HE.out.symm, rfl⟩
      have HQ := Lib.hid (HY.out.2 ⟨by omega, by omega⟩)
      go_wp2_with fail
      go_round
      case rel => exact ⟨k + 1, by omega, by go_num, fun j hj hjk => by
        by_cases e : j = k
        · subst e; exact HQ.out
        · exact HP.out j hj (by omega)⟩
      case measure => simp [intOf]; omega
    · have HE : Hid (p = true) := by
        show _ = _
        rw [← HPP.out, List.all_eq_true]
        intro c hc
        obtain ⟨j, hj, rfl⟩ := List.mem_iff_getElem.1 hc
        have hj' : j < s.size := by simpa using hj
        exact HP.out j hj' (by omega)
      go_wp2_with fail
      go_ret
      exact ⟨ret_bool HE.out.symm, rfl⟩
set_option maxHeartbeats 2000000 in
set_option maxRecDepth 100000 in
theorem table_ref (rows : List (List Bt)) (v : Value) (w : World) (h : SlSS (Lt w.heap.size) w v rows) :
    Calls Tryz.prog 51 #[v] w fun e w' => e = .returned (.bool (tableB rows)) ∧ w = w' := by
  have HH := Lib.hid h
  obtain ⟨A, c, rfl, _, _, _⟩ := h.open_
  clear h
  go_enter Tryz.func51, Tryz.ntmps51
  go_wp2_with fail
  go_loopw [3] (fun iv wr => ∃ k : Nat, iv = .int .i64 (k : Int) ∧ k ≤ rows.length ∧ Hid ((rows.take k).all rowOk = true) ∧ w = wr) (fun iv _ => rows.length - (intOf iv).toNat)
  case atStart => exact ⟨0, rfl, Nat.zero_le _, rfl, rfl⟩
  case round =>
    obtain ⟨k, rfl, hk, HP, rfl⟩ := hrel
    by_cases hlt : k < rows.length
    · obtain ⟨b, o, r, u, rfl, hD, hx, hr, c0⟩ := SlSS.at_ HH.out hlt
      obtain ⟨Ar, cr, rfl, _, _, hr⟩ := hr.open_
      have HX := Lib.hid hx
      have HRR := Lib.hid hr
      clear hx hr
      by_cases hn : r.length = 0
      · have e1 : ((r.length : Int) == 0) = true := by rw [hn]; rfl
        have HE : Hid (tableB rows = false) := by
          show _ = _
          rw [tableB_rowOk]; exact all_take_bad HX.out (by unfold rowOk; rw [List.eq_nil_of_length_eq_zero hn]; rfl)
        clear hn
        go_wp2_with fail
        go_ret
        exact ⟨ret_bool HE.out.symm, rfl⟩
      · have e1 : ((r.length : Int) == 0) = false := beq_false_of_ne (by omega)
        have HNE : Hid (r.isEmpty = false) := by
          show _ = _
          cases r with
          | nil => exact absurd rfl hn
          | cons _ _ => rfl
        clear hn
        go_wp2_with fail
        go_loopw [4] (fun iv wr => ∃ j : Nat, iv = .int .i64 (j : Int) ∧ j ≤ r.length ∧ Hid ((r.take j).all (fun b => b.all printB) = true) ∧ w = wr) (fun iv _ => r.length - (intOf iv).toNat)
        case atStart => exact ⟨0, rfl, Nat.zero_le _, rfl, rfl⟩
        case round =>
          obtain ⟨j, rfl, hj, HJ, rfl⟩ := hrel
          by_cases hjl : j < r.length
          · obtain ⟨b2, o2, t, rfl, hD2, ht, htm, d0⟩ := SlP.at_ HRR.out hjl
            have HTJ := Lib.hid ht
            have HPR := Lib.hid (fun W => printable_refI (bsOf t) W (by rw [bs_size]; exact htm))
            obtain ⟨q, hq⟩ : ∃ q, t.all printB = q := ⟨_, rfl⟩
            have HPR2 : Hid (∀ W, Calls Tryz.prog 95 #[.string (bsOf t)] W fun e w' => e = .returned (.bool q) ∧ W = w') := by rw [← hq]; exact HPR.out
            have HQ := Lib.hid hq
            clear ht htm hq HPR
            cases q with
            | false =>
              have HE : Hid (tableB rows = false) := by
                show _ = _
                rw [tableB_rowOk]; exact all_take_bad HX.out (by unfold rowOk; rw [all_take_bad (p := fun b : Bt => b.all printB) HTJ.out HQ.out, Bool.and_false])
              go_wp2_with fail
              (with_reducible refine (HPR2.out _).mono ?_)
              rintro _ w2 ⟨rfl, rfl⟩
              go_wp2_with fail
              go_ret
              exact ⟨ret_bool HE.out.symm, rfl⟩
            | true =>
              go_wp2_with fail
              (with_reducible refine (HPR2.out _).mono ?_)
              rintro _ w2 ⟨rfl, rfl⟩
              go_wp2_with fail
              go_roundw
              case rel => exact ⟨j + 1, by go_num, by omega, all_take_step (p := fun b : Bt => b.all printB) HTJ.out HQ.out HJ.out, trivial⟩
              case measure => simp [intOf]; omega
          · have HOK : Hid (rowOk r = true) := by
              show _ = _
              have := HJ.out
              rw [List.take_of_length_le (by omega)] at this
              unfold rowOk; rw [this, HNE.out]; rfl
            go_wp2_with fail
            go_roundw
            case rel => exact ⟨k + 1, by go_num, by omega, all_take_step HX.out HOK.out HP.out, trivial⟩
            case measure => simp [intOf]; omega
    · have HT : Hid (tableB rows = true) := by
        show _ = _
        have := HP.out
        rw [List.take_of_length_le (by omega)] at this
        exact this
      go_wp2_with fail
      go_ret
      exact ⟨ret_bool HT.out.symm, rfl⟩
theorem quoteB_snoc (b : Bt) (c : UInt8) : quoteB (b ++ [c]) = quoteB b ++ (if c = 34 then [34, 34] else [c]) := by
  rw [quoteB_append]
  congr 1
theorem special_snoc (sep : UInt8) (b : Bt) (c : UInt8) : special sep (b ++ [c]) = (special sep b || (c == 34 || c == sep)) := by
  unfold special; rw [List.any_append]; simp
set_option maxHeartbeats 4000000 in
set_option maxRecDepth 100000 in
theorem cell_ref' (s : ByteArray) (sep : UInt8) (w : World) (hs : s.size ≤ 1000000) :
    Calls Tryz.prog 52 #[.string s, .int .u8 (sep.toNat : Int)] w fun e w' => e = .returned (.string (bsOf (cellT sep s.data.toList))) ∧ Below w.heap.size w w' := by
  have HBY : Hid (∀ (k : Nat) (h : k < s.size), s.data.toList[k]? = some s[k]) := fun k h => by rw [List.getElem?_eq_getElem (rdByte h).1]; rfl
  have hsz : s.size = s.data.toList.length := by simp
  have HBS : Hid (bsOf s.data.toList = s) := bs_of s
  obtain ⟨t, ht⟩ : ∃ t, s.data.toList = t := ⟨_, rfl⟩
  rw [ht] at HBY hsz HBS ⊢
  clear ht
  have HSZ := Lib.hid hsz
  obtain ⟨z, hz⟩ : ∃ z, (sep.toNat : Int) = z := ⟨_, rfl⟩
  rw [hz]
  have HZ := Lib.hid hz
  clear hsz hz
  have HO1 : Hid (OwnC (w.alloc (.cells #[.int .u8 34] 5)) w.heap.size (.slice (some ⟨w.heap.size, 0, none⟩) 1 1) [34]) := OwnC.one w 34
  have HB1 := Lib.hid (bone w (.cells #[.int .u8 34] 5))
  go_enter Tryz.func52, Tryz.ntmps52
  go_upto_region 3 with fail
  obtain ⟨w1, hw1⟩ : ∃ w1, w.alloc (.cells #[.int .u8 34] 5) = w1 := ⟨_, rfl⟩
  rw [hw1] at HO1 HB1 ⊢
  clear hw1
  go_wp2_with fail
  go_loopw [5, 6, 7] (fun sv bv iv wr => ∃ (k : Nat), iv = .int .i64 (k : Int) ∧ k ≤ s.size ∧ sv = .bool (special sep (t.take k)) ∧ Hid (OwnC wr w.heap.size bv (34 :: quoteB (t.take k))) ∧ Hid (Below w.heap.size w wr)) (fun _ _ iv _ => s.size - (intOf iv).toNat)
  case atStart => exact ⟨0, rfl, Nat.zero_le _, rfl, HO1, HB1⟩
  case round =>
    obtain ⟨k, rfl, hk, rfl, HO, HB⟩ := hrel
    obtain ⟨A, cb, hA⟩ := HO.out.open_
    subst hA
    have HLQ : Hid ((34 :: quoteB (t.take k)).length ≤ 2000001) := by
      show _ ≤ _
      have h1 := quoteB_len (t.take k)
      have h2 : (t.take k).length ≤ t.length := by rw [List.length_take]; omega
      have h3 := HSZ.out
      rw [List.length_cons]; omega
    by_cases hlt : k < s.size
    · obtain ⟨hkt, hby⟩ := List.getElem?_eq_some_iff.1 (HBY.out k hlt)
      have hby := hby.symm
      have HTK : Hid (t.take (k + 1) = t.take k ++ [t[k]]) := by show _ = _; rw [List.take_add_one, List.getElem?_eq_getElem hkt]; rfl
      have e1 := beqI s[k] 34 34 rfl
      have e2 := beqI s[k] sep z HZ.out
      rw [show (s[k] == 34) = (t[k] == 34) by rw [hby]] at e1
      rw [show (s[k] == sep) = (t[k] == sep) by rw [hby]] at e2
      have HNX : Hid (special sep (t.take (k + 1)) = (special sep (t.take k) || (t[k] == 34 || t[k] == sep))) := by show _ = _; rw [HTK.out, special_snoc]
      have HNQ : Hid (quoteB (t.take (k + 1)) = quoteB (t.take k) ++ (if t[k] = 34 then [34, 34] else [t[k]])) := by show _ = _; rw [HTK.out, quoteB_snoc]
      generalize special sep (t.take k) = q0 at *
      have HT34 : Hid ((t[k] == 34) = true → t[k] = 34) := fun h => beq_iff_eq.1 h
      have HF34 : Hid ((t[k] == 34) = false → ¬ t[k] = 34) := fun h e => by rw [e] at h; cases h
      generalize t[k] = c at *
      obtain ⟨q1, hq1⟩ : ∃ q1, (c == 34) = q1 := ⟨_, rfl⟩
      obtain ⟨q2, hq2⟩ : ∃ q2, (c == sep) = q2 := ⟨_, rfl⟩
      rw [hq1] at e1 HNX HT34 HF34
      rw [hq2] at e2 HNX
      have HBYK : Hid (s[k] = c) := hby
      clear hq1 hq2 hby
      have HWS := Lib.hid HB.out.size
      go_upto_region 6 with fail
      go_cut [5] from 15 to 28 (fun x W => x = .bool (q0 || (q1 || q2)) ∧ wr = W)
      case first =>
        cases q0 <;> cases q1 <;> cases q2
        all_goals
          go_wp2_with fail
          go_meet
          exact ⟨rfl, rfl⟩
      obtain ⟨rfl, rfl⟩ := hcut
      cases q1 with
      | false =>
        have HNQ2 : Hid (34 :: quoteB (t.take (k + 1)) = (34 :: quoteB (t.take k)) ++ [c]) := by show _ = _; rw [HNQ.out, if_neg (HF34.out rfl)]; rfl
        have HZC : Hid ((s[k].toNat : Int) = (c.toNat : Int)) := by show _ = _; rw [HBYK.out]
        go_wp2_with (at_builtin; refine wpList_pushC rfl (.tmp 36) (.tmp 40) rfl c _ HZC.out rfl HO.out rfl (by have := HLQ.out; omega) HWS.out ?_; intro v' w7 hA)
        have HA := Lib.hid hA
        clear hA
        go_roundw
        case rel => exact ⟨k + 1, by go_num, by omega, by rw [HNX.out]; first | rfl | simp, (by rw [HNQ2.out]; exact HA.out.own), HB.out.grown HA.out.grown HWS.out (fun g hg => (World.ownsRow.lt HO.out g hg).1)⟩
        case measure => simp [intOf]; omega
      | true =>
        have hc34 := HT34.out rfl
        have HNQ2 : Hid (34 :: quoteB (t.take (k + 1)) = ((34 :: quoteB (t.take k)) ++ [34]) ++ [c]) := by show _ = _; rw [HNQ.out, if_pos hc34, hc34]; simp
        have HZC : Hid ((s[k].toNat : Int) = (c.toNat : Int)) := by show _ = _; rw [HBYK.out]
        go_upto_region 9 with (at_builtin; refine wpList_pushC rfl (.tmp 33) (.tmp 34) rfl 34 34 rfl rfl HO.out rfl (by have := HLQ.out; omega) HWS.out ?_; intro v6 w6 hA6)
        have HA6 := Lib.hid hA6
        have HS6 := Lib.hid (Nat.le_trans HWS.out hA6.grown.size)
        have HL6 : Hid ((34 :: quoteB (t.take k) ++ [34]).length < 10000000) := by show _ < _; rw [List.length_append, List.length_singleton]; have := HLQ.out; omega
        obtain ⟨A6, c6, hv6⟩ := hA6.own.open_
        clear hA6 hc34
        go_wp2_with (at_builtin; refine wpList_pushC rfl (.tmp 36) (.tmp 40) rfl c _ HZC.out rfl HA6.out.own rfl HL6.out HS6.out ?_; intro v' w7 hA)
        have HA := Lib.hid (HA6.out.trans hA)
        clear hA
        go_roundw
        case rel => exact ⟨k + 1, by go_num, by omega, by rw [HNX.out]; first | rfl | simp, (by rw [HNQ2.out]; exact HA.out.own), HB.out.grown HA.out.grown HWS.out (fun g hg => (World.ownsRow.lt HO.out g hg).1)⟩
        case measure => simp [intOf]; omega
    · have htk : t.take k = t := List.take_of_length_le (by have := HSZ.out; omega)
      rw [htk] at HO HLQ
      rw [htk]
      have HWS := Lib.hid HB.out.size
      obtain ⟨q, hq⟩ : ∃ q, special sep t = q := ⟨_, rfl⟩
      rw [hq]
      cases q with
      | false =>
        have HC := Lib.hid (cellT_no hq)
        clear hq htk
        go_wp2_with fail
        go_ret
        rw [HC.out, HBS.out]
        exact ⟨rfl, HB.out⟩
      | true =>
        have HC := Lib.hid (cellT_yes hq)
        clear hq htk
        go_wp2_with (at_builtin; refine wpList_pushC rfl (.tmp 43) (.tmp 44) rfl 34 34 rfl rfl HO.out rfl (by have := HLQ.out; omega) HWS.out ?_; intro v' w7 hA; have hcv := hA.own.conv; have HA := Lib.hid hA; clear hA)
        go_ret
        rw [HC.out]
        exact ⟨rfl, HB.out.grown HA.out.grown HWS.out (fun g hg => (World.ownsRow.lt HO.out g hg).1)⟩
theorem cell_ref (t : Bt) (sep : UInt8) (w : World) (hs : t.length ≤ 1000000) :
    Calls Tryz.prog 52 #[.string (bsOf t), .int .u8 (sep.toNat : Int)] w fun e w' => e = .returned (.string (bsOf (cellT sep t))) ∧ Below w.heap.size w w' :=
  cell_ref' (bsOf t) sep w (by rw [bs_size]; exact hs)
end Go.Proofs.YtoalecalahkblaaGreatDoor

set_option linter.all false
namespace Go.Proofs.YtoalecalahkblaaGreatDoor
open Go.RowKit
theorem bs_append (a b : Bt) : bsOf a ++ bsOf b = bsOf (a ++ b) := by
  have : (bsOf a ++ bsOf b).data = (bsOf (a ++ b)).data := by
    rw [ByteArray.data_append]
    apply Array.toList_inj.1
    simp [bsOf]
  have h : ∀ x y : ByteArray, x.data = y.data → x = y := fun x y h => by cases x; cases y; congr
  exact h _ _ this
theorem tailT_take (sep : UInt8) : ∀ (f : Bool) (r : List Bt) (j : Nat), (tailT sep f (r.take j)).length ≤ (tailT sep f r).length
  | _, [], j => by simp
  | f, b :: r, 0 => Nat.zero_le _
  | f, b :: r, j + 1 => by
    have := tailT_take sep false r j
    show ((if f then [] else [sep]) ++ cellT sep b ++ tailT sep false (r.take j)).length ≤ ((if f then [] else [sep]) ++ cellT sep b ++ tailT sep false r).length
    simp only [List.length_append]
    omega
theorem mid_le {sep : UInt8} {rows : List (List Bt)} {k : Nat} {r : List Bt} (h : rows[k]? = some r) (j : Nat) : (tableT sep (rows.take k) ++ tailT sep true (r.take j)).length ≤ (tableT sep rows).length := by
  have h1 := tableT_take (sep := sep) rows (k + 1)
  have h2 := tailT_take sep true r j
  rw [tableT_step h] at h1
  rw [tailT_true r] at h2
  simp only [List.length_append, List.length_singleton] at h1 ⊢
  omega
set_option maxHeartbeats 8000000 in
set_option maxRecDepth 100000 in
theorem write_ref (rows : List (List Bt)) (v : Value) (sep : UInt8) (w : World) (h : SlSS (Lt w.heap.size) w v rows) (hs : SmallT rows) :
    Calls Tryz.prog 13 #[v, .int .u8 (sep.toNat : Int)] w (RetSE (writeE sep rows) w) := by
  have HSEP := Lib.hid (separator_ref sep)
  have HTAB := Lib.hid (table_ref rows v w h)
  have HH := Lib.hid h
  have HS := Lib.hid hs
  obtain ⟨A, c, rfl, _, _, _⟩ := h.open_
  clear h hs
  obtain ⟨q, hq⟩ : ∃ q, isSep sep = q := ⟨_, rfl⟩
  rw [hq] at HSEP
  have HQ := Lib.hid hq
  have HCV := Lib.hid (fun W : World => (OwnC.one W sep).conv)
  have HCR := Lib.hid (fun (t : Bt) (W : World) (ht : t.length ≤ 1000000) => cell_ref t sep W ht)
  obtain ⟨z, hz⟩ : ∃ z, (sep.toNat : Int) = z := ⟨_, rfl⟩
  rw [hz] at HSEP HCV HCR ⊢
  have HZ := Lib.hid hz
  clear hq hz
  cases q with
  | false =>
    have HE : Hid (writeE sep rows = ([], 1)) := by show _ = _; unfold writeE; rw [if_pos (.inl HQ.out)]
    go_enter Tryz.func13, Tryz.ntmps13
    go_wp2_with fail
    (with_reducible refine (HSEP.out _).mono ?_)
    rintro _ w1 ⟨rfl, rfl⟩
    go_wp2_with fail
    go_ret2
    show RetSE _ _ _ _
    rw [HE.out]
    exact ⟨rfl, Below.refl _ _⟩
  | true =>
    obtain ⟨qt, hqt⟩ : ∃ qt, tableB rows = qt := ⟨_, rfl⟩
    rw [hqt] at HTAB
    have HT := Lib.hid hqt
    clear hqt
    cases qt with
    | false =>
      have HE : Hid (writeE sep rows = ([], 1)) := by show _ = _; unfold writeE; rw [if_pos (.inr HT.out)]
      go_enter Tryz.func13, Tryz.ntmps13
      go_wp2_with fail
      (with_reducible refine (HSEP.out _).mono ?_)
      rintro _ w1 ⟨rfl, rfl⟩
      go_wp2_with fail
      (with_reducible refine HTAB.out.mono ?_)
      rintro _ w1 ⟨rfl, rfl⟩
      go_wp2_with fail
      go_ret2
      show RetSE _ _ _ _
      rw [HE.out]
      exact ⟨rfl, Below.refl _ _⟩
    | true =>
      by_cases h5 : 2001 < rows.length
      · have i5 : (2001 : Int) < (rows.length : Int) := by omega
        have HE : Hid (writeE sep rows = ([], 5)) := by
          show _ = _
          unfold writeE
          rw [if_neg (by rw [HQ.out, HT.out]; decide), if_pos h5]
        go_enter Tryz.func13, Tryz.ntmps13
        go_wp2_with fail
        (with_reducible refine (HSEP.out _).mono ?_)
        rintro _ w1 ⟨rfl, rfl⟩
        go_wp2_with fail
        (with_reducible refine HTAB.out.mono ?_)
        rintro _ w1 ⟨rfl, rfl⟩
        go_wp2_with fail
        go_ret2
        show RetSE _ _ _ _
        rw [HE.out]
        exact ⟨rfl, Below.refl _ _⟩
      · have i5 : ¬ (2001 : Int) < (rows.length : Int) := by omega
        have HE : Hid (writeE sep rows = if 16384 < (tableT sep rows).length then ([], 5) else (tableT sep rows, 0)) := by
          show _ = _
          unfold writeE
          rw [if_neg (by rw [HQ.out, HT.out]; decide), if_neg h5]
        go_enter Tryz.func13, Tryz.ntmps13
        go_wp2_with fail
        (with_reducible refine (HSEP.out _).mono ?_)
        rintro _ w1 ⟨rfl, rfl⟩
        go_wp2_with fail
        (with_reducible refine HTAB.out.mono ?_)
        rintro _ w1 ⟨rfl, rfl⟩
        go_wp2_with fail
        go_loopw [6, 7] (fun sv iv wr => ∃ k : Nat, iv = .int .i64 (k : Int) ∧ k ≤ rows.length ∧ sv = .string (bsOf (tableT sep (rows.take k))) ∧ Hid ((tableT sep (rows.take k)).length ≤ 16384 + k) ∧ Hid (Below w.heap.size w wr)) (fun _ iv _ => rows.length - (intOf iv).toNat)
        case atStart => exact ⟨0, rfl, Nat.zero_le _, rfl, Nat.zero_le _, Lib.hid (Below.refl _ _)⟩
        case round =>
          obtain ⟨k, rfl, hk, rfl, HL, HB⟩ := hrel
          by_cases hlt : k < rows.length
          · obtain ⟨b, o, r, u, rfl, hD, hx, hr, hc⟩ := SlSS.at_ HH.out hlt
            obtain ⟨Ar, cr, rfl, _, _, hr⟩ := hr.open_
            have HX := Lib.hid hx
            have HRR := Lib.hid hr
            have HCC := Lib.hid hc
            have HSR := Lib.hid (HS.out.2 r (List.mem_of_getElem? hx))
            have HLT0 := Lib.hid hD
            clear hx hr hc
            obtain ⟨T0, hT0⟩ : ∃ T0, tableT sep (rows.take k) = T0 := ⟨_, rfl⟩
            rw [hT0] at HL ⊢
            have HT0 := Lib.hid hT0
            clear hT0
            go_wp2_with fail
            go_loopw [6, 8] (fun sv iv wr => ∃ j : Nat, iv = .int .i64 (j : Int) ∧ j ≤ r.length ∧ sv = .string (bsOf (T0 ++ tailT sep true (r.take j))) ∧ Hid ((T0 ++ tailT sep true (r.take j)).length ≤ 16384 + k) ∧ Hid (Below w.heap.size w wr)) (fun _ iv _ => r.length - (intOf iv).toNat)
            case atStart => exact ⟨0, rfl, Nat.zero_le _, by show _ = Value.string (bsOf (T0 ++ [])); rw [List.append_nil], by show (T0 ++ []).length ≤ _; rw [List.append_nil]; have := HL.out; omega, HB⟩
            case round =>
              obtain ⟨j, rfl, hj, rfl, HL3, HB3⟩ := hrel
              have c0 := (HB3.out.cell (p := ⟨b, o + k, none⟩) HLT0.out).trans HCC.out
              by_cases hjl : j < r.length
              · obtain ⟨b2, o2, t, rfl, hD2, ht, htm, hc2⟩ := SlP.at_ HRR.out hjl
                have HD2 := Lib.hid hD2
                have HC2 := Lib.hid hc2
                have HTL := Lib.hid (HSR.out.2 t (List.mem_of_getElem? ht))
                have HST : Hid (tailT sep true (r.take (j + 1)) = tailT sep true (r.take j) ++ ((if j = 0 then [] else [sep]) ++ cellT sep t)) := by
                  show _ = _
                  have e : r.take (j + 1) = r.take j ++ [t] := by rw [List.take_add_one, ht]; rfl
                  rw [e, tailT_snoc]
                  congr 2
                  cases j with
                  | zero => rfl
                  | succ j =>
                    have : (r.take (j + 1)).isEmpty = false := by
                      cases r with
                      | nil => simp at hjl
                      | cons _ _ => rfl
                    rw [this]; simp
                have HMID := Lib.hid (mid_le (sep := sep) HX.out (j + 1))
                rw [HT0.out] at HMID
                obtain ⟨T, hT⟩ : ∃ T, T0 ++ tailT sep true (r.take j) = T := ⟨_, rfl⟩
                rw [hT] at HL3 ⊢
                have HTT := Lib.hid hT
                clear ht hc2 hT htm
                obtain ⟨q0, e0⟩ : ∃ q0, decide (0 < j) = q0 := ⟨_, rfl⟩
                go_upto_if 36 with fail
                have HQ0 := Lib.hid e0
                clear e0 c0
                go_cut [6] from 37 to 41 (fun sv W => sv = .string (bsOf (T ++ (if q0 = false then [] else [sep]))) ∧ Below w.heap.size w W)
                case first =>
                  cases q0 with
                  | false =>
                    go_wp2_with fail
                    go_meet
                    rw [if_pos (by first | rfl | trivial), List.append_nil]
                    exact ⟨rfl, HB3.out⟩
                  | true =>
                    have hcv := HCV.out
                    have hsz := bs_size T
                    have hl3 := HL3.out
                    obtain ⟨x1, hx1⟩ : ∃ x1, bsOf T = x1 := ⟨_, rfl⟩
                    rw [hx1] at hsz ⊢
                    have hn : ¬ 9223372036854775807 < x1.size + 1 := by omega
                    have HX1 := Lib.hid hx1
                    clear hx1 hsz hl3
                    have HBA := Lib.hid (HB3.out.trans ((bone _ (.cells #[.int .u8 z] 5)).mono HB3.out.size))
                    go_wp2_with fail
                    go_meet
                    rw [if_neg (by first | decide | exact id)]
                    refine ⟨?_, HBA.out⟩
                    rw [← HX1.out]
                    exact congrArg Value.string (bs_append T [sep])
                obtain ⟨rfl, hb4⟩ := hcut
                have HSJ : Hid ((if q0 = false then ([] : Bt) else [sep]) = if j = 0 then [] else [sep]) := by
                  show _ = _
                  have := HQ0.out
                  cases q0 with
                  | false => rw [if_pos rfl, if_pos (by have := of_decide_eq_false this; omega)]
                  | true => rw [if_neg (by decide), if_neg (by have := of_decide_eq_true this; omega)]
                rw [HSJ.out]
                have HB4 := Lib.hid hb4
                clear hb4 HSJ HQ0 HB3
                obtain ⟨T2, hT2⟩ : ∃ T2, T ++ (if j = 0 then [] else [sep]) = T2 := ⟨_, rfl⟩
                have hL2 : T2.length ≤ 20001 := by
                  rw [← hT2, List.length_append]
                  have := HL3.out
                  by_cases e : j = 0
                  · rw [if_pos e]; simp; omega
                  · rw [if_neg e]; simp; omega
                rw [hT2]
                have HTX : Hid (T0 ++ tailT sep true (r.take (j + 1)) = T2 ++ cellT sep t) := by
                  show _ = _
                  rw [HST.out, ← List.append_assoc, HTT.out, ← List.append_assoc, hT2]
                have c0 := (HB4.out.cell (p := ⟨b, o + k, none⟩) HLT0.out).trans HCC.out
                have d0 := (HB4.out.cell (p := ⟨b2, o2 + j, none⟩) HD2.out).trans HC2.out
                have hcl := cellT_len sep t
                have hsa := bs_size T2
                have hsb := bs_size (cellT sep t)
                have HCT := Lib.hid (HCR.out t wc HTL.out)
                have htl := HTL.out
                have HBS := Lib.hid (bs_append T2 (cellT sep t))
                obtain ⟨x1, hx1⟩ : ∃ x1, bsOf T2 = x1 := ⟨_, rfl⟩
                obtain ⟨x2, hx2⟩ : ∃ x2, bsOf (cellT sep t) = x2 := ⟨_, rfl⟩
                rw [hx1] at hsa HBS ⊢
                rw [hx2] at hsb HCT HBS
                have hn : ¬ 9223372036854775807 < x1.size + x2.size := by omega
                have HLN : Hid ((T2 ++ cellT sep t).length = x1.size + x2.size) := by show _ = _; rw [List.length_append]; omega
                clear hT2 hx1 hx2 hsa hsb hcl htl hL2
                go_wp2_with fail
                (with_reducible refine HCT.out.mono ?_)
                rintro _ w5 ⟨rfl, hb5⟩
                have HB5 := Lib.hid (HB4.out.trans (hb5.mono HB4.out.size))
                clear hb5 c0 d0
                by_cases hlen : 16384 < x1.size + x2.size
                · have i6 : (16384 : Int) < ((x1.size : Int) + (x2.size : Int)) := by omega
                  have HF : Hid (writeE sep rows = ([], 5)) := by
                    show _ = _
                    have := HMID.out
                    rw [HTX.out, HLN.out] at this
                    rw [HE.out, if_pos (by omega)]
                  clear hlen
                  go_wp2_with fail
                  go_ret2
                  show RetSE _ _ _ _
                  rw [HF.out]
                  exact ⟨rfl, HB5.out⟩
                · have i6 : ¬ (16384 : Int) < ((x1.size : Int) + (x2.size : Int)) := by omega
                  have HLL : Hid ((T2 ++ cellT sep t).length ≤ 16384) := by show _ ≤ _; rw [HLN.out]; omega
                  clear hlen
                  go_wp2_with fail
                  go_roundw
                  case rel => exact ⟨j + 1, by go_num, by omega, by rw [HTX.out, ← HBS.out], by show List.length _ ≤ _; rw [HTX.out]; have := HLL.out; omega, HB5⟩
                  case measure => simp [intOf]; omega
              · have hrj : r.take j = r := List.take_of_length_le (by omega)
                have HRT : Hid (tableT sep (rows.take (k + 1)) = (T0 ++ tailT sep true (r.take j)) ++ [10]) := by
                  show _ = _
                  rw [tableT_step HX.out, hrj, tailT_true, HT0.out, List.append_assoc]
                clear hrj
                obtain ⟨T, hT⟩ : ∃ T, T0 ++ tailT sep true (r.take j) = T := ⟨_, rfl⟩
                rw [hT] at HL3 HRT ⊢
                clear hT
                have hsa := bs_size T
                have hl3 := HL3.out
                have HBS := Lib.hid (bs_append T [10])
                obtain ⟨x1, hx1⟩ : ∃ x1, bsOf T = x1 := ⟨_, rfl⟩
                rw [hx1] at hsa HBS ⊢
                have hn : ¬ 9223372036854775807 < x1.size + 1 := by omega
                clear hx1 hsa hl3
                go_wp2_with fail
                go_roundw
                case rel => exact ⟨k + 1, by go_num, by omega, by rw [HRT.out, ← HBS.out]; rfl, by show _ ≤ _; rw [HRT.out, List.length_append, List.length_singleton]; have := HL3.out; omega, HB3⟩
                case measure => simp [intOf]; omega
          · have hrt : rows.take k = rows := List.take_of_length_le (by omega)
            rw [hrt] at HL ⊢
            have hsa := bs_size (tableT sep rows)
            by_cases hlen : 16384 < (tableT sep rows).length
            · have HF : Hid (writeE sep rows = ([], 5)) := by show _ = _; rw [HE.out, if_pos hlen]
              obtain ⟨x1, hx1⟩ : ∃ x1, bsOf (tableT sep rows) = x1 := ⟨_, rfl⟩
              rw [hx1] at hsa ⊢
              have i6 : (16384 : Int) < (x1.size : Int) := by omega
              clear hlen hsa hrt hx1
              go_wp2_with fail
              go_ret2
              show RetSE _ _ _ _
              rw [HF.out]
              exact ⟨rfl, HB.out⟩
            · have HF : Hid (writeE sep rows = (tableT sep rows, 0)) := by show _ = _; rw [HE.out, if_neg hlen]
              obtain ⟨x1, hx1⟩ : ∃ x1, bsOf (tableT sep rows) = x1 := ⟨_, rfl⟩
              rw [hx1] at hsa ⊢
              have i6 : ¬ (16384 : Int) < (x1.size : Int) := by omega
              have HX1 := Lib.hid hx1
              clear hlen hsa hrt hx1
              go_wp2_with fail
              go_ret2
              show RetSE _ _ _ _
              rw [HF.out, ← HX1.out]
              exact ⟨rfl, HB.out⟩
end Go.Proofs.YtoalecalahkblaaGreatDoor
