/- Texts of this seat, merged. -/
import Derived.Deep.CutRange
import Derived.Test.YtoalecalahkblaaGreatDoorIl01
import Derived.Test.YtoalecalahkblaaGreatDoorIl02
import Derived.Test.YtoalecalahkblaaGreatDoorIl03
import Derived.Test.YtoalecalahkblaaGreatDoorIl04
import Derived.Test.YtoalecalahkblaaGreatDoorIl06
import Derived.Test.YtoalecalahkblaaGreatDoorIl07
import Derived.Test.YtoalecalahkblaaGreatDoorIl23
import Derived.Test.YtoalecalahkblaaGreatDoorIl24
import Derived.Test.YtoalecalahkblaaGreatDoorIl25
import Derived.Test.YtoalecalahkblaaGreatDoorIl30
set_option linter.all false
namespace Go.Proofs.YtoalecalahkblaaGreatDoor
open Go.RowKit
set_option maxHeartbeats 4000000 in
set_option maxRecDepth 100000 in
theorem logValid_ref (l : List Ev) (u : Value) (w : World) (h : IsLog (Lt w.heap.size) w u l) :
    Calls Tryz.prog 21 #[u] w fun x w' => x = .returned (.bool (logB l)) ∧ Below w.heap.size w w' := by
  obtain ⟨_, rfl, h⟩ := h
  obtain ⟨A, c, rfl, h1, h2, hs⟩ := h.open_
  have hb1 := bone w (.cells #[.slice A l.length c] 38)
  have HS1 := Lib.hid (SlEv.now hs hb1)
  have hq := (Blk.new w 38 #[.slice A l.length c]).c1
  have HE := Lib.hid (logB_eq l)
  have hlw : w.heap.size < (w.alloc (.cells #[.slice A l.length c] 38)).heap.size := by simp
  clear h hs
  by_cases hl : 2000 < l.length
  · have HX : Hid (logB l = false) := by show _ = _; rw [HE.out, decide_eq_false (by omega)]; rfl
    have hl' : (2000 : Int) < (l.length : Int) := by omega
    clear hlw
    go_enter Tryz.func21, Tryz.ntmps21
    go_wp2_with fail
    go_ret
    exact ⟨ret_bool HX.out.symm, hb1⟩
  have HX : Hid (logB l = (List.range l.length).all (evAt l)) := by show _ = _; rw [HE.out, decide_eq_true (by omega)]; rfl
  have hl' : ¬ (2000 : Int) < (l.length : Int) := by omega
  clear HE
  go_enter Tryz.func21, Tryz.ntmps21
  go_wp2_with fail
  obtain ⟨w1, hw1⟩ : ∃ w1, w.alloc (.cells #[.slice A l.length c] 38) = w1 := ⟨_, rfl⟩
  rw [hw1] at hb1 HS1 hq hlw ⊢
  clear hw1 hl'
  go_loopw [3] (fun iv wr => ∃ k : Nat, k ≤ l.length ∧ iv = .int .i64 (k : Int) ∧ Below w1.heap.size w1 wr ∧ Hid (∀ j, j < k → evAt l j = true)) (fun iv _ => l.length - (intOf iv).toNat)
  case atStart => exact ⟨0, Nat.zero_le _, rfl, Below.refl _ _, fun j hj => absurd hj (by omega)⟩
  case round =>
    obtain ⟨k, hk, rfl, hbr, HK⟩ := hrel
    by_cases hlt : k < l.length
    · obtain ⟨b, o, e, dv, rfl, hD, hx, hff, hdv, f0, f1, f2, f3, f4, f5⟩ := SlEv.at_ HS1.out hlt
      obtain ⟨Ad, cd, rfl, _, _, hdv⟩ := hdv.open_
      have HXK := Lib.hid hx
      have rq := (hbr.cell (p := ⟨w.heap.size, 0, none⟩) hlw).trans hq
      have r0 := (hbr.cell (p := ⟨b, o + k * 6, none⟩) hD).trans f0
      have r1 := (hbr.cell (p := ⟨b, o + k * 6 + 1, none⟩) hD).trans f1
      have r2 := (hbr.cell (p := ⟨b, o + k * 6 + 2, none⟩) hD).trans f2
      have r3 := (hbr.cell (p := ⟨b, o + k * 6 + 3, none⟩) hD).trans f3
      have r4 := (hbr.cell (p := ⟨b, o + k * 6 + 4, none⟩) hD).trans f4
      have r5 := (hbr.cell (p := ⟨b, o + k * 6 + 5, none⟩) hD).trans f5
      clear hx
      go_upto_region 6 with fail
      obtain ⟨w2, hw2⟩ : ∃ w2, wr = w2 := ⟨_, rfl⟩
      rw [hw2] at hbr r0 r1 r2 r3 r4 r5 rq ⊢
      have hb12 : Below w1.heap.size w1 w2 := hbr
      clear hw2
      have hD2 := Nat.lt_of_lt_of_le hD hb12.size
      have t0 : ∀ W, (ext w2 W).cell? ⟨b, o + k * 6, none⟩ = some (.string e.cas) := fun W => ((ext_below w2 W).cell (p := ⟨b, o + k * 6, none⟩) hD2).trans r0
      have t1 : ∀ W, (ext w2 W).cell? ⟨b, o + k * 6 + 1, none⟩ = some (.string e.act) := fun W => ((ext_below w2 W).cell (p := ⟨b, o + k * 6 + 1, none⟩) hD2).trans r1
      have t2 : ∀ W, (ext w2 W).cell? ⟨b, o + k * 6 + 2, none⟩ = some (.string e.res) := fun W => ((ext_below w2 W).cell (p := ⟨b, o + k * 6 + 2, none⟩) hD2).trans r2
      have t3 : ∀ W, (ext w2 W).cell? ⟨b, o + k * 6 + 3, none⟩ = some (.int .i64 e.life) := fun W => ((ext_below w2 W).cell (p := ⟨b, o + k * 6 + 3, none⟩) hD2).trans r3
      have t4 : ∀ W, (ext w2 W).cell? ⟨b, o + k * 6 + 4, none⟩ = some (.int .i64 e.time) := fun W => ((ext_below w2 W).cell (p := ⟨b, o + k * 6 + 4, none⟩) hD2).trans r4
      have t5 : ∀ W, (ext w2 W).cell? ⟨b, o + k * 6 + 5, none⟩ = some (.slice Ad e.data.length cd) := fun W => ((ext_below w2 W).cell (p := ⟨b, o + k * 6 + 5, none⟩) hD2).trans r5
      have tq : ∀ W, (ext w2 W).cell? ⟨w.heap.size, 0, none⟩ = some (.slice (some ⟨b, o, none⟩) l.length c) := fun W => ((ext_below w2 W).cell (p := ⟨w.heap.size, 0, none⟩) (Nat.lt_of_lt_of_le hlw hb12.size)).trans ((hb12.cell (p := ⟨w.heap.size, 0, none⟩) hlw).trans hq)
      have HV : Hid (∀ W, Calls Tryz.prog 67 #[evV e (.slice Ad e.data.length cd)] (ext w2 W) fun x w' => x = .returned (.bool (evB e)) ∧ Below (ext w2 W).heap.size (ext w2 W) w') :=
        fun W => eventValid_ref e _ (ext w2 W) hff ((hdv.below hb12 hb12.size).below (ext_below w2 W) (ext_below w2 W).size)
      unfold evV at HV
      have zk1 : (0 : Int) ≤ (k : Int) := by omega
      have zk2 : (k : Int) < (l.length : Int) := by omega
      generalize hfa : evAt l k = fa
      clear rq r0 r1 r2 r3 r4 r5
      go_cut [41] from 15 to 41 (fun b W => b = .bool (!fa) ∧ Below w2.heap.size w2 W)
      case first =>
        clear HX HK
        generalize hnn : evB e = nn at *
        cases nn
        · have HFA : Hid (fa = false) := by show _ = _; rw [← hfa]; exact evAt_bad HXK.out hnn
          clear hfa hnn
          refine wp_region_growV (by kernel_rfl) (by kernel_rfl) ?_
          repeat (refine veil_step (fun K hK => ?_); go_simp; first | (refine hK _ ?_; clear hK K) | (apply Exists.intro; refine ⟨fun Wq => ?_, hK _ ?_⟩; ((go_at_call 67; exact grow_of (HV.out Wq))); clear hK K))
          refine veil_nil ?_
          intro _ hw'
          obtain ⟨W, rfl⟩ := hw'
          go_wp2_with fail
          go_meet
          exact ⟨by first | (rw [HFA.out]; done) | (rw [HFA.out]; rfl), ext_below w2 W⟩
        by_cases hk0 : k = 0
        · have HFA : Hid (fa = true) := by
            show _ = _
            have h0 := HXK.out
            rw [hk0] at h0
            rw [← hfa, hk0, evAt_zero h0, hnn]
          have d0 : decide (0 < k) = false := by simp; omega
          clear hfa hnn hk0
          refine wp_region_growV (by kernel_rfl) (by kernel_rfl) ?_
          repeat (refine veil_step (fun K hK => ?_); go_simp; first | (refine hK _ ?_; clear hK K) | (apply Exists.intro; refine ⟨fun Wq => ?_, hK _ ?_⟩; ((go_at_call 67; exact grow_of (HV.out Wq))); clear hK K))
          refine veil_nil ?_
          intro _ hw'
          obtain ⟨W, rfl⟩ := hw'
          go_wp2_with fail
          go_meet
          exact ⟨by first | (rw [HFA.out]; done) | (rw [HFA.out]; rfl), ext_below w2 W⟩
        · obtain ⟨m, hm⟩ : ∃ m, k = m + 1 := ⟨k - 1, by omega⟩
          obtain ⟨b', o', e', dv', hA', hD', hx', hff', hdv', f0', f1', f2', f3', f4', f5'⟩ := SlEv.at_ HS1.out (k := m) (by omega)
          injection hA' with hA'
          injection hA' with e1 e2 _
          subst e1 e2
          have t6 : ∀ W, (ext w2 W).cell? ⟨b, o + m * 6 + 4, none⟩ = some (.int .i64 e'.time) := fun W => ((ext_below w2 W).cell (p := ⟨b, o + m * 6 + 4, none⟩) (Nat.lt_of_lt_of_le hD hb12.size)).trans ((hb12.cell (p := ⟨b, o + m * 6 + 4, none⟩) hD).trans f4')
          have hls := lt_not_le e.time e'.time
          have HFA : Hid (fa = decide (e'.time ≤ e.time)) := by show _ = _; rw [← hfa, hm, evAt_succ (hm ▸ HXK.out) hx', hnn]; rfl
          generalize decide (e'.time ≤ e.time) = dd at *
          have d0 : decide (0 < k) = true := by simp; omega
          have d1 : (0 : Int) ≤ (m : Int) := by omega
          have d2 : (m : Int) < (l.length : Int) := by omega
          have d3 : IntKind.i64.wrap ((k : Int) - 1) = m := by rw [i64wrap (by omega)]; omega
          clear hfa hnn hm hk0 f0' f1' f2' f3' f4' f5' hx'
          refine wp_region_growV (by kernel_rfl) (by kernel_rfl) ?_
          repeat (refine veil_step (fun K hK => ?_); go_simp; first | (refine hK _ ?_; clear hK K) | (apply Exists.intro; refine ⟨fun Wq => ?_, hK _ ?_⟩; ((go_at_call 67; exact grow_of (HV.out Wq))); clear hK K))
          refine veil_nil ?_
          intro _ hw'
          obtain ⟨W, rfl⟩ := hw'
          go_wp2_with fail
          go_meet
          exact ⟨by first | (rw [HFA.out]; done) | (rw [HFA.out]; rfl), ext_below w2 W⟩
      obtain ⟨rfl, hb3⟩ := hcut
      have hb13 := hb12.trans (hb3.mono hb12.size)
      cases fa
      · have HFF : Hid ((List.range l.length).all (evAt l) = false) := all_no hlt hfa
        clear hfa
        go_wp2_with fail
        go_ret
        exact ⟨ret_bool (by rw [HX.out, HFF.out]), hb1.trans (hb13.mono hb1.size)⟩
      · have HFT := Lib.hid hfa
        clear hfa
        go_wp2_with fail
        go_roundw
        case rel => exact ⟨k + 1, by omega, by go_num, hb13, fun j hj => by
          by_cases ej : j = k
          · subst ej; exact HFT.out
          · exact HK.out j (by omega)⟩
        case measure => simp [intOf]; omega
    · have HFF : Hid ((List.range l.length).all (evAt l) = true) := all_yes fun j hj => HK.out j (by omega)
      have rq := (hbr.cell (p := ⟨w.heap.size, 0, none⟩) hlw).trans hq
      go_wp2_with fail
      go_ret
      exact ⟨ret_bool (by rw [HX.out, HFF.out]), hb1.trans (hbr.mono hb1.size)⟩
end Go.Proofs.YtoalecalahkblaaGreatDoor

set_option linter.all false
namespace Go.Proofs.YtoalecalahkblaaGreatDoor
open Go.RowKit
end Go.Proofs.YtoalecalahkblaaGreatDoor
