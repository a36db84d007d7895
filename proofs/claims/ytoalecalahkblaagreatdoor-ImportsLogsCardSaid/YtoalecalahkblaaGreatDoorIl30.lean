/- Texts of this seat, merged. -/
import Derived.Deep.CutRange
import Derived.Test.YtoalecalahkblaaGreatDoorIl01
import Derived.Test.YtoalecalahkblaaGreatDoorIl02
import Derived.Test.YtoalecalahkblaaGreatDoorIl03
import Derived.Test.YtoalecalahkblaaGreatDoorIl04
import Derived.Test.YtoalecalahkblaaGreatDoorIl23
import Derived.Test.YtoalecalahkblaaGreatDoorIl24
set_option linter.all false
namespace Go.Proofs.YtoalecalahkblaaGreatDoor
open Go.RowKit
set_option maxHeartbeats 4000000 in
set_option maxRecDepth 100000 in
theorem eventValid_ref (e : Ev) (dv : Value) (w : World) (hf : FitEv e) (hd : SlFl (Lt w.heap.size) w dv e.data) :
    Calls Tryz.prog 67 #[evV e dv] w fun x w' => x = .returned (.bool (evB e)) ∧ Below w.heap.size w w' := by
  obtain ⟨A, c, rfl, h1, h2, hs⟩ := hd.open_
  have HS := Lib.hid hs
  have HE := Lib.hid (evB_eq e)
  have H1 := Lib.hid (fun W => isName_ref e.cas W hf.cas)
  have H2 := Lib.hid (fun W => isName_ref e.act W hf.act)
  have H3 := Lib.hid (fun W => isName_ref e.res W hf.res)
  have hb1 := bone w (.cells #[.string e.cas, .string e.act, .string e.res, .int .i64 e.life, .int .i64 e.time, .slice A e.data.length c] 69)
  have hN1 := Blk.new w 69 #[.string e.cas, .string e.act, .string e.res, .int .i64 e.life, .int .i64 e.time, .slice A e.data.length c]
  obtain ⟨q0, q1, q2, q3, q4, q5⟩ := hN1.c6
  unfold evV
  clear hd hs hf
  have HR1 : Hid (noS e.res = false → (e.res.toList == []) = false) := noS_no
  have HR2 : Hid (noS e.res = true → (e.res.toList == []) = true) := noS_yes
  generalize isNameB e.cas = n1 at *
  generalize isNameB e.act = n2 at *
  generalize isNameB e.res = n3 at *
  generalize noS e.res = nr at *
  go_enter Tryz.func67, Tryz.ntmps67
  go_upto_region 1 with fail
  go_cut [51] from 5 to 51 (fun b W => b = .bool (!((n1 && n2 && (nr || n3)) && (decide (1 ≤ e.life ∧ e.life ≤ 6) && decide (0 ≤ e.time ∧ e.time ≤ 1099511627776) && decide (e.data.length ≤ 8)))) ∧ w.alloc (.cells #[.string e.cas, .string e.act, .string e.res, .int .i64 e.life, .int .i64 e.time, .slice A e.data.length c] 69) = W)
  case first =>
    clear HE
    by_cases hq : (n1 && n2 && (nr || n3)) = true
    · have hq1 : n1 = true := by simp at hq; exact hq.1.1
      have hq2 : n2 = true := by simp at hq; exact hq.1.2
      subst hq1 hq2
      have hq3 : (nr || n3) = true := by simpa using hq
      clear hq
      cases nr <;> cases n3
      · cases hq3
      all_goals
        first | have hr := HR1.out rfl | have hr := HR2.out rfl
        by_cases g1 : e.life < 1
        · have hd : decide (1 ≤ e.life ∧ e.life ≤ 6) = false := by simp; omega
          have HD := Lib.hid hd
          clear hd
          go_wp2_with (first
          | (go_at_call 80; (with_reducible refine (H1.out _).mono ?_); rintro x w' ⟨rfl, rfl⟩)
          | (go_at_call 80; (with_reducible refine (H2.out _).mono ?_); rintro x w' ⟨rfl, rfl⟩)
          | (go_at_call 80; (with_reducible refine (H3.out _).mono ?_); rintro x w' ⟨rfl, rfl⟩))
          go_meet
          exact ⟨by rw [HD.out]; simp, rfl⟩
        by_cases g2 : 6 < e.life
        · have hd : decide (1 ≤ e.life ∧ e.life ≤ 6) = false := by simp; omega
          have HD := Lib.hid hd
          clear hd
          go_wp2_with (first
          | (go_at_call 80; (with_reducible refine (H1.out _).mono ?_); rintro x w' ⟨rfl, rfl⟩)
          | (go_at_call 80; (with_reducible refine (H2.out _).mono ?_); rintro x w' ⟨rfl, rfl⟩)
          | (go_at_call 80; (with_reducible refine (H3.out _).mono ?_); rintro x w' ⟨rfl, rfl⟩))
          go_meet
          exact ⟨by rw [HD.out]; simp, rfl⟩
        by_cases g3 : e.time < 0
        · have hd : decide (0 ≤ e.time ∧ e.time ≤ 1099511627776) = false := by simp; omega
          have HD := Lib.hid hd
          clear hd
          go_wp2_with (first
          | (go_at_call 80; (with_reducible refine (H1.out _).mono ?_); rintro x w' ⟨rfl, rfl⟩)
          | (go_at_call 80; (with_reducible refine (H2.out _).mono ?_); rintro x w' ⟨rfl, rfl⟩)
          | (go_at_call 80; (with_reducible refine (H3.out _).mono ?_); rintro x w' ⟨rfl, rfl⟩))
          go_meet
          exact ⟨by rw [HD.out]; simp, rfl⟩
        by_cases g4 : 1099511627776 < e.time
        · have hd : decide (0 ≤ e.time ∧ e.time ≤ 1099511627776) = false := by simp; omega
          have HD := Lib.hid hd
          clear hd
          go_wp2_with (first
          | (go_at_call 80; (with_reducible refine (H1.out _).mono ?_); rintro x w' ⟨rfl, rfl⟩)
          | (go_at_call 80; (with_reducible refine (H2.out _).mono ?_); rintro x w' ⟨rfl, rfl⟩)
          | (go_at_call 80; (with_reducible refine (H3.out _).mono ?_); rintro x w' ⟨rfl, rfl⟩))
          go_meet
          exact ⟨by rw [HD.out]; simp, rfl⟩
        by_cases g5 : 8 < e.data.length
        · have hd : decide (e.data.length ≤ 8) = false := by simp; omega
          have z5 : (8 : Int) < (e.data.length : Int) := by omega
          have HD := Lib.hid hd
          clear hd
          go_wp2_with (first
          | (go_at_call 80; (with_reducible refine (H1.out _).mono ?_); rintro x w' ⟨rfl, rfl⟩)
          | (go_at_call 80; (with_reducible refine (H2.out _).mono ?_); rintro x w' ⟨rfl, rfl⟩)
          | (go_at_call 80; (with_reducible refine (H3.out _).mono ?_); rintro x w' ⟨rfl, rfl⟩))
          go_meet
          exact ⟨by rw [HD.out]; simp, rfl⟩
        have z5 : ¬ (8 : Int) < (e.data.length : Int) := by omega
        have hd : decide (1 ≤ e.life ∧ e.life ≤ 6) = true := by simp; omega
        have hd2 : decide (0 ≤ e.time ∧ e.time ≤ 1099511627776) = true := by simp; omega
        have hd3 : decide (e.data.length ≤ 8) = true := by simp; omega
        have HD := Lib.hid hd
        have HD2 := Lib.hid hd2
        have HD3 := Lib.hid hd3
        clear hd hd2 hd3
        go_wp2_with (first
        | (go_at_call 80; (with_reducible refine (H1.out _).mono ?_); rintro x w' ⟨rfl, rfl⟩)
        | (go_at_call 80; (with_reducible refine (H2.out _).mono ?_); rintro x w' ⟨rfl, rfl⟩)
        | (go_at_call 80; (with_reducible refine (H3.out _).mono ?_); rintro x w' ⟨rfl, rfl⟩))
        go_meet
        exact ⟨by rw [HD.out, HD2.out, HD3.out]; first | rfl | (congr 1; simp; omega), rfl⟩
    · cases n1 <;> cases n2 <;> cases nr <;> cases n3
      all_goals first | (exact absurd rfl hq) | skip
      all_goals
        first | have hr := HR1.out rfl | have hr := HR2.out rfl
        clear hq
        go_wp2_with (first
        | (go_at_call 80; (with_reducible refine (H1.out _).mono ?_); rintro x w' ⟨rfl, rfl⟩)
        | (go_at_call 80; (with_reducible refine (H2.out _).mono ?_); rintro x w' ⟨rfl, rfl⟩)
        | (go_at_call 80; (with_reducible refine (H3.out _).mono ?_); rintro x w' ⟨rfl, rfl⟩))
        go_meet
        exact ⟨rfl, rfl⟩
  obtain ⟨rfl, rfl⟩ := hcut
  clear H1 H2 H3 HR1 HR2
  generalize hq0 : ((n1 && n2 && (nr || n3)) && (decide (1 ≤ e.life ∧ e.life ≤ 6) && decide (0 ≤ e.time ∧ e.time ≤ 1099511627776) && decide (e.data.length ≤ 8))) = q0 at *
  clear hq0
  cases q0
  · go_wp2_with fail
    go_ret
    exact ⟨ret_bool (by rw [HE.out]; simp), hb1⟩
  have HX : Hid (evB e = fldsB e.data) := by exact HE.out
  obtain ⟨w1, hw1⟩ : ∃ w1, w.alloc (.cells #[.string e.cas, .string e.act, .string e.res, .int .i64 e.life, .int .i64 e.time, .slice A e.data.length c] 69) = w1 := ⟨_, rfl⟩
  rw [hw1] at hb1 hN1 q5 ⊢
  have hlw : w.heap.size < w1.heap.size := by rw [← hw1]; simp
  have HS1 : Hid (SlFl (Lt w1.heap.size) w1 (.slice A e.data.length c) e.data) := SlFl.now HS.out hb1
  clear hw1 HS HE q0 q1 q2 q3 q4
  go_wp2_with fail
  go_loopw [3] (fun iv wr => ∃ k : Nat, k ≤ e.data.length ∧ iv = .int .i64 (k : Int) ∧ Below w1.heap.size w1 wr ∧ Hid (∀ j, j < k → fldAt e.data j = true)) (fun iv _ => e.data.length - (intOf iv).toNat)
  case atStart => exact ⟨0, Nat.zero_le _, rfl, Below.refl _ _, fun j hj => absurd hj (by omega)⟩
  case round =>
    obtain ⟨k, hk, rfl, hbr, HK⟩ := hrel
    by_cases hlt : k < e.data.length
    · obtain ⟨b, o, f, rfl, hD, hx, hff, f0, f1, f2, f3⟩ := SlFl.at_ HS1.out hlt
      have HXK := Lib.hid hx
      have r5 := (hbr.cell (p := ⟨w.heap.size, 5, none⟩) hlw).trans q5
      have r0 := (hbr.cell (p := ⟨b, o + k * 4, none⟩) hD).trans f0
      have r1 := (hbr.cell (p := ⟨b, o + k * 4 + 1, none⟩) hD).trans f1
      have r2 := (hbr.cell (p := ⟨b, o + k * 4 + 2, none⟩) hD).trans f2
      have r3 := (hbr.cell (p := ⟨b, o + k * 4 + 3, none⟩) hD).trans f3
      have HN := Lib.hid (fun W => isName_ref f.nm W hff.nm)
      have HV := Lib.hid (fun W => validV_ref f.v W hff.v)
      unfold valV at HV
      have hN2 := Blk.new wr 123 #[.string f.nm, .int .i64 f.v.kind, .int .i64 f.v.n, .string f.v.s]
      have hb2 := bone wr (.cells #[.string f.nm, .int .i64 f.v.kind, .int .i64 f.v.n, .string f.v.s] 123)
      clear hx f0 f1 f2 f3
      go_upto_region 7 with fail
      obtain ⟨w2, hw2⟩ : ∃ w2, wr.alloc (.cells #[.string f.nm, .int .i64 f.v.kind, .int .i64 f.v.n, .string f.v.s] 123) = w2 := ⟨_, rfl⟩
      rw [hw2] at hb2 hN2 ⊢
      have hlr : wr.heap.size < w2.heap.size := by rw [← hw2]; simp
      have hb12 : Below w1.heap.size w1 w2 := hbr.trans (hb2.mono hbr.size)
      clear hw2
      have t5 : ∀ W, (ext w2 W).cell? ⟨w.heap.size, 5, none⟩ = some (.slice (some ⟨b, o, none⟩) e.data.length c) := fun W => ((ext_below w2 W).cell (p := ⟨w.heap.size, 5, none⟩) (Nat.lt_of_lt_of_le hlw hb12.size)).trans ((hb12.cell (p := ⟨w.heap.size, 5, none⟩) hlw).trans q5)
      obtain ⟨p0, p1, p2, p3⟩ := hN2.c4
      have t0 : ∀ W, (ext w2 W).cell? ⟨wr.heap.size, 0, none⟩ = some (.string f.nm) := fun W => ((ext_below w2 W).cell (p := ⟨wr.heap.size, 0, none⟩) hlr).trans p0
      have t1 : ∀ W, (ext w2 W).cell? ⟨wr.heap.size, 1, none⟩ = some (.int .i64 f.v.kind) := fun W => ((ext_below w2 W).cell (p := ⟨wr.heap.size, 1, none⟩) hlr).trans p1
      have t2 : ∀ W, (ext w2 W).cell? ⟨wr.heap.size, 2, none⟩ = some (.int .i64 f.v.n) := fun W => ((ext_below w2 W).cell (p := ⟨wr.heap.size, 2, none⟩) hlr).trans p2
      have t3 : ∀ W, (ext w2 W).cell? ⟨wr.heap.size, 3, none⟩ = some (.string f.v.s) := fun W => ((ext_below w2 W).cell (p := ⟨wr.heap.size, 3, none⟩) hlr).trans p3
      generalize hfa : fldAt e.data k = fa
      go_cut [89] from 64 to 89 (fun b W => b = .bool (!fa) ∧ Below w2.heap.size w2 W)
      case first =>
        clear HX HK
        generalize hnn : isNameB f.nm = nn at *
        generalize hvv : validV f.v = vv at *
        cases nn
        · have HFA : Hid (fa = false) := by show _ = _; rw [← hfa]; exact fldAt_bad HXK.out (by rw [hnn]; rfl)
          clear hfa hnn hvv
          refine wp_region_growV (by kernel_rfl) (by kernel_rfl) ?_
          repeat (refine veil_step (fun K hK => ?_); go_simp; first | (refine hK _ ?_; clear hK K) | (apply Exists.intro; refine ⟨fun Wq => ?_, hK _ ?_⟩; ((go_at_call 80; exact grow_same' (HN.out (ext w2 Wq)))); clear hK K))
          refine veil_nil ?_
          intro _ hw'
          obtain ⟨W, rfl⟩ := hw'
          go_wp2_with fail
          go_meet
          exact ⟨by first | (rw [HFA.out]; done) | (rw [HFA.out]; rfl), ext_below w2 W⟩
        cases vv
        · have HFA : Hid (fa = false) := by show _ = _; rw [← hfa]; exact fldAt_bad HXK.out (by rw [hnn, hvv]; rfl)
          clear hfa hnn hvv
          refine wp_region_growV (by kernel_rfl) (by kernel_rfl) ?_
          repeat (refine veil_step (fun K hK => ?_); go_simp; first | (refine hK _ ?_; clear hK K) | (apply Exists.intro; refine ⟨fun Wq => ?_, hK _ ?_⟩; ((first | (go_at_call 80; exact grow_same' (HN.out (ext w2 Wq))) | (go_at_call 115; exact grow_of (HV.out (ext w2 Wq))))); clear hK K))
          refine veil_nil ?_
          intro _ hw'
          obtain ⟨W, rfl⟩ := hw'
          go_wp2_with fail
          go_meet
          exact ⟨by first | (rw [HFA.out]; done) | (rw [HFA.out]; rfl), ext_below w2 W⟩
        cases k with
        | zero =>
          have HFA : Hid (fa = true) := by show _ = _; rw [← hfa, fldAt_zero HXK.out, hnn, hvv]; rfl
          clear hfa hnn hvv
          refine wp_region_growV (by kernel_rfl) (by kernel_rfl) ?_
          repeat (refine veil_step (fun K hK => ?_); go_simp; first | (refine hK _ ?_; clear hK K) | (apply Exists.intro; refine ⟨fun Wq => ?_, hK _ ?_⟩; ((first | (go_at_call 80; exact grow_same' (HN.out (ext w2 Wq))) | (go_at_call 115; exact grow_of (HV.out (ext w2 Wq))))); clear hK K))
          refine veil_nil ?_
          intro _ hw'
          obtain ⟨W, rfl⟩ := hw'
          go_wp2_with fail
          go_meet
          exact ⟨by first | (rw [HFA.out]; done) | (rw [HFA.out]; rfl), ext_below w2 W⟩
        | succ m =>
          obtain ⟨b', o', f', hA', hD', hx', hff', f0', f1', f2', f3'⟩ := SlFl.at_ HS1.out (k := m) (by omega)
          injection hA' with hA'
          injection hA' with e1 e2 _
          subst e1 e2
          have t6 : ∀ W, (ext w2 W).cell? ⟨b, o + m * 4, none⟩ = some (.string f'.nm) := fun W => ((ext_below w2 W).cell (p := ⟨b, o + m * 4, none⟩) (Nat.lt_of_lt_of_le hD hb12.size)).trans ((hb12.cell (p := ⟨b, o + m * 4, none⟩) hD).trans f0')
          have hls := less_at f'.nm f.nm
          have HFA : Hid (fa = decide (f'.nm.data.toList < f.nm.data.toList)) := by show _ = _; rw [← hfa, fldAt_succ HXK.out hx', hnn, hvv]; rfl
          generalize decide (f'.nm.data.toList < f.nm.data.toList) = dd at *
          have d0 : decide ((0 : Int) < (m : Int) + 1) = true := by simp <;> omega
          have d1 : (0 : Int) ≤ (m : Int) := by omega
          have d2 : (m : Int) < (e.data.length : Int) := by omega
          have d3 : IntKind.i64.wrap (m : Int) = m := i64wrap (by omega)
          clear hfa hnn hvv f0' f1' f2' f3' hx'
          refine wp_region_growV (by kernel_rfl) (by kernel_rfl) ?_
          repeat (refine veil_step (fun K hK => ?_); go_simp; first | (refine hK _ ?_; clear hK K) | (apply Exists.intro; refine ⟨fun Wq => ?_, hK _ ?_⟩; ((first | (go_at_call 80; exact grow_same' (HN.out (ext w2 Wq))) | (go_at_call 115; exact grow_of (HV.out (ext w2 Wq))))); clear hK K))
          refine veil_nil ?_
          intro _ hw'
          obtain ⟨W, rfl⟩ := hw'
          go_wp2_with fail
          go_meet
          exact ⟨by first | (rw [HFA.out]; done) | (rw [HFA.out]; rfl), ext_below w2 W⟩
      obtain ⟨rfl, hb3⟩ := hcut
      have hb13 := hb12.trans (hb3.mono hb12.size)
      cases fa
      · have HFF : Hid (fldsB e.data = false) := all_no hlt hfa
        clear hfa
        go_wp2_with fail
        go_ret
        exact ⟨ret_bool (by rw [HX.out, HFF.out]), hb1.trans (hb13.mono hb1.size)⟩
      · have HFT := Lib.hid hfa
        clear hfa
        go_wp2_with fail
        go_roundw
        case rel => exact ⟨k + 1, by omega, by go_num, hb13, fun j hj => by
          by_cases ej : j = k
          · subst ej; exact HFT.out
          · exact HK.out j (by omega)⟩
        case measure => simp [intOf]; omega
    · have HFF : Hid (fldsB e.data = true) := all_yes fun j hj => HK.out j (by omega)
      have r5 := (hbr.cell (p := ⟨w.heap.size, 5, none⟩) hlw).trans q5
      go_wp2_with fail
      go_ret
      exact ⟨ret_bool (by rw [HX.out, HFF.out]), hb1.trans (hbr.mono hb1.size)⟩
end Go.Proofs.YtoalecalahkblaaGreatDoor
