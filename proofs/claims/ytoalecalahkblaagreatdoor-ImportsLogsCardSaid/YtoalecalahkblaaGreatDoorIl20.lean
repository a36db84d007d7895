/- Texts of this seat, merged. -/
import Derived.Lib.OwnBridge
import Derived.Test.YtoalecalahkblaaGreatDoorIl01
import Derived.Test.YtoalecalahkblaaGreatDoorIl02
import Derived.Test.YtoalecalahkblaaGreatDoorIl03
import Derived.Test.YtoalecalahkblaaGreatDoorIl04
import Derived.Test.YtoalecalahkblaaGreatDoorIl05
import Derived.Test.YtoalecalahkblaaGreatDoorIl06
import Derived.Test.YtoalecalahkblaaGreatDoorIl07
import Derived.Test.YtoalecalahkblaaGreatDoorIl08
import Derived.Test.YtoalecalahkblaaGreatDoorIl18
import Derived.Test.YtoalecalahkblaaGreatDoorIl19
set_option linter.all false
set_option linter.all false
namespace Go.Proofs.YtoalecalahkblaaGreatDoor
open Go.RowKit
theorem Blk.put3v {w : World} {g t : Nat} {a b c : Value} (h : Blk w g t #[a, b, c]) (x y z : Value) : Blk (((w.setCell ⟨g, 0, none⟩ x).setCell ⟨g, 1, none⟩ y).setCell ⟨g, 2, none⟩ z) g t #[x, y, z] := ((h.set_ 0 x).set_ 1 y).set_ 2 z
theorem below3v {B g : Nat} {w0 w : World} (h : Below B w0 w) (hg : B ≤ g) (x y z : Value) : Below B w0 (((w.setCell ⟨g, 0, none⟩ x).setCell ⟨g, 1, none⟩ y).setCell ⟨g, 2, none⟩ z) := ((h.setCell (p := ⟨g, 0, none⟩) hg x).setCell (p := ⟨g, 1, none⟩) hg y).setCell (p := ⟨g, 2, none⟩) hg z
def RetDR (p : Val × Int) (w : World) (e : Ending) (w' : World) : Prop := ∃ v : Val, e = .returned (.tuple #[valV v, .bool (decide (p.2 = 0))]) ∧ (p.2 = 0 → v = p.1) ∧ Below w.heap.size w w'
set_option maxHeartbeats 8000000 in
set_option maxRecDepth 100000 in
theorem datum_ref (s : ByteArray) (k : Int) (w : World) (hs : s.size ≤ 1000000) (hk : Fit k) :
    Calls Tryz.prog 111 #[.string s, .int .i64 k] w (RetDR (datE s k) w) := by
  have HPR := Lib.hid (fun W => parse_ref s W hs)
  have hft : FitV (txtV s) := ⟨by unfold Fit txtV; simp, by unfold Fit txtV; simp, by unfold maxLen; show s.size ≤ _; omega⟩
  have HVT := Lib.hid (fun W => validV_ref (txtV s) W hft)
  have hb1 := bone w (.cells #[.int .i64 0, .int .i64 0, .string ⟨#[]⟩] 121)
  have hB1 := Blk.new w 121 #[.int .i64 0, .int .i64 0, .string ⟨#[]⟩]
  have hs1 : (w.alloc (.cells #[.int .i64 0, .int .i64 0, .string ⟨#[]⟩] 121)).heap.size = w.heap.size + 1 := by simp
  obtain ⟨w1, hw1⟩ : ∃ w1, w.alloc (.cells #[.int .i64 0, .int .i64 0, .string ⟨#[]⟩] 121) = w1 := ⟨_, rfl⟩
  rw [hw1] at hb1 hB1 hs1
  have hb2 := bone w1 (.cells #[.int .i64 3, .int .i64 0, .string s] 121)
  have hB2 := Blk.new w1 121 #[.int .i64 3, .int .i64 0, .string s]
  rw [hs1] at hB2
  obtain ⟨w2, hw2⟩ : ∃ w2, w1.alloc (.cells #[.int .i64 3, .int .i64 0, .string s] 121) = w2 := ⟨_, rfl⟩
  rw [hw2] at hb2 hB2
  have HW : Hid ((w.alloc (.cells #[.int .i64 0, .int .i64 0, .string ⟨#[]⟩] 121)).alloc (.cells #[.int .i64 3, .int .i64 0, .string s] 121) = w2) := by show _ = _; rw [hw1, hw2]
  have HB2 := Lib.hid (bthen hb1 hb2)
  have HR2 := Lib.hid (hB1.now hb2)
  have HV2 := Lib.hid hB2
  clear hb1 hB1 hs1 hw1 hb2 hB2 hw2 hft
  have HEND : Hid (∀ (v : Val) (W : World), Below w.heap.size w W → FitV v → Blk W w.heap.size 121 #[.int .i64 0, .int .i64 0, .string ⟨#[]⟩] → Blk W (w.heap.size + 1) 121 #[.int .i64 v.kind, .int .i64 v.n, .string v.s] → True) := Lib.hid (fun _ _ _ _ _ _ => trivial)
  by_cases h3 : k = 3
  · subst h3
    have HDE : Hid (datE s 3 = if validV (txtV s) then (txtV s, 0) else (noV, 11)) := by show _ = _; unfold datE; rw [if_pos rfl]
    obtain ⟨q, hq⟩ : ∃ q, validV (txtV s) = q := ⟨_, rfl⟩
    rw [hq] at HVT HDE
    clear hq
    go_enter Tryz.func111, Tryz.ntmps111
    go_upto_region 2 with fail
    rw [HW.out]
    clear HW
    go_upto_region 7 with fail
    have HVT : Hid (∀ W, Calls Tryz.prog 115 #[.agg #[.int .i64 3, .int .i64 0, .string s]] W fun e w' => e = .returned (.bool q) ∧ Below W.heap.size W w') := HVT
    obtain ⟨v0, v1, v2⟩ := HV2.out.c3
    obtain ⟨r0, r1, r2⟩ := HR2.out.c3
    have f0 := HR2.out.frozen 0
    have f1 := HR2.out.frozen 1
    have f2 := HR2.out.frozen 2
    go_region_with (go_at_call 115; (with_reducible refine (HVT.out _).mono ?_); rintro e w7 ⟨rfl, hb7⟩; have hv7 := HV2.out.drew.now hb7; have hr7 := HR2.out.drew.now hb7; obtain ⟨x0, x1, x2⟩ := hv7.c3; obtain ⟨y0, y1, y2⟩ := hr7.c3; have g0 := hr7.frozen 0; have g1 := hr7.frozen 1; have g2 := hr7.frozen 2)
    all_goals
      have hz := hr7.put3v (.int .i64 3) (.int .i64 0) (.string s)
      have hbz := below3v (HB2.out.drew.trans (hb7.mono HB2.out.size)) (Nat.le_refl _) (.int .i64 3) (.int .i64 0) (.string s)
      generalize (((w7.setCell ⟨w.heap.size, 0, none⟩ (.int .i64 3)).setCell ⟨w.heap.size, 1, none⟩ (.int .i64 0)).setCell ⟨w.heap.size, 2, none⟩ (.string s)) = wz at hz hbz ⊢
      obtain ⟨z0, z1, z2⟩ := hz.c3
      go_wp2_with fail
      refine bodyPost_ret (v := .tuple #[.agg #[.int .i64 3, .int .i64 0, .string s], .bool q]) (by simp [results, Tryz.results111, go_sem, z0, z1, z2]) rfl ?_
      refine ⟨txtV s, ?_, ?_, hbz⟩
      · rw [HDE.out]; cases q <;> rfl
      · rw [HDE.out]; cases q
        · intro h; exact absurd h (show (11 : Int) ≠ 0 by decide)
        · intro _; rfl
  · have HDE : Hid (datE s k = if (parseE s).2 ≠ 0 ∨ (parseE s).1.kind ≠ k then (noV, 11) else ((parseE s).1, 0)) := by show _ = _; unfold datE; rw [if_neg h3]
    have e1 : (k != 3) = true := by simpa using h3
    have HPF := Lib.hid (fun h : (parseE s).2 = 0 => parse_valid s h)
    obtain ⟨⟨pk, pn, ps⟩, hpp⟩ : ∃ pv, (parseE s).1 = pv := ⟨_, rfl⟩
    obtain ⟨pc, hpc⟩ : ∃ pc, (parseE s).2 = pc := ⟨_, rfl⟩
    have HPR : Hid (∀ W, Calls Tryz.prog 151 #[.string s] W fun e w' => e = .returned (.tuple #[.agg #[.int .i64 pk, .int .i64 pn, .string ps], .bool (decide (pc = 0))]) ∧ Below W.heap.size W w') := Lib.hid fun W => by
      have h := HPR.out W
      unfold ParseRPost at h
      rw [hpp, hpc] at h
      exact h
    rw [hpp, hpc] at HDE HPF
    clear hpp hpc h3
    obtain ⟨qp, hqp⟩ : ∃ qp, decide (pc = 0) = qp := ⟨_, rfl⟩
    rw [hqp] at HPR
    have HQP := Lib.hid hqp
    clear hqp
    go_enter Tryz.func111, Tryz.ntmps111
    go_upto_region 2 with fail
    rw [HW.out]
    clear HW
    go_wp2_with fail
    (with_reducible refine (HPR.out _).mono ?_)
    rintro _ w3 ⟨rfl, hb3⟩
    have HB3 := Lib.hid (bthen HB2.out hb3)
    have HR3 := Lib.hid (HR2.out.now hb3)
    have HV3 := Lib.hid (HV2.out.now hb3)
    have HB34 := Lib.hid (bone w3 (.cells #[.int .i64 pk, .int .i64 pn, .string ps] 121))
    have HW4 := Lib.hid (Blk.new w3 121 #[.int .i64 pk, .int .i64 pn, .string ps])
    have HSZ3 : Hid (w.heap.size + 1 < w3.heap.size) := Lib.hid HV3.out.lt
    clear hb3 HB2 HR2 HV2
    obtain ⟨w4, hw4⟩ : ∃ w4, w3.alloc (.cells #[.int .i64 pk, .int .i64 pn, .string ps] 121) = w4 := ⟨_, rfl⟩
    have HWE := Lib.hid hw4
    rw [hw4] at HB34 HW4
    have HR4 := Lib.hid (HR3.out.now HB34.out)
    have HV4 := Lib.hid (HV3.out.now HB34.out)
    have HB4 := Lib.hid (bthen HB3.out HB34.out)
    clear hw4
    cases qp with
    | false =>
      have HF : Hid (datE s k = (noV, 11)) := by show _ = _; rw [HDE.out, if_pos (.inl (of_decide_eq_false HQP.out))]
      go_upto_region 5 with fail
      rw [HWE.out]
      obtain ⟨r0, r1, r2⟩ := HR4.out.c3
      have f0 := HR4.out.frozen 0
      have f1 := HR4.out.frozen 1
      have f2 := HR4.out.frozen 2
      go_wp2_with fail
      have hz := HR4.out.put3v (.int .i64 0) (.int .i64 0) (.string ⟨#[]⟩)
      have hbz := below3v HB4.out (Nat.le_refl _) (.int .i64 0) (.int .i64 0) (.string ⟨#[]⟩)
      generalize (((w4.setCell ⟨w.heap.size, 0, none⟩ (.int .i64 0)).setCell ⟨w.heap.size, 1, none⟩ (.int .i64 0)).setCell ⟨w.heap.size, 2, none⟩ (.string ⟨#[]⟩)) = wz at hz hbz ⊢
      obtain ⟨z0, z1, z2⟩ := hz.c3
      refine bodyPost_ret (v := .tuple #[.agg #[.int .i64 0, .int .i64 0, .string ⟨#[]⟩], .bool false]) (by simp [results, Tryz.results111, go_sem, z0, z1, z2]) rfl ?_
      rw [HF.out]
      exact ⟨noV, rfl, fun h => absurd h (by decide), hbz⟩
    | true =>
      have hpc : pc = 0 := of_decide_eq_true HQP.out
      by_cases hpk : pk = k
      · have e2 : (pk != k) = false := by rw [hpk]; simp
        have HF : Hid (datE s k = (⟨pk, pn, ps⟩, 0)) := by show _ = _; rw [HDE.out, if_neg (by intro h; rcases h with h | h; exact h hpc; exact h hpk)]
        have HVD := Lib.hid (HPF.out hpc)
        have hft := fit_valid HVD.out
        have HVT : Hid (∀ W, Calls Tryz.prog 115 #[.agg #[.int .i64 pk, .int .i64 pn, .string ps]] W fun e w' => e = .returned (.bool true) ∧ Below W.heap.size W w') := Lib.hid fun W => by
          have h := validV_ref ⟨pk, pn, ps⟩ W hft
          rwa [HVD.out] at h
        clear hpc hpk hft
        go_upto_region 6 with fail
        rw [HWE.out]
        obtain ⟨v0, v1, v2⟩ := HV4.out.c3
        have f0 := HV4.out.frozen 0
        have f1 := HV4.out.frozen 1
        have f2 := HV4.out.frozen 2
        obtain ⟨t0, t1, t2⟩ := HW4.out.c3
        go_upto_region 7 with fail
        have HV5 := Lib.hid (HV4.out.put3v (.int .i64 pk) (.int .i64 pn) (.string ps))
        have HB5 := Lib.hid (below3v HB4.out (show w.heap.size ≤ w.heap.size + 1 by omega) (.int .i64 pk) (.int .i64 pn) (.string ps))
        have HR5 := Lib.hid (((HR4.out.far (p := ⟨w.heap.size + 1, 0, none⟩) (show w.heap.size ≠ w.heap.size + 1 by omega) (.int .i64 pk)).far (p := ⟨w.heap.size + 1, 1, none⟩) (show w.heap.size ≠ w.heap.size + 1 by omega) (.int .i64 pn)).far (p := ⟨w.heap.size + 1, 2, none⟩) (show w.heap.size ≠ w.heap.size + 1 by omega) (.string ps))
        obtain ⟨w5, hw5⟩ : ∃ w5, (((w4.setCell ⟨w.heap.size + 1, 0, none⟩ (.int .i64 pk)).setCell ⟨w.heap.size + 1, 1, none⟩ (.int .i64 pn)).setCell ⟨w.heap.size + 1, 2, none⟩ (.string ps)) = w5 := ⟨_, rfl⟩
        rw [hw5] at HV5 HB5 HR5 ⊢
        clear hw5 v0 v1 v2 f0 f1 f2 t0 t1 t2 HV4 HR4 HB4
        obtain ⟨v0, v1, v2⟩ := HV5.out.c3
        obtain ⟨r0, r1, r2⟩ := HR5.out.c3
        have f0 := HR5.out.frozen 0
        have f1 := HR5.out.frozen 1
        have f2 := HR5.out.frozen 2
        go_region_with (go_at_call 115; (with_reducible refine (HVT.out _).mono ?_); rintro e w7 ⟨rfl, hb7⟩; have hv7 := HV5.out.drew.now hb7; have hr7 := HR5.out.drew.now hb7; obtain ⟨x0, x1, x2⟩ := hv7.c3; obtain ⟨y0, y1, y2⟩ := hr7.c3; have g0 := hr7.frozen 0; have g1 := hr7.frozen 1; have g2 := hr7.frozen 2)
        all_goals
          have hz := hr7.put3v (.int .i64 pk) (.int .i64 pn) (.string ps)
          have hbz := below3v (HB5.out.drew.trans (hb7.mono HB5.out.size)) (Nat.le_refl _) (.int .i64 pk) (.int .i64 pn) (.string ps)
          generalize (((w7.setCell ⟨w.heap.size, 0, none⟩ (.int .i64 pk)).setCell ⟨w.heap.size, 1, none⟩ (.int .i64 pn)).setCell ⟨w.heap.size, 2, none⟩ (.string ps)) = wz at hz hbz ⊢
          obtain ⟨z0, z1, z2⟩ := hz.c3
          go_wp2_with fail
          refine bodyPost_ret (v := .tuple #[.agg #[.int .i64 pk, .int .i64 pn, .string ps], .bool true]) (by simp [results, Tryz.results111, go_sem, z0, z1, z2]) rfl ?_
          rw [HF.out]
          exact ⟨⟨pk, pn, ps⟩, rfl, fun _ => rfl, hbz⟩
      · have e2 : (pk != k) = true := by simpa using hpk
        have HF : Hid (datE s k = (noV, 11)) := by show _ = _; rw [HDE.out, if_pos (.inr hpk)]
        clear hpc hpk
        go_upto_region 5 with fail
        rw [HWE.out]
        obtain ⟨t0, t1, t2⟩ := HW4.out.c3
        obtain ⟨r0, r1, r2⟩ := HR4.out.c3
        have f0 := HR4.out.frozen 0
        have f1 := HR4.out.frozen 1
        have f2 := HR4.out.frozen 2
        go_wp2_with fail
        have hz := HR4.out.put3v (.int .i64 0) (.int .i64 0) (.string ⟨#[]⟩)
        have hbz := below3v HB4.out (Nat.le_refl _) (.int .i64 0) (.int .i64 0) (.string ⟨#[]⟩)
        generalize (((w4.setCell ⟨w.heap.size, 0, none⟩ (.int .i64 0)).setCell ⟨w.heap.size, 1, none⟩ (.int .i64 0)).setCell ⟨w.heap.size, 2, none⟩ (.string ⟨#[]⟩)) = wz at hz hbz ⊢
        obtain ⟨z0, z1, z2⟩ := hz.c3
        refine bodyPost_ret (v := .tuple #[.agg #[.int .i64 0, .int .i64 0, .string ⟨#[]⟩], .bool false]) (by simp [results, Tryz.results111, go_sem, z0, z1, z2]) rfl ?_
        rw [HF.out]
        exact ⟨noV, rfl, fun h => absurd h (by decide), hbz⟩
end Go.Proofs.YtoalecalahkblaaGreatDoor

set_option linter.all false
namespace Go.Proofs.YtoalecalahkblaaGreatDoor
open Go.RowKit
end Go.Proofs.YtoalecalahkblaaGreatDoor

set_option linter.all false
namespace Go.Proofs.YtoalecalahkblaaGreatDoor
open Go.RowKit
def hvF (f : Fld) : Bool := decide (100 < f.nm.size) || decide (300 < f.v.s.size)
def hvE (e : Ev) : Bool := (((decide (100 < e.cas.size) || decide (100 < e.act.size)) || decide (100 < e.res.size)) || decide (20 < e.data.length)) || e.data.any hvF
def heavyB (l : List Ev) : Bool := ((decide (40 < l.length) && decide (l.length ≤ 2000)) || decide (3000 < l.length)) || l.any hvE
end Go.Proofs.YtoalecalahkblaaGreatDoor

set_option linter.all false
namespace Go.Proofs.YtoalecalahkblaaGreatDoor
open Go.RowKit
end Go.Proofs.YtoalecalahkblaaGreatDoor
