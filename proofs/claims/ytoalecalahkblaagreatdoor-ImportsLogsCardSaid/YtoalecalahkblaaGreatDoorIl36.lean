/- Texts of this seat, merged. -/
import Derived.BigQuiet
import Derived.Test.YtoalecalahkblaaGreatDoorIl01
import Derived.Test.YtoalecalahkblaaGreatDoorIl02
import Derived.Test.YtoalecalahkblaaGreatDoorIl03
import Derived.Test.YtoalecalahkblaaGreatDoorIl04
import Derived.Test.YtoalecalahkblaaGreatDoorIl05
import Derived.Test.YtoalecalahkblaaGreatDoorIl06
import Derived.Test.YtoalecalahkblaaGreatDoorIl07
import Derived.Test.YtoalecalahkblaaGreatDoorIl08
import Derived.Test.YtoalecalahkblaaGreatDoorIl09
import Derived.Test.YtoalecalahkblaaGreatDoorIl10
import Derived.Test.YtoalecalahkblaaGreatDoorIl11
import Derived.Test.YtoalecalahkblaaGreatDoorIl12
import Derived.Test.YtoalecalahkblaaGreatDoorIl13
import Derived.Test.YtoalecalahkblaaGreatDoorIl14
import Derived.Test.YtoalecalahkblaaGreatDoorIl15
import Derived.Test.YtoalecalahkblaaGreatDoorIl16
import Derived.Test.YtoalecalahkblaaGreatDoorIl17
import Derived.Test.YtoalecalahkblaaGreatDoorIl18
import Derived.Test.YtoalecalahkblaaGreatDoorIl19
import Derived.Test.YtoalecalahkblaaGreatDoorIl20
import Derived.Test.YtoalecalahkblaaGreatDoorIl21
import Derived.Test.YtoalecalahkblaaGreatDoorIl22
import Derived.Test.YtoalecalahkblaaGreatDoorIl23
import Derived.Test.YtoalecalahkblaaGreatDoorIl24
import Derived.Test.YtoalecalahkblaaGreatDoorIl25
import Derived.Test.YtoalecalahkblaaGreatDoorIl26
import Derived.Test.YtoalecalahkblaaGreatDoorIl27
import Derived.Test.YtoalecalahkblaaGreatDoorIl28
import Derived.Test.YtoalecalahkblaaGreatDoorIl29
import Derived.Test.YtoalecalahkblaaGreatDoorIl30
import Derived.Test.YtoalecalahkblaaGreatDoorIl31
import Derived.Test.YtoalecalahkblaaGreatDoorIl32
import Derived.Test.YtoalecalahkblaaGreatDoorIl33
import Derived.Test.YtoalecalahkblaaGreatDoorIl34
import Derived.Test.YtoalecalahkblaaGreatDoorIl35
set_option linter.all false
set_option linter.all false
namespace Go.Proofs.YtoalecalahkblaaGreatDoor
open Go.RowKit
theorem enters_headerR : ∀ args w, (callFunc 59 args).run Tryz.prog w = .ok (.enter 59 args) w := enters_of Tryz.func59 (by kernel_rfl) rfl
theorem enters_rowR : ∀ args w, (callFunc 60 args).run Tryz.prog w = .ok (.enter 60 args) w := enters_of Tryz.func60 (by kernel_rfl) rfl
theorem gb_set (w : World) (g i : Nat) (u : Value) : w.grownBy (w.setCell ⟨g, i, none⟩ u) (some g) := ⟨rfl, rfl, rfl, by rw [World.size_setCell]; exact Nat.le_refl _, fun j _ hne => Below.heap_setCell w ⟨g, i, none⟩ u j (fun e => hne (by rw [e]))⟩
def hdG (m : Mp) (rb ro rl rcap hn hcp M dn cd kn ck T6 : Nat) (Ah Ad Ak : Option Addr) (z x y c : Int) : Nat → Value → World → Prop
  | 0, u, _ => u = .slice (some ⟨rb, ro, none⟩) rl rcap
  | 1, u, _ => u = .pointer (some ⟨rb, ro, none⟩)
  | 2, u, _ => u = .slice Ah hn hcp
  | 3, u, _ => u = .agg #[.int .i64 m.cas, .int .i64 m.act, .int .i64 m.res, .int .i64 m.life, .int .i64 m.time, .slice Ad dn cd, .slice Ak kn ck, .int .u8 z]
  | 4, u, _ => u = .tuple #[.agg #[.int .i64 x, .int .i64 y], .int .i64 c]
  | 5, u, _ => u = .tuple #[.agg #[.int .i64 x, .int .i64 y], .int .i64 c]
  | 6, u, _ => u = .agg #[.int .i64 x, .int .i64 y]
  | 7, u, _ => u = .int .i64 c
  | 8, u, W => Blk W T6 40 #[.int .i64 x, .int .i64 y]
  | 9, u, _ => u = .int .i64 c
  | _, _, _ => True
def rwnF (m : Mp) (jx rb ro rl rcap hn hcp rn cr1 M dn cd kn ck G : Nat) (Ah Ad Ak Ar1 : Option Addr) (z : Int) (p : Ev × Int × Int) : Nat → (Nat → Value) → World → Prop
  | 0, τ, _ => τ 0 = .slice (some ⟨rb, ro, none⟩) rl rcap
  | 1, τ, _ => τ 1 = .int .i64 (jx : Int)
  | 2, τ, _ => τ 2 = .pointer (some ⟨rb, ro + jx, none⟩)
  | 3, τ, _ => τ 3 = .slice Ar1 rn cr1
  | 4, τ, _ => τ 4 = .slice (some ⟨rb, ro, none⟩) rl rcap
  | 5, τ, _ => τ 5 = .pointer (some ⟨rb, ro, none⟩)
  | 6, τ, _ => τ 6 = .slice Ah hn hcp
  | 7, τ, _ => τ 7 = .agg #[.int .i64 m.cas, .int .i64 m.act, .int .i64 m.res, .int .i64 m.life, .int .i64 m.time, .slice Ad dn cd, .slice Ak kn ck, .int .u8 z]
  | 8, τ, W => ∃ ev, τ 8 = .tuple #[ev, .int .i64 p.2.1, .int .i64 p.2.2] ∧ EvV G p ev W
  | 9, τ, W => ∃ ev, τ 9 = .tuple #[ev, .int .i64 p.2.1, .int .i64 p.2.2] ∧ EvV G p ev W
  | 10, τ, W => EvV G p (τ 10) W
  | 11, τ, _ => τ 11 = .int .i64 p.2.1
  | 12, τ, _ => τ 12 = .int .i64 p.2.2
  | 13, τ, W => ∃ p : Nat, τ 13 = .pointer (some ⟨p, 0, none⟩) ∧ ∃ a b c d u v, Blk W p 69 #[a, b, c, d, u, v]
  | 14, τ, W => ∃ q : Nat, τ 13 = .pointer (some ⟨q, 0, none⟩) ∧ ∃ cs, Blk W q 69 cs ∧ EvV G p (.agg cs) W
  | 15, τ, _ => τ 15 = .int .i64 p.2.1
  | 16, τ, _ => τ 16 = .int .i64 p.2.2
  | _, _, _ => True
theorem rwnF_keep {m : Mp} {jx rb ro rl rcap hn hcp rn cr1 M dn cd kn ck G : Nat} {Ah Ad Ak Ar1 : Option Addr} {z : Int} {p : Ev × Int × Int} {listed : Array Bool} {i : Nat} {τ τ' : Nat → Value} {W W' : World} (hup14 : Up listed 14 → Up listed 13) (hi : ¬ Up listed i) (ht : ∀ j, j < 17 → j ≠ i → τ' j = τ j) (hb : Below W.heap.size W W')
    (hf : ∀ j, j < 17 → Up listed j → rwnF m jx rb ro rl rcap hn hcp rn cr1 M dn cd kn ck G Ah Ad Ak Ar1 z p j τ W) : ∀ j, j < 17 → j ≠ i → Up listed j → rwnF m jx rb ro rl rcap hn hcp rn cr1 M dn cd kn ck G Ah Ad Ak Ar1 z p j τ' W' := by
  intro j hj hji hu
  match j, hj with
  | 0, _ =>
    exact (ht 0 (by decide) hji).trans (hf 0 (by decide) hu)
  | 1, _ =>
    exact (ht 1 (by decide) hji).trans (hf 1 (by decide) hu)
  | 2, _ =>
    exact (ht 2 (by decide) hji).trans (hf 2 (by decide) hu)
  | 3, _ =>
    exact (ht 3 (by decide) hji).trans (hf 3 (by decide) hu)
  | 4, _ =>
    exact (ht 4 (by decide) hji).trans (hf 4 (by decide) hu)
  | 5, _ =>
    exact (ht 5 (by decide) hji).trans (hf 5 (by decide) hu)
  | 6, _ =>
    exact (ht 6 (by decide) hji).trans (hf 6 (by decide) hu)
  | 7, _ =>
    exact (ht 7 (by decide) hji).trans (hf 7 (by decide) hu)
  | 8, _ =>
    obtain ⟨ev, e, h⟩ := hf 8 (by decide) hu
    exact ⟨ev, (ht 8 (by decide) hji).trans e, h.now hb⟩
  | 9, _ =>
    obtain ⟨ev, e, h⟩ := hf 9 (by decide) hu
    exact ⟨ev, (ht 9 (by decide) hji).trans e, h.now hb⟩
  | 10, _ =>
    have h := hf 10 (by decide) hu
    show EvV G p (τ' 10) W'
    rw [ht 10 (by decide) hji]
    exact h.now hb
  | 11, _ =>
    exact (ht 11 (by decide) hji).trans (hf 11 (by decide) hu)
  | 12, _ =>
    exact (ht 12 (by decide) hji).trans (hf 12 (by decide) hu)
  | 13, _ =>
    obtain ⟨p, e, a, b, c, d, u, v, h⟩ := hf 13 (by decide) hu
    exact ⟨p, (ht 13 (by decide) hji).trans e, a, b, c, d, u, v, h.now hb⟩
  | 14, _ =>
    obtain ⟨q, e, cs, h, h2⟩ := hf 14 (by decide) hu
    exact ⟨q, (ht 13 (by decide) (fun e => hi (e ▸ hup14 hu))).trans e, cs, h.now hb, h2.now hb⟩
  | 15, _ =>
    exact (ht 15 (by decide) hji).trans (hf 15 (by decide) hu)
  | 16, _ =>
    exact (ht 16 (by decide) hji).trans (hf 16 (by decide) hu)
  | n + 17, hj => exact absurd hj (by omega)
def rwnF_mk (i : Nat) : Bool := i == 13
set_option maxHeartbeats 8000000 in
set_option maxRecDepth 100000 in
theorem import_ref (s : ByteArray) (u : Value) (m : Mp) (w : World) (hsz : s.size ≤ 9223372036854775807) (h : IsMp (Lt w.heap.size) w u m) (hbd : m.data.length ≤ 1000000) :
    Calls Tryz.prog 17 #[.string s, u] w (RetImp (impE s.data.toList m) w) := by
  have HMP := Lib.hid h
  have HV := Lib.hid (fun W hW => valid_ref u m W hW hbd)
  have HC := Lib.hid (fun W => cells_ref s m.sep W hsz)
  have HEVT := Lib.hid (fun r hd rv hv W h1 h2 h3 h4 h5 h6 h7 h8 h9 => row_ref r hd rv hv u m W h1 h2 h3 h4 h5 h6 h7 h8 h9)
  have HHD := Lib.hid (fun r rv W h1 h2 h3 h4 => header_ref r rv u m W h1 h2 h3 h4)
  have HCL := Lib.hid (cells_le m.sep s.data.toList)
  obtain ⟨dv, kv, rfl, hfm, hmd, hmk⟩ := h
  obtain ⟨Ad, cd, rfl, _, _, hmd⟩ := hmd.open_
  obtain ⟨Ak, ck, rfl, _, _, hmk⟩ := hmk.open_
  unfold mpV at HMP HV HEVT HHD ⊢
  obtain ⟨z, hz⟩ : ∃ z, (m.sep.toNat : Int) = z := ⟨_, rfl⟩
  rw [hz] at HMP HV HEVT HHD ⊢
  have HC : Hid (∀ W, Calls Tryz.prog 58 #[.string s, .int .u8 z] W (RetRows (cellsE m.sep s.data.toList) W)) := Lib.hid (fun W => by have := HC.out W; rwa [hz] at this)
  obtain ⟨p, hp⟩ : ∃ p, impE s.data.toList m = p := ⟨_, rfl⟩
  have HE : Hid (p = if mapB m = true then if (cellsE m.sep s.data.toList).2.2 = 0 then impT m (cellsE m.sep s.data.toList).1 else ([], (cellsE m.sep s.data.toList).2.1, (cellsE m.sep s.data.toList).2.2) else ([], (0, 0), 1)) := by show _ = _; rw [← hp]; rfl
  rw [hp]
  have HOKQ : Hid (mapB m = true → MpOk m) := Lib.hid mpOk
  obtain ⟨q, hq⟩ : ∃ q, mapB m = q := ⟨_, rfl⟩
  have HV : Hid (∀ W, IsMp (Lt W.heap.size) W (.agg #[.int .i64 m.cas, .int .i64 m.act, .int .i64 m.res, .int .i64 m.life, .int .i64 m.time, .slice Ad m.data.length cd, .slice Ak m.kinds.length ck, .int .u8 z]) m → Calls Tryz.prog 19 #[.agg #[.int .i64 m.cas, .int .i64 m.act, .int .i64 m.res, .int .i64 m.life, .int .i64 m.time, .slice Ad m.data.length cd, .slice Ak m.kinds.length ck, .int .u8 z]] W fun e w' => e = .returned (.bool q) ∧ Below W.heap.size W w') := Lib.hid (fun W hW => by have := HV.out W hW; rwa [hq] at this)
  rw [hq] at HE HOKQ
  obtain ⟨cr, hcr⟩ : ∃ cr, cellsE m.sep s.data.toList = cr := ⟨_, rfl⟩
  rw [hcr] at HE HC HCL
  obtain ⟨rows, ⟨pa, pb⟩, pc⟩ := cr
  dsimp only at HE HCL
  clear hfm hmd hmk hz hp hq hcr hbd
  -- the boxes
  have hb1 := bone w (.cells #[.int .i64 m.cas, .int .i64 m.act, .int .i64 m.res, .int .i64 m.life, .int .i64 m.time, .slice Ad m.data.length cd, .slice Ak m.kinds.length ck, .int .u8 z] 33)
  have hB1 := Blk.new w 33 #[.int .i64 m.cas, .int .i64 m.act, .int .i64 m.res, .int .i64 m.life, .int .i64 m.time, .slice Ad m.data.length cd, .slice Ak m.kinds.length ck, .int .u8 z]
  have hs1 : (w.alloc (.cells #[.int .i64 m.cas, .int .i64 m.act, .int .i64 m.res, .int .i64 m.life, .int .i64 m.time, .slice Ad m.data.length cd, .slice Ak m.kinds.length ck, .int .u8 z] 33)).heap.size = w.heap.size + 1 := by simp
  obtain ⟨w1, hw1⟩ : ∃ w1, w.alloc (.cells #[.int .i64 m.cas, .int .i64 m.act, .int .i64 m.res, .int .i64 m.life, .int .i64 m.time, .slice Ad m.data.length cd, .slice Ak m.kinds.length ck, .int .u8 z] 33) = w1 := ⟨_, rfl⟩
  rw [hw1] at hb1 hB1 hs1
  have hb2 := bone w1 (.cells #[.slice none 0 0] 38)
  have hB2 := Blk.new w1 38 #[.slice none 0 0]
  have hs2 : (w1.alloc (.cells #[.slice none 0 0] 38)).heap.size = w.heap.size + 1 + 1 := by simp [hs1]
  rw [hs1] at hB2
  obtain ⟨w2, hw2⟩ : ∃ w2, w1.alloc (.cells #[.slice none 0 0] 38) = w2 := ⟨_, rfl⟩
  rw [hw2] at hb2 hB2 hs2
  have hb3 := bone w2 (.cells #[.int .i64 0, .int .i64 0] 40)
  have hB3 := Blk.new w2 40 #[.int .i64 0, .int .i64 0]
  have hs3 : (w2.alloc (.cells #[.int .i64 0, .int .i64 0] 40)).heap.size = w.heap.size + 1 + 1 + 1 := by simp [hs2]
  rw [hs2] at hB3
  obtain ⟨w3, hw3⟩ : ∃ w3, w2.alloc (.cells #[.int .i64 0, .int .i64 0] 40) = w3 := ⟨_, rfl⟩
  rw [hw3] at hB3 hs3 hb3
  have HW : Hid (((w.alloc (.cells #[.int .i64 m.cas, .int .i64 m.act, .int .i64 m.res, .int .i64 m.life, .int .i64 m.time, .slice Ad m.data.length cd, .slice Ak m.kinds.length ck, .int .u8 z] 33)).alloc (.cells #[.slice none 0 0] 38)).alloc (.cells #[.int .i64 0, .int .i64 0] 40) = w3) := by show _ = _; rw [hw1, hw2, hw3]
  have HB3 := Lib.hid (bthen (bthen hb1 hb2) hb3)
  have HM3 := Lib.hid ((hB1.now hb2).now hb3)
  have HO3 := Lib.hid (hB2.now hb3)
  have HP3 := Lib.hid hB3
  have HS3 := Lib.hid hs3
  clear hb1 hB1 hs1 hw1 hb2 hB2 hs2 hw2 hb3 hB3 hs3 hw3
  go_enter Tryz.func17, Tryz.ntmps17
  go_upto_region 1 with fail
  rw [HW.out]
  clear HW
  obtain ⟨c0, c1, c2, c3, c4, c5, c6, c7⟩ := HM3.out.c8m
  go_wp2_with fail
  (with_reducible refine (HV.out _ (HMP.out.now HB3.out)).mono ?_)
  rintro _ w4 ⟨rfl, hb4⟩
  have HB4 := Lib.hid (bthen HB3.out hb4)
  have HM4 := Lib.hid (HM3.out.now hb4)
  have HO4 := Lib.hid (HO3.out.now hb4)
  have HP4 := Lib.hid (HP3.out.now hb4)
  clear c0 c1 c2 c3 c4 c5 c6 c7 hb4 HB3 HM3 HO3 HP3 HV
  obtain ⟨c0, c1, c2, c3, c4, c5, c6, c7⟩ := HM4.out.c8m
  cases q with
  | false =>
    have HPE : Hid (p = ([], (0, 0), 1)) := by show _ = _; rw [HE.out]; rfl
    clear HE
    have o0 := (HO4.out).c1
    obtain ⟨p0, p1⟩ := (HP4.out).c2
    have fo := (HO4.out).frozen 0
    have f0 := (HP4.out).frozen 0
    have f1 := (HP4.out).frozen 1
    go_wp2_with fail
    obtain ⟨hz1, hz2, hbz⟩ := put_op HO4.out HP4.out (show (w.heap.size + 1) ≠ (w.heap.size + 1 + 1) by omega) HB4.out (show w.heap.size ≤ (w.heap.size + 1) by omega) (show w.heap.size ≤ (w.heap.size + 1 + 1) by omega) (.slice none 0 0) (.int .i64 0) (.int .i64 0)
    obtain ⟨wz, hwz⟩ : ∃ wz, (((w4.setCell ⟨w.heap.size + 1, 0, none⟩ (.slice none 0 0)).setCell ⟨w.heap.size + 1 + 1, 0, none⟩ (.int .i64 0)).setCell ⟨w.heap.size + 1 + 1, 1, none⟩ (.int .i64 0)) = wz := ⟨_, rfl⟩
    rw [hwz] at hz1 hz2 hbz ⊢
    clear hwz
    have g0 := hz1.c1
    obtain ⟨g1, g2⟩ := hz2.c2
    refine bodyPost_ret (v := .tuple #[.agg #[.slice none 0 0], .agg #[.int .i64 0, .int .i64 0], .int .i64 1]) (by simp [results, Tryz.results17, go_sem, g0, g1, g2]) rfl ?_
    show RetImp _ _ _ _
    rw [HPE.out]
    exact ⟨.slice none 0 0, rfl, Sl.none_, hbz⟩
  | true =>
    have HOK : Hid (MpOk m) := Lib.hid (by first | exact HOKQ.out rfl | exact HOKQ.out trivial | exact HOKQ.out)
    have HE1 : Hid (p = if pc = 0 then impT m rows else ([], (pa, pb), pc)) := by show _ = _; rw [HE.out]; rfl
    clear HOKQ HE
    go_wp2_with fail
    (with_reducible refine (HC.out _).mono ?_)
    rintro _ w5 ⟨rv, rfl, hsr, hb5⟩
    dsimp only at hsr
    obtain ⟨Ar, rcap, rfl, hrc1, hrc2, hsr⟩ := hsr.open_
    have HSR := Lib.hid hsr
    have HB5 := Lib.hid (bthen HB4.out hb5)
    have HM5 := Lib.hid (HM4.out.now hb5)
    have HO5 := Lib.hid (HO4.out.now hb5)
    have HP5 := Lib.hid (HP4.out.now hb5)
    have HRB := Lib.hid (And.intro hrc1 hrc2)
    clear c0 c1 c2 c3 c4 c5 c6 c7 hb5 hsr HB4 HM4 HO4 HP4 HC hrc1 hrc2
    have HB6 := Lib.hid (bone w5 (.cells #[.int .i64 pa, .int .i64 pb] 40))
    have HT6 := Lib.hid (Blk.new w5 40 #[.int .i64 pa, .int .i64 pb])
    have HWZ : Hid (((w5.alloc (.cells #[.int .i64 0, .int .i64 0] 40)).setCell ⟨w5.heap.size, 0, none⟩ (.int .i64 pa)).setCell ⟨w5.heap.size, 1, none⟩ (.int .i64 pb) = w5.alloc (.cells #[.int .i64 pa, .int .i64 pb] 40)) := Lib.hid (set2_new w5 _ _ _ _ _)
    obtain ⟨w6, hw6⟩ : ∃ w6, w5.alloc (.cells #[.int .i64 pa, .int .i64 pb] 40) = w6 := ⟨_, rfl⟩
    rw [hw6] at HB6 HT6 HWZ
    have HM6 := Lib.hid (HM5.out.now HB6.out)
    have HO6 := Lib.hid (HO5.out.now HB6.out)
    have HP6 := Lib.hid (HP5.out.now HB6.out)
    have HBW6 := Lib.hid (bthen HB5.out HB6.out)
    have HSR6 : Hid (Sl 1 RStrs (Lt w5.heap.size) w6 (.slice Ar rows.length rcap) rows) := Lib.hid (Sl.below HSR.out RStrs.kept HB6.out (Nat.le_refl _))
    by_cases hpc : pc = 0
    case neg =>
      have HPE : Hid (p = ([], (pa, pb), pc)) := by show _ = _; rw [HE1.out, if_neg hpc]
      have HPC := Lib.hid hpc
      have e1 : (pc != 0) = true := by simpa using hpc
      clear hpc
      go_upto_region 5 with fail
      first | rw [hw6] | rw [HWZ.out] | skip
      obtain ⟨t0, t1⟩ := HT6.out.c2
      obtain ⟨t2, t3⟩ := (HT6.out.far (p := ⟨w.heap.size + 1, 0, none⟩) (show w5.heap.size ≠ w.heap.size + 1 by have := HP5.out.lt; omega) (.slice none 0 0)).c2
      have o0 := (HO6.out).c1
      obtain ⟨p0, p1⟩ := (HP6.out).c2
      have fo := (HO6.out).frozen 0
      have f0 := (HP6.out).frozen 0
      have f1 := (HP6.out).frozen 1
      go_region
      go_wp2_with fail
      obtain ⟨hz1, hz2, hbz⟩ := put_op HO6.out HP6.out (show (w.heap.size + 1) ≠ (w.heap.size + 1 + 1) by omega) HBW6.out (show w.heap.size ≤ (w.heap.size + 1) by omega) (show w.heap.size ≤ (w.heap.size + 1 + 1) by omega) (.slice none 0 0) (.int .i64 pa) (.int .i64 pb)
      have hz1 := hz1.drew
      have hz2 := hz2.drew
      have hbz := hbz.drew
      obtain ⟨wz, hwz⟩ : ∃ wz, (((w6.setCell ⟨w.heap.size + 1, 0, none⟩ (.slice none 0 0)).setCell ⟨w.heap.size + 1 + 1, 0, none⟩ (.int .i64 pa)).setCell ⟨w.heap.size + 1 + 1, 1, none⟩ (.int .i64 pb)).drew = wz := ⟨_, rfl⟩
      rw [hwz] at hz1 hz2 hbz ⊢
      clear hwz
      have g0 := hz1.c1
      obtain ⟨g1, g2⟩ := hz2.c2
      refine bodyPost_ret (v := .tuple #[.agg #[.slice none 0 0], .agg #[.int .i64 pa, .int .i64 pb], .int .i64 pc]) (by simp [results, Tryz.results17, go_sem, g0, g1, g2]) rfl ?_
      show RetImp _ _ _ _
      rw [HPE.out]
      exact ⟨.slice none 0 0, rfl, Sl.none_, hbz⟩
    case pos =>
      subst hpc
      have HE2 : Hid (p = impT m rows) := by show _ = _; rw [HE1.out, if_pos rfl]
      clear HE1
      match rows, HE2, HCL, HSR6, HRB with
      | [], HE2, HCL, HSR6, HRB =>
        have HPE : Hid (p = ([], (0, 0), 4)) := HE2
        go_upto_region 7 with fail
        first | rw [hw6] | rw [HWZ.out] | skip
        have o0 := (HO6.out).c1
        obtain ⟨p0, p1⟩ := (HP6.out).c2
        have fo := (HO6.out).frozen 0
        have f0 := (HP6.out).frozen 0
        have f1 := (HP6.out).frozen 1
        go_wp2_with fail
        obtain ⟨hz1, hz2, hbz⟩ := put_op HO6.out HP6.out (show (w.heap.size + 1) ≠ (w.heap.size + 1 + 1) by omega) HBW6.out (show w.heap.size ≤ (w.heap.size + 1) by omega) (show w.heap.size ≤ (w.heap.size + 1 + 1) by omega) (.slice none 0 0) (.int .i64 0) (.int .i64 0)
        obtain ⟨wz, hwz⟩ : ∃ wz, (((w6.setCell ⟨w.heap.size + 1, 0, none⟩ (.slice none 0 0)).setCell ⟨w.heap.size + 1 + 1, 0, none⟩ (.int .i64 0)).setCell ⟨w.heap.size + 1 + 1, 1, none⟩ (.int .i64 0)) = wz := ⟨_, rfl⟩
        rw [hwz] at hz1 hz2 hbz ⊢
        clear hwz
        have g0 := hz1.c1
        obtain ⟨g1, g2⟩ := hz2.c2
        refine bodyPost_ret (v := .tuple #[.agg #[.slice none 0 0], .agg #[.int .i64 0, .int .i64 0], .int .i64 4]) (by simp [results, Tryz.results17, go_sem, g0, g1, g2]) rfl ?_
        show RetImp _ _ _ _
        rw [HPE.out]
        exact ⟨.slice none 0 0, rfl, Sl.none_, hbz⟩
      | hd :: rs, HE2, HCL, HSR6, HRB =>
        obtain ⟨rb, ro, hrow, hv, hA, hrD, hrx, hhv, hrcell⟩ := SlSS.at_ HSR6.out (k := 0) (by simp)
        subst hA
        have hrx : some hd = some hrow := hrx
        injection hrx with hrx
        subst hrx
        rw [List.length_cons] at HSR6 HRB ⊢
        have e0 : (((rs.length : Int) + 1) == 0) = false := beq_false_of_ne (by omega)
        go_upto_region 8 with fail
        first | rw [hw6] | rw [HWZ.out] | skip
        clear e0
        have HHV6 : Hid (SlP (Lt w5.heap.size) w6 hv hd) := Lib.hid hhv
        obtain ⟨Ah, hcp, hvv, _, _, _⟩ := hhv.open_
        subst hvv
        rw [Nat.add_zero] at hrcell
        have HRC6 : Hid (rb < w5.heap.size ∧ w6.cell? ⟨rb, ro, none⟩ = some (.slice Ah hd.length hcp)) := ⟨hrD, hrcell⟩
        obtain ⟨he, hhe⟩ : ∃ he, headE hd m = he := ⟨_, rfl⟩
        have HHF : Hid (∀ W, Below w5.heap.size w6 W → Calls Tryz.prog 59 #[.slice Ah hd.length hcp, .agg #[.int .i64 m.cas, .int .i64 m.act, .int .i64 m.res, .int .i64 m.life, .int .i64 m.time, .slice Ad m.data.length cd, .slice Ak m.kinds.length ck, .int .u8 z]] W (RetPC he W)) := Lib.hid fun W hW => by
          have hS6 : w5.heap.size ≤ w6.heap.size := HB6.out.size
          have hS7 := hW.size
          have := HHD.out hd _ W (SlP.keep HHV6.out (fun b hb => Nat.lt_of_lt_of_le hb (Nat.le_trans hS6 hS7)) (Same.of_below hW)) (HMP.out.now (HBW6.out.trans (hW.mono HB5.out.size))) HOK.out (fun c hc => by have := HCL.out.1 hd (by simp) c hc; omega)
          rwa [hhe] at this
        have HHE := Lib.hid hhe
        have HMT : Hid (w.heap.size < w5.heap.size) := HM5.out.lt
        have HSW6 := Lib.hid HB6.out.size
        have HTG : Hid (w.heap.size + 1 + 1 < w5.heap.size) := HP5.out.lt
        obtain ⟨⟨ha, hb⟩, hc⟩ := he
        have HR0 : Hid (Below w5.heap.size w6 w6.drew ∧ ∃ a b, Blk w6.drew w5.heap.size 40 #[a, b]) := Lib.hid ⟨(Below.refl _ _).drew, _, _, HT6.out⟩
        clear hhv hrD hrcell hw6 HO5 HP5 HSR HHD HB6 HWZ hhe
        go_cut [9] from 40 to 47 (fun ev W => ev = .int .i64 hc ∧ Blk W w5.heap.size 40 #[.int .i64 ha, .int .i64 hb] ∧ Below w5.heap.size w6 W)
        case first =>
          clear HMP HEVT HCL HE2 HS3 HOK HO6 HP6 HSR6 HRB HHE HHV6 HM5 HB5 HTG
          rename_i J1 K1 hJ hK
          have x0 := HRC6.out.2
          have i0 : (0 : Int) < ((rs.length + 1 : Nat) : Int) := by omega
          refine wp_region_rel (by kernel_rfl) (by kernel_rfl) (by kernel_rfl) (fun W => Below w5.heap.size w6 W ∧ ∃ a b, Blk W w5.heap.size 40 #[a, b]) (hdG m rb ro (rs.length + 1) rcap hd.length hcp w.heap.size m.data.length cd m.kinds.length ck w5.heap.size Ah Ad Ak z ha hb hc) ?h0 ?hstep ?hend ?hall
          case hall => exact hall_of (by kernel_rfl)
          case h0 => exact HR0.out
          case hstep =>
            intro i o ho listed ac W hsh hi hk hR hM
            match i, ho with
            | 0, ho =>
              injection ho with ho
              subst ho
              have e0 : ac.eval (.tmp 7) = .slice (some ⟨rb, ro, none⟩) (rs.length + 1) rcap := hk.same (s := 7) (by kernel_rfl)
              exact wpM_moveV _ _ rfl e0 ⟨_, rfl, hR, fun u hu => hu (by simp), fun j _ _ _ u h => h⟩
            | 1, ho =>
              injection ho with ho
              subst ho
              have e0 : ac.eval (.tmp 41) = .slice (some ⟨rb, ro, none⟩) (rs.length + 1) rcap := hM 0 (by decide) (ready_up hi (by kernel_rfl))
              exact wpM_run (.pointer (some ⟨rb, ro, none⟩)) W (by simp only [execOp, e0]; simp [go_sem, i0]) ⟨_, rfl, hR, fun u hu => hu (by simp), fun j _ _ _ u h => h⟩
            | 2, ho =>
              injection ho with ho
              subst ho
              have e0 : ac.eval (.tmp 42) = .pointer (some ⟨rb, ro, none⟩) := hM 1 (by decide) (ready_up hi (by kernel_rfl))
              exact wpM_run (.slice Ah hd.length hcp) W (by simp only [execOp, e0]; simp [go_sem, (hR.1.cell (p := ⟨rb, ro, none⟩) HRC6.out.1).trans x0]) ⟨_, rfl, hR, fun u hu => hu (by simp), fun j _ _ _ u h => h⟩
            | 3, ho =>
              injection ho with ho
              subst ho
              obtain ⟨q0, q1, q2, q3, q4, q5, q6, q7⟩ := (HM6.out.below hR.1 HMT.out).c8m
              have e0 : ac.eval (.tmp 3) = .pointer (some ⟨w.heap.size, 0, none⟩) := hk.same (s := 3) (by kernel_rfl)
              exact wpM_run (.agg #[.int .i64 m.cas, .int .i64 m.act, .int .i64 m.res, .int .i64 m.life, .int .i64 m.time, .slice Ad m.data.length cd, .slice Ak m.kinds.length ck, .int .u8 z]) W (by simp only [execOp, e0]; simp [go_sem, q0, q1, q2, q3, q4, q5, q6, q7]) ⟨_, rfl, hR, fun u hu => hu (by simp), fun j _ _ _ u h => h⟩
            | 4, ho =>
              injection ho with ho
              subst ho
              have e0 : ac.eval (.tmp 43) = .slice Ah hd.length hcp := hM 2 (by decide) (ready_up hi (by kernel_rfl))
              have e1 : ac.eval (.tmp 44) = .agg #[.int .i64 m.cas, .int .i64 m.act, .int .i64 m.res, .int .i64 m.life, .int .i64 m.time, .slice Ad m.data.length cd, .slice Ak m.kinds.length ck, .int .u8 z] := hM 3 (by decide) (ready_up hi (by kernel_rfl))
              refine wpM_callF (f := 59) enters_headerR _ _ #[.slice Ah hd.length hcp, .agg #[.int .i64 m.cas, .int .i64 m.act, .int .i64 m.res, .int .i64 m.life, .int .i64 m.time, .slice Ad m.data.length cd, .slice Ak m.kinds.length ck, .int .u8 z]] _ rfl rfl (by simp only [List.map_toArray, List.map_cons, List.map_nil, e0, e1]) ((HHF.out W hR.1).mono ?_)
              rintro e W' ⟨rfl, hb⟩
              have hni := ready_not hi
              have h8 : ¬ Up listed 8 := fun h => hni (hsh.up (hsh.up (hsh.up h (show Region.waitsFor .any _ 8 6 = true by kernel_rfl)) (show Region.waitsFor .any _ 6 5 = true by kernel_rfl)) (show Region.waitsFor .any _ 5 4 = true by kernel_rfl))
              refine ⟨_, rfl, _, rfl, ⟨hR.1.trans (hb.mono (Nat.le_trans HSW6.out hR.1.size)), hR.2.elim fun a h => h.elim fun b h => ⟨a, b, h.now hb⟩⟩, fun u hu => hu (by simp), fun j hj hji hu u h => ?_⟩
              match j, hj, hji, h with
              | 0, _, _, h => exact h
              | 1, _, _, h => exact h
              | 2, _, _, h => exact h
              | 3, _, _, h => exact h
              | 4, _, hji, _ => exact absurd rfl hji
              | 5, _, _, h => exact h
              | 6, _, _, h => exact h
              | 7, _, _, h => exact h
              | 8, _, _, h => exact absurd ‹Up listed 8› h8
              | 9, _, _, h => exact h
              | n + 10, hj, _, _ => exact absurd hj (by simp)
            | 5, ho =>
              injection ho with ho
              subst ho
              have e0 : ac.eval (.tmp 45) = .tuple #[.agg #[.int .i64 ha, .int .i64 hb], .int .i64 hc] := hM 4 (by decide) (ready_up hi (by kernel_rfl))
              exact wpM_moveV _ _ rfl e0 ⟨_, rfl, hR, fun u hu => hu (by simp), fun j _ _ _ u h => h⟩
            | 6, ho =>
              injection ho with ho
              subst ho
              have e0 : ac.eval (.tmp 40) = .tuple #[.agg #[.int .i64 ha, .int .i64 hb], .int .i64 hc] := hM 5 (by decide) (ready_up hi (by kernel_rfl))
              exact wpM_run (.agg #[.int .i64 ha, .int .i64 hb]) W (by simp only [execOp, e0]; simp [go_sem]) ⟨_, rfl, hR, fun u hu => hu (by simp), fun j _ _ _ u h => h⟩
            | 7, ho =>
              injection ho with ho
              subst ho
              have e0 : ac.eval (.tmp 40) = .tuple #[.agg #[.int .i64 ha, .int .i64 hb], .int .i64 hc] := hM 5 (by decide) (ready_up hi (by kernel_rfl))
              exact wpM_run (.int .i64 hc) W (by simp only [execOp, e0]; simp [go_sem]) ⟨_, rfl, hR, fun u hu => hu (by simp), fun j _ _ _ u h => h⟩
            | 8, ho =>
              injection ho with ho
              subst ho
              have e0 : ac.eval (.tmp 8) = .pointer (some ⟨w5.heap.size, 0, none⟩) := hk.same (s := 8) (by kernel_rfl)
              have e1 : ac.eval (.tmp 46) = .agg #[.int .i64 ha, .int .i64 hb] := hM 6 (by decide) (ready_up hi (by kernel_rfl))
              obtain ⟨hRb, a, b, hT⟩ := hR
              obtain ⟨y0, y1⟩ := hT.c2
              have f0 := hT.frozen 0
              have f1 := hT.frozen 1
              have hT2 := (hT.set_ 0 (.int .i64 ha)).set_ 1 (.int .i64 hb)
              refine wpM_store _ _ _ _ _ ((W.setCell ⟨w5.heap.size, 0, none⟩ (.int .i64 ha)).setCell ⟨w5.heap.size, 1, none⟩ (.int .i64 hb)) () rfl e0 e1 (by simp [go_sem, y0, y1, f0, f1]) ⟨_, rfl, ⟨(hRb.setCell (p := ⟨w5.heap.size, 0, none⟩) (Nat.le_refl w5.heap.size) _).setCell (p := ⟨w5.heap.size, 1, none⟩) (Nat.le_refl w5.heap.size) _, _, _, hT2⟩, fun u _ => hT2, fun j hj hji hu u h => ?_⟩
              match j, hj, hji, h with
              | 0, _, _, h => exact h
              | 1, _, _, h => exact h
              | 2, _, _, h => exact h
              | 3, _, _, h => exact h
              | 4, _, _, h => exact h
              | 5, _, _, h => exact h
              | 6, _, _, h => exact h
              | 7, _, _, h => exact h
              | 8, _, hji, _ => exact absurd rfl hji
              | 9, _, _, h => exact h
              | n + 10, hj, _, _ => exact absurd hj (by simp)
            | 9, ho =>
              injection ho with ho
              subst ho
              have e0 : ac.eval (.tmp 47) = .int .i64 hc := hM 7 (by decide) (ready_up hi (by kernel_rfl))
              exact wpM_assign _ _ rfl e0 ⟨_, rfl, hR, fun u hu => hu (by simp), fun j _ _ _ u h => h⟩
            | n + 10, ho => simp at ho
          case hend =>
            intro ac W hk hR hM
            have y9 : Act.slot ac 9 = .int .i64 hc := hM 9 (by decide)
            have h8 : Blk W w5.heap.size 40 #[.int .i64 ha, .int .i64 hb] := hM 8 (by decide)
            refine hK _ _ ?_
            rw [hk.form (by kernel_rfl)]
            simp only [putsAll, Option.getD_some, Act.put, List.setIfInBounds_toArray, List.set_cons_zero, List.set_cons_succ, y9]
            go_meet
            exact ⟨rfl, h8, hR.1⟩
        case rest =>
          obtain ⟨rfl, hT8, hb7⟩ := hcut
          have HB7 := Lib.hid (HBW6.out.trans (hb7.mono HB5.out.size))
          have HM7 := Lib.hid (HM6.out.below hb7 HMT.out)
          have HO7 := Lib.hid (HO6.out.below hb7 (by have := HTG.out; omega))
          have HP7 := Lib.hid (HP6.out.below hb7 HTG.out)
          have HSR7 : Hid (Sl 1 RStrs (Lt w5.heap.size) wc (.slice (some ⟨rb, ro, none⟩) (rs.length + 1) rcap) (hd :: rs)) := Lib.hid (Sl.below HSR6.out RStrs.kept hb7 (Nat.le_refl _))
          have HHV7 : Hid (SlP (Lt w5.heap.size) wc (.slice Ah hd.length hcp) hd) := Lib.hid (SlP.keep HHV6.out (fun _ => id) (Same.of_below hb7))
          have HT7 := Lib.hid hT8
          have HRC7 := Lib.hid (And.intro HRC6.out.1 ((hb7.cell (p := ⟨rb, ro, none⟩) HRC6.out.1).trans HRC6.out.2))
          have HS57 := Lib.hid (Nat.le_trans HSW6.out hb7.size)
          obtain ⟨w7, hw7⟩ : ∃ w7, wc = w7 := ⟨_, rfl⟩
          rw [hw7] at HB7 HM7 HO7 HP7 HSR7 HHV7 HRC7 HT7 HS57 ⊢
          obtain ⟨T8, hT8e⟩ : ∃ T8, w5.heap.size = T8 := ⟨_, rfl⟩
          rw [hT8e] at HSR7 HHV7 HRC7 HT7 HTG HS57 ⊢
          have HT8G := HTG
          clear hw7 hb7 hT8 hT8e HM6 HO6 HP6 HSR6 HHV6 HRC6 HBW6 HHF HT6 HB5 HM5 HR0 HMT HSW6
          by_cases hhc : hc = 0
          case neg =>
            have HPE : Hid (p = ([], (ha, hb), hc)) := by show _ = _; rw [HE2.out]; show impT m (hd :: rs) = _; unfold impT; dsimp only; rw [HHE.out, if_neg hhc]
            have HPC := Lib.hid hhc
            have e1 : (hc != 0) = true := by simpa using hhc
            clear hhc
            go_upto_region 10 with fail
            obtain ⟨t0, t1⟩ := HT7.out.c2
            obtain ⟨t2, t3⟩ := (HT7.out.far (p := ⟨w.heap.size + 1, 0, none⟩) (show T8 ≠ w.heap.size + 1 by have := HT8G.out; omega) (.slice none 0 0)).c2
            have o0 := (HO7.out).c1
            obtain ⟨p0, p1⟩ := (HP7.out).c2
            have fo := (HO7.out).frozen 0
            have f0 := (HP7.out).frozen 0
            have f1 := (HP7.out).frozen 1
            go_region
            go_wp2_with fail
            obtain ⟨hz1, hz2, hbz⟩ := put_op HO7.out HP7.out (show (w.heap.size + 1) ≠ (w.heap.size + 1 + 1) by omega) HB7.out (show w.heap.size ≤ (w.heap.size + 1) by omega) (show w.heap.size ≤ (w.heap.size + 1 + 1) by omega) (.slice none 0 0) (.int .i64 ha) (.int .i64 hb)
            have hz1 := hz1.drew
            have hz2 := hz2.drew
            have hbz := hbz.drew
            obtain ⟨wz, hwz⟩ : ∃ wz, (((w7.setCell ⟨w.heap.size + 1, 0, none⟩ (.slice none 0 0)).setCell ⟨w.heap.size + 1 + 1, 0, none⟩ (.int .i64 ha)).setCell ⟨w.heap.size + 1 + 1, 1, none⟩ (.int .i64 hb)).drew = wz := ⟨_, rfl⟩
            rw [hwz] at hz1 hz2 hbz ⊢
            clear hwz
            have g0 := hz1.c1
            obtain ⟨g1, g2⟩ := hz2.c2
            refine bodyPost_ret (v := .tuple #[.agg #[.slice none 0 0], .agg #[.int .i64 ha, .int .i64 hb], .int .i64 hc]) (by simp [results, Tryz.results17, go_sem, g0, g1, g2]) rfl ?_
            show RetImp _ _ _ _
            rw [HPE.out]
            exact ⟨.slice none 0 0, rfl, Sl.none_, hbz⟩
          case pos =>
            subst hhc
            have HEI : Hid (p = (sortS tlt (impRows hd m 0 [] rs).1, (impRows hd m 0 [] rs).2)) := by show _ = _; rw [HE2.out]; show impT m (hd :: rs) = _; unfold impT; dsimp only; rw [HHE.out, if_pos rfl]
            have HHO : Hid ((∀ k ∈ colsX m, k < (hd.length : Int)) ∧ (m.data.map (cellAt hd)).Nodup) := Lib.hid (by have := head_ok (r := hd) (m := m) (by rw [HHE.out]); exact ⟨this.1, this.2.1⟩)
            clear HE2 HHE HT7
            obtain ⟨BB, hBB⟩ : ∃ BB, w7.heap.size = BB := ⟨_, rfl⟩
            have HBG0 : Hid (T8 ≤ BB) := Lib.hid (by rw [← hBB]; exact HS57.out)
            have HGW : Hid (w.heap.size + 1 + 1 < BB) := Lib.hid (by have := HTG.out; have := HBG0.out; omega)
            have HW7 : Hid (w7.heap.size = BB) := Lib.hid hBB
            clear hBB HTG HS57 HT8G
            go_wp2_with fail
            go_loopw [10, 11] (fun ov iv wr => ∃ (k j : Nat) (acc : List Ev) (ps : List PR), iv = .int .i64 (j : Int) ∧ Hid (j = k + 1) ∧ j ≤ rs.length + 1 ∧ 0 < j ∧ Hid (acc.length = k) ∧ Hid (ps.map (fun p => p.val.1) = sortS tlt acc) ∧ Hid (OwnPR wr BB ov ps) ∧ Hid (∀ p ∈ ps, GoodPR wr BB p) ∧ Hid (Below BB w7 wr) ∧ Hid (impRows hd m 0 [] rs = impRows hd m k acc (rs.drop k))) (fun _ iv _ => rs.length + 1 - (intOf iv).toNat)
            case atStart => exact ⟨0, 1, [], [], rfl, Lib.hid rfl, by omega, by decide, Lib.hid rfl, Lib.hid rfl, Lib.hid OwnW.nil, Lib.hid (fun p hp => by cases hp), Lib.hid (Below.refl _ _), Lib.hid rfl⟩
            case round =>
              obtain ⟨k, j, acc, ps, rfl, HJ, hj, hj0, HAL, HPS, HOW, HGP, HBR, HIR⟩ := hrel
              have HRL : Hid (rs.length ≤ 2000) := by show _ ≤ _; have := HCL.out.2; simp at this; omega
              have HPL : Hid (ps.length = acc.length) := Lib.hid (by haveI : Inhabited Ev := ⟨noEv⟩; have := congrArg List.length HPS.out; rw [List.length_map, sortS_len] at this; exact this)
              have hrl2 : rs.length ≤ 2000 := HRL.out
              have hpl : ps.length ≤ 2001 := by have := HPL.out; have := HAL.out; have := HJ.out; have := HRL.out; omega
              obtain ⟨w9, hw9⟩ : ∃ w9, wr = w9 := ⟨_, rfl⟩
              rw [hw9] at HOW HGP HBR ⊢
              clear hw9
              have HS9 : Hid (BB ≤ w9.heap.size) := Lib.hid (by rw [← HW7.out]; exact HBR.out.size)
              have hM9 := HM7.out.below HBR.out (show w.heap.size < BB by have := HGW.out; omega)
              have HM9 := Lib.hid hM9
              have HO9 := Lib.hid (HO7.out.below HBR.out (show w.heap.size + 1 < BB by have := HGW.out; omega))
              have HP9 := Lib.hid (HP7.out.below HBR.out HGW.out)
              have HBW9 : Hid (Below w.heap.size w w9) := Lib.hid (HB7.out.trans (HBR.out.mono (by have := HGW.out; omega)))
              have HFM := Lib.hid HOW.out.form
              obtain ⟨Al, cl, hov⟩ := OwnPR.isSl HOW.out
              subst hov
              by_cases hlt : j < rs.length + 1
              · have hkr : k < rs.length := by have := HJ.out; omega
                have hx1 : rs[k]? = some rs[k] := List.getElem?_eq_getElem hkr
                have hxj : (hd :: rs)[j]? = some rs[k] := by rw [HJ.out]; exact hx1
                obtain ⟨r, hr⟩ : ∃ r, rs[k] = r := ⟨_, rfl⟩
                rw [hr] at hx1 hxj
                obtain ⟨b1, o1, r', u1, hA1, hD1, hx1', hu1, hc1⟩ := SlSS.at_ HSR7.out (k := j) (by simpa using hlt)
                injection hA1 with hA1
                injection hA1 with e1 e2 _
                subst e1 e2
                rw [hxj] at hx1'
                injection hx1' with hx1'
                subst hx1'
                obtain ⟨Ar1, cr1, rfl, _, _, hu1⟩ := hu1.open_
                have HIS : Hid (impRows hd m k acc (rs.drop k) = if r.length ≠ hd.length then ([], ((j : Int) + 1, 1), 29) else if (evE r hd m).2.2 = 0 then impRows hd m (k + 1) (acc ++ [(evE r hd m).1]) (rs.drop (k + 1)) else ([], ((j : Int) + 1, (evE r hd m).2.1 + 1), (evE r hd m).2.2)) := by
                  show _ = _
                  rw [drop_cons hx1, show ((j : Int) + 1) = (k : Int) + 2 by have := HJ.out; omega]
                  rfl
                have HRM : Hid (r ∈ hd :: rs) := Lib.hid (List.mem_cons_of_mem _ (List.mem_of_getElem? hx1))
                have HU9 : Hid (SlP (Lt w9.heap.size) w9 (.slice Ar1 r.length cr1) r) := SlP.keep hu1 (fun b hb => Nat.lt_of_lt_of_le hb (Nat.le_trans HBG0.out HS9.out)) (fun b hb => HBR.out.block b (Nat.lt_of_lt_of_le hb HBG0.out))
                have HH9 : Hid (SlP (Lt w9.heap.size) w9 (.slice Ah hd.length hcp) hd) := SlP.keep HHV7.out (fun b hb => Nat.lt_of_lt_of_le hb (Nat.le_trans HBG0.out HS9.out)) (fun b hb => HBR.out.block b (Nat.lt_of_lt_of_le hb HBG0.out))
                have c0 := (HBR.out.cell (p := ⟨rb, ro + j, none⟩) (Nat.lt_of_lt_of_le hD1 HBG0.out)).trans hc1
                have d0 := (HBR.out.cell (p := ⟨rb, ro, none⟩) (Nat.lt_of_lt_of_le hD1 HBG0.out)).trans HRC7.out.2
                have hrb9 : rb < w9.heap.size := Nat.lt_of_lt_of_le hD1 (Nat.le_trans HBG0.out HS9.out)
                have i0 : (0 : Int) < ((rs.length + 1 : Nat) : Int) := by omega
                have j0 : (0 : Int) ≤ (j : Int) := by omega
                have j1 : (j : Int) < ((rs.length + 1 : Nat) : Int) := by omega
                have j2 : (j : Int) < (rs.length : Int) + 1 := by omega
                have i2 : (0 : Int) < (rs.length : Int) + 1 := by omega
                have j3 : ¬ (rs.length : Int) + 1 ≤ (j : Int) := by omega
                clear hx1 hxj hr hu1 hc1 hD1 hkr
                by_cases hle : r.length = hd.length
                case neg =>
                  have HPE : Hid (p = ([], ((j : Int) + 1, 1), 29)) := by show _ = _; rw [HEI.out, HIR.out, HIS.out, if_pos hle]; rfl
                  have e3 : ((r.length : Int) != (hd.length : Int)) = true := by rw [bne_iff_ne]; omega
                  have e4 : decide (r.length = hd.length) = false := decide_eq_false hle
                  clear hle
                  go_upto_region 15 with fail
                  go_quiet (fail)
                  obtain ⟨wq, hwq⟩ : ∃ wq, w9.drewN nq = wq := ⟨_, rfl⟩
                  have hbq : Below w9.heap.size w9 wq := by rw [← hwq]; exact bdrawn (Below.refl _ _) _
                  rw [hwq]
                  clear hwq
                  have HOQ := Lib.hid (HO9.out.now hbq)
                  have HPQ := Lib.hid (HP9.out.now hbq)
                  have HBQ := Lib.hid (bthen HBW9.out hbq)
                  have o0 := (HOQ.out).c1
                  obtain ⟨p0, p1⟩ := (HPQ.out).c2
                  have fo := (HOQ.out).frozen 0
                  have f0 := (HPQ.out).frozen 0
                  have f1 := (HPQ.out).frozen 1
                  go_wp2_with fail
                  obtain ⟨hz1, hz2, hbz⟩ := put_op HOQ.out HPQ.out (show (w.heap.size + 1) ≠ (w.heap.size + 1 + 1) by omega) HBQ.out (show w.heap.size ≤ (w.heap.size + 1) by omega) (show w.heap.size ≤ (w.heap.size + 1 + 1) by omega) (.slice none 0 0) (.int .i64 ((j : Int) + 1)) (.int .i64 1)
                  obtain ⟨wz, hwz⟩ : ∃ wz, (((wq.setCell ⟨w.heap.size + 1, 0, none⟩ (.slice none 0 0)).setCell ⟨w.heap.size + 1 + 1, 0, none⟩ (.int .i64 ((j : Int) + 1))).setCell ⟨w.heap.size + 1 + 1, 1, none⟩ (.int .i64 1)) = wz := ⟨_, rfl⟩
                  rw [hwz] at hz1 hz2 hbz ⊢
                  clear hwz
                  have g0 := hz1.c1
                  obtain ⟨g1, g2⟩ := hz2.c2
                  refine bodyPost_ret (v := .tuple #[.agg #[.slice none 0 0], .agg #[.int .i64 ((j : Int) + 1), .int .i64 1], .int .i64 29]) (by simp [results, Tryz.results17, go_sem, g0, g1, g2]) rfl ?_
                  show RetImp _ _ _ _
                  rw [HPE.out]
                  exact ⟨.slice none 0 0, rfl, Sl.none_, hbz⟩
                case pos =>
                  have HIS : Hid (impRows hd m k acc (rs.drop k) = if (evE r hd m).2.2 = 0 then impRows hd m (k + 1) (acc ++ [(evE r hd m).1]) (rs.drop (k + 1)) else ([], ((j : Int) + 1, (evE r hd m).2.1 + 1), (evE r hd m).2.2)) := by
                    show _ = _
                    rw [HIS.out, if_neg (fun e => e hle)]
                  have e3 : ((r.length : Int) != (hd.length : Int)) = false := by rw [hle]; simp
                  have HLE := Lib.hid hle
                  clear hle
                  go_upto_region 15 with fail
                  go_quiet (fail)
                  obtain ⟨wq, hwq⟩ : ∃ wq, w9.drewN nq = wq := ⟨_, rfl⟩
                  have hbq : Below w9.heap.size w9 wq := by rw [← hwq]; exact bdrawn (Below.refl _ _) _
                  rw [hwq]
                  have HGPq : Hid (∀ p ∈ ps, GoodPR wq BB p) := Lib.hid (fun p hp => (HGP.out p hp).now hbq)
                  have HOWq : Hid (OwnPR wq BB (.slice Al ps.length cl) ps) := Lib.hid (OwnW.now HOW.out hbq)
                  have HBRq : Hid (Below BB w7 wq) := Lib.hid (HBR.out.trans (hbq.mono HS9.out))
                  have HMq := Lib.hid (HM9.out.now hbq)
                  have HOq := Lib.hid (HO9.out.now hbq)
                  have HPq := Lib.hid (HP9.out.now hbq)
                  have HBWq := Lib.hid (bthen HBW9.out hbq)
                  have HUq : Hid (SlP (Lt wq.heap.size) wq (.slice Ar1 r.length cr1) r) := Lib.hid (HU9.out.now hbq)
                  have HHq : Hid (SlP (Lt wq.heap.size) wq (.slice Ah hd.length hcp) hd) := Lib.hid (HH9.out.now hbq)
                  have HSq : Hid (BB ≤ wq.heap.size) := Lib.hid (Nat.le_trans HS9.out hbq.size)
                  have c0' := (hbq.cell (p := ⟨rb, ro + j, none⟩) hrb9).trans c0
                  have d0' := (hbq.cell (p := ⟨rb, ro, none⟩) hrb9).trans d0
                  have hrbq : rb < wq.heap.size := Nat.lt_of_lt_of_le hrb9 hbq.size
                  clear hwq hbq HGP HOW HBR HM9 HO9 HP9 HBW9 HU9 HH9 HS9 c0 d0 hrb9 hM9 e3
                  obtain ⟨w9, hw9⟩ : ∃ w9, wq = w9 := ⟨_, rfl⟩
                  rw [hw9] at HGPq HOWq HBRq HMq HOq HPq HBWq HUq HHq HSq c0' d0' hrbq ⊢
                  clear hw9
                  have HM9 := HMq
                  have hrb9 := hrbq
                  have c0 := c0'
                  have d0 := d0'
                  clear hrbq c0' d0' HMq
                  go_upto_region 17 with fail
                  obtain ⟨pp, hpp⟩ : ∃ pp, evE r hd m = pp := ⟨_, rfl⟩
                  have HEV : Hid (∀ W, Below w9.heap.size w9 W → Calls Tryz.prog 60 #[.slice Ar1 r.length cr1, .slice Ah hd.length hcp, .agg #[.int .i64 m.cas, .int .i64 m.act, .int .i64 m.res, .int .i64 m.life, .int .i64 m.time, .slice Ad m.data.length cd, .slice Ak m.kinds.length ck, .int .u8 z]] W (RetEv pp W)) := Lib.hid fun W hW => by
                    have := HEVT.out r hd _ _ W (HUq.out.now hW) (HHq.out.now hW) (HMP.out.now (HBWq.out.trans (hW.mono HBWq.out.size))) HOK.out (fun k hk => by rw [HLE.out]; exact HHO.out.1 k hk) HLE.out.symm (fun c hc => by have := HCL.out.1 r HRM.out c hc; omega) (fun c hc => by have := HCL.out.1 hd (by simp) c hc; unfold maxLen; omega) HHO.out.2
                    rwa [hpp] at this
                  have HCO : Hid (0 ≤ pp.2.1 ∧ pp.2.1 < 40) := by rw [← hpp]; exact evE_col HOK.out
                  rw [hpp] at HIS
                  clear hpp
                  go_cut [12, 13, 14] from 73 to 85 (fun pv kv ev W => ∃ Q : Nat, pv = .pointer (some ⟨Q, 0, none⟩) ∧ kv = .int .i64 pp.2.1 ∧ ev = .int .i64 pp.2.2 ∧ (∃ cs, Blk W Q 69 cs ∧ EvV w9.heap.size pp (.agg cs) W) ∧ w9.heap.size ≤ Q ∧ Below w9.heap.size w9 W)
                  case first =>
                    clear HMP HOK HEVT HCL HS3 HEI HHO HB7 HM7 HO7 HP7 HHV7 HRB HGW HRL HAL HIR HIS HRM HUq HHq HBWq HOq HPq HLE HCO HGPq HOWq HBRq HPS HPL HFM HJ HRC7 HSR7 HW7 HBG0
                    rename_i J1 K1 hJ hK
                    refine wp_region_mk (by kernel_rfl) (by kernel_rfl) (by kernel_rfl) rwnF_mk (rwnF m j rb ro (rs.length + 1) rcap hd.length hcp r.length cr1 w.heap.size m.data.length cd m.kinds.length ck w9.heap.size Ah Ad Ak Ar1 z pp) ?hstep ?hmk ?hend ?hall
                    case hall => exact hall_of (by kernel_rfl)
                    case hmk =>
                      intro i o ho hm
                      match i, ho with
                      | 0, ho => exact absurd hm (by decide)
                      | 1, ho => exact absurd hm (by decide)
                      | 2, ho => exact absurd hm (by decide)
                      | 3, ho => exact absurd hm (by decide)
                      | 4, ho => exact absurd hm (by decide)
                      | 5, ho => exact absurd hm (by decide)
                      | 6, ho => exact absurd hm (by decide)
                      | 7, ho => exact absurd hm (by decide)
                      | 8, ho => exact absurd hm (by decide)
                      | 9, ho => exact absurd hm (by decide)
                      | 10, ho => exact absurd hm (by decide)
                      | 11, ho => exact absurd hm (by decide)
                      | 12, ho => exact absurd hm (by decide)
                      | 13, ho => injection ho with ho; subst ho; simp
                      | 14, ho => exact absurd hm (by decide)
                      | 15, ho => exact absurd hm (by decide)
                      | 16, ho => exact absurd hm (by decide)
                      | n + 17, ho => simp at ho
                    case hstep =>
                      intro i o ho listed ac W hsh hi hk hM
                      have hni := ready_not hi
                      have hup14 : Up listed 14 → Up listed 13 := fun h => hsh.up h (by kernel_rfl)
                      have hbW : Below w9.heap.size w9 W := (Below.refl _ _).drew.trans hM.below
                      match i, ho with
                      | 0, ho =>
                        injection ho with ho
                        subst ho
                        have e0 : ac.eval (.tmp 7) = .slice (some ⟨rb, ro, none⟩) (rs.length + 1) rcap := hk.same (s := 7) (by kernel_rfl)
                        exact wpM_moveV _ _ rfl e0 ⟨_, rfl, Below.refl _ _, fun h => absurd h (by decide), fun τ' t1 t2 => ⟨t1 (by simp), fun j hj hji hu => rwnF_keep hup14 hni t2 (Below.refl _ _) hM.facts j hj hji hu⟩⟩
                      | 1, ho =>
                        injection ho with ho
                        subst ho
                        have e0 : ac.eval (.tmp 11) = .int .i64 (j : Int) := hk.same (s := 11) (by kernel_rfl)
                        exact wpM_moveV _ _ rfl e0 ⟨_, rfl, Below.refl _ _, fun h => absurd h (by decide), fun τ' t1 t2 => ⟨t1 (by simp), fun j hj hji hu => rwnF_keep hup14 hni t2 (Below.refl _ _) hM.facts j hj hji hu⟩⟩
                      | 2, ho =>
                        injection ho with ho
                        subst ho
                        have e0 : ac.eval (.tmp 74) = .slice (some ⟨rb, ro, none⟩) (rs.length + 1) rcap := hM.facts 0 (by decide) (ready_up hi (by kernel_rfl))
                        have e1 : ac.eval (.tmp 75) = .int .i64 (j : Int) := hM.facts 1 (by decide) (ready_up hi (by kernel_rfl))
                        exact wpM_run (.pointer (some ⟨rb, ro + j, none⟩)) W (by simp only [execOp, e0, e1]; simp [go_sem, j0, j2, j3]) ⟨_, rfl, Below.refl _ _, fun h => absurd h (by decide), fun τ' t1 t2 => ⟨t1 (by simp), fun j hj hji hu => rwnF_keep hup14 hni t2 (Below.refl _ _) hM.facts j hj hji hu⟩⟩
                      | 3, ho =>
                        injection ho with ho
                        subst ho
                        have e0 : ac.eval (.tmp 76) = .pointer (some ⟨rb, ro + j, none⟩) := hM.facts 2 (by decide) (ready_up hi (by kernel_rfl))
                        exact wpM_load _ _ _ (.slice Ar1 r.length cr1) rfl e0 (by simp [go_sem, (hbW.cell (p := ⟨rb, ro + j, none⟩) hrb9).trans c0]) ⟨_, rfl, Below.refl _ _, fun h => absurd h (by decide), fun τ' t1 t2 => ⟨t1 (by simp), fun j hj hji hu => rwnF_keep hup14 hni t2 (Below.refl _ _) hM.facts j hj hji hu⟩⟩
                      | 4, ho =>
                        injection ho with ho
                        subst ho
                        have e0 : ac.eval (.tmp 7) = .slice (some ⟨rb, ro, none⟩) (rs.length + 1) rcap := hk.same (s := 7) (by kernel_rfl)
                        exact wpM_moveV _ _ rfl e0 ⟨_, rfl, Below.refl _ _, fun h => absurd h (by decide), fun τ' t1 t2 => ⟨t1 (by simp), fun j hj hji hu => rwnF_keep hup14 hni t2 (Below.refl _ _) hM.facts j hj hji hu⟩⟩
                      | 5, ho =>
                        injection ho with ho
                        subst ho
                        have e0 : ac.eval (.tmp 78) = .slice (some ⟨rb, ro, none⟩) (rs.length + 1) rcap := hM.facts 4 (by decide) (ready_up hi (by kernel_rfl))
                        exact wpM_run (.pointer (some ⟨rb, ro, none⟩)) W (by simp only [execOp, e0]; simp [go_sem, i0]) ⟨_, rfl, Below.refl _ _, fun h => absurd h (by decide), fun τ' t1 t2 => ⟨t1 (by simp), fun j hj hji hu => rwnF_keep hup14 hni t2 (Below.refl _ _) hM.facts j hj hji hu⟩⟩
                      | 6, ho =>
                        injection ho with ho
                        subst ho
                        have e0 : ac.eval (.tmp 79) = .pointer (some ⟨rb, ro, none⟩) := hM.facts 5 (by decide) (ready_up hi (by kernel_rfl))
                        exact wpM_load _ _ _ (.slice Ah hd.length hcp) rfl e0 (by simp [go_sem, (hbW.cell (p := ⟨rb, ro, none⟩) hrb9).trans d0]) ⟨_, rfl, Below.refl _ _, fun h => absurd h (by decide), fun τ' t1 t2 => ⟨t1 (by simp), fun j hj hji hu => rwnF_keep hup14 hni t2 (Below.refl _ _) hM.facts j hj hji hu⟩⟩
                      | 7, ho =>
                        injection ho with ho
                        subst ho
                        obtain ⟨q0, q1, q2, q3, q4, q5, q6, q7⟩ := (HM9.out.now hbW).c8m
                        have e0 : ac.eval (.tmp 3) = .pointer (some ⟨w.heap.size, 0, none⟩) := hk.same (s := 3) (by kernel_rfl)
                        exact wpM_load _ _ _ (.agg #[.int .i64 m.cas, .int .i64 m.act, .int .i64 m.res, .int .i64 m.life, .int .i64 m.time, .slice Ad m.data.length cd, .slice Ak m.kinds.length ck, .int .u8 z]) rfl e0 (by simp [go_sem, q0, q1, q2, q3, q4, q5, q6, q7]) ⟨_, rfl, Below.refl _ _, fun h => absurd h (by decide), fun τ' t1 t2 => ⟨t1 (by simp), fun j hj hji hu => rwnF_keep hup14 hni t2 (Below.refl _ _) hM.facts j hj hji hu⟩⟩
                      | 8, ho =>
                        injection ho with ho
                        subst ho
                        have e0 : ac.eval (.tmp 77) = .slice Ar1 r.length cr1 := hM.facts 3 (by decide) (ready_up hi (by kernel_rfl))
                        have e1 : ac.eval (.tmp 80) = .slice Ah hd.length hcp := hM.facts 6 (by decide) (ready_up hi (by kernel_rfl))
                        have e2 : ac.eval (.tmp 81) = .agg #[.int .i64 m.cas, .int .i64 m.act, .int .i64 m.res, .int .i64 m.life, .int .i64 m.time, .slice Ad m.data.length cd, .slice Ak m.kinds.length ck, .int .u8 z] := hM.facts 7 (by decide) (ready_up hi (by kernel_rfl))
                        refine wpM_callF (f := 60) enters_rowR _ _ #[.slice Ar1 r.length cr1, .slice Ah hd.length hcp, .agg #[.int .i64 m.cas, .int .i64 m.act, .int .i64 m.res, .int .i64 m.life, .int .i64 m.time, .slice Ad m.data.length cd, .slice Ak m.kinds.length ck, .int .u8 z]] _ rfl rfl (by simp only [List.map_toArray, List.map_cons, List.map_nil, e0, e1, e2]) ((HEV.out W hbW).mono ?_)
                        rintro e W' ⟨v, rfl, hv, hb⟩
                        have hv := hv.low hbW.size
                        exact ⟨_, rfl, _, rfl, hb.mono hbW.size, fun h => absurd h (by decide), fun τ' t1 t2 => ⟨⟨v, t1 (by simp), hv⟩, fun j hj hji hu => rwnF_keep hup14 hni t2 hb hM.facts j hj hji hu⟩⟩
                      | 9, ho =>
                        injection ho with ho
                        subst ho
                        obtain ⟨ev, e0, hv⟩ := hM.facts 8 (by decide) (ready_up hi (by kernel_rfl))
                        have e0 : ac.eval (.tmp 82) = .tuple #[ev, .int .i64 pp.2.1, .int .i64 pp.2.2] := e0
                        exact wpM_moveV _ _ rfl e0 ⟨_, rfl, Below.refl _ _, fun h => absurd h (by decide), fun τ' t1 t2 => ⟨⟨ev, t1 (by simp), hv⟩, fun j hj hji hu => rwnF_keep hup14 hni t2 (Below.refl _ _) hM.facts j hj hji hu⟩⟩
                      | 10, ho =>
                        injection ho with ho
                        subst ho
                        obtain ⟨ev, e0, hv⟩ := hM.facts 9 (by decide) (ready_up hi (by kernel_rfl))
                        have e0 : ac.eval (.tmp 73) = .tuple #[ev, .int .i64 pp.2.1, .int .i64 pp.2.2] := e0
                        exact wpM_run ev W (by simp only [execOp, e0]; simp [go_sem]) ⟨_, rfl, Below.refl _ _, fun h => absurd h (by decide), fun τ' t1 t2 => ⟨(by show EvV _ _ _ _; rw [t1 (by simp)]; exact hv), fun j hj hji hu => rwnF_keep hup14 hni t2 (Below.refl _ _) hM.facts j hj hji hu⟩⟩
                      | 11, ho =>
                        injection ho with ho
                        subst ho
                        obtain ⟨ev, e0, hv⟩ := hM.facts 9 (by decide) (ready_up hi (by kernel_rfl))
                        have e0 : ac.eval (.tmp 73) = .tuple #[ev, .int .i64 pp.2.1, .int .i64 pp.2.2] := e0
                        exact wpM_run (.int .i64 pp.2.1) W (by simp only [execOp, e0]; simp [go_sem]) ⟨_, rfl, Below.refl _ _, fun h => absurd h (by decide), fun τ' t1 t2 => ⟨t1 (by simp), fun j hj hji hu => rwnF_keep hup14 hni t2 (Below.refl _ _) hM.facts j hj hji hu⟩⟩
                      | 12, ho =>
                        injection ho with ho
                        subst ho
                        obtain ⟨ev, e0, hv⟩ := hM.facts 9 (by decide) (ready_up hi (by kernel_rfl))
                        have e0 : ac.eval (.tmp 73) = .tuple #[ev, .int .i64 pp.2.1, .int .i64 pp.2.2] := e0
                        exact wpM_run (.int .i64 pp.2.2) W (by simp only [execOp, e0]; simp [go_sem]) ⟨_, rfl, Below.refl _ _, fun h => absurd h (by decide), fun τ' t1 t2 => ⟨t1 (by simp), fun j hj hji hu => rwnF_keep hup14 hni t2 (Below.refl _ _) hM.facts j hj hji hu⟩⟩
                      | 13, ho =>
                        injection ho with ho
                        subst ho
                        exact wpM_alloc _ _ _ rfl (alEv W) ⟨_, rfl, (bone _ _).mono hbW.size, fun _ => ⟨Nat.le_refl _, by simp [blkOf]⟩, fun τ' t1 t2 => ⟨⟨_, t1 (by simp), _, _, _, _, _, _, Blk.new _ _ _⟩, fun j hj hji hu => rwnF_keep hup14 hni t2 (bone _ _) hM.facts j hj hji hu⟩⟩
                      | 14, ho =>
                        injection ho with ho
                        subst ho
                        obtain ⟨sa, sb, sc, xd, xt, xA, xn, xc, he80, hE80⟩ := hM.facts 10 (by decide) (ready_up hi (by kernel_rfl))
                        have e0 : ac.eval (.tmp 83) = .agg #[.string sa, .string sb, .string sc, .int .i64 xd, .int .i64 xt, .slice xA xn xc] := he80
                        have hEV : EvV _ _ (.agg #[.string sa, .string sb, .string sc, .int .i64 xd, .int .i64 xt, .slice xA xn xc]) W := ⟨sa, sb, sc, xd, xt, xA, xn, xc, rfl, hE80⟩
                        have u1 := ready_up hi (show Region.waitsFor .any _ 14 13 = true by kernel_rfl)
                        obtain ⟨p, ep, x0, x1, x2, x3, x4, x5, hp⟩ := hM.facts 13 (by decide) u1
                        have k1 : ac.eval (.tmp 12) = .pointer (some ⟨p, 0, none⟩) := ep
                        have hlo := hM.lo 13 (by decide) rfl u1
                        rw [ep] at hlo
                        have hlo1 : w9.heap.size ≤ p := hlo.1
                        obtain ⟨q0, q1, q2, q3, q4, q5⟩ := hp.c6
                        have f0 := hp.frozen 0
                        have f1 := hp.frozen 1
                        have f2 := hp.frozen 2
                        have f3 := hp.frozen 3
                        have f4 := hp.frozen 4
                        have f5 := hp.frozen 5
                        have hset : Blk ((((((W.setCell ⟨p, 0, none⟩ (.string sa)).setCell ⟨p, 1, none⟩ (.string sb)).setCell ⟨p, 2, none⟩ (.string sc)).setCell ⟨p, 3, none⟩ (.int .i64 xd)).setCell ⟨p, 4, none⟩ (.int .i64 xt)).setCell ⟨p, 5, none⟩ (.slice xA xn xc)) p 69 #[.string sa, .string sb, .string sc, .int .i64 xd, .int .i64 xt, .slice xA xn xc] := ((((((hp.set_ 0 (.string sa)).set_ 1 (.string sb)).set_ 2 (.string sc)).set_ 3 (.int .i64 xd)).set_ 4 (.int .i64 xt)).set_ 5 (.slice xA xn xc))
                        have hbs : Below w9.heap.size W ((((((W.setCell ⟨p, 0, none⟩ (.string sa)).setCell ⟨p, 1, none⟩ (.string sb)).setCell ⟨p, 2, none⟩ (.string sc)).setCell ⟨p, 3, none⟩ (.int .i64 xd)).setCell ⟨p, 4, none⟩ (.int .i64 xt)).setCell ⟨p, 5, none⟩ (.slice xA xn xc)) := (((((((Below.refl _ _).setCell (p := ⟨p, 0, none⟩) hlo1 (.string sa)).setCell (p := ⟨p, 1, none⟩) hlo1 (.string sb)).setCell (p := ⟨p, 2, none⟩) hlo1 (.string sc)).setCell (p := ⟨p, 3, none⟩) hlo1 (.int .i64 xd)).setCell (p := ⟨p, 4, none⟩) hlo1 (.int .i64 xt)).setCell (p := ⟨p, 5, none⟩) hlo1 (.slice xA xn xc))
                        refine wpM_store _ _ _ _ _ ((((((W.setCell ⟨p, 0, none⟩ (.string sa)).setCell ⟨p, 1, none⟩ (.string sb)).setCell ⟨p, 2, none⟩ (.string sc)).setCell ⟨p, 3, none⟩ (.int .i64 xd)).setCell ⟨p, 4, none⟩ (.int .i64 xt)).setCell ⟨p, 5, none⟩ (.slice xA xn xc)) () rfl k1 e0 (by simp [go_sem, q0, q1, q2, q3, q4, q5, f0, f1, f2, f3, f4, f5]) ⟨_, rfl, hbs, fun h => absurd h (by decide), fun τ' t1 t2 => ⟨⟨p, (t2 13 (by decide) (by decide)).trans ep, _, hset, EvV.put hEV hp (.string sa) (.string sb) (.string sc) (.int .i64 xd) (.int .i64 xt) (.slice xA xn xc)⟩, fun j hj hji hu => ?_⟩⟩
                        match j, hj with
                        | 0, _ => exact (t2 0 (by decide) hji).trans (hM.facts 0 (by decide) hu)
                        | 1, _ => exact (t2 1 (by decide) hji).trans (hM.facts 1 (by decide) hu)
                        | 2, _ => exact (t2 2 (by decide) hji).trans (hM.facts 2 (by decide) hu)
                        | 3, _ => exact (t2 3 (by decide) hji).trans (hM.facts 3 (by decide) hu)
                        | 4, _ => exact (t2 4 (by decide) hji).trans (hM.facts 4 (by decide) hu)
                        | 5, _ => exact (t2 5 (by decide) hji).trans (hM.facts 5 (by decide) hu)
                        | 6, _ => exact (t2 6 (by decide) hji).trans (hM.facts 6 (by decide) hu)
                        | 7, _ => exact (t2 7 (by decide) hji).trans (hM.facts 7 (by decide) hu)
                        | 8, _ => 
                          obtain ⟨ev, e, h⟩ := hM.facts 8 (by decide) hu
                          exact ⟨ev, (t2 8 (by decide) hji).trans e, h.put hp (.string sa) (.string sb) (.string sc) (.int .i64 xd) (.int .i64 xt) (.slice xA xn xc)⟩
                        | 9, _ => 
                          obtain ⟨ev, e, h⟩ := hM.facts 9 (by decide) hu
                          exact ⟨ev, (t2 9 (by decide) hji).trans e, h.put hp (.string sa) (.string sb) (.string sc) (.int .i64 xd) (.int .i64 xt) (.slice xA xn xc)⟩
                        | 10, _ => 
                          have h := hM.facts 10 (by decide) hu
                          show EvV _ _ _ _
                          rw [t2 10 (by decide) hji]
                          exact EvV.put h hp (.string sa) (.string sb) (.string sc) (.int .i64 xd) (.int .i64 xt) (.slice xA xn xc)
                        | 11, _ => exact (t2 11 (by decide) hji).trans (hM.facts 11 (by decide) hu)
                        | 12, _ => exact (t2 12 (by decide) hji).trans (hM.facts 12 (by decide) hu)
                        | 13, _ => exact ⟨p, (t2 13 (by decide) (by decide)).trans ep, _, _, _, _, _, _, hset⟩
                        | 14, _ => exact absurd rfl hji
                        | 15, _ => exact (t2 15 (by decide) hji).trans (hM.facts 15 (by decide) hu)
                        | 16, _ => exact (t2 16 (by decide) hji).trans (hM.facts 16 (by decide) hu)
                        | n + 17, hj => exact absurd hj (by simp)
                      | 15, ho =>
                        injection ho with ho
                        subst ho
                        have e0 : ac.eval (.tmp 84) = .int .i64 pp.2.1 := hM.facts 11 (by decide) (ready_up hi (by kernel_rfl))
                        exact wpM_assign _ _ rfl e0 ⟨_, rfl, Below.refl _ _, fun h => absurd h (by decide), fun τ' t1 t2 => ⟨t1 (by simp), fun j hj hji hu => rwnF_keep hup14 hni t2 (Below.refl _ _) hM.facts j hj hji hu⟩⟩
                      | 16, ho =>
                        injection ho with ho
                        subst ho
                        have e0 : ac.eval (.tmp 85) = .int .i64 pp.2.2 := hM.facts 12 (by decide) (ready_up hi (by kernel_rfl))
                        exact wpM_assign _ _ rfl e0 ⟨_, rfl, Below.refl _ _, fun h => absurd h (by decide), fun τ' t1 t2 => ⟨t1 (by simp), fun j hj hji hu => rwnF_keep hup14 hni t2 (Below.refl _ _) hM.facts j hj hji hu⟩⟩
                      | n + 17, ho => simp at ho
                    case hend =>
                      intro listed ac W hupp hk hM
                      have hbW : Below w9.heap.size w9 W := (Below.refl _ _).drew.trans hM.below
                      obtain ⟨q, e10, cs, hq, hv⟩ := hM.facts 14 (by decide) (hupp 14 (by decide))
                      have x74 := hM.facts 0 (by decide) (hupp 0 (by decide))
                      have x75 := hM.facts 1 (by decide) (hupp 1 (by decide))
                      have x76 := hM.facts 2 (by decide) (hupp 2 (by decide))
                      have x77 := hM.facts 3 (by decide) (hupp 3 (by decide))
                      have x78 := hM.facts 4 (by decide) (hupp 4 (by decide))
                      have x79 := hM.facts 5 (by decide) (hupp 5 (by decide))
                      have x80 := hM.facts 6 (by decide) (hupp 6 (by decide))
                      have x81 := hM.facts 7 (by decide) (hupp 7 (by decide))
                      have x84 := hM.facts 11 (by decide) (hupp 11 (by decide))
                      have x85 := hM.facts 12 (by decide) (hupp 12 (by decide))
                      have x13 := hM.facts 15 (by decide) (hupp 15 (by decide))
                      have x14 := hM.facts 16 (by decide) (hupp 16 (by decide))
                      have y12 : Act.slot ac 12 = .pointer (some ⟨q, 0, none⟩) := e10
                      have y13 : Act.slot ac 13 = .int .i64 pp.2.1 := x13
                      have y14 : Act.slot ac 14 = .int .i64 pp.2.2 := x14
                      have hlo := hM.lo 13 (by decide) rfl (hupp 13 (by decide))
                      rw [e10] at hlo
                      have hlo : w9.heap.size ≤ q := hlo.1
                      refine hK _ _ ?_
                      rw [hk.form (by kernel_rfl)]
                      simp only [putsAll, Option.getD_some, Act.put, List.setIfInBounds_toArray, List.set_cons_zero, List.set_cons_succ, y12, y13, y14]
                      go_meet
                      exact ⟨q, rfl, rfl, rfl, ⟨cs, hq, hv⟩, hlo, hbW⟩
                  case rest =>
                    obtain ⟨Q, rfl, rfl, rfl, ⟨cs, hQ, hev⟩, hQlo, hbQ⟩ := hcut
                    obtain ⟨w10, hw10⟩ : ∃ w10, wc = w10 := ⟨_, rfl⟩
                    rw [hw10] at hQ hev hbQ ⊢
                    obtain ⟨sa, sb, sc, xd, xt, xA, xn, xc, hcs, hev⟩ := hev
                    injection hcs with hcs
                    subst hcs
                    obtain ⟨E, kc, fc⟩ := pp
                    dsimp only at hev HIS HCO
                    have HEX := Lib.hid hev
                    have HQ := Lib.hid hQ
                    have HQL := Lib.hid hQlo
                    have HO10 := Lib.hid (HOq.out.now hbQ)
                    have HP10 := Lib.hid (HPq.out.now hbQ)
                    have HBW10 := Lib.hid (HBWq.out.trans (hbQ.mono HBWq.out.size))
                    have HOW2 : Hid (OwnPR w10 BB (.slice Al ps.length cl) ps) := Lib.hid (OwnW.now HOWq.out hbQ)
                    have HGP2 : Hid (∀ p ∈ ps, GoodPR w10 BB p) := Lib.hid (fun p hp => (HGPq.out p hp).now hbQ)
                    have HBR2 : Hid (Below BB w7 w10) := Lib.hid (HBRq.out.trans (hbQ.mono HSq.out))
                    have HOL : Hid (∀ g, (Value.slice Al ps.length cl).ownBlock = some g → BB ≤ g ∧ g < w9.heap.size) := Lib.hid (fun g h => World.ownsRow.lt HOWq.out g h)
                    have HS10 := Lib.hid (Nat.le_trans HSq.out hbQ.size)
                    have HSQX : Hid (w9.heap.size ≤ w10.heap.size) := Lib.hid hbQ.size
                    have hkc := HCO.out
                    clear hw10 hQ hev hbQ hQlo d0 c0 HGPq HOWq HBRq HOq HPq HBWq HM9 HUq HHq HEV
                    by_cases hfc : fc = 0
                    case neg =>
                      have HPE : Hid (p = ([], ((j : Int) + 1, kc + 1), fc)) := by show _ = _; rw [HEI.out, HIR.out, HIS.out, if_neg hfc]; rfl
                      have HPC := Lib.hid hfc
                      have e4 : (fc != 0) = true := by simpa using hfc
                      clear hfc
                      have o0 := (HO10.out).c1
                      obtain ⟨p0, p1⟩ := (HP10.out).c2
                      have fo := (HO10.out).frozen 0
                      have f0 := (HP10.out).frozen 0
                      have f1 := (HP10.out).frozen 1
                      go_wp2_with fail
                      obtain ⟨hz1, hz2, hbz⟩ := put_op HO10.out HP10.out (show (w.heap.size + 1) ≠ (w.heap.size + 1 + 1) by omega) HBW10.out (show w.heap.size ≤ (w.heap.size + 1) by omega) (show w.heap.size ≤ (w.heap.size + 1 + 1) by omega) (.slice none 0 0) (.int .i64 ((j : Int) + 1)) (.int .i64 (kc + 1))
                      obtain ⟨wz, hwz⟩ : ∃ wz, (((w10.setCell ⟨w.heap.size + 1, 0, none⟩ (.slice none 0 0)).setCell ⟨w.heap.size + 1 + 1, 0, none⟩ (.int .i64 ((j : Int) + 1))).setCell ⟨w.heap.size + 1 + 1, 1, none⟩ (.int .i64 (kc + 1))) = wz := ⟨_, rfl⟩
                      rw [hwz] at hz1 hz2 hbz ⊢
                      clear hwz
                      have g0 := hz1.c1
                      obtain ⟨g1, g2⟩ := hz2.c2
                      refine bodyPost_ret (v := .tuple #[.agg #[.slice none 0 0], .agg #[.int .i64 ((j : Int) + 1), .int .i64 (kc + 1)], .int .i64 fc]) (by simp [results, Tryz.results17, go_sem, g0, g1, g2]) rfl ?_
                      show RetImp _ _ _ _
                      rw [HPE.out]
                      exact ⟨.slice none 0 0, rfl, Sl.none_, hbz⟩
                    case pos =>
                      subst hfc
                      have HIN : Hid (impRows hd m 0 [] rs = impRows hd m (k + 1) (acc ++ [E]) (rs.drop (k + 1))) := by show _ = _; rw [HIR.out, HIS.out, if_pos rfl]
                      obtain ⟨h1, h2, h3, h4⟩ := HEX.out rfl
                      obtain ⟨px, hpx⟩ : ∃ px : PR, px = ⟨(⟨sa, sb, sc, xd, xt, E.data⟩, .slice xA xn xc), rfl⟩ := ⟨_, rfl⟩
                      have HPX : Hid (px.val.1 = E) := Lib.hid (by rw [hpx]; exact h1.symm)
                      have HCA : Hid ((cellPR px).toArray = #[.string sa, .string sb, .string sc, .int .i64 xd, .int .i64 xt, .slice xA xn xc]) := Lib.hid (by rw [hpx]; rfl)
                      have HGX : Hid (GoodPR w10 BB px) := Lib.hid (by rw [hpx]; exact ⟨by rw [← h1]; exact h2, own_low h3 HSq.out, h4⟩)
                      have HPT : Hid (E.time = xt) := Lib.hid (by rw [h1])
                      clear hpx h1 h2 h3 h4 HEX HIR HIS HO10 HP10 HBW10
                      obtain ⟨t0, t1, t2, t3, t4, t5⟩ := HQ.out.c6
                      have e4 : decide ((0 : Int) = 0) = true := rfl
                      clear e4
                      go_upto_block 2 with fail
                      clear t0 t1 t2 t3 t5
                      go_cut [15] from 97 to 111 (fun kv W => ∃ q : Nat, kv = .int .i64 (q : Int) ∧ q ≤ ps.length ∧ (∀ p ∈ ps.drop q, xt < p.val.1.time) ∧ (∀ r p, q = r + 1 → ps[r]? = some p → ¬ xt < p.val.1.time) ∧ Below w10.heap.size w10 W)
                      case first =>
                        go_wp2_with fail
                        go_loopw [15] (fun kv wr => ∃ q : Nat, kv = .int .i64 (q : Int) ∧ q ≤ ps.length ∧ Hid (∀ p ∈ ps.drop q, xt < p.val.1.time) ∧ Hid (Below w10.heap.size w10 wr)) (fun kv _ => (intOf kv).toNat)
                        case atStart => exact ⟨ps.length, rfl, Nat.le_refl _, Lib.hid (by rw [List.drop_length]; intro p hp; cases hp), Lib.hid (Below.refl _ _)⟩
                        case round =>
                          obtain ⟨q, rfl, hq, HHI, HBL⟩ := hrel
                          obtain ⟨wl, hwl⟩ : ∃ wl, wr = wl := ⟨_, rfl⟩
                          rw [hwl] at HBL ⊢
                          clear hwl
                          have t4 := (HBL.out.cell (p := ⟨Q, 4, none⟩) HQ.out.lt).trans t4
                          cases q with
                          | zero =>
                            have HNO : Hid (∀ r p, 0 = r + 1 → ps[r]? = some p → ¬ xt < p.val.1.time) := Lib.hid (fun r p h => by omega)
                            go_upto_region 21 with fail
                            go_quiet (fail)
                            obtain ⟨wq, hwq⟩ : ∃ wq, wl.drewN nq = wq := ⟨_, rfl⟩
                            have hbq : Below wl.heap.size wl wq := by rw [← hwq]; exact bdrawn (Below.refl _ _) _
                            rw [hwq]
                            have HBQ := Lib.hid (bthen HBL.out hbq)
                            clear hwq hbq t4
                            go_wp2_with fail
                            go_meet
                            exact ⟨0, rfl, hq, HHI.out, HNO.out, HBQ.out⟩
                          | succ q =>
                            have hqp : ps[q]? = some ps[q] := List.getElem?_eq_getElem (by omega)
                            obtain ⟨y, hy⟩ : ∃ y, ps[q] = y := ⟨_, rfl⟩
                            rw [hy] at hqp
                            have HQP := Lib.hid hqp
                            obtain ⟨g, hAg, hcg⟩ := HOW2.out.at_ hqp
                            have hgl : g < w10.heap.size := by have := HOL.out g (by rw [hAg]; rfl); have := HSQX.out; omega
                            subst hAg
                            have hcg := (HBL.out.cell (p := ⟨g, q * 6 + 4, none⟩) hgl).trans hcg
                            have q0 : (0 : Int) ≤ (q : Int) := by omega
                            have q1 : (q : Int) < (ps.length : Int) := by omega
                            have q2 : IntKind.i64.wrap ((q : Int) + 1 - 1) = (q : Int) := by rw [show (q : Int) + 1 - 1 = (q : Int) by omega]; exact IntWalk.i64_in _ (by omega)
                            have HDQ : Hid (ps.drop q = y :: ps.drop (q + 1)) := Lib.hid (drop_cons hqp)
                            obtain ⟨yt, hyt⟩ : ∃ yt, y.val.1.time = yt := ⟨_, rfl⟩
                            rw [hyt] at hcg
                            have HYT := Lib.hid hyt
                            clear hqp hy hyt hgl
                            by_cases hgt : xt < yt
                            · have g1 : decide (xt < yt) = true := decide_eq_true hgt
                              have HHI2 : Hid (∀ p ∈ ps.drop q, xt < p.val.1.time) := Lib.hid (fun p hp => by
                                rw [HDQ.out] at hp
                                rcases List.mem_cons.1 hp with rfl | hp
                                · rw [HYT.out]; exact hgt
                                · exact HHI.out p hp)
                              clear hgt
                              go_upto_region 21 with fail
                              go_quiet (fail)
                              obtain ⟨wq, hwq⟩ : ∃ wq, wl.drewN nq = wq := ⟨_, rfl⟩
                              have hbq : Below wl.heap.size wl wq := by rw [← hwq]; exact bdrawn (Below.refl _ _) _
                              rw [hwq]
                              have HBQ := Lib.hid (bthen HBL.out hbq)
                              clear hwq hbq t4 hcg
                              go_wp2_with fail
                              go_roundw
                              case rel => exact ⟨q, by go_num, by omega, HHI2, HBQ⟩
                              case measure => simp [intOf] <;> omega
                            · have g1 : decide (xt < yt) = false := decide_eq_false hgt
                              have HNO : Hid (∀ r p, q + 1 = r + 1 → ps[r]? = some p → ¬ xt < p.val.1.time) := Lib.hid (fun r p e h => by
                                have e : q = r := by omega
                                subst e
                                rw [HQP.out] at h
                                injection h with h
                                rw [← h, HYT.out]; exact hgt)
                              clear hgt
                              go_upto_region 21 with fail
                              go_quiet (fail)
                              obtain ⟨wq, hwq⟩ : ∃ wq, wl.drewN nq = wq := ⟨_, rfl⟩
                              have hbq : Below wl.heap.size wl wq := by rw [← hwq]; exact bdrawn (Below.refl _ _) _
                              rw [hwq]
                              have HBQ := Lib.hid (bthen HBL.out hbq)
                              clear hwq hbq t4 hcg
                              go_wp2_with fail
                              go_meet
                              exact ⟨q + 1, rfl, hq, HHI.out, HNO.out, HBQ.out⟩
                      case rest =>
                      obtain ⟨q, rfl, hq, hhi, hlo, hbl⟩ := hcut
                      have HSN : Hid ((ps.take q ++ [px] ++ ps.drop q).map (fun p => p.val.1) = sortS tlt (acc ++ [E])) := Lib.hid (by
                        have := row_snoc (px := px) HPS.out hq (by rw [HPX.out, HPT.out]; exact hhi) (by rw [HPX.out, HPT.out]; exact hlo)
                        rwa [HPX.out] at this)
                      obtain ⟨w11, hw11⟩ : ∃ w11, wc = w11 := ⟨_, rfl⟩
                      rw [hw11] at hbl ⊢
                      have HOW3 : Hid (OwnPR w11 BB (.slice Al ps.length cl) ps) := Lib.hid (OwnW.now HOW2.out hbl)
                      have HGP3 : Hid (∀ p ∈ ps, GoodPR w11 BB p) := Lib.hid (fun p hp => (HGP2.out p hp).now hbl)
                      have HGX3 := Lib.hid (HGX.out.now hbl)
                      have HBR3 : Hid (Below BB w7 w11) := Lib.hid (HBR2.out.trans (hbl.mono HS10.out))
                      have HQ3 := Lib.hid (HQ.out.now hbl)
                      have HS11 := Lib.hid (Nat.le_trans HS10.out hbl.size)
                      have HSQ3 : Hid (w9.heap.size ≤ w11.heap.size) := Lib.hid (Nat.le_trans HSQX.out hbl.size)
                      have HQH := Lib.hid hq
                      clear hw11 hbl hhi hlo HOW2 HGP2 HGX HBR2 HQ HPS HPX HPT t4
                      have HBE := Lib.hid (bone w11 (.cells #[] 69))
                      have HOE : Hid (OwnPR (w11.alloc (.cells #[] 69)) w11.heap.size (.slice (some ⟨w11.heap.size, 0, none⟩) 0 0) []) := Lib.hid (World.ownsRow_lit (base := w11.heap.size) (e := 69) (size := 6) w11 #[] 0 (Nat.le_refl _) (by decide) rfl)
                      have HSL3 : Hid (Sl 6 RPR (Lt w11.heap.size) w11 (.slice Al ps.length cl) ps) := Lib.hid (OwnW.sl HOW3.out cellPR_len fun _ _ x _ => rfl)
                      have HSZE : Hid (w11.heap.size ≤ (w11.alloc (.cells #[] 69)).heap.size) := Lib.hid (by simp)
                      have HDL : Hid (([] : List PR).length + (ps.drop q).length < 10000000) := Lib.hid (by rw [List.length_drop]; simp; omega)
                      go_upto_region 23 with fail
                      go_cut [16] from 112 to 116 (fun rv W => OwnPR W w11.heap.size rv (ps.drop q) ∧ Below w11.heap.size w11 W)
                      case first =>
                        rcases HFM.out with ⟨h0, hv0⟩ | ⟨g, c, hv0, hlc, hcm⟩
                        · injection hv0 with e1 e2 e3
                          subst e1 e3 h0
                          have hq0 : q = 0 := by have := HQH.out; simp at this; exact this
                          subst hq0
                          have HSU : Hid (Sl 6 RPR (Lt (w11.alloc (.cells #[] 69)).heap.size) (w11.alloc (.cells #[] 69)) (.slice none 0 0) (([] : List PR).drop 0)) := Lib.hid Sl.none_
                          go_wp2_with (at_builtin; refine wpList_appendAllW (fc := cellPR) appEvs rfl (.tmp 112) (.tmp 115) rfl (w11.alloc (.cells #[] 69)) cellPR_len [] _ rfl HOE.out _ (([] : List PR).drop 0) rfl HSU.out (fun y c h => h) cellPR_one HDL.out HSZE.out ?_; intro v' w' hown hgr hat)
                          have hbg := HBE.out.trans (below_of_grown hgr HSZE.out (fun g' e => by have e' : some w11.heap.size = some g' := e; injection e' with e'; omega))
                          go_meet
                          exact ⟨hown, hbg⟩
                        · injection hv0 with e1 e2 e3
                          subst e1 e3
                          clear e2
                          by_cases hjc : q < cl
                          · have HSU : Hid (Sl 6 RPR (Lt (w11.alloc (.cells #[] 69)).heap.size) (w11.alloc (.cells #[] 69)) (.slice (some ⟨g, q * 6, none⟩) (ps.length - q) (cl - q)) (ps.drop q)) := Lib.hid (by
                              have h1 := Sl.below HSL3.out RPR.kept HBE.out HBE.out.size
                              have h2 := Sl.sub h1 q (ps.length - q) (cl - q) (by omega) (by omega) (by unfold maxLen; omega)
                              rw [Nat.zero_add, List.take_of_length_le (by rw [List.length_drop]; exact Nat.le_refl _)] at h2
                              exact h2)
                            have hne : ¬ q = cl := by omega
                            have hne2 : ¬ cl = q := by omega
                            go_wp2_with (at_builtin; refine wpList_appendAllW (fc := cellPR) appEvs rfl (.tmp 112) (.tmp 115) rfl (w11.alloc (.cells #[] 69)) cellPR_len [] _ rfl HOE.out _ (ps.drop q) rfl HSU.out (fun y c h => h) cellPR_one HDL.out HSZE.out ?_; intro v' w' hown hgr hat)
                            have hbg := HBE.out.trans (below_of_grown hgr HSZE.out (fun g' e => by have e' : some w11.heap.size = some g' := e; injection e' with e'; omega))
                            go_meet
                            exact ⟨hown, hbg⟩
                          · have hqc : q = cl := by omega
                            have hql : ps.length = q := by omega
                            have HSU : Hid (Sl 6 RPR (Lt (w11.alloc (.cells #[] 69)).heap.size) (w11.alloc (.cells #[] 69)) (.slice (some ⟨g, 0, none⟩) (ps.length - q) 0) (ps.drop q)) := Lib.hid (by
                              rw [List.drop_eq_nil_of_le (by omega), show ps.length - q = 0 by omega]
                              exact ⟨_, 0, rfl, Nat.le_refl _, by decide, fun i x hx => by simp at hx⟩)
                            clear hjc hql hlc
                            subst hqc
                            go_wp2_with (at_builtin; refine wpList_appendAllW (fc := cellPR) appEvs rfl (.tmp 112) (.tmp 115) rfl (w11.alloc (.cells #[] 69)) cellPR_len [] _ rfl HOE.out _ (ps.drop q) rfl HSU.out (fun y c h => h) cellPR_one HDL.out HSZE.out ?_; intro v' w' hown hgr hat)
                            have hbg := HBE.out.trans (below_of_grown hgr HSZE.out (fun g' e => by have e' : some w11.heap.size = some g' := e; injection e' with e'; omega))
                            go_meet
                            exact ⟨hown, hbg⟩
                      case rest =>
                      obtain ⟨hrow, hbw⟩ := hcut
                      obtain ⟨w12, hw12⟩ : ∃ w12, wc = w12 := ⟨_, rfl⟩
                      rw [hw12] at hrow hbw ⊢
                      obtain ⟨Av, cv, hrv⟩ := OwnPR.isSl hrow
                      subst hrv
                      have HRW := Lib.hid hrow
                      have HOW4 : Hid (OwnPR w12 BB (.slice Al ps.length cl) ps) := Lib.hid (OwnW.now HOW3.out hbw)
                      have HPR4 : Hid (OwnPR w12 BB (.slice Al q cl) (ps.take q)) := Lib.hid (HOW4.out.pre HQH.out)
                      have HGP4 : Hid (∀ p ∈ ps, GoodPR w12 BB p) := Lib.hid (fun p hp => (HGP3.out p hp).now hbw)
                      have HGX4 := Lib.hid (HGX3.out.now hbw)
                      have HBR4 : Hid (Below BB w7 w12) := Lib.hid (HBR3.out.trans (hbw.mono HS11.out))
                      have HQ4 := Lib.hid (HQ3.out.now hbw)
                      have HS12 := Lib.hid (Nat.le_trans HS11.out hbw.size)
                      have HSQ4 : Hid (w9.heap.size ≤ w12.heap.size) := Lib.hid (Nat.le_trans HSQ3.out hbw.size)
                      have HRL4 : Hid (∀ g, (Value.slice Av (ps.drop q).length cv).ownBlock = some g → w11.heap.size ≤ g ∧ g < w12.heap.size) := Lib.hid (fun g h => World.ownsRow.lt hrow g h)
                      have HSV : Hid (∀ W, (Instr.slice 36 (.slice Al ps.length cl) none (some (.int .i64 (q : Int))) none).run Tryz.prog W = .ok (.slice Al q cl) W) := Lib.hid (by
                        rcases HFM.out with ⟨h0, hv0⟩ | ⟨g, c, hv0, hlc, hcm⟩
                        · injection hv0 with e1 e2 e3
                          exact slPre Al ps.length cl q HQH.out (by rw [h0]; simp) (.inl ⟨e1, e3⟩)
                        · injection hv0 with e1 e2 e3
                          exact slPre Al ps.length cl q HQH.out (by omega) (.inr ⟨g, e1⟩))
                      clear hw12 hrow hbw HOW3 HGP3 HGX3 HBR3 HQ3 HBE HOE HSL3 HSZE HDL HFM
                      go_upto_region 24 with fail
                      have hqh := HQH.out
                      refine wp_region_rel4 (by kernel_rfl) (by kernel_rfl) (by kernel_rfl) (fun U W => w12.grownBy W (Value.slice Al ps.length cl).ownBlock ∧ (¬ U 5 → Below w12.heap.size w12 W)) (insP BB w12.heap.size (.slice Al ps.length cl) (.slice Al q cl) (.slice Av (ps.drop q).length cv) q (ps.take q) (ps.drop q) px #[.string sa, .string sb, .string sc, .int .i64 xd, .int .i64 xt, .slice xA xn xc] (Value.slice Al ps.length cl).ownBlock) insPD ?h0 ?hstep ?hend ?hall
                      case hall => exact hall_of (by kernel_rfl)
                      case h0 => exact ⟨grown_of_below (Below.refl _ _).drew _, fun _ => (Below.refl _ _).drew⟩
                      case hstep =>
                        intro i o ho listed ac W hsh hi hk' hRR hM hS
                        obtain ⟨hR, hRO⟩ := hRR
                        have hni := ready_not hi
                        have nd : ∀ j : Nat, (j == 4) = false → (j == 5) = false → ∀ k, insPD j k = true → ¬ Up listed k := fun j h4 h5 k h => by unfold insPD at h; rw [h4, h5] at h; cases h
                        have u75 : Up listed 7 → Up listed 5 := fun h => hsh.up h (by kernel_rfl)
                        have u87 : Up listed 8 → Up listed 7 := fun h => hsh.up h (by kernel_rfl)
                        match i, ho with
                        | 0, ho =>
                          injection ho with ho
                          subst ho
                          have e0 : ac.eval (.tmp 10) = .slice Al ps.length cl := slot_until (s := 10) (k := 8) (by kernel_rfl) (fun h => hni (hsh.up h (show Region.waitsFor .any _ 8 0 = true by kernel_rfl))) hS
                          exact wpM_moveV _ _ rfl e0 ⟨_, rfl, ⟨hR, fun h => hRO fun h' => h (.inr h')⟩, fun u hu => hu (by simp), fun j _ _ _ _ u h => h⟩
                        | 1, ho =>
                          injection ho with ho
                          subst ho
                          have e0 : ac.eval (.tmp 15) = .int .i64 (q : Int) := hk'.same (s := 15) (by kernel_rfl)
                          exact wpM_moveV _ _ rfl e0 ⟨_, rfl, ⟨hR, fun h => hRO fun h' => h (.inr h')⟩, fun u hu => hu (by simp), fun j _ _ _ _ u h => h⟩
                        | 2, ho =>
                          injection ho with ho
                          subst ho
                          have e0 : ac.eval (.tmp 117) = .slice Al ps.length cl := hM 0 (by decide) (ready_up hi (by kernel_rfl)) (nd 0 rfl rfl)
                          have e1 : ac.eval (.tmp 118) = .int .i64 (q : Int) := hM 1 (by decide) (ready_up hi (by kernel_rfl)) (nd 1 rfl rfl)
                          exact wpM_run (.slice Al q cl) W (by generalize ac.eval = ρ at e0 e1 ⊢; simp only [execOp]; simp [e0, e1, HSV.out, go_sem]) ⟨_, rfl, ⟨hR, fun h => hRO fun h' => h (.inr h')⟩, fun u hu => hu (by simp), fun j _ _ _ _ u h => h⟩
                        | 3, ho =>
                          injection ho with ho
                          subst ho
                          have e0 : ac.eval (.tmp 12) = .pointer (some ⟨Q, 0, none⟩) := hk'.same (s := 12) (by kernel_rfl)
                          have hne : some Q ≠ (Value.slice Al ps.length cl).ownBlock := fun e => by have := (HOL.out Q e.symm).2; have := HQL.out; omega
                          obtain ⟨x0, x1, x2, x3, x4, x5⟩ := (HQ4.out.grown hR hne).c6
                          exact wpM_load _ _ _ (.agg #[.string sa, .string sb, .string sc, .int .i64 xd, .int .i64 xt, .slice xA xn xc]) rfl e0 (by simp [go_sem, x0, x1, x2, x3, x4, x5]) ⟨_, rfl, ⟨hR, fun h => hRO fun h' => h (.inr h')⟩, fun u hu => hu (by simp), fun j _ _ _ _ u h => h⟩
                        | 4, ho =>
                          injection ho with ho
                          subst ho
                          have e0 : ac.eval (.tmp 120) = .agg #[.string sa, .string sb, .string sc, .int .i64 xd, .int .i64 xt, .slice xA xn xc] := hM 3 (by decide) (ready_up hi (by kernel_rfl)) (nd 3 rfl rfl)
                          refine wpM_slice _ _ _ (.slice (some ⟨W.heap.size, 0, none⟩) 1 1) _ #[(0, .agg #[.string sa, .string sb, .string sc, .int .i64 xd, .int .i64 xt, .slice xA xn xc])] rfl (by simp [e0]) (bsEv1 _ _ _ _ _ _ _ _ W) ⟨_, rfl, ⟨grown_trans hR (grown_of_below (bone W _) _), fun h => (hRO fun h' => h (.inr h')).trans ((bone W _).mono (hRO fun h' => h (.inr h')).size)⟩, fun u hu => ⟨W.heap.size, hu (by simp), Blk.new _ _ _, hR.size⟩, fun j _ _ _ _ u h => insPK (bone W _) j u h⟩
                        | 5, ho =>
                          injection ho with ho
                          subst ho
                          have h5 := hni
                          have hBW := hRO h5
                          have e0 : ac.eval (.tmp 119) = .slice Al q cl := hM 2 (by decide) (ready_up hi (by kernel_rfl)) (nd 2 rfl rfl)
                          obtain ⟨g, e1, hg, hgl⟩ := hM 4 (by decide) (ready_up hi (by kernel_rfl)) (fun k h => by have h : k = 5 ∨ k = 7 := (by simpa [insPD] using h); rcases h with rfl | rfl; { exact h5 }; { exact fun h7 => h5 (u75 h7) })
                          have e1 : ac.eval (.tmp 121) = .slice (some ⟨g, 0, none⟩) 1 1 := e1
                          have hown : OwnPR W BB (.slice Al q cl) (ps.take q) := OwnW.now HPR4.out hBW
                          have hsl : Sl 6 RPR (Lt W.heap.size) W (.slice (some ⟨g, 0, none⟩) 1 1) [px] := Sl.ofBlk (cs := cellPR px) (xs := [px]) (by rw [HCA.out]; exact hg) (by unfold maxLen; simp) (fun i x hx => by
                            match i, hx with
                            | 0, hx => injection hx with hx; subst hx; exact ⟨cellPR px, rfl, fun j u hu => by simpa using hu, rfl⟩
                            | i + 1, hx => simp at hx)
                          refine wp_appendAllW (fc := cellPR) appEvs (.tmp 119) (.tmp 121) rfl W cellPR_len (ps.take q) _ e0 hown _ [px] e1 hsl (fun y c h => h) cellPR_one (by rw [List.length_take]; simp; omega) (Nat.le_trans HS12.out hR.size) ?_
                          intro v' W' hown' hgr hat
                          have hgr : W.grownBy W' (Value.slice Al ps.length cl).ownBlock := by rw [ownBk Al ps.length cl q cl]; exact hgr
                          have hat : v'.ownBlock = (Value.slice Al ps.length cl).ownBlock ∨ v'.ownBlock = some W.heap.size := by rw [ownBk Al ps.length cl q cl]; exact hat
                          refine ⟨_, rfl, ⟨grown_trans hR hgr, fun h => absurd (.inl rfl) h⟩, fun u hu => ?_, fun j hj hji hu hd u h => ?_⟩
                          · rw [hu (by simp)]; exact ⟨hown', hat.elim .inl fun e => .inr ⟨_, e, hR.size⟩⟩
                          · match j, hj, hji, hd, h with
                            | 0, _, _, _, h => exact h
                            | 1, _, _, _, h => exact h
                            | 2, _, _, _, h => exact h
                            | 3, _, _, _, h => exact h
                            | 4, _, _, hd, _ => exact absurd hd (by decide)
                            | 5, _, hji, _, _ => exact absurd rfl hji
                            | 6, _, _, _, h => exact h
                            | 7, _, _, _, _ => exact absurd (u75 hu) h5
                            | 8, _, _, _, _ => exact absurd (u75 (u87 hu)) h5
                            | n + 9, hj, _, _, _ => exact absurd hj (by simp)
                        | 6, ho =>
                          injection ho with ho
                          subst ho
                          have e0 : ac.eval (.tmp 16) = .slice Av (ps.drop q).length cv := hk'.same (s := 16) (by kernel_rfl)
                          exact wpM_moveV _ _ rfl e0 ⟨_, rfl, ⟨hR, fun h => hRO fun h' => h (.inr h')⟩, fun u hu => hu (by simp), fun j _ _ _ _ u h => h⟩
                        | 7, ho =>
                          injection ho with ho
                          subst ho
                          obtain ⟨hown, hob⟩ := hM 5 (by decide) (ready_up hi (by kernel_rfl)) (fun k h => by have h : k = 7 := (by simpa [insPD] using h); rw [h]; exact hni)
                          have hown : OwnPR W BB (ac.eval (.tmp 122)) (ps.take q ++ [px]) := hown
                          have u5 : Up listed 5 := ready_up hi (by kernel_rfl)
                          have e1 : ac.eval (.tmp 123) = .slice Av (ps.drop q).length cv := hM 6 (by decide) (ready_up hi (by kernel_rfl)) (nd 6 rfl rfl)
                          have hrw : OwnPR W w11.heap.size (.slice Av (ps.drop q).length cv) (ps.drop q) := World.ownsRow.kept HRW.out hR (by cases e : (Value.slice Av (ps.drop q).length cv).ownBlock with | none => exact .inl rfl | some g2 => exact .inr (fun h => by have h1 := (HOL.out g2 h.symm).2; have h2 := (HRL4.out g2 e).1; have := HSQ3.out; omega))
                          have hsl : Sl 6 RPR (Lt W.heap.size) W (.slice Av (ps.drop q).length cv) (ps.drop q) := OwnW.sl hrw cellPR_len fun _ _ x _ => rfl
                          refine wp_appendAllW (fc := cellPR) appEvs (.tmp 122) (.tmp 123) rfl W cellPR_len (ps.take q ++ [px]) _ rfl hown _ (ps.drop q) e1 hsl (fun y c h => h) cellPR_one (by rw [List.length_append, List.length_take, List.length_drop]; simp; omega) (Nat.le_trans HS12.out hR.size) ?_
                          intro v' W' hown' hgr hat
                          refine ⟨_, rfl, ⟨grown_new hR hgr hob, fun h => absurd (.inr u5) h⟩, fun u hu => ?_, fun j hj hji hu hd u h => ?_⟩
                          · rw [hu (by simp)]; exact hown'
                          · match j, hj, hji, hd, h with
                            | 0, _, _, _, h => exact h
                            | 1, _, _, _, h => exact h
                            | 2, _, _, _, h => exact h
                            | 3, _, _, _, h => exact h
                            | 4, _, _, hd, _ => exact absurd hd (by decide)
                            | 5, _, _, hd, _ => exact absurd hd (by decide)
                            | 6, _, _, _, h => exact h
                            | 7, _, hji, _, _ => exact absurd rfl hji
                            | 8, _, _, _, _ => exact absurd (u87 hu) hni
                            | n + 9, hj, _, _, _ => exact absurd hj (by simp)
                        | 8, ho =>
                          injection ho with ho
                          subst ho
                          have e0 : OwnPR W BB (ac.eval (.tmp 124)) (ps.take q ++ [px] ++ ps.drop q) := hM 7 (by decide) (ready_up hi (by kernel_rfl)) (nd 7 rfl rfl)
                          exact wpM_assign _ _ rfl rfl ⟨_, rfl, ⟨hR, fun h => hRO fun h' => h (.inr h')⟩, fun u hu => by rw [hu (by simp)]; exact e0, fun j _ _ _ _ u h => h⟩
                        | n + 9, ho => simp at ho
                      case hend =>
                        intro ac W U hk' hR hM
                        have h8 : OwnPR W BB (Act.slot ac 10) (ps.take q ++ [px] ++ ps.drop q) := hM 8 (by decide) (fun k => rfl)
                        obtain ⟨vv, hvv⟩ : ∃ vv, Act.slot ac 10 = vv := ⟨_, rfl⟩
                        rw [hvv] at h8
                        have hown := h8
                        have hgr := hR.1
                        rw [hk'.form (by kernel_rfl)]
                        simp only [putsAll, Option.getD_some, Act.put, List.setIfInBounds_toArray, List.set_cons_zero, List.set_cons_succ, hvv]
                        clear h8 hvv hM hk' hR
                        have HO13 := Lib.hid hown
                        have HG13 : Hid (∀ p ∈ ps.take q ++ [px] ++ ps.drop q, GoodPR W BB p) := Lib.hid (fun p hp => by
                          have : p ∈ ps ∨ p = px := by
                            rcases List.mem_append.1 hp with hp | hp
                            · rcases List.mem_append.1 hp with hp | hp
                              · exact .inl (List.mem_of_mem_take hp)
                              · exact .inr (List.mem_singleton.1 hp)
                            · exact .inl (List.mem_of_mem_drop hp)
                          rcases this with h | h
                          · exact (HGP4.out p h).grown HOW4.out hgr
                          · rw [h]; exact HGX4.out.grown HOW4.out hgr)
                        have HB13 : Hid (Below BB w7 W) := Lib.hid (HBR4.out.trans (below_of_grown hgr HS12.out (fun g h => (HOL.out g h).1)))
                        have HJ2 : Hid (j + 1 = k + 1 + 1) := Lib.hid (by rw [HJ.out])
                        have HAL2 : Hid ((acc ++ [E]).length = k + 1) := Lib.hid (by rw [List.length_append, HAL.out]; rfl)
                        clear hown hgr HOW4 HGP4 HGX4 HBR4 HQ4 HRW HPR4
                        go_wp2_with fail
                        go_roundw
                        case rel => exact ⟨k + 1, j + 1, acc ++ [E], _, by go_num, HJ2, by omega, by omega, HAL2, HSN, HO13, HG13, HB13, HIN⟩
                        case measure => simp [intOf]; omega
              · have HFIN : Hid (impRows hd m 0 [] rs = (acc, (0, 0), 0)) := by show _ = _; rw [HIR.out, show k = rs.length by have := HJ.out; omega, List.drop_length]; rfl
                have HPE : Hid (p = (sortS tlt acc, (0, 0), 0)) := by show _ = _; rw [HEI.out, HFIN.out]
                have HSE : Hid (SlEv (Lt w9.heap.size) w9 (.slice Al ps.length cl) (sortS tlt acc)) := Lib.hid (by rw [← HPS.out]; exact HOW.out.sl HGP.out)
                have HOL : Hid (∀ g, (Value.slice Al ps.length cl).ownBlock = some g → BB ≤ g) := Lib.hid (fun g h => (World.ownsRow.lt HOW.out g h).1)
                have jn : ¬ (j : Int) < (rs.length : Int) + 1 := by omega
                have HOWz := HOW
                have HGPz := HGP
                have HPSz := HPS
                clear HIR HFIN HEI HAL HPL hlt HJ HPS
                have o0 := (HO9.out).c1
                obtain ⟨p0, p1⟩ := (HP9.out).c2
                have fo := (HO9.out).frozen 0
                have f0 := (HP9.out).frozen 0
                have f1 := (HP9.out).frozen 1
                go_wp2_with fail
                obtain ⟨hz1, hz2, hbz⟩ := put_op HO9.out HP9.out (show (w.heap.size + 1) ≠ (w.heap.size + 1 + 1) by omega) HBW9.out (show w.heap.size ≤ (w.heap.size + 1) by omega) (show w.heap.size ≤ (w.heap.size + 1 + 1) by omega) (.slice Al ps.length cl) (.int .i64 0) (.int .i64 0)
                have hq4 : SlEv (Lt (((w9.setCell ⟨w.heap.size + 1, 0, none⟩ (.slice Al ps.length cl)).setCell ⟨w.heap.size + 1 + 1, 0, none⟩ (.int .i64 0)).setCell ⟨w.heap.size + 1 + 1, 1, none⟩ (.int .i64 0)).heap.size) (((w9.setCell ⟨w.heap.size + 1, 0, none⟩ (.slice Al ps.length cl)).setCell ⟨w.heap.size + 1 + 1, 0, none⟩ (.int .i64 0)).setCell ⟨w.heap.size + 1 + 1, 1, none⟩ (.int .i64 0)) (.slice Al ps.length cl) (sortS tlt acc) := by
                  have hX1 : w.heap.size + 1 < BB := by have := HGW.out; omega
                  have hX2 : w.heap.size + 1 + 1 < BB := HGW.out
                  have far : ∀ (W : World) (g i : Nat) (u : Value), g < BB → OwnPR W BB (.slice Al ps.length cl) ps → (∀ p ∈ ps, GoodPR W BB p) → OwnPR (W.setCell ⟨g, i, none⟩ u) BB (.slice Al ps.length cl) ps ∧ ∀ p ∈ ps, GoodPR (W.setCell ⟨g, i, none⟩ u) BB p := fun W g i u hg ho hp => by
                    have hgr : W.grownBy (W.setCell ⟨g, i, none⟩ u) (some g) := gb_set W g i u
                    refine ⟨World.ownsRow.kept ho hgr (.inr (fun e => by have := (World.ownsRow.lt ho g e).1; omega)), fun p hpm => ?_⟩
                    obtain ⟨f1, f2, f3⟩ := hp p hpm
                    exact ⟨f1, World.ownsRow.kept f2 hgr (.inr (fun e => by have := (World.ownsRow.lt f2 g e).1; omega)), f3⟩
                  have a1 := far w9 _ 0 (.slice Al ps.length cl) hX1 HOWz.out HGPz.out
                  have a2 := far _ _ 0 (.int .i64 0) hX2 a1.1 a1.2
                  have a3 := far _ _ 1 (.int .i64 0) hX2 a2.1 a2.2
                  have := a3.1.sl a3.2
                  rwa [HPSz.out] at this
                generalize ((w9.setCell ⟨w.heap.size + 1, 0, none⟩ (.slice Al ps.length cl)).setCell ⟨w.heap.size + 1 + 1, 0, none⟩ (.int .i64 0)).setCell ⟨w.heap.size + 1 + 1, 1, none⟩ (.int .i64 0) = wz at hq4 hz1 hz2 hbz ⊢
                have r0 := hz1.c1
                obtain ⟨r1, r2⟩ := hz2.c2
                refine bodyPost_ret (v := .tuple #[.agg #[.slice Al ps.length cl], .agg #[.int .i64 0, .int .i64 0], .int .i64 0]) (by simp [results, Tryz.results17, go_sem, r0, r1, r2]) rfl ?_
                show RetImp _ _ _ _
                rw [HPE.out]
                exact ⟨_, rfl, hq4, hbz⟩
end Go.Proofs.YtoalecalahkblaaGreatDoor
