/- Texts of this seat, merged. -/
import Derived.Test.YtlmenhjlgmejkaaGreatDoorIn01
import Derived.Test.YtlmenhjlgmejkaaGreatDoorIn02
import Derived.Test.YtlmenhjlgmejkaaGreatDoorIn03
import Derived.Test.YtlmenhjlgmejkaaGreatDoorIn04
import Derived.Test.YtlmenhjlgmejkaaGreatDoorIn05
import Derived.Test.YtlmenhjlgmejkaaGreatDoorIn06
import Derived.Test.YtlmenhjlgmejkaaGreatDoorIn07
import Derived.Test.YtlmenhjlgmejkaaGreatDoorIn08
import Derived.Test.YtlmenhjlgmejkaaGreatDoorIn09
import Derived.Test.YtlmenhjlgmejkaaGreatDoorIn10
import Derived.Test.YtlmenhjlgmejkaaGreatDoorIn11
import Derived.Test.YtlmenhjlgmejkaaGreatDoorIn12
import Derived.Test.YtlmenhjlgmejkaaGreatDoorIn13
import Derived.Test.YtlmenhjlgmejkaaGreatDoorIn14
import Derived.Test.YtlmenhjlgmejkaaGreatDoorIn15
import Derived.Test.YtlmenhjlgmejkaaGreatDoorIn16
import Derived.Test.YtlmenhjlgmejkaaGreatDoorIn17
import Derived.Test.YtlmenhjlgmejkaaGreatDoorIn18
import Derived.Test.YtlmenhjlgmejkaaGreatDoorIn19
import Derived.Test.YtlmenhjlgmejkaaGreatDoorIn20
import Derived.Test.YtlmenhjlgmejkaaGreatDoorIn21
import Derived.Test.YtlmenhjlgmejkaaGreatDoorIn22
import Derived.Test.YtlmenhjlgmejkaaGreatDoorIn23
import Derived.Test.YtlmenhjlgmejkaaGreatDoorIn24
import Derived.Test.YtlmenhjlgmejkaaGreatDoorIn25
import Derived.Test.YtlmenhjlgmejkaaGreatDoorIn26
import Derived.Test.YtlmenhjlgmejkaaGreatDoorIn27
import Derived.Test.YtlmenhjlgmejkaaGreatDoorIn28
set_option linter.unusedSimpArgs false
set_option linter.unusedVariables false
namespace Go.Proofs.YtlmenhjlgmejkaaGreatDoor
open Go.RowKit
def R8 : ElemR Int := fun _ _ z cs => cs = [.int .u8 z] ∧ 0 ≤ z ∧ z ≤ 255
theorem R8.kept : ElemR.Kept R8 := fun _ _ _ _ _ _ _ _ h => h
def Sl8 := Sl 1 R8
theorem Sl8.now {w w' : World} {u : Value} {zs : List Int} (h : Sl8 (Lt w.heap.size) w u zs) (hb : Below w.heap.size w w') : Sl8 (Lt w'.heap.size) w' u zs := Sl.below h R8.kept hb hb.size
def RetTrue (w : World) (e : Ending) (w' : World) : Prop := e = .returned (.bool true) ∧ Below w.heap.size w w'
theorem init_state {d : DNet} (h : dvalidB d = true) : stateB d ⟨oneB d.net d.net.source, d.init⟩ = true := by
  obtain ⟨h1, h2, _⟩ := dvalid_parts h
  refine state_mk h1 ?_ h2
  have hp : 1 ≤ d.net.places := by
    unfold validB at h1
    simp only [Bool.and_eq_true, decide_eq_true_eq] at h1
    exact h1.1.1.1.1.1
  show markingB d.net.places (oneB d.net d.net.source) = true
  unfold markingB oneB
  rw [Bool.and_eq_true, decide_eq_true_eq, List.all_eq_true]
  refine ⟨by rw [List.length_set, List.length_replicate]; omega, fun z hz => ?_⟩
  rcases List.mem_or_eq_of_mem_set hz with hz | rfl
  · rw [List.eq_of_mem_replicate hz]; decide
  · decide
theorem same_grown {B : Nat} {w w' : World} {row : Option Nat} (h : w.grownBy w' row) (hr : ∀ g, row = some g → g < B) : Same (Fr B w) w w' := fun b hb => h.block b hb.2 (fun e => by have := hr b e.symm; have := hb.1; omega)
theorem marks_of {D : Nat → Prop} {w : World} {a b : Value} {s : St} (h : IsSt D w (.agg #[a, b]) s) : SlI D w a s.marks := by
  obtain ⟨m, v, e, h1, _⟩ := h
  injection e with e
  injection e with e
  injection e with e0 e
  subst e0
  exact h1
set_option maxHeartbeats 16000000 in
set_option maxRecDepth 100000 in
theorem inside_any {n : Nat} (d : DNet) (cs : List Int) (u cv : Value) (w : World) (h : IsDn n (Lt w.heap.size) w u d) (hc : Sl8 (Lt w.heap.size) w cv cs) (ha : Amb w) :
    Calls Tryz.prog 9 #[u, cv] w (RetTrue w) := by
  have h0 := h
  obtain ⟨At, ct, Ax, cx, iv, Ag, cg, Aw, cw, rfl, dn1, dn2, dn3, dn4, dn5, ⟨t1, t2⟩, ⟨x1, x2⟩, ⟨g1, g2⟩, v1, v2⟩ := h.open_
  obtain ⟨Ac, cc, rfl, k1, k2, hc⟩ := Sl.open_ hc
  clear h dn3 dn4 dn5
  have hb := bone w (.cells #[.int .i64 d.net.places, .slice At d.net.trans.length ct, .int .i64 d.net.source, .int .i64 d.net.sink, .slice Ax d.vars.length cx, iv, .slice Ag d.guards.length cg, .slice Aw d.writes.length cw] 30)
  have hB := Blk.new w 30 #[.int .i64 d.net.places, .slice At d.net.trans.length ct, .int .i64 d.net.source, .int .i64 d.net.sink, .slice Ax d.vars.length cx, iv, .slice Ag d.guards.length cg, .slice Aw d.writes.length cw]
  have hd1 := h0.now hb
  have hc1 := Sl8.now hc hb
  have ha1 := ha.now hb
  go_enter Tryz.func9, Tryz.ntmps9
  go_upto_region 1 with fail
  generalize w.alloc (.cells #[.int .i64 d.net.places, .slice At d.net.trans.length ct, .int .i64 d.net.source, .int .i64 d.net.sink, .slice Ax d.vars.length cx, iv, .slice Ag d.guards.length cg, .slice Aw d.writes.length cw] 30) = w1 at *
  clear h0 hc ha
  go_wp2_with fail
  refine (awake_any w1 ha1).mono ?_
  rintro e w2 ⟨rfl, hb2⟩
  have hbw2 := bthen hb hb2
  have hB2 := hB.now hb2
  have hd2 := hd1.now hb2
  have hc2 := Sl8.now hc1 hb2
  clear hd1 hc1 ha1 hB
  obtain ⟨q0, q1, q2, q3, q4, q5, q6, q7⟩ := hB2.c8
  go_wp2_with fail
  refine (few_any n d _ w2 hd2).mono ?_
  rintro e w3 ⟨q, rfl, hq, hb3⟩
  have hbw3 := bthen hbw2 hb3
  have hB3 := hB2.now hb3
  have hd3 := hd2.now hb3
  have hc3 := Sl8.now hc2 hb3
  clear hd2 hc2 hB2 q0 q1 q2 q3 q4 q5 q6 q7
  obtain ⟨q0, q1, q2, q3, q4, q5, q6, q7⟩ := hB3.c8
  cases q
  · go_wp2_with fail
    go_ret
    exact ⟨rfl, hbw3⟩
  have hl : d.vars.length ≤ 1000000 := by have := (hq rfl).2.2.1; omega
  clear hq
  by_cases c1 : cs.length > 40
  · go_wp2_with fail
    go_ret
    exact ⟨rfl, hbw3⟩
  have HL := Lib.hid (show cs.length ≤ 40 by omega)
  go_wp2_with fail
  clear c1
  refine (dinit_any n d _ w3 hd3 hl).mono ?_
  rintro e w4 ⟨us, rfl, hs4, hb4⟩
  have hbw4 := bthen hbw3 hb4
  have hB4 := hB3.now hb4
  have hd4 := hd3.now hb4
  have hc4 := Sl8.now hc3 hb4
  clear hd3 hc3 hB3 q0 q1 q2 q3 q4 q5 q6 q7
  obtain ⟨q0, q1, q2, q3, q4, q5, q6, q7⟩ := hB4.c8
  cases hv : dvalidB d with
  | false =>
    rw [show dinitE d = (noSt, 1) from by unfold dinitE; rw [hv]; rfl] at hs4 ⊢
    have hs0 := hs4
    obtain ⟨Am, cm, Av, cv, rfl, _, _, ⟨_, _⟩, _, _⟩ := hs4.open_
    clear hs4
    have hb5 := bone w4 (.cells #[.slice Am noSt.marks.length cm, .slice Av noSt.vals.length cv] 33)
    have HN := Lib.hid (none_any noSt _ _ (hs0.now hb5))
    have hbw5 := bthen hbw4 hb5
    clear hs0 hv
    go_wp2_with fail
    refine HN.out.mono ?_
    rintro e w6 ⟨rfl, hb6⟩
    go_wp2_with fail
    go_ret
    exact ⟨rfl, bthen hbw5 hb6⟩
  | true =>
    rw [show dinitE d = (⟨oneB d.net d.net.source, d.init⟩, 0) from by unfold dinitE; rw [hv]; rfl] at hs4 ⊢
    have HI := Lib.hid (Ins.begin hv (init_state hv))
    clear hv
    generalize (⟨oneB d.net d.net.source, d.init⟩ : St) = s at *
    dsimp only at hs4 ⊢
    obtain ⟨Am, cm, Av, cv, rfl, m1, m2, ⟨m3, m4⟩, m5, m6⟩ := hs4.open_
    have hb5 := bone w4 (.cells #[.slice Am s.marks.length cm, .slice Av s.vals.length cv] 33)
    have hb6 := bbox hb5 (.cells #[.slice Am s.marks.length cm, .slice Av s.vals.length cv] 33)
    have hS5 := (Blk.new w4 33 #[.slice Am s.marks.length cm, .slice Av s.vals.length cv]).alloc (.cells #[.slice Am s.marks.length cm, .slice Av s.vals.length cv] 33)
    have hS6 := Blk.new_at (t := 33) (cs := #[.slice Am s.marks.length cm, .slice Av s.vals.length cv]) (World.size_alloc w4 (.cells #[.slice Am s.marks.length cm, .slice Av s.vals.length cv] 33))
    have hbw6 := bthen hbw4 hb6
    have hs6 := hs4.now hb6
    have sm4 := marks_of hs4
    clear m1 m2 hb5
    go_upto_region 10 with fail
    generalize hw6 : (w4.alloc (.cells #[.slice Am s.marks.length cm, .slice Av s.vals.length cv] 33)).alloc (.cells #[.slice Am s.marks.length cm, .slice Av s.vals.length cv] 33) = w6 at *
    clear hw6
    have hlt6 := hS6.lt
    have hsz4 := hb6.size
    clear q0 q1 q2 q3 q4 q5 q6 q7
    go_wp2_with fail
    go_loopw [8, 52] (fun lv i W => ∃ (j : Nat) (now : St) (l : List Int) (mv vv : Value), j ≤ cs.length ∧ i = .int .i64 j ∧ Ins d s now l ∧ l.length ≤ j ∧ (∀ z ∈ l, Fit z) ∧ W.ownsRow w6.heap.size 3 1 lv l.length (l.map (Value.int .i64)) ∧
      Blk W (w4.heap.size + 1) 33 #[mv, vv] ∧ IsSt (Lt W.heap.size) W (.agg #[mv, vv]) now ∧ Below (w4.heap.size + 1) w6 W ∧ w6.heap.size ≤ W.heap.size) (fun _ i _ => cs.length - (intOf i).toNat)
    case atStart => exact ⟨0, s, [], _, _, Nat.zero_le _, rfl, HI.out, Nat.le_refl _, by simp, World.ownsRow_nil _ _ _ _, hS6, hs6, Below.refl _ _, Nat.le_refl _⟩
    case round =>
      obtain ⟨j, now, l, mv, vv, hj, rfl, hin, hlj, hlf, hrow, hNow, hnow, hbr, hszr⟩ := hrel
      have h4r : Below w4.heap.size w4 wr := hb6.trans (hbr.mono (by omega))
      have hbwr := bthen hbw4 h4r
      have hdr := hd4.now h4r
      have hcr := Sl8.now hc4 h4r
      have hBr := hB4.now h4r
      have hS5r : Blk wr w4.heap.size 33 _ := hS5.below hbr (by omega)
      obtain ⟨Am', cm', Av', cv', ev, m1', m2', ⟨m3', m4'⟩, m5', m6'⟩ := hnow.open_
      injection ev with ev
      injection ev with ev
      injection ev with ev0 ev
      injection ev with ev1 _
      subst ev0 ev1
      obtain ⟨q0, q1, q2, q3, q4, q5, q6, q7⟩ := hBr.c8
      obtain ⟨y0, y1⟩ := hNow.c2
      by_cases hlt : j < cs.length
      · obtain ⟨b, o, z, v, rfl, hD, hx, ⟨ez, z1, z2⟩, e0⟩ := Sl.at1 hcr hlt
        injection ez with ez
        subst ez
        have HE := denabled_any n d now _ _ wr hdr hnow hl
        rw [hin.enabled] at HE
        have HE := Lib.hid HE
        have HIN := Lib.hid hin
        have HROW := Lib.hid hrow
        clear hx hD hin hrow
        go_wp2_with fail
        refine HE.out.mono ?_
        rintro e w7 ⟨v7, rfl, hs7, hb7⟩
        have hbw7 := bthen hbwr hb7
        have hd7 := hdr.now hb7
        have hB7 := hBr.now hb7
        have hS57 := hS5r.now hb7
        have hNow7 := hNow.now hb7
        have hnow7 := hnow.now hb7
        have hbr7 : Below (w4.heap.size + 1) w6 w7 := hbr.trans (hb7.mono (by have := hbr.size; omega))
        clear HE q0 q1 q2 q3 q4 q5 q6 q7 y0 y1 hdr hBr hS5r hNow hnow m2' hcr hbr
        obtain ⟨q0, q1, q2, q3, q4, q5, q6, q7⟩ := hB7.c8
        obtain ⟨y0, y1⟩ := hNow7.c2
        obtain ⟨A7, c7, rfl, g7, g8, hs7⟩ := hs7.open_
        have HFI := Lib.hid (fun t (ht : t ∈ firesTo d now d.net.trans.length) => HIN.out.fires ht)
        generalize firesTo d now d.net.trans.length = can at *
        by_cases hz : can.length = 0
        · have HLF := Lib.hid hlf
          have hll := SlI.of_own (own_now HROW.out hb7) HLF.out
          have hl40 : l.length ≤ 40 := by have := HL.out; omega
          obtain ⟨Al, cl, rfl, l1, l2, hll⟩ := Sl.open_ hll
          have hll : SlI (Lt w7.heap.size) w7 (.slice Al l.length cl) l := hll
          clear hlf
          have HR1 := drun_any n d s l _ _ _ w7 (hd4.now (hb6.trans (hbr7.mono (by omega)))) (hs4.now (hb6.trans (hbr7.mono (by omega)))) hll hl
          rw [HIN.out.drun (by omega)] at HR1
          have HR1 := Lib.hid HR1
          have HR2 := Lib.hid (fun W (hW : Below w7.heap.size w7 W) => run_any d.net _ _ _ s.marks l W ((dn1.now hbw7).now hW) ((sm4.now (hb6.trans (hbr7.mono (by omega)))).now hW) (hll.now hW))
          rw [HIN.out.pruns (by omega)] at HR2
          obtain ⟨q0, q1, q2, q3, q4, q5, q6, q7⟩ := hB7.c8
          obtain ⟨y0, y1⟩ := hNow7.c2
          obtain ⟨z0, z1⟩ := hS57.c2
          clear HIN HLF hll
          go_wp2_with fail
          refine HR1.out.mono ?_
          rintro e wa ⟨ua, rfl, hua, hba⟩
          obtain ⟨Aa, ca, Ba, da, rfl, p1, p2, ⟨p3, p4⟩, p5, p6⟩ := hua.open_
          have hBa := hB7.now hba
          have hSa := hS57.now hba
          have hNa := hNow7.now hba
          have hna := hnow7.now hba
          have hbwa := bthen hbw7 hba
          clear HR1 q0 q1 q2 q3 q4 q5 q6 q7 y0 y1 z0 z1 p1 p2
          obtain ⟨q0, q1, q2, q3, q4, q5, q6, q7⟩ := hBa.c8
          obtain ⟨y0, y1⟩ := hNa.c2
          obtain ⟨z0, z1⟩ := hSa.c2
          go_upto_region 26 with fail
          have hbb := bone wa (.cells #[.slice Aa now.marks.length ca, .slice Ba now.vals.length da] 33)
          have hP := Blk.new wa 33 #[.slice Aa now.marks.length ca, .slice Ba now.vals.length da]
          generalize hwb : wa.alloc (.cells #[.slice Aa now.marks.length ca, .slice Ba now.vals.length da] 33) = wb at *
          clear hwb
          have hBb := hBa.now hbb
          have hSb := hSa.now hbb
          have hNb := hNa.now hbb
          have hnb := hna.now hbb
          have hub := hua.now hbb
          have hbwb := bthen hbwa hbb
          have HRB := Lib.hid (HR2.out wb (bthen hba hbb))
          clear HR2 hba hbb q0 q1 q2 q3 q4 q5 q6 q7 y0 y1 z0 z1
          obtain ⟨q0, q1, q2, q3, q4, q5, q6, q7⟩ := hBb.c8
          obtain ⟨z0, z1⟩ := hSb.c2
          go_wp2_with fail
          refine HRB.out.mono ?_
          rintro e wc ⟨xc, rfl, hxc, hbc⟩
          obtain ⟨Ac2, cc2, rfl, c21, c22, _⟩ := hxc.open_
          have hNc := hNb.now hbc
          have hPc := hP.now hbc
          have hnc := hnb.now hbc
          have huc := hub.now hbc
          have hbwc := bthen hbwb hbc
          clear HRB q0 q1 q2 q3 q4 q5 q6 q7 z0 z1
          obtain ⟨y0, y1⟩ := hNc.c2
          obtain ⟨z0, z1⟩ := hPc.c2
          have HS1 := sameSt_ref now now _ _ wc huc hnc
          rw [sameSt_self] at HS1
          have HS1 := Lib.hid HS1
          have e1 : (((l.length : Nat) : Int) == ((l.length : Nat) : Int)) = true := beq_self_eq_true _
          go_wp2_with fail
          refine HS1.out.mono ?_
          rintro e wd ⟨rfl, hbd⟩
          have hNd := hNc.now hbd
          have hnd := hnc.now hbd
          have hxd := hxc.now hbd
          have hbwd := bthen hbwc hbd
          clear HS1 y0 y1 z0 z1
          obtain ⟨y0, y1⟩ := hNd.c2
          obtain ⟨_, _, _, _, ev, hmd, _⟩ := hnd.open_
          have HE1 := equalI _ _ now.marks now.marks wd hxd (marks_of hnd)
          rw [beq_self_eq_true] at HE1
          have HE1 := Lib.hid HE1
          go_wp2_with fail
          refine HE1.out.mono ?_
          rintro e we ⟨rfl, q, rfl⟩
          go_wp2_with fail
          go_ret
          exact ⟨rfl, bdrawn hbwd q⟩
        have z3 : ((can.length : Int) == 0) = false := by rw [beq_eq_false_iff_ne]; omega
        obtain ⟨zn, rfl⟩ := Int.eq_ofNat_of_zero_le z1
        have hk : zn % can.length < can.length := Nat.mod_lt _ (by omega)
        have hrem : ((zn : Int) % (can.length : Int)) = ((zn % can.length : Nat) : Int) := by norm_cast
        generalize zn % can.length = k at *
        obtain ⟨b7, o7, t, rfl, hD7, ht, hft, hct⟩ := hs7.at_ hk
        have hT := Lib.hid (HFI.out t (List.mem_of_getElem? ht))
        have i1 : (0 : Int) ≤ (k : Int) := by omega
        have i2 : (k : Int) < (can.length : Int) := by omega
        have HFR := Lib.hid (dfire_anyF n d now t _ _ w7 hd7 hnow7 hl)
        have HFT := Lib.hid hft
        clear ht hft hD7 HFI
        go_wp2_with fail
        refine HFR.out.mono ?_
        rintro e w8 ⟨un, rfl, hnx, hb8⟩
        rw [HIN.out.fire] at hnx ⊢
        have HST := Lib.hid (HIN.out.step hT.out)
        have HPF := Lib.hid (HIN.out.pfire hT.out)
        have HZ := hT.out
        generalize fireD d now t = p at *
        obtain ⟨nx, pc⟩ := p
        dsimp only at hnx HZ ⊢
        subst HZ
        obtain ⟨An, cn, Bn, dn, rfl, x3, x4, ⟨x5, x6⟩, x7, x8⟩ := hnx.open_
        have hbw8 := bthen hbw7 hb8
        have hd8 := hd7.now hb8
        have hB8 := hB7.now hb8
        have hS58 := hS57.now hb8
        have hNow8 := hNow7.now hb8
        have hnow8 := hnow7.now hb8
        have hbr8 : Below (w4.heap.size + 1) w6 w8 := hbr7.trans (hb8.mono (by have := hbr7.size; omega))
        clear HFR q0 q1 q2 q3 q4 q5 q6 q7 y0 y1 hd7 hB7 hS57 hNow7 hnow7 hbr7 hs7 hct hrem z3 i1 i2
        obtain ⟨q0, q1, q2, q3, q4, q5, q6, q7⟩ := hB8.c8
        obtain ⟨y0, y1⟩ := hNow8.c2
        go_upto_region 19 with fail
        have hb9 := bone w8 (.cells #[.slice An nx.marks.length cn, .slice Bn nx.vals.length dn] 33)
        have hX9 := Blk.new w8 33 #[.slice An nx.marks.length cn, .slice Bn nx.vals.length dn]
        generalize hw9 : w8.alloc (.cells #[.slice An nx.marks.length cn, .slice Bn nx.vals.length dn] 33) = w9 at *
        clear hw9
        have hbw9 := bthen hbw8 hb9
        have hd9 := hd8.now hb9
        have hB9 := hB8.now hb9
        have hS59 := hS58.now hb9
        have hNow9 := hNow8.now hb9
        have hnow9 := hnow8.now hb9
        have hx3 := SlI.nowF x3 hb9
        have hx4 := SlV.nowF x4 hb9
        have hbr9 : Below (w4.heap.size + 1) w6 w9 := hbr8.trans (hb9.mono (by have := hbr8.size; omega))
        clear q0 q1 q2 q3 q4 q5 q6 q7 y0 y1 hd8 hB8 hS58 hNow8 hnow8 hbr8 x3 x4 hnx
        obtain ⟨q0, q1, q2, q3, q4, q5, q6, q7⟩ := hB9.c8
        obtain ⟨y0, y1⟩ := hNow9.c2
        obtain ⟨u0, u1⟩ := hX9.c2
        have hm9 := ((m1'.now hb7).now hb8).now hb9
        have HPX := fireP_any d.net _ _ now.marks t w9 (dn1.now hbw9) hm9
        rw [HPF.out] at HPX
        have HPX := Lib.hid HPX
        go_wp2_with fail
        refine HPX.out.mono ?_
        rintro e w10 ⟨vp, rfl, hvp, hb10⟩
        have hbw10 := bthen hbw9 hb10
        have hB10 := hB9.now hb10
        have hX10 := hX9.now hb10
        have hNow10 := hNow9.now hb10
        have hx34 := SlI.nowF hx3 hb10
        have hx44 := SlV.nowF hx4 hb10
        clear q0 q1 q2 q3 q4 q5 q6 q7 y0 y1 u0 u1 HPX
        obtain ⟨q0, q1, q2, q3, q4, q5, q6, q7⟩ := hB10.c8
        obtain ⟨u0, u1⟩ := hX10.c2
        have HIA := inAllE_any d.vars nx.vals _ _ w10 (dn2.now hbw10) hx44.weak hl
        rw [HST.out.inside] at HIA
        have HIA := Lib.hid HIA
        go_wp2_with fail
        refine HIA.out.mono ?_
        rintro e w11 ⟨rfl, hb11⟩
        have hbw11 := bthen hbw10 hb11
        have hX11 := hX10.now hb11
        have hNow11 := hNow10.now hb11
        have hx35 := SlI.nowF hx34 hb11
        have hx45 := SlV.nowF hx44 hb11
        obtain ⟨Ap, cp, rfl, _, _, _⟩ := hvp.open_
        have HE1 := equalI _ _ nx.marks nx.marks w11 (hvp.now hb11) hx35.weak
        rw [beq_self_eq_true] at HE1
        have HE1 := Lib.hid HE1
        clear HIA q0 q1 q2 q3 q4 q5 q6 q7 u0 u1 hvp
        obtain ⟨u0, u1⟩ := hX11.c2
        go_wp2_with fail
        refine HE1.out.mono ?_
        rintro e w12 ⟨rfl, qd, rfl⟩
        clear HE1 u0 u1
        have hbz : Below w11.heap.size w11 (w11.drewN qd) := bdrawn (Below.refl _ _) qd
        go_upto_region 23 with fail
        generalize w11.drewN qd = w12 at *
        have hX12 := hX11.now hbz
        have hNow12 := hNow11.now hbz
        have hx36 := SlI.nowF hx35 hbz
        have hx46 := SlV.nowF hx45 hbz
        have hb7x : Below w7.heap.size w7 w12 := bthen (bthen (bthen (bthen hb8 hb9) hb10) hb11) hbz
        have hrow7 := own_now HROW.out hb7
        have hrow12 := own_now hrow7 hb7x
        have hbr12 : Below (w4.heap.size + 1) w6 w12 := hbr9.trans ((bthen (bthen hb10 hb11) hbz).mono (by have := hbr9.size; omega))
        have hsz12 : w6.heap.size ≤ w12.heap.size := hbr12.size
        have hlen8 : l.length < 10000000 := by have := HL.out; omega
        have hs78 := hb8.size
        have hgt7 : ∀ g, Value.ownBlock u8 = some g → w6.heap.size ≤ g ∧ g < w7.heap.size := fun g hg => World.ownsRow.lt hrow7 g hg
        clear hX11 hNow11 hx35 hx45 hX10 hNow10 hx34 hx44 hbw11 hrow7
        obtain ⟨u0, u1⟩ := hX12.c2
        refine wp_region_held_tail 5 (fun W => W.cell? ⟨w8.heap.size, 0, none⟩ = some (.slice An nx.marks.length cn) ∧ W.cell? ⟨w8.heap.size, 1, none⟩ = some (.slice Bn nx.vals.length dn)) (by kernel_rfl) (by kernel_rfl) ⟨u0, u1⟩ (fun hHeld => ?_)
        simp only [List.take_succ_cons, List.take_zero]
        refine takeL (v := ?v0) 0 rfl (by kernel_rfl) (by kernel_rfl) (by kernel_rfl) (fun _ _ _ h => h) rfl ?hy0 hHeld ?rest0
        case hy0 => (intro W hW; obtain ⟨k0, k1⟩ := hW; go_simp <;> rfl)
        simp only [Act.put, List.setIfInBounds_toArray, List.set_cons_zero, List.set_cons_succ]
        refine takeL (v := ?v1) 1 rfl (by kernel_rfl) (by kernel_rfl) (by kernel_rfl) (fun _ _ _ h => h) rfl ?hy1 hHeld ?rest1
        case hy1 => (intro W hW; obtain ⟨k0, k1⟩ := hW; go_simp <;> rfl)
        simp only [Act.put, List.setIfInBounds_toArray, List.set_cons_zero, List.set_cons_succ]
        refine takeL (v := ?v2) 2 rfl (by kernel_rfl) (by kernel_rfl) (by kernel_rfl) (fun _ _ _ h => h) rfl ?hy2 hHeld ?rest2
        case hy2 => (intro W hW; obtain ⟨k0, k1⟩ := hW; go_simp <;> rfl)
        simp only [Act.put, List.setIfInBounds_toArray, List.set_cons_zero, List.set_cons_succ]
        refine onlyL 3 rfl rfl (by kernel_rfl) (fun K hK => ?_)
        go_simp
        have hba : Below w12.heap.size w12 (w12.drew.alloc (.cells #[.int .i64 t] 3)) := bbox (Below.refl _ _).drew _
        obtain ⟨k0, k1⟩ := (hX12.now hba).c2
        refine hK.out _ _ ⟨k0, k1⟩ (fun hHeld => ?_)
        clear hK K k0 k1
        refine onlyL 4 rfl rfl (by kernel_rfl) (fun K hK => ?_)
        refine wp_push appInts (.tmp 121) (.tmp 123) rfl w12.drew [.int .i64 t] rfl (by simp [Value.oneCell']) _ l.length (l.map (Value.int .i64)) rfl hrow12 rfl hlen8 hsz12 ?_
        intro v' w13 hown' hgr hat
        have hgr4 : w12.grownBy w13 (Value.ownBlock u8) := ⟨hgr.os, hgr.tape, hgr.output, hgr.size, hgr.block⟩
        have hX13 := hX12.grown hgr4 (fun e => by have := (hgt7 _ e.symm).2; omega)
        have hNow13 := hNow12.grown hgr4 (fun e => by have := (hgt7 _ e.symm).1; omega)
        have hsame := same_grown hgr4 (fun g hg => (hgt7 g hg).2)
        have hx37 : SlI (Fr w7.heap.size w13) w13 _ _ := Sl.keep hx36 RInt.kept (fun b hb => ⟨hb.1, Nat.lt_of_lt_of_le hb.2 hgr4.size⟩) hsame
        have hx47 : SlV (Fr w7.heap.size w13) w13 _ _ := Sl.keep hx46 RVal.kept (fun b hb => ⟨hb.1, Nat.lt_of_lt_of_le hb.2 hgr4.size⟩) hsame
        have hb13 : Below (w4.heap.size + 1) w12 w13 := below_of_grown hgr4 (by omega) (fun g hg => by have := (hgt7 g hg).1; omega)
        obtain ⟨k0, k1⟩ := hX13.c2
        refine hK.out _ _ ⟨k0, k1⟩ (fun hHeld => ?_)
        clear hK K k0 k1
        refine doneL (by kernel_rfl) ?_
        simp only [List.drop_succ_cons, List.drop_zero]
        have f0 := hNow13.frozen 0
        have f1 := hNow13.frozen 1
        obtain ⟨y0, y1⟩ := hNow13.c2
        have hgs : w13.grownBy ((w13.setCell ⟨w4.heap.size + 1, 0, none⟩ (.slice An nx.marks.length cn)).setCell ⟨w4.heap.size + 1, 1, none⟩ (.slice Bn nx.vals.length dn)) (some (w4.heap.size + 1)) := gw_trans (gw_set _ _ _ _) (gw_set _ _ _ _)
        have hownF := hown'.kept hgs (.inr (fun e => by have := (World.ownsRow.lt hown' _ e).1; omega))
        have hNowF := hNow13.set2 (.slice An nx.marks.length cn) (.slice Bn nx.vals.length dn)
        have hxF := (SlI.set2F hx37 hNow13 (.slice An nx.marks.length cn) (.slice Bn nx.vals.length dn)).weak
        have hyF := (SlV.set2F hx47 hNow13 (.slice An nx.marks.length cn) (.slice Bn nx.vals.length dn)).weak
        have hbF : Below (w4.heap.size + 1) w6 ((w13.setCell ⟨w4.heap.size + 1, 0, none⟩ (.slice An nx.marks.length cn)).setCell ⟨w4.heap.size + 1, 1, none⟩ (.slice Bn nx.vals.length dn)) := ((hbr12.trans hb13).setCell (p := ⟨w4.heap.size + 1, 0, none⟩) (Nat.le_refl _) _).setCell (p := ⟨w4.heap.size + 1, 1, none⟩) (Nat.le_refl _) _
        go_wp2_with fail
        go_roundw
        case rel =>
          refine ⟨j + 1, nx, l ++ [t], _, _, by omega, by go_num, HST.out, by simp; omega, ?_, ?_, hNowF, ⟨_, _, rfl, hxF, hyF⟩, hbF, hbF.size⟩
          · intro z hz
            rcases List.mem_append.1 hz with hz | hz
            · exact hlf z hz
            · rw [List.mem_singleton] at hz; subst hz; exact HFT.out
          · simpa using hownF
        case measure => simp [intOf]; omega
      · obtain rfl : j = cs.length := by omega
        have HIN := Lib.hid hin
        have HLF := Lib.hid hlf
        have hll := SlI.of_own hrow HLF.out
        have hl40 : l.length ≤ 40 := by have := HL.out; omega
        obtain ⟨Al, cl, rfl, l1, l2, hll⟩ := Sl.open_ hll
        have hll : SlI (Lt wr.heap.size) wr (.slice Al l.length cl) l := hll
        clear hlf
        have HR1 := drun_any n d s l _ _ _ wr (hd4.now h4r) (hs4.now h4r) hll hl
        rw [HIN.out.drun (by omega)] at HR1
        have HR1 := Lib.hid HR1
        have HR2 := Lib.hid (fun W (hW : Below wr.heap.size wr W) => run_any d.net _ _ _ s.marks l W ((dn1.now hbwr).now hW) ((sm4.now h4r).now hW) (hll.now hW))
        rw [HIN.out.pruns (by omega)] at HR2
        obtain ⟨q0, q1, q2, q3, q4, q5, q6, q7⟩ := hBr.c8
        obtain ⟨y0, y1⟩ := hNow.c2
        obtain ⟨z0, z1⟩ := hS5r.c2
        clear HIN HLF hll
        go_wp2_with fail
        refine HR1.out.mono ?_
        rintro e wa ⟨ua, rfl, hua, hba⟩
        obtain ⟨Aa, ca, Ba, da, rfl, p1, p2, ⟨p3, p4⟩, p5, p6⟩ := hua.open_
        have hBa := hBr.now hba
        have hSa := hS5r.now hba
        have hNa := hNow.now hba
        have hna := hnow.now hba
        have hbwa := bthen hbwr hba
        clear HR1 q0 q1 q2 q3 q4 q5 q6 q7 y0 y1 z0 z1 p1 p2
        obtain ⟨q0, q1, q2, q3, q4, q5, q6, q7⟩ := hBa.c8
        obtain ⟨y0, y1⟩ := hNa.c2
        obtain ⟨z0, z1⟩ := hSa.c2
        go_upto_region 26 with fail
        have hbb := bone wa (.cells #[.slice Aa now.marks.length ca, .slice Ba now.vals.length da] 33)
        have hP := Blk.new wa 33 #[.slice Aa now.marks.length ca, .slice Ba now.vals.length da]
        generalize hwb : wa.alloc (.cells #[.slice Aa now.marks.length ca, .slice Ba now.vals.length da] 33) = wb at *
        clear hwb
        have hBb := hBa.now hbb
        have hSb := hSa.now hbb
        have hNb := hNa.now hbb
        have hnb := hna.now hbb
        have hub := hua.now hbb
        have hbwb := bthen hbwa hbb
        have HRB := Lib.hid (HR2.out wb (bthen hba hbb))
        clear HR2 hba hbb q0 q1 q2 q3 q4 q5 q6 q7 y0 y1 z0 z1
        obtain ⟨q0, q1, q2, q3, q4, q5, q6, q7⟩ := hBb.c8
        obtain ⟨z0, z1⟩ := hSb.c2
        go_wp2_with fail
        refine HRB.out.mono ?_
        rintro e wc ⟨xc, rfl, hxc, hbc⟩
        obtain ⟨Ac2, cc2, rfl, c21, c22, _⟩ := hxc.open_
        have hNc := hNb.now hbc
        have hPc := hP.now hbc
        have hnc := hnb.now hbc
        have huc := hub.now hbc
        have hbwc := bthen hbwb hbc
        clear HRB q0 q1 q2 q3 q4 q5 q6 q7 z0 z1
        obtain ⟨y0, y1⟩ := hNc.c2
        obtain ⟨z0, z1⟩ := hPc.c2
        have HS1 := sameSt_ref now now _ _ wc huc hnc
        rw [sameSt_self] at HS1
        have HS1 := Lib.hid HS1
        have e1 : (((l.length : Nat) : Int) == ((l.length : Nat) : Int)) = true := beq_self_eq_true _
        go_wp2_with fail
        refine HS1.out.mono ?_
        rintro e wd ⟨rfl, hbd⟩
        have hNd := hNc.now hbd
        have hnd := hnc.now hbd
        have hxd := hxc.now hbd
        have hbwd := bthen hbwc hbd
        clear HS1 y0 y1 z0 z1
        obtain ⟨y0, y1⟩ := hNd.c2
        obtain ⟨_, _, _, _, ev, hmd, _⟩ := hnd.open_
        have HE1 := equalI _ _ now.marks now.marks wd hxd (marks_of hnd)
        rw [beq_self_eq_true] at HE1
        have HE1 := Lib.hid HE1
        go_wp2_with fail
        refine HE1.out.mono ?_
        rintro e we ⟨rfl, q, rfl⟩
        go_wp2_with fail
        go_ret
        exact ⟨rfl, bdrawn hbwd q⟩
end Go.Proofs.YtlmenhjlgmejkaaGreatDoor
