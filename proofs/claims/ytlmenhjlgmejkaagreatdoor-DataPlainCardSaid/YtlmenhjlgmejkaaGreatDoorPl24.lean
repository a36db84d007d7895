/- Merged texts. -/
import Derived.Test.YtlmenhjlgmejkaaGreatDoorPl23
set_option linter.all false
namespace Go.Proofs.YtlmenhjlgmejkaaGreatDoor
open Go.RowKit
def FewB (d : DNet) : Prop := d.net.places ≤ 14 ∧ d.net.trans.length ≤ 16 ∧ d.vars.length ≤ 6 ∧ d.init.length ≤ 8 ∧ d.guards.length ≤ 20 ∧ d.writes.length ≤ 20
def RetFew (d : DNet) (w : World) (e : Ending) (w' : World) : Prop := ∃ b, e = .returned (.bool b) ∧ (b = true → FewB d) ∧ Below w.heap.size w w'
theorem few_no {d : DNet} {w w' : World} (hb : Below w.heap.size w w') : RetFew d w (.returned (.bool false)) w' := ⟨false, rfl, fun h => (by cases h), hb⟩
set_option maxHeartbeats 8000000 in
set_option maxRecDepth 100000 in
theorem few_any (n : Nat) (d : DNet) (u : Value) (w : World) (h : IsDn n (Lt w.heap.size) w u d) : Calls Tryz.prog 12 #[u] w (RetFew d w) := by
  have h0 := h
  obtain ⟨At, ct, Ax, cx, iv, Ag, cg, Aw, cw, rfl, dn1, dn2, dn3, dn4, dn5, ⟨t1, t2⟩, ⟨x1, x2⟩, ⟨g1, g2⟩, v1, v2⟩ := h.open_
  obtain ⟨tv', en, n1, n2, n3, n4⟩ := dn1
  injection en with en
  injection en with en
  injection en with _ en
  injection en with et _
  subst et
  obtain ⟨Ai, ci, rfl, i1, i2, dn3⟩ := dn3.open_
  have egT : ∀ args w, (callFunc 58 args).run Tryz.prog w = .ok (.enter 58 args) w := enters_of Tryz.func58 (by kernel_rfl) rfl
  have egX : ∀ args w, (callFunc 60 args).run Tryz.prog w = .ok (.enter 60 args) w := enters_of Tryz.func60 (by kernel_rfl) rfl
  have hb0 := bone w (.cells #[.int .i64 d.net.places, .slice At d.net.trans.length ct, .int .i64 d.net.source, .int .i64 d.net.sink, .slice Ax d.vars.length cx, .slice Ai d.init.length ci, .slice Ag d.guards.length cg, .slice Aw d.writes.length cw] 30)
  have hb := bbox hb0 (.cells #[.int .i64 400] 3)
  have hB := (Blk.new w 30 #[.int .i64 d.net.places, .slice At d.net.trans.length ct, .int .i64 d.net.source, .int .i64 d.net.sink, .slice Ax d.vars.length cx, .slice Ai d.init.length ci, .slice Ag d.guards.length cg, .slice Aw d.writes.length cw]).alloc (.cells #[.int .i64 400] 3)
  have hG := Blk.new_at (t := 3) (cs := #[.int .i64 400]) (World.size_alloc w (.cells #[.int .i64 d.net.places, .slice At d.net.trans.length ct, .int .i64 d.net.source, .int .i64 d.net.sink, .slice Ax d.vars.length cx, .slice Ai d.init.length ci, .slice Ag d.guards.length cg, .slice Aw d.writes.length cw] 30))
  have HT := Lib.hid (fun W (hW : Below w.heap.size w W) => containsTW 58 egT _ _ W (n4.below hW hW.size) (few1_any W))
  have HX := Lib.hid (fun W (hW : Below w.heap.size w W) => containsXW 60 egX _ _ W (dn2.now hW) (few2_any W))
  have HS := Lib.hid (fun W (hW : Below w.heap.size w W) => short_any _ _ W (dn3.now hW))
  have HK : Hid (∀ W, Below w.heap.size w W → w.heap.size + 1 < W.heap.size → (∀ b, Lt w.heap.size b → Bu (w.heap.size + 1) W b) ∧ Same (Lt w.heap.size) w W) := Lib.hid fun W hW hlt => ⟨fun b hb => by unfold Lt at hb; exact ⟨by omega, by omega⟩, Same.of_below hW⟩
  have HGd := Lib.hid (fun W hW hlt => Sl.keep dn4 (RExN.kept n) (HK.out W hW hlt).1 (HK.out W hW hlt).2)
  have HWr := Lib.hid (fun W hW hlt => Sl.keep dn5 (RWRow.kept n) (HK.out W hW hlt).1 (HK.out W hW hlt).2)
  have HF : Hid (d.net.places ≤ 14 → d.net.trans.length ≤ 16 → d.vars.length ≤ 6 → d.init.length ≤ 8 → d.guards.length ≤ 20 → d.writes.length ≤ 20 → FewB d) := Lib.hid fun a b c d e f => ⟨a, b, c, d, e, f⟩
  clear h h0 n4 dn2 dn3 dn4 dn5 egT egX hb0 n2 n3 HK
  go_enter Tryz.func12, Tryz.ntmps12
  go_upto_region 2 with fail
  generalize (w.alloc (.cells #[.int .i64 d.net.places, .slice At d.net.trans.length ct, .int .i64 d.net.source, .int .i64 d.net.sink, .slice Ax d.vars.length cx, .slice Ai d.init.length ci, .slice Ag d.guards.length cg, .slice Aw d.writes.length cw] 30)).alloc (.cells #[.int .i64 400] 3) = w2 at *
  obtain ⟨q0, q1, q2, q3, q4, q5, q6, q7⟩ := hB.c8
  have hlt2 := hG.lt
  by_cases c1 : d.net.places > 14
  · go_wp2_with fail
    go_ret
    exact few_no hb
  by_cases c2 : d.net.trans.length > 16
  · go_wp2_with fail
    go_ret
    exact few_no hb
  by_cases c3 : d.vars.length > 6
  · go_wp2_with fail
    go_ret
    exact few_no hb
  by_cases c4 : d.init.length > 8
  · go_wp2_with fail
    go_ret
    exact few_no hb
  by_cases c5 : d.guards.length > 20
  · go_wp2_with fail
    go_ret
    exact few_no hb
  by_cases c6 : d.writes.length > 20
  · go_wp2_with fail
    go_ret
    exact few_no hb
  have HFW := Lib.hid (HF.out (by omega) (by omega) (by omega) (by omega) (by omega) (by omega))
  clear HF
  go_wp2_with fail
  refine (HT.out w2 hb).mono ?_
  rintro e w3 ⟨qt, rfl, hb3⟩
  have hbw3 := bthen hb hb3
  have hB3 := hB.now hb3
  have hG3 := hG.now hb3
  clear q0 q1 q2 q3 q4 q5 q6 q7 HT
  obtain ⟨q0, q1, q2, q3, q4, q5, q6, q7⟩ := hB3.c8
  cases qt
  rotate_left
  · go_wp2_with fail
    go_ret
    exact few_no hbw3
  go_wp2_with fail
  refine (HX.out w3 hbw3).mono ?_
  rintro e w4 ⟨qx, rfl, hb4⟩
  have hbw4 := bthen hbw3 hb4
  have hB4 := hB3.now hb4
  have hG4 := hG3.now hb4
  clear q0 q1 q2 q3 q4 q5 q6 q7 HX
  obtain ⟨q0, q1, q2, q3, q4, q5, q6, q7⟩ := hB4.c8
  cases qx
  rotate_left
  · go_wp2_with fail
    go_ret
    exact few_no hbw4
  go_wp2_with fail
  refine (HS.out w4 hbw4).mono ?_
  rintro e w5 ⟨qs, rfl, hb5⟩
  have hbw5 := bthen hbw4 hb5
  have hB5 := hB4.now hb5
  have hG5 := hG4.now hb5
  clear q0 q1 q2 q3 q4 q5 q6 q7 HS
  obtain ⟨q0, q1, q2, q3, q4, q5, q6, q7⟩ := hB5.c8
  cases qs
  · go_wp2_with fail
    go_ret
    exact few_no hbw5
  have hlt5 := hG5.lt
  have HBW : Hid (∀ W, w5.grownBy W (some (w.heap.size + 1)) → Below w.heap.size w W ∧ w.heap.size + 1 < W.heap.size) := Lib.hid fun W hW => ⟨hbw5.grown hW hbw5.size (fun k e => by injection e with e; omega), Nat.lt_of_lt_of_le hlt5 hW.size⟩
  clear c1 c2 c3 c4 c5 c6 hb hb3 hb4 hb5 hB hB3 hB4 hG hG3 hG4 hlt2 hbw3 hbw4
  go_wp2_with fail
  go_loopw [63] (fun i wr => ∃ (k : Nat) (z : Int), k ≤ d.guards.length ∧ i = .int .i64 k ∧ 0 ≤ z ∧ z ≤ 400 ∧ Blk wr (w.heap.size + 1) 3 #[.int .i64 z] ∧ w5.grownBy wr (some (w.heap.size + 1))) (fun i _ => d.guards.length - (intOf i).toNat)
  case atStart => exact ⟨0, 400, Nat.zero_le _, rfl, by omega, by omega, hG5, World.grownBy.refl _ _⟩
  case round =>
    obtain ⟨k, z, hk, rfl, z1, z2, hGr, hgr⟩ := hrel
    by_cases hlt : k < d.guards.length
    · obtain ⟨b, o, y, lv, n', hn, rfl, hD, hx, hex, hfv, hsl, e0, e1, e2, e3, e4, e5⟩ := SlE.at_ (HGd.out wr (HBW.out wr hgr).1 (HBW.out wr hgr).2) hlt
      obtain ⟨A2, c2', rfl, m1, m2, _⟩ := SlE.open_ hsl
      have hb3 := bone wr (.cells #[.int .i64 y.op, .int .i64 y.v.kind, .int .i64 y.v.n, .string y.v.s, .string y.s, .slice A2 y.l.length c2'] 65)
      have hg3 := grown_of_below hb3 (some (w.heap.size + 1))
      have hcall := Lib.hid (size_any n' y _ _ (w.heap.size + 1) z 0 (hex.keep (bu_now hg3).1 (bu_now hg3).2) (hGr.now hb3) z1 z2 (by omega) (by omega))
      clear hx hex hfv hsl hn hD
      go_wp2_with fail
      refine hcall.out.mono ?_
      rintro e w6 ⟨ok, z', rfl, hG6, hg6, hz⟩
      have hgw6 : w5.grownBy w6 (some (w.heap.size + 1)) := gw_trans (gw_below hgr hb3) hg6
      cases ok
      · go_wp2_with fail
        go_ret
        exact few_no (HBW.out w6 hgw6).1
      · have hz' := hz rfl
        clear hz
        go_wp2_with fail
        go_roundw
        case rel => exact ⟨k + 1, z', by omega, by go_num, hz'.1, hz'.2, hG6, hgw6⟩
        case measure => simp [intOf]; omega
    · have hBr := hB5.grown hgr (by intro e; injection e with e; omega)
      clear q0 q1 q2 q3 q4 q5 q6 q7
      obtain ⟨q0, q1, q2, q3, q4, q5, q6, q7⟩ := hBr.c8
      go_wp2_with fail
      go_loopw [74] (fun i W => ∃ (k : Nat) (z : Int), k ≤ d.writes.length ∧ i = .int .i64 k ∧ 0 ≤ z ∧ z ≤ 400 ∧ Blk W (w.heap.size + 1) 3 #[.int .i64 z] ∧ w5.grownBy W (some (w.heap.size + 1))) (fun i _ => d.writes.length - (intOf i).toNat)
      case atStart => exact ⟨0, z, Nat.zero_le _, rfl, z1, z2, hGr, hgr⟩
      case round =>
        clear hGr hgr hBr q0 q1 q2 q3 q4 q5 q6 q7
        obtain ⟨j, y0, hj, rfl, y1, y2, hGs, hgs⟩ := hrel
        by_cases hlt3 : j < d.writes.length
        · obtain ⟨b, o, r, v, rfl, hD, hx, hr, e0⟩ := SlWW.at_ (HWr.out wr (HBW.out wr hgs).1 (HBW.out wr hgs).2) hlt3
          obtain ⟨Ar, cr, rfl, r1, r2, hr⟩ := Sl.open_ hr
          have HR : Hid (∀ W, wr.grownBy W (some (w.heap.size + 1)) → SlW n (Bu (w.heap.size + 1) W) W (.slice Ar r.length cr) r) := Lib.hid fun W hW => Sl.keep hr (RWr.kept n) (bu_now hW).1 (bu_now hW).2
          clear hx hr hD
          by_cases cl : r.length > 10
          · go_wp2_with fail
            go_ret
            exact few_no (HBW.out _ hgs).1
          go_wp2_with fail
          clear cl
          go_loopw [83] (fun i W => ∃ (k : Nat) (z : Int), k ≤ r.length ∧ i = .int .i64 k ∧ 0 ≤ z ∧ z ≤ 400 ∧ Blk W (w.heap.size + 1) 3 #[.int .i64 z] ∧ w5.grownBy W (some (w.heap.size + 1)) ∧ wr.grownBy W (some (w.heap.size + 1))) (fun i _ => r.length - (intOf i).toNat)
          case atStart => exact ⟨0, y0, Nat.zero_le _, rfl, y1, y2, hGs, hgs, World.grownBy.refl _ _⟩
          case round =>
            clear hGs hgs e0
            obtain ⟨q, y3, hq, rfl, y4, y5, hGt, hgt, hgt2⟩ := hrel
            by_cases hlt4 : q < r.length
            · obtain ⟨b, o, x, lv, rfl, hD, hx, hfv, hex, e0, e1, e2, e3, e4, e5, e6⟩ := SlW.at_ (HR.out _ hgt2) hlt4
              have hex0 := hex
              obtain ⟨lv', el, x1', x2', x3', x4'⟩ := hex0
              have hlv : lv = lv' := by simpa using el
              subst hlv
              obtain ⟨A2, c2', rfl, m1, m2, _⟩ := SlE.open_ x4'
              have hb3 := bone wr (.cells #[.int .i64 x.var, .int .i64 x.x.op, .int .i64 x.x.v.kind, .int .i64 x.x.v.n, .string x.x.v.s, .string x.x.s, .slice A2 x.x.l.length c2'] 124)
              have hg3 := grown_of_below hb3 (some (w.heap.size + 1))
              have hcall := Lib.hid (size_any n x.x _ _ (w.heap.size + 1) y3 0 (hex.keep (bu_now hg3).1 (bu_now hg3).2) (hGt.now hb3) y4 y5 (by omega) (by omega))
              clear hx hex hD el x1' x2' x3' x4' hfv
              go_wp2_with fail
              refine hcall.out.mono ?_
              rintro e w6 ⟨ok, z', rfl, hG6, hg6, hz⟩
              have hgw6 : w5.grownBy w6 (some (w.heap.size + 1)) := gw_trans (gw_below hgt hb3) hg6
              have hgw7 := gw_trans (gw_below hgt2 hb3) hg6
              cases ok
              · go_wp2_with fail
                go_ret
                exact few_no (HBW.out w6 hgw6).1
              · have hz' := hz rfl
                clear hz
                go_wp2_with fail
                go_roundw
                case rel => exact ⟨q + 1, z', by omega, by go_num, hz'.1, hz'.2, hG6, hgw6, hgw7⟩
                case measure => simp [intOf]; omega
            · go_wp2_with fail
              go_roundw
              case rel => exact ⟨j + 1, y3, by omega, by go_num, y4, y5, hGt, hgt⟩
              case measure => simp [intOf]; omega
        · go_wp2_with fail
          go_ret
          exact ⟨true, rfl, fun _ => HFW.out, (HBW.out _ hgs).1⟩
end Go.Proofs.YtlmenhjlgmejkaaGreatDoor
