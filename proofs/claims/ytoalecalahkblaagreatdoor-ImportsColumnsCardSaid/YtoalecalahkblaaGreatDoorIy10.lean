/- Texts of this seat, merged. -/
import Derived.BigQuiet
import Derived.Test.YtoalecalahkblaaGreatDoorIy01
import Derived.Test.YtoalecalahkblaaGreatDoorIy02
import Derived.Test.YtoalecalahkblaaGreatDoorIy03
import Derived.Test.YtoalecalahkblaaGreatDoorIy04
import Derived.Test.YtoalecalahkblaaGreatDoorIy05
import Derived.Test.YtoalecalahkblaaGreatDoorIy06
import Derived.Test.YtoalecalahkblaaGreatDoorIy07
import Derived.Test.YtoalecalahkblaaGreatDoorIy08
import Derived.Test.YtoalecalahkblaaGreatDoorIy09
set_option linter.all false
set_option linter.all false
namespace Go.Proofs.YtoalecalahkblaaGreatDoor
open Go.RowKit
theorem enters_itoa : ∀ args w, (callFunc 131 args).run Tryz.prog w = .ok (.enter 131 args) w := enters_of Tryz.func131 (by kernel_rfl) rfl
theorem enters_words : ∀ args w, (callFunc 98 args).run Tryz.prog w = .ok (.enter 98 args) w := enters_of Tryz.func98 (by kernel_rfl) rfl
theorem words_blk (w : World) : Calls Tryz.prog 98 #[] w fun e w' => e = .returned (.slice (some ⟨w.heap.size, 0, none⟩) 6 6) ∧ Below w.heap.size w w' ∧ Blk w' w.heap.size 9 #[.string ⟨#[115, 99, 104, 101, 100, 117, 108, 101]⟩, .string ⟨#[115, 116, 97, 114, 116]⟩, .string ⟨#[115, 117, 115, 112, 101, 110, 100]⟩, .string ⟨#[114, 101, 115, 117, 109, 101]⟩, .string ⟨#[99, 111, 109, 112, 108, 101, 116, 101]⟩, .string ⟨#[97, 98, 111, 114, 116]⟩] := by
  have h := Blk.new w 9 #[.string ⟨#[115, 99, 104, 101, 100, 117, 108, 101]⟩, .string ⟨#[115, 116, 97, 114, 116]⟩, .string ⟨#[115, 117, 115, 112, 101, 110, 100]⟩, .string ⟨#[114, 101, 115, 117, 109, 101]⟩, .string ⟨#[99, 111, 109, 112, 108, 101, 116, 101]⟩, .string ⟨#[97, 98, 111, 114, 116]⟩]
  have hb := bone w (.cells #[.string ⟨#[115, 99, 104, 101, 100, 117, 108, 101]⟩, .string ⟨#[115, 116, 97, 114, 116]⟩, .string ⟨#[115, 117, 115, 112, 101, 110, 100]⟩, .string ⟨#[114, 101, 115, 117, 109, 101]⟩, .string ⟨#[99, 111, 109, 112, 108, 101, 116, 101]⟩, .string ⟨#[97, 98, 111, 114, 116]⟩] 9)
  go_enter Tryz.func98, Tryz.ntmps98
  go_wp2_with fail
  go_ret
  exact ⟨rfl, hb, h⟩
theorem lifeW_cell : ∀ q, q < 6 → (#[.string ⟨#[115, 99, 104, 101, 100, 117, 108, 101]⟩, .string ⟨#[115, 116, 97, 114, 116]⟩, .string ⟨#[115, 117, 115, 112, 101, 110, 100]⟩, .string ⟨#[114, 101, 115, 117, 109, 101]⟩, .string ⟨#[99, 111, 109, 112, 108, 101, 116, 101]⟩, .string ⟨#[97, 98, 111, 114, 116]⟩] : Array Value)[q]? = some (.string (bsOf (lifeW.getD q []))) := by
  intro q hq
  match q, hq with
  | 0, _ => rfl
  | 1, _ => rfl
  | 2, _ => rfl
  | 3, _ => rfl
  | 4, _ => rfl
  | 5, _ => rfl
def rowF6 (w : World) (g c a t wd : Nat) (xc xa : Bt) (e : Ev) : Nat → Value → World → Prop
  | 0, u, _ => u = .slice (some ⟨g, 0, none⟩) wd wd
  | 1, u, _ => u = .pointer (some ⟨w.heap.size + 1, 0, none⟩)
  | 2, u, _ => u = .int .i64 (c : Int)
  | 3, u, _ => u = .slice (some ⟨g, 0, none⟩) wd wd
  | 4, u, _ => u = .pointer (some ⟨w.heap.size + 1, 1, none⟩)
  | 5, u, _ => u = .int .i64 (a : Int)
  | 6, u, _ => u = .slice (some ⟨g, 0, none⟩) wd wd
  | 7, u, _ => u = .pointer (some ⟨w.heap.size + 1, 4, none⟩)
  | 8, u, _ => u = .int .i64 (t : Int)
  | 9, u, _ => u = .pointer (some ⟨w.heap.size, 0, none⟩)
  | 10, u, _ => u = .string (bsOf xc)
  | 11, u, _ => u = .pointer (some ⟨w.heap.size, 1, none⟩)
  | 12, u, _ => u = .string (bsOf xa)
  | 13, u, _ => u = .pointer (some ⟨w.heap.size, 4, none⟩)
  | 14, u, _ => u = .int .i64 e.time
  | 15, u, _ => u = .string (bsOf (Lib.itoa e.time))
  | 16, u, _ => u = .pointer (some ⟨g, c, none⟩)
  | 17, _, W => W.cell? ⟨g, c, none⟩ = some (.string (bsOf xc))
  | 18, u, _ => u = .pointer (some ⟨g, a, none⟩)
  | 19, _, W => W.cell? ⟨g, a, none⟩ = some (.string (bsOf xa))
  | 20, u, _ => u = .pointer (some ⟨g, t, none⟩)
  | 21, _, W => W.cell? ⟨g, t, none⟩ = some (.string (bsOf (Lib.itoa e.time)))
  | _, _, _ => True
def rowF10 (w : World) (g l q wd : Nat) : Nat → Value → World → Prop
  | 0, u, _ => u = .slice (some ⟨g, 0, none⟩) wd wd
  | 1, u, _ => u = .pointer (some ⟨w.heap.size + 1, 3, none⟩)
  | 2, u, _ => u = .int .i64 (l : Int)
  | 3, u, W => ∃ p : Nat, u = .slice (some ⟨p, 0, none⟩) 6 6 ∧ p ≠ g ∧ Blk W p 9 #[.string ⟨#[115, 99, 104, 101, 100, 117, 108, 101]⟩, .string ⟨#[115, 116, 97, 114, 116]⟩, .string ⟨#[115, 117, 115, 112, 101, 110, 100]⟩, .string ⟨#[114, 101, 115, 117, 109, 101]⟩, .string ⟨#[99, 111, 109, 112, 108, 101, 116, 101]⟩, .string ⟨#[97, 98, 111, 114, 116]⟩]
  | 4, u, _ => u = .pointer (some ⟨w.heap.size, 3, none⟩)
  | 5, u, _ => u = .int .i64 ((q : Int) + 1)
  | 6, u, _ => u = .int .i64 (q : Int)
  | 7, u, W => ∃ p : Nat, u = .pointer (some ⟨p, q, none⟩) ∧ p ≠ g ∧ Blk W p 9 #[.string ⟨#[115, 99, 104, 101, 100, 117, 108, 101]⟩, .string ⟨#[115, 116, 97, 114, 116]⟩, .string ⟨#[115, 117, 115, 112, 101, 110, 100]⟩, .string ⟨#[114, 101, 115, 117, 109, 101]⟩, .string ⟨#[99, 111, 109, 112, 108, 101, 116, 101]⟩, .string ⟨#[97, 98, 111, 114, 116]⟩]
  | 8, u, _ => u = .string (bsOf (lifeW.getD q []))
  | 9, u, _ => u = .pointer (some ⟨g, l, none⟩)
  | 10, _, W => W.cell? ⟨g, l, none⟩ = some (.string (bsOf (lifeW.getD q [])))
  | _, _, _ => True
set_option maxHeartbeats 8000000 in
set_option maxRecDepth 100000 in
theorem row_any (names : List Bs) (m : Mp) (e : Ev) (ue un um : Value) (w : World) (he : IsEv (Lt w.heap.size) w ue e) (hn : SlP (Lt w.heap.size) w un names) (hm : IsMp (Lt w.heap.size) w um m) (hok : MpOk m) (hev : EvLe e) (hnm : ∀ f ∈ e.data, nmOf f ∈ names) (hln : names.length = m.data.length) (ha : AmbP w) :
    Calls Tryz.prog 88 #[ue, un, um, .int .i64 (widthX m : Int)] w (RetRow (rowX vtN names m (widthX m) e) w) := by
  by_cases hbad : (m.res < 0 ∧ e.res.data.toList ≠ []) ∨ (m.life < 0 ∧ e.life ≠ 5)
  · exact row_err vtN names m (widthX m) e ue un um w he hm hbad
  have HN1 : Hid (m.res < 0 → e.res.data.toList = []) := Lib.hid fun h => by
    rcases Classical.em (e.res.data.toList = []) with h' | h'
    · exact h'
    · exact absurd (.inl ⟨h, h'⟩) hbad
  have HN2 : Hid (m.life < 0 → e.life = 5) := Lib.hid fun h => by
    rcases Classical.em (e.life = 5) with h' | h'
    · exact h'
    · exact absurd (.inr ⟨h, h'⟩) hbad
  have HE : Hid _ := rowX_ok (vt := vtN) (names := names) (m := m) (width := widthX m) (e := e) (fun h => hbad (.inl h)) (fun h => hbad (.inr h))
  have HRL0 : Hid ((rowX vtN names m (widthX m) e).2 = 0 → (rowX vtN names m (widthX m) e).1.length = widthX m ∧ CLe (rowX vtN names m (widthX m) e).1) := Lib.hid fun h => rowX_le hev h
  obtain ⟨dv, rfl, hfe, hd⟩ := he
  obtain ⟨mv, kv, rfl, hfm, hmd, hmk⟩ := hm
  obtain ⟨Ad, cd, rfl, _, _, hd⟩ := hd.open_
  obtain ⟨Am, cm, rfl, _, _, hmd⟩ := hmd.open_
  obtain ⟨Ak, ck, rfl, _, _, hmk⟩ := hmk.open_
  obtain ⟨An, cn, rfl, _, _, hn⟩ := hn.open_
  have HN := Lib.hid hn
  have HDT := Lib.hid hd
  have HMD := Lib.hid hmd
  have HMK := Lib.hid hmk
  have HOK := Lib.hid hok
  have HEV := Lib.hid hev
  have HNM := Lib.hid hnm
  have HLN := Lib.hid hln
  have HAM := Lib.hid ha
  have HW40 := Lib.hid (widthX_le hok)
  obtain ⟨c, hc⟩ : ∃ c : Nat, m.cas = (c : Int) := ⟨m.cas.toNat, by have := hok.cas; omega⟩
  obtain ⟨a, ha⟩ : ∃ a : Nat, m.act = (a : Int) := ⟨m.act.toNat, by have := hok.act; omega⟩
  obtain ⟨t, ht⟩ : ∃ t : Nat, m.time = (t : Int) := ⟨m.time.toNat, by have := hok.time; omega⟩
  obtain ⟨xc, hxc⟩ : ∃ x : Bt, e.cas = bsOf x := ⟨_, (bs_of e.cas).symm⟩
  obtain ⟨xa, hxa⟩ : ∃ x : Bt, e.act = bsOf x := ⟨_, (bs_of e.act).symm⟩
  obtain ⟨xr, hxr⟩ : ∃ x : Bt, e.res = bsOf x := ⟨_, (bs_of e.res).symm⟩
  have HLc : Hid (c < widthX m) := by have := widthX_col (m := m) (k := m.cas) hok.cas.1 (.inl rfl); show c < _; omega
  have HLa : Hid (a < widthX m) := by have := widthX_col (m := m) (k := m.act) hok.act.1 (.inr (.inl rfl)); show a < _; omega
  have HLt : Hid (t < widthX m) := by have := widthX_col (m := m) (k := m.time) hok.time.1 (.inr (.inr (.inr (.inr (.inl rfl))))); show t < _; omega
  have HCR := Lib.hid (fun (h : 0 ≤ m.res) => widthX_col (m := m) (k := m.res) h (.inr (.inr (.inl rfl))))
  have HCL := Lib.hid (fun (h : 0 ≤ m.life) => widthX_col (m := m) (k := m.life) h (.inr (.inr (.inr (.inl rfl)))))
  have HCD := Lib.hid (fun k (hk : k ∈ m.data) => widthX_col (m := m) (k := k) (hok.data k hk).1 (.inr (.inr (.inr (.inr (.inr hk))))))
  have HD1 : Hid (c ≠ a) := Lib.hid fun h => hok.dist.1 (by rw [hc, ha, h])
  have HD2 : Hid (c ≠ t) := Lib.hid fun h => hok.dist.2.1 (by rw [hc, ht, h])
  have HD3 : Hid (a ≠ t) := Lib.hid fun h => hok.dist.2.2 (by rw [ha, ht, h])
  have HST : Hid (startX m (widthX m) e = (((List.replicate (widthX m) []).set c xc).set a xa).set t (Lib.itoa e.time)) := by
    show _ = _
    unfold startX setZ
    rw [hc, ha, ht, hxc, hxa]
    rfl
  have HRS := Lib.hid hxr
  have HIT : Hid (∀ W, AmbP W → Calls Tryz.prog 131 #[.int .i64 e.time] W fun e' w' => e' = .returned (.string (bsOf (Lib.itoa e.time))) ∧ Below W.heap.size W w') := Lib.hid fun W hW => itoa_any e.time W hfe.time hW
  obtain ⟨q, hq⟩ : ∃ q : Nat, e.life = (q : Int) + 1 := ⟨(e.life - 1).toNat, by have := hev.life; omega⟩
  have HQ := Lib.hid hq
  have HQ6 : Hid (q < 6) := by have := hev.life; show q < 6; omega
  have HLG : Hid (lifeW.getD (e.life - 1).toNat [] = lifeW.getD q []) := by show _ = _; rw [hq, show ((q : Int) + 1 - 1).toNat = q by omega]
  obtain ⟨z, hz⟩ : ∃ z, (m.sep.toNat : Int) = z := ⟨_, rfl⟩
  obtain ⟨p, hp⟩ : ∃ p, rowX vtN names m (widthX m) e = p := ⟨_, rfl⟩
  obtain ⟨R0, hR0⟩ : ∃ R0, startX m (widthX m) e = R0 := ⟨_, rfl⟩
  unfold evV mpV
  rw [hp] at HE HRL0 ⊢
  rw [hc, ha, ht, hxc, hxa, hxr, hz]
  obtain ⟨wd, hwd⟩ : ∃ wd, widthX m = wd := ⟨_, rfl⟩
  rw [hwd] at HE HRL0 HW40 HLc HLa HLt HCR HCL HCD HST ⊢
  have hmk0 := fun w => run_make_n (P := Tryz.prog) 51 9 (.string ⟨#[]⟩) 16 Tryz.underlying51 (by kernel_rfl) wd (by have := HW40.out; omega) (by decide) rfl w
  clear hc ha ht hxc hxa hxr hq hz hp hwd hR0 R0 hok hev hnm hln hfe hfm hd hmd hmk hn hbad
  have hb1 := bone w (.cells #[.string (bsOf xc), .string (bsOf xa), .string (bsOf xr), .int .i64 e.life, .int .i64 e.time, .slice Ad e.data.length cd] 69)
  have k1 := Blk.new w 69 #[.string (bsOf xc), .string (bsOf xa), .string (bsOf xr), .int .i64 e.life, .int .i64 e.time, .slice Ad e.data.length cd]
  go_enter Tryz.func88, Tryz.ntmps88
  go_upto_region 1 with fail
  obtain ⟨w1, hw1⟩ : ∃ w1, w.alloc (.cells #[.string (bsOf xc), .string (bsOf xa), .string (bsOf xr), .int .i64 e.life, .int .i64 e.time, .slice Ad e.data.length cd] 69) = w1 := ⟨_, rfl⟩
  have z1 : w1.heap.size = w.heap.size + 1 := by rw [← hw1]; simp
  rw [hw1] at hb1 k1 ⊢
  clear hw1
  have hb2 := bone w1 (.cells #[.int .i64 (c : Int), .int .i64 (a : Int), .int .i64 m.res, .int .i64 m.life, .int .i64 (t : Int), .slice Am m.data.length cm, .slice Ak m.kinds.length ck, .int .u8 z] 33)
  have k2 := Blk.new w1 33 #[.int .i64 (c : Int), .int .i64 (a : Int), .int .i64 m.res, .int .i64 m.life, .int .i64 (t : Int), .slice Am m.data.length cm, .slice Ak m.kinds.length ck, .int .u8 z]
  have k1 := k1.now hb2
  have HB := Lib.hid (bthen hb1 hb2)
  obtain ⟨w2, hw2⟩ : ∃ w2, w1.alloc (.cells #[.int .i64 (c : Int), .int .i64 (a : Int), .int .i64 m.res, .int .i64 m.life, .int .i64 (t : Int), .slice Am m.data.length cm, .slice Ak m.kinds.length ck, .int .u8 z] 33) = w2 := ⟨_, rfl⟩
  rw [hw2] at HB k1 k2 ⊢
  rw [z1] at k2
  have HK1 := Lib.hid k1
  have HK2 := Lib.hid k2
  have HA2 := Lib.hid (HAM.out.now HB.out)
  clear hw2 z1 hb1 hb2 k1 k2
  go_cut [15] from 15 to 23 (fun b W => b = .bool false ∧ w2 = W)
  case first =>
    obtain ⟨a0, a1, a2, a3, a4, a5⟩ := HK1.out.c6
    obtain ⟨c0, c1, c2, c3, c4, c5, c6, c7⟩ := HK2.out.c8m
    by_cases hr : m.res < 0
    · have x0 : xr = [] := by have := HN1.out hr; rw [HRS.out] at this; exact this
      subst x0
      have x1 : (bsOf []).toList = [] := by rw [Lib.toList_data]; rfl
      go_wp2_with fail
      go_meet
      exact ⟨rfl, rfl⟩
    · go_wp2_with fail
      go_meet
      exact ⟨rfl, rfl⟩
  case rest =>
  obtain ⟨rfl, rfl⟩ := hcut
  go_upto_region 3 with fail
  go_cut [24] from 24 to 32 (fun b W => b = .bool false ∧ w2 = W)
  case first =>
    obtain ⟨a0, a1, a2, a3, a4, a5⟩ := HK1.out.c6
    obtain ⟨c0, c1, c2, c3, c4, c5, c6, c7⟩ := HK2.out.c8m
    by_cases hr : m.life < 0
    · have x0 := HN2.out hr
      rw [x0] at a3
      clear x0
      go_wp2_with fail
      go_meet
      exact ⟨rfl, rfl⟩
    · go_wp2_with fail
      go_meet
      exact ⟨rfl, rfl⟩
  case rest =>
  obtain ⟨rfl, rfl⟩ := hcut
  go_upto_region 6 with fail
  have hb3 := bone w2 (.cells (madeCells #[.string ⟨#[]⟩] wd) 9)
  have m3 := OwnF.made (f := fun l : Bt => Value.string (bsOf l)) w2 9 wd [] (by have := HW40.out; unfold maxLen; omega)
  obtain ⟨w3, hw3⟩ : ∃ w3, w2.alloc (.cells (madeCells #[.string ⟨#[]⟩] wd) 9) = w3 := ⟨_, rfl⟩
  have hw3' : w2.alloc (.cells (madeCells #[(fun l : Bt => Value.string (bsOf l)) []] wd) 9) = w3 := hw3
  rw [hw3'] at m3
  rw [hw3] at hb3 ⊢
  clear hw3 hw3' hmk0
  obtain ⟨g, hg⟩ : ∃ g, w2.heap.size = g := ⟨_, rfl⟩
  have HG := Lib.hid hg
  rw [hg] at hb3 m3 ⊢
  have HR0 : Hid (RelR (fun l : Bt => Value.string (bsOf l)) w2 g 9 g wd (List.replicate wd []) (fun j => j = c ∨ j = a ∨ j = t) w3.drew) := Lib.hid ⟨hb3.drew, _, m3.drew, rfl, fun _ _ => rfl⟩
  have ic0 : (0 : Int) ≤ (c : Int) := by omega
  have ia0 : (0 : Int) ≤ (a : Int) := by omega
  have it0 : (0 : Int) ≤ (t : Int) := by omega
  have ic1 : (c : Int) < (wd : Int) := by have := HLc.out; omega
  have ia1 : (a : Int) < (wd : Int) := by have := HLa.out; omega
  have it1 : (t : Int) < (wd : Int) := by have := HLt.out; omega
  clear hb3 m3 hg
  go_cut [] from 35 to 53 (fun W => OwnCells W g g wd (startX m wd e) ∧ Below g w2 W)
  case first =>
    rename_i J1 K1 hJ hK
    refine wp_region_rel (by kernel_rfl) (by kernel_rfl) (by kernel_rfl) (RelR (fun l : Bt => Value.string (bsOf l)) w2 g 9 g wd (List.replicate wd []) (fun j => j = c ∨ j = a ∨ j = t)) (rowF6 w g c a t wd xc xa e) ?h0 ?hstep ?hend ?hall
    case hall => exact hall_of (by kernel_rfl)
    case h0 => exact HR0.out
    case hstep =>
      intro i o ho listed ac W hsh hi hk hR hM
      have hb2 : Below w2.heap.size w2 W := by rw [HG.out]; exact hR.below
      have hgW : g < W.heap.size := by obtain ⟨_, h1, _, _⟩ := hR.row; exact h1.lt
      obtain ⟨a0, a1, a2, a3, a4, a5⟩ := (HK1.out.now hb2).c6
      obtain ⟨c0, c1, c2, c3, c4, c5, c6, c7⟩ := (HK2.out.now hb2).c8m
      match i, ho with
      | 0, ho =>
        injection ho with ho
        subst ho
        have e0 : ac.eval (.tmp 10) = .slice (some ⟨g, 0, none⟩) wd wd := hk.same (s := 10) (by kernel_rfl)
        exact wpM_run (.slice (some ⟨g, 0, none⟩) wd wd) W (by simp only [execOp, e0]; simp [go_sem]) ⟨_, rfl, hR, fun u hu => hu (by simp), fun j _ _ _ u h => h⟩
      | 1, ho =>
        injection ho with ho
        subst ho
        have e0 : ac.eval (.tmp 6) = .pointer (some ⟨w.heap.size + 1, 0, none⟩) := hk.same (s := 6) (by kernel_rfl)
        exact wpM_run (.pointer (some ⟨w.heap.size + 1, 0, none⟩)) W (by simp only [execOp, e0]; simp [go_sem]) ⟨_, rfl, hR, fun u hu => hu (by simp), fun j _ _ _ u h => h⟩
      | 2, ho =>
        injection ho with ho
        subst ho
        have e0 : ac.eval (.tmp 36) = .pointer (some ⟨w.heap.size + 1, 0, none⟩) := hM 1 (by decide) (ready_up hi (by kernel_rfl))
        exact wpM_run (.int .i64 (c : Int)) W (by simp only [execOp, e0]; simp [go_sem, c0]) ⟨_, rfl, hR, fun u hu => hu (by simp), fun j _ _ _ u h => h⟩
      | 3, ho =>
        injection ho with ho
        subst ho
        have e0 : ac.eval (.tmp 10) = .slice (some ⟨g, 0, none⟩) wd wd := hk.same (s := 10) (by kernel_rfl)
        exact wpM_run (.slice (some ⟨g, 0, none⟩) wd wd) W (by simp only [execOp, e0]; simp [go_sem]) ⟨_, rfl, hR, fun u hu => hu (by simp), fun j _ _ _ u h => h⟩
      | 4, ho =>
        injection ho with ho
        subst ho
        have e0 : ac.eval (.tmp 6) = .pointer (some ⟨w.heap.size + 1, 0, none⟩) := hk.same (s := 6) (by kernel_rfl)
        exact wpM_run (.pointer (some ⟨w.heap.size + 1, 1, none⟩)) W (by simp only [execOp, e0]; simp [go_sem]) ⟨_, rfl, hR, fun u hu => hu (by simp), fun j _ _ _ u h => h⟩
      | 5, ho =>
        injection ho with ho
        subst ho
        have e0 : ac.eval (.tmp 39) = .pointer (some ⟨w.heap.size + 1, 1, none⟩) := hM 4 (by decide) (ready_up hi (by kernel_rfl))
        exact wpM_run (.int .i64 (a : Int)) W (by simp only [execOp, e0]; simp [go_sem, c1]) ⟨_, rfl, hR, fun u hu => hu (by simp), fun j _ _ _ u h => h⟩
      | 6, ho =>
        injection ho with ho
        subst ho
        have e0 : ac.eval (.tmp 10) = .slice (some ⟨g, 0, none⟩) wd wd := hk.same (s := 10) (by kernel_rfl)
        exact wpM_run (.slice (some ⟨g, 0, none⟩) wd wd) W (by simp only [execOp, e0]; simp [go_sem]) ⟨_, rfl, hR, fun u hu => hu (by simp), fun j _ _ _ u h => h⟩
      | 7, ho =>
        injection ho with ho
        subst ho
        have e0 : ac.eval (.tmp 6) = .pointer (some ⟨w.heap.size + 1, 0, none⟩) := hk.same (s := 6) (by kernel_rfl)
        exact wpM_run (.pointer (some ⟨w.heap.size + 1, 4, none⟩)) W (by simp only [execOp, e0]; simp [go_sem]) ⟨_, rfl, hR, fun u hu => hu (by simp), fun j _ _ _ u h => h⟩
      | 8, ho =>
        injection ho with ho
        subst ho
        have e0 : ac.eval (.tmp 42) = .pointer (some ⟨w.heap.size + 1, 4, none⟩) := hM 7 (by decide) (ready_up hi (by kernel_rfl))
        exact wpM_run (.int .i64 (t : Int)) W (by simp only [execOp, e0]; simp [go_sem, c4]) ⟨_, rfl, hR, fun u hu => hu (by simp), fun j _ _ _ u h => h⟩
      | 9, ho =>
        injection ho with ho
        subst ho
        have e0 : ac.eval (.tmp 4) = .pointer (some ⟨w.heap.size, 0, none⟩) := hk.same (s := 4) (by kernel_rfl)
        exact wpM_run (.pointer (some ⟨w.heap.size, 0, none⟩)) W (by simp only [execOp, e0]; simp [go_sem]) ⟨_, rfl, hR, fun u hu => hu (by simp), fun j _ _ _ u h => h⟩
      | 10, ho =>
        injection ho with ho
        subst ho
        have e0 : ac.eval (.tmp 44) = .pointer (some ⟨w.heap.size, 0, none⟩) := hM 9 (by decide) (ready_up hi (by kernel_rfl))
        exact wpM_run (.string (bsOf xc)) W (by simp only [execOp, e0]; simp [go_sem, a0]) ⟨_, rfl, hR, fun u hu => hu (by simp), fun j _ _ _ u h => h⟩
      | 11, ho =>
        injection ho with ho
        subst ho
        have e0 : ac.eval (.tmp 4) = .pointer (some ⟨w.heap.size, 0, none⟩) := hk.same (s := 4) (by kernel_rfl)
        exact wpM_run (.pointer (some ⟨w.heap.size, 1, none⟩)) W (by simp only [execOp, e0]; simp [go_sem]) ⟨_, rfl, hR, fun u hu => hu (by simp), fun j _ _ _ u h => h⟩
      | 12, ho =>
        injection ho with ho
        subst ho
        have e0 : ac.eval (.tmp 46) = .pointer (some ⟨w.heap.size, 1, none⟩) := hM 11 (by decide) (ready_up hi (by kernel_rfl))
        exact wpM_run (.string (bsOf xa)) W (by simp only [execOp, e0]; simp [go_sem, a1]) ⟨_, rfl, hR, fun u hu => hu (by simp), fun j _ _ _ u h => h⟩
      | 13, ho =>
        injection ho with ho
        subst ho
        have e0 : ac.eval (.tmp 4) = .pointer (some ⟨w.heap.size, 0, none⟩) := hk.same (s := 4) (by kernel_rfl)
        exact wpM_run (.pointer (some ⟨w.heap.size, 4, none⟩)) W (by simp only [execOp, e0]; simp [go_sem]) ⟨_, rfl, hR, fun u hu => hu (by simp), fun j _ _ _ u h => h⟩
      | 14, ho =>
        injection ho with ho
        subst ho
        have e0 : ac.eval (.tmp 48) = .pointer (some ⟨w.heap.size, 4, none⟩) := hM 13 (by decide) (ready_up hi (by kernel_rfl))
        exact wpM_run (.int .i64 e.time) W (by simp only [execOp, e0]; simp [go_sem, a4]) ⟨_, rfl, hR, fun u hu => hu (by simp), fun j _ _ _ u h => h⟩
      | 15, ho =>
        injection ho with ho
        subst ho
        have e0 : ac.eval (.tmp 49) = .int .i64 e.time := hM 14 (by decide) (ready_up hi (by kernel_rfl))
        refine wpM_callF (f := 131) enters_itoa _ _ #[.int .i64 e.time] _ rfl rfl (by simp only [List.map_toArray, List.map_cons, List.map_nil, e0]) ((HIT.out W (HA2.out.now hb2)).mono ?_)
        rintro e W' ⟨rfl, hb⟩
        refine ⟨_, rfl, _, rfl, hR.now hb (by rw [HG.out]; exact Nat.le_refl _), fun u hu => hu (by simp), fun j hj hji hu u h => ?_⟩
        match j, hj, hji, h with
        | 0, _, _, h => exact h
        | 1, _, _, h => exact h
        | 2, _, _, h => exact h
        | 3, _, _, h => exact h
        | 4, _, _, h => exact h
        | 5, _, _, h => exact h
        | 6, _, _, h => exact h
        | 7, _, _, h => exact h
        | 8, _, _, h => exact h
        | 9, _, _, h => exact h
        | 10, _, _, h => exact h
        | 11, _, _, h => exact h
        | 12, _, _, h => exact h
        | 13, _, _, h => exact h
        | 14, _, _, h => exact h
        | 15, _, hji, _ => exact absurd rfl hji
        | 16, _, _, h => exact h
        | 17, _, _, h => exact (hb.cell (p := ⟨g, c, none⟩) hgW).trans h
        | 18, _, _, h => exact h
        | 19, _, _, h => exact (hb.cell (p := ⟨g, a, none⟩) hgW).trans h
        | 20, _, _, h => exact h
        | 21, _, _, h => exact (hb.cell (p := ⟨g, t, none⟩) hgW).trans h
        | n + 22, hj, _, _ => exact absurd hj (by simp)
      | 16, ho =>
        injection ho with ho
        subst ho
        have e0 : ac.eval (.tmp 35) = .slice (some ⟨g, 0, none⟩) wd wd := hM 0 (by decide) (ready_up hi (by kernel_rfl))
        have e1 : ac.eval (.tmp 37) = .int .i64 (c : Int) := hM 2 (by decide) (ready_up hi (by kernel_rfl))
        exact wpM_run (.pointer (some ⟨g, c, none⟩)) W (by simp only [execOp, e0, e1]; simp [go_sem, ic0, ic1]) ⟨_, rfl, hR, fun u hu => hu (by simp), fun j _ _ _ u h => h⟩
      | 17, ho =>
        injection ho with ho
        subst ho
        have e0 : ac.eval (.tmp 51) = .pointer (some ⟨g, c, none⟩) := hM 16 (by decide) (ready_up hi (by kernel_rfl))
        have e1 : ac.eval (.tmp 45) = .string (bsOf xc) := hM 10 (by decide) (ready_up hi (by kernel_rfl))
        obtain ⟨y, hy⟩ := hR.cell (k := c) (by rw [List.length_replicate]; exact HLc.out)
        have fz := hR.frozen c
        refine wpM_store _ _ _ _ _ (W.setCell ⟨g, c, none⟩ (.string (bsOf xc))) () rfl e0 e1 (by simp [go_sem, hy, fz]) ⟨_, rfl, hR.set_ (.inl rfl) xc, fun u _ => cell_put W hy _, fun j hj hji hu u h => ?_⟩
        match j, hj, hji, h with
        | 0, _, _, h => exact h
        | 1, _, _, h => exact h
        | 2, _, _, h => exact h
        | 3, _, _, h => exact h
        | 4, _, _, h => exact h
        | 5, _, _, h => exact h
        | 6, _, _, h => exact h
        | 7, _, _, h => exact h
        | 8, _, _, h => exact h
        | 9, _, _, h => exact h
        | 10, _, _, h => exact h
        | 11, _, _, h => exact h
        | 12, _, _, h => exact h
        | 13, _, _, h => exact h
        | 14, _, _, h => exact h
        | 15, _, _, h => exact h
        | 16, _, _, h => exact h
        | 17, _, hji, _ => exact absurd rfl hji
        | 18, _, _, h => exact h
        | 19, _, _, h => exact (cell_far W HD1.out _).trans h
        | 20, _, _, h => exact h
        | 21, _, _, h => exact (cell_far W HD2.out _).trans h
        | n + 22, hj, _, _ => exact absurd hj (by simp)
      | 18, ho =>
        injection ho with ho
        subst ho
        have e0 : ac.eval (.tmp 38) = .slice (some ⟨g, 0, none⟩) wd wd := hM 3 (by decide) (ready_up hi (by kernel_rfl))
        have e1 : ac.eval (.tmp 40) = .int .i64 (a : Int) := hM 5 (by decide) (ready_up hi (by kernel_rfl))
        exact wpM_run (.pointer (some ⟨g, a, none⟩)) W (by simp only [execOp, e0, e1]; simp [go_sem, ia0, ia1]) ⟨_, rfl, hR, fun u hu => hu (by simp), fun j _ _ _ u h => h⟩
      | 19, ho =>
        injection ho with ho
        subst ho
        have e0 : ac.eval (.tmp 52) = .pointer (some ⟨g, a, none⟩) := hM 18 (by decide) (ready_up hi (by kernel_rfl))
        have e1 : ac.eval (.tmp 47) = .string (bsOf xa) := hM 12 (by decide) (ready_up hi (by kernel_rfl))
        obtain ⟨y, hy⟩ := hR.cell (k := a) (by rw [List.length_replicate]; exact HLa.out)
        have fz := hR.frozen a
        refine wpM_store _ _ _ _ _ (W.setCell ⟨g, a, none⟩ (.string (bsOf xa))) () rfl e0 e1 (by simp [go_sem, hy, fz]) ⟨_, rfl, hR.set_ (.inr (.inl rfl)) xa, fun u _ => cell_put W hy _, fun j hj hji hu u h => ?_⟩
        match j, hj, hji, h with
        | 0, _, _, h => exact h
        | 1, _, _, h => exact h
        | 2, _, _, h => exact h
        | 3, _, _, h => exact h
        | 4, _, _, h => exact h
        | 5, _, _, h => exact h
        | 6, _, _, h => exact h
        | 7, _, _, h => exact h
        | 8, _, _, h => exact h
        | 9, _, _, h => exact h
        | 10, _, _, h => exact h
        | 11, _, _, h => exact h
        | 12, _, _, h => exact h
        | 13, _, _, h => exact h
        | 14, _, _, h => exact h
        | 15, _, _, h => exact h
        | 16, _, _, h => exact h
        | 17, _, _, h => exact (cell_far W (Ne.symm HD1.out) _).trans h
        | 18, _, _, h => exact h
        | 19, _, hji, _ => exact absurd rfl hji
        | 20, _, _, h => exact h
        | 21, _, _, h => exact (cell_far W HD3.out _).trans h
        | n + 22, hj, _, _ => exact absurd hj (by simp)
      | 20, ho =>
        injection ho with ho
        subst ho
        have e0 : ac.eval (.tmp 41) = .slice (some ⟨g, 0, none⟩) wd wd := hM 6 (by decide) (ready_up hi (by kernel_rfl))
        have e1 : ac.eval (.tmp 43) = .int .i64 (t : Int) := hM 8 (by decide) (ready_up hi (by kernel_rfl))
        exact wpM_run (.pointer (some ⟨g, t, none⟩)) W (by simp only [execOp, e0, e1]; simp [go_sem, it0, it1]) ⟨_, rfl, hR, fun u hu => hu (by simp), fun j _ _ _ u h => h⟩
      | 21, ho =>
        injection ho with ho
        subst ho
        have e0 : ac.eval (.tmp 53) = .pointer (some ⟨g, t, none⟩) := hM 20 (by decide) (ready_up hi (by kernel_rfl))
        have e1 : ac.eval (.tmp 50) = .string (bsOf (Lib.itoa e.time)) := hM 15 (by decide) (ready_up hi (by kernel_rfl))
        obtain ⟨y, hy⟩ := hR.cell (k := t) (by rw [List.length_replicate]; exact HLt.out)
        have fz := hR.frozen t
        refine wpM_store _ _ _ _ _ (W.setCell ⟨g, t, none⟩ (.string (bsOf (Lib.itoa e.time)))) () rfl e0 e1 (by simp [go_sem, hy, fz]) ⟨_, rfl, hR.set_ (.inr (.inr rfl)) (Lib.itoa e.time), fun u _ => cell_put W hy _, fun j hj hji hu u h => ?_⟩
        match j, hj, hji, h with
        | 0, _, _, h => exact h
        | 1, _, _, h => exact h
        | 2, _, _, h => exact h
        | 3, _, _, h => exact h
        | 4, _, _, h => exact h
        | 5, _, _, h => exact h
        | 6, _, _, h => exact h
        | 7, _, _, h => exact h
        | 8, _, _, h => exact h
        | 9, _, _, h => exact h
        | 10, _, _, h => exact h
        | 11, _, _, h => exact h
        | 12, _, _, h => exact h
        | 13, _, _, h => exact h
        | 14, _, _, h => exact h
        | 15, _, _, h => exact h
        | 16, _, _, h => exact h
        | 17, _, _, h => exact (cell_far W (Ne.symm HD2.out) _).trans h
        | 18, _, _, h => exact h
        | 19, _, _, h => exact (cell_far W (Ne.symm HD3.out) _).trans h
        | 20, _, _, h => exact h
        | 21, _, hji, _ => exact absurd rfl hji
        | n + 22, hj, _, _ => exact absurd hj (by simp)
      | n + 22, ho => simp at ho
    case hend =>
      intro ac W hk hR hM
      have hrow : OwnCells W g g wd (startX m wd e) := by
        rw [HST.out]
        exact setZ3_end hR HD1.out HD2.out HD3.out (hM 17 (by decide)) (hM 19 (by decide)) (hM 21 (by decide))
      have hbw := hR.below
      have x35 := hM 0 (by decide)
      have x36 := hM 1 (by decide)
      have x37 := hM 2 (by decide)
      have x38 := hM 3 (by decide)
      have x39 := hM 4 (by decide)
      have x40 := hM 5 (by decide)
      have x41 := hM 6 (by decide)
      have x42 := hM 7 (by decide)
      have x43 := hM 8 (by decide)
      have x44 := hM 9 (by decide)
      have x45 := hM 10 (by decide)
      have x46 := hM 11 (by decide)
      have x47 := hM 12 (by decide)
      have x48 := hM 13 (by decide)
      have x49 := hM 14 (by decide)
      have x50 := hM 15 (by decide)
      have x51 := hM 16 (by decide)
      have x52 := hM 18 (by decide)
      have x53 := hM 20 (by decide)
      refine hK _ _ ?_
      rw [hk.form (by kernel_rfl)]
      simp only [putsAll, Option.getD_some, Act.put, List.setIfInBounds_toArray, List.set_cons_zero, List.set_cons_succ]
      go_meet
      exact ⟨hrow, hbw⟩
  case rest =>
  obtain ⟨hrow, hbw⟩ := hcut
  obtain ⟨w4, hw4⟩ : ∃ w4, wc = w4 := ⟨_, rfl⟩
  rw [hw4] at hrow hbw ⊢
  have HO4 := Lib.hid hrow
  have HB4 := Lib.hid hbw
  clear hw4 hrow hbw ic0 ia0 it0 ic1 ia1 it1 HR0
  have hbb : Below w2.heap.size w2 w4 := by rw [HG.out]; exact HB4.out
  obtain ⟨a0, a1, a2, a3, a4, a5⟩ := (HK1.out.now hbb).c6
  obtain ⟨c0, c1, c2, c3, c4, c5, c6, c7⟩ := (HK2.out.now hbb).c8m
  clear hbb
  have HLR4 : Hid ((startX m wd e).length = wd) := by show _ = _; unfold startX; simp [setZ_len]
  obtain ⟨r0, hr0⟩ : ∃ r0, startX m wd e = r0 := ⟨_, rfl⟩
  rw [hr0] at HO4 HLR4 HE
  clear hr0 HST
  obtain ⟨qr, hqr⟩ : ∃ qr, decide (0 ≤ m.res) = qr := ⟨_, rfl⟩
  go_upto_if 56 with fail
  have HQR := Lib.hid hqr
  clear hqr
  go_cut [] from 57 to 62 (fun W => OwnCells W g g wd (resX m e r0) ∧ Below g w2 W)
  case first =>
    have HRX : Hid (resX m e r0 = if qr = true then setZ r0 m.res xr else r0) := by
      show _ = _
      unfold resX
      rw [HRS.out, ← HQR.out]
      by_cases h : 0 ≤ m.res
      · rw [if_pos h, if_pos (decide_eq_true h)]; rfl
      · rw [if_neg h, if_neg (by rw [decide_eq_false h]; decide)]
    cases qr with
    | false =>
      go_wp2_with fail
      go_meet
      rw [HRX.out]
      exact ⟨HO4.out, HB4.out⟩
    | true =>
      obtain ⟨r, hr⟩ : ∃ r : Nat, m.res = (r : Int) := ⟨m.res.toNat, by have := of_decide_eq_true HQR.out; omega⟩
      have HLr : Hid (r < wd) := by have := HCR.out (of_decide_eq_true HQR.out); show r < wd; omega
      have HRX2 : Hid (resX m e r0 = r0.set r xr) := by show _ = _; rw [HRX.out, if_pos rfl]; unfold setZ; rw [hr]; rfl
      have HS4 := Lib.hid (HO4.out.set_ r xr)
      have HSB : Hid (Below g w2 (w4.setCell ⟨g, r, none⟩ (.string (bsOf xr)))) := Lib.hid (HB4.out.setCell (p := ⟨g, r, none⟩) (Nat.le_refl _) _)
      have hcl := HO4.out.cell (k := r) (List.getElem?_eq_getElem (by rw [HLR4.out]; exact HLr.out))
      have hfz := HO4.out.frozen r
      rw [hr] at c2
      have ir0 : (0 : Int) ≤ (r : Int) := by omega
      have ir1 : (r : Int) < (wd : Int) := by have := HLr.out; omega
      clear hr HRX
      go_wp2_with fail
      go_meet
      rw [HRX2.out]
      exact ⟨HS4.out, HSB.out⟩
  case rest =>
  obtain ⟨hrow, hbw⟩ := hcut
  obtain ⟨w5, hw5⟩ : ∃ w5, wc = w5 := ⟨_, rfl⟩
  rw [hw5] at hrow hbw ⊢
  have HO5 := Lib.hid hrow
  have HB5 := Lib.hid hbw
  clear hw5 hrow hbw a0 a1 a2 a3 a4 a5 c0 c1 c2 c3 c4 c5 c6 c7 HQR
  have hbb : Below w2.heap.size w2 w5 := by rw [HG.out]; exact HB5.out
  obtain ⟨a0, a1, a2, a3, a4, a5⟩ := (HK1.out.now hbb).c6
  obtain ⟨c0, c1, c2, c3, c4, c5, c6, c7⟩ := (HK2.out.now hbb).c8m
  clear hbb
  have HLR5 : Hid ((resX m e r0).length = wd) := by show _ = _; rw [← HLR4.out]; unfold resX; split <;> simp [setZ_len]
  obtain ⟨r1, hr1⟩ : ∃ r1, resX m e r0 = r1 := ⟨_, rfl⟩
  rw [hr1] at HO5 HLR5 HE
  clear hr1 HO4 HB4 HLR4
  obtain ⟨ql, hql⟩ : ∃ ql, decide (0 ≤ m.life) = ql := ⟨_, rfl⟩
  go_upto_if 65 with fail
  have HQL := Lib.hid hql
  clear hql
  go_cut [] from 66 to 75 (fun W => OwnCells W g g wd (lifeX m e r1) ∧ Below g w2 W)
  case first =>
    have HRX : Hid (lifeX m e r1 = if ql = true then setZ r1 m.life (lifeW.getD q []) else r1) := by
      show _ = _
      unfold lifeX
      rw [HLG.out, ← HQL.out]
      by_cases h : 0 ≤ m.life
      · rw [if_pos h, if_pos (decide_eq_true h)]
      · rw [if_neg h, if_neg (by rw [decide_eq_false h]; decide)]
    cases ql with
    | false =>
      go_wp2_with fail
      go_meet
      rw [HRX.out]
      exact ⟨HO5.out, HB5.out⟩
    | true =>
      obtain ⟨l, hl⟩ : ∃ l : Nat, m.life = (l : Int) := ⟨m.life.toNat, by have := of_decide_eq_true HQL.out; omega⟩
      have HLC := Lib.hid hl
      have HLl : Hid (l < wd) := by have := HCL.out (of_decide_eq_true HQL.out); show l < wd; omega
      have HLX : Hid (lifeX m e r1 = r1.set l (lifeW.getD q [])) := by show _ = _; rw [HRX.out, if_pos rfl]; unfold setZ; rw [hl]; rfl
      have HRL := HLR5
      have HQW := Lib.hid (lifeW_cell q HQ6.out)
      have HR0 : Hid (RelR (fun l : Bt => Value.string (bsOf l)) w2 g 9 g wd r1 (fun j => j = l) w5.drew) := Lib.hid ⟨HB5.out.drew, _, HO5.out.drew, rfl, fun _ _ => rfl⟩
      have il0 : (0 : Int) ≤ (l : Int) := by omega
      have il1 : (l : Int) < (wd : Int) := by have := HLl.out; omega
      have iq0 : (0 : Int) ≤ (q : Int) := by omega
      have iq1 : (q : Int) < 6 := by have := HQ6.out; omega
      have hwr : IntKind.i64.wrap (q : Int) = (q : Int) := i64wrap ⟨by omega, by omega⟩
      clear hl HRX a0 a1 a2 a3 a4 a5 c0 c1 c2 c3 c4 c5 c6 c7
      go_upto_region 10 with fail
      refine wp_region_rel (by kernel_rfl) (by kernel_rfl) (by kernel_rfl) (RelR (fun l : Bt => Value.string (bsOf l)) w2 g 9 g wd r1 (fun j => j = l)) (rowF10 w g l q wd) ?h0 ?hstep ?hend ?hall
      case hall => exact hall_of (by kernel_rfl)
      case h0 => exact HR0.out
      case hstep =>
        intro i o ho listed ac W hsh hi hk hR hM
        have hb2 : Below w2.heap.size w2 W := by rw [HG.out]; exact hR.below
        have hgW : g < W.heap.size := by obtain ⟨_, h1, _, _⟩ := hR.row; exact h1.lt
        obtain ⟨a0, a1, a2, a3, a4, a5⟩ := (HK1.out.now hb2).c6
        obtain ⟨c0, c1, c2, c3, c4, c5, c6, c7⟩ := (HK2.out.now hb2).c8m
        rw [HQ.out] at a3
        rw [HLC.out] at c3
        match i, ho with
        | 0, ho =>
          injection ho with ho
          subst ho
          have e0 : ac.eval (.tmp 10) = .slice (some ⟨g, 0, none⟩) wd wd := hk.same (s := 10) (by kernel_rfl)
          exact wpM_run (.slice (some ⟨g, 0, none⟩) wd wd) W (by simp only [execOp, e0]; simp [go_sem]) ⟨_, rfl, hR, fun u hu => hu (by simp), fun j _ _ _ u h => h⟩
        | 1, ho =>
          injection ho with ho
          subst ho
          have e0 : ac.eval (.tmp 6) = .pointer (some ⟨w.heap.size + 1, 0, none⟩) := hk.same (s := 6) (by kernel_rfl)
          exact wpM_run (.pointer (some ⟨w.heap.size + 1, 3, none⟩)) W (by simp only [execOp, e0]; simp [go_sem]) ⟨_, rfl, hR, fun u hu => hu (by simp), fun j _ _ _ u h => h⟩
        | 2, ho =>
          injection ho with ho
          subst ho
          have e0 : ac.eval (.tmp 67) = .pointer (some ⟨w.heap.size + 1, 3, none⟩) := hM 1 (by decide) (ready_up hi (by kernel_rfl))
          exact wpM_run (.int .i64 (l : Int)) W (by simp only [execOp, e0]; simp [go_sem, c3]) ⟨_, rfl, hR, fun u hu => hu (by simp), fun j _ _ _ u h => h⟩
        | 3, ho =>
          injection ho with ho
          subst ho
          refine wpM_callF (f := 98) enters_words _ _ #[] _ rfl rfl (by simp only [List.map_toArray, List.map_cons, List.map_nil]) ((words_blk W).mono ?_)
          rintro e W' ⟨rfl, hb, hBw⟩
          refine ⟨_, rfl, _, rfl, hR.now hb (by rw [HG.out]; exact Nat.le_refl _), fun u hu => ⟨_, hu (by simp), Nat.ne_of_gt hgW, hBw⟩, fun j hj hji hu u h => ?_⟩
          match j, hj, hji, h with
          | 0, _, _, h => exact h
          | 1, _, _, h => exact h
          | 2, _, _, h => exact h
          | 3, _, hji, _ => exact absurd rfl hji
          | 4, _, _, h => exact h
          | 5, _, _, h => exact h
          | 6, _, _, h => exact h
          | 7, _, _, h => exact (by obtain ⟨p, e1, e2, e3⟩ := h; exact ⟨p, e1, e2, e3.now hb⟩)
          | 8, _, _, h => exact h
          | 9, _, _, h => exact h
          | 10, _, _, h => exact (hb.cell (p := ⟨g, l, none⟩) hgW).trans h
          | n + 11, hj, _, _ => exact absurd hj (by simp)
        | 4, ho =>
          injection ho with ho
          subst ho
          have e0 : ac.eval (.tmp 4) = .pointer (some ⟨w.heap.size, 0, none⟩) := hk.same (s := 4) (by kernel_rfl)
          exact wpM_run (.pointer (some ⟨w.heap.size, 3, none⟩)) W (by simp only [execOp, e0]; simp [go_sem]) ⟨_, rfl, hR, fun u hu => hu (by simp), fun j _ _ _ u h => h⟩
        | 5, ho =>
          injection ho with ho
          subst ho
          have e0 : ac.eval (.tmp 70) = .pointer (some ⟨w.heap.size, 3, none⟩) := hM 4 (by decide) (ready_up hi (by kernel_rfl))
          exact wpM_run (.int .i64 ((q : Int) + 1)) W (by simp only [execOp, e0]; simp [go_sem, a3]) ⟨_, rfl, hR, fun u hu => hu (by simp), fun j _ _ _ u h => h⟩
        | 6, ho =>
          injection ho with ho
          subst ho
          have e0 : ac.eval (.tmp 71) = .int .i64 ((q : Int) + 1) := hM 5 (by decide) (ready_up hi (by kernel_rfl))
          exact wpM_run (.int .i64 (q : Int)) W (by simp only [execOp, e0]; simp [go_sem, hwr]) ⟨_, rfl, hR, fun u hu => hu (by simp), fun j _ _ _ u h => h⟩
        | 7, ho =>
          injection ho with ho
          subst ho
          obtain ⟨p, e0, hpg, hBw⟩ := hM 3 (by decide) (ready_up hi (by kernel_rfl))
          have e0 : ac.eval (.tmp 69) = .slice (some ⟨p, 0, none⟩) 6 6 := e0
          have e1 : ac.eval (.tmp 72) = .int .i64 (q : Int) := hM 6 (by decide) (ready_up hi (by kernel_rfl))
          exact wpM_run (.pointer (some ⟨p, q, none⟩)) W (by simp only [execOp, e0, e1]; simp [go_sem, iq0, iq1]) ⟨_, rfl, hR, fun u hu => ⟨p, hu (by simp), hpg, hBw⟩, fun j _ _ _ u h => h⟩
        | 8, ho =>
          injection ho with ho
          subst ho
          obtain ⟨p, e0, hpg, hBw⟩ := hM 7 (by decide) (ready_up hi (by kernel_rfl))
          have e0 : ac.eval (.tmp 73) = .pointer (some ⟨p, q, none⟩) := e0
          have cq : W.cell? ⟨p, q, none⟩ = some (.string (bsOf (lifeW.getD q []))) := (hBw.cell q).trans HQW.out
          exact wpM_run (.string (bsOf (lifeW.getD q []))) W (by simp only [execOp, e0]; simp [go_sem, cq]) ⟨_, rfl, hR, fun u hu => hu (by simp), fun j _ _ _ u h => h⟩
        | 9, ho =>
          injection ho with ho
          subst ho
          have e0 : ac.eval (.tmp 66) = .slice (some ⟨g, 0, none⟩) wd wd := hM 0 (by decide) (ready_up hi (by kernel_rfl))
          have e1 : ac.eval (.tmp 68) = .int .i64 (l : Int) := hM 2 (by decide) (ready_up hi (by kernel_rfl))
          exact wpM_run (.pointer (some ⟨g, l, none⟩)) W (by simp only [execOp, e0, e1]; simp [go_sem, il0, il1]) ⟨_, rfl, hR, fun u hu => hu (by simp), fun j _ _ _ u h => h⟩
        | 10, ho =>
          injection ho with ho
          subst ho
          have e0 : ac.eval (.tmp 75) = .pointer (some ⟨g, l, none⟩) := hM 9 (by decide) (ready_up hi (by kernel_rfl))
          have e1 : ac.eval (.tmp 74) = .string (bsOf (lifeW.getD q [])) := hM 8 (by decide) (ready_up hi (by kernel_rfl))
          obtain ⟨y, hy⟩ := hR.cell (k := l) (by rw [HRL.out]; exact HLl.out)
          have fz := hR.frozen l
          refine wpM_store _ _ _ _ _ (W.setCell ⟨g, l, none⟩ (.string (bsOf (lifeW.getD q [])))) () rfl e0 e1 (by simp [go_sem, hy, fz]) ⟨_, rfl, hR.set_ rfl (lifeW.getD q []), fun u _ => cell_put W hy _, fun j hj hji hu u h => ?_⟩
          match j, hj, hji, h with
          | 0, _, _, h => exact h
          | 1, _, _, h => exact h
          | 2, _, _, h => exact h
          | 3, _, _, h => exact (by obtain ⟨p, e1, e2, e3⟩ := h; exact ⟨p, e1, e2, e3.far (p := ⟨g, l, none⟩) e2 _⟩)
          | 4, _, _, h => exact h
          | 5, _, _, h => exact h
          | 6, _, _, h => exact h
          | 7, _, _, h => exact (by obtain ⟨p, e1, e2, e3⟩ := h; exact ⟨p, e1, e2, e3.far (p := ⟨g, l, none⟩) e2 _⟩)
          | 8, _, _, h => exact h
          | 9, _, _, h => exact h
          | 10, _, hji, _ => exact absurd rfl hji
          | n + 11, hj, _, _ => exact absurd hj (by simp)
        | n + 11, ho => simp at ho
      case hend =>
        intro ac W hk hR hM
        have hrow : OwnCells W g g wd (r1.set l (lifeW.getD q [])) := by
          refine hR.end_ str_inj (by simp) (fun j hj => List.getElem?_set_ne (fun e => hj e.symm)) (fun j x hj hx => ?_)
          subst hj
          have hl1 : j < r1.length := by rw [HRL.out]; exact HLl.out
          rw [List.getElem?_set_self hl1] at hx
          injection hx with hx
          rw [← hx]
          exact hM 10 (by decide)
        have hbw := hR.below
        rw [hk.form (by kernel_rfl)]
        simp only [putsAll, Option.getD_some, Act.put, List.setIfInBounds_toArray, List.set_cons_zero, List.set_cons_succ]
        go_wp2_with fail
        go_meet
        rw [HLX.out]
        exact ⟨hrow, hbw⟩
  case rest =>
  obtain ⟨hrow, hbw⟩ := hcut
  obtain ⟨w6, hw6⟩ : ∃ w6, wc = w6 := ⟨_, rfl⟩
  rw [hw6] at hrow hbw ⊢
  have HO6 := Lib.hid hrow
  have HB6 := Lib.hid hbw
  clear hw6 hrow hbw a0 a1 a2 a3 a4 a5 c0 c1 c2 c3 c4 c5 c6 c7 HQL
  have hbb : Below w2.heap.size w2 w6 := by rw [HG.out]; exact HB6.out
  obtain ⟨a0, a1, a2, a3, a4, a5⟩ := (HK1.out.now hbb).c6
  clear hbb
  have HLR6 : Hid ((lifeX m e r1).length = wd) := by show _ = _; rw [← HLR5.out]; unfold lifeX; split <;> simp [setZ_len]
  obtain ⟨R2, hR2⟩ : ∃ R2, lifeX m e r1 = R2 := ⟨_, rfl⟩
  rw [hR2] at HO6 HLR6 HE
  clear hR2 HO5 HB5 HLR5
  go_wp2_with fail
  clear a0 a1 a2 a3 a4 a5
  go_loopw [79] (fun iv wr => ∃ (j : Nat) (r : List Bt), iv = .int .i64 (j : Int) ∧ j ≤ e.data.length ∧ Hid (OwnCells wr g g wd r) ∧ Hid (r.length = wd) ∧ Hid (datR vtN names m e.data R2 = datR vtN names m (e.data.drop j) r) ∧ Hid (Below g w2 wr)) (fun iv _ => e.data.length - (intOf iv).toNat)
  case atStart => exact ⟨0, R2, rfl, Nat.zero_le _, HO6, HLR6, Lib.hid rfl, HB6⟩
  case round =>
    obtain ⟨j, r, rfl, hj, HO, HLR, HDR, HBr⟩ := hrel
    obtain ⟨wo, hwo⟩ : ∃ wo, wr = wo := ⟨_, rfl⟩
    rw [hwo] at HO HBr ⊢
    clear hwo HO6 HB6 HLR6
    have HBR : Hid (Below w2.heap.size w2 wo) := by show Below _ _ _; rw [HG.out]; exact HBr.out
    by_cases hlt : j < e.data.length
    · obtain ⟨bf, of_, f, rfl, hDf, hx, hff, f0, f1, f2, f3⟩ := SlFl.at_ (SlFl.now (SlFl.now HDT.out HB.out) HBR.out) hlt
      have HX := Lib.hid hx
      have HFF := Lib.hid hff
      have HFB : Hid (fldB f = true) := Lib.hid (HEV.out.flds f (List.mem_of_getElem? hx))
      have HNF := Lib.hid (HNM.out f (List.mem_of_getElem? hx))
      have HVB : Hid (validV f.v = true) := by
        have := HFB.out
        unfold fldB at this
        rw [Bool.and_eq_true] at this
        exact this.2
      have hbf := bone wo (.cells #[.string f.nm, .int .i64 f.v.kind, .int .i64 f.v.n, .string f.v.s] 123)
      have kf := Blk.new wo 123 #[.string f.nm, .int .i64 f.v.kind, .int .i64 f.v.n, .string f.v.s]
      clear hx hff hDf
      go_upto_region 14 with fail
      obtain ⟨wf, hwf⟩ : ∃ wf, wo.alloc (.cells #[.string f.nm, .int .i64 f.v.kind, .int .i64 f.v.n, .string f.v.s] 123) = wf := ⟨_, rfl⟩
      rw [hwf] at hbf kf ⊢
      clear hwf f0 f1 f2 f3
      have HKF := Lib.hid kf
      have HBF := Lib.hid hbf
      have HBF2 : Hid (Below w2.heap.size w2 wf) := Lib.hid (bthen HBR.out hbf)
      have HOF := Lib.hid (HO.out.now hbf)
      obtain ⟨f0, f1, f2, f3⟩ := kf.c4
      have HIX := index_any _ names (nmOf f) wf (HN.out.now (bthen HB.out HBF2.out)) HNF.out
      rw [show bsOf (nmOf f) = f.nm from bs_of f.nm] at HIX
      have HIX := Lib.hid HIX
      have HKL : Hid (names.idxOf (nmOf f) < names.length) := List.idxOf_lt_length_of_mem HNF.out
      have HDB := Lib.hid (fun h => datR_bad (vt := vtN) (names := names) (m := m) (r := r) HX.out h)
      have HDG := Lib.hid (fun h => datR_good (vt := vtN) (names := names) (m := m) (r := r) HX.out h)
      obtain ⟨k, hk⟩ : ∃ k, names.idxOf (nmOf f) = k := ⟨_, rfl⟩
      rw [hk] at HIX HKL HDB HDG
      obtain ⟨gf, hgf⟩ : ∃ gf, wo.heap.size = gf := ⟨_, rfl⟩
      rw [hgf] at HKF f0 f1 f2 f3 ⊢
      clear hbf kf hk hgf HO HBr
      go_wp2_with fail
      (with_reducible refine HIX.out.mono ?_)
      rintro _ w7 ⟨rfl, rfl⟩
      have HCV := Lib.hid (cellV_le HVB.out)
      have HC3 : Hid (f.v.kind = 3 → bsOf (cellV vtN f.v) = f.v.s) := Lib.hid fun h => by unfold cellV; rw [if_pos h]; exact bs_of _
      have HCN : Hid (f.v.kind ≠ 3 → bsOf (cellV vtN f.v) = textNV f.v) := Lib.hid fun h => by unfold cellV; rw [if_neg h]; exact bs_of _
      have HTX : Hid (f.v.kind ≠ 3 → Calls Tryz.prog 132 #[.agg #[.int .i64 f.v.kind, .int .i64 f.v.n, .string f.v.s]] wf fun e' w' => e' = .returned (.tuple #[.string (textNV f.v), .int .i64 0]) ∧ Below wf.heap.size wf w') := Lib.hid fun h => textNV_any f.v wf HFF.out.v HVB.out (by rcases kind_cases HVB.out with h' | h' | h'; exact .inl h'; exact .inr h'; exact absurd h' h) (HA2.out.now HBF2.out)
      obtain ⟨xs, hxs⟩ : ∃ xs, cellV vtN f.v = xs := ⟨_, rfl⟩
      rw [hxs] at HCV HC3 HCN HDB HDG
      obtain ⟨qk, hqk⟩ : ∃ qk, (f.v.kind != 3) = qk := ⟨_, rfl⟩
      clear hxs
      go_upto_if 93 with fail
      have HQK := Lib.hid hqk
      clear hqk
      go_cut [14] from 94 to 99 (fun sv W => sv = .string (bsOf xs) ∧ Below wf.heap.size wf W)
      case first =>
        cases qk with
        | false =>
          have h3 : f.v.kind = 3 := by have := HQK.out; simpa using this
          go_wp2_with fail
          go_meet
          rw [HC3.out h3]
          exact ⟨rfl, Below.refl _ _⟩
        | true =>
          have h3 : f.v.kind ≠ 3 := by have := HQK.out; simpa using this
          have HT := Lib.hid (HTX.out h3)
          have HTN := Lib.hid (HCN.out h3)
          clear h3 HTX HCN
          go_wp2_with fail
          (with_reducible refine HT.out.mono ?_)
          rintro _ w8 ⟨rfl, hb8⟩
          have HB8 := Lib.hid hb8
          clear hb8
          go_wp2_with fail
          go_meet
          rw [HTN.out]
          exact ⟨rfl, HB8.out⟩
      case rest =>
      obtain ⟨rfl, hb8⟩ := hcut
      obtain ⟨w8, hw8⟩ : ∃ w8, wc = w8 := ⟨_, rfl⟩
      rw [hw8] at hb8 ⊢
      have HB8 : Hid (Below w2.heap.size w2 w8) := Lib.hid (bthen HBF2.out hb8)
      have HO8 := Lib.hid (HOF.out.now hb8)
      have HF8 := Lib.hid (HKF.out.now hb8)
      clear hw8 hb8 f0 f1 f2 f3 HQK HTX HC3 HCN HIX HOF HKF
      obtain ⟨f0, f1, f2, f3⟩ := HF8.out.c4
      obtain ⟨c0, c1, c2, c3, c4, c5, c6, c7⟩ := (HK2.out.now HB8.out).c8m
      have hkk : k < m.kinds.length := by have := HKL.out; have := HLN.out; have := HOK.out.kinds; omega
      obtain ⟨bk, ok, kz, rfl, hDk, hxk, _, ck0⟩ := SlI.at_ (SlI.now (SlI.now HMK.out HB.out) HB8.out) hkk
      have HKZ : Hid (m.kinds.getD k 0 = kz) := by show _ = _; rw [List.getD_eq_getElem?_getD, hxk]; rfl
      rw [HKZ.out] at HDB HDG
      have ik0 : (0 : Int) ≤ (k : Int) := by omega
      have ik1 : (k : Int) < (m.kinds.length : Int) := by omega
      have HXS : Hid ((bsOf xs).toList = xs) := by show _ = _; rw [Lib.toList_data]; rfl
      clear hxk hDk hkk
      go_upto_region 18 with fail
      by_cases hk1 : f.v.kind = kz
      · by_cases hk2 : xs = []
        · have HEND := Lib.hid (HDB.out (.inr hk2))
          have x1 : (f.v.kind != kz) = false := by simp [hk1]
          have x2 : decide (f.v.kind = kz) = true := decide_eq_true hk1
          have x3 : (bsOf xs).toList = [] := by rw [HXS.out]; exact hk2
          have x4 : (bsOf xs).toList.isEmpty = true := by rw [x3]; rfl
          clear hk1 hk2 HDG HDB
          go_quiet (fail)
          go_wp2_with fail
          go_ret2
          show RetRow _ _ _ _
          rw [HE.out, HDR.out, HEND.out]
          exact ⟨_, rfl, Sl.none_, bdrawn (HB.out.trans (HB8.out.mono HB.out.size)) _⟩
        · have HNX := Lib.hid (HDG.out (fun h => h.elim (fun h => h hk1) hk2))
          have x1 : (f.v.kind != kz) = false := by simp [hk1]
          have x2 : decide (f.v.kind = kz) = true := decide_eq_true hk1
          have x3 : (bsOf xs).toList ≠ [] := by rw [HXS.out]; exact hk2
          have x4 : (bsOf xs).toList.isEmpty = false := by rw [HXS.out]; cases xs with | nil => exact absurd rfl hk2 | cons a l => rfl
          clear hk1 hk2 HDG HDB
          go_quiet (fail)
          have hkd : k < m.data.length := by have := HKL.out; have := HLN.out; omega
          obtain ⟨bd, od, dz, rfl, hDd, hxd, _, cd0⟩ := SlI.at_ (SlI.now (SlI.now HMD.out HB.out) HB8.out) hkd
          have hdz : m.data.getD k 0 = dz := by rw [List.getD_eq_getElem?_getD, hxd]; rfl
          rw [hdz] at HNX
          have hdm : dz ∈ m.data := List.mem_of_getElem? hxd
          obtain ⟨d, rfl⟩ : ∃ d : Nat, dz = (d : Int) := ⟨dz.toNat, by have := (HOK.out.data dz hdm).1; omega⟩
          have HLd : Hid (d < wd) := by have := HCD.out _ hdm; show d < wd; omega
          have id0 : (0 : Int) ≤ (d : Int) := by omega
          have id1 : (d : Int) < (wd : Int) := by have := HLd.out; omega
          have ik2 : (k : Int) < (m.data.length : Int) := by omega
          have hcl := HO8.out.cell (k := d) (List.getElem?_eq_getElem (by rw [HLR.out]; exact HLd.out))
          have hfz := HO8.out.frozen d
          clear hxd hDd hdm hdz hkd
          go_wp2_with fail
          go_roundw
          case rel =>
            refine ⟨j + 1, setZ r (d : Int) xs, by go_num, by omega, Lib.hid (OwnCells.setZ (show OwnCells _ g g wd r from HO8.out.drewN _) (k := (d : Int)) rfl xs), Lib.hid ((setZ_len _ _ _).trans HLR.out), Lib.hid (HDR.out.trans HNX.out), Lib.hid ?_⟩
            have hb8 : Below g w2 w8 := by rw [← HG.out]; exact HB8.out
            exact (bdrawn hb8 _).setCell (p := ⟨g, d, none⟩) (Nat.le_refl _) _
          case measure => simp [intOf]; omega
      · have HEND := Lib.hid (HDB.out (.inl hk1))
        have x1 : (f.v.kind != kz) = true := by simp [hk1]
        have x2 : decide (f.v.kind = kz) = false := decide_eq_false hk1
        clear hk1 HDG HDB
        go_quiet (fail)
        go_wp2_with fail
        go_ret2
        show RetRow _ _ _ _
        rw [HE.out, HDR.out, HEND.out]
        exact ⟨_, rfl, Sl.none_, bdrawn (HB.out.trans (HB8.out.mono HB.out.size)) _⟩
    · have hje : j = e.data.length := by omega
      have HEND : Hid (datR vtN names m e.data R2 = some r) := by
        show _ = _
        rw [HDR.out, hje, List.drop_eq_nil_of_le (Nat.le_refl _)]
        rfl
      have hjn : ¬ (j : Int) < (e.data.length : Int) := by omega
      have hE := HE.out
      rw [HEND.out] at hE
      simp only at hE
      have HE2 := Lib.hid hE
      have HCL2 : Hid (CLe r) := by have := (HRL0.out (by rw [hE])).2; rw [hE] at this; exact this
      have HRET : Hid (SlP (Btw w.heap.size wo.heap.size) wo (.slice (some ⟨g, 0, none⟩) wd wd) r) := Lib.hid (by
        have h1 := HO.out.1
        have hg1 : w.heap.size ≤ g := by rw [← HG.out]; exact HB.out.size
        have hg2 := HO.out.lt
        rw [HLR.out] at h1
        refine Sl.of_own1 h1 (by rw [List.length_map]; exact HLR.out) (fun g' e => by injection e with e; subst e; exact ⟨hg1, hg2⟩) (fun i x hx => ?_)
        rw [List.getElem?_map] at hx
        obtain ⟨b, hb, rfl⟩ := Option.map_eq_some_iff.1 hx
        refine ⟨.string (bsOf b), by rw [List.getElem?_map, hb]; rfl, rfl, ?_⟩
        have := HCL2.out b (List.mem_of_getElem? hb)
        rw [bs_size]
        unfold maxLen; omega)
      clear hje hlt hE
      go_wp2_with fail
      go_ret2
      show RetRow _ _ _ _
      rw [HE2.out]
      exact ⟨_, rfl, HRET.out, HB.out.trans (HBR.out.mono HB.out.size)⟩
end Go.Proofs.YtoalecalahkblaaGreatDoor
