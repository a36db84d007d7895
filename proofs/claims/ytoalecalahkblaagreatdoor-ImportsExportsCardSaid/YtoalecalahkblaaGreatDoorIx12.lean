/- Texts of this seat, merged. -/
import Derived.BigQuiet
import Derived.Test.YtoalecalahkblaaGreatDoorIx01
import Derived.Test.YtoalecalahkblaaGreatDoorIx02
import Derived.Test.YtoalecalahkblaaGreatDoorIx03
import Derived.Test.YtoalecalahkblaaGreatDoorIx04
import Derived.Test.YtoalecalahkblaaGreatDoorIx05
import Derived.Test.YtoalecalahkblaaGreatDoorIx06
import Derived.Test.YtoalecalahkblaaGreatDoorIx07
import Derived.Test.YtoalecalahkblaaGreatDoorIx10
import Derived.Test.YtoalecalahkblaaGreatDoorIx11
set_option linter.all false
set_option linter.all false
namespace Go.Proofs.YtoalecalahkblaaGreatDoor
open Go.RowKit
theorem enters_dec : ∀ args w, (callFunc 133 args).run Tryz.prog w = .ok (.enter 133 args) w := enters_of Tryz.func133 (by kernel_rfl) rfl
theorem enters_word : ∀ args w, (callFunc 134 args).run Tryz.prog w = .ok (.enter 134 args) w := enters_of Tryz.func134 (by kernel_rfl) rfl
theorem enters_textR : ∀ args w, (callFunc 135 args).run Tryz.prog w = .ok (.enter 135 args) w := enters_of Tryz.func135 (by kernel_rfl) rfl
def RwC (w8 : World) (g wd : Nat) (r0 : List Bt) (I : Nat → Prop) (W : World) : Prop := Chg (One g) w8 W ∧ RelR (fun l : Bt => Value.string (bsOf l)) w8 0 9 g wd r0 I W
theorem RwC.start {w8 : World} {g wd base : Nat} {r0 : List Bt} {I : Nat → Prop} (h : OwnCells w8 base g wd r0) : RwC w8 g wd r0 I w8.drew :=
  ⟨Chg.refl.drew, ⟨⟨rfl, rfl, rfl, Nat.le_refl _, fun j hj => absurd hj (Nat.not_lt_zero _)⟩, r0, (OwnF.mono h (Nat.zero_le _)).drew, rfl, fun _ _ => rfl⟩⟩
theorem ownF_base {α : Type} {f : α → Value} {w : World} {base base' t g cap : Nat} {xs : List α} (h : OwnF f w base t g cap xs) (hb : base' ≤ g) : OwnF f w base' t g cap xs := by
  refine ⟨⟨h.1.1, ?_⟩, h.2.1, hb⟩
  rcases h.1.2 with h' | ⟨g', c', cur, e, h1, h2⟩
  · exact .inl h'
  · injection e with e e2 e3
    injection e with e
    injection e with e
    subst e
    exact .inr ⟨g, c', cur, by rw [← e3], hb, h2⟩
theorem chg_belowG {g : Nat} {a b : World} {B : Nat} (h : Chg (One g) a b) (hB : B ≤ g) (hg : B ≤ a.heap.size) : Below B a b := h.below hg fun i hi e => by
  have e : i = g := e
  omega
def wriF4 (w : World) (g t wd : Nat) (e : Ev) : Nat → Value → World → Prop
  | 0, u, _ => u = .slice (some ⟨g, 0, none⟩) wd wd
  | 1, u, _ => u = .pointer (some ⟨w.heap.size + 1, 4, none⟩)
  | 2, u, _ => u = .int .i64 (t : Int)
  | 3, u, _ => u = .pointer (some ⟨w.heap.size, 4, none⟩)
  | 4, u, _ => u = .int .i64 e.time
  | 5, u, _ => u = .string (bsOf (Lib.itoa e.time))
  | 6, u, _ => u = .pointer (some ⟨g, t, none⟩)
  | 7, _, W => W.cell? ⟨g, t, none⟩ = some (.string (bsOf (Lib.itoa e.time)))
  | _, _, _ => True
def wriF10 (w : World) (g l q wd : Nat) : Nat → Value → World → Prop
  | 0, u, _ => u = .slice (some ⟨g, 0, none⟩) wd wd
  | 1, u, _ => u = .pointer (some ⟨w.heap.size + 1, 3, none⟩)
  | 2, u, _ => u = .int .i64 (l : Int)
  | 3, u, _ => u = .pointer (some ⟨w.heap.size, 3, none⟩)
  | 4, u, _ => u = .int .i64 ((q : Int) + 1)
  | 5, u, _ => u = .string (bsOf (lifeW.getD q []))
  | 6, u, _ => u = .pointer (some ⟨g, l, none⟩)
  | 7, _, W => W.cell? ⟨g, l, none⟩ = some (.string (bsOf (lifeW.getD q [])))
  | _, _, _ => True
def wriF20 (w : World) (g k d wd bd od cm gf : Nat) (m : Mp) (f : Fld) (xs0 xs : Bt) : Nat → Value → World → Prop
  | 0, u, _ => u = .slice (some ⟨g, 0, none⟩) wd wd
  | 1, u, _ => u = .pointer (some ⟨w.heap.size + 1, 5, none⟩)
  | 2, u, _ => u = .slice (some ⟨bd, od, none⟩) m.data.length cm
  | 3, u, _ => u = .int .i64 (k : Int)
  | 4, u, _ => u = .pointer (some ⟨bd, od + k, none⟩)
  | 5, u, _ => u = .int .i64 (d : Int)
  | 6, u, _ => u = .pointer (some ⟨gf, 2, none⟩)
  | 7, u, _ => u = .string (bsOf xs0)
  | 8, u, _ => u = .pointer (some ⟨g, d, none⟩)
  | 9, _, W => W.cell? ⟨g, d, none⟩ = some (.string (bsOf xs0))
  | _, _, _ => True
def wriF22 (w : World) (g k d wd bd od cm gf : Nat) (m : Mp) (f : Fld) (xs0 xs : Bt) : Nat → Value → World → Prop
  | 0, u, _ => u = .slice (some ⟨g, 0, none⟩) wd wd
  | 1, u, _ => u = .pointer (some ⟨w.heap.size + 1, 5, none⟩)
  | 2, u, _ => u = .slice (some ⟨bd, od, none⟩) m.data.length cm
  | 3, u, _ => u = .int .i64 (k : Int)
  | 4, u, _ => u = .pointer (some ⟨bd, od + k, none⟩)
  | 5, u, _ => u = .int .i64 (d : Int)
  | 6, u, _ => u = .agg #[.int .i64 f.v.kind, .int .i64 f.v.n, .string (bsOf xs0)]
  | 7, u, _ => u = .string (bsOf xs)
  | 8, u, _ => u = .pointer (some ⟨g, d, none⟩)
  | 9, _, W => W.cell? ⟨g, d, none⟩ = some (.string (bsOf xs))
  | _, _, _ => True
set_option maxHeartbeats 8000000 in
set_option maxRecDepth 100000 in
theorem written_ref (names : List Bs) (m : Mp) (e : Ev) (ue un um : Value) (w : World) (he : IsEv (Lt w.heap.size) w ue e) (hn : SlP (Lt w.heap.size) w un names) (hm : IsMp (Lt w.heap.size) w um m) (hok : MpOk m) (hev : EvLe e) (hnm : ∀ f ∈ e.data, nmOf f ∈ names) (hln : names.length = m.data.length) :
    Calls Tryz.prog 90 #[ue, um, un, .int .i64 (widthX m : Int)] w (RetRow (rowX vtN names m (widthX m) e) w) := by
  have HRL0 : Hid ((rowX vtN names m (widthX m) e).2 = 0 → (rowX vtN names m (widthX m) e).1.length = widthX m ∧ CLe (rowX vtN names m (widthX m) e).1) := Lib.hid fun h => rowX_le hev h
  obtain ⟨dv, rfl, hfe, hd⟩ := he
  obtain ⟨mv, kv, rfl, hfm, hmd, hmk⟩ := hm
  obtain ⟨Ad, cd, rfl, _, _, hd⟩ := hd.open_
  obtain ⟨Am, cm, rfl, _, _, hmd⟩ := hmd.open_
  obtain ⟨Ak, ck, rfl, _, _, hmk⟩ := hmk.open_
  obtain ⟨An, cn, rfl, _, _, hn⟩ := hn.open_
  have HN := Lib.hid hn
  have HDT := Lib.hid hd
  have HMD := Lib.hid hmd
  have HMK := Lib.hid hmk
  have HOK := Lib.hid hok
  have HEV := Lib.hid hev
  have HNM := Lib.hid hnm
  have HLN := Lib.hid hln
  have HW40 := Lib.hid (widthX_le hok)
  obtain ⟨c, hc⟩ : ∃ c : Nat, m.cas = (c : Int) := ⟨m.cas.toNat, by have := hok.cas; omega⟩
  obtain ⟨a, ha⟩ : ∃ a : Nat, m.act = (a : Int) := ⟨m.act.toNat, by have := hok.act; omega⟩
  obtain ⟨t, ht⟩ : ∃ t : Nat, m.time = (t : Int) := ⟨m.time.toNat, by have := hok.time; omega⟩
  obtain ⟨xc, hxc⟩ : ∃ x : Bt, e.cas = bsOf x := ⟨_, (bs_of e.cas).symm⟩
  obtain ⟨xa, hxa⟩ : ∃ x : Bt, e.act = bsOf x := ⟨_, (bs_of e.act).symm⟩
  obtain ⟨xr, hxr⟩ : ∃ x : Bt, e.res = bsOf x := ⟨_, (bs_of e.res).symm⟩
  have HLc : Hid (c < widthX m) := by have := widthX_col (m := m) (k := m.cas) hok.cas.1 (.inl rfl); show c < _; omega
  have HLa : Hid (a < widthX m) := by have := widthX_col (m := m) (k := m.act) hok.act.1 (.inr (.inl rfl)); show a < _; omega
  have HLt : Hid (t < widthX m) := by have := widthX_col (m := m) (k := m.time) hok.time.1 (.inr (.inr (.inr (.inr (.inl rfl))))); show t < _; omega
  have HCR := Lib.hid (fun (h : 0 ≤ m.res) => widthX_col (m := m) (k := m.res) h (.inr (.inr (.inl rfl))))
  have HCL := Lib.hid (fun (h : 0 ≤ m.life) => widthX_col (m := m) (k := m.life) h (.inr (.inr (.inr (.inl rfl)))))
  have HCD := Lib.hid (fun k (hk : k ∈ m.data) => widthX_col (m := m) (k := k) (hok.data k hk).1 (.inr (.inr (.inr (.inr (.inr hk))))))
  have HD1 : Hid (c ≠ a) := Lib.hid fun h => hok.dist.1 (by rw [hc, ha, h])
  have HD2 : Hid (c ≠ t) := Lib.hid fun h => hok.dist.2.1 (by rw [hc, ht, h])
  have HD3 : Hid (a ≠ t) := Lib.hid fun h => hok.dist.2.2 (by rw [ha, ht, h])
  have HST : Hid (startX m (widthX m) e = (((List.replicate (widthX m) []).set c xc).set a xa).set t (Lib.itoa e.time)) := by
    show _ = _
    unfold startX setZ
    rw [hc, ha, ht, hxc, hxa]
    rfl
  have HRS := Lib.hid hxr
  have HDE : Hid (∀ W, Calls Tryz.prog 133 #[.int .i64 e.time] W fun e' w' => e' = .returned (.string (bsOf (Lib.itoa e.time))) ∧ Below W.heap.size W w') := Lib.hid fun W => (decimal_any e.time W hfe.time).mono fun _ _ h => ⟨h.1, h.2 ▸ Below.refl _ _⟩
  obtain ⟨q, hq⟩ : ∃ q : Nat, e.life = (q : Int) + 1 := ⟨(e.life - 1).toNat, by have := hev.life; omega⟩
  have HQ := Lib.hid hq
  have HQ6 : Hid (q < 6) := by have := hev.life; show q < 6; omega
  have HLG : Hid (lifeW.getD (e.life - 1).toNat [] = lifeW.getD q []) := by show _ = _; rw [hq, show ((q : Int) + 1 - 1).toNat = q by omega]
  obtain ⟨z, hz⟩ : ∃ z, (m.sep.toNat : Int) = z := ⟨_, rfl⟩
  obtain ⟨p, hp⟩ : ∃ p, rowX vtN names m (widthX m) e = p := ⟨_, rfl⟩
  obtain ⟨R0, hR0⟩ : ∃ R0, startX m (widthX m) e = R0 := ⟨_, rfl⟩
  unfold evV mpV
  have HE := Lib.hid hp
  rw [hp] at HRL0 ⊢
  rw [hc, ha, ht, hxc, hxa, hxr, hz]
  obtain ⟨wd, hwd⟩ : ∃ wd, widthX m = wd := ⟨_, rfl⟩
  rw [hwd] at HE HRL0 HW40 HLc HLa HLt HCR HCL HCD HST ⊢
  have hmk0 := fun w => run_make_n (P := Tryz.prog) 51 9 (.string ⟨#[]⟩) 16 Tryz.underlying51 (by kernel_rfl) wd (by have := HW40.out; omega) (by decide) rfl w
  have HWD : Hid (∀ W, Calls Tryz.prog 134 #[.int .i64 ((q : Int) + 1)] W fun e' w' => e' = .returned (.string (bsOf (lifeW.getD q []))) ∧ Below W.heap.size W w') := Lib.hid fun W => (word_ref q HQ6.out W).mono fun _ _ h => ⟨h.1, h.2 ▸ Below.refl _ _⟩
  clear hc ha ht hxc hxa hxr hq hz hp hwd hR0 R0 hok hev hnm hln hfe hfm hd hmd hmk hn
  have hb1 := bone w (.cells #[.string (bsOf xc), .string (bsOf xa), .string (bsOf xr), .int .i64 e.life, .int .i64 e.time, .slice Ad e.data.length cd] 69)
  have k1 := Blk.new w 69 #[.string (bsOf xc), .string (bsOf xa), .string (bsOf xr), .int .i64 e.life, .int .i64 e.time, .slice Ad e.data.length cd]
  go_enter Tryz.func90, Tryz.ntmps90
  go_upto_region 1 with fail
  obtain ⟨w1, hw1⟩ : ∃ w1, w.alloc (.cells #[.string (bsOf xc), .string (bsOf xa), .string (bsOf xr), .int .i64 e.life, .int .i64 e.time, .slice Ad e.data.length cd] 69) = w1 := ⟨_, rfl⟩
  have z1 : w1.heap.size = w.heap.size + 1 := by rw [← hw1]; simp
  rw [hw1] at hb1 k1 ⊢
  clear hw1
  have hb2 := bone w1 (.cells #[.int .i64 (c : Int), .int .i64 (a : Int), .int .i64 m.res, .int .i64 m.life, .int .i64 (t : Int), .slice Am m.data.length cm, .slice Ak m.kinds.length ck, .int .u8 z] 33)
  have k2 := Blk.new w1 33 #[.int .i64 (c : Int), .int .i64 (a : Int), .int .i64 m.res, .int .i64 m.life, .int .i64 (t : Int), .slice Am m.data.length cm, .slice Ak m.kinds.length ck, .int .u8 z]
  have k1 := k1.now hb2
  have HB := Lib.hid (bthen hb1 hb2)
  obtain ⟨w2, hw2⟩ : ∃ w2, w1.alloc (.cells #[.int .i64 (c : Int), .int .i64 (a : Int), .int .i64 m.res, .int .i64 m.life, .int .i64 (t : Int), .slice Am m.data.length cm, .slice Ak m.kinds.length ck, .int .u8 z] 33) = w2 := ⟨_, rfl⟩
  rw [hw2] at HB k1 k2 ⊢
  rw [z1] at k2
  have HK1 := Lib.hid k1
  have HK2 := Lib.hid k2
  clear hw2 z1 hb1 hb2 k1 k2
  go_upto_region 2 with fail
  have hb3 := bone w2 (.cells (madeCells #[.string ⟨#[]⟩] wd) 9)
  have m3 := OwnF.made (f := fun l : Bt => Value.string (bsOf l)) w2 9 wd [] (by have := HW40.out; unfold maxLen; omega)
  obtain ⟨w3, hw3⟩ : ∃ w3, w2.alloc (.cells (madeCells #[.string ⟨#[]⟩] wd) 9) = w3 := ⟨_, rfl⟩
  have hw3' : w2.alloc (.cells (madeCells #[(fun l : Bt => Value.string (bsOf l)) []] wd) 9) = w3 := hw3
  rw [hw3'] at m3
  have hb3' := hb3
  rw [hw3] at hb3 hb3' ⊢
  clear hw3 hw3' hmk0
  obtain ⟨g, hg⟩ : ∃ g, w2.heap.size = g := ⟨_, rfl⟩
  have HG := Lib.hid hg
  rw [hg] at hb3 m3 ⊢
  have HM3 := Lib.hid m3
  have ic0 : (0 : Int) ≤ (c : Int) := by omega
  have ia0 : (0 : Int) ≤ (a : Int) := by omega
  have it0 : (0 : Int) ≤ (t : Int) := by omega
  have ic1 : (c : Int) < (wd : Int) := by have := HLc.out; omega
  have ia1 : (a : Int) < (wd : Int) := by have := HLa.out; omega
  have it1 : (t : Int) < (wd : Int) := by have := HLt.out; omega
  obtain ⟨a0, a1, a2, a3, a4, a5⟩ := (HK1.out.now hb3').c6
  obtain ⟨c0, c1, c2, c3, c4, c5, c6, c7⟩ := (HK2.out.now hb3').c8m
  have hcl := m3.cell (k := c) (x := []) (by rw [List.getElem?_replicate, if_pos HLc.out])
  have hfz := m3.frozen c
  have m4 := m3.set_ c xc
  have HB4 := Lib.hid (hb3.setCell (p := ⟨g, c, none⟩) (Nat.le_refl _) (.string (bsOf xc)))
  clear hb3 hb3' m3 hg
  go_upto_region 3 with fail
  obtain ⟨w4, hw4⟩ : ∃ w4, w3.setCell ⟨g, c, none⟩ (.string (bsOf xc)) = w4 := ⟨_, rfl⟩
  rw [hw4] at m4 HB4 ⊢
  clear hw4 hcl hfz a0 a1 a2 a3 a4 a5 c0 c1 c2 c3 c4 c5 c6 c7
  have hbb : Below w2.heap.size w2 w4 := by rw [HG.out]; exact HB4.out
  obtain ⟨a0, a1, a2, a3, a4, a5⟩ := (HK1.out.now hbb).c6
  obtain ⟨c0, c1, c2, c3, c4, c5, c6, c7⟩ := (HK2.out.now hbb).c8m
  have hcl := m4.cell (k := a) (x := []) (by rw [List.getElem?_set_ne HD1.out, List.getElem?_replicate, if_pos HLa.out])
  have hfz := m4.frozen a
  have m5 := m4.set_ a xa
  have HB5 := Lib.hid (HB4.out.setCell (p := ⟨g, a, none⟩) (Nat.le_refl _) (.string (bsOf xa)))
  clear hbb m4 HB4
  go_upto_region 4 with fail
  obtain ⟨w5, hw5⟩ : ∃ w5, w4.setCell ⟨g, a, none⟩ (.string (bsOf xa)) = w5 := ⟨_, rfl⟩
  rw [hw5] at m5 HB5 ⊢
  clear hw5 hcl hfz a0 a1 a2 a3 a4 a5 c0 c1 c2 c3 c4 c5 c6 c7 HM3
  have HRA : Hid ((((List.replicate wd ([] : Bt)).set c xc).set a xa).length = wd) := by show _ = _; simp
  obtain ⟨ra, hra⟩ : ∃ ra, ((List.replicate wd ([] : Bt)).set c xc).set a xa = ra := ⟨_, rfl⟩
  rw [hra] at HRA HST m5
  have HR0 : Hid (RelR (fun l : Bt => Value.string (bsOf l)) w2 g 9 g wd ra (fun j => j = t) w5.drew) := Lib.hid ⟨HB5.out.drew, _, m5.drew, rfl, fun _ _ => rfl⟩
  clear m5 hra
  go_cut [] from 28 to 34 (fun W => OwnCells W g g wd (startX m wd e) ∧ Below g w2 W)
  case first =>
    rename_i J1 K1 hJ hK
    refine wp_region_rel (by kernel_rfl) (by kernel_rfl) (by kernel_rfl) (RelR (fun l : Bt => Value.string (bsOf l)) w2 g 9 g wd ra (fun j => j = t)) (wriF4 w g t wd e) ?h0 ?hstep ?hend ?hall
    case hall => exact hall_of (by kernel_rfl)
    case h0 => exact HR0.out
    case hstep =>
      intro i o ho listed ac W hsh hi hk hR hM
      have hb2 : Below w2.heap.size w2 W := by rw [HG.out]; exact hR.below
      have hgW : g < W.heap.size := by obtain ⟨_, h1, _, _⟩ := hR.row; exact h1.lt
      obtain ⟨a0, a1, a2, a3, a4, a5⟩ := (HK1.out.now hb2).c6
      obtain ⟨c0, c1, c2, c3, c4, c5, c6, c7⟩ := (HK2.out.now hb2).c8m
      match i, ho with
      | 0, ho =>
        injection ho with ho
        subst ho
        have e0 : ac.eval (.tmp 10) = .slice (some ⟨g, 0, none⟩) wd wd := hk.same (s := 10) (by kernel_rfl)
        exact wpM_run (.slice (some ⟨g, 0, none⟩) wd wd) W (by simp only [execOp, e0]; simp [go_sem]) ⟨_, rfl, hR, fun u hu => hu (by simp), fun j _ _ _ u h => h⟩
      | 1, ho =>
        injection ho with ho
        subst ho
        have e0 : ac.eval (.tmp 5) = .pointer (some ⟨w.heap.size + 1, 0, none⟩) := hk.same (s := 5) (by kernel_rfl)
        exact wpM_run (.pointer (some ⟨w.heap.size + 1, 4, none⟩)) W (by simp only [execOp, e0]; simp [go_sem]) ⟨_, rfl, hR, fun u hu => hu (by simp), fun j _ _ _ u h => h⟩
      | 2, ho =>
        injection ho with ho
        subst ho
        have e0 : ac.eval (.tmp 29) = .pointer (some ⟨w.heap.size + 1, 4, none⟩) := hM 1 (by decide) (ready_up hi (by kernel_rfl))
        exact wpM_run (.int .i64 (t : Int)) W (by simp only [execOp, e0]; simp [go_sem, c4]) ⟨_, rfl, hR, fun u hu => hu (by simp), fun j _ _ _ u h => h⟩
      | 3, ho =>
        injection ho with ho
        subst ho
        have e0 : ac.eval (.tmp 4) = .pointer (some ⟨w.heap.size, 0, none⟩) := hk.same (s := 4) (by kernel_rfl)
        exact wpM_run (.pointer (some ⟨w.heap.size, 4, none⟩)) W (by simp only [execOp, e0]; simp [go_sem]) ⟨_, rfl, hR, fun u hu => hu (by simp), fun j _ _ _ u h => h⟩
      | 4, ho =>
        injection ho with ho
        subst ho
        have e0 : ac.eval (.tmp 31) = .pointer (some ⟨w.heap.size, 4, none⟩) := hM 3 (by decide) (ready_up hi (by kernel_rfl))
        exact wpM_run (.int .i64 e.time) W (by simp only [execOp, e0]; simp [go_sem, a4]) ⟨_, rfl, hR, fun u hu => hu (by simp), fun j _ _ _ u h => h⟩
      | 5, ho =>
        injection ho with ho
        subst ho
        have e0 : ac.eval (.tmp 32) = .int .i64 e.time := hM 4 (by decide) (ready_up hi (by kernel_rfl))
        refine wpM_callF (f := 133) enters_dec _ _ #[.int .i64 e.time] _ rfl rfl (by simp only [List.map_toArray, List.map_cons, List.map_nil, e0]) ((HDE.out W).mono ?_)
        rintro e W' ⟨rfl, hb⟩
        refine ⟨_, rfl, _, rfl, hR.now hb (by rw [HG.out]; exact Nat.le_refl _), fun u hu => hu (by simp), fun j hj hji hu u h => ?_⟩
        match j, hj, hji, h with
        | 0, _, _, h => exact h
        | 1, _, _, h => exact h
        | 2, _, _, h => exact h
        | 3, _, _, h => exact h
        | 4, _, _, h => exact h
        | 5, _, hji, _ => exact absurd rfl hji
        | 6, _, _, h => exact h
        | 7, _, _, h => exact (hb.cell (p := ⟨g, t, none⟩) hgW).trans h
        | n + 8, hj, _, _ => exact absurd hj (by simp)
      | 6, ho =>
        injection ho with ho
        subst ho
        have e0 : ac.eval (.tmp 28) = .slice (some ⟨g, 0, none⟩) wd wd := hM 0 (by decide) (ready_up hi (by kernel_rfl))
        have e1 : ac.eval (.tmp 30) = .int .i64 (t : Int) := hM 2 (by decide) (ready_up hi (by kernel_rfl))
        exact wpM_run (.pointer (some ⟨g, t, none⟩)) W (by simp only [execOp, e0, e1]; simp [go_sem, it0, it1]) ⟨_, rfl, hR, fun u hu => hu (by simp), fun j _ _ _ u h => h⟩
      | 7, ho =>
        injection ho with ho
        subst ho
        have e0 : ac.eval (.tmp 34) = .pointer (some ⟨g, t, none⟩) := hM 6 (by decide) (ready_up hi (by kernel_rfl))
        have e1 : ac.eval (.tmp 33) = .string (bsOf (Lib.itoa e.time)) := hM 5 (by decide) (ready_up hi (by kernel_rfl))
        obtain ⟨y, hy⟩ := hR.cell (k := t) (by rw [HRA.out]; exact HLt.out)
        have fz := hR.frozen t
        refine wpM_store _ _ _ _ _ (W.setCell ⟨g, t, none⟩ (.string (bsOf (Lib.itoa e.time)))) () rfl e0 e1 (by simp [go_sem, hy, fz]) ⟨_, rfl, hR.set_ rfl (Lib.itoa e.time), fun u _ => cell_put W hy _, fun j hj hji hu u h => ?_⟩
        match j, hj, hji, h with
        | 0, _, _, h => exact h
        | 1, _, _, h => exact h
        | 2, _, _, h => exact h
        | 3, _, _, h => exact h
        | 4, _, _, h => exact h
        | 5, _, _, h => exact h
        | 6, _, _, h => exact h
        | 7, _, hji, _ => exact absurd rfl hji
        | n + 8, hj, _, _ => exact absurd hj (by simp)
      | n + 8, ho => simp at ho
    case hend =>
      intro ac W hk hR hM
      have hrow : OwnCells W g g wd (ra.set t (Lib.itoa e.time)) := by
        refine hR.end_ str_inj (by simp) (fun j hj => List.getElem?_set_ne (fun e => hj e.symm)) (fun j x hj hx => ?_)
        subst hj
        have hl1 : j < ra.length := by rw [HRA.out]; exact HLt.out
        rw [List.getElem?_set_self hl1] at hx
        injection hx with hx
        rw [← hx]
        exact hM 7 (by decide)
      have hbw := hR.below
      refine hK _ _ ?_
      rw [hk.form (by kernel_rfl)]
      simp only [putsAll, Option.getD_some, Act.put, List.setIfInBounds_toArray, List.set_cons_zero, List.set_cons_succ]
      go_meet
      exact ⟨by rw [HST.out]; exact hrow, hbw⟩
  case rest =>
  obtain ⟨hrow, hbw⟩ := hcut
  obtain ⟨w6, hw6⟩ : ∃ w6, wc = w6 := ⟨_, rfl⟩
  rw [hw6] at hrow hbw ⊢
  have HO4 := Lib.hid hrow
  have HB4 := Lib.hid hbw
  clear hw6 hrow hbw ic0 ia0 it0 ic1 ia1 it1 HR0 HB5
  have hbb : Below w2.heap.size w2 w6 := by rw [HG.out]; exact HB4.out
  obtain ⟨a0, a1, a2, a3, a4, a5⟩ := (HK1.out.now hbb).c6
  obtain ⟨c0, c1, c2, c3, c4, c5, c6, c7⟩ := (HK2.out.now hbb).c8m
  clear hbb
  have HLR4 : Hid ((startX m wd e).length = wd) := by show _ = _; unfold startX; simp [setZ_len]
  have HRET0 : Hid (∀ W, Below g w2 W → Below w.heap.size w W) := Lib.hid fun W h => HB.out.trans (h.mono (by rw [← HG.out]; exact HB.out.size))
  by_cases hbad1 : m.res < 0 ∧ e.res.data.toList ≠ []
  · have HP : Hid (p = ([], 12)) := by show _ = _; rw [← HE.out]; unfold rowX; rw [if_pos hbad1]
    obtain ⟨hr, hx⟩ := hbad1
    rw [HRS.out] at hx
    have x0 : (bsOf xr).toList ≠ [] := by rw [Lib.toList_data]; exact hx
    have x1 : (bsOf xr).toList.isEmpty = false := by cases h : (bsOf xr).toList with | nil => exact absurd h x0 | cons _ _ => rfl
    clear hx
    go_wp2_with fail
    go_ret2
    show RetRow _ _ _ _
    rw [HP.out]
    exact ⟨_, rfl, Sl.none_, HRET0.out _ HB4.out⟩
  have HN1 : Hid (m.res < 0 → xr = []) := Lib.hid fun h => by
    rcases Classical.em (e.res.data.toList = []) with h' | h'
    · rw [HRS.out] at h'; exact h'
    · exact absurd ⟨h, h'⟩ hbad1
  obtain ⟨r0, hr0⟩ : ∃ r0, startX m wd e = r0 := ⟨_, rfl⟩
  rw [hr0] at HO4 HLR4
  have HR0E := Lib.hid hr0
  have HNB1 := Lib.hid hbad1
  clear hr0 HST hbad1
  obtain ⟨qr, hqr⟩ : ∃ qr, decide (0 ≤ m.res) = qr := ⟨_, rfl⟩
  go_upto_if 37 with fail
  have HQR := Lib.hid hqr
  clear hqr
  go_cut [] from 38 to 46 (fun W => OwnCells W g g wd (resX m e r0) ∧ Below g w2 W)
  case first =>
    have HRX : Hid (resX m e r0 = if qr = true then setZ r0 m.res xr else r0) := by
      show _ = _
      unfold resX
      rw [HRS.out, ← HQR.out]
      by_cases h : 0 ≤ m.res
      · rw [if_pos h, if_pos (decide_eq_true h)]; rfl
      · rw [if_neg h, if_neg (by rw [decide_eq_false h]; decide)]
    cases qr with
    | false =>
      have x0 : xr = [] := HN1.out (by have := of_decide_eq_false HQR.out; omega)
      subst x0
      have x1 : (bsOf []).toList = [] := by rw [Lib.toList_data]; rfl
      go_wp2_with fail
      go_meet
      rw [HRX.out]
      exact ⟨HO4.out, HB4.out⟩
    | true =>
      obtain ⟨r, hr⟩ : ∃ r : Nat, m.res = (r : Int) := ⟨m.res.toNat, by have := of_decide_eq_true HQR.out; omega⟩
      have HLr : Hid (r < wd) := by have := HCR.out (of_decide_eq_true HQR.out); show r < wd; omega
      have HRX2 : Hid (resX m e r0 = r0.set r xr) := by show _ = _; rw [HRX.out, if_pos rfl]; unfold setZ; rw [hr]; rfl
      have HS4 := Lib.hid (HO4.out.set_ r xr)
      have HSB : Hid (Below g w2 (w6.setCell ⟨g, r, none⟩ (.string (bsOf xr)))) := Lib.hid (HB4.out.setCell (p := ⟨g, r, none⟩) (Nat.le_refl _) _)
      have hcl := HO4.out.cell (k := r) (List.getElem?_eq_getElem (by rw [HLR4.out]; exact HLr.out))
      have hfz := HO4.out.frozen r
      rw [hr] at c2
      have ir0 : (0 : Int) ≤ (r : Int) := by omega
      have ir1 : (r : Int) < (wd : Int) := by have := HLr.out; omega
      clear hr HRX
      go_wp2_with fail
      go_meet
      rw [HRX2.out]
      exact ⟨HS4.out, HSB.out⟩
  case rest =>
  obtain ⟨hrow, hbw⟩ := hcut
  obtain ⟨w7, hw7⟩ : ∃ w7, wc = w7 := ⟨_, rfl⟩
  rw [hw7] at hrow hbw ⊢
  have HO5 := Lib.hid hrow
  have HB5 := Lib.hid hbw
  clear hw7 hrow hbw a0 a1 a2 a3 a4 a5 c0 c1 c2 c3 c4 c5 c6 c7 HQR
  have hbb : Below w2.heap.size w2 w7 := by rw [HG.out]; exact HB5.out
  obtain ⟨a0, a1, a2, a3, a4, a5⟩ := (HK1.out.now hbb).c6
  obtain ⟨c0, c1, c2, c3, c4, c5, c6, c7⟩ := (HK2.out.now hbb).c8m
  clear hbb
  have HLR5 : Hid ((resX m e r0).length = wd) := by show _ = _; rw [← HLR4.out]; unfold resX; split <;> simp [setZ_len]
  by_cases hbad2 : m.life < 0 ∧ e.life ≠ 5
  · have HP : Hid (p = ([], 20)) := by show _ = _; rw [← HE.out]; unfold rowX; rw [if_neg HNB1.out, if_pos hbad2]
    obtain ⟨hr, hx⟩ := hbad2
    have x1 : (e.life != 5) = true := by simpa using hx
    clear hx
    go_wp2_with fail
    go_ret2
    show RetRow _ _ _ _
    rw [HP.out]
    exact ⟨_, rfl, Sl.none_, HRET0.out _ HB5.out⟩
  have HN2 : Hid (m.life < 0 → e.life = 5) := Lib.hid fun h => by
    rcases Classical.em (e.life = 5) with h' | h'
    · exact h'
    · exact absurd ⟨h, h'⟩ hbad2
  have HE2 : Hid (p = match datR vtN names m e.data (lifeX m e (resX m e r0)) with | none => ([], 11) | some r => (r, 0)) := by
    show _ = _
    rw [← HE.out, ← HR0E.out]
    exact rowX_ok HNB1.out hbad2
  obtain ⟨r1, hr1⟩ : ∃ r1, resX m e r0 = r1 := ⟨_, rfl⟩
  rw [hr1] at HO5 HLR5 HE2
  clear hr1 HO4 HB4 HLR4 hbad2 HE HR0E
  obtain ⟨ql, hql⟩ : ∃ ql, decide (0 ≤ m.life) = ql := ⟨_, rfl⟩
  go_upto_if 49 with fail
  have HQL := Lib.hid hql
  clear hql
  go_cut [] from 50 to 59 (fun W => OwnCells W g g wd (lifeX m e r1) ∧ Below g w2 W)
  case first =>
    have HRX : Hid (lifeX m e r1 = if ql = true then setZ r1 m.life (lifeW.getD q []) else r1) := by
      show _ = _
      unfold lifeX
      rw [HLG.out, ← HQL.out]
      by_cases h : 0 ≤ m.life
      · rw [if_pos h, if_pos (decide_eq_true h)]
      · rw [if_neg h, if_neg (by rw [decide_eq_false h]; decide)]
    cases ql with
    | false =>
      have x0 : e.life = 5 := HN2.out (by have := of_decide_eq_false HQL.out; omega)
      rw [x0] at a3
      clear x0
      go_wp2_with fail
      go_meet
      rw [HRX.out]
      exact ⟨HO5.out, HB5.out⟩
    | true =>
      obtain ⟨l, hl⟩ : ∃ l : Nat, m.life = (l : Int) := ⟨m.life.toNat, by have := of_decide_eq_true HQL.out; omega⟩
      have HLC := Lib.hid hl
      have HLl : Hid (l < wd) := by have := HCL.out (of_decide_eq_true HQL.out); show l < wd; omega
      have HLX : Hid (lifeX m e r1 = r1.set l (lifeW.getD q [])) := by show _ = _; rw [HRX.out, if_pos rfl]; unfold setZ; rw [hl]; rfl
      have HR0 : Hid (RelR (fun l : Bt => Value.string (bsOf l)) w2 g 9 g wd r1 (fun j => j = l) w7.drew) := Lib.hid ⟨HB5.out.drew, _, HO5.out.drew, rfl, fun _ _ => rfl⟩
      have il0 : (0 : Int) ≤ (l : Int) := by omega
      have il1 : (l : Int) < (wd : Int) := by have := HLl.out; omega
      clear hl HRX a0 a1 a2 a3 a4 a5 c0 c1 c2 c3 c4 c5 c6 c7
      go_upto_region 10 with fail
      refine wp_region_rel (by kernel_rfl) (by kernel_rfl) (by kernel_rfl) (RelR (fun l : Bt => Value.string (bsOf l)) w2 g 9 g wd r1 (fun j => j = l)) (wriF10 w g l q wd) ?h0 ?hstep ?hend ?hall
      case hall => exact hall_of (by kernel_rfl)
      case h0 => exact HR0.out
      case hstep =>
        intro i o ho listed ac W hsh hi hk hR hM
        have hb2 : Below w2.heap.size w2 W := by rw [HG.out]; exact hR.below
        have hgW : g < W.heap.size := by obtain ⟨_, h1, _, _⟩ := hR.row; exact h1.lt
        obtain ⟨a0, a1, a2, a3, a4, a5⟩ := (HK1.out.now hb2).c6
        obtain ⟨c0, c1, c2, c3, c4, c5, c6, c7⟩ := (HK2.out.now hb2).c8m
        rw [HQ.out] at a3
        rw [HLC.out] at c3
        match i, ho with
        | 0, ho =>
          injection ho with ho
          subst ho
          have e0 : ac.eval (.tmp 10) = .slice (some ⟨g, 0, none⟩) wd wd := hk.same (s := 10) (by kernel_rfl)
          exact wpM_run (.slice (some ⟨g, 0, none⟩) wd wd) W (by simp only [execOp, e0]; simp [go_sem]) ⟨_, rfl, hR, fun u hu => hu (by simp), fun j _ _ _ u h => h⟩
        | 1, ho =>
          injection ho with ho
          subst ho
          have e0 : ac.eval (.tmp 5) = .pointer (some ⟨w.heap.size + 1, 0, none⟩) := hk.same (s := 5) (by kernel_rfl)
          exact wpM_run (.pointer (some ⟨w.heap.size + 1, 3, none⟩)) W (by simp only [execOp, e0]; simp [go_sem]) ⟨_, rfl, hR, fun u hu => hu (by simp), fun j _ _ _ u h => h⟩
        | 2, ho =>
          injection ho with ho
          subst ho
          have e0 : ac.eval (.tmp 51) = .pointer (some ⟨w.heap.size + 1, 3, none⟩) := hM 1 (by decide) (ready_up hi (by kernel_rfl))
          exact wpM_run (.int .i64 (l : Int)) W (by simp only [execOp, e0]; simp [go_sem, c3]) ⟨_, rfl, hR, fun u hu => hu (by simp), fun j _ _ _ u h => h⟩
        | 3, ho =>
          injection ho with ho
          subst ho
          have e0 : ac.eval (.tmp 4) = .pointer (some ⟨w.heap.size, 0, none⟩) := hk.same (s := 4) (by kernel_rfl)
          exact wpM_run (.pointer (some ⟨w.heap.size, 3, none⟩)) W (by simp only [execOp, e0]; simp [go_sem]) ⟨_, rfl, hR, fun u hu => hu (by simp), fun j _ _ _ u h => h⟩
        | 4, ho =>
          injection ho with ho
          subst ho
          have e0 : ac.eval (.tmp 53) = .pointer (some ⟨w.heap.size, 3, none⟩) := hM 3 (by decide) (ready_up hi (by kernel_rfl))
          exact wpM_run (.int .i64 ((q : Int) + 1)) W (by simp only [execOp, e0]; simp [go_sem, a3]) ⟨_, rfl, hR, fun u hu => hu (by simp), fun j _ _ _ u h => h⟩
        | 5, ho =>
          injection ho with ho
          subst ho
          have e0 : ac.eval (.tmp 54) = .int .i64 ((q : Int) + 1) := hM 4 (by decide) (ready_up hi (by kernel_rfl))
          refine wpM_callF (f := 134) enters_word _ _ #[.int .i64 ((q : Int) + 1)] _ rfl rfl (by simp only [List.map_toArray, List.map_cons, List.map_nil, e0]) ((HWD.out W).mono ?_)
          rintro e W' ⟨rfl, hb⟩
          refine ⟨_, rfl, _, rfl, hR.now hb (by rw [HG.out]; exact Nat.le_refl _), fun u hu => hu (by simp), fun j hj hji hu u h => ?_⟩
          match j, hj, hji, h with
          | 0, _, _, h => exact h
          | 1, _, _, h => exact h
          | 2, _, _, h => exact h
          | 3, _, _, h => exact h
          | 4, _, _, h => exact h
          | 5, _, hji, _ => exact absurd rfl hji
          | 6, _, _, h => exact h
          | 7, _, _, h => exact (hb.cell (p := ⟨g, l, none⟩) hgW).trans h
          | n + 8, hj, _, _ => exact absurd hj (by simp)
        | 6, ho =>
          injection ho with ho
          subst ho
          have e0 : ac.eval (.tmp 50) = .slice (some ⟨g, 0, none⟩) wd wd := hM 0 (by decide) (ready_up hi (by kernel_rfl))
          have e1 : ac.eval (.tmp 52) = .int .i64 (l : Int) := hM 2 (by decide) (ready_up hi (by kernel_rfl))
          exact wpM_run (.pointer (some ⟨g, l, none⟩)) W (by simp only [execOp, e0, e1]; simp [go_sem, il0, il1]) ⟨_, rfl, hR, fun u hu => hu (by simp), fun j _ _ _ u h => h⟩
        | 7, ho =>
          injection ho with ho
          subst ho
          have e0 : ac.eval (.tmp 56) = .pointer (some ⟨g, l, none⟩) := hM 6 (by decide) (ready_up hi (by kernel_rfl))
          have e1 : ac.eval (.tmp 55) = .string (bsOf (lifeW.getD q [])) := hM 5 (by decide) (ready_up hi (by kernel_rfl))
          obtain ⟨y, hy⟩ := hR.cell (k := l) (by rw [HLR5.out]; exact HLl.out)
          have fz := hR.frozen l
          refine wpM_store _ _ _ _ _ (W.setCell ⟨g, l, none⟩ (.string (bsOf (lifeW.getD q [])))) () rfl e0 e1 (by simp [go_sem, hy, fz]) ⟨_, rfl, hR.set_ rfl (lifeW.getD q []), fun u _ => cell_put W hy _, fun j hj hji hu u h => ?_⟩
          match j, hj, hji, h with
          | 0, _, _, h => exact h
          | 1, _, _, h => exact h
          | 2, _, _, h => exact h
          | 3, _, _, h => exact h
          | 4, _, _, h => exact h
          | 5, _, _, h => exact h
          | 6, _, _, h => exact h
          | 7, _, hji, _ => exact absurd rfl hji
          | n + 8, hj, _, _ => exact absurd hj (by simp)
        | n + 8, ho => simp at ho
      case hend =>
        intro ac W hk hR hM
        have hrow : OwnCells W g g wd (r1.set l (lifeW.getD q [])) := by
          refine hR.end_ str_inj (by simp) (fun j hj => List.getElem?_set_ne (fun e => hj e.symm)) (fun j x hj hx => ?_)
          subst hj
          have hl1 : j < r1.length := by rw [HLR5.out]; exact HLl.out
          rw [List.getElem?_set_self hl1] at hx
          injection hx with hx
          rw [← hx]
          exact hM 7 (by decide)
        have hbw := hR.below
        rw [hk.form (by kernel_rfl)]
        simp only [putsAll, Option.getD_some, Act.put, List.setIfInBounds_toArray, List.set_cons_zero, List.set_cons_succ]
        go_wp2_with fail
        go_meet
        exact ⟨by rw [HLX.out]; exact hrow, hbw⟩
  case rest =>
  obtain ⟨hrow, hbw⟩ := hcut
  obtain ⟨w8, hw8⟩ : ∃ w8, wc = w8 := ⟨_, rfl⟩
  rw [hw8] at hrow hbw ⊢
  have HO6 := Lib.hid hrow
  have HB6 := Lib.hid hbw
  clear hw8 hrow hbw a0 a1 a2 a3 a4 a5 c0 c1 c2 c3 c4 c5 c6 c7 HQL
  have HLR6 : Hid ((lifeX m e r1).length = wd) := by show _ = _; rw [← HLR5.out]; unfold lifeX; split <;> simp [setZ_len]
  obtain ⟨R2, hR2⟩ : ∃ R2, lifeX m e r1 = R2 := ⟨_, rfl⟩
  rw [hR2] at HO6 HLR6 HE2
  clear hR2 HO5 HB5 HLR5
  go_wp2_with fail
  go_loopw [11] (fun iv wr => ∃ (j : Nat) (r : List Bt), iv = .int .i64 (j : Int) ∧ j ≤ e.data.length ∧ Hid (OwnCells wr g g wd r) ∧ Hid (r.length = wd) ∧ Hid (datR vtN names m e.data R2 = datR vtN names m (e.data.drop j) r) ∧ Hid (Below g w2 wr)) (fun iv _ => e.data.length - (intOf iv).toNat)
  case atStart => exact ⟨0, R2, rfl, Nat.zero_le _, HO6, HLR6, Lib.hid rfl, HB6⟩
  case round =>
    obtain ⟨j, r, rfl, hj, HO, HLR, HDR, HBr⟩ := hrel
    obtain ⟨wo, hwo⟩ : ∃ wo, wr = wo := ⟨_, rfl⟩
    rw [hwo] at HO HBr ⊢
    clear hwo HO6 HB6 HLR6
    have HBR : Hid (Below w2.heap.size w2 wo) := by show Below _ _ _; rw [HG.out]; exact HBr.out
    obtain ⟨a0, a1, a2, a3, a4, a5⟩ := (HK1.out.now HBR.out).c6
    by_cases hlt : j < e.data.length
    · obtain ⟨bf, of_, f, rfl, hDf, hx, hff, f0, f1, f2, f3⟩ := SlFl.at_ (SlFl.now (SlFl.now HDT.out HB.out) HBR.out) hlt
      have HX := Lib.hid hx
      have HFF := Lib.hid hff
      have HFB : Hid (fldB f = true) := Lib.hid (HEV.out.flds f (List.mem_of_getElem? hx))
      have HNF := Lib.hid (HNM.out f (List.mem_of_getElem? hx))
      have HVB : Hid (validV f.v = true) := by
        have := HFB.out
        unfold fldB at this
        rw [Bool.and_eq_true] at this
        exact this.2
      have HIX := index_ref _ (names.map bsOf) (bsOf (nmOf f)) wo (HN.out.now (bthen HB.out HBR.out))
      rw [atS_idx HNF.out, show bsOf (nmOf f) = f.nm from bs_of f.nm] at HIX
      have HIX := Lib.hid HIX
      have HKL : Hid (names.idxOf (nmOf f) < names.length) := List.idxOf_lt_length_of_mem HNF.out
      have HDB := Lib.hid (fun h => datR_bad (vt := vtN) (names := names) (m := m) (r := r) HX.out h)
      have HDG := Lib.hid (fun h => datR_good (vt := vtN) (names := names) (m := m) (r := r) HX.out h)
      obtain ⟨k, hk⟩ : ∃ k, names.idxOf (nmOf f) = k := ⟨_, rfl⟩
      rw [hk] at HIX HKL HDB HDG
      have ij0 : (0 : Int) ≤ (j : Int) := by omega
      have ij1 : (j : Int) < (e.data.length : Int) := by omega
      clear hx hff hDf hk
      go_wp2_with fail
      (with_reducible refine HIX.out.mono ?_)
      rintro _ wq ⟨rfl, rfl⟩
      have hbf := bone wo (.cells #[.int .i64 f.v.kind, .int .i64 f.v.n, .string f.v.s] 121)
      have kf := Blk.new wo 121 #[.int .i64 f.v.kind, .int .i64 f.v.n, .string f.v.s]
      go_upto_region 18 with fail
      obtain ⟨wf, hwf⟩ : ∃ wf, wo.alloc (.cells #[.int .i64 f.v.kind, .int .i64 f.v.n, .string f.v.s] 121) = wf := ⟨_, rfl⟩
      rw [hwf] at hbf kf ⊢
      clear hwf f0 f1 f2 f3 a0 a1 a2 a3 a4 a5
      have HF8 := Lib.hid kf
      have HB8 : Hid (Below w2.heap.size w2 wf) := Lib.hid (bthen HBR.out hbf)
      have HBG8 : Hid (Below g w2 wf) := by show Below _ _ _; rw [← HG.out]; exact HB8.out
      have HO8 := Lib.hid (HO.out.now hbf)
      have HGF : Hid (¬ One g wo.heap.size) := Lib.hid (fun (h : wo.heap.size = g) => by have := HO.out.lt; omega)
      have HM8 := Lib.hid (HK2.out.now HB8.out)
      have HGM : Hid (¬ One g (w.heap.size + 1)) := Lib.hid (fun (h : w.heap.size + 1 = g) => by have := HK2.out.lt; rw [HG.out] at this; omega)
      obtain ⟨gf, hgf⟩ : ∃ gf, wo.heap.size = gf := ⟨_, rfl⟩
      rw [hgf] at HF8 HGF ⊢
      clear hbf kf hgf HO HBr
      have HCV := Lib.hid (cellV_le HVB.out)
      have HC3 : Hid (f.v.kind = 3 → cellV vtN f.v = f.v.s.data.toList) := Lib.hid fun h => by unfold cellV; rw [if_pos h]
      have HCN : Hid (f.v.kind ≠ 3 → bsOf (cellV vtN f.v) = textNV f.v) := Lib.hid fun h => by unfold cellV; rw [if_neg h]; exact bs_of _
      have HNE : Hid (f.v.kind ≠ 3 → cellV vtN f.v ≠ []) := Lib.hid fun h => by unfold cellV; rw [if_neg h]; exact vtN_ne HVB.out h
      have HTR0 : Hid (f.v.kind ≠ 3 → ∀ W, Calls Tryz.prog 135 #[.agg #[.int .i64 f.v.kind, .int .i64 f.v.n, .string f.v.s]] W fun e' w' => e' = .returned (.string (textNV f.v)) ∧ Below W.heap.size W w') := Lib.hid fun h W => textNV_ref f.v W HFF.out.v HVB.out h
      obtain ⟨xs, hxs⟩ : ∃ xs, cellV vtN f.v = xs := ⟨_, rfl⟩
      rw [hxs] at HCV HC3 HCN HNE HDB HDG
      obtain ⟨xs0, hxs0⟩ : ∃ xs0, f.v.s.data.toList = xs0 := ⟨_, rfl⟩
      have HS0 : Hid (f.v.s = bsOf xs0) := by show _ = _; rw [← hxs0]; exact (bs_of _).symm
      rw [hxs0] at HC3
      clear hxs hxs0
      obtain ⟨f0, f1, f2⟩ := HF8.out.c3
      obtain ⟨c0, c1, c2, c3, c4, c5, c6, c7⟩ := HM8.out.c8m
      have hkk : k < m.kinds.length := by have := HKL.out; have := HLN.out; have := HOK.out.kinds; omega
      obtain ⟨bk, ok, kz, rfl, hDk, hxk, _, ck0⟩ := SlI.at_ (SlI.now (SlI.now HMK.out HB.out) HB8.out) hkk
      have HKZ : Hid (m.kinds.getD k 0 = kz) := by show _ = _; rw [List.getD_eq_getElem?_getD, hxk]; rfl
      rw [HKZ.out] at HDB HDG
      have ik0 : (0 : Int) ≤ (k : Int) := by omega
      have ik1 : (k : Int) < (m.kinds.length : Int) := by omega
      clear hxk hDk hkk
      by_cases hbd : f.v.kind ≠ kz ∨ xs = []
      · have HEND := Lib.hid (HDB.out hbd)
        have HP : Hid (p = ([], 11)) := by show _ = _; rw [HE2.out, HDR.out, HEND.out]
        by_cases hk1 : f.v.kind = kz
        · have h3 : f.v.kind = 3 := Classical.byContradiction fun h => by
            rcases hbd with h' | h'
            · exact h' hk1
            · exact HNE.out h h'
          have hx0 : xs0 = [] := by rw [← HC3.out h3]; exact hbd.resolve_left (fun h => h hk1)
          have hs0 := HS0.out
          rw [hx0] at hs0
          rw [hs0] at f2
          have y1 : (bsOf []).toList = [] := by rw [Lib.toList_data]; rfl
          have y2 : (bsOf []).toList.isEmpty = true := by rw [y1]; rfl
          rw [h3] at f0
          have hkz3 : kz = 3 := by rw [← hk1]; exact h3
          rw [hkz3] at ck0
          clear hbd hk1 h3 hx0 hs0 hkz3 HDG HDB
          go_quiet (fail)
          go_wp2_with fail
          go_ret2
          show RetRow _ _ _ _
          rw [HP.out]
          exact ⟨_, rfl, Sl.none_, bdrawn (HRET0.out _ HBG8.out) _⟩
        · have x1 : (f.v.kind != kz) = true := by simp [hk1]
          have x2 : decide (f.v.kind = kz) = false := decide_eq_false hk1
          clear hbd hk1 HDG HDB
          go_quiet (fail)
          go_wp2_with fail
          go_ret2
          show RetRow _ _ _ _
          rw [HP.out]
          exact ⟨_, rfl, Sl.none_, bdrawn (HRET0.out _ HBG8.out) _⟩
      · have HNX := Lib.hid (HDG.out hbd)
        have hk1 : f.v.kind = kz := Classical.byContradiction fun h => hbd (.inl h)
        have HXN : Hid (xs ≠ []) := Lib.hid fun h => hbd (.inr h)
        have hkd : k < m.data.length := by have := HKL.out; have := HLN.out; omega
        obtain ⟨bd, od, dz, rfl, hDd, hxd, _, cd0⟩ := SlI.at_ (SlI.now (SlI.now HMD.out HB.out) HB8.out) hkd
        have hdz : m.data.getD k 0 = dz := by rw [List.getD_eq_getElem?_getD, hxd]; rfl
        rw [hdz] at HNX
        have hdm : dz ∈ m.data := List.mem_of_getElem? hxd
        obtain ⟨d, rfl⟩ : ∃ d : Nat, dz = (d : Int) := ⟨dz.toNat, by have := (HOK.out.data dz hdm).1; omega⟩
        have HLd : Hid (d < wd) := by have := HCD.out _ hdm; show d < wd; omega
        have hb8' : bd < wf.heap.size := by have := HB8.out.size; exact Nat.lt_of_lt_of_le hDd (Nat.le_refl _)
        have HDW : Hid (bd < w2.heap.size) := by
          obtain ⟨b', o', z', hA', hD', _, _, _⟩ := SlI.at_ (SlI.now HMD.out HB.out) (show k < m.data.length by have := HKL.out; have := HLN.out; omega)
          injection hA' with hA'
          injection hA' with e1 _
          rw [e1]; exact hD'
        have HGD : Hid (¬ One g bd) := Lib.hid (fun (h : bd = g) => by have := HDW.out; rw [HG.out] at this; omega)
        have HCDF := Lib.hid cd0
        have id0 : (0 : Int) ≤ (d : Int) := by omega
        have id1 : (d : Int) < (wd : Int) := by have := HLd.out; omega
        have ik2 : (k : Int) < (m.data.length : Int) := by omega
        have HK1' := Lib.hid hk1
        clear hbd hxd hDd hdm hdz hkd hb8' HDG HDB cd0 hk1
        go_upto_region 18 with fail
        go_cut [98] from 81 to 98 (fun b W => b = .bool false ∧ ∃ n, W = wf.drewN n)
        case first =>
          have hk1 := HK1'.out
          by_cases h3 : f.v.kind = 3
          · have hx0 : xs0 ≠ [] := by rw [← HC3.out h3]; exact HXN.out
            have y1 : f.v.s.toList ≠ [] := by rw [HS0.out, Lib.toList_data]; exact hx0
            have y2 : f.v.s.toList.isEmpty = false := by cases h : f.v.s.toList with | nil => exact absurd h y1 | cons _ _ => rfl
            rw [h3] at f0
            have hkz3 : kz = 3 := by rw [← hk1]; exact h3
            rw [hkz3] at ck0
            clear hk1 h3 hx0 hkz3
            go_quiet (fail)
            go_wp2_with fail
            go_meet
            exact ⟨rfl, _, rfl⟩
          · have x1 : (f.v.kind != kz) = false := by simp [hk1]
            have x2 : decide (f.v.kind = kz) = true := decide_eq_true hk1
            have x3 : (f.v.kind == 3) = false := by simpa using h3
            have x4 : decide (f.v.kind = 3) = false := decide_eq_false h3
            clear hk1 h3
            go_quiet (fail)
            go_wp2_with fail
            go_meet
            exact ⟨rfl, _, rfl⟩
        case rest =>
        obtain ⟨rfl, n, hwn⟩ := hcut
        have HO9 : Hid (OwnCells wc g g wd r) := by show OwnCells _ _ _ _ _; rw [hwn]; exact HO8.out.drewN n
        have HM9 : Hid (Blk wc (w.heap.size + 1) 33 #[.int .i64 (c : Int), .int .i64 (a : Int), .int .i64 m.res, .int .i64 m.life, .int .i64 (t : Int), .slice (some ⟨bd, od, none⟩) m.data.length cm, .slice (some ⟨bk, ok, none⟩) m.kinds.length ck, .int .u8 z]) := by show Blk _ _ _ _; rw [hwn]; exact HM8.out
        have HF9 : Hid (Blk wc gf 121 #[.int .i64 f.v.kind, .int .i64 f.v.n, .string f.v.s]) := by show Blk _ _ _ _; rw [hwn]; exact HF8.out
        have HBG9 : Hid (Below g w2 wc) := by show Below _ _ _; rw [hwn]; exact bdrawn HBG8.out n
        have HDd8 : Hid (bd < wc.heap.size ∧ ¬ One g bd ∧ wc.cell? ⟨bd, od + k, none⟩ = some (.int .i64 (d : Int))) := by
          show _ ∧ _ ∧ _
          rw [hwn]
          exact ⟨Nat.lt_of_lt_of_le HDW.out HB8.out.size, HGD.out, HCDF.out⟩
        clear hwn HO8 HM8 HF8 HBG8 HB8 HCDF HBR f0 f1 f2 c0 c1 c2 c3 c4 c5 c6 c7 ck0
        obtain ⟨w8, hw8⟩ : ∃ w8, wc = w8 := ⟨_, rfl⟩
        rw [hw8] at HO9 HM9 HF9 HBG9 HDd8 ⊢
        clear hw8
        have HM8 := HM9
        have HF8 := HF9
        have HBG8 := HBG9
        clear HM9 HF9 HBG9
        go_upto_region 20 with fail
        go_cut [] from 99 to 107 (fun W => OwnF (fun l : Bt => Value.string (bsOf l)) W 0 9 g wd (r.set d xs0) ∧ Chg (One g) w8 W)
        case first =>
          have HR0 := Lib.hid (RwC.start (I := fun j => j = d) HO9.out)
          rename_i J1 K1 hJ hK
          refine wp_region_rel (by kernel_rfl) (by kernel_rfl) (by kernel_rfl) (RwC w8 g wd r (fun j => j = d)) (wriF20 w g k d wd bd od cm gf m f xs0 xs) ?h0 ?hstep ?hend ?hall
          case hall => exact hall_of (by kernel_rfl)
          case h0 => exact HR0.out
          case hstep =>
            intro i o ho listed ac W hsh hi hk hR0 hM
            have hR0c := hR0
            obtain ⟨hkeep, hR⟩ := hR0c
            have hgW : g < W.heap.size := by obtain ⟨_, h1, _, _⟩ := hR.row; exact h1.lt
            obtain ⟨c0, c1, c2, c3, c4, c5, c6, c7⟩ := (HM8.out.chg hkeep HGM.out).c8m
            obtain ⟨f0, f1, f2⟩ := (HF8.out.chg hkeep HGF.out).c3
            rw [HS0.out] at f2
            have cdW : W.cell? ⟨bd, od + k, none⟩ = some (.int .i64 (d : Int)) := (World.cell?_of_block (hkeep.block bd HDd8.out.1 HDd8.out.2.1)).trans HDd8.out.2.2
            match i, ho with
            | 0, ho =>
              injection ho with ho
              subst ho
              have e0 : ac.eval (.tmp 10) = .slice (some ⟨g, 0, none⟩) wd wd := hk.same (s := 10) (by kernel_rfl)
              exact wpM_run (.slice (some ⟨g, 0, none⟩) wd wd) W (by simp only [execOp, e0]; simp [go_sem]) ⟨_, rfl, hR0, fun u hu => hu (by simp), fun j _ _ _ u h => h⟩
            | 1, ho =>
              injection ho with ho
              subst ho
              have e0 : ac.eval (.tmp 5) = .pointer (some ⟨w.heap.size + 1, 0, none⟩) := hk.same (s := 5) (by kernel_rfl)
              exact wpM_run (.pointer (some ⟨w.heap.size + 1, 5, none⟩)) W (by simp only [execOp, e0]; simp [go_sem]) ⟨_, rfl, hR0, fun u hu => hu (by simp), fun j _ _ _ u h => h⟩
            | 2, ho =>
              injection ho with ho
              subst ho
              have e0 : ac.eval (.tmp 100) = .pointer (some ⟨w.heap.size + 1, 5, none⟩) := hM 1 (by decide) (ready_up hi (by kernel_rfl))
              exact wpM_run (.slice (some ⟨bd, od, none⟩) m.data.length cm) W (by simp only [execOp, e0]; simp [go_sem, c5]) ⟨_, rfl, hR0, fun u hu => hu (by simp), fun j _ _ _ u h => h⟩
            | 3, ho =>
              injection ho with ho
              subst ho
              have e0 : ac.eval (.tmp 12) = .int .i64 (k : Int) := hk.same (s := 12) (by kernel_rfl)
              exact wpM_run (.int .i64 (k : Int)) W (by simp only [execOp, e0]; simp [go_sem]) ⟨_, rfl, hR0, fun u hu => hu (by simp), fun j _ _ _ u h => h⟩
            | 4, ho =>
              injection ho with ho
              subst ho
              have e0 : ac.eval (.tmp 101) = .slice (some ⟨bd, od, none⟩) m.data.length cm := hM 2 (by decide) (ready_up hi (by kernel_rfl))
              have e1 : ac.eval (.tmp 102) = .int .i64 (k : Int) := hM 3 (by decide) (ready_up hi (by kernel_rfl))
              exact wpM_run (.pointer (some ⟨bd, od + k, none⟩)) W (by simp only [execOp, e0, e1]; simp [go_sem, ik0, ik2]) ⟨_, rfl, hR0, fun u hu => hu (by simp), fun j _ _ _ u h => h⟩
            | 5, ho =>
              injection ho with ho
              subst ho
              have e0 : ac.eval (.tmp 103) = .pointer (some ⟨bd, od + k, none⟩) := hM 4 (by decide) (ready_up hi (by kernel_rfl))
              exact wpM_run (.int .i64 (d : Int)) W (by simp only [execOp, e0]; simp [go_sem, cdW]) ⟨_, rfl, hR0, fun u hu => hu (by simp), fun j _ _ _ u h => h⟩
            | 6, ho =>
              injection ho with ho
              subst ho
              have e0 : ac.eval (.tmp 13) = .pointer (some ⟨gf, 0, none⟩) := hk.same (s := 13) (by kernel_rfl)
              exact wpM_run (.pointer (some ⟨gf, 2, none⟩)) W (by simp only [execOp, e0]; simp [go_sem]) ⟨_, rfl, hR0, fun u hu => hu (by simp), fun j _ _ _ u h => h⟩
            | 7, ho =>
              injection ho with ho
              subst ho
              have e0 : ac.eval (.tmp 105) = .pointer (some ⟨gf, 2, none⟩) := hM 6 (by decide) (ready_up hi (by kernel_rfl))
              exact wpM_run (.string (bsOf xs0)) W (by simp only [execOp, e0]; simp [go_sem, f2]) ⟨_, rfl, hR0, fun u hu => hu (by simp), fun j _ _ _ u h => h⟩
            | 8, ho =>
              injection ho with ho
              subst ho
              have e0 : ac.eval (.tmp 99) = .slice (some ⟨g, 0, none⟩) wd wd := hM 0 (by decide) (ready_up hi (by kernel_rfl))
              have e1 : ac.eval (.tmp 104) = .int .i64 (d : Int) := hM 5 (by decide) (ready_up hi (by kernel_rfl))
              exact wpM_run (.pointer (some ⟨g, d, none⟩)) W (by simp only [execOp, e0, e1]; simp [go_sem, id0, id1]) ⟨_, rfl, hR0, fun u hu => hu (by simp), fun j _ _ _ u h => h⟩
            | 9, ho =>
              injection ho with ho
              subst ho
              have e0 : ac.eval (.tmp 107) = .pointer (some ⟨g, d, none⟩) := hM 8 (by decide) (ready_up hi (by kernel_rfl))
              have e1 : ac.eval (.tmp 106) = .string (bsOf xs0) := hM 7 (by decide) (ready_up hi (by kernel_rfl))
              obtain ⟨y, hy⟩ := hR.cell (k := d) (by rw [HLR.out]; exact HLd.out)
              have fz := hR.frozen d
              refine wpM_store _ _ _ _ _ (W.setCell ⟨g, d, none⟩ (.string (bsOf xs0))) () rfl e0 e1 (by simp [go_sem, hy, fz]) ⟨_, rfl, ⟨hkeep.set (p := ⟨g, d, none⟩) (.inr (show One g g from rfl)) _, hR.set_ rfl xs0⟩, fun u _ => cell_put W hy _, fun j hj hji hu u h => ?_⟩
              match j, hj, hji, h with
              | 0, _, _, h => exact h
              | 1, _, _, h => exact h
              | 2, _, _, h => exact h
              | 3, _, _, h => exact h
              | 4, _, _, h => exact h
              | 5, _, _, h => exact h
              | 6, _, _, h => exact h
              | 7, _, _, h => exact h
              | 8, _, _, h => exact h
              | 9, _, hji, _ => exact absurd rfl hji
              | n + 10, hj, _, _ => exact absurd hj (by simp)
            | n + 10, ho => simp at ho
          case hend =>
            intro ac W hk hR0 hM
            obtain ⟨hkeep, hR⟩ := hR0
            have hrow : OwnF (fun l : Bt => Value.string (bsOf l)) W 0 9 g wd (r.set d xs0) := by
              refine hR.end_ str_inj (by simp) (fun j hj => List.getElem?_set_ne (fun e => hj e.symm)) (fun j x hj hx => ?_)
              subst hj
              have hl1 : j < r.length := by rw [HLR.out]; exact HLd.out
              rw [List.getElem?_set_self hl1] at hx
              injection hx with hx
              rw [← hx]
              exact hM 9 (by decide)
            refine hK _ _ ?_
            rw [hk.form (by kernel_rfl)]
            simp only [putsAll, Option.getD_some, Act.put, List.setIfInBounds_toArray, List.set_cons_zero, List.set_cons_succ]
            go_meet
            exact ⟨hrow, hkeep⟩
        case rest =>
        obtain ⟨hrow, hch⟩ := hcut
        obtain ⟨w9, hw9⟩ : ∃ w9, wc = w9 := ⟨_, rfl⟩
        rw [hw9] at hrow hch ⊢
        have HCH9 := Lib.hid hch
        have HOW9 := Lib.hid hrow
        have HM9 := Lib.hid (HM8.out.chg hch HGM.out)
        have HF9 := Lib.hid (HF8.out.chg hch HGF.out)
        have HDd9 : Hid (bd < w9.heap.size ∧ ¬ One g bd ∧ w9.cell? ⟨bd, od + k, none⟩ = some (.int .i64 (d : Int))) := ⟨Nat.lt_of_lt_of_le HDd8.out.1 hch.size, HDd8.out.2.1, (World.cell?_of_block (hch.block bd HDd8.out.1 HDd8.out.2.1)).trans HDd8.out.2.2⟩
        clear hw9 hrow hch HO9
        obtain ⟨f0, f1, f2⟩ := HF9.out.c3
        obtain ⟨qk, hqk⟩ : ∃ qk, (f.v.kind != 3) = qk := ⟨_, rfl⟩
        go_upto_if 110 with fail
        have HQK := Lib.hid hqk
        clear hqk
        have HGS8 : Hid (g ≤ w8.heap.size) := Lib.hid (by have := HBG8.out; rw [← HG.out]; exact this.size)
        cases qk with
        | false =>
          have h3 : f.v.kind = 3 := by have := HQK.out; simpa using this
          have HXX := HC3.out h3
          have HRO : Hid (OwnF (fun l : Bt => Value.string (bsOf l)) w9 0 9 g wd (r.set d xs)) := by show OwnF _ _ _ _ _ _ _; rw [HXX]; exact HOW9.out
          have HCHW := HCH9
          clear h3 HXX
          go_wp2_with fail
          go_roundw
          case rel => exact ⟨j + 1, r.set d xs, by go_num, by omega, Lib.hid (ownF_base HRO.out (Nat.le_refl _)), Lib.hid ((List.length_set ..).trans HLR.out), Lib.hid (HDR.out.trans HNX.out), Lib.hid (HBG8.out.trans (chg_belowG HCHW.out (Nat.le_refl _) HGS8.out))⟩
          case measure => simp [intOf]; omega
        | true =>
          have h3 : f.v.kind ≠ 3 := by have := HQK.out; simpa using this
          have HTR : Hid (∀ W, Calls Tryz.prog 135 #[.agg #[.int .i64 f.v.kind, .int .i64 f.v.n, .string (bsOf xs0)]] W fun e' w' => e' = .returned (.string (bsOf xs)) ∧ Below W.heap.size W w') := Lib.hid fun W => by
            have := HTR0.out h3 W
            rw [HS0.out, ← HCN.out h3] at this
            exact this
          have HSS : Hid ((r.set d xs0).set d xs = r.set d xs) := Lib.hid (List.set_set ..)
          have HLR2 : Hid ((r.set d xs0).length = wd) := by show _ = _; rw [List.length_set]; exact HLR.out
          have HOC : Hid (OwnCells w9 0 g wd (r.set d xs0)) := HOW9
          obtain ⟨r2, hr2⟩ : ∃ r2, r.set d xs0 = r2 := ⟨_, rfl⟩
          rw [hr2] at HSS HLR2 HOC
          have HR0 := Lib.hid (RwC.start (I := fun j => j = d) HOC.out)
          clear h3 hr2 f0 f1 f2
          go_upto_region 22 with fail
          refine wp_region_rel (by kernel_rfl) (by kernel_rfl) (by kernel_rfl) (RwC w9 g wd r2 (fun j => j = d)) (wriF22 w g k d wd bd od cm gf m f xs0 xs) ?h0 ?hstep ?hend ?hall
          case hall => exact hall_of (by kernel_rfl)
          case h0 => exact HR0.out
          case hstep =>
            intro i o ho listed ac W hsh hi hk hR0 hM
            have hR0c := hR0
            obtain ⟨hkeep, hR⟩ := hR0c
            have hgW : g < W.heap.size := by obtain ⟨_, h1, _, _⟩ := hR.row; exact h1.lt
            obtain ⟨c0, c1, c2, c3, c4, c5, c6, c7⟩ := (HM9.out.chg hkeep HGM.out).c8m
            obtain ⟨f0, f1, f2⟩ := (HF9.out.chg hkeep HGF.out).c3
            rw [HS0.out] at f2
            have cdW : W.cell? ⟨bd, od + k, none⟩ = some (.int .i64 (d : Int)) := (World.cell?_of_block (hkeep.block bd HDd9.out.1 HDd9.out.2.1)).trans HDd9.out.2.2
            match i, ho with
            | 0, ho =>
              injection ho with ho
              subst ho
              have e0 : ac.eval (.tmp 10) = .slice (some ⟨g, 0, none⟩) wd wd := hk.same (s := 10) (by kernel_rfl)
              exact wpM_run (.slice (some ⟨g, 0, none⟩) wd wd) W (by simp only [execOp, e0]; simp [go_sem]) ⟨_, rfl, hR0, fun u hu => hu (by simp), fun j _ _ _ u h => h⟩
            | 1, ho =>
              injection ho with ho
              subst ho
              have e0 : ac.eval (.tmp 5) = .pointer (some ⟨w.heap.size + 1, 0, none⟩) := hk.same (s := 5) (by kernel_rfl)
              exact wpM_run (.pointer (some ⟨w.heap.size + 1, 5, none⟩)) W (by simp only [execOp, e0]; simp [go_sem]) ⟨_, rfl, hR0, fun u hu => hu (by simp), fun j _ _ _ u h => h⟩
            | 2, ho =>
              injection ho with ho
              subst ho
              have e0 : ac.eval (.tmp 112) = .pointer (some ⟨w.heap.size + 1, 5, none⟩) := hM 1 (by decide) (ready_up hi (by kernel_rfl))
              exact wpM_run (.slice (some ⟨bd, od, none⟩) m.data.length cm) W (by simp only [execOp, e0]; simp [go_sem, c5]) ⟨_, rfl, hR0, fun u hu => hu (by simp), fun j _ _ _ u h => h⟩
            | 3, ho =>
              injection ho with ho
              subst ho
              have e0 : ac.eval (.tmp 12) = .int .i64 (k : Int) := hk.same (s := 12) (by kernel_rfl)
              exact wpM_run (.int .i64 (k : Int)) W (by simp only [execOp, e0]; simp [go_sem]) ⟨_, rfl, hR0, fun u hu => hu (by simp), fun j _ _ _ u h => h⟩
            | 4, ho =>
              injection ho with ho
              subst ho
              have e0 : ac.eval (.tmp 113) = .slice (some ⟨bd, od, none⟩) m.data.length cm := hM 2 (by decide) (ready_up hi (by kernel_rfl))
              have e1 : ac.eval (.tmp 114) = .int .i64 (k : Int) := hM 3 (by decide) (ready_up hi (by kernel_rfl))
              exact wpM_run (.pointer (some ⟨bd, od + k, none⟩)) W (by simp only [execOp, e0, e1]; simp [go_sem, ik0, ik2]) ⟨_, rfl, hR0, fun u hu => hu (by simp), fun j _ _ _ u h => h⟩
            | 5, ho =>
              injection ho with ho
              subst ho
              have e0 : ac.eval (.tmp 115) = .pointer (some ⟨bd, od + k, none⟩) := hM 4 (by decide) (ready_up hi (by kernel_rfl))
              exact wpM_run (.int .i64 (d : Int)) W (by simp only [execOp, e0]; simp [go_sem, cdW]) ⟨_, rfl, hR0, fun u hu => hu (by simp), fun j _ _ _ u h => h⟩
            | 6, ho =>
              injection ho with ho
              subst ho
              have e0 : ac.eval (.tmp 13) = .pointer (some ⟨gf, 0, none⟩) := hk.same (s := 13) (by kernel_rfl)
              exact wpM_run (.agg #[.int .i64 f.v.kind, .int .i64 f.v.n, .string (bsOf xs0)]) W (by simp only [execOp, e0]; simp [go_sem, f0, f1, f2]) ⟨_, rfl, hR0, fun u hu => hu (by simp), fun j _ _ _ u h => h⟩
            | 7, ho =>
              injection ho with ho
              subst ho
              have e0 : ac.eval (.tmp 117) = .agg #[.int .i64 f.v.kind, .int .i64 f.v.n, .string (bsOf xs0)] := hM 6 (by decide) (ready_up hi (by kernel_rfl))
              refine wpM_callF (f := 135) enters_textR _ _ #[.agg #[.int .i64 f.v.kind, .int .i64 f.v.n, .string (bsOf xs0)]] _ rfl rfl (by simp only [List.map_toArray, List.map_cons, List.map_nil, e0]) ((HTR.out W).mono ?_)
              rintro e W' ⟨rfl, hb⟩
              refine ⟨_, rfl, _, rfl, ⟨hkeep.trans (Chg.of_below hb), hR.now hb (Nat.zero_le _)⟩, fun u hu => hu (by simp), fun j hj hji hu u h => ?_⟩
              match j, hj, hji, h with
              | 0, _, _, h => exact h
              | 1, _, _, h => exact h
              | 2, _, _, h => exact h
              | 3, _, _, h => exact h
              | 4, _, _, h => exact h
              | 5, _, _, h => exact h
              | 6, _, _, h => exact h
              | 7, _, hji, _ => exact absurd rfl hji
              | 8, _, _, h => exact h
              | 9, _, _, h => exact (hb.cell (p := ⟨g, d, none⟩) hgW).trans h
              | n + 10, hj, _, _ => exact absurd hj (by simp)
            | 8, ho =>
              injection ho with ho
              subst ho
              have e0 : ac.eval (.tmp 111) = .slice (some ⟨g, 0, none⟩) wd wd := hM 0 (by decide) (ready_up hi (by kernel_rfl))
              have e1 : ac.eval (.tmp 116) = .int .i64 (d : Int) := hM 5 (by decide) (ready_up hi (by kernel_rfl))
              exact wpM_run (.pointer (some ⟨g, d, none⟩)) W (by simp only [execOp, e0, e1]; simp [go_sem, id0, id1]) ⟨_, rfl, hR0, fun u hu => hu (by simp), fun j _ _ _ u h => h⟩
            | 9, ho =>
              injection ho with ho
              subst ho
              have e0 : ac.eval (.tmp 119) = .pointer (some ⟨g, d, none⟩) := hM 8 (by decide) (ready_up hi (by kernel_rfl))
              have e1 : ac.eval (.tmp 118) = .string (bsOf xs) := hM 7 (by decide) (ready_up hi (by kernel_rfl))
              obtain ⟨y, hy⟩ := hR.cell (k := d) (by rw [HLR2.out]; exact HLd.out)
              have fz := hR.frozen d
              refine wpM_store _ _ _ _ _ (W.setCell ⟨g, d, none⟩ (.string (bsOf xs))) () rfl e0 e1 (by simp [go_sem, hy, fz]) ⟨_, rfl, ⟨hkeep.set (p := ⟨g, d, none⟩) (.inr (show One g g from rfl)) _, hR.set_ rfl xs⟩, fun u _ => cell_put W hy _, fun j hj hji hu u h => ?_⟩
              match j, hj, hji, h with
              | 0, _, _, h => exact h
              | 1, _, _, h => exact h
              | 2, _, _, h => exact h
              | 3, _, _, h => exact h
              | 4, _, _, h => exact h
              | 5, _, _, h => exact h
              | 6, _, _, h => exact h
              | 7, _, _, h => exact h
              | 8, _, _, h => exact h
              | 9, _, hji, _ => exact absurd rfl hji
              | n + 10, hj, _, _ => exact absurd hj (by simp)
            | n + 10, ho => simp at ho
          case hend =>
            intro ac W hk hR0 hM
            obtain ⟨hkeep, hR⟩ := hR0
            have hrow : OwnF (fun l : Bt => Value.string (bsOf l)) W 0 9 g wd (r2.set d xs) := by
              refine hR.end_ str_inj (by simp) (fun j hj => List.getElem?_set_ne (fun e => hj e.symm)) (fun j x hj hx => ?_)
              subst hj
              have hl1 : j < r2.length := by rw [HLR2.out]; exact HLd.out
              rw [List.getElem?_set_self hl1] at hx
              injection hx with hx
              rw [← hx]
              exact hM 9 (by decide)
            rw [HSS.out] at hrow
            have HRO := Lib.hid hrow
            have HCHW := Lib.hid (HCH9.out.trans hkeep)
            rw [hk.form (by kernel_rfl)]
            simp only [putsAll, Option.getD_some, Act.put, List.setIfInBounds_toArray, List.set_cons_zero, List.set_cons_succ]
            go_wp2_with fail
            go_roundw
            case rel => exact ⟨j + 1, r.set d xs, by go_num, by omega, Lib.hid (ownF_base HRO.out (Nat.le_refl _)), Lib.hid ((List.length_set ..).trans HLR.out), Lib.hid (HDR.out.trans HNX.out), Lib.hid (HBG8.out.trans (chg_belowG HCHW.out (Nat.le_refl _) HGS8.out))⟩
            case measure => simp [intOf]; omega
    · have hje : j = e.data.length := by omega
      have HEND : Hid (datR vtN names m e.data R2 = some r) := by
        show _ = _
        rw [HDR.out, hje, List.drop_eq_nil_of_le (Nat.le_refl _)]
        rfl
      have hjn : ¬ (j : Int) < (e.data.length : Int) := by omega
      have hE := HE2.out
      rw [HEND.out] at hE
      simp only at hE
      have HE3 := Lib.hid hE
      have HCL2 : Hid (CLe r) := by have := (HRL0.out (by rw [hE])).2; rw [hE] at this; exact this
      have HRET : Hid (SlP (Btw w.heap.size wo.heap.size) wo (.slice (some ⟨g, 0, none⟩) wd wd) r) := Lib.hid (by
        have h1 := HO.out.1
        have hg1 : w.heap.size ≤ g := by rw [← HG.out]; exact HB.out.size
        have hg2 := HO.out.lt
        rw [HLR.out] at h1
        refine Sl.of_own1 h1 (by rw [List.length_map]; exact HLR.out) (fun g' e => by injection e with e; subst e; exact ⟨hg1, hg2⟩) (fun i x hx => ?_)
        rw [List.getElem?_map] at hx
        obtain ⟨b, hb, rfl⟩ := Option.map_eq_some_iff.1 hx
        refine ⟨.string (bsOf b), by rw [List.getElem?_map, hb]; rfl, rfl, ?_⟩
        have := HCL2.out b (List.mem_of_getElem? hb)
        rw [bs_size]
        unfold maxLen; omega)
      clear hje hlt hE
      go_wp2_with fail
      go_ret2
      show RetRow _ _ _ _
      rw [HE3.out]
      exact ⟨_, rfl, HRET.out, HRET0.out _ HBr.out⟩
end Go.Proofs.YtoalecalahkblaaGreatDoor

set_option linter.all false
namespace Go.Proofs.YtoalecalahkblaaGreatDoor
open Go.RowKit
def colOk (k : Int) : Bool := decide (0 ≤ k) && decide (k < 40)
def badM (m : Mp) : Prop := isSep m.sep = false ∨ m.res < -1 ∨ m.life < -1 ∨ 8 < m.data.length ∨ m.kinds.length ≠ m.data.length
theorem colsR_perm {m : Mp} (h1 : ¬ m.res < -1) (h2 : ¬ m.life < -1) : (colsR m).Perm (colsB m) := by
  have e1 : (if 0 ≤ m.res then [m.res] else []) = (if m.res = -1 then [] else [m.res]) := by
    by_cases h : m.res = -1
    · rw [if_pos h, if_neg (by omega)]
    · rw [if_neg h, if_pos (by omega)]
  have e2 : (if 0 ≤ m.life then [m.life] else []) = (if m.life = -1 then [] else [m.life]) := by
    by_cases h : m.life = -1
    · rw [if_pos h, if_neg (by omega)]
    · rw [if_neg h, if_pos (by omega)]
  unfold colsR col2 col1 colsB
  rw [e1, e2]
  generalize (if m.res = -1 then [] else [m.res]) = A
  generalize (if m.life = -1 then [] else [m.life]) = B
  generalize m.data = D
  show ([m.cas, m.act] ++ A ++ B ++ [m.time] ++ D).Perm ([m.cas, m.act, m.time] ++ D ++ A ++ B)
  have h1 : ([m.cas, m.act] ++ A ++ B ++ [m.time] ++ D) = [m.cas, m.act] ++ ((A ++ B) ++ ([m.time] ++ D)) := by simp
  have h2 : ([m.cas, m.act, m.time] ++ D ++ A ++ B) = [m.cas, m.act] ++ (([m.time] ++ D) ++ (A ++ B)) := by simp
  rw [h1, h2]
  exact (List.perm_append_comm).append_left _
theorem mapB_badM {m : Mp} (h : badM m) : mapB m = false := by
  rcases h with h | h | h | h | h
  · exact mapB_bad (.inl h)
  · unfold mapB
    have : (colsB m).all (fun k => decide (0 ≤ k) && decide (k < 40)) = false := by
      rw [List.all_eq_false]
      refine ⟨m.res, ?_, by simp; omega⟩
      unfold colsB
      rw [if_neg (by omega)]
      simp
    rw [this]; simp
  · unfold mapB
    have : (colsB m).all (fun k => decide (0 ≤ k) && decide (k < 40)) = false := by
      rw [List.all_eq_false]
      refine ⟨m.life, ?_, by simp; omega⟩
      unfold colsB
      rw [if_neg (show ¬ m.life = -1 by omega)]
      simp
    rw [this]; simp
  · exact mapB_bad (.inr (.inl h))
  · exact mapB_bad (.inr (.inr h))
theorem mapB_good {m : Mp} (h : ¬ badM m) : mapB m = ((colsR m).all colOk && decide (colsR m).Nodup && m.kinds.all kindB) := by
  unfold badM at h
  simp only [not_or] at h
  obtain ⟨h1, h2, h3, h4, h5⟩ := h
  have hp := colsR_perm h2 h3
  rw [mapB_eq (by simpa using h1) (by omega) (by simpa using h5)]
  have e1 : (colsB m).all (fun k => decide (0 ≤ k) && decide (k < 40)) = (colsR m).all colOk := by
    rw [Bool.eq_iff_iff, List.all_eq_true, List.all_eq_true]
    exact ⟨fun h k hk => h k (hp.mem_iff.1 hk), fun h k hk => h k (hp.mem_iff.2 hk)⟩
  have e2 : decide (colsB m).Nodup = decide (colsR m).Nodup := decide_eq_decide.2 hp.nodup_iff.symm
  rw [e1, e2]
theorem all_step {α : Type} {p : α → Bool} {xs : List α} {i : Nat} {x : α} (h : ∀ y ∈ xs.take i, p y = true) (hx : xs[i]? = some x) (hp : p x = true) : ∀ y ∈ xs.take (i + 1), p y = true := by
  intro y hy
  rw [List.take_add_one, hx] at hy
  rcases List.mem_append.1 hy with hy | hy
  · exact h y hy
  · simp at hy; rw [hy]; exact hp
theorem nodup_step {xs : List Int} {i : Nat} {x : Int} (h : (xs.take i).Nodup) (hx : xs[i]? = some x) (hp : x ∉ xs.take i) : (xs.take (i + 1)).Nodup := by
  rw [List.take_add_one, hx]
  show (xs.take i ++ [x]).Nodup
  rw [List.nodup_append]
  exact ⟨h, by simp, fun a ha b hb => by rw [List.mem_singleton] at hb; rw [hb]; exact fun e => hp (e ▸ ha)⟩
theorem nmem_step {xs : List Int} {j : Nat} {x y : Int} (h : y ∉ xs.take j) (hx : xs[j]? = some x) (hp : x ≠ y) : y ∉ xs.take (j + 1) := by
  rw [List.take_add_one, hx]
  intro hy
  rcases List.mem_append.1 hy with hy | hy
  · exact h hy
  · simp at hy; exact hp hy.symm
set_option maxHeartbeats 4000000 in
set_option maxRecDepth 100000 in
theorem valid_ref (u : Value) (m : Mp) (w : World) (h : IsMp (Lt w.heap.size) w u m) (hb : m.data.length ≤ 1000000) :
    Calls Tryz.prog 19 #[u] w fun e w' => e = .returned (.bool (mapB m)) ∧ Below w.heap.size w w' := by
  have HCR := Lib.hid (fun W hW => columns_ref u m W hW hb)
  have HMP := Lib.hid h
  have HSP := Lib.hid (separator_ref m.sep)
  obtain ⟨dv, kv, rfl, hfm, hd, hk⟩ := h
  obtain ⟨Ad, cd, rfl, _, _, hd⟩ := hd.open_
  obtain ⟨Ak, ck, rfl, _, _, hk⟩ := hk.open_
  obtain ⟨z, hz⟩ : ∃ z, (m.sep.toNat : Int) = z := ⟨_, rfl⟩
  have HMD := Lib.hid hd
  have HMK := Lib.hid hk
  unfold mpV at HCR HMP ⊢
  rw [hz] at HCR HMP HSP ⊢
  clear hfm hd hk hz hb
  have HB1 := Lib.hid (bone w (.cells #[.int .i64 m.cas, .int .i64 m.act, .int .i64 m.res, .int .i64 m.life, .int .i64 m.time, .slice Ad m.data.length cd, .slice Ak m.kinds.length ck, .int .u8 z] 33))
  have HM1 := Lib.hid (Blk.new w 33 #[.int .i64 m.cas, .int .i64 m.act, .int .i64 m.res, .int .i64 m.life, .int .i64 m.time, .slice Ad m.data.length cd, .slice Ak m.kinds.length ck, .int .u8 z])
  obtain ⟨q1, hq1⟩ : ∃ q, isSep m.sep = q := ⟨_, rfl⟩
  have HQ1 := Lib.hid hq1
  rw [hq1] at HSP
  clear hq1
  go_enter Tryz.func19, Tryz.ntmps19
  go_upto_region 1 with fail
  obtain ⟨w1, hw1⟩ : ∃ w1, w.alloc (.cells #[.int .i64 m.cas, .int .i64 m.act, .int .i64 m.res, .int .i64 m.life, .int .i64 m.time, .slice Ad m.data.length cd, .slice Ak m.kinds.length ck, .int .u8 z] 33) = w1 := ⟨_, rfl⟩
  rw [hw1] at HB1 HM1 ⊢
  clear hw1
  go_cut [35] from 7 to 35 (fun b W => ∃ q, b = .bool q ∧ (q = true ↔ badM m) ∧ w1 = W)
  case first =>
    obtain ⟨c0, c1, c2, c3, c4, c5, c6, c7⟩ := HM1.out.c8m
    have HG : Hid (∀ q : Bool, (q = true ↔ badM m) → (q = true ↔ badM m)) := Lib.hid fun _ h => h
    cases q1 with
    | false =>
      have HBD : Hid (badM m) := .inl HQ1.out
      go_wp2_with (go_at_call 50; (with_reducible refine (HSP.out _).mono ?_); rintro _ w2 ⟨rfl, rfl⟩)
      go_meet
      exact ⟨true, rfl, ⟨fun _ => HBD.out, fun _ => rfl⟩, rfl⟩
    | true =>
      by_cases h2 : m.res < -1
      · have HBD : Hid (badM m) := .inr (.inl h2)
        go_wp2_with (go_at_call 50; (with_reducible refine (HSP.out _).mono ?_); rintro _ w2 ⟨rfl, rfl⟩)
        go_meet
        exact ⟨true, rfl, ⟨fun _ => HBD.out, fun _ => rfl⟩, rfl⟩
      by_cases h3 : m.life < -1
      · have HBD : Hid (badM m) := .inr (.inr (.inl h3))
        go_wp2_with (go_at_call 50; (with_reducible refine (HSP.out _).mono ?_); rintro _ w2 ⟨rfl, rfl⟩)
        go_meet
        exact ⟨true, rfl, ⟨fun _ => HBD.out, fun _ => rfl⟩, rfl⟩
      by_cases h4 : (8 : Int) < (m.data.length : Int)
      · have HBD : Hid (badM m) := .inr (.inr (.inr (.inl (by omega))))
        go_wp2_with (go_at_call 50; (with_reducible refine (HSP.out _).mono ?_); rintro _ w2 ⟨rfl, rfl⟩)
        go_meet
        exact ⟨true, rfl, ⟨fun _ => HBD.out, fun _ => rfl⟩, rfl⟩
      by_cases h5 : m.kinds.length = m.data.length
      · have HBD : Hid (¬ badM m) := Lib.hid fun h => by
          rcases h with h | h | h | h | h
          · rw [HQ1.out] at h; cases h
          · exact h2 h
          · exact h3 h
          · exact h4 (by omega)
          · exact h h5
        have x5 : ((m.kinds.length : Int) != (m.data.length : Int)) = false := by simp [h5]
        clear h5
        go_wp2_with (go_at_call 50; (with_reducible refine (HSP.out _).mono ?_); rintro _ w2 ⟨rfl, rfl⟩)
        go_meet
        exact ⟨false, by rw [decide_eq_false (show ¬ m.res < -1 by omega), decide_eq_false (show ¬ m.life < -1 by omega), decide_eq_false (show ¬ (8 : Int) < (m.data.length : Int) by omega)]; rfl, ⟨fun h => Bool.noConfusion h, fun h => absurd h HBD.out⟩, rfl⟩
      · have HBD : Hid (badM m) := .inr (.inr (.inr (.inr h5)))
        have x5 : ((m.kinds.length : Int) != (m.data.length : Int)) = true := by simp; omega
        clear h5
        go_wp2_with (go_at_call 50; (with_reducible refine (HSP.out _).mono ?_); rintro _ w2 ⟨rfl, rfl⟩)
        go_meet
        exact ⟨true, rfl, ⟨fun _ => HBD.out, fun _ => rfl⟩, rfl⟩
  case rest =>
  obtain ⟨q, rfl, hq, rfl⟩ := hcut
  obtain ⟨c0, c1, c2, c3, c4, c5, c6, c7⟩ := HM1.out.c8m
  cases q with
  | true =>
    have HE : Hid (mapB m = false) := Lib.hid (mapB_badM (hq.1 rfl))
    clear hq
    go_wp2_with fail
    go_ret
    exact ⟨ret_bool HE.out.symm, HB1.out⟩
  | false =>
  have HE := Lib.hid (mapB_good (m := m) (fun h => by have := hq.2 h; cases this))
  have HNB : Hid (¬ badM m) := Lib.hid fun h => by have := hq.2 h; cases this
  have HC1 := Lib.hid (HCR.out w1 (HMP.out.now HB1.out))
  clear hq
  go_wp2_with fail
  (with_reducible refine HC1.out.mono ?_)
  rintro _ w2 ⟨v, rfl, hv, hb2⟩
  have HB2 := Lib.hid hb2
  obtain ⟨A, c, rfl, hv1, hv2, hv⟩ := hv.open_
  have HV := Lib.hid hv
  have HN0 : Hid ((colsR m).Nodup ∨ ¬ (colsR m).Nodup) := Classical.em _
  obtain ⟨xs, hxs⟩ : ∃ xs, colsR m = xs := ⟨_, rfl⟩
  rw [hxs] at HE HV hv1 ⊢
  clear hxs hb2 hv HC1 c0 c1 c2 c3 c4 c5 c6 c7 HN0
  go_wp2_with fail
  go_loopw [4] (fun iv wr => ∃ i : Nat, iv = .int .i64 (i : Int) ∧ i ≤ xs.length ∧ Hid (∀ y ∈ xs.take i, colOk y = true) ∧ Hid ((xs.take i).Nodup) ∧ Hid (Below w2.heap.size w2 wr)) (fun iv _ => xs.length - (intOf iv).toNat)
  case atStart => exact ⟨0, rfl, Nat.zero_le _, Lib.hid (by simp), Lib.hid (by simp), Lib.hid (Below.refl _ _)⟩
  case round =>
    obtain ⟨i, rfl, hi, HA, HN, HB3⟩ := hrel
    obtain ⟨w3, hw3⟩ : ∃ w3, wr = w3 := ⟨_, rfl⟩
    rw [hw3] at HB3 ⊢
    clear hw3
    by_cases hlt : i < xs.length
    · obtain ⟨b, o, x, rfl, hD, hx, _, hc⟩ := SlI.at_ (SlI.now HV.out HB3.out) hlt
      have HX := Lib.hid hx
      have i0 : (0 : Int) ≤ (i : Int) := by omega
      have i1 : (i : Int) < (xs.length : Int) := by omega
      have HCO := Lib.hid (fun W => column_ref x W)
      obtain ⟨qc, hqc⟩ : ∃ qc, colOk x = qc := ⟨_, rfl⟩
      have HQC := Lib.hid hqc
      have HCO : Hid (∀ W, Calls Tryz.prog 65 #[.int .i64 x] W fun e w' => e = .returned (.bool qc) ∧ W = w') := Lib.hid fun W => by rw [← hqc]; exact HCO.out W
      clear hx hqc hD
      go_wp2_with fail
      (with_reducible refine (HCO.out _).mono ?_)
      rintro _ w4 ⟨rfl, rfl⟩
      cases qc with
      | false =>
        have HF : Hid (mapB m = false) := by
          show _ = _
          rw [HE.out]
          have : xs.all colOk = false := List.all_eq_false.2 ⟨x, List.mem_of_getElem? HX.out, by rw [HQC.out]; decide⟩
          rw [this]; rfl
        go_wp2_with fail
        go_ret
        exact ⟨ret_bool HF.out.symm, HB1.out.trans (((HB2.out.trans (HB3.out.mono HB2.out.size))).mono HB1.out.size)⟩
      | true =>
        have HA2 := Lib.hid (all_step HA.out HX.out HQC.out)
        clear hc
        go_wp2_with fail
        go_loopw [5] (fun jv wr => ∃ j : Nat, jv = .int .i64 (j : Int) ∧ j ≤ i ∧ Hid (x ∉ xs.take j) ∧ Hid (Below w2.heap.size w2 wr)) (fun jv _ => i - (intOf jv).toNat)
        case atStart => exact ⟨0, rfl, Nat.zero_le _, Lib.hid (by simp), HB3⟩
        case round =>
          obtain ⟨j, rfl, hj, HNJ, HB4⟩ := hrel
          obtain ⟨w5, hw5⟩ : ∃ w5, wr = w5 := ⟨_, rfl⟩
          rw [hw5] at HB4 ⊢
          clear hw5 HB3
          by_cases hlj : j < i
          · have hjx : j < xs.length := by omega
            have hix : i < xs.length := by omega
            obtain ⟨b1, o1, x1, hA1, hD1, hx1, _, hc1⟩ := SlI.at_ (SlI.now HV.out HB4.out) hjx
            injection hA1 with hA1
            injection hA1 with e1 e2
            subst e1 e2
            obtain ⟨b2, o2, x2, hA2, hD2, hx2, _, hc2⟩ := SlI.at_ (SlI.now HV.out HB4.out) hix
            injection hA2 with hA2
            injection hA2 with e1 e2
            subst e1 e2
            have hx3 := HX.out
            rw [hx2] at hx3
            injection hx3 with hx3
            subst hx3
            have HX1 := Lib.hid hx1
            have j0 : (0 : Int) ≤ (j : Int) := by omega
            have j1 : (j : Int) < (xs.length : Int) := by omega
            clear hx1 hx2 hD1 hD2 hjx hix
            go_upto_region 12 with fail
            by_cases he : x1 = x2
            · have HF : Hid (mapB m = false) := by
                show _ = _
                rw [HE.out]
                have hn : ¬ xs.Nodup := fun hn => by
                  obtain ⟨l1, g1⟩ := List.getElem?_eq_some_iff.1 HX1.out
                  obtain ⟨l2, g2⟩ := List.getElem?_eq_some_iff.1 HX.out
                  exact List.pairwise_iff_getElem.1 hn j i l1 l2 hlj (g1.trans (he.trans g2.symm))
                rw [decide_eq_false hn]; simp
              have d1 : decide (x1 = x2) = true := decide_eq_true he
              have d2 : (x1 == x2) = true := by simpa using he
              clear he
              go_quiet (fail)
              go_wp2_with fail
              go_ret
              exact ⟨ret_bool HF.out.symm, bdrawn (HB1.out.trans (((HB2.out.trans (HB4.out.mono HB2.out.size))).mono HB1.out.size)) _⟩
            · have d1 : decide (x1 = x2) = false := decide_eq_false he
              have d2 : (x1 == x2) = false := by simpa using he
              have HNX := Lib.hid (nmem_step HNJ.out HX1.out he)
              clear he
              go_quiet (fail)
              go_wp2_with fail
              go_roundw
              case rel => exact ⟨j + 1, by go_num, by omega, HNX, Lib.hid (bdrawn HB4.out _)⟩
              case measure => simp [intOf]; omega
          · have hji : j = i := by omega
            have HNN : Hid ((xs.take (i + 1)).Nodup) := Lib.hid (nodup_step HN.out HX.out (by have := HNJ.out; rwa [hji] at this))
            have hjl : ¬ (j : Int) < (i : Int) := by omega
            clear hji
            go_wp2_with fail
            go_roundw
            case rel => exact ⟨i + 1, by go_num, by omega, HA2, HNN, HB4⟩
            case measure => simp [intOf]; omega
    · have hie : i = xs.length := by omega
      have hil : ¬ (i : Int) < (xs.length : Int) := by omega
      have HE2 : Hid (mapB m = m.kinds.all kindB) := by
        show _ = _
        rw [HE.out]
        have h1 : xs.all colOk = true := List.all_eq_true.2 (by have := HA.out; rwa [hie, List.take_of_length_le (Nat.le_refl _)] at this)
        have h2 : xs.Nodup := by have := HN.out; rwa [hie, List.take_of_length_le (Nat.le_refl _)] at this
        rw [h1, decide_eq_true h2]; rfl
      clear hie hlt
      go_wp2_with fail
      go_loopw [6] (fun jv wr => ∃ j : Nat, jv = .int .i64 (j : Int) ∧ j ≤ m.kinds.length ∧ Hid (∀ y ∈ m.kinds.take j, kindB y = true) ∧ Hid (Below w2.heap.size w2 wr)) (fun jv _ => m.kinds.length - (intOf jv).toNat)
      case atStart => exact ⟨0, rfl, Nat.zero_le _, Lib.hid (by simp), HB3⟩
      case round =>
        obtain ⟨j, rfl, hj, HKJ, HB4⟩ := hrel
        obtain ⟨w5, hw5⟩ : ∃ w5, wr = w5 := ⟨_, rfl⟩
        rw [hw5] at HB4 ⊢
        clear hw5 HB3
        have HB14 : Hid (Below w1.heap.size w1 w5) := Lib.hid (HB2.out.trans (HB4.out.mono HB2.out.size))
        obtain ⟨c0, c1, c2, c3, c4, c5, c6, c7⟩ := (HM1.out.now HB14.out).c8m
        by_cases hlj : j < m.kinds.length
        · obtain ⟨b1, o1, x1, rfl, hD1, hx1, _, hc1⟩ := SlI.at_ (SlI.now HMK.out (bthen HB1.out HB14.out)) hlj
          have HX1 := Lib.hid hx1
          have j0 : (0 : Int) ≤ (j : Int) := by omega
          have j1 : (j : Int) < (m.kinds.length : Int) := by omega
          clear hx1 hD1
          by_cases k1 : x1 = 1
          · subst k1
            have HS := Lib.hid (all_step HKJ.out HX1.out (by decide))
            go_wp2_with fail
            go_roundw
            case rel => exact ⟨j + 1, by go_num, by omega, HS, HB4⟩
            case measure => simp [intOf]; omega
          by_cases k2 : x1 = 2
          · subst k2
            have HS := Lib.hid (all_step HKJ.out HX1.out (by decide))
            clear k1
            go_wp2_with fail
            go_roundw
            case rel => exact ⟨j + 1, by go_num, by omega, HS, HB4⟩
            case measure => simp [intOf]; omega
          by_cases k3 : x1 = 3
          · subst k3
            have HS := Lib.hid (all_step HKJ.out HX1.out (by decide))
            clear k1 k2
            go_wp2_with fail
            go_roundw
            case rel => exact ⟨j + 1, by go_num, by omega, HS, HB4⟩
            case measure => simp [intOf]; omega
          have HF : Hid (mapB m = false) := by
            show _ = _
            rw [HE2.out]
            refine List.all_eq_false.2 ⟨x1, List.mem_of_getElem? HX1.out, ?_⟩
            unfold kindB
            simp [k1, k2, k3]
          have y1 : (x1 != 1) = true := by simpa using k1
          have y2 : (x1 != 2) = true := by simpa using k2
          have y3 : (x1 != 3) = true := by simpa using k3
          clear k1 k2 k3
          go_wp2_with fail
          go_ret
          exact ⟨ret_bool HF.out.symm, bthen HB1.out HB14.out⟩
        · have hje : j = m.kinds.length := by omega
          have HT : Hid (mapB m = true) := by
            show _ = _
            rw [HE2.out]
            exact List.all_eq_true.2 (by have := HKJ.out; rwa [hje, List.take_of_length_le (Nat.le_refl _)] at this)
          have hjl : ¬ (j : Int) < (m.kinds.length : Int) := by omega
          clear hje
          go_wp2_with fail
          go_ret
          exact ⟨ret_bool HT.out.symm, bthen HB1.out HB14.out⟩
end Go.Proofs.YtoalecalahkblaaGreatDoor

set_option linter.all false
namespace Go.Proofs.YtoalecalahkblaaGreatDoor
open Go.RowKit
theorem ins_mem {out : List Bs} {s : Bs} {j : Nat} (x : Bs) : x ∈ out.take j ++ [s] ++ out.drop j ↔ x ∈ out ∨ x = s := by
  rw [List.mem_append, List.mem_append, List.mem_singleton]
  conv => rhs; rw [← List.take_append_drop j out, List.mem_append]
  constructor
  · rintro ((h | h) | h)
    · exact .inl (.inl h)
    · exact .inr h
    · exact .inl (.inr h)
  · rintro ((h | h) | h)
    · exact .inl (.inl h)
    · exact .inr h
    · exact .inl (.inr h)
theorem ins_asc {out : List Bs} {s : Bs} {j : Nat} (ha : Asc out) (hn : s ∉ out) (hlo : ∀ x ∈ out.take j, x < s) (hhi : ∀ y, out[j]? = some y → ¬ y < s) : Asc (out.take j ++ [s] ++ out.drop j) := by
  have hs := ha
  unfold Asc at hs ⊢
  rw [← List.take_append_drop j out, List.pairwise_append] at hs
  obtain ⟨h1, h2, h3⟩ := hs
  have hd : ∀ y ∈ out.drop j, s < y := by
    intro y hy
    obtain ⟨k, hk, he⟩ := List.getElem_of_mem hy
    rw [List.getElem_drop] at he
    have hjl : j < out.length := by rw [List.length_drop] at hk; omega
    have h0 : s < out[j] := bs_total (hhi _ (List.getElem?_eq_getElem hjl)) (fun e => hn (e ▸ List.getElem_mem hjl))
    rcases Nat.eq_zero_or_pos k with e | e
    · subst e
      rw [← he]
      exact h0
    · rw [← he]
      exact List.lt_trans h0 (List.pairwise_iff_getElem.1 ha j (j + k) hjl (by rw [List.length_drop] at hk; omega) (by omega))
  rw [List.append_assoc, List.pairwise_append]
  refine ⟨h1, ?_, fun x hx y hy => ?_⟩
  · show List.Pairwise _ (s :: out.drop j)
    rw [List.pairwise_cons]
    exact ⟨hd, h2⟩
  · rcases List.mem_append.1 hy with hy | hy
    · rw [List.mem_singleton] at hy
      rw [hy]
      exact hlo x hx
    · exact h3 x hx y hy
end Go.Proofs.YtoalecalahkblaaGreatDoor

set_option linter.all false
namespace Go.Proofs.YtoalecalahkblaaGreatDoor
open Go.RowKit
theorem setB_in {ns : List Bs} {s : Bs} (h : s ∈ setB ns) : setB (ns ++ [s]) = setB ns := (setB_unique (setB_asc ns) fun x => by
  rw [setB_mem, List.mem_append, List.mem_singleton]
  exact ⟨.inl, fun h' => h'.elim id fun e => by rw [e]; exact (setB_mem _ _).1 h⟩).symm
theorem setB_ins {ns : List Bs} {s : Bs} {j : Nat} (h : s ∉ setB ns) (hlo : ∀ x ∈ (setB ns).take j, x < s) (hhi : ∀ y, (setB ns)[j]? = some y → ¬ y < s) : setB (ns ++ [s]) = (setB ns).take j ++ [s] ++ (setB ns).drop j := (setB_unique (ins_asc (setB_asc ns) h hlo hhi) fun x => by
  rw [ins_mem, setB_mem, List.mem_append, List.mem_singleton]).symm
theorem setB_len (ns : List Bs) : (setB ns).length ≤ ns.length := by
  have h1 := compact_len (sortB ns)
  have h2 := sortB_len ns
  unfold setB
  omega
theorem setB_nil : setB [] = [] := List.eq_nil_iff_forall_not_mem.2 fun x hx => by rw [setB_mem] at hx; simp at hx
theorem ownS_slice {w : World} {base : Nat} {v : Value} {l : List Bs} (h : OwnS w base v l) : ∃ A c, v = .slice A l.length c := by
  rcases h.2 with ⟨rfl, h0⟩ | ⟨g, cap, cur, rfl, _⟩
  · rw [h0]; exact ⟨none, 0, rfl⟩
  · exact ⟨_, _, rfl⟩
theorem ownB (A : Option Addr) (n c n' c' : Nat) : (Value.slice A n c).ownBlock = (Value.slice A n' c').ownBlock := by cases A <;> rfl
theorem OwnS.pre {w : World} {base j c : Nat} {A : Option Addr} {n : Nat} {l : List Bs} (h : OwnS w base (.slice A n c) l) (hj : j ≤ l.length) : OwnS w base (.slice A j c) (l.take j) := by
  have hl : (l.take j).length = j := by rw [List.length_take]; omega
  refine ⟨by simp, ?_⟩
  rw [hl]
  rcases h.2 with ⟨e, h0⟩ | ⟨g, cap, cur, e, hb, hg, hc, hm, hs, ht⟩
  · injection e with e1 e2 e3
    subst e1 e3
    have : j = 0 := by omega
    subst this
    exact .inl ⟨rfl, rfl⟩
  · injection e with e1 e2 e3
    subst e1 e3
    refine .inr ⟨g, c, cur, rfl, hb, hg, by omega, hm, hs, ?_⟩
    rw [List.map_take, ← ht, List.take_take]
    congr 1
    omega
set_option maxHeartbeats 4000000 in
set_option maxRecDepth 100000 in
theorem fields_ref (u : Value) (l : List Ev) (w : World) (h : IsLog (Lt w.heap.size) w u l) (hl : (namesTo l l.length).length ≤ 1000) (hf : FitN l) :
    Calls Tryz.prog 89 #[u] w fun e w' => ∃ v, e = .returned v ∧ SlP (Lt w'.heap.size) w' v (colsL l) ∧ Below w.heap.size w w' := by
  obtain ⟨ev, rfl, hs⟩ := h
  obtain ⟨A, c, rfl, h1, h2, hs⟩ := hs.open_
  have HL := Lib.hid hl
  have HF := Lib.hid hf
  have HS := Lib.hid hs
  have HB := Blk.new w 38 #[.slice A l.length c]
  have hb := bone w (.cells #[.slice A l.length c] 38)
  clear hl hf hs
  go_enter Tryz.func89, Tryz.ntmps89
  go_upto_region 1 with fail
  obtain ⟨w1, hw1⟩ : ∃ w1, w.alloc (.cells #[.slice A l.length c] 38) = w1 := ⟨_, rfl⟩
  rw [hw1] at HB hb ⊢
  clear hw1
  have HB1 := Lib.hid hb
  have HK1 := Lib.hid HB
  clear HB hb
  go_wp2_with fail
  go_loopw [3, 4] (fun ov iv wr => ∃ i : Nat, iv = .int .i64 (i : Int) ∧ i ≤ l.length ∧ Hid (OwnS wr w1.heap.size ov (setB (namesTo l i))) ∧ Hid (Below w1.heap.size w1 wr)) (fun _ iv _ => l.length - (intOf iv).toNat)
  case atStart => exact ⟨0, rfl, Nat.zero_le _, Lib.hid (by rw [show setB (namesTo l 0) = [] from setB_nil]; exact World.ownsRow_nil _ _ _ _), Lib.hid (Below.refl _ _)⟩
  case round =>
    obtain ⟨i, rfl, hi, HO, HBr⟩ := hrel
    obtain ⟨wo, hwo⟩ : ∃ wo, wr = wo := ⟨_, rfl⟩
    rw [hwo] at HO HBr ⊢
    clear hwo
    have c0 := (HK1.out.now HBr.out).c1
    by_cases hlt : i < l.length
    · obtain ⟨b, o, e, dv, rfl, hD, hx, _, hdv, r0, r1, r2, r3, r4, r5⟩ := SlEv.at_ (SlEv.now HS.out HB1.out) hlt
      obtain ⟨Ad, cd, rfl, d1, d2, hdv⟩ := hdv.open_
      have HX := Lib.hid hx
      have HDV := Lib.hid hdv
      have HR5 := Lib.hid r5
      have HDB := Lib.hid hD
      have i0 : (0 : Int) ≤ (i : Int) := by omega
      have i1 : (i : Int) < (l.length : Int) := by omega
      have HLE : Hid (∀ j, (namesTo l i ++ (e.data.take j).map nmOf).length ≤ 1000) := Lib.hid fun j => by
        have q1 := namesTo_le l (i := i + 1)
        rw [namesTo_step HX.out, List.length_append] at q1
        have q2 := HL.out
        have q3 : (namesE e).length = e.data.length := by unfold namesE; rw [List.length_map]
        rw [List.length_append, List.length_map, List.length_take]
        omega
      have HFM : Hid (∀ j, ∀ s ∈ setB (namesTo l i ++ (e.data.take j).map nmOf), s.length ≤ maxLen) := Lib.hid fun j s hs => by
        rw [setB_mem, List.mem_append] at hs
        rcases hs with hs | hs
        · unfold namesTo at hs
          obtain ⟨e', he', hs⟩ := List.mem_flatMap.1 hs
          obtain ⟨f, hf, rfl⟩ := List.mem_map.1 hs
          have := HF.out e' (List.mem_of_mem_take he') f hf
          unfold nmOf
          rw [Array.length_toList]; exact this
        · obtain ⟨f, hf, rfl⟩ := List.mem_map.1 hs
          have := HF.out e (List.mem_of_getElem? HX.out) f (List.mem_of_mem_take hf)
          unfold nmOf
          rw [Array.length_toList]; exact this
      clear hx hdv r0 r1 r2 r3 r4 r5 hD
      go_wp2_with fail
      clear c0
      go_loopw [3, 5] (fun ov kv wy => ∃ k : Nat, kv = .int .i64 (k : Int) ∧ k ≤ e.data.length ∧ Hid (OwnS wy w1.heap.size ov (setB (namesTo l i ++ (e.data.take k).map nmOf))) ∧ Hid (Below w1.heap.size w1 wy)) (fun _ kv _ => e.data.length - (intOf kv).toNat)
      case atStart => exact ⟨0, rfl, Nat.zero_le _, Lib.hid (by rw [List.take_zero, List.map_nil, List.append_nil]; exact HO.out), HBr⟩
      case round =>
        obtain ⟨k, rfl, hk, HOk, HBk⟩ := hrel
        obtain ⟨wy, hwy⟩ : ∃ wy, wr = wy := ⟨_, rfl⟩
        rw [hwy] at HOk HBk ⊢
        clear hwy HO HBr
        have c0 := (HK1.out.now HBk.out).c1
        have r5 := (HBk.out.cell (p := ⟨b, o + i * 6 + 5, none⟩) HDB.out).trans HR5.out
        by_cases hkl : k < e.data.length
        · obtain ⟨b2, o2, f, rfl, hD2, hx2, _, t0, t1, t2, t3⟩ := SlFl.at_ (SlFl.now HDV.out HBk.out) hkl
          have HX2 := Lib.hid hx2
          have k0 : (0 : Int) ≤ (k : Int) := by omega
          have k1 : (k : Int) < (e.data.length : Int) := by omega
          have HMK : Hid (f.nm = bsOf (nmOf f)) := Lib.hid (bs_of f.nm).symm
          have HSTEP : Hid (namesTo l i ++ (e.data.take (k + 1)).map nmOf = (namesTo l i ++ (e.data.take k).map nmOf) ++ [nmOf f]) := by
            show _ = _
            rw [namesE_step hx2, List.append_assoc]
          have HLEk := Lib.hid (HLE.out k)
          have HFMk := Lib.hid (HFM.out k)
          obtain ⟨ns, hns⟩ : ∃ ns, namesTo l i ++ (e.data.take k).map nmOf = ns := ⟨_, rfl⟩
          rw [hns] at HOk HSTEP HLEk HFMk
          rw [HMK.out] at t0
          obtain ⟨s, hss⟩ : ∃ s, nmOf f = s := ⟨_, rfl⟩
          rw [hss] at HSTEP t0
          have HIX := Lib.hid (fun v W (hv : SlS (Lt W.heap.size) W v ((setB ns).map bsOf)) => index_ref v ((setB ns).map bsOf) (bsOf s) W hv)
          have HAT := Lib.hid (atS_mem (setB ns) s)
          have HON := Lib.hid (OwnS.slS HOk.out HFMk.out)
          have HLN : Hid ((setB ns).length ≤ 1000) := Lib.hid (Nat.le_trans (setB_len ns) HLEk.out)
          have HIN := Lib.hid (setB_in (ns := ns) (s := s))
          have HINS := Lib.hid (fun j => setB_ins (ns := ns) (s := s) (j := j))
          obtain ⟨out, hout⟩ : ∃ out, setB ns = out := ⟨_, rfl⟩
          rw [hout] at HOk HFMk HIX HAT HON HLN HIN HINS
          obtain ⟨Ao, co, hov⟩ := ownS_slice HOk.out
          subst hov
          have HI0 := Lib.hid (HIX.out _ wy HON.out)
          obtain ⟨zi, hzi⟩ : ∃ zi, atS (out.map bsOf) (bsOf s) = zi := ⟨_, rfl⟩
          rw [hzi] at HI0 HAT
          clear hx2 hns hss hout hzi hD2 HIX HON
          go_wp2_with fail
          (with_reducible refine HI0.out.mono ?_)
          rintro _ wz ⟨rfl, rfl⟩
          by_cases hz : zi < 0
          · have HNI : Hid (s ∉ out) := Lib.hid fun h => by
              have := HAT.out
              rw [decide_eq_true h] at this
              have := of_decide_eq_true this
              omega
            clear HI0 HAT HIN t0 t1 t2 t3
            go_upto_block 4 with fail
            clear r5 c0
            go_cut [7] from 41 to 54 (fun jv W => ∃ j : Nat, jv = .int .i64 (j : Int) ∧ j ≤ out.length ∧ (∀ x ∈ out.take j, x < s) ∧ (∀ y, out[j]? = some y → ¬ y < s) ∧ wy = W)
            case first =>
              go_wp2_with fail
              go_loopw [7] (fun jv wr => ∃ j : Nat, jv = .int .i64 (j : Int) ∧ j ≤ out.length ∧ Hid (∀ x ∈ out.take j, x < s) ∧ wy = wr) (fun jv _ => out.length - (intOf jv).toNat)
              case atStart => exact ⟨0, rfl, Nat.zero_le _, Lib.hid (by simp), rfl⟩
              case round =>
                obtain ⟨j, rfl, hj, HLO, rfl⟩ := hrel
                have hlm : out.length ≤ 1000 := HLN.out
                by_cases hjl : j < out.length
                · obtain ⟨y, hy⟩ : ∃ y, out[j]? = some y := ⟨_, List.getElem?_eq_getElem hjl⟩
                  have hcell : ∃ g, Ao = some ⟨g, 0, none⟩ ∧ wy.cell? ⟨g, j, none⟩ = some (.string (bsOf y)) := by
                    rcases HOk.out.2 with ⟨e, h0⟩ | ⟨g, cap, cur, e, hb, hg, hc, hm, hs, ht⟩
                    · omega
                    · injection e with e1 e2 e3
                      subst e1 e3
                      refine ⟨g, rfl, ?_⟩
                      rw [World.ownsRow.cellAt HOk.out j (by simpa using hjl)]
                      simp [hy]
                      rfl
                  obtain ⟨g, rfl, hcell⟩ := hcell
                  have hls : Op.bytesLess (bsOf y).toList (bsOf s).toList = decide (y < s) := less_at (bsOf y) (bsOf s)
                  have j0 : (0 : Int) ≤ (j : Int) := by omega
                  have j1 : (j : Int) < (out.length : Int) := by omega
                  by_cases hys : y < s
                  · have HLO2 : Hid (∀ x ∈ out.take (j + 1), x < s) := Lib.hid fun x hx => by
                      rw [List.take_add_one, hy] at hx
                      rcases List.mem_append.1 hx with hx | hx
                      · exact HLO.out x hx
                      · simp at hx; rw [hx]; exact hys
                    rw [decide_eq_true hys] at hls
                    clear hy hys
                    go_wp2_with fail
                    go_roundw
                    case rel => exact ⟨j + 1, by go_num, by omega, HLO2, trivial⟩
                    case measure => simp [intOf]; omega
                  · rw [decide_eq_false hys] at hls
                    have HHI : Hid (∀ y', out[j]? = some y' → ¬ y' < s) := Lib.hid fun y' h => by rw [hy] at h; injection h with h; rw [← h]; exact hys
                    clear hy hys
                    go_wp2_with fail
                    go_meet
                    exact ⟨j, rfl, hj, HLO.out, HHI.out, rfl⟩
                · have HHI : Hid (∀ y', out[j]? = some y' → ¬ y' < s) := Lib.hid fun y' h => by rw [List.getElem?_eq_none (by omega)] at h; cases h
                  have hjn : ¬ (j : Int) < (out.length : Int) := by omega
                  go_wp2_with fail
                  go_meet
                  exact ⟨j, rfl, hj, HLO.out, HHI.out, rfl⟩
            case rest =>
            obtain ⟨j, rfl, hj, hlo, hhi, rfl⟩ := hcut
            have HNEW := Lib.hid (HINS.out j HNI.out hlo hhi)
            have HON := Lib.hid (OwnS.slS HOk.out HFMk.out)
            have hlm : out.length ≤ 1000 := HLN.out
            have HBE := Lib.hid (bone wy (.cells #[] 9))
            have HOE : Hid (World.ownsRow (wy.alloc (.cells #[] 9)) wy.heap.size 9 1 (.slice (some ⟨wy.heap.size, 0, none⟩) 0 0) 0 []) := Lib.hid (World.ownsRow_lit (base := wy.heap.size) (e := 9) (size := 1) wy #[] 0 (Nat.le_refl _) (by decide) rfl)
            clear hlo hhi HINS
            go_upto_region 13 with fail
            go_cut [8] from 55 to 59 (fun rv W => OwnS W wy.heap.size rv (out.drop j) ∧ Below wy.heap.size wy W)
            case first =>
              have HGO : Hid (∀ v' w', World.ownsRow w' wy.heap.size 9 1 v' (0 + ((out.drop j).map mkS).length) ([] ++ ((out.drop j).map mkS).map Value.string) → OwnS w' wy.heap.size v' (out.drop j)) := Lib.hid fun v' w' h => by
                rw [List.length_map, Nat.zero_add, List.nil_append, List.map_map] at h
                exact h
              have HDL : Hid (0 + ((out.drop j).map mkS).length < 10000000) := by show _ < _; rw [List.length_map, List.length_drop]; omega
              have HSZE : Hid (wy.heap.size ≤ (wy.alloc (.cells #[] 9)).heap.size) := Lib.hid (by simp)
              rcases HOk.out.2 with ⟨e, h0⟩ | ⟨g, cap, cur, e, hb, hg, hc, hm, hs, ht⟩
              · injection e with e1 e2 e3
                have hj0 : j = 0 := by omega
                have ho0 : out = [] := List.eq_nil_of_length_eq_zero h0
                subst e1 e3 hj0 ho0
                have HSU : Hid (SlS (Lt (wy.alloc (.cells #[] 9)).heap.size) (wy.alloc (.cells #[] 9)) (.slice none 0 0) ((([] : List Bs).drop 0).map mkS)) := Lib.hid Sl.none_
                go_wp2_with (at_builtin; refine wpList_appendAll appStr rfl (.tmp 55) (.tmp 58) rfl (wy.alloc (.cells #[] 9)) _ 0 [] rfl HOE.out _ ((([] : List Bs).drop 0).map mkS) Value.string rfl HSU.out (fun y c h => by injection h.1 with h1 _) (fun y => rfl) HDL.out HSZE.out ?_; intro v' w' hown hgr hat)
                have hbg := HBE.out.trans (below_of_grown hgr HSZE.out (fun g' e => by have e' : some wy.heap.size = some g' := e; injection e' with e'; omega))
                go_meet
                exact ⟨HGO.out _ _ hown, hbg⟩
              · injection e with e1 e2 e3
                subst e1 e3
                have hcm : co ≤ 9223372036854775807 := hm
                have hlc : out.length ≤ co := hc
                clear hb hg hc hm hs ht e2
                by_cases hjc : j < co
                · have HSU : Hid (SlS (Lt (wy.alloc (.cells #[] 9)).heap.size) (wy.alloc (.cells #[] 9)) (.slice (some ⟨g, j, none⟩) (out.length - j) (co - j)) ((out.drop j).map mkS)) := Lib.hid (by
                    have h1 := SlS.below HON.out HBE.out HBE.out.size
                    have h2 := Sl.sub h1 j (out.length - j) (co - j) (by omega) (by omega) (by unfold maxLen; omega)
                    rw [Nat.zero_add, Nat.mul_one, List.take_of_length_le (by rw [List.length_drop, List.length_map]; exact Nat.le_refl _), ← List.map_drop] at h2
                    exact h2)
                  have hne : ¬ j = co := by omega
                  go_wp2_with (at_builtin; refine wpList_appendAll appStr rfl (.tmp 55) (.tmp 58) rfl (wy.alloc (.cells #[] 9)) _ 0 [] rfl HOE.out _ ((out.drop j).map mkS) Value.string rfl HSU.out (fun y c h => by injection h.1 with h1 _) (fun y => rfl) HDL.out HSZE.out ?_; intro v' w' hown hgr hat)
                  have hbg := HBE.out.trans (below_of_grown hgr HSZE.out (fun g' e => by have e' : some wy.heap.size = some g' := e; injection e' with e'; omega))
                  go_meet
                  exact ⟨HGO.out _ _ hown, hbg⟩
                · obtain rfl : j = co := by omega
                  have hol : out.length = j := by omega
                  have HSU : Hid (SlS (Lt (wy.alloc (.cells #[] 9)).heap.size) (wy.alloc (.cells #[] 9)) (.slice (some ⟨g, 0, none⟩) (out.length - j) 0) ((out.drop j).map mkS)) := Lib.hid (by
                    rw [List.drop_eq_nil_of_le (by omega), show out.length - j = 0 by omega]
                    exact ⟨_, 0, rfl, Nat.le_refl _, by decide, fun i x hx => by simp at hx⟩)
                  clear hjc hol hlc
                  go_wp2_with (at_builtin; refine wpList_appendAll appStr rfl (.tmp 55) (.tmp 58) rfl (wy.alloc (.cells #[] 9)) _ 0 [] rfl HOE.out _ ((out.drop j).map mkS) Value.string rfl HSU.out (fun y c h => by injection h.1 with h1 _) (fun y => rfl) HDL.out HSZE.out ?_; intro v' w' hown hgr hat)
                  have hbg := HBE.out.trans (below_of_grown hgr HSZE.out (fun g' e => by have e' : some wy.heap.size = some g' := e; injection e' with e'; omega))
                  go_meet
                  exact ⟨HGO.out _ _ hown, hbg⟩
            case rest =>
            obtain ⟨hrow, hbw⟩ := hcut
            obtain ⟨w9, hw9⟩ : ∃ w9, wc = w9 := ⟨_, rfl⟩
            rw [hw9] at hrow hbw ⊢
            have HRW := Lib.hid hrow
            have HB9 : Hid (Below w1.heap.size w1 w9) := Lib.hid (bthen HBk.out hbw)
            have HPR : Hid (OwnS w9 w1.heap.size (.slice Ao j co) (out.take j)) := Lib.hid (OwnS.pre (show OwnS w9 w1.heap.size (.slice Ao out.length co) out from own_now HOk.out hbw) hj)
            have HOL : Hid (∀ g, (Value.slice Ao j co).ownBlock = some g → w1.heap.size ≤ g ∧ g < wy.heap.size) := Lib.hid fun g h => by
              have h' : (Value.slice Ao out.length co).ownBlock = some g := (ownB Ao out.length co j co).trans h
              exact World.ownsRow.lt HOk.out g h'
            have HTL : Hid ((out.take j).length = j) := by show _ = _; rw [List.length_take]; omega
            have HOP : Hid (World.ownsRow w9 w1.heap.size 9 1 (.slice Ao j co) j ((out.take j).map encStr)) := Lib.hid (by
              have := HPR.out
              unfold OwnS at this
              rw [HTL.out] at this
              exact this)
            have HS9 := Lib.hid HB9.out.size
            have HJB : Hid (j < 10000000) := by show j < _; omega
            have hjc : j ≤ co := by
              rcases HOk.out.2 with ⟨e, h0⟩ | ⟨g, cap, cur, e, hb, hg, hc, hm, hs, ht⟩
              · injection e with e1 e2 e3; omega
              · injection e with e1 e2 e3; subst e3; omega
            have hcm : co ≤ 9223372036854775807 := by
              rcases HOk.out.2 with ⟨e, h0⟩ | ⟨g, cap, cur, e, hb, hg, hc, hm, hs, ht⟩
              · injection e with e1 e2 e3; omega
              · injection e with e1 e2 e3; subst e3; exact hm
            have HWY := Lib.hid hbw.size
            clear hw9 hrow hbw HON HBE HOE
            obtain ⟨Ar, cr, hrv⟩ := ownS_slice HRW.out
            rw [List.length_drop] at hrv
            subst hrv
            go_wp2_with (at_builtin; refine wpList_push appStr rfl (.tmp 62) (.tmp 64) rfl w9 [.string (bsOf s)] rfl (fun u hu => by simp at hu; subst hu; rfl) _ j ((out.take j).map encStr) rfl HOP.out rfl HJB.out HS9.out ?_; intro v1 w10 hown1 hgr1 hat1; generalize hW : @wpList = WL)
            subst hW
            have hgr1 : w9.grownBy w10 (Value.slice Ao j co).ownBlock := hgr1
            have HO1 : Hid (World.ownsRow w10 w1.heap.size 9 1 v1 (j + 1) ((out.take j).map encStr ++ [.string (bsOf s)])) := Lib.hid hown1
            have HR1 : Hid (OwnS w10 wy.heap.size (.slice Ar (out.length - j) cr) (out.drop j)) := Lib.hid (by
              refine World.ownsRow.kept HRW.out hgr1 ?_
              cases e : (Value.slice Ao j co).ownBlock with
              | none =>
                cases e2 : (Value.slice Ar (out.length - j) cr).ownBlock with
                | none => exact .inl rfl
                | some g2 => exact .inr (fun h => by cases h)
              | some g1 =>
                cases e2 : (Value.slice Ar (out.length - j) cr).ownBlock with
                | none => exact .inl rfl
                | some g2 => exact .inr (fun h => by
                    injection h with h
                    have h1 := (HOL.out g1 e).2
                    have h2 := (World.ownsRow.lt HRW.out g2 e2).1
                    omega))
            have HRS1 := Lib.hid (OwnS.slS HR1.out (fun s' hs' => HFMk.out s' (List.mem_of_mem_drop hs')))
            have HB10 : Hid (Below w1.heap.size w1 w10) := Lib.hid (HB9.out.trans (below_of_grown hgr1 HS9.out (fun g hg => (HOL.out g hg).1)))
            have HS10 := Lib.hid HB10.out.size
            have HNB : Hid (j + 1 + ((out.drop j).map mkS).length < 10000000) := by show _ < _; rw [List.length_map, List.length_drop]; omega
            clear hown1 hgr1 hat1
            go_wp2_with (at_builtin; refine wpList_appendAll appStr rfl (.tmp 65) (.tmp 66) rfl w10 _ (j + 1) ((out.take j).map encStr ++ [.string (bsOf s)]) rfl HO1.out _ ((out.drop j).map mkS) Value.string rfl HRS1.out (fun y c h => by injection h.1 with h1 _) (fun y => rfl) HNB.out HS10.out ?_; intro v2 w11 hown2 hgr2 hat2)
            have HB11 : Hid (Below w1.heap.size w1 w11) := Lib.hid (HB10.out.trans (below_of_grown hgr2 HS10.out (fun g hg => (World.ownsRow.lt HO1.out g hg).1)))
            have HO11 : Hid (OwnS w11 w1.heap.size v2 (out.take j ++ [s] ++ out.drop j)) := Lib.hid (by
              have h2 := hown2
              unfold OwnS
              have e1 : (out.take j ++ [s] ++ out.drop j).length = j + 1 + ((out.drop j).map mkS).length := by
                rw [List.length_append, List.length_append, HTL.out, List.length_map]; rfl
              rw [e1, List.map_append, List.map_append]
              rw [List.map_map] at h2
              exact h2)
            clear hown2 hgr2 hat2
            go_roundw
            case rel => exact ⟨k + 1, by go_num, by omega, Lib.hid (by rw [HSTEP.out, HNEW.out]; exact HO11.out), HB11⟩
            case measure => simp [intOf]; omega
          · have HII : Hid (s ∈ out) := Lib.hid (by
              have := HAT.out
              rw [decide_eq_true (show 0 ≤ zi by omega)] at this
              exact of_decide_eq_true this.symm)
            have HSAME := Lib.hid (HIN.out HII.out)
            clear HI0 HAT t0 t1 t2 t3
            go_wp2_with fail
            go_roundw
            case rel => exact ⟨k + 1, by go_num, by omega, Lib.hid (by rw [HSTEP.out, HSAME.out]; exact HOk.out), HBk⟩
            case measure => simp [intOf]; omega
        · have hke : k = e.data.length := by omega
          have HEND : Hid (OwnS wy w1.heap.size _ (setB (namesTo l (i + 1)))) := Lib.hid (by
            rw [namesTo_step HX.out]
            have := HOk.out
            rw [hke, List.take_of_length_le (Nat.le_refl _)] at this
            exact this)
          have hkn : ¬ (k : Int) < (e.data.length : Int) := by omega
          clear hke hkl
          go_wp2_with fail
          go_roundw
          case rel => exact ⟨i + 1, by go_num, by omega, HEND, HBk⟩
          case measure => simp [intOf]; omega
    · have hie : i = l.length := by omega
      have hil : ¬ (i : Int) < (l.length : Int) := by omega
      rw [hie] at HO
      have HFS : Hid (∀ s ∈ colsL l, s.length ≤ maxLen) := Lib.hid fun s hs => by
        have := (setB_mem _ s).1 hs
        unfold namesTo at this
        rw [List.take_of_length_le (Nat.le_refl _)] at this
        obtain ⟨e, he, hs⟩ := List.mem_flatMap.1 this
        obtain ⟨f, hf, rfl⟩ := List.mem_map.1 hs
        have := HF.out e he f hf
        unfold nmOf
        rw [Array.length_toList]; exact this
      have HRET := Lib.hid (OwnS.slS (show OwnS wo w1.heap.size _ (colsL l) from HO.out) HFS.out)
      clear hie hlt
      go_wp2_with fail
      go_ret
      exact ⟨_, rfl, HRET.out, HB1.out.trans (HBr.out.mono HB1.out.size)⟩
end Go.Proofs.YtoalecalahkblaaGreatDoor
