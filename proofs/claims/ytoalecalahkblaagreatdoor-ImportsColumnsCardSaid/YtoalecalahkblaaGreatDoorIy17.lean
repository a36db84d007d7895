/- Texts of this seat, merged. -/
import Derived.Lib.ItoaNum
import Derived.Lib.ItoaMem
import Derived.Lib.AtoiTie
import Derived.Test.YtoalecalahkblaaGreatDoorIy01
import Derived.Test.YtoalecalahkblaaGreatDoorIy02
import Derived.Test.YtoalecalahkblaaGreatDoorIy03
import Derived.Test.YtoalecalahkblaaGreatDoorIy04
import Derived.Test.YtoalecalahkblaaGreatDoorIy05
import Derived.Test.YtoalecalahkblaaGreatDoorIy06
import Derived.Test.YtoalecalahkblaaGreatDoorIy07
import Derived.Test.YtoalecalahkblaaGreatDoorIy08
import Derived.Test.YtoalecalahkblaaGreatDoorIy09
import Derived.Test.YtoalecalahkblaaGreatDoorIy10
import Derived.Test.YtoalecalahkblaaGreatDoorIy11
import Derived.Test.YtoalecalahkblaaGreatDoorIy12
import Derived.Test.YtoalecalahkblaaGreatDoorIy13
import Derived.Test.YtoalecalahkblaaGreatDoorIy14
import Derived.Test.YtoalecalahkblaaGreatDoorIy15
import Derived.Test.YtoalecalahkblaaGreatDoorIy16
set_option linter.all false
set_option linter.all false
namespace Go.Proofs.YtoalecalahkblaaGreatDoor
open Go.RowKit
theorem enters_fields : ∀ args w, (callFunc 75 args).run Tryz.prog w = .ok (.enter 75 args) w := enters_of Tryz.func75 (by kernel_rfl) rfl
theorem enters_max : ∀ args w, (callFunc 87 args).run Tryz.prog w = .ok (.enter 87 args) w := enters_of Tryz.func87 (by kernel_rfl) rfl
def expF6 (U DV : Value) (B P wd : Nat) (mx : Int) (m : Mp) : Nat → Value → World → Prop
  | 0, u, _ => u = U
  | 1, u, W => OwnZ W B u (fieldsB m)
  | 2, u, _ => u = .pointer (some ⟨P, 5, none⟩)
  | 3, u, _ => u = DV
  | 4, u, W => OwnZ W B u (colsX m)
  | 5, u, _ => u = .int .i64 mx
  | 6, u, _ => u = .int .i64 (wd : Int)
  | 7, u, _ => u = .int .i64 (wd : Int)
  | _, _, _ => True
def expD6 (j k : Nat) : Bool := j == 1 && k == 4
theorem expKeep {U DV : Value} {B P wd : Nat} {mx : Int} {m : Mp} {W W' : World} (hb : Below W.heap.size W W') : ∀ j u, expF6 U DV B P wd mx m j u W → expF6 U DV B P wd mx m j u W' := by
  intro j u h
  match j, h with
  | 0, h => exact h
  | 1, h => exact own_now h hb
  | 2, h => exact h
  | 3, h => exact h
  | 4, h => exact own_now h hb
  | 5, h => exact h
  | 6, h => exact h
  | 7, h => exact h
  | n + 8, h => exact trivial
theorem slSS_of {base t : Nat} {w : World} {v : Value} {rows : List (List Bt)} {X : Nat → Prop} (h : OwnR 1 RStrs X w base t v rows) : SlSS (Lt w.heap.size) w v rows := h.sl RStrs.kept
theorem ownR_one {w : World} {hv : Value} {r : List Bt} (t : TypeId) (h : SlP (Lt w.heap.size) w hv r) : OwnR 1 RStrs (fun _ => False) (w.alloc (.cells #[hv] t)) w.heap.size t (.slice (some ⟨w.heap.size, 0, none⟩) 1 1) [r] := by
  refine ⟨[hv], World.ownsRow_lit (base := w.heap.size) (e := t) (size := 1) w #[hv] 1 (Nat.le_refl _) (by decide) rfl, fun i x hx => ?_⟩
  match i, hx with
  | 0, hx =>
    injection hx with hx
    subst hx
    refine ⟨[hv], rfl, fun j u hu => by simpa using hu, hv, rfl, ?_⟩
    have hb := bone w (.cells #[hv] t)
    refine SlP.keep h (fun b hb' => ⟨Nat.lt_of_lt_of_le hb' hb.size, fun e => ?_, fun e => e⟩) (Same.of_below hb)
    injection e with e
    have e' : w.heap.size = b := e
    have hb2 : b < w.heap.size := hb'
    omega
  | i + 1, hx => simp at hx
def expF8 (w : World) (g c a t wd : Nat) : Nat → Value → World → Prop
  | 0, u, _ => u = .slice (some ⟨g, 0, none⟩) wd wd
  | 1, u, _ => u = .pointer (some ⟨w.heap.size + 1, 0, none⟩)
  | 2, u, _ => u = .int .i64 (c : Int)
  | 3, u, _ => u = .slice (some ⟨g, 0, none⟩) wd wd
  | 4, u, _ => u = .pointer (some ⟨w.heap.size + 1, 1, none⟩)
  | 5, u, _ => u = .int .i64 (a : Int)
  | 6, u, _ => u = .slice (some ⟨g, 0, none⟩) wd wd
  | 7, u, _ => u = .pointer (some ⟨w.heap.size + 1, 4, none⟩)
  | 8, u, _ => u = .int .i64 (t : Int)
  | 9, u, _ => u = .pointer (some ⟨g, c, none⟩)
  | 10, _, W => W.cell? ⟨g, c, none⟩ = some (.string (bsOf xwCase))
  | 11, u, _ => u = .pointer (some ⟨g, a, none⟩)
  | 12, _, W => W.cell? ⟨g, a, none⟩ = some (.string (bsOf xwAct))
  | 13, u, _ => u = .pointer (some ⟨g, t, none⟩)
  | 14, _, W => W.cell? ⟨g, t, none⟩ = some (.string (bsOf xwTime))
  | _, _, _ => True
set_option maxHeartbeats 8000000 in
set_option maxRecDepth 100000 in
theorem export_any (u um : Value) (l : List Ev) (m : Mp) (w : World) (h : IsLog (Lt w.heap.size) w u l) (hm : IsMp (Lt w.heap.size) w um m) (hh : heavyB l = false) (hg : greatB m = false) (ha : AmbP w) :
    Calls Tryz.prog 34 #[u, um] w (RetSE (exportE vtN l m) w) := by
  have hdl : m.data.length ≤ 1000000 := by
    unfold greatB at hg
    rw [Bool.or_eq_false_iff] at hg
    have := of_decide_eq_false hg.1
    omega
  have HLOG := Lib.hid h
  have HMP := Lib.hid hm
  have HLV := Lib.hid (fun W hW => logValid_any l u W hW)
  have HMV := Lib.hid (fun W hW => valid_any um m W hW hdl)
  have HCO := Lib.hid (fun W hW h1 h2 => columns_any u l W hW h1 h2)
  have HFL := Lib.hid (fun W hW => fields_own um m W hW)
  have HRW := Lib.hid (fun names e ue un W h1 h2 h3 h4 h5 h6 h7 h8 => row_any names m e ue un um W h1 h2 h3 h4 h5 h6 h7 h8)
  have HHV0 := Lib.hid hh
  have HAM := Lib.hid ha
  have HWRT := Lib.hid (fun rows v W h1 h2 h3 => write_any rows v m.sep W h1 h2 h3)
  have hfm := hm
  obtain ⟨ev, rfl, hs⟩ := h
  obtain ⟨A, cl, rfl, _, _, hs⟩ := hs.open_
  obtain ⟨mv, kv, rfl, _, hmd, hmk⟩ := hm
  obtain ⟨Am, cm, rfl, _, _, hmd⟩ := hmd.open_
  obtain ⟨Ak, ck, rfl, _, _, hmk⟩ := hmk.open_
  have HS := Lib.hid hs
  have HMD := Lib.hid hmd
  unfold mpV at HMP HMV HFL HRW ⊢
  obtain ⟨z, hz⟩ : ∃ z, (m.sep.toNat : Int) = z := ⟨_, rfl⟩
  rw [hz] at HMP HMV HFL HRW HWRT ⊢
  obtain ⟨p, hp⟩ : ∃ p, exportE vtN l m = p := ⟨_, rfl⟩
  rw [hp]
  have HE := Lib.hid hp.symm
  obtain ⟨q1, hq1⟩ : ∃ q, logB l = q := ⟨_, rfl⟩
  obtain ⟨q2, hq2⟩ : ∃ q, mapB m = q := ⟨_, rfl⟩
  have HQ1 := Lib.hid hq1
  have HQ2 := Lib.hid hq2
  rw [hq1] at HLV
  rw [hq2] at HMV
  have hb1 := bone w (.cells #[.slice A l.length cl] 38)
  have k1 := Blk.new w 38 #[.slice A l.length cl]
  clear hs hmd hmk hz hp hq1 hq2 hfm hdl hg ha hh
  by_cases hqq : q1 = false ∨ q2 = false
  · have HR1 : Hid (p = ([], 1)) := by
      show _ = _
      rw [HE.out]
      unfold exportE
      rw [if_pos (by rcases hqq with h | h; exact .inl (HQ1.out.trans h); exact .inr (HQ2.out.trans h))]
    go_enter Tryz.func34, Tryz.ntmps34
    go_upto_region 1 with fail
    obtain ⟨w1, hw1⟩ : ∃ w1, w.alloc (.cells #[.slice A l.length cl] 38) = w1 := ⟨_, rfl⟩
    have z1 : w1.heap.size = w.heap.size + 1 := by rw [← hw1]; simp
    rw [hw1] at hb1 k1 ⊢
    clear hw1
    have hb2 := bone w1 (.cells #[.int .i64 m.cas, .int .i64 m.act, .int .i64 m.res, .int .i64 m.life, .int .i64 m.time, .slice Am m.data.length cm, .slice Ak m.kinds.length ck, .int .u8 z] 33)
    have k2 := Blk.new w1 33 #[.int .i64 m.cas, .int .i64 m.act, .int .i64 m.res, .int .i64 m.life, .int .i64 m.time, .slice Am m.data.length cm, .slice Ak m.kinds.length ck, .int .u8 z]
    have k1 := k1.now hb2
    have HB := Lib.hid (bthen hb1 hb2)
    obtain ⟨w2, hw2⟩ : ∃ w2, w1.alloc (.cells #[.int .i64 m.cas, .int .i64 m.act, .int .i64 m.res, .int .i64 m.life, .int .i64 m.time, .slice Am m.data.length cm, .slice Ak m.kinds.length ck, .int .u8 z] 33) = w2 := ⟨_, rfl⟩
    rw [hw2] at HB k1 k2 ⊢
    rw [z1] at k2
    have HL2 := Lib.hid (HLV.out w2 (HLOG.out.now HB.out))
    have HK2 := Lib.hid k2
    have a0 := k1.c1
    obtain ⟨c0, c1, c2, c3, c4, c5, c6, c7⟩ := k2.c8m
    clear hw2 z1 hb1 hb2 k1 k2
    go_wp2_with fail
    (with_reducible refine HL2.out.mono ?_)
    rintro _ w3 ⟨rfl, hb3⟩
    have HB3 := Lib.hid (bthen HB.out hb3)
    have HM3 := Lib.hid (HMV.out w3 (HMP.out.now (bthen HB.out hb3)))
    obtain ⟨d0, d1, d2, d3, d4, d5, d6, d7⟩ := (HK2.out.now hb3).c8m
    clear hb3 HL2 a0 c0 c1 c2 c3 c4 c5 c6 c7
    cases q1 with
    | false =>
      go_wp2_with fail
      go_ret2
      show RetSE _ _ _ _
      rw [HR1.out]
      exact ⟨rfl, HB3.out⟩
    | true =>
      have hq2 : q2 = false := by rcases hqq with h | h; cases h; exact h
      subst hq2
      go_wp2_with fail
      (with_reducible refine HM3.out.mono ?_)
      rintro _ w4 ⟨rfl, hb4⟩
      have HB4 := Lib.hid (bthen HB3.out hb4)
      clear hb4
      go_wp2_with fail
      go_ret2
      show RetSE _ _ _ _
      rw [HR1.out]
      exact ⟨rfl, HB4.out⟩
  have hl1 : q1 = true := by cases q1; exact absurd (.inl rfl) hqq; rfl
  have hm1 : q2 = true := by cases q2; exact absurd (.inr rfl) hqq; rfl
  subst hl1 hm1
  have HOK := Lib.hid (mpOk HQ2.out)
  have HW40 := Lib.hid (widthX_le HOK.out)
  have HN1 := Lib.hid (namesTo_le1000 HQ1.out HHV0.out)
  have HN2 := Lib.hid (fitN_of HQ1.out)
  have HN3 := Lib.hid (names_le HQ1.out)
  have HNM := Lib.hid (fun e he f hf => names_mem (l := l) (e := e) he (f := f) hf)
  have HE1 : Hid (p = if (colsL l).length ≠ m.data.length then ([], 29) else if (rowsX (rowX vtN (colsL l) m (widthX m)) l [headX (colsL l) m (widthX m)]).2 ≠ 0 then ([], (rowsX (rowX vtN (colsL l) m (widthX m)) l [headX (colsL l) m (widthX m)]).2) else writeE m.sep (rowsX (rowX vtN (colsL l) m (widthX m)) l [headX (colsL l) m (widthX m)]).1) := by
    show _ = _
    rw [HE.out]
    unfold exportE
    rw [if_neg (by rw [HQ1.out, HQ2.out]; simp)]
  obtain ⟨c, hc⟩ : ∃ c : Nat, m.cas = (c : Int) := ⟨m.cas.toNat, by have := HOK.out.cas; omega⟩
  obtain ⟨a, ha⟩ : ∃ a : Nat, m.act = (a : Int) := ⟨m.act.toNat, by have := HOK.out.act; omega⟩
  obtain ⟨t, ht⟩ : ∃ t : Nat, m.time = (t : Int) := ⟨m.time.toNat, by have := HOK.out.time; omega⟩
  have HLc : Hid (c < widthX m) := by have := widthX_col (m := m) (k := m.cas) HOK.out.cas.1 (.inl rfl); show c < _; omega
  have HLa : Hid (a < widthX m) := by have := widthX_col (m := m) (k := m.act) HOK.out.act.1 (.inr (.inl rfl)); show a < _; omega
  have HLt : Hid (t < widthX m) := by have := widthX_col (m := m) (k := m.time) HOK.out.time.1 (.inr (.inr (.inr (.inr (.inl rfl))))); show t < _; omega
  have HCres := Lib.hid (fun (h : 0 ≤ m.res) => widthX_col (m := m) (k := m.res) h (.inr (.inr (.inl rfl))))
  have HClife := Lib.hid (fun (h : 0 ≤ m.life) => widthX_col (m := m) (k := m.life) h (.inr (.inr (.inr (.inl rfl)))))
  have HCD := Lib.hid (fun k (hk : k ∈ m.data) => widthX_col (m := m) (k := k) (HOK.out.data k hk).1 (.inr (.inr (.inr (.inr (.inr hk))))))
  have HD1 : Hid (c ≠ a) := Lib.hid fun h => HOK.out.dist.1 (by rw [hc, ha, h])
  have HD2 : Hid (c ≠ t) := Lib.hid fun h => HOK.out.dist.2.1 (by rw [hc, ht, h])
  have HD3 : Hid (a ≠ t) := Lib.hid fun h => HOK.out.dist.2.2 (by rw [ha, ht, h])
  have HST : Hid (startH m (widthX m) = (((List.replicate (widthX m) []).set c xwCase).set a xwAct).set t xwTime) := by
    show _ = _
    unfold startH setZ
    rw [hc, ha, ht]
    rfl
  have HMX := Lib.hid (widthX_max HOK.out)
  have HHX : Hid _ := headX_eq (colsL l) m (widthX m)
  have HHL : Hid _ := headX_len (names := colsL l) (m := m) (width := widthX m)
  have HHC : Hid _ := headX_le (names := colsL l) (m := m) (width := widthX m) (fun s hs => by have := names_le HQ1.out s hs; omega)
  have HRL := Lib.hid (fun e (h : EvLe e) h0 => rowX_le (names := colsL l) (m := m) (width := widthX m) (e := e) h h0)
  obtain ⟨R0, hR0⟩ : ∃ R0, startH m (widthX m) = R0 := ⟨_, rfl⟩
  obtain ⟨hd, hhd⟩ : ∃ hd, headX (colsL l) m (widthX m) = hd := ⟨_, rfl⟩
  rw [hhd] at HHX HHL HHC HE1
  rw [hc, ha, ht] at HMP HMV HFL HRW ⊢
  obtain ⟨wd, hwd⟩ : ∃ wd, widthX m = wd := ⟨_, rfl⟩
  rw [hwd] at HRW HW40 HLc HLa HLt HCres HClife HCD HST HMX HHX HHL HRL HE1
  have hmk0 := fun w => run_make_n (P := Tryz.prog) 51 9 (.string ⟨#[]⟩) 16 Tryz.underlying51 (by kernel_rfl) wd (by have := HW40.out; omega) (by decide) rfl w
  have HNML := Lib.hid (show (colsL l).length ≤ 1000 by have h1 := compact_len (sortB (namesTo l l.length)); have h2 := sortB_len (namesTo l l.length); have h3 := HN1.out; unfold colsL setB; omega)
  obtain ⟨names, hnames⟩ : ∃ names, colsL l = names := ⟨_, rfl⟩
  rw [hnames] at HCO HN3 HNM HE1 HHX HRL HNML
  clear hc ha ht hwd hR0 R0 hhd hnames hqq HE
  go_enter Tryz.func34, Tryz.ntmps34
  go_upto_region 1 with fail
  obtain ⟨w1, hw1⟩ : ∃ w1, w.alloc (.cells #[.slice A l.length cl] 38) = w1 := ⟨_, rfl⟩
  have z1 : w1.heap.size = w.heap.size + 1 := by rw [← hw1]; simp
  rw [hw1] at hb1 k1 ⊢
  clear hw1
  have hb2 := bone w1 (.cells #[.int .i64 (c : Int), .int .i64 (a : Int), .int .i64 m.res, .int .i64 m.life, .int .i64 (t : Int), .slice Am m.data.length cm, .slice Ak m.kinds.length ck, .int .u8 z] 33)
  have k2 := Blk.new w1 33 #[.int .i64 (c : Int), .int .i64 (a : Int), .int .i64 m.res, .int .i64 m.life, .int .i64 (t : Int), .slice Am m.data.length cm, .slice Ak m.kinds.length ck, .int .u8 z]
  have k1 := k1.now hb2
  have HB := Lib.hid (bthen hb1 hb2)
  obtain ⟨w2, hw2⟩ : ∃ w2, w1.alloc (.cells #[.int .i64 (c : Int), .int .i64 (a : Int), .int .i64 m.res, .int .i64 m.life, .int .i64 (t : Int), .slice Am m.data.length cm, .slice Ak m.kinds.length ck, .int .u8 z] 33) = w2 := ⟨_, rfl⟩
  rw [hw2] at HB k1 k2 ⊢
  rw [z1] at k2
  have HL2 := Lib.hid (HLV.out w2 (HLOG.out.now HB.out))
  have HK1 := Lib.hid k1
  have HK2 := Lib.hid k2
  have a0 := k1.c1
  obtain ⟨c0, c1, c2, c3, c4, c5, c6, c7⟩ := k2.c8m
  clear hw2 z1 hb1 hb2 k1 k2
  go_wp2_with fail
  (with_reducible refine HL2.out.mono ?_)
  rintro _ w3 ⟨rfl, hb3⟩
  have HB3 := Lib.hid hb3
  have HM3 := Lib.hid (HMV.out w3 (HMP.out.now (bthen HB.out hb3)))
  obtain ⟨d0, d1, d2, d3, d4, d5, d6, d7⟩ := (HK2.out.now hb3).c8m
  clear hb3 HL2 a0 c0 c1 c2 c3 c4 c5 c6 c7
  go_wp2_with fail
  (with_reducible refine HM3.out.mono ?_)
  rintro _ w4 ⟨rfl, hb4⟩
  have HB4 := Lib.hid (bthen HB3.out hb4)
  have HCO4 := Lib.hid (HCO.out w4 (HLOG.out.now (bthen HB.out (bthen HB3.out hb4))) HN1.out HN2.out)
  have a0 := (HK1.out.now HB4.out).c1
  clear hb4 HB3 HM3 d0 d1 d2 d3 d4 d5 d6 d7
  go_wp2_with fail
  (with_reducible refine HCO4.out.mono ?_)
  rintro _ w5 ⟨nv, rfl, hnv, hb5⟩
  have hnv : SlP (Lt w5.heap.size) w5 nv names := hnv
  have HB5 := Lib.hid (bthen HB4.out hb5)
  obtain ⟨An, cn, rfl, _, _, hnv⟩ := hnv.open_
  have HNV := Lib.hid hnv
  obtain ⟨c0, c1, c2, c3, c4, c5, c6, c7⟩ := (HK2.out.now HB5.out).c8m
  clear hb5 hnv HB4 HCO4 a0
  by_cases hnl : (names.length : Int) = (m.data.length : Int)
  case neg =>
    have HR2 : Hid (p = ([], 29)) := by show _ = _; rw [HE1.out, if_pos (by omega)]
    go_wp2_with fail
    go_ret2
    show RetSE _ _ _ _
    rw [HR2.out]
    exact ⟨rfl, HB.out.trans (HB5.out.mono HB.out.size)⟩
  have HNL : Hid (names.length = m.data.length) := by show _ = _; omega
  have HE2 : Hid (p = if (rowsX (rowX vtN names m wd) l [hd]).2 ≠ 0 then ([], (rowsX (rowX vtN names m wd) l [hd]).2) else writeE m.sep (rowsX (rowX vtN names m wd) l [hd]).1) := by
    show _ = _
    rw [HE1.out, if_neg (by have := HNL.out; omega)]
  have hnlb : ((names.length : Int) != (m.data.length : Int)) = false := by simp [hnl]
  go_upto_region 6 with fail
  clear hnl hnlb HE1 c0 c1 c2 c3 c4 c5 c6 c7
  have HM5 := Lib.hid (HK2.out.now HB5.out)
  have HMP5 := Lib.hid (HMP.out.now (bthen HB.out HB5.out))
  have HMD5 := Lib.hid (HMD.out.now (bthen HB.out HB5.out))
  have HFO5 := Lib.hid (fun W hb => HFL.out W (HMP5.out.now hb))
  obtain ⟨mx, hmx⟩ : ∃ mx, Lib.maxOf (colsX m) = mx := ⟨_, rfl⟩
  rw [hmx] at HMX
  have HMXE := Lib.hid hmx
  clear hmx
  go_cut [7] from 7 to 38 (fun v W => v = .int .i64 (wd : Int) ∧ Below w5.heap.size w5 W)
  case first =>
    rename_i J1 K1 hJ hK
    have hwr : IntKind.i64.wrap (mx + 1) = (wd : Int) := by rw [HMX.out]; exact i64wrap ⟨by omega, by have := HW40.out; omega⟩
    refine wp_region_rel2 (by kernel_rfl) (by kernel_rfl) (by kernel_rfl) (fun W => Below w5.heap.size w5 W) (expF6 (.agg #[.int .i64 (c : Int), .int .i64 (a : Int), .int .i64 m.res, .int .i64 m.life, .int .i64 (t : Int), .slice Am m.data.length cm, .slice Ak m.kinds.length ck, .int .u8 z]) (.slice Am m.data.length cm) w5.heap.size (w.heap.size + 1) wd mx m) expD6 ?h0 ?hstep ?hend ?hall
    case hall => exact hall_of (by kernel_rfl)
    case h0 => exact (Below.refl _ _).drew
    case hstep =>
      intro i o ho listed ac W hsh hi hk hR hM
      obtain ⟨c0, c1, c2, c3, c4, c5, c6, c7⟩ := (HM5.out.now hR).c8m
      have nd : ∀ j : Nat, (j == 1) = false → ∀ k, expD6 j k = true → ¬ Up listed k := fun j hj k h => by unfold expD6 at h; rw [hj] at h; cases h
      match i, ho with
      | 0, ho =>
        injection ho with ho
        subst ho
        have e0 : ac.eval (.tmp 3) = .pointer (some ⟨w.heap.size + 1, 0, none⟩) := hk.same (s := 3) (by kernel_rfl)
        exact wpM_load _ _ _ (.agg #[.int .i64 (c : Int), .int .i64 (a : Int), .int .i64 m.res, .int .i64 m.life, .int .i64 (t : Int), .slice Am m.data.length cm, .slice Ak m.kinds.length ck, .int .u8 z]) rfl e0 (by simp [go_sem, c0, c1, c2, c3, c4, c5, c6, c7]) ⟨_, rfl, hR, fun u hu => hu (by simp), fun j _ _ _ _ u h => h⟩
      | 1, ho =>
        injection ho with ho
        subst ho
        have e0 : ac.eval (.tmp 32) = .agg #[.int .i64 (c : Int), .int .i64 (a : Int), .int .i64 m.res, .int .i64 m.life, .int .i64 (t : Int), .slice Am m.data.length cm, .slice Ak m.kinds.length ck, .int .u8 z] := hM 0 (by decide) (ready_up hi (by kernel_rfl)) (nd 0 rfl)
        refine wpM_callF (f := 75) enters_fields _ _ #[.agg #[.int .i64 (c : Int), .int .i64 (a : Int), .int .i64 m.res, .int .i64 m.life, .int .i64 (t : Int), .slice Am m.data.length cm, .slice Ak m.kinds.length ck, .int .u8 z]] _ rfl rfl (by simp only [List.map_toArray, List.map_cons, List.map_nil, e0]) ((HFO5.out W hR).mono ?_)
        rintro e W' ⟨fv, rfl, hown, hb⟩
        exact ⟨_, rfl, _, rfl, hR.trans (hb.mono hR.size), fun u hu => by rw [hu (by simp)]; exact own_mono hown hR.size, fun j _ _ _ _ u h => expKeep hb j u h⟩
      | 2, ho =>
        injection ho with ho
        subst ho
        have e0 : ac.eval (.tmp 3) = .pointer (some ⟨w.heap.size + 1, 0, none⟩) := hk.same (s := 3) (by kernel_rfl)
        exact wpM_run (.pointer (some ⟨w.heap.size + 1, 5, none⟩)) W (by simp only [execOp, e0]; simp [go_sem]) ⟨_, rfl, hR, fun u hu => hu (by simp), fun j _ _ _ _ u h => h⟩
      | 3, ho =>
        injection ho with ho
        subst ho
        have e0 : ac.eval (.tmp 34) = .pointer (some ⟨w.heap.size + 1, 5, none⟩) := hM 2 (by decide) (ready_up hi (by kernel_rfl)) (nd 2 rfl)
        exact wpM_run (.slice Am m.data.length cm) W (by simp only [execOp, e0]; simp [go_sem, c5]) ⟨_, rfl, hR, fun u hu => hu (by simp), fun j _ _ _ _ u h => h⟩
      | 4, ho =>
        injection ho with ho
        subst ho
        have h4 := ready_not hi
        have e0 : OwnZ W w5.heap.size (ac.eval (.tmp 33)) (fieldsB m) := hM 1 (by decide) (ready_up hi (by kernel_rfl)) (fun k h => by
          unfold expD6 at h
          have h : k = 4 := by simpa using h
          rw [h]; exact h4)
        have e1 : ac.eval (.tmp 35) = .slice Am m.data.length cm := hM 3 (by decide) (ready_up hi (by kernel_rfl)) (nd 3 rfl)
        refine wp_appendAll appInts (.tmp 33) (.tmp 35) rfl W _ (fieldsB m).length ((fieldsB m).map (Value.int .i64)) rfl e0 _ m.data (Value.int .i64) e1 (HMD5.out.now hR) (fun y c h => by injection h.1 with h1 _) (fun y => rfl) (by have := fieldsB_len m; have := HOK.out.len; omega) hR.size ?_
        intro v' W' hown hgr hat
        have hbW : Below w5.heap.size W W' := below_of_grown hgr hR.size (fun g hg => (World.ownsRow.lt e0 g hg).1)
        refine ⟨_, rfl, hR.trans hbW, fun u hu => ?_, fun j hj hji hu hd u h => ?_⟩
        · rw [hu (by simp)]
          show OwnZ W' w5.heap.size v' (fieldsB m ++ m.data)
          unfold OwnZ
          rw [List.length_append, List.map_append]
          exact hown
        · match j, hj, hji, hd, h with
          | 0, _, _, _, h => exact h
          | 1, _, _, hd, _ => exact absurd hd (by decide)
          | 2, _, _, _, h => exact h
          | 3, _, _, _, h => exact h
          | 4, _, hji, _, _ => exact absurd rfl hji
          | 5, _, _, _, h => exact h
          | 6, _, _, _, h => exact h
          | 7, _, _, _, h => exact h
          | n + 8, hj, _, _, _ => exact absurd hj (by simp)
      | 5, ho =>
        injection ho with ho
        subst ho
        have e0 : OwnZ W w5.heap.size (ac.eval (.tmp 36)) (colsX m) := hM 4 (by decide) (ready_up hi (by kernel_rfl)) (nd 4 rfl)
        refine wpM_callF (f := 87) enters_max _ _ #[ac.eval (.tmp 36)] _ rfl rfl (by simp only [List.map_toArray, List.map_cons, List.map_nil]) ((max_any _ w5.heap.size (colsX m) W e0 (by obtain ⟨r, hr⟩ := colsX_cons HOK.out; rw [hr]; simp) (by have := fieldsB_len m; have := HOK.out.len; unfold colsX; rw [List.length_append]; omega)).mono ?_)
        rintro e W' ⟨rfl, rfl⟩
        exact ⟨_, rfl, _, rfl, hR, fun u hu => by rw [hu (by simp), HMXE.out]; rfl, fun j _ _ _ _ u h => h⟩
      | 6, ho =>
        injection ho with ho
        subst ho
        have e0 : ac.eval (.tmp 37) = .int .i64 mx := hM 5 (by decide) (ready_up hi (by kernel_rfl)) (nd 5 rfl)
        exact wpM_run (.int .i64 (wd : Int)) W (by simp only [execOp, e0]; simp [go_sem, hwr]) ⟨_, rfl, hR, fun u hu => hu (by simp), fun j _ _ _ _ u h => h⟩
      | 7, ho =>
        injection ho with ho
        subst ho
        have e0 : ac.eval (.tmp 38) = .int .i64 (wd : Int) := hM 6 (by decide) (ready_up hi (by kernel_rfl)) (nd 6 rfl)
        exact wpM_assign _ _ rfl e0 ⟨_, rfl, hR, fun u hu => hu (by simp), fun j _ _ _ _ u h => h⟩
      | n + 8, ho => simp at ho
    case hend =>
      intro ac W hk hR hM
      have x7 : Act.slot ac 7 = .int .i64 (wd : Int) := hM 7 (by decide) (fun k => rfl)
      refine hK _ _ ?_
      rw [hk.form (by kernel_rfl)]
      simp only [putsAll, Option.getD_some, Act.put, List.setIfInBounds_toArray, List.set_cons_zero, List.set_cons_succ, x7]
      go_meet
      exact ⟨rfl, hR⟩
  case rest =>
  obtain ⟨rfl, hb6⟩ := hcut
  obtain ⟨w6, hw6⟩ : ∃ w6, wc = w6 := ⟨_, rfl⟩
  rw [hw6] at hb6 ⊢
  have HB6 := Lib.hid (HB5.out.trans (hb6.mono HB5.out.size))
  have HM6 := Lib.hid (HM5.out.now hb6)
  have HMP6 := Lib.hid (HMP5.out.now hb6)
  have HMD6 := Lib.hid (HMD5.out.now hb6)
  have HNV6 := Lib.hid (HNV.out.now hb6)
  have HLG6 := Lib.hid (HK1.out.now (HB5.out.trans (hb6.mono HB5.out.size)))
  have HS6 := Lib.hid (HS.out.now (bthen HB.out (HB5.out.trans (hb6.mono HB5.out.size))))
  have HA6 := Lib.hid (HAM.out.now (bthen HB.out (HB5.out.trans (hb6.mono HB5.out.size))))
  clear hw6 hb6 HFO5 HMX HMXE HNV HMP5 HMD5 HM5
  go_upto_region 8 with fail
  have hb7 := bone w6 (.cells (madeCells #[.string ⟨#[]⟩] wd) 9)
  have m7 := OwnF.made (f := fun l : Bt => Value.string (bsOf l)) w6 9 wd [] (by have := HW40.out; unfold maxLen; omega)
  obtain ⟨w7, hw7⟩ : ∃ w7, w6.alloc (.cells (madeCells #[.string ⟨#[]⟩] wd) 9) = w7 := ⟨_, rfl⟩
  have hw7' : w6.alloc (.cells (madeCells #[(fun l : Bt => Value.string (bsOf l)) []] wd) 9) = w7 := hw7
  rw [hw7'] at m7
  rw [hw7] at hb7 ⊢
  clear hw7 hw7' hmk0
  obtain ⟨g, hg⟩ : ∃ g, w6.heap.size = g := ⟨_, rfl⟩
  have HG := Lib.hid hg
  rw [hg] at hb7 m7 ⊢
  have HR0 : Hid (RelR (fun l : Bt => Value.string (bsOf l)) w6 g 9 g wd (List.replicate wd []) (fun j => j = c ∨ j = a ∨ j = t) w7.drew) := Lib.hid ⟨hb7.drew, _, m7.drew, rfl, fun _ _ => rfl⟩
  have ic0 : (0 : Int) ≤ (c : Int) := by omega
  have ia0 : (0 : Int) ≤ (a : Int) := by omega
  have it0 : (0 : Int) ≤ (t : Int) := by omega
  have ic1 : (c : Int) < (wd : Int) := by have := HLc.out; omega
  have ia1 : (a : Int) < (wd : Int) := by have := HLa.out; omega
  have it1 : (t : Int) < (wd : Int) := by have := HLt.out; omega
  clear hb7 m7 hg
  go_cut [] from 41 to 52 (fun W => OwnCells W g g wd (startH m wd) ∧ Below g w6 W)
  case first =>
    rename_i J1 K1 hJ hK
    refine wp_region_rel (by kernel_rfl) (by kernel_rfl) (by kernel_rfl) (RelR (fun l : Bt => Value.string (bsOf l)) w6 g 9 g wd (List.replicate wd []) (fun j => j = c ∨ j = a ∨ j = t)) (expF8 w g c a t wd) ?h0 ?hstep ?hend ?hall
    case hall => exact hall_of (by kernel_rfl)
    case h0 => exact HR0.out
    case hstep =>
      intro i o ho listed ac W hsh hi hk hR hM
      have hb6 : Below w6.heap.size w6 W := by rw [HG.out]; exact hR.below
      have hgW : g < W.heap.size := by obtain ⟨_, h1, _, _⟩ := hR.row; exact h1.lt
      obtain ⟨c0, c1, c2, c3, c4, c5, c6, c7⟩ := (HM6.out.now hb6).c8m
      match i, ho with
      | 0, ho =>
        injection ho with ho
        subst ho
        have e0 : ac.eval (.tmp 8) = .slice (some ⟨g, 0, none⟩) wd wd := hk.same (s := 8) (by kernel_rfl)
        exact wpM_run (.slice (some ⟨g, 0, none⟩) wd wd) W (by simp only [execOp, e0]; simp [go_sem]) ⟨_, rfl, hR, fun u hu => hu (by simp), fun j _ _ _ u h => h⟩
      | 1, ho =>
        injection ho with ho
        subst ho
        have e0 : ac.eval (.tmp 3) = .pointer (some ⟨w.heap.size + 1, 0, none⟩) := hk.same (s := 3) (by kernel_rfl)
        exact wpM_run (.pointer (some ⟨w.heap.size + 1, 0, none⟩)) W (by simp only [execOp, e0]; simp [go_sem]) ⟨_, rfl, hR, fun u hu => hu (by simp), fun j _ _ _ u h => h⟩
      | 2, ho =>
        injection ho with ho
        subst ho
        have e0 : ac.eval (.tmp 42) = .pointer (some ⟨w.heap.size + 1, 0, none⟩) := hM 1 (by decide) (ready_up hi (by kernel_rfl))
        exact wpM_run (.int .i64 (c : Int)) W (by simp only [execOp, e0]; simp [go_sem, c0]) ⟨_, rfl, hR, fun u hu => hu (by simp), fun j _ _ _ u h => h⟩
      | 3, ho =>
        injection ho with ho
        subst ho
        have e0 : ac.eval (.tmp 8) = .slice (some ⟨g, 0, none⟩) wd wd := hk.same (s := 8) (by kernel_rfl)
        exact wpM_run (.slice (some ⟨g, 0, none⟩) wd wd) W (by simp only [execOp, e0]; simp [go_sem]) ⟨_, rfl, hR, fun u hu => hu (by simp), fun j _ _ _ u h => h⟩
      | 4, ho =>
        injection ho with ho
        subst ho
        have e0 : ac.eval (.tmp 3) = .pointer (some ⟨w.heap.size + 1, 0, none⟩) := hk.same (s := 3) (by kernel_rfl)
        exact wpM_run (.pointer (some ⟨w.heap.size + 1, 1, none⟩)) W (by simp only [execOp, e0]; simp [go_sem]) ⟨_, rfl, hR, fun u hu => hu (by simp), fun j _ _ _ u h => h⟩
      | 5, ho =>
        injection ho with ho
        subst ho
        have e0 : ac.eval (.tmp 45) = .pointer (some ⟨w.heap.size + 1, 1, none⟩) := hM 4 (by decide) (ready_up hi (by kernel_rfl))
        exact wpM_run (.int .i64 (a : Int)) W (by simp only [execOp, e0]; simp [go_sem, c1]) ⟨_, rfl, hR, fun u hu => hu (by simp), fun j _ _ _ u h => h⟩
      | 6, ho =>
        injection ho with ho
        subst ho
        have e0 : ac.eval (.tmp 8) = .slice (some ⟨g, 0, none⟩) wd wd := hk.same (s := 8) (by kernel_rfl)
        exact wpM_run (.slice (some ⟨g, 0, none⟩) wd wd) W (by simp only [execOp, e0]; simp [go_sem]) ⟨_, rfl, hR, fun u hu => hu (by simp), fun j _ _ _ u h => h⟩
      | 7, ho =>
        injection ho with ho
        subst ho
        have e0 : ac.eval (.tmp 3) = .pointer (some ⟨w.heap.size + 1, 0, none⟩) := hk.same (s := 3) (by kernel_rfl)
        exact wpM_run (.pointer (some ⟨w.heap.size + 1, 4, none⟩)) W (by simp only [execOp, e0]; simp [go_sem]) ⟨_, rfl, hR, fun u hu => hu (by simp), fun j _ _ _ u h => h⟩
      | 8, ho =>
        injection ho with ho
        subst ho
        have e0 : ac.eval (.tmp 48) = .pointer (some ⟨w.heap.size + 1, 4, none⟩) := hM 7 (by decide) (ready_up hi (by kernel_rfl))
        exact wpM_run (.int .i64 (t : Int)) W (by simp only [execOp, e0]; simp [go_sem, c4]) ⟨_, rfl, hR, fun u hu => hu (by simp), fun j _ _ _ u h => h⟩
      | 9, ho =>
        injection ho with ho
        subst ho
        have e0 : ac.eval (.tmp 41) = .slice (some ⟨g, 0, none⟩) wd wd := hM 0 (by decide) (ready_up hi (by kernel_rfl))
        have e1 : ac.eval (.tmp 43) = .int .i64 (c : Int) := hM 2 (by decide) (ready_up hi (by kernel_rfl))
        exact wpM_run (.pointer (some ⟨g, c, none⟩)) W (by simp only [execOp, e0, e1]; simp [go_sem, ic0, ic1]) ⟨_, rfl, hR, fun u hu => hu (by simp), fun j _ _ _ u h => h⟩
      | 10, ho =>
        injection ho with ho
        subst ho
        have e0 : ac.eval (.tmp 50) = .pointer (some ⟨g, c, none⟩) := hM 9 (by decide) (ready_up hi (by kernel_rfl))
        have e1 : ac.eval (.const (.string (bsOf xwCase))) = .string (bsOf xwCase) := rfl
        obtain ⟨y, hy⟩ := hR.cell (k := c) (by rw [List.length_replicate]; exact HLc.out)
        have fz := hR.frozen c
        refine wpM_store _ _ _ _ _ (W.setCell ⟨g, c, none⟩ (.string (bsOf xwCase))) () rfl e0 e1 (by simp [go_sem, hy, fz]) ⟨_, rfl, hR.set_ (.inl rfl) xwCase, fun u _ => cell_put W hy _, fun j hj hji hu u h => ?_⟩
        match j, hj, hji, h with
        | 0, _, _, h => exact h
        | 1, _, _, h => exact h
        | 2, _, _, h => exact h
        | 3, _, _, h => exact h
        | 4, _, _, h => exact h
        | 5, _, _, h => exact h
        | 6, _, _, h => exact h
        | 7, _, _, h => exact h
        | 8, _, _, h => exact h
        | 9, _, _, h => exact h
        | 10, _, hji, _ => exact absurd rfl hji
        | 11, _, _, h => exact h
        | 12, _, _, h => exact (cell_far W HD1.out _).trans h
        | 13, _, _, h => exact h
        | 14, _, _, h => exact (cell_far W HD2.out _).trans h
        | n + 15, hj, _, _ => exact absurd hj (by simp)
      | 11, ho =>
        injection ho with ho
        subst ho
        have e0 : ac.eval (.tmp 44) = .slice (some ⟨g, 0, none⟩) wd wd := hM 3 (by decide) (ready_up hi (by kernel_rfl))
        have e1 : ac.eval (.tmp 46) = .int .i64 (a : Int) := hM 5 (by decide) (ready_up hi (by kernel_rfl))
        exact wpM_run (.pointer (some ⟨g, a, none⟩)) W (by simp only [execOp, e0, e1]; simp [go_sem, ia0, ia1]) ⟨_, rfl, hR, fun u hu => hu (by simp), fun j _ _ _ u h => h⟩
      | 12, ho =>
        injection ho with ho
        subst ho
        have e0 : ac.eval (.tmp 51) = .pointer (some ⟨g, a, none⟩) := hM 11 (by decide) (ready_up hi (by kernel_rfl))
        have e1 : ac.eval (.const (.string (bsOf xwAct))) = .string (bsOf xwAct) := rfl
        obtain ⟨y, hy⟩ := hR.cell (k := a) (by rw [List.length_replicate]; exact HLa.out)
        have fz := hR.frozen a
        refine wpM_store _ _ _ _ _ (W.setCell ⟨g, a, none⟩ (.string (bsOf xwAct))) () rfl e0 e1 (by simp [go_sem, hy, fz]) ⟨_, rfl, hR.set_ (.inr (.inl rfl)) xwAct, fun u _ => cell_put W hy _, fun j hj hji hu u h => ?_⟩
        match j, hj, hji, h with
        | 0, _, _, h => exact h
        | 1, _, _, h => exact h
        | 2, _, _, h => exact h
        | 3, _, _, h => exact h
        | 4, _, _, h => exact h
        | 5, _, _, h => exact h
        | 6, _, _, h => exact h
        | 7, _, _, h => exact h
        | 8, _, _, h => exact h
        | 9, _, _, h => exact h
        | 10, _, _, h => exact (cell_far W (Ne.symm HD1.out) _).trans h
        | 11, _, _, h => exact h
        | 12, _, hji, _ => exact absurd rfl hji
        | 13, _, _, h => exact h
        | 14, _, _, h => exact (cell_far W HD3.out _).trans h
        | n + 15, hj, _, _ => exact absurd hj (by simp)
      | 13, ho =>
        injection ho with ho
        subst ho
        have e0 : ac.eval (.tmp 47) = .slice (some ⟨g, 0, none⟩) wd wd := hM 6 (by decide) (ready_up hi (by kernel_rfl))
        have e1 : ac.eval (.tmp 49) = .int .i64 (t : Int) := hM 8 (by decide) (ready_up hi (by kernel_rfl))
        exact wpM_run (.pointer (some ⟨g, t, none⟩)) W (by simp only [execOp, e0, e1]; simp [go_sem, it0, it1]) ⟨_, rfl, hR, fun u hu => hu (by simp), fun j _ _ _ u h => h⟩
      | 14, ho =>
        injection ho with ho
        subst ho
        have e0 : ac.eval (.tmp 52) = .pointer (some ⟨g, t, none⟩) := hM 13 (by decide) (ready_up hi (by kernel_rfl))
        have e1 : ac.eval (.const (.string (bsOf xwTime))) = .string (bsOf xwTime) := rfl
        obtain ⟨y, hy⟩ := hR.cell (k := t) (by rw [List.length_replicate]; exact HLt.out)
        have fz := hR.frozen t
        refine wpM_store _ _ _ _ _ (W.setCell ⟨g, t, none⟩ (.string (bsOf xwTime))) () rfl e0 e1 (by simp [go_sem, hy, fz]) ⟨_, rfl, hR.set_ (.inr (.inr rfl)) xwTime, fun u _ => cell_put W hy _, fun j hj hji hu u h => ?_⟩
        match j, hj, hji, h with
        | 0, _, _, h => exact h
        | 1, _, _, h => exact h
        | 2, _, _, h => exact h
        | 3, _, _, h => exact h
        | 4, _, _, h => exact h
        | 5, _, _, h => exact h
        | 6, _, _, h => exact h
        | 7, _, _, h => exact h
        | 8, _, _, h => exact h
        | 9, _, _, h => exact h
        | 10, _, _, h => exact (cell_far W (Ne.symm HD2.out) _).trans h
        | 11, _, _, h => exact h
        | 12, _, _, h => exact (cell_far W (Ne.symm HD3.out) _).trans h
        | 13, _, _, h => exact h
        | 14, _, hji, _ => exact absurd rfl hji
        | n + 15, hj, _, _ => exact absurd hj (by simp)
      | n + 15, ho => simp at ho
    case hend =>
      intro ac W hk hR hM
      have hrow : OwnCells W g g wd (startH m wd) := by
        rw [HST.out]
        exact setZ3_end hR HD1.out HD2.out HD3.out (hM 10 (by decide)) (hM 12 (by decide)) (hM 14 (by decide))
      have hbw := hR.below
      refine hK _ _ ?_
      rw [hk.form (by kernel_rfl)]
      simp only [putsAll, Option.getD_some, Act.put, List.setIfInBounds_toArray, List.set_cons_zero, List.set_cons_succ]
      go_meet
      exact ⟨hrow, hbw⟩
  case rest =>
  obtain ⟨hrow, hbw⟩ := hcut
  obtain ⟨w8, hw8⟩ : ∃ w8, wc = w8 := ⟨_, rfl⟩
  rw [hw8] at hrow hbw ⊢
  have HO8 := Lib.hid hrow
  have HB8 := Lib.hid hbw
  clear hw8 hrow hbw ic0 ia0 it0 ic1 ia1 it1 HR0
  have hbb : Below w6.heap.size w6 w8 := by rw [HG.out]; exact HB8.out
  obtain ⟨c0, c1, c2, c3, c4, c5, c6, c7⟩ := (HM6.out.now hbb).c8m
  clear hbb
  have HLR8 : Hid ((startH m wd).length = wd) := by show _ = _; unfold startH; simp [setZ_len]
  obtain ⟨r0, hr0⟩ : ∃ r0, startH m wd = r0 := ⟨_, rfl⟩
  rw [hr0] at HO8 HLR8 HHX
  clear hr0 HST
  obtain ⟨qr, hqr⟩ : ∃ qr, decide (0 ≤ m.res) = qr := ⟨_, rfl⟩
  go_upto_if 55 with fail
  have HQR := Lib.hid hqr
  clear hqr
  go_cut [] from 56 to 59 (fun W => OwnCells W g g wd (resH m r0) ∧ Below g w6 W)
  case first =>
    have HRX : Hid (resH m r0 = if qr = true then setZ r0 m.res xwRes else r0) := by
      show _ = _
      unfold resH
      rw [← HQR.out]
      by_cases h : 0 ≤ m.res
      · rw [if_pos h, if_pos (decide_eq_true h)]
      · rw [if_neg h, if_neg (by rw [decide_eq_false h]; decide)]
    cases qr with
    | false =>
      go_wp2_with fail
      go_meet
      rw [HRX.out]
      exact ⟨HO8.out, HB8.out⟩
    | true =>
      obtain ⟨r, hr⟩ : ∃ r : Nat, m.res = (r : Int) := ⟨m.res.toNat, by have := of_decide_eq_true HQR.out; omega⟩
      have HLr : Hid (r < wd) := by have := HCres.out (of_decide_eq_true HQR.out); show r < wd; omega
      have HRX2 : Hid (resH m r0 = r0.set r xwRes) := by show _ = _; rw [HRX.out, if_pos rfl]; unfold setZ; rw [hr]; rfl
      have HS4 := Lib.hid (HO8.out.set_ r xwRes)
      have HSB : Hid (Below g w6 (w8.setCell ⟨g, r, none⟩ (.string (bsOf xwRes)))) := Lib.hid (HB8.out.setCell (p := ⟨g, r, none⟩) (Nat.le_refl _) _)
      have hcl := HO8.out.cell (k := r) (List.getElem?_eq_getElem (by rw [HLR8.out]; exact HLr.out))
      have hfz := HO8.out.frozen r
      rw [hr] at c2
      have ir0 : (0 : Int) ≤ (r : Int) := by omega
      have ir1 : (r : Int) < (wd : Int) := by have := HLr.out; omega
      clear hr HRX
      go_wp2_with fail
      go_meet
      rw [HRX2.out]
      exact ⟨HS4.out, HSB.out⟩
  case rest =>
  obtain ⟨hrow, hbw⟩ := hcut
  obtain ⟨w9, hw9⟩ : ∃ w9, wc = w9 := ⟨_, rfl⟩
  rw [hw9] at hrow hbw ⊢
  have HO9 := Lib.hid hrow
  have HB9 := Lib.hid hbw
  clear hw9 hrow hbw c0 c1 c2 c3 c4 c5 c6 c7 HQR
  have hbb : Below w6.heap.size w6 w9 := by rw [HG.out]; exact HB9.out
  obtain ⟨c0, c1, c2, c3, c4, c5, c6, c7⟩ := (HM6.out.now hbb).c8m
  clear hbb
  have HLR9 : Hid ((resH m r0).length = wd) := by show _ = _; rw [← HLR8.out]; unfold resH; split <;> simp [setZ_len]
  obtain ⟨r1, hr1⟩ : ∃ r1, resH m r0 = r1 := ⟨_, rfl⟩
  rw [hr1] at HO9 HLR9 HHX
  clear hr1 HO8 HB8 HLR8
  obtain ⟨qr, hqr⟩ : ∃ qr, decide (0 ≤ m.life) = qr := ⟨_, rfl⟩
  go_upto_if 62 with fail
  have HQR := Lib.hid hqr
  clear hqr
  go_cut [] from 63 to 66 (fun W => OwnCells W g g wd (lifeH m r1) ∧ Below g w6 W)
  case first =>
    have HRX : Hid (lifeH m r1 = if qr = true then setZ r1 m.life xwLife else r1) := by
      show _ = _
      unfold lifeH
      rw [← HQR.out]
      by_cases h : 0 ≤ m.life
      · rw [if_pos h, if_pos (decide_eq_true h)]
      · rw [if_neg h, if_neg (by rw [decide_eq_false h]; decide)]
    cases qr with
    | false =>
      go_wp2_with fail
      go_meet
      rw [HRX.out]
      exact ⟨HO9.out, HB9.out⟩
    | true =>
      obtain ⟨r, hr⟩ : ∃ r : Nat, m.life = (r : Int) := ⟨m.life.toNat, by have := of_decide_eq_true HQR.out; omega⟩
      have HLr : Hid (r < wd) := by have := HClife.out (of_decide_eq_true HQR.out); show r < wd; omega
      have HRX2 : Hid (lifeH m r1 = r1.set r xwLife) := by show _ = _; rw [HRX.out, if_pos rfl]; unfold setZ; rw [hr]; rfl
      have HS4 := Lib.hid (HO9.out.set_ r xwLife)
      have HSB : Hid (Below g w6 (w9.setCell ⟨g, r, none⟩ (.string (bsOf xwLife)))) := Lib.hid (HB9.out.setCell (p := ⟨g, r, none⟩) (Nat.le_refl _) _)
      have hcl := HO9.out.cell (k := r) (List.getElem?_eq_getElem (by rw [HLR9.out]; exact HLr.out))
      have hfz := HO9.out.frozen r
      rw [hr] at c3
      have ir0 : (0 : Int) ≤ (r : Int) := by omega
      have ir1 : (r : Int) < (wd : Int) := by have := HLr.out; omega
      clear hr HRX
      go_wp2_with fail
      go_meet
      rw [HRX2.out]
      exact ⟨HS4.out, HSB.out⟩
  case rest =>
  obtain ⟨hrow, hbw⟩ := hcut
  obtain ⟨w10, hw10⟩ : ∃ w10, wc = w10 := ⟨_, rfl⟩
  rw [hw10] at hrow hbw ⊢
  have HO10 := Lib.hid hrow
  have HB10 := Lib.hid hbw
  clear hw10 hrow hbw c0 c1 c2 c3 c4 c5 c6 c7 HQR
  have hbb : Below w6.heap.size w6 w10 := by rw [HG.out]; exact HB10.out
  obtain ⟨c0, c1, c2, c3, c4, c5, c6, c7⟩ := (HM6.out.now hbb).c8m
  clear hbb
  have HLR10 : Hid ((lifeH m r1).length = wd) := by show _ = _; rw [← HLR9.out]; unfold lifeH; split <;> simp [setZ_len]
  obtain ⟨r2, hr2⟩ : ∃ r2, lifeH m r1 = r2 := ⟨_, rfl⟩
  rw [hr2] at HO10 HLR10 HHX
  clear hr2 HO9 HB9 HLR9
  go_wp2_with fail
  clear c0 c1 c2 c3 c4 c5 c6 c7
  go_loopw [70] (fun iv wr => ∃ (j : Nat) (r : List Bt), iv = .int .i64 (j : Int) ∧ j ≤ m.data.length ∧ Hid (OwnCells wr g g wd r) ∧ Hid (r.length = wd) ∧ Hid (hd = zipH ((m.data.zip names).drop j) r) ∧ Hid (Below g w6 wr)) (fun iv _ => m.data.length - (intOf iv).toNat)
  case atStart => exact ⟨0, r2, rfl, Nat.zero_le _, HO10, HLR10, HHX, HB10⟩
  case round =>
    obtain ⟨j, r, rfl, hj, HO, HLR, HHR, HBr⟩ := hrel
    obtain ⟨wo, hwo⟩ : ∃ wo, wr = wo := ⟨_, rfl⟩
    rw [hwo] at HO HBr ⊢
    clear hwo HO10 HB10 HLR10 HHX
    have HBR : Hid (Below w6.heap.size w6 wo) := by show Below _ _ _; rw [HG.out]; exact HBr.out
    by_cases hlt : j < m.data.length
    · have hjn : j < names.length := by rw [HNL.out]; exact hlt
      obtain ⟨bd, od, dz, rfl, hDd, hxd, _, cd0⟩ := SlI.at_ (SlI.now HMD6.out HBR.out) hlt
      obtain ⟨bn, on_, s, rfl, hDn, hxn, _, cn0⟩ := SlP.at_ (SlP.now HNV6.out HBR.out) hjn
      have HSTEP := Lib.hid (zipH_step (r := r) hxd hxn)
      have hdm : dz ∈ m.data := List.mem_of_getElem? hxd
      obtain ⟨d, rfl⟩ : ∃ d : Nat, dz = (d : Int) := ⟨dz.toNat, by have := (HOK.out.data dz hdm).1; omega⟩
      have HLd : Hid (d < wd) := by have := HCD.out _ hdm; show d < wd; omega
      have id0 : (0 : Int) ≤ (d : Int) := by omega
      have id1 : (d : Int) < (wd : Int) := by have := HLd.out; omega
      have ij0 : (0 : Int) ≤ (j : Int) := by omega
      have ij1 : (j : Int) < (m.data.length : Int) := by omega
      have ij2 : (j : Int) < (names.length : Int) := by omega
      have hcl := HO.out.cell (k := d) (List.getElem?_eq_getElem (by rw [HLR.out]; exact HLd.out))
      have hfz := HO.out.frozen d
      clear hxd hxn hDd hDn hdm
      go_wp2_with fail
      go_roundw
      case rel => exact ⟨j + 1, setZ r (d : Int) s, by go_num, by omega, Lib.hid (OwnCells.setZ HO.out (k := (d : Int)) rfl s), Lib.hid ((setZ_len _ _ _).trans HLR.out), Lib.hid (HHR.out.trans HSTEP.out), Lib.hid (HBr.out.setCell (p := ⟨g, d, none⟩) (Nat.le_refl _) _)⟩
      case measure => simp [intOf]; omega
    · have hje : j = m.data.length := by omega
      have HHD : Hid (hd = r) := by
        show _ = _
        rw [HHR.out, hje, List.drop_eq_nil_of_le (by rw [List.length_zip]; omega)]
        rfl
      have hjn : ¬ (j : Int) < (m.data.length : Int) := by omega
      have HHV : Hid (SlP (Lt wo.heap.size) wo (.slice (some ⟨g, 0, none⟩) wd wd) hd) := Lib.hid (by
        rw [HHD.out]
        have h1 := HO.out.1
        rw [HLR.out] at h1
        exact SlS.of_own (zs := r.map bsOf) (by rw [List.map_map]; exact h1) (fun z hz => by
          obtain ⟨b, hb, rfl⟩ := List.mem_map.1 hz
          rw [bs_size]
          have := HHC.out b (by rw [HHD.out]; exact hb)
          unfold maxLen; omega))
      clear hje hlt
      have hbl := bone wo (.cells #[.slice (some ⟨g, 0, none⟩) wd wd] 51)
      have HOR := ownR_one (w := wo) 51 HHV.out
      have HBo := bthen HBR.out hbl
      have hlg := (HLG6.out.now HBo).c1
      go_upto_region 19 with fail
      obtain ⟨wp, hwp⟩ : ∃ wp, wo.alloc (.cells #[.slice (some ⟨g, 0, none⟩) wd wd] 51) = wp := ⟨_, rfl⟩
      rw [hwp] at HOR HBo hlg ⊢
      have HOP : Hid (OwnR 1 RStrs (fun _ => False) wp w6.heap.size 51 (.slice (some ⟨wo.heap.size, 0, none⟩) 1 1) [hd]) := Lib.hid (by
        obtain ⟨cs, h1, h2⟩ := HOR
        exact ⟨cs, own_mono h1 HBR.out.size, h2⟩)
      have HBP := Lib.hid HBo
      have HRO : Hid (RowsOk wd [hd]) := Lib.hid fun x hx => by rw [List.mem_singleton] at hx; rw [hx]; exact ⟨HHL.out, HHC.out⟩
      clear hwp HOR HBo hbl hjn HHV HHD HHR HO HBr HBR HLR
      go_wp2_with fail
      clear hlg
      go_loopw [11, 88] (fun ov iv wr => ∃ (i : Nat) (acc : List (List Bt)), iv = .int .i64 (i : Int) ∧ i ≤ l.length ∧ acc.length = i + 1 ∧ Hid (OwnR 1 RStrs (fun _ => False) wr w6.heap.size 51 ov acc) ∧ Hid (RowsOk wd acc) ∧ Hid (rowsX (rowX vtN names m wd) l [hd] = rowsX (rowX vtN names m wd) (l.drop i) acc) ∧ Hid (Below w6.heap.size w6 wr)) (fun _ iv _ => l.length - (intOf iv).toNat)
      case atStart => exact ⟨0, [hd], rfl, Nat.zero_le _, rfl, HOP, HRO, Lib.hid rfl, HBP⟩
      case round =>
        obtain ⟨i, acc, rfl, hi, hal, HOA, HRA, HXA, HBA⟩ := hrel
        obtain ⟨wa, hwa⟩ : ∃ wa, wr = wa := ⟨_, rfl⟩
        rw [hwa] at HOA HBA ⊢
        have HAL := Lib.hid hal
        clear hwa HOP HBP HRO hal
        by_cases hil : i < l.length
        · obtain ⟨be, oe, e, dv, rfl, hDe, hxe, hfe, hde, e0, e1, e2, e3, e4, e5⟩ := SlEv.at_ (SlEv.now HS6.out HBA.out) hil
          obtain ⟨Ad, cd, rfl, _, _, hde⟩ := hde.open_
          have HXE := Lib.hid hxe
          have HEL := Lib.hid (evLe (logB_ev HQ1.out hxe))
          have HEM := Lib.hid (List.mem_of_getElem? hxe)
          have HIE : Hid (IsEv (Lt wa.heap.size) wa (evV e (.slice Ad e.data.length cd)) e) := Lib.hid ⟨_, rfl, hfe, hde⟩
          have hbe := bone wa (.cells #[.string e.cas, .string e.act, .string e.res, .int .i64 e.life, .int .i64 e.time, .slice Ad e.data.length cd] 69)
          have ke := Blk.new wa 69 #[.string e.cas, .string e.act, .string e.res, .int .i64 e.life, .int .i64 e.time, .slice Ad e.data.length cd]
          clear hxe hfe hde hDe
          go_upto_region 22 with fail
          obtain ⟨wb, hwb⟩ : ∃ wb, wa.alloc (.cells #[.string e.cas, .string e.act, .string e.res, .int .i64 e.life, .int .i64 e.time, .slice Ad e.data.length cd] 69) = wb := ⟨_, rfl⟩
          rw [hwb] at hbe ke ⊢
          clear hwb e0 e1 e2 e3 e4 e5
          have HBB := Lib.hid (bthen HBA.out hbe)
          have HOB := Lib.hid (HOA.out.now RStrs.kept hbe)
          have HIB := Lib.hid (HIE.out.now hbe)
          unfold evV at HIB
          have HRR := Lib.hid (HRW.out names e _ _ wb HIB.out (HNV6.out.now HBB.out) (HMP6.out.now HBB.out) HOK.out HEL.out (fun f hf => HNM.out e HEM.out f hf) HNL.out (HA6.out.now HBB.out))
          have HRS := Lib.hid (HRL.out e HEL.out)
          have HRP := Lib.hid (rowsX_step (f := rowX vtN names m wd) (acc := acc) HXE.out)
          obtain ⟨e0, e1, e2, e3, e4, e5⟩ := ke.c6
          obtain ⟨c0, c1, c2, c3, c4, c5, c6, c7⟩ := (HM6.out.now HBB.out).c8m
          obtain ⟨x, hx⟩ : ∃ x, rowX vtN names m wd e = x := ⟨_, rfl⟩
          rw [hx] at HRR HRS HRP
          obtain ⟨row, k⟩ := x
          obtain ⟨ge, hge⟩ : ∃ ge, wa.heap.size = ge := ⟨_, rfl⟩
          rw [hge] at e0 e1 e2 e3 e4 e5 ⊢
          clear hbe ke hx hge HOA HBA HIE HIB
          go_wp2_with fail
          (with_reducible refine HRR.out.mono ?_)
          rintro _ w9 ⟨rv, rfl, hrv, hb9⟩
          obtain ⟨Ar, cr, rfl, _, _, hrv⟩ := SlP.open_ hrv
          have HB9 := Lib.hid (bthen HBB.out hb9)
          have HO9 := Lib.hid (HOB.out.now RStrs.kept hb9)
          have HLT9 := Lib.hid (fun g (hg : _ = some g) => (OwnR.lt HOB.out g hg).2)
          have HRV := Lib.hid hrv
          clear hb9 hrv HRR HOB HBB e0 e1 e2 e3 e4 e5 c0 c1 c2 c3 c4 c5 c6 c7
          by_cases hk0 : k = 0
          · subst hk0
            have HSTEP : Hid (rowsX (rowX vtN names m wd) l [hd] = rowsX (rowX vtN names m wd) (l.drop (i + 1)) (acc ++ [row])) := by
              show _ = _
              rw [HXA.out, HRP.out, if_neg (by simp)]
            have HRO : Hid (RowsOk wd (acc ++ [row])) := Lib.hid (RowsOk.push HRA.out (HRS.out rfl).1 (HRS.out rfl).2)
            have HSZ := Lib.hid HB9.out.size
            obtain ⟨Ao, co, hov⟩ := OwnR.open_ HO9.out
            subst hov
            have HYY : Hid (RStrs (Off (fun _ => False) w9 (.slice Ao acc.length co)) w9 row [.slice Ar row.length cr]) := Lib.hid ⟨_, rfl, SlP.keep HRV.out (fun b hb => ⟨hb.2, fun e => by have h1 := HLT9.out b e; have h2 := hb.1; omega, fun h => h⟩) (Same.refl _ _)⟩
            go_wp2_with (at_builtin; refine wpList_pushR (X := fun _ => False) appStrs RStrs.kept rfl (.tmp 103) (.tmp 105) rfl w9 [.slice Ar row.length cr] rfl (fun u hu => by simp at hu; subst hu; rfl) _ acc row rfl HO9.out HYY.out rfl (by have := few_of HQ1.out HHV0.out; have := HAL.out; omega) HSZ.out ?_; intro v' w10 hown hgr hat)
            have HBX : Hid (Below w6.heap.size w6 w10) := Lib.hid (HB9.out.trans (below_of_grown hgr HSZ.out (fun g hg => (OwnR.lt HO9.out g hg).1)))
            go_roundw
            case rel => exact ⟨i + 1, acc ++ [row], by go_num, by omega, by rw [List.length_append, HAL.out]; rfl, Lib.hid hown, HRO, HSTEP, HBX⟩
            case measure => simp [intOf]; omega
          · have HR2 : Hid (p = ([], k)) := by
              show _ = _
              have h1 : (rowsX (rowX vtN names m wd) l [hd]) = ([], k) := by rw [HXA.out, HRP.out, if_pos (by simpa using hk0)]
              rw [HE2.out, h1, if_pos (by simpa using hk0)]
            have x1 : (k != 0) = true := by simpa using hk0
            go_wp2_with fail
            go_ret2
            show RetSE _ _ _ _
            rw [HR2.out]
            exact ⟨rfl, (HB.out.trans (HB6.out.mono HB.out.size)).trans (HB9.out.mono (HB.out.trans (HB6.out.mono HB.out.size)).size)⟩
        · have hie : i = l.length := by omega
          have HEND : Hid (rowsX (rowX vtN names m wd) l [hd] = (acc, 0)) := by
            show _ = _
            rw [HXA.out, hie, List.drop_eq_nil_of_le (Nat.le_refl _)]
            rfl
          have HR2 : Hid (p = writeE m.sep acc) := by
            show _ = _
            rw [HE2.out, HEND.out, if_neg (by simp)]
          have hin : ¬ (i : Int) < (l.length : Int) := by omega
          have HSM : Hid (SmallT acc) := Lib.hid ⟨by have := few_of HQ1.out HHV0.out; have := HAL.out; omega, fun r hr => ⟨by rw [(HRA.out r hr).1]; have := HW40.out; omega, (HRA.out r hr).2⟩⟩
          have HWR := Lib.hid (HWRT.out acc _ wa (slSS_of HOA.out) HSM.out (HA6.out.now HBA.out))
          obtain ⟨c0, c1, c2, c3, c4, c5, c6, c7⟩ := (HM6.out.now HBA.out).c8m
          clear hie hil
          go_wp2_with fail
          (with_reducible refine HWR.out.mono ?_)
          rintro _ w9 ⟨rfl, hb9⟩
          have HB9 := Lib.hid (bthen HBA.out hb9)
          clear hb9
          go_wp2_with fail
          go_ret2
          show RetSE _ _ _ _
          rw [HR2.out]
          exact ⟨rfl, (HB.out.trans (HB6.out.mono HB.out.size)).trans (HB9.out.mono (HB.out.trans (HB6.out.mono HB.out.size)).size)⟩
end Go.Proofs.YtoalecalahkblaaGreatDoor

set_option linter.all false
namespace Go.Proofs.YtoalecalahkblaaGreatDoor
open Go.RowKit
def escC (c : UInt8) : List UInt8 := if c.toNat = 34 ∨ c.toNat = 92 then [92, c] else [c]
def escB (l : List UInt8) : List UInt8 := l.flatMap escC
def quoteL (l : List UInt8) : List UInt8 := 34 :: (escB l ++ [34])
def quoteS (s : ByteArray) : ByteArray := ⟨(quoteL s.data.toList).toArray⟩
theorem escB_snoc {l : List UInt8} {k : Nat} {c : UInt8} (h : l[k]? = some c) : escB (l.take (k + 1)) = escB (l.take k) ++ escC c := by
  unfold escB
  rw [List.take_add_one, h, List.flatMap_append]
  simp
theorem escB_len (l : List UInt8) : (escB l).length ≤ 2 * l.length := by
  unfold escB
  induction l with
  | nil => simp
  | cons a l ih =>
    rw [List.flatMap_cons, List.length_append, List.length_cons]
    have : (escC a).length ≤ 2 := by unfold escC; split <;> simp
    omega
theorem byteOf {s : ByteArray} {k : Nat} (h : k < s.size) : s.data.toList[k]? = some s[k] := by
  rw [List.getElem?_eq_getElem (by simpa using h)]; rfl
set_option maxHeartbeats 400000 in
theorem vp_printable_any (s : ByteArray) (w : World) (hs : s.size ≤ maxLen) : Calls Tryz.prog 193 #[.string s] w fun e w' => e = .returned (.bool (plainS s)) ∧ w = w' := by
  unfold maxLen at hs
  go_enter Tryz.func193, Tryz.ntmps193
  go_wp2_with fail
  go_loop [6] (fun i => ∃ k : Nat, k ≤ s.size ∧ i = .int .i64 k ∧ ∀ j (hj : j < s.size), j < k → plainC (s.data.toList[j]'(by simpa using hj)) = true) (fun i => s.size - (intOf i).toNat)
  case atStart => exact ⟨0, Nat.zero_le _, rfl, fun j _ hj => absurd hj (by omega)⟩
  case round =>
    obtain ⟨k, hk, rfl, hp⟩ := hrel
    have HP := Lib.hid hp
    clear hp
    by_cases hlt : k < s.size
    · have HY := Lib.hid (byte_plain hlt)
      by_cases h1 : (s[k].toNat : Int) < 32
      · have HE := Lib.hid (not_plain hlt (fun h => by have := HY.out.1 h; omega))
        go_wp2_with fail
        go_ret
        exact ⟨ret_bool HE.out.symm, rfl⟩
      by_cases h2 : 126 < (s[k].toNat : Int)
      · have HE := Lib.hid (not_plain hlt (fun h => by have := HY.out.1 h; omega))
        go_wp2_with fail
        go_ret
        exact ⟨ret_bool HE.out.symm, rfl⟩
      have HQ := Lib.hid (HY.out.2 ⟨by omega, by omega⟩)
      go_wp2_with fail
      go_round
      case rel => exact ⟨k + 1, by omega, by go_num, fun j hj hjk => by
        by_cases e : j = k
        · subst e; exact HQ.out
        · exact HP.out j hj (by omega)⟩
      case measure => simp [intOf]; omega
    · have HE := Lib.hid (all_plain (s := s) (fun j hj => HP.out j hj (by omega)))
      go_wp2_with fail
      go_ret
      exact ⟨ret_bool HE.out.symm, rfl⟩
set_option maxHeartbeats 1000000 in
theorem literal_any (s : ByteArray) (w : World) (hs : s.size ≤ 1000000) : Calls Tryz.prog 194 #[.string s] w fun e w' => e = .returned (.string (quoteS s)) ∧ Below w.heap.size w w' := by
  have hb := bone w (.cells #[.pointer none, .slice none 0 0] 75)
  have hB0 := Bld.new (Blk.new w 75 #[.pointer none, .slice none 0 0]) (Nat.le_refl _)
  go_enter Tryz.func194, Tryz.ntmps194
  go_wp2_with fail
  refine (writeByte_any w.heap.size w.heap.size [] 34 _ hB0 (by simp) (by simp)).mono ?_
  rintro e w1 ⟨rfl, hB1, hb1, _⟩
  have hbw1 : Below w.heap.size w w1 := hb.trans hb1
  go_wp2_with fail
  go_loopw [8] (fun i wr => ∃ k : Nat, k ≤ s.size ∧ i = .int .i64 k ∧ Bld wr w.heap.size w.heap.size (34 :: escB (s.data.toList.take k)) ∧ Below w.heap.size w wr) (fun i _ => s.size - (intOf i).toNat)
  case atStart => exact ⟨0, Nat.zero_le _, rfl, hB1, hbw1⟩
  case round =>
    obtain ⟨k, hk, rfl, hBr, hbr⟩ := hrel
    have hsz := hbr.size
    by_cases hlt : k < s.size
    · have HN := Lib.hid (escB_snoc (byteOf hlt))
      have hle : (34 :: escB (s.data.toList.take k)).length + 3 ≤ 140737488355328 := by
        have := escB_len (s.data.toList.take k)
        rw [List.length_take] at this
        simp only [List.length_cons]
        omega
      have HU : Hid (∀ c : UInt8, escC c = if c.toNat = 34 ∨ c.toNat = 92 then [92, c] else [c]) := fun _ => rfl
      generalize hL : 34 :: escB (s.data.toList.take k) = L at *
      have HL := Lib.hid hL
      clear hL
      by_cases hq : (s[k].toNat : Int) = 34 ∨ (s[k].toNat : Int) = 92
      · have HX : Hid (34 :: escB (s.data.toList.take (k + 1)) = L ++ [92] ++ [s[k]]) := by
          show _ = _
          rw [HN.out, HU.out, if_pos (by omega), ← HL.out]; simp
        by_cases hq1 : (s[k].toNat : Int) = 34
        · have h1 : ((s[k].toNat : Int) == 34) = true := beq_iff_eq.2 hq1
          clear hq hq1
          go_wp2_with fail
          refine (writeByte_any w.heap.size w.heap.size L 92 _ hBr (by omega) hsz).mono ?_
          rintro e w2 ⟨rfl, hB2, hb2, _⟩
          have hs2 := hb2.size
          go_wp2_with fail
          refine (writeByte_any w.heap.size w.heap.size (L ++ [92]) s[k] _ hB2 (by simp; omega) (by omega)).mono ?_
          rintro e w3 ⟨rfl, hB3, hb3, _⟩
          go_wp2_with fail
          go_roundw
          case rel => exact ⟨k + 1, by omega, by go_num, by rw [HX.out]; exact hB3, (hbr.trans hb2).trans hb3⟩
          case measure => simp [intOf]; omega
        · have h1 : ((s[k].toNat : Int) == 34) = false := beq_eq_false_iff_ne.2 hq1
          have h2 : ((s[k].toNat : Int) == 92) = true := beq_iff_eq.2 (by omega)
          clear hq hq1
          go_wp2_with fail
          refine (writeByte_any w.heap.size w.heap.size L 92 _ hBr (by omega) hsz).mono ?_
          rintro e w2 ⟨rfl, hB2, hb2, _⟩
          have hs2 := hb2.size
          go_wp2_with fail
          refine (writeByte_any w.heap.size w.heap.size (L ++ [92]) s[k] _ hB2 (by simp; omega) (by omega)).mono ?_
          rintro e w3 ⟨rfl, hB3, hb3, _⟩
          go_wp2_with fail
          go_roundw
          case rel => exact ⟨k + 1, by omega, by go_num, by rw [HX.out]; exact hB3, (hbr.trans hb2).trans hb3⟩
          case measure => simp [intOf]; omega
      · have HX : Hid (34 :: escB (s.data.toList.take (k + 1)) = L ++ [s[k]]) := by
          show _ = _
          rw [HN.out, HU.out, if_neg (by omega), ← HL.out]; simp
        have h1 : ((s[k].toNat : Int) == 34) = false := beq_eq_false_iff_ne.2 (fun h => hq (Or.inl h))
        have h2 : ((s[k].toNat : Int) == 92) = false := beq_eq_false_iff_ne.2 (fun h => hq (Or.inr h))
        clear hq
        go_wp2_with fail
        refine (writeByte_any w.heap.size w.heap.size L s[k] _ hBr (by omega) hsz).mono ?_
        rintro e w3 ⟨rfl, hB3, hb3, _⟩
        go_wp2_with fail
        go_roundw
        case rel => exact ⟨k + 1, by omega, by go_num, by rw [HX.out]; exact hB3, hbr.trans hb3⟩
        case measure => simp [intOf]; omega
    · obtain rfl : k = s.size := by omega
      have HT : Hid (34 :: escB (s.data.toList.take s.size) ++ [34] = quoteL s.data.toList) := by
        show _ = _
        unfold quoteL
        rw [List.take_of_length_le (by simp)]; rfl
      have hle : (34 :: escB (s.data.toList.take s.size)).length + 3 ≤ 140737488355328 := by
        have := escB_len (s.data.toList.take s.size)
        rw [List.length_take] at this
        simp only [List.length_cons]
        omega
      generalize 34 :: escB (s.data.toList.take s.size) = L at *
      go_wp2_with fail
      refine (writeByte_any w.heap.size w.heap.size L 34 _ hBr (by omega) hsz).mono ?_
      rintro e w2 ⟨rfl, hB2, hb2, _⟩
      have hs2 := hb2.size
      go_wp2_with fail
      refine (string_any w.heap.size w.heap.size (L ++ [34]) _ hB2 (by omega)).mono ?_
      rintro e w3 ⟨rfl, hB3, hb3, _⟩
      go_wp2_with fail
      go_ret
      refine ⟨?_, (hbr.trans hb2).trans hb3⟩
      rw [HT.out]; rfl
def quoteE (s : ByteArray) : ByteArray × Int := if 16384 < s.size then (⟨#[]⟩, 5) else if plainS s then (quoteS s, 0) else (⟨#[]⟩, 3)
theorem ret_si {a b : ByteArray} {c d : Int} (h : (a, c) = (b, d)) : Ending.returned (.tuple #[.string a, .int .i64 c]) = .returned (.tuple #[.string b, .int .i64 d]) := by injection h with h1 h2; rw [h1, h2]
set_option maxHeartbeats 400000 in
theorem quote_any (s : ByteArray) (w : World) (hs : s.size ≤ maxLen) : Calls Tryz.prog 157 #[.string s] w fun e w' => e = .returned (.tuple #[.string (quoteE s).1, .int .i64 (quoteE s).2]) ∧ Below w.heap.size w w' := by
  have hs0 := hs
  unfold maxLen at hs
  go_enter Tryz.func157, Tryz.ntmps157
  by_cases h1 : 16384 < s.size
  · have HE : Hid (quoteE s = (⟨#[]⟩, 5)) := if_pos h1
    go_wp2_with fail
    go_ret2
    exact ⟨ret_si (by rw [HE.out]), Below.refl _ _⟩
  have HE : Hid (quoteE s = if plainS s then (quoteS s, 0) else (⟨#[]⟩, 3)) := if_neg h1
  go_wp2_with fail
  refine (vp_printable_any s _ hs0).mono ?_
  rintro e w1 ⟨rfl, rfl⟩
  generalize plainS s = q at *
  cases q
  · go_wp2_with fail
    go_ret2
    exact ⟨ret_si (by rw [HE.out]; rfl), Below.refl _ _⟩
  · go_wp2_with fail
    refine (literal_any s _ (by omega)).mono ?_
    rintro e w2 ⟨rfl, hb2⟩
    go_wp2_with fail
    go_ret2
    exact ⟨ret_si (by rw [HE.out]; rfl), hb2⟩
end Go.Proofs.YtoalecalahkblaaGreatDoor

set_option linter.all false
namespace Go.Proofs.YtoalecalahkblaaGreatDoor
open Go.RowKit
def trueS : ByteArray := ⟨#[116, 114, 117, 101]⟩
def falseS : ByteArray := ⟨#[102, 97, 108, 115, 101]⟩
def textV (v : Val) : ByteArray := if v.kind = 1 then (if v.n = 1 then trueS else falseS) else if v.kind = 2 then itoaS v.n else quoteS v.s
def textE (v : Val) : ByteArray × Int := if validV v then (textV v, 0) else (⟨#[]⟩, 1)
theorem valid3 {v : Val} (h : validV v = true) (h1 : v.kind ≠ 1) (h2 : v.kind ≠ 2) : v.kind = 3 ∧ v.n = 0 ∧ textB v.s = true := by
  unfold validV at h
  rw [if_neg h1, if_neg h2] at h
  split at h
  · rename_i h3
    simp only [Bool.and_eq_true, decide_eq_true_eq] at h
    exact ⟨h3, h⟩
  · cases h
theorem valid1 {v : Val} (h : validV v = true) (h1 : v.kind = 1) : (v.n = 0 ∨ v.n = 1) ∧ noS v.s = true := by
  unfold validV at h
  rw [if_pos h1] at h
  simpa using h
theorem valid2 {v : Val} (h : validV v = true) (h1 : v.kind = 2) : numB v.n = true ∧ noS v.s = true := by
  unfold validV at h
  rw [if_neg (by omega), if_pos h1] at h
  simpa using h
theorem vp_text_size {s : ByteArray} (h : textB s = true) : s.size ≤ 200 ∧ plainS s = true := by
  unfold textB at h
  simp only [Bool.and_eq_true, decide_eq_true_eq] at h
  exact h
theorem quote_of_text {s : ByteArray} (h : textB s = true) : quoteE s = (quoteS s, 0) := by
  obtain ⟨h1, h2⟩ := vp_text_size h
  unfold quoteE
  rw [if_neg (by omega), h2]; rfl
set_option maxHeartbeats 1000000 in
theorem textE_any (v : Val) (w : World) (hf : FitV v) (ha : AmbP w) :
    Calls Tryz.prog 132 #[valV v] w fun e w' => e = .returned (.tuple #[.string (textE v).1, .int .i64 (textE v).2]) ∧ Below w.heap.size w w' := by
  have hb := bone w (.cells #[.int .i64 v.kind, .int .i64 v.n, .string v.s] 121)
  have hB := Blk.new w 121 #[.int .i64 v.kind, .int .i64 v.n, .string v.s]
  have ha1 := ha.now hb
  unfold valV
  go_enter Tryz.func132, Tryz.ntmps132
  go_wp2_with fail
  refine (validV_any v _ hf).mono ?_
  rintro e w2 ⟨rfl, hb2⟩
  have hB2 := hB.now hb2
  have hbw2 := bthen hb hb2
  have ha2 := ha1.now hb2
  obtain ⟨y0, y1, y2⟩ := hB2.c3
  generalize hq : validV v = q
  have HQ := Lib.hid hq
  clear hq
  cases q
  · have HE : Hid (textE v = (⟨#[]⟩, 1)) := by show _ = _; unfold textE; rw [HQ.out]; rfl
    go_wp2_with fail
    go_ret2
    exact ⟨ret_si (by rw [HE.out]), hbw2⟩
  have HE : Hid (textE v = (textV v, 0)) := by show _ = _; unfold textE; rw [HQ.out]; rfl
  obtain ⟨k, n, s⟩ := v
  obtain ⟨g1, g2, g3⟩ := hf
  unfold Fit at g1 g2
  dsimp only at *
  by_cases k1 : k = 1
  · subst k1
    rcases (valid1 HQ.out rfl).1 with hn | hn
    · dsimp only at hn
      subst hn
      have HT : Hid (textV ⟨1, 0, s⟩ = falseS) := rfl
      go_wp2_with fail
      refine (Tryz.strconv_FormatBool _ _).mono ?_
      rintro e w3 ⟨rfl, rfl⟩
      go_wp2_with fail
      go_ret2
      exact ⟨ret_si (by rw [HE.out, HT.out]; rfl), hbw2⟩
    · dsimp only at hn
      subst hn
      have HT : Hid (textV ⟨1, 1, s⟩ = trueS) := rfl
      go_wp2_with fail
      refine (Tryz.strconv_FormatBool _ _).mono ?_
      rintro e w3 ⟨rfl, rfl⟩
      go_wp2_with fail
      go_ret2
      exact ⟨ret_si (by rw [HE.out, HT.out]; rfl), hbw2⟩
  by_cases k2 : k = 2
  · subst k2
    have HT : Hid (textV ⟨2, n, s⟩ = itoaS n) := rfl
    go_wp2_with fail
    refine (Tryz.strconv_Itoa n g2.1 g2.2 _ ha2.tab).mono ?_
    rintro e w3 ⟨rfl, kk, os, rfl⟩
    go_wp2_with fail
    go_ret2
    exact ⟨ret_si (by rw [HE.out, HT.out]; rfl), bthen hbw2 (bgrow w2 kk os)⟩
  · obtain ⟨k3, n0, ht⟩ := valid3 HQ.out k1 k2
    dsimp only at k3 n0 ht
    subst k3 n0
    have HT : Hid (textV ⟨3, 0, s⟩ = quoteS s) := rfl
    have HU := Lib.hid (quote_of_text ht)
    clear k1 k2
    go_wp2_with fail
    refine (quote_any s _ g3).mono ?_
    rintro e w3 ⟨rfl, hb3⟩
    rw [HU.out]
    go_wp2_with fail
    go_ret2
    exact ⟨ret_si (by rw [HE.out, HT.out]), bthen hbw2 hb3⟩
end Go.Proofs.YtoalecalahkblaaGreatDoor

namespace Go.Proofs.YtoalecalahkblaaGreatDoor
open Go.Lib
theorem digitVal_of {d : Nat} (h : d < 10) : digitVal (UInt8.ofNat (48 + d)) = some d := by
  unfold digitVal
  have e : (UInt8.ofNat (48 + d)).toNat = 48 + d := by
    rw [UInt8.toNat_ofNat']
    exact Nat.mod_eq_of_lt (by omega)
  rw [e, if_pos (by omega)]
  congr 1
  omega
theorem decFrom_append (l m : List UInt8) : ∀ acc, decFrom acc (l ++ m) = (decFrom acc l).bind fun n => decFrom n m := by
  induction l with
  | nil => intro acc; rfl
  | cons b r ih =>
    intro acc
    rw [List.cons_append]
    cases h : digitVal b with
    | none => simp [decFrom, h]
    | some d =>
      have e1 : decFrom acc (b :: (r ++ m)) = decFrom (acc * 10 + d) (r ++ m) := by simp only [decFrom, h]
      have e2 : decFrom acc (b :: r) = decFrom (acc * 10 + d) r := by simp only [decFrom, h]
      rw [e1, e2]
      exact ih _
theorem decFrom_digits (u : Nat) : decFrom 0 (decDigits u) = some u := by
  induction u using Nat.strongRecOn with
  | _ u ih =>
    rw [decDigits]
    by_cases h : u < 10
    · rw [dif_pos h]
      unfold decFrom
      rw [digitVal_of h]
      simp [decFrom]
    · rw [dif_neg h, decFrom_append, ih (u / 10) (by omega)]
      show decFrom (u / 10) [UInt8.ofNat (48 + u % 10)] = some u
      unfold decFrom
      rw [digitVal_of (by omega)]
      show some (u / 10 * 10 + u % 10) = some u
      congr 1
      omega
theorem decDigits_ne (u : Nat) : decDigits u ≠ [] := by
  intro h
  have := decDigits_length u
  rw [h] at this
  have := nDigits_pos u
  simp at *
  omega
theorem decNat_digits (u : Nat) : decNat (decDigits u) = some u := by
  unfold decNat
  have : (decDigits u).isEmpty = false := by
    cases h : decDigits u with
    | nil => exact absurd h (decDigits_ne u)
    | cons a l => rfl
  rw [this]
  exact decFrom_digits u
theorem decDigits_digit (u : Nat) : ∀ b ∈ decDigits u, 48 ≤ b.toNat ∧ b.toNat ≤ 57 := by
  intro b hb
  have h := decFrom_digits u
  have key : ∀ (l : List UInt8) (acc n : Nat), decFrom acc l = some n → ∀ b ∈ l, 48 ≤ b.toNat ∧ b.toNat ≤ 57 := by
    intro l
    induction l with
    | nil => intro acc n _ b hb; simp at hb
    | cons c r ih =>
      intro acc n h b hb
      unfold decFrom at h
      cases hd : digitVal c with
      | none => rw [hd] at h; cases h
      | some d =>
        rw [hd] at h
        rcases List.mem_cons.1 hb with rfl | hb
        · unfold digitVal at hd
          split at hd
          · assumption
          · cases hd
        · exact ih _ _ h b hb
  exact key _ _ _ h b hb
theorem decDigits_head (u : Nat) : ∃ c r, decDigits u = c :: r ∧ 48 ≤ c.toNat ∧ c.toNat ≤ 57 := by
  cases h : decDigits u with
  | nil => exact absurd h (decDigits_ne u)
  | cons c r => exact ⟨c, r, rfl, decDigits_digit u c (by rw [h]; simp)⟩
theorem atoi_digits (u : Nat) : atoi (decDigits u) = some (u : Int) := by
  obtain ⟨c, r, h, h1, h2⟩ := decDigits_head u
  have hd := decNat_digits u
  rw [h] at hd ⊢
  unfold atoi
  have e1 : (c == 45) = false := by rw [beq_eq_false_iff_ne]; rintro rfl; simp at h1
  have e2 : (c == 43) = false := by rw [beq_eq_false_iff_ne]; rintro rfl; simp at h1
  show (if (c == 45) = true then _ else if (c == 43) = true then _ else Option.map _ (decNat (c :: r))) = _
  rw [e1, e2, hd]
  rfl
theorem atoi_itoa (n : Int) : atoi (itoa n) = some n := by
  rcases Int.lt_or_le n 0 with h | h
  · obtain ⟨u, rfl⟩ : ∃ u : Nat, n = -(u : Int) := ⟨n.natAbs, by omega⟩
    rw [itoa_neg u (by omega)]
    unfold atoi
    have e1 : ((45 : UInt8) == 45) = true := rfl
    show (if ((45 : UInt8) == 45) = true then Option.map _ (decNat (Lib.decDigits u)) else _) = _
    rw [e1, if_pos rfl, decNat_digits]
    rfl
  · obtain ⟨u, rfl⟩ := Int.eq_ofNat_of_zero_le h
    rw [itoa_nonneg]
    exact atoi_digits u
theorem nDigits_le {u k : Nat} (hk : 1 ≤ k) (h : u < 10 ^ k) : nDigits u ≤ k := by
  rcases Nat.lt_or_ge k (nDigits u) with h1 | h1
  · exfalso
    have key : ∀ v, 2 ≤ nDigits v → 10 ^ (nDigits v - 1) ≤ v := by
      intro v
      induction v using Nat.strongRecOn with
      | _ v ih =>
        intro h2
        by_cases h10 : v < 10
        · rw [nDigits_small h10] at h2; omega
        · rw [nDigits_big h10]
          by_cases h3 : v / 10 < 10
          · rw [nDigits_small h3]; simp; omega
          · have := ih (v / 10) (by omega) (by rw [nDigits_big h3]; have := nDigits_pos (v / 10 / 10); omega)
            have e : nDigits (v / 10) + 1 - 1 = (nDigits (v / 10) - 1) + 1 := by have := nDigits_pos (v / 10); omega
            rw [e, Nat.pow_succ]
            omega
    have h2 := key u (by omega)
    have h3 : 10 ^ k ≤ 10 ^ (nDigits u - 1) := Nat.pow_le_pow_right (by omega) (by omega)
    omega
  · exact h1
theorem atoiAll_itoa {n : Int} (h1 : -100000000000000000 < n) (h2 : n < 100000000000000000) : atoiAll (itoa n) = .ok n := by
  have hl : (itoa n).length ≤ 18 := by
    rcases Int.lt_or_le n 0 with h | h
    · obtain ⟨u, rfl⟩ : ∃ u : Nat, n = -(u : Int) := ⟨n.natAbs, by omega⟩
      rw [itoa_neg u (by omega), List.length_cons, decDigits_length]
      have := nDigits_le (u := u) (k := 17) (by omega) (by omega)
      omega
    · obtain ⟨u, rfl⟩ := Int.eq_ofNat_of_zero_le h
      rw [itoa_nonneg, decDigits_length]
      have := nDigits_le (u := u) (k := 17) (by omega) (by omega)
      omega
  rw [atoiAll_short _ hl, atoi_itoa]
  rfl
end Go.Proofs.YtoalecalahkblaaGreatDoor

set_option linter.all false
namespace Go.Proofs.YtoalecalahkblaaGreatDoor
open Go.RowKit
def readB : List UInt8 → List UInt8 → Int × List UInt8 × List UInt8
  | _, [] => (4, [], [])
  | acc, c :: r =>
    if c.toNat = 34 then (0, acc, r)
    else if c.toNat = 92 then
      match r with
      | [] => (4, [], [])
      | d :: r' => if d.toNat = 34 ∨ d.toNat = 92 then readB (acc ++ [d]) r' else (3, [], [])
    else readB (acc ++ [c]) r
theorem read_nil (acc : List UInt8) : readB acc [] = (4, [], []) := rfl
theorem read_end {acc r : List UInt8} {c : UInt8} (h : c.toNat = 34) : readB acc (c :: r) = (0, acc, r) := by rw [readB.eq_def]; exact if_pos h
theorem read_bs {acc : List UInt8} {c : UInt8} (h1 : c.toNat ≠ 34) (h2 : c.toNat = 92) : readB acc [c] = (4, [], []) := by rw [readB, if_neg h1, if_pos h2]
theorem read_esc {acc r : List UInt8} {c d : UInt8} (h1 : c.toNat ≠ 34) (h2 : c.toNat = 92) (h3 : d.toNat = 34 ∨ d.toNat = 92) : readB acc (c :: d :: r) = readB (acc ++ [d]) r := by rw [readB, if_neg h1, if_pos h2, if_pos h3]
theorem read_bad {acc r : List UInt8} {c d : UInt8} (h1 : c.toNat ≠ 34) (h2 : c.toNat = 92) (h3 : ¬ (d.toNat = 34 ∨ d.toNat = 92)) : readB acc (c :: d :: r) = (3, [], []) := by rw [readB, if_neg h1, if_pos h2, if_neg h3]
theorem read_one {acc r : List UInt8} {c : UInt8} (h1 : c.toNat ≠ 34) (h2 : c.toNat ≠ 92) : readB acc (c :: r) = readB (acc ++ [c]) r := by rw [readB.eq_def]; exact (if_neg h1).trans (if_neg h2)
theorem escC_esc {c : UInt8} (h : c.toNat = 34 ∨ c.toNat = 92) : escC c = [92, c] := if_pos h
theorem escC_one {c : UInt8} (h : ¬ (c.toNat = 34 ∨ c.toNat = 92)) : escC c = [c] := if_neg h
theorem read_quote (t rest : List UInt8) : ∀ acc, readB acc (escB t ++ 34 :: rest) = (0, acc ++ t, rest) := by
  induction t with
  | nil => intro acc; rw [show escB [] ++ 34 :: rest = 34 :: rest from rfl, read_end rfl, List.append_nil]
  | cons c t ih =>
    intro acc
    have e : escB (c :: t) = escC c ++ escB t := by unfold escB; rw [List.flatMap_cons]
    rw [e, List.append_assoc]
    by_cases h : c.toNat = 34 ∨ c.toNat = 92
    · rw [escC_esc h, List.cons_append, List.cons_append, List.nil_append, read_esc (by decide) rfl h, ih, List.append_assoc]; rfl
    · rw [escC_one h, List.cons_append, List.nil_append, read_one (fun e => h (.inl e)) (fun e => h (.inr e)), ih, List.append_assoc]; rfl
theorem toNat_34 {c : UInt8} (h : c.toNat = 34) : c = 34 := UInt8.toNat_inj.1 h
theorem toNat_92 {c : UInt8} (h : c.toNat = 92) : c = 92 := UInt8.toNat_inj.1 h
theorem read_ok : ∀ (n : Nat) (l acc t rest : List UInt8), l.length ≤ n → readB acc l = (0, t, rest) → ∃ m, t = acc ++ m ∧ l = escB m ++ 34 :: rest := by
  intro n
  induction n with
  | zero =>
    intro l acc t rest hl h
    have : l = [] := List.eq_nil_of_length_eq_zero (by omega)
    subst this
    rw [read_nil] at h
    injection h with h _; cases h
  | succ n ih =>
    intro l acc t rest hl h
    match l, hl, h with
    | [], _, h => rw [read_nil] at h; injection h with h _; cases h
    | c :: r, hl, h =>
      by_cases h1 : c.toNat = 34
      · rw [read_end h1] at h
        injection h with _ h; injection h with h h'
        subst h h'
        exact ⟨[], by simp, by rw [toNat_34 h1]; rfl⟩
      by_cases h2 : c.toNat = 92
      · match r, hl, h with
        | [], _, h => rw [read_bs h1 h2] at h; injection h with h _; cases h
        | d :: r', hl, h =>
          by_cases h3 : d.toNat = 34 ∨ d.toNat = 92
          · rw [read_esc h1 h2 h3] at h
            obtain ⟨m, hm, hr⟩ := ih r' _ _ _ (by simp at hl; omega) h
            refine ⟨d :: m, by rw [hm, List.append_assoc]; rfl, ?_⟩
            have e : escB (d :: m) = escC d ++ escB m := by unfold escB; rw [List.flatMap_cons]
            rw [e, escC_esc h3, hr, toNat_92 h2]
            simp
          · rw [read_bad h1 h2 h3] at h; injection h with h _; cases h
      · rw [read_one h1 h2] at h
        obtain ⟨m, hm, hr⟩ := ih r _ _ _ (by simp at hl; omega) h
        refine ⟨c :: m, by rw [hm, List.append_assoc]; rfl, ?_⟩
        have e : escB (c :: m) = escC c ++ escB m := by unfold escB; rw [List.flatMap_cons]
        rw [e, escC_one (fun h => h.elim h1 h2), hr]
        simp
theorem read_len : ∀ (n : Nat) (l acc : List UInt8), l.length ≤ n → (readB acc l).2.1.length ≤ acc.length + l.length := by
  intro n
  induction n with
  | zero =>
    intro l acc hl
    have : l = [] := List.eq_nil_of_length_eq_zero (by omega)
    subst this
    rw [read_nil]; simp
  | succ n ih =>
    intro l acc hl
    match l, hl with
    | [], _ => rw [read_nil]; simp
    | c :: r, hl =>
      by_cases h1 : c.toNat = 34
      · rw [read_end h1]; simp
      by_cases h2 : c.toNat = 92
      · match r, hl with
        | [], _ => rw [read_bs h1 h2]; simp
        | d :: r', hl =>
          by_cases h3 : d.toNat = 34 ∨ d.toNat = 92
          · rw [read_esc h1 h2 h3]
            have := ih r' (acc ++ [d]) (by simp at hl; omega)
            simp at *; omega
          · rw [read_bad h1 h2 h3]; simp
      · rw [read_one h1 h2]
        have := ih r (acc ++ [c]) (by simp at hl; omega)
        simp at *; omega
def endE : Int × List UInt8 × List UInt8 → ByteArray × Int
  | (0, t, []) => if 16384 < t.length then (⟨#[]⟩, 5) else (⟨t.toArray⟩, 0)
  | (0, _, _ :: _) => (⟨#[]⟩, 3)
  | (e, _, _) => (⟨#[]⟩, e)
def headB (l : List UInt8) : Bool := match l with
  | [] => false
  | c :: _ => decide (c.toNat = 34)
def unquoteE (s : ByteArray) : ByteArray × Int :=
  if 32770 < s.size then (⟨#[]⟩, 5)
  else if headB s.data.toList && plainS s then endE (readB [] (s.data.toList.drop 1)) else (⟨#[]⟩, 3)
theorem unquote_full {s : ByteArray} (h : 32770 < s.size) : unquoteE s = (⟨#[]⟩, 5) := if_pos h
theorem unquote_form {s : ByteArray} (h : ¬ 32770 < s.size) (h' : (headB s.data.toList && plainS s) = false) : unquoteE s = (⟨#[]⟩, 3) := by unfold unquoteE; rw [if_neg h, h']; rfl
theorem unquote_read {s : ByteArray} (h : ¬ 32770 < s.size) (h' : (headB s.data.toList && plainS s) = true) : unquoteE s = endE (readB [] (s.data.toList.drop 1)) := by unfold unquoteE; rw [if_neg h, h']; rfl
theorem unquote_ok {s t : ByteArray} (h : unquoteE s = (t, 0)) : quoteS t = s := by
  unfold unquoteE at h
  split at h
  · injection h with _ h; cases h
  split at h
  · rename_i _ hh
    simp only [Bool.and_eq_true] at hh
    generalize hr : readB [] (s.data.toList.drop 1) = r at h
    obtain ⟨e, u, rest⟩ := r
    by_cases he : e = 0
    · subst he
      cases rest with
      | nil =>
        unfold endE at h
        simp only at h
        split at h
        · injection h with _ h; cases h
        · injection h with h _
          obtain ⟨m, hm, hl⟩ := read_ok _ _ _ _ _ (Nat.le_refl _) hr
          rw [List.nil_append] at hm
          subst hm
          subst h
          unfold quoteS quoteL
          simp only
          rw [← hl]
          obtain ⟨d⟩ := s
          congr 1
          apply Array.toList_inj.1
          obtain ⟨hd, _⟩ := hh
          simp only at hd ⊢
          cases hdl : d.toList with
          | nil => rw [hdl] at hd; cases hd
          | cons c l =>
            rw [hdl] at hd
            have : c.toNat = 34 := of_decide_eq_true hd
            rw [toNat_34 this]
            simp
      | cons a b => unfold endE at h; simp only at h; injection h with _ h; cases h
    · exfalso
      have : endE (e, u, rest) = (⟨#[]⟩, e) := by
        unfold endE
        split
        · rename_i h1; injection h1 with h1 _; exact absurd h1 he
        · rename_i h1; injection h1 with h1 _; exact absurd h1 he
        · rename_i h1; injection h1 with h1 _; rw [h1]
      rw [this] at h
      injection h with _ h
      exact he h
  · injection h with _ h; cases h
theorem size_list (t : ByteArray) : t.data.toList.length = t.size := Array.length_toList
theorem quote_size (t : ByteArray) : (quoteS t).size ≤ 2 * t.size + 2 := by
  have := escB_len t.data.toList
  unfold quoteS quoteL
  simp only [ByteArray.size, List.size_toArray, List.length_cons, List.length_append, List.length_nil]
  have e : t.data.toList.length = t.data.size := by simp
  omega
theorem plain_of_list {s : ByteArray} : plainS s = s.data.toList.all plainC := by
  unfold plainS; rfl
theorem plain_escB {l : List UInt8} (h : l.all plainC = true) : (escB l).all plainC = true := by
  rw [List.all_eq_true] at h ⊢
  intro x hx
  unfold escB at hx
  obtain ⟨c, hc, hx⟩ := List.mem_flatMap.1 hx
  unfold escC at hx
  split at hx
  · rcases List.mem_cons.1 hx with rfl | hx
    · decide
    · rcases List.mem_cons.1 hx with rfl | hx
      · exact h _ hc
      · simp at hx
  · rcases List.mem_cons.1 hx with rfl | hx
    · exact h _ hc
    · simp at hx
theorem plain_quote {t : ByteArray} (h : plainS t = true) : plainS (quoteS t) = true := by
  rw [plain_of_list] at h ⊢
  unfold quoteS quoteL
  simp only [List.all_cons, List.all_append, List.all_nil, Bool.and_true]
  rw [plain_escB h]
  decide
theorem unquote_quote {t : ByteArray} (h : plainS t = true) (hs : t.size ≤ 200) : unquoteE (quoteS t) = (t, 0) := by
  have h1 := quote_size t
  rw [unquote_read (by omega) (by rw [plain_quote h]; rfl)]
  have e : (quoteS t).data.toList.drop 1 = escB t.data.toList ++ 34 :: [] := rfl
  rw [e, read_quote]
  unfold endE
  simp only [List.nil_append]
  have e2 : ¬ 16384 < t.data.toList.length := by rw [size_list]; omega
  rw [if_neg e2]
def numOf (s : ByteArray) : Option Int := (okOf (Lib.atoiAll s.data.toList)).bind fun n => if numB n && decide (itoaS n = s) then some n else none
theorem num_some {s : ByteArray} {n : Int} : numOf s = some n ↔ numB n = true ∧ itoaS n = s := by
  unfold numOf
  constructor
  · intro h
    obtain ⟨m, hm, h⟩ := Option.bind_eq_some_iff.1 h
    split at h
    · rename_i hh
      injection h with h
      subst h
      simpa using hh
    · cases h
  · rintro ⟨h1, rfl⟩
    have hb : -4503599627370496 ≤ n ∧ n ≤ 4503599627370496 := by unfold numB at h1; simpa using h1
    have e : Lib.atoiAll (itoaS n).data.toList = .ok n := atoiAll_itoa (by omega) (by omega)
    rw [e]
    show (if (numB n && decide (itoaS n = itoaS n)) = true then some n else none) = some n
    rw [h1]
    simp
def txtOf (s : ByteArray) : Option ByteArray := if (unquoteE s).2 = 0 ∧ textB (unquoteE s).1 = true then some (unquoteE s).1 else none
theorem txt_some {s t : ByteArray} : txtOf s = some t ↔ unquoteE s = (t, 0) ∧ textB t = true := by
  unfold txtOf
  constructor
  · intro h
    split at h
    · rename_i hh
      injection h with h
      subst h
      exact ⟨by rw [← hh.1], hh.2⟩
    · cases h
  · rintro ⟨h1, h2⟩
    rw [h1, if_pos ⟨rfl, h2⟩]
def parseE (s : ByteArray) : Val × Int :=
  if s = trueS then (⟨1, 1, ⟨#[]⟩⟩, 0) else if s = falseS then (⟨1, 0, ⟨#[]⟩⟩, 0) else
  match numOf s with
  | some n => (⟨2, n, ⟨#[]⟩⟩, 0)
  | none => match txtOf s with
    | some t => (⟨3, 0, t⟩, 0)
    | none => (⟨0, 0, ⟨#[]⟩⟩, 3)
theorem parse_true {s : ByteArray} (h : s = trueS) : parseE s = (⟨1, 1, ⟨#[]⟩⟩, 0) := if_pos h
theorem parse_false {s : ByteArray} (h : s = falseS) : parseE s = (⟨1, 0, ⟨#[]⟩⟩, 0) := by subst h; rfl
theorem parse_num {s : ByteArray} {n : Int} (h1 : s ≠ trueS) (h2 : s ≠ falseS) (h : numOf s = some n) : parseE s = (⟨2, n, ⟨#[]⟩⟩, 0) := by unfold parseE; rw [if_neg h1, if_neg h2, h]
theorem parse_txt {s t : ByteArray} (h1 : s ≠ trueS) (h2 : s ≠ falseS) (h : numOf s = none) (h' : txtOf s = some t) : parseE s = (⟨3, 0, t⟩, 0) := by unfold parseE; rw [if_neg h1, if_neg h2, h, h']
theorem parse_none {s : ByteArray} (h1 : s ≠ trueS) (h2 : s ≠ falseS) (h : numOf s = none) (h' : txtOf s = none) : parseE s = (⟨0, 0, ⟨#[]⟩⟩, 3) := by unfold parseE; rw [if_neg h1, if_neg h2, h, h']
theorem itoa_head (n : Int) : ∃ c r, (itoaS n).data.toList = c :: r ∧ c.toNat ≠ 34 := by
  unfold itoaS
  show ∃ c r, Lib.itoa n = c :: r ∧ _
  unfold Lib.itoa
  split
  · exact ⟨45, _, rfl, by decide⟩
  · obtain ⟨c, r, h, h1, h2⟩ := decDigits_head n.toNat
    exact ⟨c, r, h, by omega⟩
theorem num_quoted {s : ByteArray} (h : headB s.data.toList = true) : numOf s = none := by
  cases hn : numOf s with
  | none => rfl
  | some n =>
    obtain ⟨_, h2⟩ := num_some.1 hn
    obtain ⟨c, r, h3, h4⟩ := itoa_head n
    rw [h2] at h3
    rw [h3] at h
    exact absurd (of_decide_eq_true h) h4
theorem txt_bare {s : ByteArray} (h : headB s.data.toList = false) : txtOf s = none := by
  cases hn : txtOf s with
  | none => rfl
  | some t =>
    obtain ⟨h1, _⟩ := txt_some.1 hn
    unfold unquoteE at h1
    rw [h] at h1
    split at h1
    · injection h1 with _ h1; cases h1
    · simp at h1
end Go.Proofs.YtoalecalahkblaaGreatDoor
