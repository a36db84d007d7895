/- Texts of this seat, merged. -/
import Derived.Lib.ItoaNum
import Derived.Lib.ItoaMem
import Derived.Lib.AtoiTie
import Derived.Test.YtoalecalahkblaaGreatDoorProg
import Derived.Laws.Runes
import Derived.Laws.Concat
import Derived.Test.YtoalecalahkblaaGreatDoorIx01
import Derived.Test.YtoalecalahkblaaGreatDoorIx02
import Derived.Test.YtoalecalahkblaaGreatDoorIx03
import Derived.Test.YtoalecalahkblaaGreatDoorIx04
import Derived.Test.YtoalecalahkblaaGreatDoorIx05
import Derived.Test.YtoalecalahkblaaGreatDoorIx06
import Derived.Test.YtoalecalahkblaaGreatDoorIx07
import Derived.Test.YtoalecalahkblaaGreatDoorIx08
import Derived.Test.YtoalecalahkblaaGreatDoorIx09
import Derived.Test.YtoalecalahkblaaGreatDoorIx10
set_option linter.all false
set_option linter.all false
namespace Go.Proofs.YtoalecalahkblaaGreatDoor
open Go.RowKit
theorem enters_fields : ∀ args w, (callFunc 75 args).run Tryz.prog w = .ok (.enter 75 args) w := enters_of Tryz.func75 (by kernel_rfl) rfl
theorem enters_max : ∀ args w, (callFunc 87 args).run Tryz.prog w = .ok (.enter 87 args) w := enters_of Tryz.func87 (by kernel_rfl) rfl
def expF6 (U DV : Value) (B P wd : Nat) (mx : Int) (m : Mp) : Nat → Value → World → Prop
  | 0, u, _ => u = U
  | 1, u, W => OwnZ W B u (fieldsB m)
  | 2, u, _ => u = .pointer (some ⟨P, 5, none⟩)
  | 3, u, _ => u = DV
  | 4, u, W => OwnZ W B u (colsX m)
  | 5, u, _ => u = .int .i64 mx
  | 6, u, _ => u = .int .i64 (wd : Int)
  | 7, u, _ => u = .int .i64 (wd : Int)
  | _, _, _ => True
def expD6 (j k : Nat) : Bool := j == 1 && k == 4
theorem expKeep {U DV : Value} {B P wd : Nat} {mx : Int} {m : Mp} {W W' : World} (hb : Below W.heap.size W W') : ∀ j u, expF6 U DV B P wd mx m j u W → expF6 U DV B P wd mx m j u W' := by
  intro j u h
  match j, h with
  | 0, h => exact h
  | 1, h => exact own_now h hb
  | 2, h => exact h
  | 3, h => exact h
  | 4, h => exact own_now h hb
  | 5, h => exact h
  | 6, h => exact h
  | 7, h => exact h
  | n + 8, h => exact trivial
theorem slSS_of {base t : Nat} {w : World} {v : Value} {rows : List (List Bt)} {X : Nat → Prop} (h : OwnR 1 RStrs X w base t v rows) : SlSS (Lt w.heap.size) w v rows := h.sl RStrs.kept
theorem ownR_one {w : World} {hv : Value} {r : List Bt} (t : TypeId) (h : SlP (Lt w.heap.size) w hv r) : OwnR 1 RStrs (fun _ => False) (w.alloc (.cells #[hv] t)) w.heap.size t (.slice (some ⟨w.heap.size, 0, none⟩) 1 1) [r] := by
  refine ⟨[hv], World.ownsRow_lit (base := w.heap.size) (e := t) (size := 1) w #[hv] 1 (Nat.le_refl _) (by decide) rfl, fun i x hx => ?_⟩
  match i, hx with
  | 0, hx =>
    injection hx with hx
    subst hx
    refine ⟨[hv], rfl, fun j u hu => by simpa using hu, hv, rfl, ?_⟩
    have hb := bone w (.cells #[hv] t)
    refine SlP.keep h (fun b hb' => ⟨Nat.lt_of_lt_of_le hb' hb.size, fun e => ?_, fun e => e⟩) (Same.of_below hb)
    injection e with e
    have e' : w.heap.size = b := e
    have hb2 : b < w.heap.size := hb'
    omega
  | i + 1, hx => simp at hx
def expF8 (w : World) (g c a t wd : Nat) : Nat → Value → World → Prop
  | 0, u, _ => u = .slice (some ⟨g, 0, none⟩) wd wd
  | 1, u, _ => u = .pointer (some ⟨w.heap.size + 1, 0, none⟩)
  | 2, u, _ => u = .int .i64 (c : Int)
  | 3, u, _ => u = .slice (some ⟨g, 0, none⟩) wd wd
  | 4, u, _ => u = .pointer (some ⟨w.heap.size + 1, 1, none⟩)
  | 5, u, _ => u = .int .i64 (a : Int)
  | 6, u, _ => u = .slice (some ⟨g, 0, none⟩) wd wd
  | 7, u, _ => u = .pointer (some ⟨w.heap.size + 1, 4, none⟩)
  | 8, u, _ => u = .int .i64 (t : Int)
  | 9, u, _ => u = .pointer (some ⟨g, c, none⟩)
  | 10, _, W => W.cell? ⟨g, c, none⟩ = some (.string (bsOf xwCase))
  | 11, u, _ => u = .pointer (some ⟨g, a, none⟩)
  | 12, _, W => W.cell? ⟨g, a, none⟩ = some (.string (bsOf xwAct))
  | 13, u, _ => u = .pointer (some ⟨g, t, none⟩)
  | 14, _, W => W.cell? ⟨g, t, none⟩ = some (.string (bsOf xwTime))
  | _, _, _ => True
set_option maxHeartbeats 8000000 in
set_option maxRecDepth 100000 in
theorem export_any (u um : Value) (l : List Ev) (m : Mp) (w : World) (h : IsLog (Lt w.heap.size) w u l) (hm : IsMp (Lt w.heap.size) w um m) (hh : heavyB l = false) (hg : greatB m = false) (ha : AmbP w) :
    Calls Tryz.prog 34 #[u, um] w (RetSE (exportE vtN l m) w) := by
  have hdl : m.data.length ≤ 1000000 := by
    unfold greatB at hg
    rw [Bool.or_eq_false_iff] at hg
    have := of_decide_eq_false hg.1
    omega
  have HLOG := Lib.hid h
  have HMP := Lib.hid hm
  have HLV := Lib.hid (fun W hW => logValid_any l u W hW)
  have HMV := Lib.hid (fun W hW => valid_any um m W hW hdl)
  have HCO := Lib.hid (fun W hW h1 h2 => columns_any u l W hW h1 h2)
  have HFL := Lib.hid (fun W hW => fields_own um m W hW)
  have HRW := Lib.hid (fun names e ue un W h1 h2 h3 h4 h5 h6 h7 h8 => row_any names m e ue un um W h1 h2 h3 h4 h5 h6 h7 h8)
  have HHV0 := Lib.hid hh
  have HAM := Lib.hid ha
  have HWRT := Lib.hid (fun rows v W h1 h2 h3 => write_any rows v m.sep W h1 h2 h3)
  have hfm := hm
  obtain ⟨ev, rfl, hs⟩ := h
  obtain ⟨A, cl, rfl, _, _, hs⟩ := hs.open_
  obtain ⟨mv, kv, rfl, _, hmd, hmk⟩ := hm
  obtain ⟨Am, cm, rfl, _, _, hmd⟩ := hmd.open_
  obtain ⟨Ak, ck, rfl, _, _, hmk⟩ := hmk.open_
  have HS := Lib.hid hs
  have HMD := Lib.hid hmd
  unfold mpV at HMP HMV HFL HRW ⊢
  obtain ⟨z, hz⟩ : ∃ z, (m.sep.toNat : Int) = z := ⟨_, rfl⟩
  rw [hz] at HMP HMV HFL HRW HWRT ⊢
  obtain ⟨p, hp⟩ : ∃ p, exportE vtN l m = p := ⟨_, rfl⟩
  rw [hp]
  have HE := Lib.hid hp.symm
  obtain ⟨q1, hq1⟩ : ∃ q, logB l = q := ⟨_, rfl⟩
  obtain ⟨q2, hq2⟩ : ∃ q, mapB m = q := ⟨_, rfl⟩
  have HQ1 := Lib.hid hq1
  have HQ2 := Lib.hid hq2
  rw [hq1] at HLV
  rw [hq2] at HMV
  have hb1 := bone w (.cells #[.slice A l.length cl] 38)
  have k1 := Blk.new w 38 #[.slice A l.length cl]
  clear hs hmd hmk hz hp hq1 hq2 hfm hdl hg ha hh
  by_cases hqq : q1 = false ∨ q2 = false
  · have HR1 : Hid (p = ([], 1)) := by
      show _ = _
      rw [HE.out]
      unfold exportE
      rw [if_pos (by rcases hqq with h | h; exact .inl (HQ1.out.trans h); exact .inr (HQ2.out.trans h))]
    go_enter Tryz.func34, Tryz.ntmps34
    go_upto_region 1 with fail
    obtain ⟨w1, hw1⟩ : ∃ w1, w.alloc (.cells #[.slice A l.length cl] 38) = w1 := ⟨_, rfl⟩
    have z1 : w1.heap.size = w.heap.size + 1 := by rw [← hw1]; simp
    rw [hw1] at hb1 k1 ⊢
    clear hw1
    have hb2 := bone w1 (.cells #[.int .i64 m.cas, .int .i64 m.act, .int .i64 m.res, .int .i64 m.life, .int .i64 m.time, .slice Am m.data.length cm, .slice Ak m.kinds.length ck, .int .u8 z] 33)
    have k2 := Blk.new w1 33 #[.int .i64 m.cas, .int .i64 m.act, .int .i64 m.res, .int .i64 m.life, .int .i64 m.time, .slice Am m.data.length cm, .slice Ak m.kinds.length ck, .int .u8 z]
    have k1 := k1.now hb2
    have HB := Lib.hid (bthen hb1 hb2)
    obtain ⟨w2, hw2⟩ : ∃ w2, w1.alloc (.cells #[.int .i64 m.cas, .int .i64 m.act, .int .i64 m.res, .int .i64 m.life, .int .i64 m.time, .slice Am m.data.length cm, .slice Ak m.kinds.length ck, .int .u8 z] 33) = w2 := ⟨_, rfl⟩
    rw [hw2] at HB k1 k2 ⊢
    rw [z1] at k2
    have HL2 := Lib.hid (HLV.out w2 (HLOG.out.now HB.out))
    have HK2 := Lib.hid k2
    have a0 := k1.c1
    obtain ⟨c0, c1, c2, c3, c4, c5, c6, c7⟩ := k2.c8m
    clear hw2 z1 hb1 hb2 k1 k2
    go_wp2_with fail
    (with_reducible refine HL2.out.mono ?_)
    rintro _ w3 ⟨rfl, hb3⟩
    have HB3 := Lib.hid (bthen HB.out hb3)
    have HM3 := Lib.hid (HMV.out w3 (HMP.out.now (bthen HB.out hb3)))
    obtain ⟨d0, d1, d2, d3, d4, d5, d6, d7⟩ := (HK2.out.now hb3).c8m
    clear hb3 HL2 a0 c0 c1 c2 c3 c4 c5 c6 c7
    cases q1 with
    | false =>
      go_wp2_with fail
      go_ret2
      show RetSE _ _ _ _
      rw [HR1.out]
      exact ⟨rfl, HB3.out⟩
    | true =>
      have hq2 : q2 = false := by rcases hqq with h | h; cases h; exact h
      subst hq2
      go_wp2_with fail
      (with_reducible refine HM3.out.mono ?_)
      rintro _ w4 ⟨rfl, hb4⟩
      have HB4 := Lib.hid (bthen HB3.out hb4)
      clear hb4
      go_wp2_with fail
      go_ret2
      show RetSE _ _ _ _
      rw [HR1.out]
      exact ⟨rfl, HB4.out⟩
  have hl1 : q1 = true := by cases q1; exact absurd (.inl rfl) hqq; rfl
  have hm1 : q2 = true := by cases q2; exact absurd (.inr rfl) hqq; rfl
  subst hl1 hm1
  have HOK := Lib.hid (mpOk HQ2.out)
  have HW40 := Lib.hid (widthX_le HOK.out)
  have HN1 := Lib.hid (namesTo_le1000 HQ1.out HHV0.out)
  have HN2 := Lib.hid (fitN_of HQ1.out)
  have HN3 := Lib.hid (names_le HQ1.out)
  have HNM := Lib.hid (fun e he f hf => names_mem (l := l) (e := e) he (f := f) hf)
  have HE1 : Hid (p = if (colsL l).length ≠ m.data.length then ([], 29) else if (rowsX (rowX vtN (colsL l) m (widthX m)) l [headX (colsL l) m (widthX m)]).2 ≠ 0 then ([], (rowsX (rowX vtN (colsL l) m (widthX m)) l [headX (colsL l) m (widthX m)]).2) else writeE m.sep (rowsX (rowX vtN (colsL l) m (widthX m)) l [headX (colsL l) m (widthX m)]).1) := by
    show _ = _
    rw [HE.out]
    unfold exportE
    rw [if_neg (by rw [HQ1.out, HQ2.out]; simp)]
  obtain ⟨c, hc⟩ : ∃ c : Nat, m.cas = (c : Int) := ⟨m.cas.toNat, by have := HOK.out.cas; omega⟩
  obtain ⟨a, ha⟩ : ∃ a : Nat, m.act = (a : Int) := ⟨m.act.toNat, by have := HOK.out.act; omega⟩
  obtain ⟨t, ht⟩ : ∃ t : Nat, m.time = (t : Int) := ⟨m.time.toNat, by have := HOK.out.time; omega⟩
  have HLc : Hid (c < widthX m) := by have := widthX_col (m := m) (k := m.cas) HOK.out.cas.1 (.inl rfl); show c < _; omega
  have HLa : Hid (a < widthX m) := by have := widthX_col (m := m) (k := m.act) HOK.out.act.1 (.inr (.inl rfl)); show a < _; omega
  have HLt : Hid (t < widthX m) := by have := widthX_col (m := m) (k := m.time) HOK.out.time.1 (.inr (.inr (.inr (.inr (.inl rfl))))); show t < _; omega
  have HCres := Lib.hid (fun (h : 0 ≤ m.res) => widthX_col (m := m) (k := m.res) h (.inr (.inr (.inl rfl))))
  have HClife := Lib.hid (fun (h : 0 ≤ m.life) => widthX_col (m := m) (k := m.life) h (.inr (.inr (.inr (.inl rfl)))))
  have HCD := Lib.hid (fun k (hk : k ∈ m.data) => widthX_col (m := m) (k := k) (HOK.out.data k hk).1 (.inr (.inr (.inr (.inr (.inr hk))))))
  have HD1 : Hid (c ≠ a) := Lib.hid fun h => HOK.out.dist.1 (by rw [hc, ha, h])
  have HD2 : Hid (c ≠ t) := Lib.hid fun h => HOK.out.dist.2.1 (by rw [hc, ht, h])
  have HD3 : Hid (a ≠ t) := Lib.hid fun h => HOK.out.dist.2.2 (by rw [ha, ht, h])
  have HST : Hid (startH m (widthX m) = (((List.replicate (widthX m) []).set c xwCase).set a xwAct).set t xwTime) := by
    show _ = _
    unfold startH setZ
    rw [hc, ha, ht]
    rfl
  have HMX := Lib.hid (widthX_max HOK.out)
  have HHX : Hid _ := headX_eq (colsL l) m (widthX m)
  have HHL : Hid _ := headX_len (names := colsL l) (m := m) (width := widthX m)
  have HHC : Hid _ := headX_le (names := colsL l) (m := m) (width := widthX m) (fun s hs => by have := names_le HQ1.out s hs; omega)
  have HRL := Lib.hid (fun e (h : EvLe e) h0 => rowX_le (names := colsL l) (m := m) (width := widthX m) (e := e) h h0)
  obtain ⟨R0, hR0⟩ : ∃ R0, startH m (widthX m) = R0 := ⟨_, rfl⟩
  obtain ⟨hd, hhd⟩ : ∃ hd, headX (colsL l) m (widthX m) = hd := ⟨_, rfl⟩
  rw [hhd] at HHX HHL HHC HE1
  rw [hc, ha, ht] at HMP HMV HFL HRW ⊢
  obtain ⟨wd, hwd⟩ : ∃ wd, widthX m = wd := ⟨_, rfl⟩
  rw [hwd] at HRW HW40 HLc HLa HLt HCres HClife HCD HST HMX HHX HHL HRL HE1
  have hmk0 := fun w => run_make_n (P := Tryz.prog) 51 9 (.string ⟨#[]⟩) 16 Tryz.underlying51 (by kernel_rfl) wd (by have := HW40.out; omega) (by decide) rfl w
  have HNML := Lib.hid (show (colsL l).length ≤ 1000 by have h1 := compact_len (sortB (namesTo l l.length)); have h2 := sortB_len (namesTo l l.length); have h3 := HN1.out; unfold colsL setB; omega)
  obtain ⟨names, hnames⟩ : ∃ names, colsL l = names := ⟨_, rfl⟩
  rw [hnames] at HCO HN3 HNM HE1 HHX HRL HNML
  clear hc ha ht hwd hR0 R0 hhd hnames hqq HE
  go_enter Tryz.func34, Tryz.ntmps34
  go_upto_region 1 with fail
  obtain ⟨w1, hw1⟩ : ∃ w1, w.alloc (.cells #[.slice A l.length cl] 38) = w1 := ⟨_, rfl⟩
  have z1 : w1.heap.size = w.heap.size + 1 := by rw [← hw1]; simp
  rw [hw1] at hb1 k1 ⊢
  clear hw1
  have hb2 := bone w1 (.cells #[.int .i64 (c : Int), .int .i64 (a : Int), .int .i64 m.res, .int .i64 m.life, .int .i64 (t : Int), .slice Am m.data.length cm, .slice Ak m.kinds.length ck, .int .u8 z] 33)
  have k2 := Blk.new w1 33 #[.int .i64 (c : Int), .int .i64 (a : Int), .int .i64 m.res, .int .i64 m.life, .int .i64 (t : Int), .slice Am m.data.length cm, .slice Ak m.kinds.length ck, .int .u8 z]
  have k1 := k1.now hb2
  have HB := Lib.hid (bthen hb1 hb2)
  obtain ⟨w2, hw2⟩ : ∃ w2, w1.alloc (.cells #[.int .i64 (c : Int), .int .i64 (a : Int), .int .i64 m.res, .int .i64 m.life, .int .i64 (t : Int), .slice Am m.data.length cm, .slice Ak m.kinds.length ck, .int .u8 z] 33) = w2 := ⟨_, rfl⟩
  rw [hw2] at HB k1 k2 ⊢
  rw [z1] at k2
  have HL2 := Lib.hid (HLV.out w2 (HLOG.out.now HB.out))
  have HK1 := Lib.hid k1
  have HK2 := Lib.hid k2
  have a0 := k1.c1
  obtain ⟨c0, c1, c2, c3, c4, c5, c6, c7⟩ := k2.c8m
  clear hw2 z1 hb1 hb2 k1 k2
  go_wp2_with fail
  (with_reducible refine HL2.out.mono ?_)
  rintro _ w3 ⟨rfl, hb3⟩
  have HB3 := Lib.hid hb3
  have HM3 := Lib.hid (HMV.out w3 (HMP.out.now (bthen HB.out hb3)))
  obtain ⟨d0, d1, d2, d3, d4, d5, d6, d7⟩ := (HK2.out.now hb3).c8m
  clear hb3 HL2 a0 c0 c1 c2 c3 c4 c5 c6 c7
  go_wp2_with fail
  (with_reducible refine HM3.out.mono ?_)
  rintro _ w4 ⟨rfl, hb4⟩
  have HB4 := Lib.hid (bthen HB3.out hb4)
  have HCO4 := Lib.hid (HCO.out w4 (HLOG.out.now (bthen HB.out (bthen HB3.out hb4))) HN1.out HN2.out)
  have a0 := (HK1.out.now HB4.out).c1
  clear hb4 HB3 HM3 d0 d1 d2 d3 d4 d5 d6 d7
  go_wp2_with fail
  (with_reducible refine HCO4.out.mono ?_)
  rintro _ w5 ⟨nv, rfl, hnv, hb5⟩
  have hnv : SlP (Lt w5.heap.size) w5 nv names := hnv
  have HB5 := Lib.hid (bthen HB4.out hb5)
  obtain ⟨An, cn, rfl, _, _, hnv⟩ := hnv.open_
  have HNV := Lib.hid hnv
  obtain ⟨c0, c1, c2, c3, c4, c5, c6, c7⟩ := (HK2.out.now HB5.out).c8m
  clear hb5 hnv HB4 HCO4 a0
  by_cases hnl : (names.length : Int) = (m.data.length : Int)
  case neg =>
    have HR2 : Hid (p = ([], 29)) := by show _ = _; rw [HE1.out, if_pos (by omega)]
    go_wp2_with fail
    go_ret2
    show RetSE _ _ _ _
    rw [HR2.out]
    exact ⟨rfl, HB.out.trans (HB5.out.mono HB.out.size)⟩
  have HNL : Hid (names.length = m.data.length) := by show _ = _; omega
  have HE2 : Hid (p = if (rowsX (rowX vtN names m wd) l [hd]).2 ≠ 0 then ([], (rowsX (rowX vtN names m wd) l [hd]).2) else writeE m.sep (rowsX (rowX vtN names m wd) l [hd]).1) := by
    show _ = _
    rw [HE1.out, if_neg (by have := HNL.out; omega)]
  have hnlb : ((names.length : Int) != (m.data.length : Int)) = false := by simp [hnl]
  go_upto_region 6 with fail
  clear hnl hnlb HE1 c0 c1 c2 c3 c4 c5 c6 c7
  have HM5 := Lib.hid (HK2.out.now HB5.out)
  have HMP5 := Lib.hid (HMP.out.now (bthen HB.out HB5.out))
  have HMD5 := Lib.hid (HMD.out.now (bthen HB.out HB5.out))
  have HFO5 := Lib.hid (fun W hb => HFL.out W (HMP5.out.now hb))
  obtain ⟨mx, hmx⟩ : ∃ mx, Lib.maxOf (colsX m) = mx := ⟨_, rfl⟩
  rw [hmx] at HMX
  have HMXE := Lib.hid hmx
  clear hmx
  go_cut [7] from 7 to 38 (fun v W => v = .int .i64 (wd : Int) ∧ Below w5.heap.size w5 W)
  case first =>
    rename_i J1 K1 hJ hK
    have hwr : IntKind.i64.wrap (mx + 1) = (wd : Int) := by rw [HMX.out]; exact i64wrap ⟨by omega, by have := HW40.out; omega⟩
    refine wp_region_rel2 (by kernel_rfl) (by kernel_rfl) (by kernel_rfl) (fun W => Below w5.heap.size w5 W) (expF6 (.agg #[.int .i64 (c : Int), .int .i64 (a : Int), .int .i64 m.res, .int .i64 m.life, .int .i64 (t : Int), .slice Am m.data.length cm, .slice Ak m.kinds.length ck, .int .u8 z]) (.slice Am m.data.length cm) w5.heap.size (w.heap.size + 1) wd mx m) expD6 ?h0 ?hstep ?hend ?hall
    case hall => exact hall_of (by kernel_rfl)
    case h0 => exact (Below.refl _ _).drew
    case hstep =>
      intro i o ho listed ac W hsh hi hk hR hM
      obtain ⟨c0, c1, c2, c3, c4, c5, c6, c7⟩ := (HM5.out.now hR).c8m
      have nd : ∀ j : Nat, (j == 1) = false → ∀ k, expD6 j k = true → ¬ Up listed k := fun j hj k h => by unfold expD6 at h; rw [hj] at h; cases h
      match i, ho with
      | 0, ho =>
        injection ho with ho
        subst ho
        have e0 : ac.eval (.tmp 3) = .pointer (some ⟨w.heap.size + 1, 0, none⟩) := hk.same (s := 3) (by kernel_rfl)
        exact wpM_load _ _ _ (.agg #[.int .i64 (c : Int), .int .i64 (a : Int), .int .i64 m.res, .int .i64 m.life, .int .i64 (t : Int), .slice Am m.data.length cm, .slice Ak m.kinds.length ck, .int .u8 z]) rfl e0 (by simp [go_sem, c0, c1, c2, c3, c4, c5, c6, c7]) ⟨_, rfl, hR, fun u hu => hu (by simp), fun j _ _ _ _ u h => h⟩
      | 1, ho =>
        injection ho with ho
        subst ho
        have e0 : ac.eval (.tmp 32) = .agg #[.int .i64 (c : Int), .int .i64 (a : Int), .int .i64 m.res, .int .i64 m.life, .int .i64 (t : Int), .slice Am m.data.length cm, .slice Ak m.kinds.length ck, .int .u8 z] := hM 0 (by decide) (ready_up hi (by kernel_rfl)) (nd 0 rfl)
        refine wpM_callF (f := 75) enters_fields _ _ #[.agg #[.int .i64 (c : Int), .int .i64 (a : Int), .int .i64 m.res, .int .i64 m.life, .int .i64 (t : Int), .slice Am m.data.length cm, .slice Ak m.kinds.length ck, .int .u8 z]] _ rfl rfl (by simp only [List.map_toArray, List.map_cons, List.map_nil, e0]) ((HFO5.out W hR).mono ?_)
        rintro e W' ⟨fv, rfl, hown, hb⟩
        exact ⟨_, rfl, _, rfl, hR.trans (hb.mono hR.size), fun u hu => by rw [hu (by simp)]; exact own_mono hown hR.size, fun j _ _ _ _ u h => expKeep hb j u h⟩
      | 2, ho =>
        injection ho with ho
        subst ho
        have e0 : ac.eval (.tmp 3) = .pointer (some ⟨w.heap.size + 1, 0, none⟩) := hk.same (s := 3) (by kernel_rfl)
        exact wpM_run (.pointer (some ⟨w.heap.size + 1, 5, none⟩)) W (by simp only [execOp, e0]; simp [go_sem]) ⟨_, rfl, hR, fun u hu => hu (by simp), fun j _ _ _ _ u h => h⟩
      | 3, ho =>
        injection ho with ho
        subst ho
        have e0 : ac.eval (.tmp 34) = .pointer (some ⟨w.heap.size + 1, 5, none⟩) := hM 2 (by decide) (ready_up hi (by kernel_rfl)) (nd 2 rfl)
        exact wpM_run (.slice Am m.data.length cm) W (by simp only [execOp, e0]; simp [go_sem, c5]) ⟨_, rfl, hR, fun u hu => hu (by simp), fun j _ _ _ _ u h => h⟩
      | 4, ho =>
        injection ho with ho
        subst ho
        have h4 := ready_not hi
        have e0 : OwnZ W w5.heap.size (ac.eval (.tmp 33)) (fieldsB m) := hM 1 (by decide) (ready_up hi (by kernel_rfl)) (fun k h => by
          unfold expD6 at h
          have h : k = 4 := by simpa using h
          rw [h]; exact h4)
        have e1 : ac.eval (.tmp 35) = .slice Am m.data.length cm := hM 3 (by decide) (ready_up hi (by kernel_rfl)) (nd 3 rfl)
        refine wp_appendAll appInts (.tmp 33) (.tmp 35) rfl W _ (fieldsB m).length ((fieldsB m).map (Value.int .i64)) rfl e0 _ m.data (Value.int .i64) e1 (HMD5.out.now hR) (fun y c h => by injection h.1 with h1 _) (fun y => rfl) (by have := fieldsB_len m; have := HOK.out.len; omega) hR.size ?_
        intro v' W' hown hgr hat
        have hbW : Below w5.heap.size W W' := below_of_grown hgr hR.size (fun g hg => (World.ownsRow.lt e0 g hg).1)
        refine ⟨_, rfl, hR.trans hbW, fun u hu => ?_, fun j hj hji hu hd u h => ?_⟩
        · rw [hu (by simp)]
          show OwnZ W' w5.heap.size v' (fieldsB m ++ m.data)
          unfold OwnZ
          rw [List.length_append, List.map_append]
          exact hown
        · match j, hj, hji, hd, h with
          | 0, _, _, _, h => exact h
          | 1, _, _, hd, _ => exact absurd hd (by decide)
          | 2, _, _, _, h => exact h
          | 3, _, _, _, h => exact h
          | 4, _, hji, _, _ => exact absurd rfl hji
          | 5, _, _, _, h => exact h
          | 6, _, _, _, h => exact h
          | 7, _, _, _, h => exact h
          | n + 8, hj, _, _, _ => exact absurd hj (by simp)
      | 5, ho =>
        injection ho with ho
        subst ho
        have e0 : OwnZ W w5.heap.size (ac.eval (.tmp 36)) (colsX m) := hM 4 (by decide) (ready_up hi (by kernel_rfl)) (nd 4 rfl)
        refine wpM_callF (f := 87) enters_max _ _ #[ac.eval (.tmp 36)] _ rfl rfl (by simp only [List.map_toArray, List.map_cons, List.map_nil]) ((max_any _ w5.heap.size (colsX m) W e0 (by obtain ⟨r, hr⟩ := colsX_cons HOK.out; rw [hr]; simp) (by have := fieldsB_len m; have := HOK.out.len; unfold colsX; rw [List.length_append]; omega)).mono ?_)
        rintro e W' ⟨rfl, rfl⟩
        exact ⟨_, rfl, _, rfl, hR, fun u hu => by rw [hu (by simp), HMXE.out]; rfl, fun j _ _ _ _ u h => h⟩
      | 6, ho =>
        injection ho with ho
        subst ho
        have e0 : ac.eval (.tmp 37) = .int .i64 mx := hM 5 (by decide) (ready_up hi (by kernel_rfl)) (nd 5 rfl)
        exact wpM_run (.int .i64 (wd : Int)) W (by simp only [execOp, e0]; simp [go_sem, hwr]) ⟨_, rfl, hR, fun u hu => hu (by simp), fun j _ _ _ _ u h => h⟩
      | 7, ho =>
        injection ho with ho
        subst ho
        have e0 : ac.eval (.tmp 38) = .int .i64 (wd : Int) := hM 6 (by decide) (ready_up hi (by kernel_rfl)) (nd 6 rfl)
        exact wpM_assign _ _ rfl e0 ⟨_, rfl, hR, fun u hu => hu (by simp), fun j _ _ _ _ u h => h⟩
      | n + 8, ho => simp at ho
    case hend =>
      intro ac W hk hR hM
      have x7 : Act.slot ac 7 = .int .i64 (wd : Int) := hM 7 (by decide) (fun k => rfl)
      refine hK _ _ ?_
      rw [hk.form (by kernel_rfl)]
      simp only [putsAll, Option.getD_some, Act.put, List.setIfInBounds_toArray, List.set_cons_zero, List.set_cons_succ, x7]
      go_meet
      exact ⟨rfl, hR⟩
  case rest =>
  obtain ⟨rfl, hb6⟩ := hcut
  obtain ⟨w6, hw6⟩ : ∃ w6, wc = w6 := ⟨_, rfl⟩
  rw [hw6] at hb6 ⊢
  have HB6 := Lib.hid (HB5.out.trans (hb6.mono HB5.out.size))
  have HM6 := Lib.hid (HM5.out.now hb6)
  have HMP6 := Lib.hid (HMP5.out.now hb6)
  have HMD6 := Lib.hid (HMD5.out.now hb6)
  have HNV6 := Lib.hid (HNV.out.now hb6)
  have HLG6 := Lib.hid (HK1.out.now (HB5.out.trans (hb6.mono HB5.out.size)))
  have HS6 := Lib.hid (HS.out.now (bthen HB.out (HB5.out.trans (hb6.mono HB5.out.size))))
  have HA6 := Lib.hid (HAM.out.now (bthen HB.out (HB5.out.trans (hb6.mono HB5.out.size))))
  clear hw6 hb6 HFO5 HMX HMXE HNV HMP5 HMD5 HM5
  go_upto_region 8 with fail
  have hb7 := bone w6 (.cells (madeCells #[.string ⟨#[]⟩] wd) 9)
  have m7 := OwnF.made (f := fun l : Bt => Value.string (bsOf l)) w6 9 wd [] (by have := HW40.out; unfold maxLen; omega)
  obtain ⟨w7, hw7⟩ : ∃ w7, w6.alloc (.cells (madeCells #[.string ⟨#[]⟩] wd) 9) = w7 := ⟨_, rfl⟩
  have hw7' : w6.alloc (.cells (madeCells #[(fun l : Bt => Value.string (bsOf l)) []] wd) 9) = w7 := hw7
  rw [hw7'] at m7
  rw [hw7] at hb7 ⊢
  clear hw7 hw7' hmk0
  obtain ⟨g, hg⟩ : ∃ g, w6.heap.size = g := ⟨_, rfl⟩
  have HG := Lib.hid hg
  rw [hg] at hb7 m7 ⊢
  have HR0 : Hid (RelR (fun l : Bt => Value.string (bsOf l)) w6 g 9 g wd (List.replicate wd []) (fun j => j = c ∨ j = a ∨ j = t) w7.drew) := Lib.hid ⟨hb7.drew, _, m7.drew, rfl, fun _ _ => rfl⟩
  have ic0 : (0 : Int) ≤ (c : Int) := by omega
  have ia0 : (0 : Int) ≤ (a : Int) := by omega
  have it0 : (0 : Int) ≤ (t : Int) := by omega
  have ic1 : (c : Int) < (wd : Int) := by have := HLc.out; omega
  have ia1 : (a : Int) < (wd : Int) := by have := HLa.out; omega
  have it1 : (t : Int) < (wd : Int) := by have := HLt.out; omega
  clear hb7 m7 hg
  go_cut [] from 41 to 52 (fun W => OwnCells W g g wd (startH m wd) ∧ Below g w6 W)
  case first =>
    rename_i J1 K1 hJ hK
    refine wp_region_rel (by kernel_rfl) (by kernel_rfl) (by kernel_rfl) (RelR (fun l : Bt => Value.string (bsOf l)) w6 g 9 g wd (List.replicate wd []) (fun j => j = c ∨ j = a ∨ j = t)) (expF8 w g c a t wd) ?h0 ?hstep ?hend ?hall
    case hall => exact hall_of (by kernel_rfl)
    case h0 => exact HR0.out
    case hstep =>
      intro i o ho listed ac W hsh hi hk hR hM
      have hb6 : Below w6.heap.size w6 W := by rw [HG.out]; exact hR.below
      have hgW : g < W.heap.size := by obtain ⟨_, h1, _, _⟩ := hR.row; exact h1.lt
      obtain ⟨c0, c1, c2, c3, c4, c5, c6, c7⟩ := (HM6.out.now hb6).c8m
      match i, ho with
      | 0, ho =>
        injection ho with ho
        subst ho
        have e0 : ac.eval (.tmp 8) = .slice (some ⟨g, 0, none⟩) wd wd := hk.same (s := 8) (by kernel_rfl)
        exact wpM_run (.slice (some ⟨g, 0, none⟩) wd wd) W (by simp only [execOp, e0]; simp [go_sem]) ⟨_, rfl, hR, fun u hu => hu (by simp), fun j _ _ _ u h => h⟩
      | 1, ho =>
        injection ho with ho
        subst ho
        have e0 : ac.eval (.tmp 3) = .pointer (some ⟨w.heap.size + 1, 0, none⟩) := hk.same (s := 3) (by kernel_rfl)
        exact wpM_run (.pointer (some ⟨w.heap.size + 1, 0, none⟩)) W (by simp only [execOp, e0]; simp [go_sem]) ⟨_, rfl, hR, fun u hu => hu (by simp), fun j _ _ _ u h => h⟩
      | 2, ho =>
        injection ho with ho
        subst ho
        have e0 : ac.eval (.tmp 42) = .pointer (some ⟨w.heap.size + 1, 0, none⟩) := hM 1 (by decide) (ready_up hi (by kernel_rfl))
        exact wpM_run (.int .i64 (c : Int)) W (by simp only [execOp, e0]; simp [go_sem, c0]) ⟨_, rfl, hR, fun u hu => hu (by simp), fun j _ _ _ u h => h⟩
      | 3, ho =>
        injection ho with ho
        subst ho
        have e0 : ac.eval (.tmp 8) = .slice (some ⟨g, 0, none⟩) wd wd := hk.same (s := 8) (by kernel_rfl)
        exact wpM_run (.slice (some ⟨g, 0, none⟩) wd wd) W (by simp only [execOp, e0]; simp [go_sem]) ⟨_, rfl, hR, fun u hu => hu (by simp), fun j _ _ _ u h => h⟩
      | 4, ho =>
        injection ho with ho
        subst ho
        have e0 : ac.eval (.tmp 3) = .pointer (some ⟨w.heap.size + 1, 0, none⟩) := hk.same (s := 3) (by kernel_rfl)
        exact wpM_run (.pointer (some ⟨w.heap.size + 1, 1, none⟩)) W (by simp only [execOp, e0]; simp [go_sem]) ⟨_, rfl, hR, fun u hu => hu (by simp), fun j _ _ _ u h => h⟩
      | 5, ho =>
        injection ho with ho
        subst ho
        have e0 : ac.eval (.tmp 45) = .pointer (some ⟨w.heap.size + 1, 1, none⟩) := hM 4 (by decide) (ready_up hi (by kernel_rfl))
        exact wpM_run (.int .i64 (a : Int)) W (by simp only [execOp, e0]; simp [go_sem, c1]) ⟨_, rfl, hR, fun u hu => hu (by simp), fun j _ _ _ u h => h⟩
      | 6, ho =>
        injection ho with ho
        subst ho
        have e0 : ac.eval (.tmp 8) = .slice (some ⟨g, 0, none⟩) wd wd := hk.same (s := 8) (by kernel_rfl)
        exact wpM_run (.slice (some ⟨g, 0, none⟩) wd wd) W (by simp only [execOp, e0]; simp [go_sem]) ⟨_, rfl, hR, fun u hu => hu (by simp), fun j _ _ _ u h => h⟩
      | 7, ho =>
        injection ho with ho
        subst ho
        have e0 : ac.eval (.tmp 3) = .pointer (some ⟨w.heap.size + 1, 0, none⟩) := hk.same (s := 3) (by kernel_rfl)
        exact wpM_run (.pointer (some ⟨w.heap.size + 1, 4, none⟩)) W (by simp only [execOp, e0]; simp [go_sem]) ⟨_, rfl, hR, fun u hu => hu (by simp), fun j _ _ _ u h => h⟩
      | 8, ho =>
        injection ho with ho
        subst ho
        have e0 : ac.eval (.tmp 48) = .pointer (some ⟨w.heap.size + 1, 4, none⟩) := hM 7 (by decide) (ready_up hi (by kernel_rfl))
        exact wpM_run (.int .i64 (t : Int)) W (by simp only [execOp, e0]; simp [go_sem, c4]) ⟨_, rfl, hR, fun u hu => hu (by simp), fun j _ _ _ u h => h⟩
      | 9, ho =>
        injection ho with ho
        subst ho
        have e0 : ac.eval (.tmp 41) = .slice (some ⟨g, 0, none⟩) wd wd := hM 0 (by decide) (ready_up hi (by kernel_rfl))
        have e1 : ac.eval (.tmp 43) = .int .i64 (c : Int) := hM 2 (by decide) (ready_up hi (by kernel_rfl))
        exact wpM_run (.pointer (some ⟨g, c, none⟩)) W (by simp only [execOp, e0, e1]; simp [go_sem, ic0, ic1]) ⟨_, rfl, hR, fun u hu => hu (by simp), fun j _ _ _ u h => h⟩
      | 10, ho =>
        injection ho with ho
        subst ho
        have e0 : ac.eval (.tmp 50) = .pointer (some ⟨g, c, none⟩) := hM 9 (by decide) (ready_up hi (by kernel_rfl))
        have e1 : ac.eval (.const (.string (bsOf xwCase))) = .string (bsOf xwCase) := rfl
        obtain ⟨y, hy⟩ := hR.cell (k := c) (by rw [List.length_replicate]; exact HLc.out)
        have fz := hR.frozen c
        refine wpM_store _ _ _ _ _ (W.setCell ⟨g, c, none⟩ (.string (bsOf xwCase))) () rfl e0 e1 (by simp [go_sem, hy, fz]) ⟨_, rfl, hR.set_ (.inl rfl) xwCase, fun u _ => cell_put W hy _, fun j hj hji hu u h => ?_⟩
        match j, hj, hji, h with
        | 0, _, _, h => exact h
        | 1, _, _, h => exact h
        | 2, _, _, h => exact h
        | 3, _, _, h => exact h
        | 4, _, _, h => exact h
        | 5, _, _, h => exact h
        | 6, _, _, h => exact h
        | 7, _, _, h => exact h
        | 8, _, _, h => exact h
        | 9, _, _, h => exact h
        | 10, _, hji, _ => exact absurd rfl hji
        | 11, _, _, h => exact h
        | 12, _, _, h => exact (cell_far W HD1.out _).trans h
        | 13, _, _, h => exact h
        | 14, _, _, h => exact (cell_far W HD2.out _).trans h
        | n + 15, hj, _, _ => exact absurd hj (by simp)
      | 11, ho =>
        injection ho with ho
        subst ho
        have e0 : ac.eval (.tmp 44) = .slice (some ⟨g, 0, none⟩) wd wd := hM 3 (by decide) (ready_up hi (by kernel_rfl))
        have e1 : ac.eval (.tmp 46) = .int .i64 (a : Int) := hM 5 (by decide) (ready_up hi (by kernel_rfl))
        exact wpM_run (.pointer (some ⟨g, a, none⟩)) W (by simp only [execOp, e0, e1]; simp [go_sem, ia0, ia1]) ⟨_, rfl, hR, fun u hu => hu (by simp), fun j _ _ _ u h => h⟩
      | 12, ho =>
        injection ho with ho
        subst ho
        have e0 : ac.eval (.tmp 51) = .pointer (some ⟨g, a, none⟩) := hM 11 (by decide) (ready_up hi (by kernel_rfl))
        have e1 : ac.eval (.const (.string (bsOf xwAct))) = .string (bsOf xwAct) := rfl
        obtain ⟨y, hy⟩ := hR.cell (k := a) (by rw [List.length_replicate]; exact HLa.out)
        have fz := hR.frozen a
        refine wpM_store _ _ _ _ _ (W.setCell ⟨g, a, none⟩ (.string (bsOf xwAct))) () rfl e0 e1 (by simp [go_sem, hy, fz]) ⟨_, rfl, hR.set_ (.inr (.inl rfl)) xwAct, fun u _ => cell_put W hy _, fun j hj hji hu u h => ?_⟩
        match j, hj, hji, h with
        | 0, _, _, h => exact h
        | 1, _, _, h => exact h
        | 2, _, _, h => exact h
        | 3, _, _, h => exact h
        | 4, _, _, h => exact h
        | 5, _, _, h => exact h
        | 6, _, _, h => exact h
        | 7, _, _, h => exact h
        | 8, _, _, h => exact h
        | 9, _, _, h => exact h
        | 10, _, _, h => exact (cell_far W (Ne.symm HD1.out) _).trans h
        | 11, _, _, h => exact h
        | 12, _, hji, _ => exact absurd rfl hji
        | 13, _, _, h => exact h
        | 14, _, _, h => exact (cell_far W HD3.out _).trans h
        | n + 15, hj, _, _ => exact absurd hj (by simp)
      | 13, ho =>
        injection ho with ho
        subst ho
        have e0 : ac.eval (.tmp 47) = .slice (some ⟨g, 0, none⟩) wd wd := hM 6 (by decide) (ready_up hi (by kernel_rfl))
        have e1 : ac.eval (.tmp 49) = .int .i64 (t : Int) := hM 8 (by decide) (ready_up hi (by kernel_rfl))
        exact wpM_run (.pointer (some ⟨g, t, none⟩)) W (by simp only [execOp, e0, e1]; simp [go_sem, it0, it1]) ⟨_, rfl, hR, fun u hu => hu (by simp), fun j _ _ _ u h => h⟩
      | 14, ho =>
        injection ho with ho
        subst ho
        have e0 : ac.eval (.tmp 52) = .pointer (some ⟨g, t, none⟩) := hM 13 (by decide) (ready_up hi (by kernel_rfl))
        have e1 : ac.eval (.const (.string (bsOf xwTime))) = .string (bsOf xwTime) := rfl
        obtain ⟨y, hy⟩ := hR.cell (k := t) (by rw [List.length_replicate]; exact HLt.out)
        have fz := hR.frozen t
        refine wpM_store _ _ _ _ _ (W.setCell ⟨g, t, none⟩ (.string (bsOf xwTime))) () rfl e0 e1 (by simp [go_sem, hy, fz]) ⟨_, rfl, hR.set_ (.inr (.inr rfl)) xwTime, fun u _ => cell_put W hy _, fun j hj hji hu u h => ?_⟩
        match j, hj, hji, h with
        | 0, _, _, h => exact h
        | 1, _, _, h => exact h
        | 2, _, _, h => exact h
        | 3, _, _, h => exact h
        | 4, _, _, h => exact h
        | 5, _, _, h => exact h
        | 6, _, _, h => exact h
        | 7, _, _, h => exact h
        | 8, _, _, h => exact h
        | 9, _, _, h => exact h
        | 10, _, _, h => exact (cell_far W (Ne.symm HD2.out) _).trans h
        | 11, _, _, h => exact h
        | 12, _, _, h => exact (cell_far W (Ne.symm HD3.out) _).trans h
        | 13, _, _, h => exact h
        | 14, _, hji, _ => exact absurd rfl hji
        | n + 15, hj, _, _ => exact absurd hj (by simp)
      | n + 15, ho => simp at ho
    case hend =>
      intro ac W hk hR hM
      have hrow : OwnCells W g g wd (startH m wd) := by
        rw [HST.out]
        exact setZ3_end hR HD1.out HD2.out HD3.out (hM 10 (by decide)) (hM 12 (by decide)) (hM 14 (by decide))
      have hbw := hR.below
      refine hK _ _ ?_
      rw [hk.form (by kernel_rfl)]
      simp only [putsAll, Option.getD_some, Act.put, List.setIfInBounds_toArray, List.set_cons_zero, List.set_cons_succ]
      go_meet
      exact ⟨hrow, hbw⟩
  case rest =>
  obtain ⟨hrow, hbw⟩ := hcut
  obtain ⟨w8, hw8⟩ : ∃ w8, wc = w8 := ⟨_, rfl⟩
  rw [hw8] at hrow hbw ⊢
  have HO8 := Lib.hid hrow
  have HB8 := Lib.hid hbw
  clear hw8 hrow hbw ic0 ia0 it0 ic1 ia1 it1 HR0
  have hbb : Below w6.heap.size w6 w8 := by rw [HG.out]; exact HB8.out
  obtain ⟨c0, c1, c2, c3, c4, c5, c6, c7⟩ := (HM6.out.now hbb).c8m
  clear hbb
  have HLR8 : Hid ((startH m wd).length = wd) := by show _ = _; unfold startH; simp [setZ_len]
  obtain ⟨r0, hr0⟩ : ∃ r0, startH m wd = r0 := ⟨_, rfl⟩
  rw [hr0] at HO8 HLR8 HHX
  clear hr0 HST
  obtain ⟨qr, hqr⟩ : ∃ qr, decide (0 ≤ m.res) = qr := ⟨_, rfl⟩
  go_upto_if 55 with fail
  have HQR := Lib.hid hqr
  clear hqr
  go_cut [] from 56 to 59 (fun W => OwnCells W g g wd (resH m r0) ∧ Below g w6 W)
  case first =>
    have HRX : Hid (resH m r0 = if qr = true then setZ r0 m.res xwRes else r0) := by
      show _ = _
      unfold resH
      rw [← HQR.out]
      by_cases h : 0 ≤ m.res
      · rw [if_pos h, if_pos (decide_eq_true h)]
      · rw [if_neg h, if_neg (by rw [decide_eq_false h]; decide)]
    cases qr with
    | false =>
      go_wp2_with fail
      go_meet
      rw [HRX.out]
      exact ⟨HO8.out, HB8.out⟩
    | true =>
      obtain ⟨r, hr⟩ : ∃ r : Nat, m.res = (r : Int) := ⟨m.res.toNat, by have := of_decide_eq_true HQR.out; omega⟩
      have HLr : Hid (r < wd) := by have := HCres.out (of_decide_eq_true HQR.out); show r < wd; omega
      have HRX2 : Hid (resH m r0 = r0.set r xwRes) := by show _ = _; rw [HRX.out, if_pos rfl]; unfold setZ; rw [hr]; rfl
      have HS4 := Lib.hid (HO8.out.set_ r xwRes)
      have HSB : Hid (Below g w6 (w8.setCell ⟨g, r, none⟩ (.string (bsOf xwRes)))) := Lib.hid (HB8.out.setCell (p := ⟨g, r, none⟩) (Nat.le_refl _) _)
      have hcl := HO8.out.cell (k := r) (List.getElem?_eq_getElem (by rw [HLR8.out]; exact HLr.out))
      have hfz := HO8.out.frozen r
      rw [hr] at c2
      have ir0 : (0 : Int) ≤ (r : Int) := by omega
      have ir1 : (r : Int) < (wd : Int) := by have := HLr.out; omega
      clear hr HRX
      go_wp2_with fail
      go_meet
      rw [HRX2.out]
      exact ⟨HS4.out, HSB.out⟩
  case rest =>
  obtain ⟨hrow, hbw⟩ := hcut
  obtain ⟨w9, hw9⟩ : ∃ w9, wc = w9 := ⟨_, rfl⟩
  rw [hw9] at hrow hbw ⊢
  have HO9 := Lib.hid hrow
  have HB9 := Lib.hid hbw
  clear hw9 hrow hbw c0 c1 c2 c3 c4 c5 c6 c7 HQR
  have hbb : Below w6.heap.size w6 w9 := by rw [HG.out]; exact HB9.out
  obtain ⟨c0, c1, c2, c3, c4, c5, c6, c7⟩ := (HM6.out.now hbb).c8m
  clear hbb
  have HLR9 : Hid ((resH m r0).length = wd) := by show _ = _; rw [← HLR8.out]; unfold resH; split <;> simp [setZ_len]
  obtain ⟨r1, hr1⟩ : ∃ r1, resH m r0 = r1 := ⟨_, rfl⟩
  rw [hr1] at HO9 HLR9 HHX
  clear hr1 HO8 HB8 HLR8
  obtain ⟨qr, hqr⟩ : ∃ qr, decide (0 ≤ m.life) = qr := ⟨_, rfl⟩
  go_upto_if 62 with fail
  have HQR := Lib.hid hqr
  clear hqr
  go_cut [] from 63 to 66 (fun W => OwnCells W g g wd (lifeH m r1) ∧ Below g w6 W)
  case first =>
    have HRX : Hid (lifeH m r1 = if qr = true then setZ r1 m.life xwLife else r1) := by
      show _ = _
      unfold lifeH
      rw [← HQR.out]
      by_cases h : 0 ≤ m.life
      · rw [if_pos h, if_pos (decide_eq_true h)]
      · rw [if_neg h, if_neg (by rw [decide_eq_false h]; decide)]
    cases qr with
    | false =>
      go_wp2_with fail
      go_meet
      rw [HRX.out]
      exact ⟨HO9.out, HB9.out⟩
    | true =>
      obtain ⟨r, hr⟩ : ∃ r : Nat, m.life = (r : Int) := ⟨m.life.toNat, by have := of_decide_eq_true HQR.out; omega⟩
      have HLr : Hid (r < wd) := by have := HClife.out (of_decide_eq_true HQR.out); show r < wd; omega
      have HRX2 : Hid (lifeH m r1 = r1.set r xwLife) := by show _ = _; rw [HRX.out, if_pos rfl]; unfold setZ; rw [hr]; rfl
      have HS4 := Lib.hid (HO9.out.set_ r xwLife)
      have HSB : Hid (Below g w6 (w9.setCell ⟨g, r, none⟩ (.string (bsOf xwLife)))) := Lib.hid (HB9.out.setCell (p := ⟨g, r, none⟩) (Nat.le_refl _) _)
      have hcl := HO9.out.cell (k := r) (List.getElem?_eq_getElem (by rw [HLR9.out]; exact HLr.out))
      have hfz := HO9.out.frozen r
      rw [hr] at c3
      have ir0 : (0 : Int) ≤ (r : Int) := by omega
      have ir1 : (r : Int) < (wd : Int) := by have := HLr.out; omega
      clear hr HRX
      go_wp2_with fail
      go_meet
      rw [HRX2.out]
      exact ⟨HS4.out, HSB.out⟩
  case rest =>
  obtain ⟨hrow, hbw⟩ := hcut
  obtain ⟨w10, hw10⟩ : ∃ w10, wc = w10 := ⟨_, rfl⟩
  rw [hw10] at hrow hbw ⊢
  have HO10 := Lib.hid hrow
  have HB10 := Lib.hid hbw
  clear hw10 hrow hbw c0 c1 c2 c3 c4 c5 c6 c7 HQR
  have hbb : Below w6.heap.size w6 w10 := by rw [HG.out]; exact HB10.out
  obtain ⟨c0, c1, c2, c3, c4, c5, c6, c7⟩ := (HM6.out.now hbb).c8m
  clear hbb
  have HLR10 : Hid ((lifeH m r1).length = wd) := by show _ = _; rw [← HLR9.out]; unfold lifeH; split <;> simp [setZ_len]
  obtain ⟨r2, hr2⟩ : ∃ r2, lifeH m r1 = r2 := ⟨_, rfl⟩
  rw [hr2] at HO10 HLR10 HHX
  clear hr2 HO9 HB9 HLR9
  go_wp2_with fail
  clear c0 c1 c2 c3 c4 c5 c6 c7
  go_loopw [70] (fun iv wr => ∃ (j : Nat) (r : List Bt), iv = .int .i64 (j : Int) ∧ j ≤ m.data.length ∧ Hid (OwnCells wr g g wd r) ∧ Hid (r.length = wd) ∧ Hid (hd = zipH ((m.data.zip names).drop j) r) ∧ Hid (Below g w6 wr)) (fun iv _ => m.data.length - (intOf iv).toNat)
  case atStart => exact ⟨0, r2, rfl, Nat.zero_le _, HO10, HLR10, HHX, HB10⟩
  case round =>
    obtain ⟨j, r, rfl, hj, HO, HLR, HHR, HBr⟩ := hrel
    obtain ⟨wo, hwo⟩ : ∃ wo, wr = wo := ⟨_, rfl⟩
    rw [hwo] at HO HBr ⊢
    clear hwo HO10 HB10 HLR10 HHX
    have HBR : Hid (Below w6.heap.size w6 wo) := by show Below _ _ _; rw [HG.out]; exact HBr.out
    by_cases hlt : j < m.data.length
    · have hjn : j < names.length := by rw [HNL.out]; exact hlt
      obtain ⟨bd, od, dz, rfl, hDd, hxd, _, cd0⟩ := SlI.at_ (SlI.now HMD6.out HBR.out) hlt
      obtain ⟨bn, on_, s, rfl, hDn, hxn, _, cn0⟩ := SlP.at_ (SlP.now HNV6.out HBR.out) hjn
      have HSTEP := Lib.hid (zipH_step (r := r) hxd hxn)
      have hdm : dz ∈ m.data := List.mem_of_getElem? hxd
      obtain ⟨d, rfl⟩ : ∃ d : Nat, dz = (d : Int) := ⟨dz.toNat, by have := (HOK.out.data dz hdm).1; omega⟩
      have HLd : Hid (d < wd) := by have := HCD.out _ hdm; show d < wd; omega
      have id0 : (0 : Int) ≤ (d : Int) := by omega
      have id1 : (d : Int) < (wd : Int) := by have := HLd.out; omega
      have ij0 : (0 : Int) ≤ (j : Int) := by omega
      have ij1 : (j : Int) < (m.data.length : Int) := by omega
      have ij2 : (j : Int) < (names.length : Int) := by omega
      have hcl := HO.out.cell (k := d) (List.getElem?_eq_getElem (by rw [HLR.out]; exact HLd.out))
      have hfz := HO.out.frozen d
      clear hxd hxn hDd hDn hdm
      go_wp2_with fail
      go_roundw
      case rel => exact ⟨j + 1, setZ r (d : Int) s, by go_num, by omega, Lib.hid (OwnCells.setZ HO.out (k := (d : Int)) rfl s), Lib.hid ((setZ_len _ _ _).trans HLR.out), Lib.hid (HHR.out.trans HSTEP.out), Lib.hid (HBr.out.setCell (p := ⟨g, d, none⟩) (Nat.le_refl _) _)⟩
      case measure => simp [intOf]; omega
    · have hje : j = m.data.length := by omega
      have HHD : Hid (hd = r) := by
        show _ = _
        rw [HHR.out, hje, List.drop_eq_nil_of_le (by rw [List.length_zip]; omega)]
        rfl
      have hjn : ¬ (j : Int) < (m.data.length : Int) := by omega
      have HHV : Hid (SlP (Lt wo.heap.size) wo (.slice (some ⟨g, 0, none⟩) wd wd) hd) := Lib.hid (by
        rw [HHD.out]
        have h1 := HO.out.1
        rw [HLR.out] at h1
        exact SlS.of_own (zs := r.map bsOf) (by rw [List.map_map]; exact h1) (fun z hz => by
          obtain ⟨b, hb, rfl⟩ := List.mem_map.1 hz
          rw [bs_size]
          have := HHC.out b (by rw [HHD.out]; exact hb)
          unfold maxLen; omega))
      clear hje hlt
      have hbl := bone wo (.cells #[.slice (some ⟨g, 0, none⟩) wd wd] 51)
      have HOR := ownR_one (w := wo) 51 HHV.out
      have HBo := bthen HBR.out hbl
      have hlg := (HLG6.out.now HBo).c1
      go_upto_region 19 with fail
      obtain ⟨wp, hwp⟩ : ∃ wp, wo.alloc (.cells #[.slice (some ⟨g, 0, none⟩) wd wd] 51) = wp := ⟨_, rfl⟩
      rw [hwp] at HOR HBo hlg ⊢
      have HOP : Hid (OwnR 1 RStrs (fun _ => False) wp w6.heap.size 51 (.slice (some ⟨wo.heap.size, 0, none⟩) 1 1) [hd]) := Lib.hid (by
        obtain ⟨cs, h1, h2⟩ := HOR
        exact ⟨cs, own_mono h1 HBR.out.size, h2⟩)
      have HBP := Lib.hid HBo
      have HRO : Hid (RowsOk wd [hd]) := Lib.hid fun x hx => by rw [List.mem_singleton] at hx; rw [hx]; exact ⟨HHL.out, HHC.out⟩
      clear hwp HOR HBo hbl hjn HHV HHD HHR HO HBr HBR HLR
      go_wp2_with fail
      clear hlg
      go_loopw [11, 88] (fun ov iv wr => ∃ (i : Nat) (acc : List (List Bt)), iv = .int .i64 (i : Int) ∧ i ≤ l.length ∧ acc.length = i + 1 ∧ Hid (OwnR 1 RStrs (fun _ => False) wr w6.heap.size 51 ov acc) ∧ Hid (RowsOk wd acc) ∧ Hid (rowsX (rowX vtN names m wd) l [hd] = rowsX (rowX vtN names m wd) (l.drop i) acc) ∧ Hid (Below w6.heap.size w6 wr)) (fun _ iv _ => l.length - (intOf iv).toNat)
      case atStart => exact ⟨0, [hd], rfl, Nat.zero_le _, rfl, HOP, HRO, Lib.hid rfl, HBP⟩
      case round =>
        obtain ⟨i, acc, rfl, hi, hal, HOA, HRA, HXA, HBA⟩ := hrel
        obtain ⟨wa, hwa⟩ : ∃ wa, wr = wa := ⟨_, rfl⟩
        rw [hwa] at HOA HBA ⊢
        have HAL := Lib.hid hal
        clear hwa HOP HBP HRO hal
        by_cases hil : i < l.length
        · obtain ⟨be, oe, e, dv, rfl, hDe, hxe, hfe, hde, e0, e1, e2, e3, e4, e5⟩ := SlEv.at_ (SlEv.now HS6.out HBA.out) hil
          obtain ⟨Ad, cd, rfl, _, _, hde⟩ := hde.open_
          have HXE := Lib.hid hxe
          have HEL := Lib.hid (evLe (logB_ev HQ1.out hxe))
          have HEM := Lib.hid (List.mem_of_getElem? hxe)
          have HIE : Hid (IsEv (Lt wa.heap.size) wa (evV e (.slice Ad e.data.length cd)) e) := Lib.hid ⟨_, rfl, hfe, hde⟩
          have hbe := bone wa (.cells #[.string e.cas, .string e.act, .string e.res, .int .i64 e.life, .int .i64 e.time, .slice Ad e.data.length cd] 69)
          have ke := Blk.new wa 69 #[.string e.cas, .string e.act, .string e.res, .int .i64 e.life, .int .i64 e.time, .slice Ad e.data.length cd]
          clear hxe hfe hde hDe
          go_upto_region 22 with fail
          obtain ⟨wb, hwb⟩ : ∃ wb, wa.alloc (.cells #[.string e.cas, .string e.act, .string e.res, .int .i64 e.life, .int .i64 e.time, .slice Ad e.data.length cd] 69) = wb := ⟨_, rfl⟩
          rw [hwb] at hbe ke ⊢
          clear hwb e0 e1 e2 e3 e4 e5
          have HBB := Lib.hid (bthen HBA.out hbe)
          have HOB := Lib.hid (HOA.out.now RStrs.kept hbe)
          have HIB := Lib.hid (HIE.out.now hbe)
          unfold evV at HIB
          have HRR := Lib.hid (HRW.out names e _ _ wb HIB.out (HNV6.out.now HBB.out) (HMP6.out.now HBB.out) HOK.out HEL.out (fun f hf => HNM.out e HEM.out f hf) HNL.out (HA6.out.now HBB.out))
          have HRS := Lib.hid (HRL.out e HEL.out)
          have HRP := Lib.hid (rowsX_step (f := rowX vtN names m wd) (acc := acc) HXE.out)
          obtain ⟨e0, e1, e2, e3, e4, e5⟩ := ke.c6
          obtain ⟨c0, c1, c2, c3, c4, c5, c6, c7⟩ := (HM6.out.now HBB.out).c8m
          obtain ⟨x, hx⟩ : ∃ x, rowX vtN names m wd e = x := ⟨_, rfl⟩
          rw [hx] at HRR HRS HRP
          obtain ⟨row, k⟩ := x
          obtain ⟨ge, hge⟩ : ∃ ge, wa.heap.size = ge := ⟨_, rfl⟩
          rw [hge] at e0 e1 e2 e3 e4 e5 ⊢
          clear hbe ke hx hge HOA HBA HIE HIB
          go_wp2_with fail
          (with_reducible refine HRR.out.mono ?_)
          rintro _ w9 ⟨rv, rfl, hrv, hb9⟩
          obtain ⟨Ar, cr, rfl, _, _, hrv⟩ := SlP.open_ hrv
          have HB9 := Lib.hid (bthen HBB.out hb9)
          have HO9 := Lib.hid (HOB.out.now RStrs.kept hb9)
          have HLT9 := Lib.hid (fun g (hg : _ = some g) => (OwnR.lt HOB.out g hg).2)
          have HRV := Lib.hid hrv
          clear hb9 hrv HRR HOB HBB e0 e1 e2 e3 e4 e5 c0 c1 c2 c3 c4 c5 c6 c7
          by_cases hk0 : k = 0
          · subst hk0
            have HSTEP : Hid (rowsX (rowX vtN names m wd) l [hd] = rowsX (rowX vtN names m wd) (l.drop (i + 1)) (acc ++ [row])) := by
              show _ = _
              rw [HXA.out, HRP.out, if_neg (by simp)]
            have HRO : Hid (RowsOk wd (acc ++ [row])) := Lib.hid (RowsOk.push HRA.out (HRS.out rfl).1 (HRS.out rfl).2)
            have HSZ := Lib.hid HB9.out.size
            obtain ⟨Ao, co, hov⟩ := OwnR.open_ HO9.out
            subst hov
            have HYY : Hid (RStrs (Off (fun _ => False) w9 (.slice Ao acc.length co)) w9 row [.slice Ar row.length cr]) := Lib.hid ⟨_, rfl, SlP.keep HRV.out (fun b hb => ⟨hb.2, fun e => by have h1 := HLT9.out b e; have h2 := hb.1; omega, fun h => h⟩) (Same.refl _ _)⟩
            go_wp2_with (at_builtin; refine wpList_pushR (X := fun _ => False) appStrs RStrs.kept rfl (.tmp 103) (.tmp 105) rfl w9 [.slice Ar row.length cr] rfl (fun u hu => by simp at hu; subst hu; rfl) _ acc row rfl HO9.out HYY.out rfl (by have := few_of HQ1.out HHV0.out; have := HAL.out; omega) HSZ.out ?_; intro v' w10 hown hgr hat)
            have HBX : Hid (Below w6.heap.size w6 w10) := Lib.hid (HB9.out.trans (below_of_grown hgr HSZ.out (fun g hg => (OwnR.lt HO9.out g hg).1)))
            go_roundw
            case rel => exact ⟨i + 1, acc ++ [row], by go_num, by omega, by rw [List.length_append, HAL.out]; rfl, Lib.hid hown, HRO, HSTEP, HBX⟩
            case measure => simp [intOf]; omega
          · have HR2 : Hid (p = ([], k)) := by
              show _ = _
              have h1 : (rowsX (rowX vtN names m wd) l [hd]) = ([], k) := by rw [HXA.out, HRP.out, if_pos (by simpa using hk0)]
              rw [HE2.out, h1, if_pos (by simpa using hk0)]
            have x1 : (k != 0) = true := by simpa using hk0
            go_wp2_with fail
            go_ret2
            show RetSE _ _ _ _
            rw [HR2.out]
            exact ⟨rfl, (HB.out.trans (HB6.out.mono HB.out.size)).trans (HB9.out.mono (HB.out.trans (HB6.out.mono HB.out.size)).size)⟩
        · have hie : i = l.length := by omega
          have HEND : Hid (rowsX (rowX vtN names m wd) l [hd] = (acc, 0)) := by
            show _ = _
            rw [HXA.out, hie, List.drop_eq_nil_of_le (Nat.le_refl _)]
            rfl
          have HR2 : Hid (p = writeE m.sep acc) := by
            show _ = _
            rw [HE2.out, HEND.out, if_neg (by simp)]
          have hin : ¬ (i : Int) < (l.length : Int) := by omega
          have HSM : Hid (SmallT acc) := Lib.hid ⟨by have := few_of HQ1.out HHV0.out; have := HAL.out; omega, fun r hr => ⟨by rw [(HRA.out r hr).1]; have := HW40.out; omega, (HRA.out r hr).2⟩⟩
          have HWR := Lib.hid (HWRT.out acc _ wa (slSS_of HOA.out) HSM.out (HA6.out.now HBA.out))
          obtain ⟨c0, c1, c2, c3, c4, c5, c6, c7⟩ := (HM6.out.now HBA.out).c8m
          clear hie hil
          go_wp2_with fail
          (with_reducible refine HWR.out.mono ?_)
          rintro _ w9 ⟨rfl, hb9⟩
          have HB9 := Lib.hid (bthen HBA.out hb9)
          clear hb9
          go_wp2_with fail
          go_ret2
          show RetSE _ _ _ _
          rw [HR2.out]
          exact ⟨rfl, (HB.out.trans (HB6.out.mono HB.out.size)).trans (HB9.out.mono (HB.out.trans (HB6.out.mono HB.out.size)).size)⟩
end Go.Proofs.YtoalecalahkblaaGreatDoor

namespace Go.Proofs.YtoalecalahkblaaGreatDoor
open Go.Lib
theorem nDigits_le {u k : Nat} (hk : 1 ≤ k) (h : u < 10 ^ k) : nDigits u ≤ k := by
  rcases Nat.lt_or_ge k (nDigits u) with h1 | h1
  · exfalso
    have key : ∀ v, 2 ≤ nDigits v → 10 ^ (nDigits v - 1) ≤ v := by
      intro v
      induction v using Nat.strongRecOn with
      | _ v ih =>
        intro h2
        by_cases h10 : v < 10
        · rw [nDigits_small h10] at h2; omega
        · rw [nDigits_big h10]
          by_cases h3 : v / 10 < 10
          · rw [nDigits_small h3]; simp; omega
          · have := ih (v / 10) (by omega) (by rw [nDigits_big h3]; have := nDigits_pos (v / 10 / 10); omega)
            have e : nDigits (v / 10) + 1 - 1 = (nDigits (v / 10) - 1) + 1 := by have := nDigits_pos (v / 10); omega
            rw [e, Nat.pow_succ]
            omega
    have h2 := key u (by omega)
    have h3 : 10 ^ k ≤ 10 ^ (nDigits u - 1) := Nat.pow_le_pow_right (by omega) (by omega)
    omega
  · exact h1
end Go.Proofs.YtoalecalahkblaaGreatDoor

namespace Go.Proofs.YtoalecalahkblaaGreatDoor
open Go.RowKit
theorem encode_digit {d : Nat} (h : d < 128) : Utf8.encode (d : Int) = ⟨#[UInt8.ofNat d]⟩ := by
  have hv : Utf8.valid (d : Int) = true := by
    unfold Utf8.valid
    simp; omega
  unfold Utf8.encode
  simp only [hv, if_true]
  rw [if_pos (by omega)]
  simp
def decS (n : Int) : ByteArray := ⟨(Lib.itoa n).toArray⟩
theorem dec_small {n : Int} (h1 : 0 ≤ n) (h2 : n ≤ 9) : Utf8.encode (48 + n) = decS n := by
  obtain ⟨u, rfl⟩ := Int.eq_ofNat_of_zero_le h1
  have := encode_digit (d := 48 + u) (by omega)
  rw [show (48 : Int) + (u : Int) = ((48 + u : Nat) : Int) by omega, this]
  unfold decS
  rw [Lib.itoa_nonneg, Lib.decDigits_one (by omega)]
theorem dec_smallneg {n : Int} (h1 : n < 0) (h2 : -9 ≤ n) : (⟨#[45]⟩ : ByteArray) ++ Utf8.encode (48 - n) = decS n := by
  obtain ⟨u, rfl⟩ : ∃ u : Nat, n = -(u : Int) := ⟨n.natAbs, by omega⟩
  have := encode_digit (d := 48 + u) (by omega)
  rw [show (48 : Int) - -(u : Int) = ((48 + u : Nat) : Int) by omega, this]
  unfold decS
  rw [Lib.itoa_neg u (by omega), Lib.decDigits_one (by omega)]
  rfl
theorem dec_step (u : Nat) (h : ¬ u < 10) : Lib.decDigits u = Lib.decDigits (u / 10) ++ [UInt8.ofNat (48 + u % 10)] := by rw [Lib.decDigits, dif_neg h]
theorem app_bytes (a b : List UInt8) : (⟨a.toArray⟩ : ByteArray) ++ ⟨b.toArray⟩ = ⟨(a ++ b).toArray⟩ := by
  have : ((⟨a.toArray⟩ : ByteArray) ++ ⟨b.toArray⟩).data = (a ++ b).toArray := by
    rw [ByteArray.data_append]; simp
  cases h : (⟨a.toArray⟩ : ByteArray) ++ ⟨b.toArray⟩
  rw [h] at this
  simp only at this
  rw [this]
theorem dec_big {n : Int} (h : 9 < n) : decS (Int.tdiv n 10) ++ Utf8.encode (48 + Int.tmod n 10) = decS n := by
  obtain ⟨u, rfl⟩ := Int.eq_ofNat_of_zero_le (show 0 ≤ n by omega)
  have e1 : Int.tdiv (u : Int) 10 = ((u / 10 : Nat) : Int) := by rw [Int.tdiv_eq_ediv_of_nonneg (by omega)]; omega
  have e2 : (48 : Int) + Int.tmod (u : Int) 10 = ((48 + u % 10 : Nat) : Int) := by rw [Int.tmod_eq_emod_of_nonneg (by omega)]; omega
  rw [e1, e2, encode_digit (by omega)]
  unfold decS
  rw [Lib.itoa_nonneg, Lib.itoa_nonneg, dec_step u (by omega)]
  exact app_bytes _ [_]
theorem dec_bigneg {n : Int} (h : n < -9) : decS (Int.tdiv n 10) ++ Utf8.encode (48 - Int.tmod n 10) = decS n := by
  obtain ⟨u, rfl⟩ : ∃ u : Nat, n = -(u : Int) := ⟨n.natAbs, by omega⟩
  have e1 : Int.tdiv (-(u : Int)) 10 = -((u / 10 : Nat) : Int) := by rw [Int.neg_tdiv, Int.tdiv_eq_ediv_of_nonneg (by omega)]; omega
  have e2 : (48 : Int) - Int.tmod (-(u : Int)) 10 = ((48 + u % 10 : Nat) : Int) := by rw [Int.neg_tmod, Int.tmod_eq_emod_of_nonneg (by omega)]; omega
  rw [e1, e2, encode_digit (by omega)]
  unfold decS
  rw [Lib.itoa_neg _ (by omega), Lib.itoa_neg u (by omega), dec_step u (by omega)]
  exact app_bytes (45 :: _) [_]
theorem ret_str {a b : ByteArray} (h : a = b) : Ending.returned (.string a) = .returned (.string b) := by rw [h]
theorem dec_size {n : Int} (h : Fit n) : (decS n).size ≤ 20 := by
  unfold Fit at h
  unfold decS ByteArray.size
  simp only [List.size_toArray]
  rcases Int.lt_or_le n 0 with h0 | h0
  · obtain ⟨u, rfl⟩ : ∃ u : Nat, n = -(u : Int) := ⟨n.natAbs, by omega⟩
    rw [Lib.itoa_neg u (by omega), List.length_cons, Lib.decDigits_length]
    have := nDigits_le (u := u) (k := 19) (by omega) (by omega)
    omega
  · obtain ⟨u, rfl⟩ := Int.eq_ofNat_of_zero_le h0
    rw [Lib.itoa_nonneg, Lib.decDigits_length]
    have := nDigits_le (u := u) (k := 19) (by omega) (by omega)
    omega
theorem enc_size {d : Int} (h0 : 0 ≤ d) (h : d < 128) : (Utf8.encode d).size = 1 := by
  obtain ⟨u, rfl⟩ := Int.eq_ofNat_of_zero_le h0
  rw [encode_digit (by omega)]; rfl
set_option maxHeartbeats 1000000 in
theorem decimal_at : ∀ (k : Nat) (n : Int) (w : World), n.natAbs ≤ k → Fit n → Calls Tryz.prog 133 #[.int .i64 n] w fun e w' => e = .returned (.string (decS n)) ∧ w = w' := by
  intro k
  induction k using Nat.strongRecOn with
  | _ k ih =>
    intro n w hk hf
    unfold Fit at hf
    obtain ⟨f1, f2⟩ := hf
    by_cases h0 : n < 0
    · by_cases h9 : n < -9
      · have hq : Int.tdiv n 10 = -((n.natAbs / 10 : Nat) : Int) := by
          rw [show n = -((n.natAbs : Nat) : Int) by omega, Int.neg_tdiv, Int.tdiv_eq_ediv_of_nonneg (by omega)]; omega
        have hr : Int.tmod n 10 = -((n.natAbs % 10 : Nat) : Int) := by
          rw [show n = -((n.natAbs : Nat) : Int) by omega, Int.neg_tmod, Int.tmod_eq_emod_of_nonneg (by omega)]; omega
        have HC := Lib.hid (fun W => ih (Int.tdiv n 10).natAbs (by rw [hq]; omega) (Int.tdiv n 10) W (Nat.le_refl _) (by rw [hq]; unfold Fit; omega))
        have HE := Lib.hid (dec_bigneg h9)
        have z1 := dec_size (n := Int.tdiv n 10) (by rw [hq]; unfold Fit; omega)
        have z2 := enc_size (d := 48 - Int.tmod n 10) (by rw [hr]; omega) (by rw [hr]; omega)
        have r1 : -9 ≤ Int.tmod n 10 := by rw [hr]; omega
        have r2 : Int.tmod n 10 ≤ 0 := by rw [hr]; omega
        have q1 : -922337203685477580 ≤ Int.tdiv n 10 := by rw [hq]; omega
        have q2 : Int.tdiv n 10 ≤ 0 := by rw [hq]; omega
        have w1 : IntKind.i64.wrap (Int.tdiv n 10) = Int.tdiv n 10 := IntWalk.i64_in _ (by omega)
        have w2 : IntKind.i64.wrap (Int.tmod n 10) = Int.tmod n 10 := IntWalk.i64_in _ (by omega)
        have w3 : IntKind.i64.wrap (48 - Int.tmod n 10) = 48 - Int.tmod n 10 := IntWalk.i64_in _ (by omega)
        clear ih hk hq hr
        go_enter Tryz.func133, Tryz.ntmps133
        go_wp2_with fail
        refine (HC.out _).mono ?_
        rintro e w' ⟨rfl, rfl⟩
        go_wp2_with fail
        go_ret
        exact ⟨ret_str HE.out, rfl⟩
      · have HE := Lib.hid (dec_smallneg h0 (by omega))
        have z1 : (⟨#[45]⟩ : ByteArray).size = 1 := rfl
        have z2 := enc_size (d := 48 - n) (by omega) (by omega)
        clear ih hk
        go_enter Tryz.func133, Tryz.ntmps133
        go_wp2_with fail
        go_ret
        exact ⟨ret_str HE.out, rfl⟩
    · by_cases h9 : 9 < n
      · have hq : Int.tdiv n 10 = ((n.natAbs / 10 : Nat) : Int) := by
          rw [Int.tdiv_eq_ediv_of_nonneg (by omega)]; omega
        have hr : Int.tmod n 10 = ((n.natAbs % 10 : Nat) : Int) := by
          rw [Int.tmod_eq_emod_of_nonneg (by omega)]; omega
        have HC := Lib.hid (fun W => ih (Int.tdiv n 10).natAbs (by rw [hq]; omega) (Int.tdiv n 10) W (Nat.le_refl _) (by rw [hq]; unfold Fit; omega))
        have em : Int.tmod n 10 = n % 10 := Int.tmod_eq_emod_of_nonneg (by omega)
        have HE0 := dec_big h9
        rw [em] at HE0 hr
        have HE := Lib.hid HE0
        have z1 := dec_size (n := Int.tdiv n 10) (by rw [hq]; unfold Fit; omega)
        have z2 := enc_size (d := 48 + n % 10) (by rw [hr]; omega) (by rw [hr]; omega)
        have r1 : 0 ≤ n % 10 := by rw [hr]; omega
        have r2 : n % 10 ≤ 9 := by rw [hr]; omega
        have q1 : 0 ≤ Int.tdiv n 10 := by rw [hq]; omega
        have q2 : Int.tdiv n 10 ≤ 922337203685477580 := by rw [hq]; omega
        have w1 : IntKind.i64.wrap (Int.tdiv n 10) = Int.tdiv n 10 := IntWalk.i64_in _ (by omega)
        have w2 : IntKind.i64.wrap (n % 10) = n % 10 := IntWalk.i64_in _ (by omega)
        have w3 : IntKind.i64.wrap (48 + n % 10) = 48 + n % 10 := IntWalk.i64_in _ (by omega)
        clear ih hk hq hr em HE0
        go_enter Tryz.func133, Tryz.ntmps133
        go_wp2_with fail
        refine (HC.out _).mono ?_
        rintro e w' ⟨rfl, rfl⟩
        go_wp2_with fail
        go_ret
        exact ⟨ret_str HE.out, rfl⟩
      · have HE := Lib.hid (dec_small (n := n) (by omega) (by omega))
        clear ih hk
        go_enter Tryz.func133, Tryz.ntmps133
        go_wp2_with fail
        go_ret
        exact ⟨ret_str HE.out, rfl⟩
theorem decimal_any (n : Int) (w : World) (hf : Fit n) : Calls Tryz.prog 133 #[.int .i64 n] w fun e w' => e = .returned (.string (decS n)) ∧ w = w' := decimal_at _ n w (Nat.le_refl _) hf
end Go.Proofs.YtoalecalahkblaaGreatDoor

set_option linter.all false
namespace Go.Proofs.YtoalecalahkblaaGreatDoor
open Go.RowKit
theorem column_ref (k : Int) (w : World) : Calls Tryz.prog 65 #[.int .i64 k] w fun e w' => e = .returned (.bool (decide (0 ≤ k) && decide (k < 40))) ∧ w = w' := by
  by_cases h : 0 ≤ k
  · go_enter Tryz.func65, Tryz.ntmps65
    go_wp2_with fail
    go_ret
    exact ⟨by rw [decide_eq_true h]; rfl, rfl⟩
  · go_enter Tryz.func65, Tryz.ntmps65
    go_wp2_with fail
    go_ret
    exact ⟨by rw [decide_eq_false (show ¬ 0 ≤ k by omega)]; rfl, rfl⟩
theorem word_ref (q : Nat) (hq : q < 6) (w : World) : Calls Tryz.prog 134 #[.int .i64 ((q : Int) + 1)] w fun e w' => e = .returned (.string (bsOf (lifeW.getD q []))) ∧ w = w' := by
  match q, hq with
  | 0, _ =>
    show Calls _ _ #[.int .i64 1] _ _
    go_enter Tryz.func134, Tryz.ntmps134
    go_wp2_with fail
    go_ret
    exact ⟨rfl, rfl⟩
  | 1, _ =>
    show Calls _ _ #[.int .i64 2] _ _
    go_enter Tryz.func134, Tryz.ntmps134
    go_wp2_with fail
    go_ret
    exact ⟨rfl, rfl⟩
  | 2, _ =>
    show Calls _ _ #[.int .i64 3] _ _
    go_enter Tryz.func134, Tryz.ntmps134
    go_wp2_with fail
    go_ret
    exact ⟨rfl, rfl⟩
  | 3, _ =>
    show Calls _ _ #[.int .i64 4] _ _
    go_enter Tryz.func134, Tryz.ntmps134
    go_wp2_with fail
    go_ret
    exact ⟨rfl, rfl⟩
  | 4, _ =>
    show Calls _ _ #[.int .i64 5] _ _
    go_enter Tryz.func134, Tryz.ntmps134
    go_wp2_with fail
    go_ret
    exact ⟨rfl, rfl⟩
  | 5, _ =>
    show Calls _ _ #[.int .i64 6] _ _
    go_enter Tryz.func134, Tryz.ntmps134
    go_wp2_with fail
    go_ret
    exact ⟨rfl, rfl⟩
set_option maxHeartbeats 1000000 in
theorem textNV_ref (v : Val) (w : World) (hf : FitV v) (hv : validV v = true) (hk : v.kind ≠ 3) :
    Calls Tryz.prog 135 #[.agg #[.int .i64 v.kind, .int .i64 v.n, .string v.s]] w fun e w' => e = .returned (.string (textNV v)) ∧ Below w.heap.size w w' := by
  have hb := bone w (.cells #[.int .i64 v.kind, .int .i64 v.n, .string v.s] 121)
  have hB := Blk.new w 121 #[.int .i64 v.kind, .int .i64 v.n, .string v.s]
  obtain ⟨k, n, s⟩ := v
  obtain ⟨g1, g2, g3⟩ := hf
  dsimp only at *
  have HG := Lib.hid g2
  have HV := Lib.hid hv
  have HK := Lib.hid (kind_cases hv)
  have HN := Lib.hid hk
  clear g1 g2 g3 hk hv
  obtain ⟨y0, y1, y2⟩ := hB.c3
  by_cases k1 : k = 1
  · subst k1
    rcases validNV1 HV.out rfl with hn | hn
    · dsimp only at hn
      subst hn
      clear hB
      go_enter Tryz.func135, Tryz.ntmps135
      go_wp2_with fail
      go_ret
      exact ⟨rfl, hb⟩
    · dsimp only at hn
      subst hn
      clear hB
      go_enter Tryz.func135, Tryz.ntmps135
      go_wp2_with fail
      go_ret
      exact ⟨rfl, hb⟩
  · have k2 : k = 2 := by
      rcases HK.out with h | h | h
      · exact absurd h k1
      · exact h
      · exact absurd h HN.out
    subst k2
    have HD := Lib.hid (fun W => decimal_any n W HG.out)
    clear hB k1
    go_enter Tryz.func135, Tryz.ntmps135
    go_wp2_with fail
    (with_reducible refine (HD.out _).mono ?_)
    rintro _ w3 ⟨rfl, rfl⟩
    go_wp2_with fail
    go_ret
    exact ⟨rfl, hb⟩
def col1 (m : Mp) : List Int := [m.cas, m.act] ++ (if 0 ≤ m.res then [m.res] else [])
def col2 (m : Mp) : List Int := col1 m ++ (if 0 ≤ m.life then [m.life] else [])
def colsR (m : Mp) : List Int := (col2 m ++ [m.time]) ++ m.data
def colF (B P : Nat) (m : Mp) (DV : Value) : Nat → Value → World → Prop
  | 0, u, W => OwnZ W B u (col2 m)
  | 1, u, _ => u = .pointer (some ⟨P, 4, none⟩)
  | 2, u, _ => u = .int .i64 m.time
  | 3, u, W => ∃ p : Nat, u = .slice (some ⟨p, 0, none⟩) 1 1 ∧ Blk W p 3 #[.int .i64 m.time]
  | 4, u, W => OwnZ W B u (col2 m ++ [m.time])
  | 5, u, _ => u = .pointer (some ⟨P, 5, none⟩)
  | 6, u, _ => u = DV
  | 7, u, W => OwnZ W B u (colsR m)
  | 8, u, W => OwnZ W B u (colsR m)
  | _, _, _ => True
def colD (j k : Nat) : Bool := ((j == 0 || j == 3) && (k == 4 || k == 7)) || (j == 4 && k == 7)
theorem colKeep {B P : Nat} {m : Mp} {DV : Value} {W W' : World} (hb : Below W.heap.size W W') : ∀ j u, colF B P m DV j u W → colF B P m DV j u W' := by
  intro j u h
  match j, h with
  | 0, h => exact own_now h hb
  | 1, h => exact h
  | 2, h => exact h
  | 3, h => obtain ⟨p, h1, h2⟩ := h; exact ⟨p, h1, h2.now hb⟩
  | 4, h => exact own_now h hb
  | 5, h => exact h
  | 6, h => exact h
  | 7, h => exact own_now h hb
  | 8, h => exact own_now h hb
  | n + 9, h => exact trivial
theorem ownZ_lit (w : World) (zs : List Int) (hz : zs.length ≤ maxLen) : OwnZ (w.alloc (.cells (zs.map (Value.int .i64)).toArray 3)) w.heap.size (.slice (some ⟨w.heap.size, 0, none⟩) zs.length zs.length) zs := by
  have := World.ownsRow_lit (base := w.heap.size) (e := 3) (size := 1) w (zs.map (Value.int .i64)).toArray zs.length (Nat.le_refl _) hz (by simp)
  exact this
theorem bs1 (z : Int) (W : World) : (Instr.buildSlice 31 1 #[(0, .int .i64 z)]).run Tryz.prog W = .ok (.slice (some ⟨W.heap.size, 0, none⟩) 1 1) (W.alloc (.cells #[.int .i64 z] 3)) := by kernel_rfl
theorem slI_fit {D : Nat → Prop} {w : World} {v : Value} {zs : List Int} (h : SlI D w v zs) : ∀ k ∈ zs, Fit k := by
  intro k hk
  obtain ⟨i, hi, rfl⟩ := List.mem_iff_getElem.1 hk
  obtain ⟨A, c, rfl, _, _, h⟩ := h.open_
  obtain ⟨_, _, z, _, _, hx, hf, _⟩ := SlI.at_ h hi
  rw [List.getElem?_eq_getElem hi] at hx
  injection hx with hx
  rw [hx]; exact hf
theorem ownZ_open {base : Nat} {w : World} {v : Value} {l : List Int} (h : OwnZ w base v l) : ∃ A c, v = .slice A l.length c := by
  rcases h.2 with ⟨rfl, h0⟩ | ⟨g, cap, cur, rfl, _⟩
  · rw [h0]; exact ⟨none, 0, rfl⟩
  · exact ⟨_, _, rfl⟩
theorem slI_one {W : World} {p : Nat} {z : Int} (h : Blk W p 3 #[.int .i64 z]) (hf : Fit z) : SlI (Lt W.heap.size) W (.slice (some ⟨p, 0, none⟩) 1 1) [z] :=
  Sl.ofBlk (xs := [z]) (cs := [.int .i64 z]) h (by unfold maxLen; simp) fun i x hx => by
    match i, hx with
    | 0, hx =>
      injection hx with hx
      subst hx
      exact ⟨[_], rfl, fun j u hu => by simpa using hu, rfl, hf⟩
    | i + 1, hx => simp at hx
set_option maxHeartbeats 4000000 in
set_option maxRecDepth 100000 in
theorem columns_ref (u : Value) (m : Mp) (w : World) (h : IsMp (Lt w.heap.size) w u m) (hb : m.data.length ≤ 1000000) :
    Calls Tryz.prog 64 #[u] w fun e w' => ∃ v, e = .returned v ∧ SlI (Lt w'.heap.size) w' v (colsR m) ∧ Below w.heap.size w w' := by
  obtain ⟨dv, kv, rfl, hfm, hd, hk⟩ := h
  have HDL := Lib.hid hb
  have HFM := Lib.hid hfm
  obtain ⟨Ad, cd, rfl, _, _, hd⟩ := hd.open_
  obtain ⟨Ak, ck, rfl, _, _, hk⟩ := hk.open_
  obtain ⟨z, hz⟩ : ∃ z, (m.sep.toNat : Int) = z := ⟨_, rfl⟩
  have HMD := Lib.hid hd
  unfold mpV
  rw [hz]
  clear hfm hd hk hz hb
  have HB1 := Lib.hid (bone w (.cells #[.int .i64 m.cas, .int .i64 m.act, .int .i64 m.res, .int .i64 m.life, .int .i64 m.time, .slice Ad m.data.length cd, .slice Ak m.kinds.length ck, .int .u8 z] 33))
  have HM1 := Lib.hid (Blk.new w 33 #[.int .i64 m.cas, .int .i64 m.act, .int .i64 m.res, .int .i64 m.life, .int .i64 m.time, .slice Ad m.data.length cd, .slice Ak m.kinds.length ck, .int .u8 z])
  go_enter Tryz.func64, Tryz.ntmps64
  go_upto_region 1 with fail
  obtain ⟨w1, hw1⟩ : ∃ w1, w.alloc (.cells #[.int .i64 m.cas, .int .i64 m.act, .int .i64 m.res, .int .i64 m.life, .int .i64 m.time, .slice Ad m.data.length cd, .slice Ak m.kinds.length ck, .int .u8 z] 33) = w1 := ⟨_, rfl⟩
  rw [hw1] at HB1 HM1 ⊢
  clear hw1
  obtain ⟨c0, c1, c2, c3, c4, c5, c6, c7⟩ := HM1.out.c8m
  have hb2 := bone w1 (.cells #[.int .i64 m.cas, .int .i64 m.act] 3)
  have ho2 := ownZ_lit w1 [m.cas, m.act] (by unfold maxLen; simp)
  go_upto_region 2 with fail
  obtain ⟨w2, hw2⟩ : ∃ w2, w1.alloc (.cells #[.int .i64 m.cas, .int .i64 m.act] 3) = w2 := ⟨_, rfl⟩
  have hw2' : w1.alloc (.cells ([m.cas, m.act].map (Value.int .i64)).toArray 3) = w2 := hw2
  rw [hw2'] at ho2
  rw [hw2] at hb2 ⊢
  have HO2 := Lib.hid ho2
  have HB2 := Lib.hid hb2
  clear hw2 hw2' ho2 c0 c1 c2 c3 c4 c5 c6 c7
  obtain ⟨c0, c1, c2, c3, c4, c5, c6, c7⟩ := (HM1.out.now hb2).c8m
  clear hb2
  obtain ⟨qr, hqr⟩ : ∃ qr, decide (0 ≤ m.res) = qr := ⟨_, rfl⟩
  go_upto_if 11 with fail
  have HQR := Lib.hid hqr
  clear hqr
  go_cut [3] from 12 to 16 (fun v W => OwnZ W w1.heap.size v (col1 m) ∧ Below w1.heap.size w1 W)
  case first =>
    cases qr with
    | false =>
      have HC : Hid (col1 m = [m.cas, m.act]) := by show _ = _; unfold col1; rw [if_neg (of_decide_eq_false HQR.out)]; rfl
      go_wp2_with fail
      go_meet
      rw [HC.out]
      exact ⟨HO2.out, HB2.out⟩
    | true =>
      have HC : Hid (col1 m = [m.cas, m.act] ++ [m.res]) := by show _ = _; unfold col1; rw [if_pos (of_decide_eq_true HQR.out)]
      have HS := Lib.hid HB2.out.size
      go_wp2_with (at_builtin; refine wpList_push appInts rfl (.tmp 12) (.tmp 15) rfl w2 [.int .i64 m.res] rfl (fun u hu => by simp at hu; subst hu; rfl) _ 2 ([m.cas, m.act].map (Value.int .i64)) rfl HO2.out rfl (by omega) HS.out ?_; intro v' w' hown hgr hat)
      have hbg := HB2.out.trans (below_of_grown hgr HS.out (fun g hg => (World.ownsRow.lt HO2.out g hg).1))
      go_meet
      rw [HC.out]
      exact ⟨hown, hbg⟩
  case rest =>
  obtain ⟨hown, hbw⟩ := hcut
  obtain ⟨w3, hw3⟩ : ∃ w3, wc = w3 := ⟨_, rfl⟩
  rw [hw3] at hown hbw ⊢
  have HO3 := Lib.hid hown
  have HB3 := Lib.hid hbw
  clear hw3 hown HO2 HB2 HQR c0 c1 c2 c3 c4 c5 c6 c7
  obtain ⟨c0, c1, c2, c3, c4, c5, c6, c7⟩ := (HM1.out.now hbw).c8m
  clear hbw
  have HL3 : Hid ((col1 m).length ≤ 3) := by show _ ≤ _; unfold col1; split <;> simp
  obtain ⟨qr, hqr⟩ : ∃ qr, decide (0 ≤ m.life) = qr := ⟨_, rfl⟩
  go_upto_if 19 with fail
  have HQR := Lib.hid hqr
  clear hqr
  go_cut [3] from 20 to 24 (fun v W => OwnZ W w1.heap.size v (col2 m) ∧ Below w1.heap.size w1 W)
  case first =>
    cases qr with
    | false =>
      have HC : Hid (col2 m = col1 m) := by show _ = _; unfold col2; rw [if_neg (of_decide_eq_false HQR.out), List.append_nil]
      go_wp2_with fail
      go_meet
      rw [HC.out]
      exact ⟨HO3.out, HB3.out⟩
    | true =>
      have HC : Hid (col2 m = col1 m ++ [m.life]) := by show _ = _; unfold col2; rw [if_pos (of_decide_eq_true HQR.out)]
      have HS := Lib.hid HB3.out.size
      go_wp2_with (at_builtin; refine wpList_push appInts rfl (.tmp 20) (.tmp 23) rfl w3 [.int .i64 m.life] rfl (fun u hu => by simp at hu; subst hu; rfl) _ (col1 m).length ((col1 m).map (Value.int .i64)) rfl HO3.out rfl (by have := HL3.out; omega) HS.out ?_; intro v' w' hown hgr hat)
      have hbg := HB3.out.trans (below_of_grown hgr HS.out (fun g hg => (World.ownsRow.lt HO3.out g hg).1))
      go_meet
      rw [HC.out]
      refine ⟨?_, hbg⟩
      unfold OwnZ
      rw [List.length_append, List.map_append]
      exact hown
  case rest =>
  obtain ⟨hown, hbw⟩ := hcut
  obtain ⟨w4, hw4⟩ : ∃ w4, wc = w4 := ⟨_, rfl⟩
  rw [hw4] at hown hbw ⊢
  obtain ⟨A3, k3, e3⟩ := ownZ_open hown
  subst e3
  have HO4 := Lib.hid hown
  have HB4 := Lib.hid hbw
  have HL4 : Hid ((col2 m).length ≤ 4) := by show _ ≤ _; unfold col2; have := HL3.out; rw [List.length_append]; split <;> simp <;> omega
  have HFA : Hid (∀ k ∈ colsR m, Fit k) := Lib.hid fun k hk => by
    unfold colsR col2 col1 at hk
    simp only [List.mem_append, List.mem_cons, List.not_mem_nil, or_false] at hk
    rcases hk with ((((h | h) | h) | h) | h) | h
    · rw [h]; exact HFM.out.cas
    · rw [h]; exact HFM.out.act
    · split at h
      · rw [List.mem_singleton] at h; rw [h]; exact HFM.out.res
      · simp at h
    · split at h
      · rw [List.mem_singleton] at h; rw [h]; exact HFM.out.life
      · simp at h
    · rw [h]; exact HFM.out.time
    · exact slI_fit HMD.out k h
  clear hw4 hown hbw HO3 HB3 HQR c0 c1 c2 c3 c4 c5 c6 c7 HL3
  go_upto_region 6 with fail
  go_cut [2] from 2 to 32 (fun v W => OwnZ W w1.heap.size v (colsR m) ∧ Below w1.heap.size w1 W)
  case first =>
    rename_i J1 K1 hJ hK
    refine wp_region_rel3 (by kernel_rfl) (by kernel_rfl) (by kernel_rfl) (fun U W => Below w1.heap.size w1 W ∧ (¬ U 4 → OwnZ W w1.heap.size (.slice A3 (col2 m).length k3) (col2 m))) (colF w1.heap.size w.heap.size m (.slice Ad m.data.length cd)) colD ?h0 ?hstep ?hend ?hall
    case hall => exact hall_of (by kernel_rfl)
    case h0 => exact ⟨HB4.out.drew, fun _ => own_now HO4.out (Below.refl _ _).drew⟩
    case hstep =>
      intro i o ho listed ac W hsh hi hk hRR hM
      obtain ⟨hR, hRO⟩ := hRR
      obtain ⟨c0, c1, c2, c3, c4, c5, c6, c7⟩ := (HM1.out.now hR).c8m
      have nd : ∀ j : Nat, (j == 0 || j == 3 || j == 4) = false → ∀ k, colD j k = true → ¬ Up listed k := fun j hj k h => by
        unfold colD at h
        simp only [Bool.or_eq_false_iff] at hj
        rw [hj.1.1, hj.1.2, hj.2] at h
        cases h
      have h74 : Up listed 7 → Up listed 4 := fun h => hsh.up h (by kernel_rfl)
      match i, ho with
      | 0, ho =>
        injection ho with ho
        subst ho
        have e0 : ac.eval (.tmp 3) = .slice A3 (col2 m).length k3 := hk.same (s := 3) (by kernel_rfl)
        have h4 : OwnZ W w1.heap.size (.slice A3 (col2 m).length k3) (col2 m) := hRO (fun h => ready_not hi (hsh.up h (by kernel_rfl)))
        exact wpM_moveG _ rfl ⟨_, rfl, ⟨hR, fun h => hRO fun h' => h (.inr h')⟩, fun u hu => by rw [hu (by simp), e0]; exact h4, fun j _ _ _ _ u h => h⟩
      | 1, ho =>
        injection ho with ho
        subst ho
        have e0 : ac.eval (.tmp 1) = .pointer (some ⟨w.heap.size, 0, none⟩) := hk.same (s := 1) (by kernel_rfl)
        exact wpM_run (.pointer (some ⟨w.heap.size, 4, none⟩)) W (by simp only [execOp, e0]; simp [go_sem]) ⟨_, rfl, ⟨hR, fun h => hRO fun h' => h (.inr h')⟩, fun u hu => hu (by simp), fun j _ _ _ _ u h => h⟩
      | 2, ho =>
        injection ho with ho
        subst ho
        have e0 : ac.eval (.tmp 26) = .pointer (some ⟨w.heap.size, 4, none⟩) := hM 1 (by decide) (ready_up hi (by kernel_rfl)) (nd 1 rfl)
        exact wpM_run (.int .i64 m.time) W (by simp only [execOp, e0]; simp [go_sem, c4]) ⟨_, rfl, ⟨hR, fun h => hRO fun h' => h (.inr h')⟩, fun u hu => hu (by simp), fun j _ _ _ _ u h => h⟩
      | 3, ho =>
        injection ho with ho
        subst ho
        have e0 : ac.eval (.tmp 27) = .int .i64 m.time := hM 2 (by decide) (ready_up hi (by kernel_rfl)) (nd 2 rfl)
        have hbn := bone W (.cells #[.int .i64 m.time] 3)
        exact wpM_slice _ _ _ _ _ _ rfl (by simp [e0]) (bs1 m.time W) ⟨_, rfl, ⟨hR.trans (hbn.mono hR.size), fun h => own_now (hRO fun h' => h (.inr h')) hbn⟩, fun u hu => ⟨_, hu (by simp), Blk.new _ _ _⟩, fun j _ _ _ _ u h => colKeep hbn j u h⟩
      | 4, ho =>
        injection ho with ho
        subst ho
        have h4 := ready_not hi
        have nd0 : ∀ j, j = 0 ∨ j = 3 → ∀ k, colD j k = true → ¬ Up listed k := fun j hj k h => by
          unfold colD at h
          have hk' : k = 4 ∨ k = 7 := by
            rcases hj with rfl | rfl <;> simpa using h
          rcases hk' with rfl | rfl
          · exact h4
          · exact fun h7 => h4 (h74 h7)
        have e0 : OwnZ W w1.heap.size (ac.eval (.tmp 25)) (col2 m) := hM 0 (by decide) (ready_up hi (by kernel_rfl)) (nd0 0 (.inl rfl))
        obtain ⟨pb, e1, hBp⟩ := hM 3 (by decide) (ready_up hi (by kernel_rfl)) (nd0 3 (.inr rfl))
        have e1 : ac.eval (.tmp 28) = .slice (some ⟨pb, 0, none⟩) 1 1 := e1
        refine wp_appendAll appInts (.tmp 25) (.tmp 28) rfl W _ (col2 m).length ((col2 m).map (Value.int .i64)) rfl e0 _ [m.time] (Value.int .i64) e1 (slI_one hBp HFM.out.time) (fun y c h => by injection h.1 with h1 _) (fun y => rfl) (by have := HL4.out; simp; omega) hR.size ?_
        intro v' W' hown hgr hat
        have hbW : Below w1.heap.size W W' := below_of_grown hgr hR.size (fun g hg => (World.ownsRow.lt e0 g hg).1)
        refine ⟨_, rfl, ⟨hR.trans hbW, fun h => absurd (.inl rfl) h⟩, fun u hu => ?_, fun j hj hji hu hd u h => ?_⟩
        · rw [hu (by simp)]
          show OwnZ W' w1.heap.size v' (col2 m ++ [m.time])
          unfold OwnZ
          rw [List.length_append, List.map_append]
          exact hown
        · match j, hj, hji, hd, h with
          | 0, _, _, hd, _ => exact absurd hd (by decide)
          | 1, _, _, _, h => exact h
          | 2, _, _, _, h => exact h
          | 3, _, _, hd, _ => exact absurd hd (by decide)
          | 4, _, hji, _, _ => exact absurd rfl hji
          | 5, _, _, _, h => exact h
          | 6, _, _, _, h => exact h
          | 7, _, _, _, _ => exact absurd (h74 hu) h4
          | 8, _, _, _, _ => exact absurd (h74 (hsh.up hu (by kernel_rfl))) h4
          | n + 9, hj, _, _, _ => exact absurd hj (by simp)
      | 5, ho =>
        injection ho with ho
        subst ho
        have e0 : ac.eval (.tmp 1) = .pointer (some ⟨w.heap.size, 0, none⟩) := hk.same (s := 1) (by kernel_rfl)
        exact wpM_run (.pointer (some ⟨w.heap.size, 5, none⟩)) W (by simp only [execOp, e0]; simp [go_sem]) ⟨_, rfl, ⟨hR, fun h => hRO fun h' => h (.inr h')⟩, fun u hu => hu (by simp), fun j _ _ _ _ u h => h⟩
      | 6, ho =>
        injection ho with ho
        subst ho
        have e0 : ac.eval (.tmp 30) = .pointer (some ⟨w.heap.size, 5, none⟩) := hM 5 (by decide) (ready_up hi (by kernel_rfl)) (nd 5 rfl)
        exact wpM_run (.slice Ad m.data.length cd) W (by simp only [execOp, e0]; simp [go_sem, c5]) ⟨_, rfl, ⟨hR, fun h => hRO fun h' => h (.inr h')⟩, fun u hu => hu (by simp), fun j _ _ _ _ u h => h⟩
      | 7, ho =>
        injection ho with ho
        subst ho
        have h7 := ready_not hi
        have e0 : OwnZ W w1.heap.size (ac.eval (.tmp 29)) (col2 m ++ [m.time]) := hM 4 (by decide) (ready_up hi (by kernel_rfl)) (fun k h => by
          have hk' : k = 7 := by simpa [colD] using h
          rw [hk']; exact h7)
        have e1 : ac.eval (.tmp 31) = .slice Ad m.data.length cd := hM 6 (by decide) (ready_up hi (by kernel_rfl)) (nd 6 rfl)
        refine wp_appendAll appInts (.tmp 29) (.tmp 31) rfl W _ (col2 m ++ [m.time]).length ((col2 m ++ [m.time]).map (Value.int .i64)) rfl e0 _ m.data (Value.int .i64) e1 (HMD.out.now (bthen HB1.out hR)) (fun y c h => by injection h.1 with h1 _) (fun y => rfl) (by have := HL4.out; have := HDL.out; simp; omega) hR.size ?_
        intro v' W' hown hgr hat
        have hbW : Below w1.heap.size W W' := below_of_grown hgr hR.size (fun g hg => (World.ownsRow.lt e0 g hg).1)
        have u4 : Up listed 4 := ready_up hi (by kernel_rfl)
        refine ⟨_, rfl, ⟨hR.trans hbW, fun h => absurd (.inr u4) h⟩, fun u hu => ?_, fun j hj hji hu hd u h => ?_⟩
        · rw [hu (by simp)]
          show OwnZ W' w1.heap.size v' (colsR m)
          unfold OwnZ colsR
          rw [List.length_append, List.map_append]
          exact hown
        · match j, hj, hji, hd, h with
          | 0, _, _, hd, _ => exact absurd hd (by decide)
          | 1, _, _, _, h => exact h
          | 2, _, _, _, h => exact h
          | 3, _, _, hd, _ => exact absurd hd (by decide)
          | 4, _, _, hd, _ => exact absurd hd (by decide)
          | 5, _, _, _, h => exact h
          | 6, _, _, _, h => exact h
          | 7, _, hji, _, _ => exact absurd rfl hji
          | 8, _, _, _, _ => exact absurd (hsh.up hu (by kernel_rfl)) h7
          | n + 9, hj, _, _, _ => exact absurd hj (by simp)
      | 8, ho =>
        injection ho with ho
        subst ho
        have e0 : OwnZ W w1.heap.size (ac.eval (.tmp 32)) (colsR m) := hM 7 (by decide) (ready_up hi (by kernel_rfl)) (nd 7 rfl)
        have u4 : Up listed 4 := h74 (ready_up hi (by kernel_rfl))
        exact wpM_assign _ _ rfl rfl ⟨_, rfl, ⟨hR, fun h => absurd (.inr u4) h⟩, fun u hu => by rw [hu (by simp)]; exact e0, fun j _ _ _ _ u h => h⟩
      | n + 9, ho => simp at ho
    case hend =>
      intro ac W U hk hR hM
      have x8 : OwnZ W w1.heap.size (Act.slot ac 2) (colsR m) := hM 8 (by decide) (fun k => rfl)
      refine hK _ _ ?_
      obtain ⟨v2, hv2⟩ : ∃ v2, Act.slot ac 2 = v2 := ⟨_, rfl⟩
      rw [hv2] at x8
      rw [hk.form (by kernel_rfl)]
      simp only [putsAll, Option.getD_some, Act.put, List.setIfInBounds_toArray, List.set_cons_zero, List.set_cons_succ, hv2]
      go_meet
      exact ⟨x8, hR.1⟩
  case rest =>
  obtain ⟨hown, hbw⟩ := hcut
  have HOW := Lib.hid hown
  have HBW := Lib.hid hbw
  clear hown hbw
  go_wp2_with fail
  go_ret
  exact ⟨_, rfl, SlI.of_own HOW.out HFA.out, HB1.out.trans (HBW.out.mono HB1.out.size)⟩
end Go.Proofs.YtoalecalahkblaaGreatDoor
