/- Texts of this seat, merged. -/
import Derived.Laws.MakeOwn
import Derived.StillTailTactics
import Derived.Deep.RegionWith
import Derived.Deep.RegionLaw
import Derived.Deep.CutRange
import Derived.BigQuiet
import Derived.Deep.QuietTactic
import Derived.Test.YtjglmjdfndcmmaaGreatZp01
import Derived.Test.YtjglmjdfndcmmaaGreatZp02
import Derived.Test.YtjglmjdfndcmmaaGreatZp03
import Derived.Test.YtjglmjdfndcmmaaGreatZp04
import Derived.Test.YtjglmjdfndcmmaaGreatZp05
import Derived.Test.YtjglmjdfndcmmaaGreatZp06
import Derived.Test.YtjglmjdfndcmmaaGreatZp07
import Derived.Test.YtjglmjdfndcmmaaGreatZp08
import Derived.Test.YtjglmjdfndcmmaaGreatZp09
import Derived.Test.YtjglmjdfndcmmaaGreatZp10
import Derived.Test.YtjglmjdfndcmmaaGreatZp11
set_option linter.all false
set_option linter.all false
namespace Go.Proofs.YtjglmjdfndcmmaaGreat
open Go.RowKit
theorem strInfo : (Tryz.prog.info? 9).map (fun i => (i.zero, i.size, i.bytes)) = some (some (.string ⟨#[]⟩), 1, 16) := by kernel_rfl
theorem make_strs (w : World) : ∃ w', (Instr.makeSlice 42 (.int .i64 0) (.int .i64 0)).run Tryz.prog w = .ok (.slice (some ⟨w.heap.size, 0, none⟩) 0 0) w' ∧ OwnS w' w.heap.size (.slice (some ⟨w.heap.size, 0, none⟩) 0 0) [] ∧ Below w.heap.size w w' := by
  obtain ⟨i, hi, hz, hs, hb⟩ := info_parts strInfo
  obtain ⟨w', h1, h2, h3⟩ := run_makeSlice_owned (P := Tryz.prog) w w.heap.size 42 9 i _ 1 Tryz.underlying42 hi hz hs .i64 .i64 0 (by omega) (by omega) (by unfold maxLen; omega) (Nat.le_refl _)
  exact ⟨w', h1, h2, ⟨h3.os, h3.tape, h3.output, h3.size, fun i hi => h3.block i hi (fun e => by cases e)⟩⟩
def De (lo L g : Nat) : Nat → Prop := fun b => lo ≤ b ∧ b < L ∧ b ≠ g
def RetBR (B R len : Nat) (all : List UInt8) (I : Nat) (q : Bool) (w : World) (e : Ending) (w' : World) : Prop := ∃ (v : Value) (xs : List Ev) (I' : Nat) (q' : Bool), e = .returned v ∧ SlEv (fun b => w.heap.size ≤ b ∧ b < w'.heap.size) w' v xs ∧ RdR B w' R all I' q' ∧ I ≤ I' ∧ GotBR len (all.drop I) q xs (all.drop I') q' ∧ Chg (One R) w w'
theorem OwnEvs.slD {w : World} {base : Nat} {D : Nat → Prop} {v : Value} {xs : List Ev} (h : OwnEvs w base v xs) (hf : ∀ e ∈ xs, FitEv e ∧ e.data = []) (hD : ∀ b, base ≤ b → b < w.heap.size → D b) : SlEv D w v xs :=
  Sl.of_own h rfl (fun g hg => by have := World.ownsRow.lt h g hg; exact hD g this.1 this.2) fun i x hx => ⟨evC x, rfl, fun j u hu => by
    rw [flat_get (size := 6) (fun _ => rfl) xs i j x hx (List.getElem?_eq_some_iff.1 hu).1]; exact hu, .slice none 0 0, rfl, (hf x (List.mem_of_getElem? hx)).1, by rw [(hf x (List.mem_of_getElem? hx)).2]; exact Sl.none_⟩
theorem OwnS.form {w : World} {base n c : Nat} {A : Option Addr} {ws : List Bs} (h : OwnS w base (.slice A n c) ws) (hn : 0 < ws.length) : ∃ g, A = some ⟨g, 0, none⟩ ∧ base ≤ g ∧ g < w.heap.size := by
  have hl := World.ownsRow.lt h
  rcases h.2 with ⟨_, h0⟩ | ⟨g, cap, cur, e, hb, hg, _⟩
  · omega
  · injection e with e1 _ _
    subst e1
    exact ⟨g, rfl, hb, (hl g rfl).2⟩
theorem OwnS.word {w : World} {base g c x : Nat} {ws : List Bs} (h : OwnS w base (.slice (some ⟨g, 0, none⟩) ws.length c) ws) (hx : x < ws.length) : w.cell? ⟨g, x, none⟩ = some (.string (wordAt (ws.map mkS) x)) := by
  have := World.ownsRow.cellAt h x (by rw [Nat.mul_one]; exact hx)
  refine Eq.trans this ?_
  rw [List.getElem?_map, List.getElem?_eq_getElem hx]
  unfold wordAt
  rw [List.getD_eq_getElem?_getD, List.getElem?_map, List.getElem?_eq_getElem hx]
  rfl
theorem OwnN.form {w : World} {base n c : Nat} {A : Option Addr} {l : List Nat} (h : OwnN w base (.slice A n c) l) (hn : 0 < l.length) : ∃ g, A = some ⟨g, 0, none⟩ := by
  rcases h.2 with ⟨_, h0⟩ | ⟨g, cap, cur, e, hb, hg, _⟩
  · omega
  · injection e with e1 _ _
    subst e1
    exact ⟨g, rfl⟩
theorem FldAt.doneE {s len j cnt i : Nat} {ev ev' : Nat → Ev} {l l' l0 : List UInt8} {q q' q0 : Bool} {fs : List Fld} (h : FldAt s len ev l q j cnt i fs l' q') (hi : i = cnt ∨ q' = true) (h0 : DataAt s len ev l q j ev' l0 q0) (hj : j < len) (hz : ∀ i, s ≤ i → i < s + len → (ev i).data = []) : DataAt s len ev l q (j + 1) (upd ev' (s + j) { ev' (s + j) with data := fs }) l' q' := by
  rcases hi with rfl | hi
  · exact h.done h0 hj hz
  · refine ⟨h.up, fun i h1 h2 => by rw [upd_ne (by omega)]; exact h0.none i (by omega) h2, fun i hi => by rw [upd_ne (by omega)]; exact h0.out i hi, fun es t hp => ?_⟩
    have := (h.whole es t hp (es[j]'(by rw [hp.len]; exact hj)) (List.getElem?_eq_getElem _)).1
    rw [hi] at this; cases this
theorem De.le {lo L L' g : Nat} (h : L ≤ L') : ∀ b, De lo L g b → De lo L' g b := fun b hb => ⟨hb.1, Nat.lt_of_lt_of_le hb.2.1 h, hb.2.2⟩
theorem De.one {lo L g R : Nat} {w : World} (hs : L ≤ w.heap.size) (hR : R < lo) : ∀ b, De lo L g b → b < w.heap.size ∧ ¬ One R b := fun b hb => ⟨Nat.lt_of_lt_of_le hb.2.1 hs, ne_one hR hb.1⟩
theorem De.no {lo L g : Nat} {w : World} (hs : L ≤ w.heap.size) : ∀ b, De lo L g b → b < w.heap.size ∧ ¬ False := fun b hb => ⟨Nat.lt_of_lt_of_le hb.2.1 hs, id⟩
theorem De.ge {lo L g : Nat} {w : World} (hs : L ≤ w.heap.size) : ∀ b, De lo L g b → b < w.heap.size ∧ ¬ L ≤ b := fun b hb => ⟨Nat.lt_of_lt_of_le hb.2.1 hs, Nat.not_le.2 hb.2.1⟩
theorem flds_finR {B R g N L j p I3 : Nat} {w w17 w5 w6 w' : World} {ev : Nat → Ev} {fs fs' : List Fld} {dv vb : Value} {all : List UInt8} {q3 : Bool} (hB : B ≤ R) (hRl : R < w.heap.size) (hgl : w.heap.size ≤ g) (hgL : g < L) (hL : w.heap.size ≤ L) (hL17 : L ≤ w17.heap.size) (hj : j < N) (hp : j * 6 = p)
    (hC : Chg (One R) w w17) (hC5 : Chg (One R) w17 w5) (hC6 : Chg (One R) w5.drew w6) (hR6 : RdR B w6 R all I3 q3) (hX6 : EvX w6 g N (upd ev j { ev j with data := fs }) (De w.heap.size L g) j dv) (hC7 : Chg (fun i => L ≤ i) w6 w')
    (hO7 : OwnFs w' L vb fs') :
    RdR B (w'.setCell ⟨g, p + 5, none⟩ vb) R all I3 q3 ∧ EvX (w'.setCell ⟨g, p + 5, none⟩ vb) g N (upd ev j { ev j with data := fs' }) (De w.heap.size L g) j vb ∧ OwnFs (w'.setCell ⟨g, p + 5, none⟩ vb) L vb fs' ∧ L ≤ (w'.setCell ⟨g, p + 5, none⟩ vb).heap.size ∧ Chg (One R) w (w'.setCell ⟨g, p + 5, none⟩ vb) := by
  subst hp
  have hC56 : Chg (One R) w17 w6 := hC5.trans ((Chg.refl.drew).trans hC6)
  have h6 : L ≤ w6.heap.size := Nat.le_trans hL17 hC56.size
  have hX7 := (hX6.chg hC7 (by omega) (De.ge h6)).set5 hj (fun h => h.2.2 rfl) vb fs'
  refine ⟨(hR6.chg hC7 (by have := hR6.lt; omega) (by omega) (fun i hi => by omega)).far hB (p := ⟨g, j * 6 + 5, none⟩) ⟨by show g ≠ R; omega, by show B ≤ g; omega⟩ vb, hX7.ext fun i => ?_, ownW_chg hO7 (Chg.set (S := fun i => i = g) Chg.refl (p := ⟨g, j * 6 + 5, none⟩) (.inr rfl) vb) (fun b h1 _ => by omega), ?_, ?_⟩
  · by_cases e : i = j
    · subst e
      rw [upd_same, upd_same, upd_same]
    · rw [upd_ne e, upd_ne e, upd_ne e]
  · rw [World.size_setCell]; exact Nat.le_trans h6 hC7.size
  · refine (Chg.next (hC.trans hC56) ?_).set (p := ⟨g, j * 6 + 5, none⟩) (.inl hgl) vb
    exact hC7.mono fun i _ h => .inr (by omega)
theorem drewR {B R I : Nat} {w : World} {all : List UInt8} {q : Bool} (h : RdR B w R all I q) (hB : B ≤ R) : RdR B w.drew R all I q := h.chg (S := fun _ => False) (Chg.refl.drew) (by have := h.lt; omega) id (fun _ _ => id)
-- WALK
set_option maxHeartbeats 4000000 in
set_option maxRecDepth 100000 in
theorem rrBlk_any (B R I len : Nat) (zl : Int) (all : List UInt8) (q : Bool) (w : World) (h : RdR B w R all I q) (hB : B ≤ R) (hal : all.length ≤ 1000000) (hlen : len ≤ 100) (hzl : zl = (len : Int)) :
    Calls Tryz.prog 34 #[.pointer (some ⟨R, 0, none⟩), .int .i64 zl] w (RetBR B R len all I q w) := by
  subst hzl
  have HRl := Lib.hid h.lt
  obtain ⟨w1, hmk, hO1, hb1⟩ := make_strs w
  have HN := Lib.hid (rrNum_z B R I 300 300 rfl all q w1 (h.now hB hb1) hB)
  have HO1 := Lib.hid hO1
  have HC1 : Hid (Chg (One R) w w1) := Lib.hid (Chg.of_below hb1)
  clear h hO1 hb1
  go_enter Tryz.func34, Tryz.ntmps34
  go_wp2_with fail
  (with_reducible refine HN.out.mono ?_)
  rintro _ w2 ⟨cnt, I1, q1, rfl, hR2, hI1, hG2, hC2⟩
  have hcl := hG2.le' (most := 300)
  have HR2 := Lib.hid hR2
  have HC2 := Lib.hid (HC1.out.trans hC2)
  have HO2 := Lib.hid (OwnS.chg HO1.out hC2 (fun b h1 _ => ne_one HRl.out h1))
  have HA2 := Lib.hid (WordsR.start hlen hG2)
  clear hR2 hG2 hC2 HN hmk HO1 HC1
  go_wp2_with fail
  go_loopw [5, 7] (fun ov iv wr => ∃ (i : Nat) (ws : List Bs) (I2 : Nat) (q2 : Bool), iv = .int .i64 (i : Int) ∧ i ≤ cnt ∧ Hid (OwnS wr w.heap.size ov ws) ∧ Hid (RdR B wr R all I2 q2) ∧ I ≤ I2 ∧ Hid (Chg (One R) w wr) ∧ Hid (WordsR len (all.drop I) q cnt i ws (all.drop I2) q2)) (fun _ iv _ => cnt - (intOf iv).toNat)
  case atStart => exact ⟨0, [], I1, q1, rfl, Nat.zero_le _, HO2, HR2, hI1, HC2, HA2⟩
  case round =>
    obtain ⟨i, ws, I2, q2, rfl, hi, HO, HR, hI2, HC, HA⟩ := hrel
    obtain ⟨wo, rfl⟩ : ∃ wo, wo = wr := ⟨wr, rfl⟩
    obtain ⟨b0, o0, k0, hK, _, _, _, _⟩ := HR.out
    obtain ⟨d0, d1, d2⟩ := hK.c3
    obtain ⟨Av, cv, rfl⟩ := OwnS.isSlice HO.out
    clear hK
    go_upto_region 4 with fail
    go_cut [31] from 22 to 38 (fun v W => v = .bool (decide (i < cnt) && !q2) ∧ W = wo)
    case first =>
      by_cases hlt : i < cnt
      · have z1 : (i : Int) < (cnt : Int) := by omega
        have HZ : Hid (decide (i < cnt) = true) := Lib.hid (by simpa using hlt)
        clear hlt
        go_wp2_with fail
        go_meet
        exact ⟨by rw [HZ.out]; rfl, rfl⟩
      · have z1 : ¬ (i : Int) < (cnt : Int) := by omega
        have HZ : Hid (decide (i < cnt) = false) := Lib.hid (by simpa using hlt)
        clear hlt
        go_wp2_with fail
        go_meet
        exact ⟨by rw [HZ.out]; rfl, rfl⟩
    case rest =>
      obtain ⟨rfl, rfl⟩ := hcut
      obtain ⟨cnd, hcnd⟩ : ∃ cnd, (decide (i < cnt) && !q2) = cnd := ⟨_, rfl⟩
      have HCND := Lib.hid hcnd
      rw [hcnd]
      clear hcnd d0 d1 d2
      cases cnd
      · have HEX : Hid (i = cnt ∨ q2 = true) := Lib.hid (by
          have := HCND.out
          cases q2
          · left; simp at this; omega
          · right; rfl)
        have hwl : ws.length < 100000 := by have := HA.out.count; omega
        have HN1 := Lib.hid (rrRuns_any B R I2 len ws.length len ws.length all q2 wc HR.out hB (by omega) hwl rfl rfl)
        clear HCND
        go_wp2_with fail
        (with_reducible refine HN1.out.mono ?_)
        rintro _ w3 ⟨va, ca, I3, q3, rfl, hoa, hR3, hI3, hg3, hC3⟩
        have HN2 := Lib.hid (rrRuns_any B R I3 len ws.length len ws.length all q3 w3 hR3 hB (by omega) hwl rfl rfl)
        have HG3 := Lib.hid hg3
        have HC3 := Lib.hid hC3
        have HOA := Lib.hid hoa
        have hs3 := hC3.size
        clear hR3 hg3 hC3 hoa HN1
        go_wp2_with fail
        (with_reducible refine HN2.out.mono ?_)
        rintro _ w4 ⟨vb, cb, I4, q4, rfl, hob, hR4, hI4, hg4, hC4⟩
        have HN3 := Lib.hid (rrRuns_any B R I4 len ws.length len ws.length all q4 w4 hR4 hB (by omega) hwl rfl rfl)
        have HG4 := Lib.hid hg4
        have HC4 := Lib.hid hC4
        have HOB := Lib.hid hob
        have hs4 := hC4.size
        clear hR4 hg4 hC4 hob HN2
        go_wp2_with fail
        (with_reducible refine HN3.out.mono ?_)
        rintro _ w5 ⟨vc, cc, I5, q5, rfl, hoc, hR5, hI5, hg5, hC5⟩
        have HN4 := Lib.hid (rrRuns_any B R I5 len 7 len 7 all q5 w5 hR5 hB (by omega) (by omega) rfl rfl)
        have HG5 := Lib.hid hg5
        have HC5 := Lib.hid hC5
        have HOC := Lib.hid hoc
        have hs5 := hC5.size
        clear hR5 hg5 hC5 hoc HN3
        go_wp2_with fail
        (with_reducible refine HN4.out.mono ?_)
        rintro _ w6 ⟨vd, cd, I6, q6, rfl, hod, hR6, hI6, hg6, hC6⟩
        have hs6 := hC6.size
        have hsz2 := HC.out.size
        have HCL := Lib.hid (colsR HA.out HEX.out HG3.out HG4.out HG5.out hg6)
        have HC36 := Lib.hid (HC3.out.trans (HC4.out.trans (HC5.out.trans hC6)))
        have HC6 := Lib.hid (HC.out.trans HC36.out)
        have HR6 := Lib.hid hR6
        have hRl := HRl.out
        have hwa := OwnN.chg HOA.out (HC4.out.trans (HC5.out.trans hC6)) (fun b h1 _ => ne_one hRl (by omega))
        have hwb := OwnN.chg HOB.out (HC5.out.trans hC6) (fun b h1 _ => ne_one hRl (by omega))
        have hwc := OwnN.chg HOC.out hC6 (fun b h1 _ => ne_one hRl (by omega))
        have hww := OwnS.chg HO.out HC36.out (fun b h1 _ => ne_one hRl h1)
        obtain ⟨Aa, na, rfl⟩ := OwnN.isSlice hwa
        obtain ⟨Ab, nb, rfl⟩ := OwnN.isSlice hwb
        obtain ⟨Ac, nc, rfl⟩ := OwnN.isSlice hwc
        obtain ⟨Ad, nd, rfl⟩ := OwnN.isSlice hod
        have HWA := Lib.hid hwa
        have HWB := Lib.hid hwb
        have HWC := Lib.hid hwc
        have HWD := Lib.hid hod
        have HWW := Lib.hid hww
        have hI26 : I ≤ I6 := by omega
        clear hwa hwb hwc hod hww hR6 hg6 hC6 HN4 HOA HOB HOC HG3 HG4 HG5 HC3 HC4 HC5 HC36 HO HA HEX HR HC HR2 HC2 HO2 HA2
        go_wp2_with fail
        go_loopw [12, 13, 14] (fun ov tv iv wr => ∃ (j T : Nat) (xs : List Ev) (I7 : Nat) (q7 : Bool), iv = .int .i64 (j : Int) ∧ tv = .int .i64 (T : Int) ∧ j ≤ len ∧ T ≤ j * 1099511627776 ∧ Hid (OwnEvs wr w6.heap.size ov xs) ∧ Hid (RdR B wr R all I7 q7) ∧ I ≤ I7 ∧ Hid (Chg (One R) w6 wr) ∧ Hid (TimeR len (all.drop I) q j T xs (all.drop I7) q7) ∧ Hid (q7 = false → q6 = false)) (fun _ _ iv _ => len - (intOf iv).toNat)
        case atStart => exact ⟨0, 0, [], I6, q6, rfl, rfl, Nat.zero_le _, Nat.zero_le _, Lib.hid OwnW.nil, HR6, hI26, Lib.hid Chg.refl, Lib.hid HCL.out.start, Lib.hid id⟩
        case round =>
          obtain ⟨j, T, xs, I7, q7, rfl, rfl, hj, hT, HO, HR, hI7, HC, HA, HQ⟩ := hrel
          obtain ⟨wp, rfl⟩ : ∃ wp, wp = wr := ⟨wr, rfl⟩
          obtain ⟨b0, o0, k0, hK, _, _, _, _⟩ := HR.out
          obtain ⟨d0, d1, d2⟩ := hK.c3
          obtain ⟨Ax, cx, rfl⟩ := OwnEvs.isSlice HO.out
          clear hK
          go_upto_region 12 with fail
          go_cut [66] from 57 to 102 (fun v W => v = .bool (decide (j < len) && !q7) ∧ W = wp)
          case first =>
            by_cases hlt : j < len
            · have z1 : (j : Int) < (len : Int) := by omega
              have HZ : Hid (decide (j < len) = true) := Lib.hid (by simpa using hlt)
              clear hlt
              go_wp2_with fail
              go_meet
              exact ⟨by rw [HZ.out]; rfl, rfl⟩
            · have z1 : ¬ (j : Int) < (len : Int) := by omega
              have HZ : Hid (decide (j < len) = false) := Lib.hid (by simpa using hlt)
              clear hlt
              go_wp2_with fail
              go_meet
              exact ⟨by rw [HZ.out]; rfl, rfl⟩
          case rest =>
            obtain ⟨rfl, rfl⟩ := hcut
            obtain ⟨cnd, hcnd⟩ : ∃ cnd, (decide (j < len) && !q7) = cnd := ⟨_, rfl⟩
            have HCND := Lib.hid hcnd
            rw [hcnd]
            clear hcnd d0 d1 d2
            cases cnd
            · have HEX : Hid (j = len ∨ q7 = true) := Lib.hid (by
                have := HCND.out
                cases q7
                · left; simp at this; omega
                · right; rfl)
              by_cases hgo : q7 = false ∧ 0 < len
              · obtain ⟨rfl, hl0⟩ := hgo
                have hjl : j = len := by rcases HEX.out with h | h; exact h; cases h
                have hxl : xs.length = len := by rw [← hjl]; exact HA.out.count
                obtain ⟨g, cg, hv, hgb, hxc, hcm, -⟩ := OwnEvs.evF (D := fun _ => False) HO.out (by omega) HA.out.fit
                obtain ⟨g', cg', hv', -, -, -, hE⟩ := OwnEvs.evF (D := De w.heap.size wc.heap.size g) HO.out (by omega) HA.out.fit
                injection hv with hv1 hv2 hv3
                subst hv1 hv3
                injection hv' with hv1 hv2 hv3
                injection hv1 with hv1
                injection hv1 with hv1 _ _
                subst hv1
                have HXL := Lib.hid hxl
                have hDA := HA.out.done (.inl hjl) hj
                have HDA := Lib.hid hDA
                have hgs : g < wc.heap.size := hE.lt
                have hwg : w.heap.size ≤ g := by omega
                have HE := Lib.hid hE
                have HCW := Lib.hid (HC6.out.trans HC.out)
                clear hE hDA hv2 hv3 hxl hjl HEX HA HO HC HCL HQ
                generalize xs.length = NN at *
                generalize (fun i => xs.getD i zeroEv) = evs at *
                go_wp2_with fail
                go_loopw [15] (fun iv wr => ∃ (j : Nat) (ev' : Nat → Ev) (I8 : Nat) (q8 : Bool), iv = .int .i64 (j : Int) ∧ j ≤ len ∧ Hid (RdR B wr R all I8 q8) ∧ I ≤ I8 ∧ Hid (EvF wr g NN ev' (De w.heap.size wr.heap.size g)) ∧ Hid (Chg (One R) w wr) ∧ Hid (DataAt 0 len (fun _ => zeroEv) (all.drop I) q j ev' (all.drop I8) q8)) (fun iv _ => len - (intOf iv).toNat)
                case atStart => exact ⟨0, _, I7, false, rfl, Nat.zero_le _, HR, hI7, HE, HCW, HDA⟩
                case round =>
                  obtain ⟨j, ev1, I8, q8, rfl, hj, HR, hI8, HE, HC, HA⟩ := hrel
                  obtain ⟨wq, rfl⟩ : ∃ wq, wq = wr := ⟨wr, rfl⟩
                  obtain ⟨b0, o0, k0, hK, _, _, _, _⟩ := HR.out
                  obtain ⟨d0, d1, d2⟩ := hK.c3
                  clear hK
                  go_upto_region 17 with fail
                  go_cut [112] from 103 to 145 (fun v W => v = .bool (decide (j < len) && !q8) ∧ W = wq)
                  case first =>
                    by_cases hlt : j < len
                    · have z1 : (j : Int) < (len : Int) := by omega
                      have HZ : Hid (decide (j < len) = true) := Lib.hid (by simpa using hlt)
                      clear hlt
                      go_wp2_with fail
                      go_meet
                      exact ⟨by rw [HZ.out]; rfl, rfl⟩
                    · have z1 : ¬ (j : Int) < (len : Int) := by omega
                      have HZ : Hid (decide (j < len) = false) := Lib.hid (by simpa using hlt)
                      clear hlt
                      go_wp2_with fail
                      go_meet
                      exact ⟨by rw [HZ.out]; rfl, rfl⟩
                  case rest =>
                    obtain ⟨rfl, rfl⟩ := hcut
                    obtain ⟨cnd, hcnd⟩ : ∃ cnd, (decide (j < len) && !q8) = cnd := ⟨_, rfl⟩
                    have HCND := Lib.hid hcnd
                    rw [hcnd]
                    clear hcnd d0 d1 d2
                    cases cnd
                    · have HEX : Hid (j = len ∨ q8 = true) := Lib.hid (by
                        have := HCND.out
                        cases q8
                        · left; simp at this; omega
                        · right; rfl)
                      have HSL := Lib.hid (HE.out.sl (c := cx) (D' := fun b => w.heap.size ≤ b ∧ b < wc.heap.size) hxc (by unfold maxLen at hcm; exact hcm) ⟨hwg, HE.out.lt⟩ (fun b hb => ⟨hb.1, hb.2.1⟩))
                      have HFIN : Hid (GotBR len (all.drop I) q ((List.range NN).map ev1) (all.drop I8) q8) := Lib.hid ⟨HA.out.up, by rw [List.length_map, List.length_range, HXL.out]; exact Nat.le_refl _, fun es t hp => by
                        obtain ⟨e1, e2, e3, -⟩ := HA.out.whole es t hp
                        rcases HEX.out with h | h
                        · refine ⟨e1, ?_, ?_⟩
                          · apply List.ext_getElem
                            · rw [List.length_map, List.length_range, HXL.out, hp.len]
                            · intro i h1 h2
                              rw [List.getElem_map, List.getElem_range]
                              have := e3 i es[i] (by rw [hp.len] at h2; omega) (List.getElem?_eq_getElem h2)
                              rw [Nat.zero_add] at this
                              exact this
                          · rw [e2, List.drop_eq_nil_of_le (by rw [hp.len]; omega)]; rfl
                        · rw [e1] at h; cases h⟩
                      clear HCND
                      go_wp2_with fail
                      go_ret
                      exact ⟨_, _, I8, q8, rfl, HSL.out, HR.out, hI8, HFIN.out, HC.out⟩
                    · have hlt : j < len := by have := HCND.out; simp at this; exact this.1
                      have hq8 : q8 = false := by have := HCND.out; simp at this; exact this.2
                      subst hq8
                      have HN := Lib.hid (rrNum_z B R I8 8 8 rfl all false wc HR.out hB)
                      have hjN : 0 + j < NN := by have := HXL.out; omega
                      have hpos : (0 + j) * 6 = j * 6 := by omega
                      have hsq := HC.out.size
                      have hgq : g < wc.heap.size := HE.out.lt
                      clear HCND
                      go_wp2_with fail
                      (with_reducible refine HN.out.mono ?_)
                      rintro _ w8 ⟨cnt2, I9, q9, rfl, hR8, hI9, hg8, hC8⟩
                      have hcl2 := hg8.le' (most := 8)
                      have HR8 := Lib.hid hR8
                      have hnone := HA.out.none j (Nat.le_refl _) hlt
                      have HX8 := Lib.hid (((HE.out.open_ hjN hnone).chg hC8 (ne_one hRl hwg) (De.one (Nat.le_refl _) hRl)).ext (ev' := upd ev1 (0 + j) { ev1 (0 + j) with data := [] }) (fun i => by
                        by_cases e : i = 0 + j
                        · subst e
                          rw [upd_same]
                          generalize ev1 (0 + j) = x at hnone
                          cases x
                          simp only at hnone
                          rw [hnone]
                        · rw [upd_ne e]))
                      have HC8 := Lib.hid (HC.out.trans hC8)
                      have HFA := Lib.hid (HA.out.start (hg8.toN (most := 8) (drop_short hI9)))
                      have hsz8 := hC8.size
                      clear hR8 hg8 hC8 HN hnone
                      go_wp2_with fail
                      go_loopw [17] (fun xv wr => ∃ (i : Nat) (fs : List Fld) (dv : Value) (I10 : Nat) (q10 : Bool), xv = .int .i64 (i : Int) ∧ i ≤ cnt2 ∧ Hid (RdR B wr R all I10 q10) ∧ I ≤ I10 ∧ Hid (EvX wr g NN (upd ev1 (0 + j) { ev1 (0 + j) with data := fs }) (De w.heap.size wc.heap.size g) (0 + j) dv) ∧ Hid (OwnFs wr wc.heap.size dv fs) ∧ Hid (fs = [] → dv = .slice none 0 0) ∧ wc.heap.size ≤ wr.heap.size ∧ Hid (Chg (One R) w wr) ∧ Hid (FldAt 0 len (fun _ => zeroEv) (all.drop I) q j cnt2 i fs (all.drop I10) q10)) (fun xv _ => cnt2 - (intOf xv).toNat)
                      case atStart => exact ⟨0, [], .slice none 0 0, I9, q9, rfl, Nat.zero_le _, HR8, by omega, HX8, Lib.hid OwnW.nil, Lib.hid (fun _ => rfl), hsz8, HC8, HFA⟩
                      case round =>
                        obtain ⟨i, fs, dv, I10, q10, rfl, hi, HRr, hI10, HXr, HOr, HNr, hszr, HCr, HFr⟩ := hrel
                        obtain ⟨w17, rfl⟩ : ∃ w17, w17 = wr := ⟨wr, rfl⟩
                        obtain ⟨b0, o0, k0, hK, _, _, _, _⟩ := HRr.out
                        obtain ⟨d0, d1, d2⟩ := hK.c3
                        clear hK
                        obtain ⟨wcc, hwcc⟩ : ∃ wcc, wc = wcc := ⟨_, rfl⟩
                        rw [hwcc] at HXr HOr hszr hsq hgq HE HR HC HX8 hsz8 ⊢
                        go_upto_region 21 with fail
                        go_cut [126] from 117 to 145 (fun v W => v = .bool (decide (i < cnt2) && !q10) ∧ W = w17)
                        case first =>
                          by_cases hlt : i < cnt2
                          · have z1 : (i : Int) < (cnt2 : Int) := by omega
                            have HZ : Hid (decide (i < cnt2) = true) := Lib.hid (by simpa using hlt)
                            clear hlt
                            go_wp2_with fail
                            go_meet
                            exact ⟨by rw [HZ.out]; rfl, rfl⟩
                          · have z1 : ¬ (i : Int) < (cnt2 : Int) := by omega
                            have HZ : Hid (decide (i < cnt2) = false) := Lib.hid (by simpa using hlt)
                            clear hlt
                            go_wp2_with fail
                            go_meet
                            exact ⟨by rw [HZ.out]; rfl, rfl⟩
                        case rest =>
                          obtain ⟨rfl, rfl⟩ := hcut
                          obtain ⟨cnd, hcnd⟩ : ∃ cnd, (decide (i < cnt2) && !q10) = cnd := ⟨_, rfl⟩
                          have HCND := Lib.hid hcnd
                          rw [hcnd]
                          clear hcnd d0 d1 d2
                          cases cnd
                          · have HEX : Hid (i = cnt2 ∨ q10 = true) := Lib.hid (by
                              have := HCND.out
                              cases q10
                              · left; simp at this; omega
                              · right; rfl)
                            have HSH : Hid (EvF wc g NN (upd ev1 (0 + j) { ev1 (0 + j) with data := fs }) (De w.heap.size wc.heap.size g)) := Lib.hid (HXr.out.shut (by rw [upd_same]; exact HOr.out.slD HFr.out.fit (fun b h1 h2 => ⟨by omega, h2, by omega⟩)) (by rw [upd_same]; exact HNr.out) (De.le hszr))
                            have HD2 := Lib.hid (HFr.out.doneE HEX.out HA.out hlt (fun _ _ _ => rfl))
                            clear HCND
                            go_wp2_with fail
                            go_roundw
                            case rel => exact ⟨j + 1, _, I10, q10, by go_num, by omega, HRr, hI10, HSH, HCr, HD2⟩
                            case measure => simp [intOf]; omega
                          · have hlt2 : i < cnt2 := by have := HCND.out; simp at this; exact this.1
                            have hq10 : q10 = false := by have := HCND.out; simp at this; exact this.2
                            subst hq10
                            obtain ⟨Ad, cd2, rfl⟩ := OwnFs.isSlice HOr.out
                            have HTX := Lib.hid (rrText_any B R I10 all false wc HRr.out hB hal)
                            have hol : fs.length < 10000000 := by have := HFr.out.count; omega
                            have y1 : (j : Int) < (NN : Int) := by omega
                            clear HCND
                            go_wp2_with fail
                            (with_reducible refine HTX.out.mono ?_)
                            rintro _ w5 ⟨sx, I11, q11, rfl, hR5, hI11, hG5, hC5⟩
                            have hs5 : wcc.heap.size ≤ w5.heap.size := Nat.le_trans hszr hC5.size
                            have hX5 := HXr.out.chg hC5 (ne_one hRl hwg) (De.one hszr hRl)
                            have e5 := hX5.at5' hjN hpos
                            have hO5 := ownW_chg HOr.out hC5 (fun b h1 _ => ne_one hRl (by omega))
                            have HVX := Lib.hid (rrVal_any B R I11 all q11 w5.drew (drewR hR5 hB) hB hal)
                            have HG5 := Lib.hid hG5
                            have HC5 := Lib.hid hC5
                            clear hG5 HTX
                            go_upto_region 24 with fail
                            go_region_law (first
                              | (refine step_push appFlds rfl (.tmp 137) (.tmp 142) rfl _ (fldC ⟨sx, vx⟩) rfl (fldC_one _) _ fs.length (flat fldC fs) rfl hO6 rfl hol hs6 ?_; intro v' w' hown' hgr hat; obtain ⟨A7, c7, rfl, hO7, hC7⟩ := flds_pushed hown' hgr hO6; have hX7 := hX6.chg hC7 (Nat.not_le.2 hgq) (De.ge hs6); have f7 := hX7.frozen (j * 6 + 5); have e7 := hX7.at5' hjN hpos)
                              | (go_simp; go_at_call 54; (with_reducible refine HVX.out.mono ?_); rintro _ w6 ⟨vx, I12, q12, rfl, hR6, hI12, hG6, hC6⟩; have hs6 := Nat.le_trans hs5 hC6.size; have hX6 := (drew_x hX5).chg hC6 (ne_one hRl hwg) (De.one hs5 hRl); have e6 := hX6.at5' hjN hpos; have hO6 := ownW_chg (drew_fs hO5) hC6 (fun b h1 _ => ne_one hRl (Nat.le_trans hsq h1)); have z6 := fun ob => EvX.at5' (hX6.chg (S := fun _ => False) (Chg.of_below (bone w6 ob)) id (De.no hs6)) hjN hpos))
                            all_goals
                              have hfin := flds_finR (fs' := fs ++ [⟨sx, vx⟩]) hB hRl hwg hgq hsq hszr hjN hpos HCr.out HC5.out hC6 hR6 hX6 hC7 hO7
                              rw [show (fs ++ [(⟨sx, vx⟩ : Fld)]).length = fs.length + 1 by rw [List.length_append]; rfl] at hfin
                              have HF := Lib.hid hfin
                              have HG := Lib.hid (HFr.out.stepR hlt2 HG5.out hG6)
                              clear hfin hX6 hX7 hO6 hO7 hC6 hC7 hR6 hG6 e6 e7 z6 f7
                              go_wp2_with fail
                              go_roundw
                              case rel => exact ⟨i + 1, fs ++ [⟨sx, vx⟩], _, I12, q12, by go_num, by omega, Lib.hid HF.out.1, by omega, Lib.hid HF.out.2.1, Lib.hid HF.out.2.2.1, Lib.hid (fun h => absurd h (by simp)), HF.out.2.2.2.1, Lib.hid HF.out.2.2.2.2, HG⟩
                              case measure => simp [intOf]; omega
              · have HFIN : Hid (GotBR len (all.drop I) q xs (all.drop I7) q7) := Lib.hid ⟨HA.out.up, by rw [HA.out.count]; exact hj, fun es t hp => by
                  obtain ⟨e1, e2, -, -⟩ := HA.out.whole es t hp
                  have hl0 : len = 0 := by
                    rcases Nat.eq_zero_or_pos len with h | h
                    · exact h
                    · exact absurd ⟨e1, h⟩ hgo
                  have he : es = [] := List.eq_nil_of_length_eq_zero (by rw [hp.len, hl0])
                  have hx : xs = [] := List.eq_nil_of_length_eq_zero (by rw [HA.out.count]; omega)
                  subst he hx
                  refine ⟨e1, rfl, ?_⟩
                  rw [e2]
                  simp [arTimes]⟩
                have HSL := Lib.hid (HO.out.slD (D := fun b => w.heap.size ≤ b ∧ b < wc.heap.size) HA.out.fit (fun b h1 h2 => ⟨by omega, h2⟩))
                have HCF := Lib.hid (HC6.out.trans HC.out)
                go_wp2_with fail
                go_loopw [15] (fun iv wr => iv = .int .i64 0 ∧ wr = wc) (fun _ _ => 0)
                case atStart => exact ⟨rfl, rfl⟩
                case round =>
                  obtain ⟨rfl, rfl⟩ := hrel
                  obtain ⟨b0, o0, k0, hK, _, _, _, _⟩ := HR.out
                  obtain ⟨d0, d1, d2⟩ := hK.c3
                  clear hK
                  by_cases hl0 : 0 < len
                  · have hq : q7 = true := by
                      cases q7
                      · exact absurd ⟨rfl, hl0⟩ hgo
                      · rfl
                    subst hq
                    have z1 : (0 : Int) < (len : Int) := by omega
                    clear hgo
                    go_wp2_with fail
                    go_ret
                    exact ⟨_, xs, I7, true, rfl, HSL.out, HR.out, hI7, HFIN.out, HCF.out⟩
                  · have z1 : ¬ (0 : Int) < (len : Int) := by omega
                    clear hgo hl0
                    go_wp2_with fail
                    go_ret
                    exact ⟨_, xs, I7, q7, rfl, HSL.out, HR.out, hI7, HFIN.out, HCF.out⟩
            · have hlt : j < len := by have := HCND.out; simp at this; exact this.1
              have hq7 : q7 = false := by have := HCND.out; simp at this; exact this.2
              subst hq7
              obtain ⟨l1, l2, l3, l4⟩ := HCL.out.full (HQ.out rfl)
              have HN := Lib.hid (rrNum_z B R I7 1099511627776 1099511627776 rfl all false wc HR.out hB)
              have HLL := Lib.hid (And.intro l1 (And.intro l2 (And.intro l3 l4)))
              clear HCND l1 l2 l3 l4
              go_wp2_with fail
              (with_reducible refine HN.out.mono ?_)
              rintro _ w8 ⟨n, I8, q8, rfl, hR8, hI8, hg8, hC8⟩
              have hnl := hg8.le' (most := 1099511627776)
              obtain ⟨l1, l2, l3, l4⟩ := HLL.out
              have hC68 := HC.out.trans hC8
              have hoa := OwnN.chg HWA.out hC68 (fun b h1 _ => ne_one hRl (by omega))
              have hob := OwnN.chg HWB.out hC68 (fun b h1 _ => ne_one hRl (by omega))
              have hoc := OwnN.chg HWC.out hC68 (fun b h1 _ => ne_one hRl (by omega))
              have hod := OwnN.chg HWD.out hC68 (fun b h1 _ => ne_one hRl (by omega))
              have how := OwnS.chg HWW.out hC68 (fun b h1 _ => ne_one hRl h1)
              have hox : OwnEvs w8 w6.heap.size (.slice Ax xs.length cx) xs := ownW_chg HO.out hC8 (fun b h1 _ => ne_one hRl (by omega))
              obtain ⟨ga, rfl⟩ := OwnN.form hoa (by omega)
              obtain ⟨gb, rfl⟩ := OwnN.form hob (by omega)
              obtain ⟨gc, rfl⟩ := OwnN.form hoc (by omega)
              obtain ⟨gd, rfl⟩ := OwnN.form hod (by omega)
              obtain ⟨x, hx⟩ : ∃ x, ca[j]? = some x := ⟨_, List.getElem?_eq_getElem (by omega)⟩
              obtain ⟨y, hy⟩ : ∃ y, cb[j]? = some y := ⟨_, List.getElem?_eq_getElem (by omega)⟩
              obtain ⟨z, hz⟩ : ∃ z, cc[j]? = some z := ⟨_, List.getElem?_eq_getElem (by omega)⟩
              obtain ⟨d, hd⟩ : ∃ d, cd[j]? = some d := ⟨_, List.getElem?_eq_getElem (by omega)⟩
              have bx := HCL.out.ba x (List.mem_of_getElem? hx)
              have by_ := HCL.out.bb y (List.mem_of_getElem? hy)
              have bz := HCL.out.bc z (List.mem_of_getElem? hz)
              obtain ⟨gw, rfl, _, _⟩ := OwnS.form how (by omega)
              have a0 := hoa.cell hx
              have a1 := hob.cell hy
              have a2 := hoc.cell hz
              have a3 := hod.cell hd
              have a4 := how.word bx
              have a5 := how.word by_
              have a6 := how.word bz
              have p1 : (j : Int) < (ca.length : Int) := by omega
              have p2 : (j : Int) < (cb.length : Int) := by omega
              have p3 : (j : Int) < (cc.length : Int) := by omega
              have p4 : (j : Int) < (cd.length : Int) := by omega
              have p5 : (x : Int) < (ws.length : Int) := by omega
              have p6 : (y : Int) < (ws.length : Int) := by omega
              have p7 : (z : Int) < (ws.length : Int) := by omega
              have p8 : (0 : Int) ≤ (j : Int) := by omega
              have p9 : (0 : Int) ≤ (x : Int) := by omega
              have p10 : (0 : Int) ≤ (y : Int) := by omega
              have p11 : (0 : Int) ≤ (z : Int) := by omega
              have hst := HA.out.step HCL.out hlt (by omega) hx hy hz hd hg8
              rw [Int.natCast_add] at hst
              have HST := Lib.hid hst
              have HOX : Hid (OwnEvs w8.drew w6.heap.size (.slice Ax xs.length cx) xs) := Lib.hid hox
              have HC8 := Lib.hid ((hC68).drew)
              have HR8 : Hid (RdR B w8.drew R all I8 q8) := Lib.hid (hR8.chg (S := fun _ => False) (Chg.refl.drew) (by have := hR8.lt; omega) id (fun _ _ => id))
              have HQ8 : Hid (q8 = false → q6 = false) := Lib.hid (fun _ => HQ.out (by first | rfl | trivial))
              have hol : xs.length < 10000000 := by have := HA.out.count; omega
              have hs8 : w6.heap.size ≤ w8.drew.heap.size := hC68.size
              have hga := (World.ownsRow.lt hoa ga rfl).2
              have hgb := (World.ownsRow.lt hob gb rfl).2
              have hgc := (World.ownsRow.lt hoc gc rfl).2
              have hgd := (World.ownsRow.lt hod gd rfl).2
              have hgw := (World.ownsRow.lt how gw rfl).2
              clear l1 l2 l3 l4 hoa hob hoc hod how hox hx hy hz hd bx by_ bz hg8 hst hR8 hC8 hC68 HN HLL
              have HSS : Hid (∀ W, Below w8.heap.size w8 W → W.cell? ⟨ga, j, none⟩ = some (.int .i64 (x : Int)) ∧ W.cell? ⟨gb, j, none⟩ = some (.int .i64 (y : Int)) ∧ W.cell? ⟨gc, j, none⟩ = some (.int .i64 (z : Int)) ∧ W.cell? ⟨gd, j, none⟩ = some (.int .i64 (d : Int)) ∧ W.cell? ⟨gw, x, none⟩ = some (.string (wordAt (ws.map mkS) x)) ∧ W.cell? ⟨gw, y, none⟩ = some (.string (wordAt (ws.map mkS) y)) ∧ W.cell? ⟨gw, z, none⟩ = some (.string (wordAt (ws.map mkS) z))) := Lib.hid (fun W hW => ⟨(hW.cell (p := ⟨ga, j, none⟩) hga).trans a0, (hW.cell (p := ⟨gb, j, none⟩) hgb).trans a1, (hW.cell (p := ⟨gc, j, none⟩) hgc).trans a2, (hW.cell (p := ⟨gd, j, none⟩) hgd).trans a3, (hW.cell (p := ⟨gw, x, none⟩) hgw).trans a4, (hW.cell (p := ⟨gw, y, none⟩) hgw).trans a5, (hW.cell (p := ⟨gw, z, none⟩) hgw).trans a6⟩)
              go_upto_region 15 with fail
              refine wp_region_held_tail 29 (fun W => W.cell? ⟨ga, j, none⟩ = some (.int .i64 (x : Int)) ∧ W.cell? ⟨gb, j, none⟩ = some (.int .i64 (y : Int)) ∧ W.cell? ⟨gc, j, none⟩ = some (.int .i64 (z : Int)) ∧ W.cell? ⟨gd, j, none⟩ = some (.int .i64 (d : Int)) ∧ W.cell? ⟨gw, x, none⟩ = some (.string (wordAt (ws.map mkS) x)) ∧ W.cell? ⟨gw, y, none⟩ = some (.string (wordAt (ws.map mkS) y)) ∧ W.cell? ⟨gw, z, none⟩ = some (.string (wordAt (ws.map mkS) z))) (by kernel_rfl) (by kernel_rfl) (HSS.out _ ((Below.refl _ _).drew)) (fun hHeld => ?_)
              simp only [List.take_succ_cons, List.take_zero]
              refine takeL (v := ?v0) 0 rfl (by kernel_rfl) (by kernel_rfl) (by kernel_rfl) (fun _ _ _ h => h) rfl ?hy0 hHeld ?rest0
              case hy0 => (intro W hW; obtain ⟨a0, a1, a2, a3, a4, a5, a6⟩ := hW; go_simp <;> rfl)
              simp only [Act.put, List.setIfInBounds_toArray, List.set_cons_zero, List.set_cons_succ]
              refine takeL (v := ?v1) 1 rfl (by kernel_rfl) (by kernel_rfl) (by kernel_rfl) (fun _ _ _ h => h) rfl ?hy1 hHeld ?rest1
              case hy1 => (intro W hW; obtain ⟨a0, a1, a2, a3, a4, a5, a6⟩ := hW; go_simp <;> rfl)
              simp only [Act.put, List.setIfInBounds_toArray, List.set_cons_zero, List.set_cons_succ]
              refine takeL (v := ?v2) 2 rfl (by kernel_rfl) (by kernel_rfl) (by kernel_rfl) (fun _ _ _ h => h) rfl ?hy2 hHeld ?rest2
              case hy2 => (intro W hW; obtain ⟨a0, a1, a2, a3, a4, a5, a6⟩ := hW; go_simp <;> rfl)
              simp only [Act.put, List.setIfInBounds_toArray, List.set_cons_zero, List.set_cons_succ]
              refine takeL (v := ?v3) 3 rfl (by kernel_rfl) (by kernel_rfl) (by kernel_rfl) (fun _ _ _ h => h) rfl ?hy3 hHeld ?rest3
              case hy3 => (intro W hW; obtain ⟨a0, a1, a2, a3, a4, a5, a6⟩ := hW; go_simp <;> rfl)
              simp only [Act.put, List.setIfInBounds_toArray, List.set_cons_zero, List.set_cons_succ]
              refine takeL (v := ?v4) 4 rfl (by kernel_rfl) (by kernel_rfl) (by kernel_rfl) (fun _ _ _ h => h) rfl ?hy4 hHeld ?rest4
              case hy4 => (intro W hW; obtain ⟨a0, a1, a2, a3, a4, a5, a6⟩ := hW; go_simp <;> rfl)
              simp only [Act.put, List.setIfInBounds_toArray, List.set_cons_zero, List.set_cons_succ]
              refine takeL (v := ?v5) 5 rfl (by kernel_rfl) (by kernel_rfl) (by kernel_rfl) (fun _ _ _ h => h) rfl ?hy5 hHeld ?rest5
              case hy5 => (intro W hW; obtain ⟨a0, a1, a2, a3, a4, a5, a6⟩ := hW; go_simp <;> rfl)
              simp only [Act.put, List.setIfInBounds_toArray, List.set_cons_zero, List.set_cons_succ]
              refine takeL (v := ?v6) 6 rfl (by kernel_rfl) (by kernel_rfl) (by kernel_rfl) (fun _ _ _ h => h) rfl ?hy6 hHeld ?rest6
              case hy6 => (intro W hW; obtain ⟨a0, a1, a2, a3, a4, a5, a6⟩ := hW; go_simp <;> rfl)
              simp only [Act.put, List.setIfInBounds_toArray, List.set_cons_zero, List.set_cons_succ]
              refine takeL (v := ?v7) 7 rfl (by kernel_rfl) (by kernel_rfl) (by kernel_rfl) (fun _ _ _ h => h) rfl ?hy7 hHeld ?rest7
              case hy7 => (intro W hW; obtain ⟨a0, a1, a2, a3, a4, a5, a6⟩ := hW; go_simp <;> rfl)
              simp only [Act.put, List.setIfInBounds_toArray, List.set_cons_zero, List.set_cons_succ]
              refine takeL (v := ?v8) 8 rfl (by kernel_rfl) (by kernel_rfl) (by kernel_rfl) (fun _ _ _ h => h) rfl ?hy8 hHeld ?rest8
              case hy8 => (intro W hW; obtain ⟨a0, a1, a2, a3, a4, a5, a6⟩ := hW; go_simp <;> rfl)
              simp only [Act.put, List.setIfInBounds_toArray, List.set_cons_zero, List.set_cons_succ]
              refine takeL (v := ?v9) 9 rfl (by kernel_rfl) (by kernel_rfl) (by kernel_rfl) (fun _ _ _ h => h) rfl ?hy9 hHeld ?rest9
              case hy9 => (intro W hW; obtain ⟨a0, a1, a2, a3, a4, a5, a6⟩ := hW; go_simp <;> rfl)
              simp only [Act.put, List.setIfInBounds_toArray, List.set_cons_zero, List.set_cons_succ]
              refine takeL (v := ?v10) 10 rfl (by kernel_rfl) (by kernel_rfl) (by kernel_rfl) (fun _ _ _ h => h) rfl ?hy10 hHeld ?rest10
              case hy10 => (intro W hW; obtain ⟨a0, a1, a2, a3, a4, a5, a6⟩ := hW; go_simp <;> rfl)
              simp only [Act.put, List.setIfInBounds_toArray, List.set_cons_zero, List.set_cons_succ]
              refine takeL (v := ?v11) 11 rfl (by kernel_rfl) (by kernel_rfl) (by kernel_rfl) (fun _ _ _ h => h) rfl ?hy11 hHeld ?rest11
              case hy11 => (intro W hW; obtain ⟨a0, a1, a2, a3, a4, a5, a6⟩ := hW; go_simp <;> rfl)
              simp only [Act.put, List.setIfInBounds_toArray, List.set_cons_zero, List.set_cons_succ]
              refine takeL (v := ?v12) 12 rfl (by kernel_rfl) (by kernel_rfl) (by kernel_rfl) (fun _ _ _ h => h) rfl ?hy12 hHeld ?rest12
              case hy12 => (intro W hW; obtain ⟨a0, a1, a2, a3, a4, a5, a6⟩ := hW; go_simp <;> rfl)
              simp only [Act.put, List.setIfInBounds_toArray, List.set_cons_zero, List.set_cons_succ]
              refine takeL (v := ?v13) 13 rfl (by kernel_rfl) (by kernel_rfl) (by kernel_rfl) (fun _ _ _ h => h) rfl ?hy13 hHeld ?rest13
              case hy13 => (intro W hW; obtain ⟨a0, a1, a2, a3, a4, a5, a6⟩ := hW; go_simp <;> rfl)
              simp only [Act.put, List.setIfInBounds_toArray, List.set_cons_zero, List.set_cons_succ]
              refine takeL (v := ?v14) 14 rfl (by kernel_rfl) (by kernel_rfl) (by kernel_rfl) (fun _ _ _ h => h) rfl ?hy14 hHeld ?rest14
              case hy14 => (intro W hW; obtain ⟨a0, a1, a2, a3, a4, a5, a6⟩ := hW; go_simp <;> rfl)
              simp only [Act.put, List.setIfInBounds_toArray, List.set_cons_zero, List.set_cons_succ]
              refine takeL (v := ?v15) 15 rfl (by kernel_rfl) (by kernel_rfl) (by kernel_rfl) (fun _ _ _ h => h) rfl ?hy15 hHeld ?rest15
              case hy15 => (intro W hW; obtain ⟨a0, a1, a2, a3, a4, a5, a6⟩ := hW; go_simp <;> rfl)
              simp only [Act.put, List.setIfInBounds_toArray, List.set_cons_zero, List.set_cons_succ]
              refine takeL (v := ?v16) 16 rfl (by kernel_rfl) (by kernel_rfl) (by kernel_rfl) (fun _ _ _ h => h) rfl ?hy16 hHeld ?rest16
              case hy16 => (intro W hW; obtain ⟨a0, a1, a2, a3, a4, a5, a6⟩ := hW; go_simp <;> rfl)
              simp only [Act.put, List.setIfInBounds_toArray, List.set_cons_zero, List.set_cons_succ]
              refine takeL (v := ?v17) 17 rfl (by kernel_rfl) (by kernel_rfl) (by kernel_rfl) (fun _ _ _ h => h) rfl ?hy17 hHeld ?rest17
              case hy17 => (intro W hW; obtain ⟨a0, a1, a2, a3, a4, a5, a6⟩ := hW; go_simp <;> rfl)
              simp only [Act.put, List.setIfInBounds_toArray, List.set_cons_zero, List.set_cons_succ]
              refine takeL (v := ?v18) 18 rfl (by kernel_rfl) (by kernel_rfl) (by kernel_rfl) (fun _ _ _ h => h) rfl ?hy18 hHeld ?rest18
              case hy18 => (intro W hW; obtain ⟨a0, a1, a2, a3, a4, a5, a6⟩ := hW; go_simp <;> rfl)
              simp only [Act.put, List.setIfInBounds_toArray, List.set_cons_zero, List.set_cons_succ]
              refine takeL (v := ?v19) 19 rfl (by kernel_rfl) (by kernel_rfl) (by kernel_rfl) (fun _ _ _ h => h) rfl ?hy19 hHeld ?rest19
              case hy19 => (intro W hW; obtain ⟨a0, a1, a2, a3, a4, a5, a6⟩ := hW; go_simp <;> rfl)
              simp only [Act.put, List.setIfInBounds_toArray, List.set_cons_zero, List.set_cons_succ]
              refine takeL (v := ?v20) 20 rfl (by kernel_rfl) (by kernel_rfl) (by kernel_rfl) (fun _ _ _ h => h) rfl ?hy20 hHeld ?rest20
              case hy20 => (intro W hW; obtain ⟨a0, a1, a2, a3, a4, a5, a6⟩ := hW; go_simp <;> rfl)
              simp only [Act.put, List.setIfInBounds_toArray, List.set_cons_zero, List.set_cons_succ]
              refine takeL (v := ?v21) 21 rfl (by kernel_rfl) (by kernel_rfl) (by kernel_rfl) (fun _ _ _ h => h) rfl ?hy21 hHeld ?rest21
              case hy21 => (intro W hW; obtain ⟨a0, a1, a2, a3, a4, a5, a6⟩ := hW; go_simp <;> rfl)
              simp only [Act.put, List.setIfInBounds_toArray, List.set_cons_zero, List.set_cons_succ]
              refine takeL (v := ?v22) 22 rfl (by kernel_rfl) (by kernel_rfl) (by kernel_rfl) (fun _ _ _ h => h) rfl ?hy22 hHeld ?rest22
              case hy22 => (intro W hW; obtain ⟨a0, a1, a2, a3, a4, a5, a6⟩ := hW; go_simp <;> rfl)
              simp only [Act.put, List.setIfInBounds_toArray, List.set_cons_zero, List.set_cons_succ]
              refine takeL (v := ?v23) 23 rfl (by kernel_rfl) (by kernel_rfl) (by kernel_rfl) (fun _ _ _ h => h) rfl ?hy23 hHeld ?rest23
              case hy23 => (intro W hW; obtain ⟨a0, a1, a2, a3, a4, a5, a6⟩ := hW; go_simp <;> rfl)
              simp only [Act.put, List.setIfInBounds_toArray, List.set_cons_zero, List.set_cons_succ]
              refine takeL (v := ?v24) 24 rfl (by kernel_rfl) (by kernel_rfl) (by kernel_rfl) (fun _ _ _ h => h) rfl ?hy24 hHeld ?rest24
              case hy24 => (intro W hW; obtain ⟨a0, a1, a2, a3, a4, a5, a6⟩ := hW; go_simp <;> rfl)
              simp only [Act.put, List.setIfInBounds_toArray, List.set_cons_zero, List.set_cons_succ]
              refine takeL (v := ?v25) 25 rfl (by kernel_rfl) (by kernel_rfl) (by kernel_rfl) (fun _ _ _ h => h) rfl ?hy25 hHeld ?rest25
              case hy25 => (intro W hW; obtain ⟨a0, a1, a2, a3, a4, a5, a6⟩ := hW; go_simp <;> rfl)
              simp only [Act.put, List.setIfInBounds_toArray, List.set_cons_zero, List.set_cons_succ]
              refine takeL (v := ?v26) 26 rfl (by kernel_rfl) (by kernel_rfl) (by kernel_rfl) (fun _ _ _ h => h) rfl ?hy26 hHeld ?rest26
              case hy26 => (intro W hW; obtain ⟨a0, a1, a2, a3, a4, a5, a6⟩ := hW; go_simp <;> rfl)
              simp only [Act.put, List.setIfInBounds_toArray, List.set_cons_zero, List.set_cons_succ]
              refine takeL (v := ?v27) 27 rfl (by kernel_rfl) (by kernel_rfl) (by kernel_rfl) (fun _ _ _ h => h) rfl ?hy27 hHeld ?rest27
              case hy27 => (intro W hW; obtain ⟨a0, a1, a2, a3, a4, a5, a6⟩ := hW; go_simp <;> rfl)
              simp only [Act.put, List.setIfInBounds_toArray, List.set_cons_zero, List.set_cons_succ]
              have hdr : Below w8.heap.size w8 w8.drew := (Below.refl _ _).drew
              generalize w8.drew = W at *
              refine onlyL 28 rfl rfl (by kernel_rfl) (fun K hK => ?_)
              go_simp
              refine hK.out _ _ (HSS.out _ (hdr.alloc hdr.size _)) (fun hHeld => ?_)
              clear hK K
              refine doneL (by kernel_rfl) ?_
              simp only [List.drop_succ_cons, List.drop_zero]
              go_wp2_with (at_builtin; refine wpList_pushW (fc := evC) appEvs rfl (.tmp 73) (.tmp 101) rfl W (madeEv ws x y z d ((T : Int) + (n : Int))) xs rfl (evC_one _) _ rfl HOX.out rfl hol hs8 ?_; intro v' w' hown' hgr hat)
              have hC5 : Chg (fun i => w6.heap.size ≤ i) W w' := ⟨hgr.os, hgr.tape, hgr.output, hgr.size, fun i hi hn => hgr.block i hi (fun e => hn (World.ownsRow.lt HOX.out i e.symm).1)⟩
              have hRw := HR8.out.chg hC5 (by have := HR8.out.lt; omega) (by omega) (fun i hi => by omega)
              go_roundw
              case rel => exact ⟨j + 1, T + n, _, I8, q8, by go_num, by go_num, by omega, by omega, Lib.hid hown', Lib.hid hRw, by omega, Lib.hid (HC8.out.next (hC5.mono fun i _ h => .inr h)), HST, HQ8⟩
              case measure => simp [intOf]; omega
      · have hlt : i < cnt := by have := HCND.out; simp at this; exact this.1
        have hq2 : q2 = false := by have := HCND.out; simp at this; exact this.2
        subst hq2
        have HTX := Lib.hid (rrText_any B R I2 all false wc HR.out hB hal)
        have hol : ws.length < 10000000 := by have := HA.out.count; omega
        clear HCND
        go_wp2_with fail
        (with_reducible refine HTX.out.mono ?_)
        rintro _ w3 ⟨s, I3, q3, rfl, hR3, hI3, hg3, hC3⟩
        have hO3 := OwnS.chg HO.out hC3 (fun b h1 _ => ne_one HRl.out h1)
        have hsz3 : w.heap.size ≤ w3.heap.size := Nat.le_trans HC.out.size hC3.size
        have HR3 := Lib.hid hR3
        have HC3 := Lib.hid (HC.out.trans hC3)
        have HA3 := Lib.hid (HA.out.step hlt hg3)
        clear hR3 hC3 hg3 HTX
        go_wp2_with (at_builtin; refine wpList_push appStrs rfl (.tmp 34) (.tmp 37) rfl _ [.string s] rfl (by simp [Value.oneCell']) _ ws.length (ws.map encStr) rfl hO3 rfl hol hsz3 ?_; intro v' w' hown' hgr hat)
        have hCp : Chg (fun i => w.heap.size ≤ i) w3 w' := ⟨hgr.os, hgr.tape, hgr.output, hgr.size, fun i hi hn => hgr.block i hi (fun e => hn (World.ownsRow.lt hO3 i e.symm).1)⟩
        have hOw : OwnS w' w.heap.size v' (ws ++ [s.data.toList]) := by
          unfold OwnS
          rw [List.length_append, List.map_append]
          have e : [s.data.toList].map encStr = [Value.string s] := by
            show [Value.string (mkS s.data.toList)] = _
            rw [mkS_of]
          rw [e]
          exact hown'
        have hRw := HR3.out.chg hCp (by have := HR3.out.lt; omega) (by have := HRl.out; omega) (fun i hi => by have := HRl.out; omega)
        go_roundw
        case rel => exact ⟨i + 1, ws ++ [s.data.toList], I3, q3, by go_num, by omega, Lib.hid hOw, Lib.hid hRw, by omega, Lib.hid (HC3.out.next (hCp.mono fun i _ h => .inr h)), HA3⟩
        case measure => simp [intOf]; omega
end Go.Proofs.YtjglmjdfndcmmaaGreat

set_option linter.all false
namespace Go.Proofs.YtjglmjdfndcmmaaGreat
open Go.RowKit
def pairC (p : Ev × Value) : List Value := evCells p.1 p.2
def oneV (v : Value) : Prop := v.oneCell' = true
def RPair : ElemR (Ev × Value) := fun _ _ p cs => cs = pairC p
theorem RPair.kept : ElemR.Kept RPair := fun _ _ _ _ _ _ _ _ h => h
theorem SlFl.one {D : Nat → Prop} {w : World} {v : Value} {fs : List Fld} (h : SlFl D w v fs) : v.oneCell' = true := by
  obtain ⟨A, c, rfl, _⟩ := h; rfl
theorem pairC_one {D : Nat → Prop} {w : World} {p : Ev × Value} (h : SlFl D w p.2 p.1.data) : ∀ u ∈ pairC p, u.oneCell' = true := by
  intro u hu
  simp [pairC, evCells] at hu
  rcases hu with rfl | rfl | rfl | rfl | rfl | rfl <;> first | rfl | exact SlFl.one h
theorem SlEv.pairs {D : Nat → Prop} {w : World} {v : Value} {xs : List Ev} (h : SlEv D w v xs) : ∃ ps : List {p : Ev × Value // ∀ u ∈ pairC p, u.oneCell' = true}, ps.map (fun p => p.val.1) = xs ∧ Sl 6 (fun _ _ p cs => cs = pairC p.val) D w v ps ∧ ∀ p ∈ ps, FitEv p.val.1 ∧ SlFl D w p.val.2 p.val.1.data := by
  obtain ⟨A, c, rfl, h1, h2, h3⟩ := h
  have hf : ∀ i : Fin xs.length, ∃ dv, ∃ b o, A = some ⟨b, o, none⟩ ∧ D b ∧ FitEv xs[i] ∧ SlFl D w dv xs[i].data ∧ ∀ j u, (evCells xs[i] dv)[j]? = some u → w.cell? ⟨b, o + i * 6 + j, none⟩ = some u := fun i => by
    obtain ⟨b, o, cs, hA, hD, hl, ⟨dv, rfl, f1, f2⟩, hc⟩ := h3 i xs[i] (List.getElem?_eq_getElem i.2)
    exact ⟨dv, b, o, hA, hD, f1, f2, hc⟩
  obtain ⟨f, hf⟩ := Classical.axiomOfChoice hf
  have hone : ∀ i : Fin xs.length, ∀ u ∈ pairC (xs[i], f i), u.oneCell' = true := fun i => by
    obtain ⟨_, _, _, _, _, f2, _⟩ := hf i
    exact pairC_one f2
  refine ⟨List.ofFn fun i => ⟨(xs[i], f i), hone i⟩, ?_, ⟨A, c, by rw [List.length_ofFn], by rw [List.length_ofFn]; exact h1, h2, fun i p hp => ?_⟩, fun p hp => ?_⟩
  · apply List.ext_getElem
    · simp
    · intro i h4 h5; simp
  · have hi : i < xs.length := by have := (List.getElem?_eq_some_iff.1 hp).1; simpa using this
    rw [List.getElem?_eq_getElem (by simpa using hi), List.getElem_ofFn] at hp
    injection hp with hp
    subst hp
    obtain ⟨b, o, hA, hD, _, _, hc⟩ := hf ⟨i, hi⟩
    exact ⟨b, o, _, hA, hD, rfl, rfl, hc⟩
  · obtain ⟨i, rfl⟩ := (List.mem_ofFn).1 hp
    obtain ⟨_, _, _, _, f1, f2, _⟩ := hf i
    exact ⟨f1, f2⟩
abbrev PairT := {p : Ev × Value // ∀ u ∈ pairC p, u.oneCell' = true}
def cellP (p : PairT) : List Value := pairC p.val
def OwnL (w : World) (base : Nat) (D : Nat → Prop) (v : Value) (xs : List Ev) : Prop := ∃ ps : List PairT, ps.map (fun p => p.val.1) = xs ∧ OwnW 6 cellP w base 57 v ps ∧ ∀ p ∈ ps, FitEv p.val.1 ∧ SlFl D w p.val.2 p.val.1.data
theorem OwnL.nil {w : World} {base : Nat} {D : Nat → Prop} : OwnL w base D (.slice none 0 0) [] := ⟨[], rfl, OwnW.nil, by simp⟩
theorem OwnL.sl {w : World} {base : Nat} {D D' : Nat → Prop} {v : Value} {xs : List Ev} (h : OwnL w base D v xs) (hD : ∀ b, D b → D' b) (hb : ∀ b, base ≤ b → b < w.heap.size → D' b) : SlEv D' w v xs := by
  obtain ⟨ps, rfl, h1, h2⟩ := h
  have h3 : Sl 6 (fun _ _ (p : PairT) cs => cs = pairC p.val) D' w v ps := Sl.of_own h1 rfl (fun g hg => by have := World.ownsRow.lt h1 g hg; exact hb g this.1 this.2) fun i x hx => ⟨cellP x, rfl, fun j u hu => by
    rw [flat_get (size := 6) (fun _ => rfl) ps i j x hx (List.getElem?_eq_some_iff.1 hu).1]; exact hu, rfl⟩
  obtain ⟨A, c, rfl, g1, g2, g3⟩ := h3
  refine ⟨A, c, by simp, by simpa using g1, g2, fun i x hx => ?_⟩
  rw [List.getElem?_map, Option.map_eq_some_iff] at hx
  obtain ⟨p, hp, rfl⟩ := hx
  obtain ⟨b, o, cs, hA, hD', hl, rfl, hc⟩ := g3 i p hp
  obtain ⟨f1, f2⟩ := h2 p (List.mem_of_getElem? hp)
  exact ⟨b, o, _, hA, hD', hl, ⟨_, rfl, f1, Sl.keep f2 RFld.kept hD (Same.refl _ _)⟩, hc⟩
theorem OwnL.chg {w w' : World} {base : Nat} {D D' : Nat → Prop} {v : Value} {xs : List Ev} {S : Nat → Prop} (h : OwnL w base D v xs) (k : Chg S w w') (hS : ∀ b, base ≤ b → b < w.heap.size → ¬ S b) (hD : ∀ b, D b → b < w.heap.size ∧ ¬ S b) (hDD : ∀ b, D b → D' b) : OwnL w' base D' v xs := by
  obtain ⟨ps, rfl, h1, h2⟩ := h
  exact ⟨ps, rfl, ownW_chg h1 k hS, fun p hp => ⟨(h2 p hp).1, Sl.keep (h2 p hp).2 RFld.kept hDD (fun b hb => k.block b (hD b hb).1 (hD b hb).2)⟩⟩
theorem OwnL.isSlice {w : World} {base : Nat} {D : Nat → Prop} {v : Value} {xs : List Ev} (h : OwnL w base D v xs) : ∃ A c, v = .slice A xs.length c := by
  obtain ⟨ps, rfl, h1, h2⟩ := h
  rw [List.length_map]
  rcases h1.2 with ⟨rfl, h0⟩ | ⟨g, cap, cur, rfl, _⟩
  · exact ⟨none, 0, by rw [h0]⟩
  · exact ⟨some ⟨g, 0, none⟩, cap, rfl⟩
def OwnG (w : World) (base : Nat) (v : Value) (xs : List Ev) : Prop := OwnL w base (fun b => base ≤ b ∧ b < w.heap.size ∧ v.ownBlock ≠ some b) v xs
theorem OwnG.nil {w : World} {base : Nat} : OwnG w base (.slice none 0 0) [] := OwnL.nil
theorem OwnG.sl {w : World} {base : Nat} {v : Value} {xs : List Ev} (h : OwnG w base v xs) : SlEv (fun b => base ≤ b ∧ b < w.heap.size) w v xs := OwnL.sl h (fun b hb => ⟨hb.1, hb.2.1⟩) (fun b h1 h2 => ⟨h1, h2⟩)
theorem OwnG.chg {w w' : World} {base : Nat} {v : Value} {xs : List Ev} {S : Nat → Prop} (h : OwnG w base v xs) (k : Chg S w w') (hS : ∀ b, base ≤ b → ¬ S b) : OwnG w' base v xs :=
  OwnL.chg h k (fun b h1 _ => hS b h1) (fun b hb => ⟨hb.2.1, hS b hb.1⟩) (fun b hb => ⟨hb.1, Nat.lt_of_lt_of_le hb.2.1 k.size, hb.2.2⟩)
theorem OwnG.isSlice {w : World} {base : Nat} {v : Value} {xs : List Ev} (h : OwnG w base v xs) : ∃ A c, v = .slice A xs.length c := OwnL.isSlice h
theorem OwnL.lt {w : World} {base : Nat} {D : Nat → Prop} {v : Value} {xs : List Ev} (h : OwnL w base D v xs) : ∀ g, v.ownBlock = some g → base ≤ g ∧ g < w.heap.size := by
  obtain ⟨ps, rfl, h1, h2⟩ := h
  exact World.ownsRow.lt h1
end Go.Proofs.YtjglmjdfndcmmaaGreat

set_option linter.all false
namespace Go.Proofs.YtjglmjdfndcmmaaGreat
open Go.RowKit
structure PartsR (body : List UInt8) (N0 k : Nat) (xs : List Ev) (l' : List UInt8) (q' : Bool) : Prop where
  count : xs.length ≤ 100 * k
  whole : ∀ es, logB es = true → body = arBody es → q' = false ∧ N0 = es.length ∧ l' = bodyRest es k ∧ xs = es.take (100 * k)
theorem PartsR.start {body l' : List UInt8} {N0 : Nat} {q' : Bool} (h : GotM 2000 body false N0 l' q') : PartsR body N0 0 [] l' q' := by
  refine ⟨Nat.zero_le _, fun es hv hb => ?_⟩
  have hl := (log_parts hv).1
  obtain ⟨e1, e2, e3⟩ := h.whole es.length (bodyRest es 0) rfl (by rw [hb, body_start]) (by omega) (by omega)
  exact ⟨e3, e1, e2, by simp⟩
theorem PartsR.step {body l' l2 : List UInt8} {N0 k len : Nat} {xs ys : List Ev} {q' q2 : Bool} (h : PartsR body N0 k xs l' q') (hk : 100 * k < N0) (hlen : len = min 100 (N0 - 100 * k)) (hg : GotBR len l' q' ys l2 q2) : PartsR body N0 (k + 1) (xs ++ ys) l2 q2 := by
  refine ⟨by rw [List.length_append]; have := h.count; have := hg.count; omega, fun es hv hb => ?_⟩
  obtain ⟨e1, e2, e3, e4⟩ := h.whole es hv hb
  obtain ⟨hl, hok⟩ := log_parts hv
  have hkp : k < nParts es := by unfold nParts; omega
  rw [body_next hkp] at e3
  obtain ⟨e5, e6, e7⟩ := hg.whole (part es k) (bodyRest es (k + 1)) ⟨e1, by rw [part_count, hlen, e2], fun e he => hok e (part_mem he), (log_time hv).sublist ((List.take_sublist _ _).trans (List.drop_sublist _ _)), e3⟩
  refine ⟨e5, e2, e7, ?_⟩
  rw [e4, e6]
  unfold part
  rw [show 100 * (k + 1) = 100 * k + 100 by omega, List.take_add]
theorem PartsR.done {body l' : List UInt8} {N0 k : Nat} {xs : List Ev} {q' : Bool} (h : PartsR body N0 k xs l' q') (hk : N0 ≤ 100 * k) : ∀ es, logB es = true → body = arBody es → q' = false ∧ l' = [] ∧ xs = es := by
  intro es hv hb
  obtain ⟨e1, e2, e3, e4⟩ := h.whole es hv hb
  refine ⟨e1, ?_, by rw [e4, List.take_of_length_le (by omega)]⟩
  rw [e3]
  unfold bodyRest
  rw [List.drop_eq_nil_of_le (by rw [List.length_range]; unfold nParts; omega)]
  rfl
theorem wp_appendEvs {o : Oper} {a : Act} {K : Act → World → Prop} {Q : Exit → Act → World → Prop} (s x : Operand)
    (ho : o.op = .call { callee := .builtin .append, args := #[s, x], argTypes := #[23, 23] }) (w : World) {base : Nat} {E : Nat → Prop} {xs ys : List Ev}
    (v : Value) (hs : a.eval s = v) (hown : OwnG w base v xs) (u : Value) (hx : a.eval x = u) (hu : SlEv E w u ys) (hn : xs.length + ys.length < 10000000) (hbase : base ≤ w.heap.size)
    (hE : ∀ b, E b → base ≤ b ∧ b < w.heap.size ∧ v.ownBlock ≠ some b)
    (h : ∀ v' w', OwnG w' base v' (xs ++ ys) → Chg (fun b => base ≤ b) w w' → K (a.put o.dst v') w') : o.wp Tryz.prog a w K Q := by
  obtain ⟨ps, rfl, h1, h2⟩ := hown
  obtain ⟨qs, rfl, k1, k2⟩ := SlEv.pairs hu
  rw [List.length_map, List.length_map] at hn
  refine wp_appendAllW (fc := cellP) appEvs s x ho w (fun _ => rfl) ps v hs h1 u qs hx k1 (fun y c hc => hc) (fun y => y.property) hn hbase fun v' w' g1 g2 g3 => ?_
  have hC : Chg (fun b => base ≤ b ∧ v.ownBlock = some b) w w' := ⟨g2.os, g2.tape, g2.output, g2.size, fun i hi hn => g2.block i hi (fun e => hn ⟨(World.ownsRow.lt h1 i e.symm).1, e.symm⟩)⟩
  have hne : ∀ b, base ≤ b ∧ b < w.heap.size ∧ v.ownBlock ≠ some b → base ≤ b ∧ b < w'.heap.size ∧ v'.ownBlock ≠ some b := fun b hb => ⟨hb.1, Nat.lt_of_lt_of_le hb.2.1 hC.size, fun e => by
    rcases g3 with g3 | g3
    · exact hb.2.2 (g3 ▸ e)
    · rw [g3] at e; injection e with e; omega⟩
  refine h v' w' ⟨ps ++ qs, by rw [List.map_append], g1, fun p hp => ?_⟩ (hC.mono fun b _ hb => hb.1)
  rcases List.mem_append.1 hp with hp | hp
  · exact ⟨(h2 p hp).1, Sl.keep (h2 p hp).2 RFld.kept hne (fun b hb => hC.block b hb.2.1 (fun e => hb.2.2 e.2))⟩
  · exact ⟨(k2 p hp).1, Sl.keep (k2 p hp).2 RFld.kept (fun b hb => hne b (hE b hb)) (fun b hb => hC.block b (hE b hb).2.1 (fun e => (hE b hb).2.2 e.2))⟩
theorem step_appendEvs {ops : Array Oper} {o : Oper} {a : Act} {K : Act → World → Prop} {Q : Exit → Act → World → Prop} {Z : Prop} (hgd : o.guard = none) (s x : Operand)
    (ho : o.op = .call { callee := .builtin .append, args := #[s, x], argTypes := #[23, 23] }) (w : World) {base : Nat} {E : Nat → Prop} {xs ys : List Ev}
    (v : Value) (hs : a.eval s = v) (hown : OwnG w base v xs) (u : Value) (hx : a.eval x = u) (hu : SlEv E w u ys) (hn : xs.length + ys.length < 10000000) (hbase : base ≤ w.heap.size)
    (hE : ∀ b, E b → base ≤ b ∧ b < w.heap.size ∧ v.ownBlock ≠ some b)
    (h : ∀ v' w', OwnG w' base v' (xs ++ ys) → Chg (fun b => base ≤ b) w w' → K (a.put o.dst v') w') : if Region.wanted o (yielded ops a.tmps) = true then Oper.wp Tryz.prog o a w K Q else Z := by
  have hw : Region.wanted o (yielded ops a.tmps) = true := by simp [Region.wanted, hgd]
  rw [if_pos hw]
  exact wp_appendEvs s x ho w v hs hown u hx hu hn hbase hE h
theorem own_apart {w w5 : World} {base : Nat} {v : Value} {xs : List Ev} (h : OwnG w base v xs) (hL : base ≤ w.heap.size) : ∀ b, (w.heap.size ≤ b ∧ b < w5.heap.size) → base ≤ b ∧ b < w5.heap.size ∧ v.ownBlock ≠ some b :=
  fun b hb => ⟨by omega, hb.2, fun e => by have := OwnL.lt h b e; omega⟩
theorem PartsR.room {body l' l2 : List UInt8} {N0 k len : Nat} {xs ys : List Ev} {q' q2 : Bool} (h : PartsR body N0 k xs l' q') (hg : GotBR len l' q' ys l2 q2) (hk : 100 * k ≤ N0 + 100) (hN : N0 ≤ 2000) (hlen : len ≤ 100) : xs.length + ys.length < 10000000 := by
  have := h.count; have := hg.count; omega
theorem rrOpen_fin {B R I3 : Nat} {body : List UInt8} {q3 : Bool} {w6 wc w5 w' : World} {u v : Value} {xs : List Ev} (hB : B ≤ R) (hG : R + 1 < w6.heap.size) (hC : Chg (Two R (R + 1)) w6 wc) (hC5 : Chg (One R) wc.drew w5) (hR5 : RdR B w5 R body I3 q3) (hC7 : Chg (fun b => w6.heap.size ≤ b) w5 w') (hG7 : Blk w' (R + 1) 25 #[u]) (hO7 : OwnG w' w6.heap.size v xs) :
    RdR B (w'.setCell ⟨R + 1, 0, none⟩ v) R body I3 q3 ∧ Blk (w'.setCell ⟨R + 1, 0, none⟩ v) (R + 1) 25 #[v] ∧ OwnG (w'.setCell ⟨R + 1, 0, none⟩ v) w6.heap.size v xs ∧ Chg (Two R (R + 1)) w6 (w'.setCell ⟨R + 1, 0, none⟩ v) := by
  have h5 := hC5.size
  have h6 := hC.size
  have h6' : w6.heap.size ≤ w5.heap.size := Nat.le_trans h6 h5
  have hCa : Chg (Two R (R + 1)) w6 w5 := (hC.drew).trans (hC5.mono fun i _ h => .inl h)
  have hCb : Chg (Two R (R + 1)) w6 w' := ⟨hC7.os.trans hCa.os, hC7.tape.trans hCa.tape, hC7.output.trans hCa.output, Nat.le_trans hCa.size hC7.size, fun i hi hn => (hC7.block i (Nat.lt_of_lt_of_le hi hCa.size) (by omega)).trans (hCa.block i hi hn)⟩
  refine ⟨?_, hG7.set_ 0 _, ?_, hCb.set (p := ⟨R + 1, 0, none⟩) (.inr (.inr rfl)) _⟩
  · exact (hR5.chg hC7 (by have := hR5.lt; omega) (by omega) (fun i hi => by omega)).far hB (p := ⟨R + 1, 0, none⟩) ⟨by show R + 1 ≠ R; omega, by show B ≤ R + 1; omega⟩ _
  · exact hO7.chg (S := fun i => i = R + 1) (Chg.set (S := fun i => i = R + 1) Chg.refl (p := ⟨R + 1, 0, none⟩) (.inr rfl) _) (fun b hb e => by omega)
theorem sl_fin {w6 wc w8 : World} {P : Nat} {u v : Value} {xs : List Ev} (hP : P < w6.heap.size) (h : OwnG wc w6.heap.size v xs) (hb : Below wc.heap.size wc w8) : SlEv (fun b => P ≤ b ∧ b < (w8.setCell ⟨P, 0, none⟩ u).heap.size) (w8.setCell ⟨P, 0, none⟩ u) v xs :=
  Sl.keep h.sl REv.kept (fun b hb' => ⟨by omega, by show b < (w8.setCell _ _).heap.size; rw [World.size_setCell]; exact Nat.lt_of_lt_of_le hb'.2 hb.size⟩) (fun b hb' => (Below.heap_setCell w8 _ _ b (by show b ≠ P; omega)).trans (hb.block b hb'.2))
theorem last4 {D : Nat → Prop} {w : World} {b o n c : Nat} {l : List UInt8} (hs : SlC D w (.slice (some ⟨b, o, none⟩) (n + 4) c) l) (hn : l.length = n + 4) : ∃ x0 x1 x2 x3 : UInt8, l.drop n = [x0, x1, x2, x3] ∧ w.cell? ⟨b, o + n, none⟩ = some (.int .u8 (x0.toNat : Int)) ∧ w.cell? ⟨b, o + (n + 1), none⟩ = some (.int .u8 (x1.toNat : Int)) ∧ w.cell? ⟨b, o + (n + 2), none⟩ = some (.int .u8 (x2.toNat : Int)) ∧ w.cell? ⟨b, o + (n + 3), none⟩ = some (.int .u8 (x3.toNat : Int)) := by
  have key : ∀ k, k < n + 4 → ∃ x : UInt8, l[k]? = some x ∧ w.cell? ⟨b, o + k, none⟩ = some (.int .u8 (x.toNat : Int)) := fun k hk => by
    obtain ⟨b', o', x, e, _, hx, hc⟩ := hs.at_ hk
    injection e with e
    injection e with e1 e2
    subst e1 e2
    exact ⟨x, hx, hc⟩
  obtain ⟨x0, h0, k0⟩ := key n (by omega)
  obtain ⟨x1, h1, k1⟩ := key (n + 1) (by omega)
  obtain ⟨x2, h2, k2⟩ := key (n + 2) (by omega)
  obtain ⟨x3, h3, k3⟩ := key (n + 3) (by omega)
  refine ⟨x0, x1, x2, x3, ?_, k0, k1, k2, k3⟩
  have e : ∀ k (x : UInt8), l[k]? = some x → l.drop k = x :: l.drop (k + 1) := fun k x h => by
    have hk := (List.getElem?_eq_some_iff.1 h).1
    rw [List.drop_eq_getElem_cons hk, (List.getElem?_eq_some_iff.1 h).2]
  rw [e n x0 h0, e (n + 1) x1 h1, e (n + 1 + 1) x2 h2, e (n + 1 + 1 + 1) x3 h3, List.drop_eq_nil_of_le (by omega)]
theorem le4_val {s : Nat} (hs : s < 4294967296) (x0 x1 x2 x3 : UInt8) : [x0, x1, x2, x3] = le4 s ↔ s = x0.toNat + 256 * x1.toNat + 65536 * x2.toNat + 16777216 * x3.toNat := by
  have h0 := UInt8.toNat_lt x0
  have h1 := UInt8.toNat_lt x1
  have h2 := UInt8.toNat_lt x2
  have h3 := UInt8.toNat_lt x3
  unfold le4
  simp only [List.cons.injEq, and_true, ← UInt8.toNat_inj, UInt8.toNat_ofNat']
  omega
theorem packE_cases (xs : List Ev) : ((packE xs).2 = 0 ∧ logB xs = true ∧ (packE xs).1 = arPack xs) ∨ ((packE xs).2 ≠ 0 ∧ (logB xs = true → 262144 < (arPack xs).length)) := by
  unfold packE
  cases h : logB xs
  · right; simp
  · by_cases h2 : 262144 < (arPack xs).length
    · right; simp [h2]
    · left; simp [h2]
end Go.Proofs.YtjglmjdfndcmmaaGreat

set_option linter.all false
namespace Go.Proofs.YtjglmjdfndcmmaaGreat
open Go.RowKit
set_option maxHeartbeats 1000000 in
set_option maxRecDepth 100000 in
theorem same_ref (u v : Value) (l m : List UInt8) (w : World) (hu : SlC (Lt w.heap.size) w u l) (hv : SlC (Lt w.heap.size) w v m) :
    Calls Tryz.prog 35 #[u, v] w fun e w' => e = .returned (.bool (decide (l = m))) ∧ ∃ q, w' = w.drewN q := by
  obtain ⟨A, c, rfl, _, _, hs⟩ := hu.open_
  obtain ⟨B, d, rfl, _, _, ht⟩ := hv.open_
  clear hu hv
  by_cases hl : l.length = m.length
  · have HS := Lib.hid hs
    have HT := Lib.hid ht
    have HL := Lib.hid hl
    rw [← hl] at HT ⊢
    clear hl hs ht
    go_enter Tryz.func35, Tryz.ntmps35
    go_wp2_with fail
    go_loopw [5] (fun iv wr => ∃ k q : Nat, iv = .int .i64 (k : Int) ∧ k ≤ l.length ∧ Hid (l.take k = m.take k) ∧ wr = w.drewN q) (fun iv _ => l.length - (intOf iv).toNat)
    case atStart => exact ⟨0, 0, rfl, Nat.zero_le _, Lib.hid rfl, rfl⟩
    case round =>
      obtain ⟨k, q, rfl, hk, HE, hwr⟩ := hrel
      have hb : Below w.heap.size w wr := by rw [hwr]; exact below_drewN (Below.refl _ _) q
      by_cases hlt : k < l.length
      · obtain ⟨b, o, x, rfl, _, hx, hc⟩ := HS.out.at_ hlt
        obtain ⟨b', o', y, rfl, _, hy, hc'⟩ := HT.out.at_ hlt
        have i1 : (0 : Int) ≤ (k : Int) := by omega
        have i2 : (k : Int) < (l.length : Int) := by omega
        have hxl := UInt8.toNat_lt x
        have hyl := UInt8.toNat_lt y
        by_cases hxy : x = y
        · subst hxy
          have HN : Hid (l.take (k + 1) = m.take (k + 1)) := Lib.hid (by rw [take_next hx, take_next hy, HE.out])
          clear hx hy
          go_wp2_with fail
          go_quiet (fail)
          go_wp2_with fail
          go_roundw
          case rel => exact ⟨k + 1, q + nq, by go_num, by omega, HN, by first | rfl | (rw [hwr]; simp) | simp⟩
          case measure => simp [intOf]; omega
        · have hne : x.toNat ≠ y.toNat := fun h => hxy (UInt8.toNat_inj.1 h)
          have z1 : ((x.toNat : Int) == (y.toNat : Int)) = false := by simp; omega
          have z2 : (x.toNat == y.toNat) = false := by simp; omega
          have z3 : decide (x.toNat = y.toNat) = false := by simp; omega
          have HN : Hid (decide (l = m) = false) := Lib.hid (by
            simp only [decide_eq_false_iff_not]
            rintro rfl
            rw [hx] at hy
            injection hy with hy
            exact hxy hy)
          clear hx hy hxy
          go_wp2_with fail
          go_quiet (fail)
          go_wp2_with fail
          go_ret
          exact ⟨by rw [HN.out]; rfl, q + nq, by first | rfl | (rw [hwr]; simp) | simp⟩
      · obtain rfl : k = l.length := by omega
        have z1 : ¬ (l.length : Int) < (l.length : Int) := by omega
        have HN : Hid (decide (l = m) = true) := Lib.hid (by
          have := HE.out
          rw [List.take_length, HL.out, List.take_length] at this
          simp [this])
        go_wp2_with fail
        go_ret
        exact ⟨by rw [HN.out]; rfl, q, by first | rfl | exact hwr⟩
  · have HN : Hid (decide (l = m) = false) := Lib.hid (by
      simp only [decide_eq_false_iff_not]
      rintro rfl
      exact hl rfl)
    have z1 : ((l.length : Int) == (m.length : Int)) = false := by simp; omega
    have z2 : (l.length == m.length) = false := by simp; omega
    have z3 : decide (l.length = m.length) = false := by simp; omega
    clear hs ht
    go_enter Tryz.func35, Tryz.ntmps35
    go_wp2_with fail
    go_ret
    exact ⟨by rw [HN.out]; rfl, 0, rfl⟩
end Go.Proofs.YtjglmjdfndcmmaaGreat
