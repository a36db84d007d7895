/- Texts of this seat, merged. -/
import Derived.Laws.StructEq
import Derived.BigQuiet
import Derived.Deep.QuietTactic
import Derived.Deep.CutRange
import Derived.ProofKit
import Derived.Deep.Slices
import Derived.Deep.Fields
import Derived.Deep.Strs
import Derived.ChangeSame
import Derived.Lib.SmallJoins
import Derived.LaidMore
import Derived.OpenShut
import Derived.Stop.Joined
import Derived.Test.YtoalecalahkblaaGreatDoorIx01
import Derived.Test.YtoalecalahkblaaGreatDoorIx02
import Derived.Test.YtoalecalahkblaaGreatDoorIx03
import Derived.Test.YtoalecalahkblaaGreatDoorIx04
import Derived.Test.YtoalecalahkblaaGreatDoorIx05
import Derived.Test.YtoalecalahkblaaGreatDoorIx06
import Derived.Test.YtoalecalahkblaaGreatDoorIx07
import Derived.Test.YtoalecalahkblaaGreatDoorIx08
import Derived.Test.YtoalecalahkblaaGreatDoorIx09
import Derived.Test.YtoalecalahkblaaGreatDoorIx10
import Derived.Test.YtoalecalahkblaaGreatDoorIx11
import Derived.Test.YtoalecalahkblaaGreatDoorIx12
import Derived.Test.YtoalecalahkblaaGreatDoorIx13
import Derived.Test.YtoalecalahkblaaGreatDoorIx14
set_option linter.all false
set_option linter.all false
namespace Go.Proofs.YtoalecalahkblaaGreatDoor
open Go.RowKit
theorem colsR_eq {m : Mp} (h : MpOk m) : colsR m = colsX m := by
  have h1 := h.cas.1
  have h2 := h.act.1
  have h3 := h.time.1
  unfold colsR col2 col1 colsX fieldsB
  congr 1
  simp only [List.filter_cons, List.filter_nil, decide_eq_true h1, decide_eq_true h2, decide_eq_true h3, if_true]
  by_cases hr : 0 ≤ m.res <;> by_cases hl : 0 ≤ m.life <;> simp [hr, hl]
def foldI (zs : List Int) (i : Nat) : Int := (zs.take i).foldl (fun a k => max a (k + 1)) 0
theorem foldI_step {zs : List Int} {i : Nat} {k : Int} (h : zs[i]? = some k) : foldI zs (i + 1) = max (foldI zs i) (k + 1) := by
  unfold foldI
  rw [List.take_add_one, h, List.foldl_append]
  rfl
theorem foldI_bound {zs : List Int} (h : ∀ k ∈ zs, 0 ≤ k ∧ k < 40) (i : Nat) : 0 ≤ foldI zs i ∧ foldI zs i ≤ 40 := by
  obtain ⟨h1, _, h3⟩ := foldW (zs.take i) 0
  exact ⟨h1, h3 40 (by omega) fun k hk => by have := h k (List.mem_of_mem_take hk); omega⟩
theorem widthX_fold {m : Mp} (h : MpOk m) : foldI (colsX m) (colsX m).length = (widthX m : Int) := by
  unfold foldI
  rw [List.take_of_length_le (Nat.le_refl _)]
  have h2 := (foldW (colsX m) 0).1
  have h3 : widthX m = ((colsX m).foldl (fun a k => max a (k + 1)) 0).toNat := rfl
  rw [h3]
  omega
theorem enters_written : ∀ args w, (callFunc 90 args).run Tryz.prog w = .ok (.enter 90 args) w := enters_of Tryz.func90 (by kernel_rfl) rfl
def refF29 (B1 be oe i wd s0 : Nat) (LV EV MV NV : Value) (row : List Bt) (k : Int) : Nat → Value → World → Prop
  | 0, u, _ => u = .pointer (some ⟨B1, 0, none⟩)
  | 1, u, _ => u = LV
  | 2, u, _ => u = .int .i64 (i : Int)
  | 3, u, _ => u = .pointer (some ⟨be, oe + i * 6, none⟩)
  | 4, u, _ => u = EV
  | 5, u, _ => u = MV
  | 6, u, _ => u = NV
  | 7, u, _ => u = .int .i64 (wd : Int)
  | 8, u, W => ∃ rv, u = .tuple #[rv, .int .i64 k] ∧ SlP (Btw s0 W.heap.size) W rv row
  | 9, u, W => ∃ rv, u = .tuple #[rv, .int .i64 k] ∧ SlP (Btw s0 W.heap.size) W rv row
  | 10, u, W => SlP (Btw s0 W.heap.size) W u row
  | 11, u, _ => u = .int .i64 k
  | 12, u, W => SlP (Btw s0 W.heap.size) W u row
  | 13, u, _ => u = .int .i64 k
  | _, _, _ => True
theorem slP_btw {s0 : Nat} {W W' : World} {u : Value} {row : List Bt} (h : SlP (Btw s0 W.heap.size) W u row) (hb : Below W.heap.size W W') : SlP (Btw s0 W'.heap.size) W' u row :=
  SlP.keep h (fun b hb' => ⟨hb'.1, Nat.lt_of_lt_of_le hb'.2 hb.size⟩) (fun b hb' => hb.block b hb'.2)
theorem ref29Keep {B1 be oe i wd s0 : Nat} {LV EV MV NV : Value} {row : List Bt} {k : Int} {W W' : World} (hb : Below W.heap.size W W') : ∀ j u, refF29 B1 be oe i wd s0 LV EV MV NV row k j u W → refF29 B1 be oe i wd s0 LV EV MV NV row k j u W' := by
  intro j u h
  match j, h with
  | 0, h => exact h
  | 1, h => exact h
  | 2, h => exact h
  | 3, h => exact h
  | 4, h => exact h
  | 5, h => exact h
  | 6, h => exact h
  | 7, h => exact h
  | 8, h => obtain ⟨rv, h1, h2⟩ := h; exact ⟨rv, h1, slP_btw h2 hb⟩
  | 9, h => obtain ⟨rv, h1, h2⟩ := h; exact ⟨rv, h1, slP_btw h2 hb⟩
  | 10, h => exact slP_btw h hb
  | 11, h => exact h
  | 12, h => exact slP_btw h hb
  | 13, h => exact h
  | n + 14, h => exact trivial
def refF24 (w : World) (g d wd bd od cm bn on_ cn j : Nat) (m : Mp) (names : List Bs) (s : Bs) : Nat → Value → World → Prop
  | 0, u, _ => u = .slice (some ⟨g, 0, none⟩) wd wd
  | 1, u, _ => u = .pointer (some ⟨w.heap.size + 1, 5, none⟩)
  | 2, u, _ => u = .slice (some ⟨bd, od, none⟩) m.data.length cm
  | 3, u, _ => u = .int .i64 (j : Int)
  | 4, u, _ => u = .pointer (some ⟨bd, od + j, none⟩)
  | 5, u, _ => u = .int .i64 (d : Int)
  | 6, u, _ => u = .slice (some ⟨bn, on_, none⟩) names.length cn
  | 7, u, _ => u = .int .i64 (j : Int)
  | 8, u, _ => u = .pointer (some ⟨bn, on_ + j, none⟩)
  | 9, u, _ => u = .string (bsOf s)
  | 10, u, _ => u = .pointer (some ⟨g, d, none⟩)
  | 11, _, W => W.cell? ⟨g, d, none⟩ = some (.string (bsOf s))
  | _, _, _ => True
set_option maxHeartbeats 8000000 in
set_option maxRecDepth 100000 in
theorem export_ref (u um : Value) (l : List Ev) (m : Mp) (w : World) (h : IsLog (Lt w.heap.size) w u l) (hm : IsMp (Lt w.heap.size) w um m) (hh : heavyB l = false) (hg : greatB m = false) :
    Calls Tryz.prog 35 #[u, um] w (RetSE (exportE vtN l m) w) := by
  have hdl : m.data.length ≤ 1000000 := by
    unfold greatB at hg
    rw [Bool.or_eq_false_iff] at hg
    have := of_decide_eq_false hg.1
    omega
  have HLOG := Lib.hid h
  have HMP := Lib.hid hm
  have HLV := Lib.hid (fun W hW => logValid_ref l u W hW)
  have HMV := Lib.hid (fun W hW => valid_ref um m W hW hdl)
  have HCO := Lib.hid (fun W hW h1 h2 => fields_ref u l W hW h1 h2)
  have HFL := Lib.hid (fun W hW => columns_ref um m W hW hdl)
  have HRW := Lib.hid (fun names e ue un W h1 h2 h3 h4 h5 h6 h7 => written_ref names m e ue un um W h1 h2 h3 h4 h5 h6 h7)
  have HHV0 := Lib.hid hh
  have HWRT := Lib.hid (fun rows v W h1 h2 => write_ref rows v m.sep W h1 h2)
  have hfm := hm
  obtain ⟨ev, rfl, hs⟩ := h
  obtain ⟨A, cl, rfl, _, _, hs⟩ := hs.open_
  obtain ⟨mv, kv, rfl, _, hmd, hmk⟩ := hm
  obtain ⟨Am, cm, rfl, _, _, hmd⟩ := hmd.open_
  obtain ⟨Ak, ck, rfl, _, _, hmk⟩ := hmk.open_
  have HS := Lib.hid hs
  have HMD := Lib.hid hmd
  unfold mpV at HMP HMV HFL HRW ⊢
  obtain ⟨z, hz⟩ : ∃ z, (m.sep.toNat : Int) = z := ⟨_, rfl⟩
  rw [hz] at HMP HMV HFL HRW HWRT ⊢
  obtain ⟨p, hp⟩ : ∃ p, exportE vtN l m = p := ⟨_, rfl⟩
  rw [hp]
  have HE := Lib.hid hp.symm
  obtain ⟨q1, hq1⟩ : ∃ q, logB l = q := ⟨_, rfl⟩
  obtain ⟨q2, hq2⟩ : ∃ q, mapB m = q := ⟨_, rfl⟩
  have HQ1 := Lib.hid hq1
  have HQ2 := Lib.hid hq2
  rw [hq1] at HLV
  rw [hq2] at HMV
  have hb1 := bone w (.cells #[.slice A l.length cl] 38)
  have k1 := Blk.new w 38 #[.slice A l.length cl]
  clear hs hmd hmk hz hp hq1 hq2 hfm hdl hg hh
  by_cases hqq : q1 = false ∨ q2 = false
  · have HR1 : Hid (p = ([], 1)) := by
      show _ = _
      rw [HE.out]
      unfold exportE
      rw [if_pos (by rcases hqq with h | h; exact .inl (HQ1.out.trans h); exact .inr (HQ2.out.trans h))]
    go_enter Tryz.func35, Tryz.ntmps35
    go_upto_region 1 with fail
    obtain ⟨w1, hw1⟩ : ∃ w1, w.alloc (.cells #[.slice A l.length cl] 38) = w1 := ⟨_, rfl⟩
    have z1 : w1.heap.size = w.heap.size + 1 := by rw [← hw1]; simp
    rw [hw1] at hb1 k1 ⊢
    clear hw1
    have hb2 := bone w1 (.cells #[.int .i64 m.cas, .int .i64 m.act, .int .i64 m.res, .int .i64 m.life, .int .i64 m.time, .slice Am m.data.length cm, .slice Ak m.kinds.length ck, .int .u8 z] 33)
    have k2 := Blk.new w1 33 #[.int .i64 m.cas, .int .i64 m.act, .int .i64 m.res, .int .i64 m.life, .int .i64 m.time, .slice Am m.data.length cm, .slice Ak m.kinds.length ck, .int .u8 z]
    have k1 := k1.now hb2
    have HB := Lib.hid (bthen hb1 hb2)
    obtain ⟨w2, hw2⟩ : ∃ w2, w1.alloc (.cells #[.int .i64 m.cas, .int .i64 m.act, .int .i64 m.res, .int .i64 m.life, .int .i64 m.time, .slice Am m.data.length cm, .slice Ak m.kinds.length ck, .int .u8 z] 33) = w2 := ⟨_, rfl⟩
    rw [hw2] at HB k1 k2 ⊢
    rw [z1] at k2
    have HL2 := Lib.hid (HLV.out w2 (HLOG.out.now HB.out))
    have HK2 := Lib.hid k2
    have a0 := k1.c1
    obtain ⟨c0, c1, c2, c3, c4, c5, c6, c7⟩ := k2.c8m
    clear hw2 z1 hb1 hb2 k1 k2
    go_wp2_with fail
    (with_reducible refine HL2.out.mono ?_)
    rintro _ w3 ⟨rfl, hb3⟩
    have HB3 := Lib.hid (bthen HB.out hb3)
    have HM3 := Lib.hid (HMV.out w3 (HMP.out.now (bthen HB.out hb3)))
    obtain ⟨d0, d1, d2, d3, d4, d5, d6, d7⟩ := (HK2.out.now hb3).c8m
    clear hb3 HL2 a0 c0 c1 c2 c3 c4 c5 c6 c7
    cases q1 with
    | false =>
      go_wp2_with fail
      go_ret2
      show RetSE _ _ _ _
      rw [HR1.out]
      exact ⟨rfl, HB3.out⟩
    | true =>
      have hq2 : q2 = false := by rcases hqq with h | h; cases h; exact h
      subst hq2
      go_wp2_with fail
      (with_reducible refine HM3.out.mono ?_)
      rintro _ w4 ⟨rfl, hb4⟩
      have HB4 := Lib.hid (bthen HB3.out hb4)
      clear hb4
      go_wp2_with fail
      go_ret2
      show RetSE _ _ _ _
      rw [HR1.out]
      exact ⟨rfl, HB4.out⟩
  have hl1 : q1 = true := by cases q1; exact absurd (.inl rfl) hqq; rfl
  have hm1 : q2 = true := by cases q2; exact absurd (.inr rfl) hqq; rfl
  subst hl1 hm1
  have HOK := Lib.hid (mpOk HQ2.out)
  have HW40 := Lib.hid (widthX_le HOK.out)
  have HN1 := Lib.hid (namesTo_le1000 HQ1.out HHV0.out)
  have HN2 := Lib.hid (fitN_of HQ1.out)
  have HN3 := Lib.hid (names_le HQ1.out)
  have HNM := Lib.hid (fun e he f hf => names_mem (l := l) (e := e) he (f := f) hf)
  have HE1 : Hid (p = if (colsL l).length ≠ m.data.length then ([], 29) else if (rowsX (rowX vtN (colsL l) m (widthX m)) l [headX (colsL l) m (widthX m)]).2 ≠ 0 then ([], (rowsX (rowX vtN (colsL l) m (widthX m)) l [headX (colsL l) m (widthX m)]).2) else writeE m.sep (rowsX (rowX vtN (colsL l) m (widthX m)) l [headX (colsL l) m (widthX m)]).1) := by
    show _ = _
    rw [HE.out]
    unfold exportE
    rw [if_neg (by rw [HQ1.out, HQ2.out]; simp)]
  obtain ⟨c, hc⟩ : ∃ c : Nat, m.cas = (c : Int) := ⟨m.cas.toNat, by have := HOK.out.cas; omega⟩
  obtain ⟨a, ha⟩ : ∃ a : Nat, m.act = (a : Int) := ⟨m.act.toNat, by have := HOK.out.act; omega⟩
  obtain ⟨t, ht⟩ : ∃ t : Nat, m.time = (t : Int) := ⟨m.time.toNat, by have := HOK.out.time; omega⟩
  have HLc : Hid (c < widthX m) := by have := widthX_col (m := m) (k := m.cas) HOK.out.cas.1 (.inl rfl); show c < _; omega
  have HLa : Hid (a < widthX m) := by have := widthX_col (m := m) (k := m.act) HOK.out.act.1 (.inr (.inl rfl)); show a < _; omega
  have HLt : Hid (t < widthX m) := by have := widthX_col (m := m) (k := m.time) HOK.out.time.1 (.inr (.inr (.inr (.inr (.inl rfl))))); show t < _; omega
  have HCres := Lib.hid (fun (h : 0 ≤ m.res) => widthX_col (m := m) (k := m.res) h (.inr (.inr (.inl rfl))))
  have HClife := Lib.hid (fun (h : 0 ≤ m.life) => widthX_col (m := m) (k := m.life) h (.inr (.inr (.inr (.inl rfl)))))
  have HCD := Lib.hid (fun k (hk : k ∈ m.data) => widthX_col (m := m) (k := k) (HOK.out.data k hk).1 (.inr (.inr (.inr (.inr (.inr hk))))))
  have HD1 : Hid (c ≠ a) := Lib.hid fun h => HOK.out.dist.1 (by rw [hc, ha, h])
  have HD2 : Hid (c ≠ t) := Lib.hid fun h => HOK.out.dist.2.1 (by rw [hc, ht, h])
  have HD3 : Hid (a ≠ t) := Lib.hid fun h => HOK.out.dist.2.2 (by rw [ha, ht, h])
  have HST : Hid (startH m (widthX m) = (((List.replicate (widthX m) []).set c xwCase).set a xwAct).set t xwTime) := by
    show _ = _
    unfold startH setZ
    rw [hc, ha, ht]
    rfl
  have HMX := Lib.hid (widthX_max HOK.out)
  have HHX : Hid _ := headX_eq (colsL l) m (widthX m)
  have HHL : Hid _ := headX_len (names := colsL l) (m := m) (width := widthX m)
  have HHC : Hid _ := headX_le (names := colsL l) (m := m) (width := widthX m) (fun s hs => by have := names_le HQ1.out s hs; omega)
  have HRL := Lib.hid (fun e (h : EvLe e) h0 => rowX_le (names := colsL l) (m := m) (width := widthX m) (e := e) h h0)
  obtain ⟨R0, hR0⟩ : ∃ R0, startH m (widthX m) = R0 := ⟨_, rfl⟩
  obtain ⟨hd, hhd⟩ : ∃ hd, headX (colsL l) m (widthX m) = hd := ⟨_, rfl⟩
  rw [hhd] at HHX HHL HHC HE1
  rw [hc, ha, ht] at HMP HMV HFL HRW ⊢
  obtain ⟨wd, hwd⟩ : ∃ wd, widthX m = wd := ⟨_, rfl⟩
  rw [hwd] at HRW HW40 HLc HLa HLt HCres HClife HCD HST HMX HHX HHL HRL HE1
  have hmk0 := fun w => run_make_n (P := Tryz.prog) 51 9 (.string ⟨#[]⟩) 16 Tryz.underlying51 (by kernel_rfl) wd (by have := HW40.out; omega) (by decide) rfl w
  have HNML := Lib.hid (show (colsL l).length ≤ 1000 by have h1 := compact_len (sortB (namesTo l l.length)); have h2 := sortB_len (namesTo l l.length); have h3 := HN1.out; unfold colsL setB; omega)
  obtain ⟨names, hnames⟩ : ∃ names, colsL l = names := ⟨_, rfl⟩
  rw [hnames] at HCO HN3 HNM HE1 HHX HRL HNML
  have HCX := Lib.hid (colsR_eq HOK.out)
  have HWX := Lib.hid (widthX_fold HOK.out)
  rw [hwd] at HWX
  clear hc ha ht hwd hR0 R0 hhd hnames hqq HE
  go_enter Tryz.func35, Tryz.ntmps35
  go_upto_region 1 with fail
  obtain ⟨w1, hw1⟩ : ∃ w1, w.alloc (.cells #[.slice A l.length cl] 38) = w1 := ⟨_, rfl⟩
  have z1 : w1.heap.size = w.heap.size + 1 := by rw [← hw1]; simp
  rw [hw1] at hb1 k1 ⊢
  clear hw1
  have hb2 := bone w1 (.cells #[.int .i64 (c : Int), .int .i64 (a : Int), .int .i64 m.res, .int .i64 m.life, .int .i64 (t : Int), .slice Am m.data.length cm, .slice Ak m.kinds.length ck, .int .u8 z] 33)
  have k2 := Blk.new w1 33 #[.int .i64 (c : Int), .int .i64 (a : Int), .int .i64 m.res, .int .i64 m.life, .int .i64 (t : Int), .slice Am m.data.length cm, .slice Ak m.kinds.length ck, .int .u8 z]
  have k1 := k1.now hb2
  have HB := Lib.hid (bthen hb1 hb2)
  obtain ⟨w2, hw2⟩ : ∃ w2, w1.alloc (.cells #[.int .i64 (c : Int), .int .i64 (a : Int), .int .i64 m.res, .int .i64 m.life, .int .i64 (t : Int), .slice Am m.data.length cm, .slice Ak m.kinds.length ck, .int .u8 z] 33) = w2 := ⟨_, rfl⟩
  rw [hw2] at HB k1 k2 ⊢
  rw [z1] at k2
  have HL2 := Lib.hid (HLV.out w2 (HLOG.out.now HB.out))
  have HK1 := Lib.hid k1
  have HK2 := Lib.hid k2
  have a0 := k1.c1
  obtain ⟨c0, c1, c2, c3, c4, c5, c6, c7⟩ := k2.c8m
  clear hw2 z1 hb1 hb2 k1 k2
  go_wp2_with fail
  (with_reducible refine HL2.out.mono ?_)
  rintro _ w3 ⟨rfl, hb3⟩
  have HB3 := Lib.hid hb3
  have HM3 := Lib.hid (HMV.out w3 (HMP.out.now (bthen HB.out hb3)))
  obtain ⟨d0, d1, d2, d3, d4, d5, d6, d7⟩ := (HK2.out.now hb3).c8m
  clear hb3 HL2 a0 c0 c1 c2 c3 c4 c5 c6 c7
  go_wp2_with fail
  (with_reducible refine HM3.out.mono ?_)
  rintro _ w4 ⟨rfl, hb4⟩
  have HB4 := Lib.hid (bthen HB3.out hb4)
  have HCO4 := Lib.hid (HCO.out w4 (HLOG.out.now (bthen HB.out (bthen HB3.out hb4))) HN1.out HN2.out)
  have a0 := (HK1.out.now HB4.out).c1
  clear hb4 HB3 HM3 d0 d1 d2 d3 d4 d5 d6 d7
  go_wp2_with fail
  (with_reducible refine HCO4.out.mono ?_)
  rintro _ w5 ⟨nv, rfl, hnv, hb5⟩
  have HB5 := Lib.hid (bthen HB4.out hb5)
  obtain ⟨An, cn, rfl, _, _, hnv⟩ := hnv.open_
  have HNV := Lib.hid hnv
  obtain ⟨c0, c1, c2, c3, c4, c5, c6, c7⟩ := (HK2.out.now HB5.out).c8m
  clear hb5 hnv HB4 HCO4 a0
  by_cases hnl : (names.length : Int) = (m.data.length : Int)
  case neg =>
    have HR2 : Hid (p = ([], 29)) := by show _ = _; rw [HE1.out, if_pos (by omega)]
    go_wp2_with fail
    go_ret2
    show RetSE _ _ _ _
    rw [HR2.out]
    exact ⟨rfl, HB.out.trans (HB5.out.mono HB.out.size)⟩
  have HNL : Hid (names.length = m.data.length) := by show _ = _; omega
  have HE2 : Hid (p = if (rowsX (rowX vtN names m wd) l [hd]).2 ≠ 0 then ([], (rowsX (rowX vtN names m wd) l [hd]).2) else writeE m.sep (rowsX (rowX vtN names m wd) l [hd]).1) := by
    show _ = _
    rw [HE1.out, if_neg (by have := HNL.out; omega)]
  have hnlb : ((names.length : Int) != (m.data.length : Int)) = false := by simp [hnl]
  go_upto_region 7 with fail
  clear hnl hnlb HE1 c0 c1 c2 c3 c4 c5 c6 c7
  have HM5 := Lib.hid (HK2.out.now HB5.out)
  have HMP5 := Lib.hid (HMP.out.now (bthen HB.out HB5.out))
  have HMD5 := Lib.hid (HMD.out.now (bthen HB.out HB5.out))
  have HFO5 := Lib.hid (fun W hb => HFL.out W (HMP5.out.now hb))
  have HFO5 := Lib.hid (HFL.out w5 HMP5.out)
  obtain ⟨c0, c1, c2, c3, c4, c5, c6, c7⟩ := HM5.out.c8m
  go_wp2_with fail
  (with_reducible refine HFO5.out.mono ?_)
  rintro _ w6 ⟨cv, rfl, hcv, hb6⟩
  rw [HCX.out] at hcv
  obtain ⟨Ac, cc, rfl, hcv1, hcv2, hcv⟩ := hcv.open_
  have HCV := Lib.hid hcv
  have HZB := Lib.hid (colsX_ok HOK.out)
  have HB6 := Lib.hid (HB5.out.trans (hb6.mono HB5.out.size))
  have HM6 := Lib.hid (HM5.out.now hb6)
  have HMP6 := Lib.hid (HMP5.out.now hb6)
  have HMD6 := Lib.hid (HMD5.out.now hb6)
  have HNV6 := Lib.hid (HNV.out.now hb6)
  have HLG6 := Lib.hid (HK1.out.now (HB5.out.trans (hb6.mono HB5.out.size)))
  have HS6 := Lib.hid (HS.out.now (bthen HB.out (HB5.out.trans (hb6.mono HB5.out.size))))
  obtain ⟨zs, hzs⟩ : ∃ zs, colsX m = zs := ⟨_, rfl⟩
  rw [hzs] at HCV HZB hcv1 HWX ⊢
  have hz1 : zs.length ≤ cc := hcv1
  have hz2 : cc ≤ 9223372036854775807 := hcv2
  clear hb6 hcv hcv1 hcv2 HFO5 HMX HCX HNV HMP5 HMD5 HM5 hzs c0 c1 c2 c3 c4 c5 c6 c7
  go_wp2_with fail
  go_loopw [7, 9] (fun wv iv wr => ∃ i : Nat, iv = .int .i64 (i : Int) ∧ i ≤ zs.length ∧ wv = .int .i64 (foldI zs i) ∧ w6 = wr) (fun _ iv _ => zs.length - (intOf iv).toNat)
  case atStart => exact ⟨0, rfl, Nat.zero_le _, rfl, rfl⟩
  case round =>
    obtain ⟨i, rfl, hi, rfl, rfl⟩ := hrel
    by_cases hlt : i < zs.length
    · obtain ⟨b0, o0, x, rfl, hD0, hx, _, hc0⟩ := SlI.at_ HCV.out hlt
      have HSTEP := Lib.hid (foldI_step hx)
      have hxb := HZB.out x (List.mem_of_getElem? hx)
      have hfb := foldI_bound HZB.out i
      have i0 : (0 : Int) ≤ (i : Int) := by omega
      have i1 : (i : Int) < (zs.length : Int) := by omega
      obtain ⟨W0, hW0⟩ : ∃ W0, foldI zs i = W0 := ⟨_, rfl⟩
      rw [hW0] at HSTEP hfb ⊢
      clear hx hD0 hW0
      by_cases hge : W0 ≤ x
      · have HS2 : Hid (foldI zs (i + 1) = x + 1) := by show _ = _; rw [HSTEP.out]; omega
        go_wp2_with fail
        go_roundw
        case rel => exact ⟨i + 1, by go_num, by omega, by rw [HS2.out], trivial⟩
        case measure => simp [intOf]; omega
      · have HS2 : Hid (foldI zs (i + 1) = W0) := by show _ = _; rw [HSTEP.out]; omega
        go_wp2_with fail
        go_roundw
        case rel => exact ⟨i + 1, by go_num, by omega, by rw [HS2.out], trivial⟩
        case measure => simp [intOf]; omega
    · have hie : i = zs.length := by omega
      have hil : ¬ (i : Int) < (zs.length : Int) := by omega
      have HWE : foldI zs i = (wd : Int) := by rw [hie]; exact HWX.out
      rw [HWE]
      clear hie hlt HWE
      go_upto_region 14 with fail
      have hb7 := bone w6 (.cells (madeCells #[.string ⟨#[]⟩] wd) 9)
      have m7 := OwnF.made (f := fun l : Bt => Value.string (bsOf l)) w6 9 wd [] (by have := HW40.out; unfold maxLen; omega)
      obtain ⟨w7, hw7⟩ : ∃ w7, w6.alloc (.cells (madeCells #[.string ⟨#[]⟩] wd) 9) = w7 := ⟨_, rfl⟩
      have hw7' : w6.alloc (.cells (madeCells #[(fun l : Bt => Value.string (bsOf l)) []] wd) 9) = w7 := hw7
      rw [hw7'] at m7
      have hb7' := hb7
      rw [hw7] at hb7 hb7' ⊢
      clear hw7 hw7' hmk0
      obtain ⟨g, hg⟩ : ∃ g, w6.heap.size = g := ⟨_, rfl⟩
      have HG := Lib.hid hg
      rw [hg] at hb7 m7 ⊢
      have ic0 : (0 : Int) ≤ (c : Int) := by omega
      have ia0 : (0 : Int) ≤ (a : Int) := by omega
      have it0 : (0 : Int) ≤ (t : Int) := by omega
      have ic1 : (c : Int) < (wd : Int) := by have := HLc.out; omega
      have ia1 : (a : Int) < (wd : Int) := by have := HLa.out; omega
      have it1 : (t : Int) < (wd : Int) := by have := HLt.out; omega
      obtain ⟨c0, c1, c2, c3, c4, c5, c6, c7⟩ := (HM6.out.now hb7').c8m
      have hcl := m7.cell (k := c) (x := []) (by rw [List.getElem?_replicate, if_pos HLc.out])
      have hfz := m7.frozen c
      have m8 := m7.set_ c xwCase
      have HB7 := Lib.hid (hb7.setCell (p := ⟨g, c, none⟩) (Nat.le_refl _) (.string (bsOf xwCase)))
      clear hb7 hb7' m7 hg
      go_upto_region 15 with fail
      obtain ⟨w8, hw8⟩ : ∃ w8, w7.setCell ⟨g, c, none⟩ (.string (bsOf xwCase)) = w8 := ⟨_, rfl⟩
      have hw8' : w7.setCell ⟨g, c, none⟩ (.string ⟨#[99, 97, 115, 101]⟩) = w8 := hw8
      rw [hw8] at m8 HB7
      rw [hw8']
      clear hw8 hw8' hcl hfz c0 c1 c2 c3 c4 c5 c6 c7
      have hbb : Below w6.heap.size w6 w8 := by rw [HG.out]; exact HB7.out
      obtain ⟨c0, c1, c2, c3, c4, c5, c6, c7⟩ := (HM6.out.now hbb).c8m
      have hcl := m8.cell (k := a) (x := []) (by rw [List.getElem?_set_ne HD1.out, List.getElem?_replicate, if_pos HLa.out])
      have hfz := m8.frozen a
      have m9 := m8.set_ a xwAct
      have HB8 := Lib.hid (HB7.out.setCell (p := ⟨g, a, none⟩) (Nat.le_refl _) (.string (bsOf xwAct)))
      clear hbb m8 HB7
      go_upto_region 16 with fail
      obtain ⟨w9, hw9⟩ : ∃ w9, w8.setCell ⟨g, a, none⟩ (.string (bsOf xwAct)) = w9 := ⟨_, rfl⟩
      have hw9' : w8.setCell ⟨g, a, none⟩ (.string ⟨#[97, 99, 116, 105, 118, 105, 116, 121]⟩) = w9 := hw9
      rw [hw9] at m9 HB8
      rw [hw9']
      clear hw9 hw9' hcl hfz c0 c1 c2 c3 c4 c5 c6 c7
      have hbb : Below w6.heap.size w6 w9 := by rw [HG.out]; exact HB8.out
      obtain ⟨c0, c1, c2, c3, c4, c5, c6, c7⟩ := (HM6.out.now hbb).c8m
      have hcl := m9.cell (k := t) (x := []) (by rw [List.getElem?_set_ne HD3.out, List.getElem?_set_ne HD2.out, List.getElem?_replicate, if_pos HLt.out])
      have hfz := m9.frozen t
      have m10 := m9.set_ t xwTime
      have HB9 := Lib.hid (HB8.out.setCell (p := ⟨g, t, none⟩) (Nat.le_refl _) (.string (bsOf xwTime)))
      clear hbb m9 HB8
      go_upto_region 17 with fail
      obtain ⟨w10, hw10⟩ : ∃ w10, w9.setCell ⟨g, t, none⟩ (.string (bsOf xwTime)) = w10 := ⟨_, rfl⟩
      have hw10' : w9.setCell ⟨g, t, none⟩ (.string ⟨#[116, 105, 109, 101]⟩) = w10 := hw10
      rw [hw10] at m10 HB9
      rw [hw10']
      rw [← HST.out] at m10
      have HO8 : Hid (OwnCells w10 g g wd (startH m wd)) := Lib.hid m10
      have HB8 := HB9
      clear hw10 hw10' hcl hfz c0 c1 c2 c3 c4 c5 c6 c7 m10 HB9 ic0 ia0 it0 ic1 ia1 it1
      obtain ⟨w8, hw8⟩ : ∃ w8, w10 = w8 := ⟨_, rfl⟩
      rw [hw8] at HO8 HB8 ⊢
      clear hw8
      have hbb : Below w6.heap.size w6 w8 := by rw [HG.out]; exact HB8.out
      obtain ⟨c0, c1, c2, c3, c4, c5, c6, c7⟩ := (HM6.out.now hbb).c8m
      clear hbb
      have HLR8 : Hid ((startH m wd).length = wd) := by show _ = _; unfold startH; simp [setZ_len]
      obtain ⟨r0, hr0⟩ : ∃ r0, startH m wd = r0 := ⟨_, rfl⟩
      rw [hr0] at HO8 HLR8 HHX
      clear hr0 HST
      obtain ⟨qr, hqr⟩ : ∃ qr, decide (0 ≤ m.res) = qr := ⟨_, rfl⟩
      go_upto_if 67 with fail
      have HQR := Lib.hid hqr
      clear hqr
      go_cut [] from 68 to 71 (fun W => OwnCells W g g wd (resH m r0) ∧ Below g w6 W)
      case first =>
        have HRX : Hid (resH m r0 = if qr = true then setZ r0 m.res xwRes else r0) := by
          show _ = _
          unfold resH
          rw [← HQR.out]
          by_cases h : 0 ≤ m.res
          · rw [if_pos h, if_pos (decide_eq_true h)]
          · rw [if_neg h, if_neg (by rw [decide_eq_false h]; decide)]
        cases qr with
        | false =>
          go_wp2_with fail
          go_meet
          rw [HRX.out]
          exact ⟨HO8.out, HB8.out⟩
        | true =>
          obtain ⟨r, hr⟩ : ∃ r : Nat, m.res = (r : Int) := ⟨m.res.toNat, by have := of_decide_eq_true HQR.out; omega⟩
          have HLr : Hid (r < wd) := by have := HCres.out (of_decide_eq_true HQR.out); show r < wd; omega
          have HRX2 : Hid (resH m r0 = r0.set r xwRes) := by show _ = _; rw [HRX.out, if_pos rfl]; unfold setZ; rw [hr]; rfl
          have HS4 := Lib.hid (HO8.out.set_ r xwRes)
          have HSB : Hid (Below g w6 (w8.setCell ⟨g, r, none⟩ (.string (bsOf xwRes)))) := Lib.hid (HB8.out.setCell (p := ⟨g, r, none⟩) (Nat.le_refl _) _)
          have hcl := HO8.out.cell (k := r) (List.getElem?_eq_getElem (by rw [HLR8.out]; exact HLr.out))
          have hfz := HO8.out.frozen r
          rw [hr] at c2
          have ir0 : (0 : Int) ≤ (r : Int) := by omega
          have ir1 : (r : Int) < (wd : Int) := by have := HLr.out; omega
          clear hr HRX
          go_wp2_with fail
          go_meet
          rw [HRX2.out]
          exact ⟨HS4.out, HSB.out⟩
      case rest =>
      obtain ⟨hrow, hbw⟩ := hcut
      obtain ⟨w9, hw9⟩ : ∃ w9, wc = w9 := ⟨_, rfl⟩
      rw [hw9] at hrow hbw ⊢
      have HO9 := Lib.hid hrow
      have HB9 := Lib.hid hbw
      clear hw9 hrow hbw c0 c1 c2 c3 c4 c5 c6 c7 HQR
      have hbb : Below w6.heap.size w6 w9 := by rw [HG.out]; exact HB9.out
      obtain ⟨c0, c1, c2, c3, c4, c5, c6, c7⟩ := (HM6.out.now hbb).c8m
      clear hbb
      have HLR9 : Hid ((resH m r0).length = wd) := by show _ = _; rw [← HLR8.out]; unfold resH; split <;> simp [setZ_len]
      obtain ⟨r1, hr1⟩ : ∃ r1, resH m r0 = r1 := ⟨_, rfl⟩
      rw [hr1] at HO9 HLR9 HHX
      clear hr1 HO8 HB8 HLR8
      obtain ⟨qr, hqr⟩ : ∃ qr, decide (0 ≤ m.life) = qr := ⟨_, rfl⟩
      go_upto_if 74 with fail
      have HQR := Lib.hid hqr
      clear hqr
      go_cut [] from 75 to 78 (fun W => OwnCells W g g wd (lifeH m r1) ∧ Below g w6 W)
      case first =>
        have HRX : Hid (lifeH m r1 = if qr = true then setZ r1 m.life xwLife else r1) := by
          show _ = _
          unfold lifeH
          rw [← HQR.out]
          by_cases h : 0 ≤ m.life
          · rw [if_pos h, if_pos (decide_eq_true h)]
          · rw [if_neg h, if_neg (by rw [decide_eq_false h]; decide)]
        cases qr with
        | false =>
          go_wp2_with fail
          go_meet
          rw [HRX.out]
          exact ⟨HO9.out, HB9.out⟩
        | true =>
          obtain ⟨r, hr⟩ : ∃ r : Nat, m.life = (r : Int) := ⟨m.life.toNat, by have := of_decide_eq_true HQR.out; omega⟩
          have HLr : Hid (r < wd) := by have := HClife.out (of_decide_eq_true HQR.out); show r < wd; omega
          have HRX2 : Hid (lifeH m r1 = r1.set r xwLife) := by show _ = _; rw [HRX.out, if_pos rfl]; unfold setZ; rw [hr]; rfl
          have HS4 := Lib.hid (HO9.out.set_ r xwLife)
          have HSB : Hid (Below g w6 (w9.setCell ⟨g, r, none⟩ (.string (bsOf xwLife)))) := Lib.hid (HB9.out.setCell (p := ⟨g, r, none⟩) (Nat.le_refl _) _)
          have hcl := HO9.out.cell (k := r) (List.getElem?_eq_getElem (by rw [HLR9.out]; exact HLr.out))
          have hfz := HO9.out.frozen r
          rw [hr] at c3
          have ir0 : (0 : Int) ≤ (r : Int) := by omega
          have ir1 : (r : Int) < (wd : Int) := by have := HLr.out; omega
          clear hr HRX
          go_wp2_with fail
          go_meet
          rw [HRX2.out]
          exact ⟨HS4.out, HSB.out⟩
      case rest =>
      obtain ⟨hrow, hbw⟩ := hcut
      obtain ⟨w10, hw10⟩ : ∃ w10, wc = w10 := ⟨_, rfl⟩
      rw [hw10] at hrow hbw ⊢
      have HO10 := Lib.hid hrow
      have HB10 := Lib.hid hbw
      clear hw10 hrow hbw c0 c1 c2 c3 c4 c5 c6 c7 HQR
      have hbb : Below w6.heap.size w6 w10 := by rw [HG.out]; exact HB10.out
      obtain ⟨c0, c1, c2, c3, c4, c5, c6, c7⟩ := (HM6.out.now hbb).c8m
      clear hbb
      have HLR10 : Hid ((lifeH m r1).length = wd) := by show _ = _; rw [← HLR9.out]; unfold lifeH; split <;> simp [setZ_len]
      obtain ⟨r2, hr2⟩ : ∃ r2, lifeH m r1 = r2 := ⟨_, rfl⟩
      rw [hr2] at HO10 HLR10 HHX
      clear hr2 HO9 HB9 HLR9
      go_wp2_with fail
      clear c0 c1 c2 c3 c4 c5 c6 c7
      go_loopw [11] (fun iv wr => ∃ (j : Nat) (r : List Bt), iv = .int .i64 (j : Int) ∧ j ≤ names.length ∧ Hid (OwnCells wr g g wd r) ∧ Hid (r.length = wd) ∧ Hid (hd = zipH ((m.data.zip names).drop j) r) ∧ Hid (Below g w6 wr)) (fun iv _ => names.length - (intOf iv).toNat)
      case atStart => exact ⟨0, r2, rfl, Nat.zero_le _, HO10, HLR10, HHX, HB10⟩
      case round =>
        obtain ⟨j, r, rfl, hj, HO, HLR, HHR, HBr⟩ := hrel
        obtain ⟨wo, hwo⟩ : ∃ wo, wr = wo := ⟨_, rfl⟩
        rw [hwo] at HO HBr ⊢
        clear hwo HO10 HB10 HLR10 HHX
        have HBR : Hid (Below w6.heap.size w6 wo) := by show Below _ _ _; rw [HG.out]; exact HBr.out
        have hlm : names.length ≤ 1000 := HNML.out
        by_cases hlt : j < names.length
        · have hjn : j < m.data.length := by rw [← HNL.out]; exact hlt
          obtain ⟨bd, od, dz, rfl, hDd, hxd, _, cd0⟩ := SlI.at_ HMD6.out hjn
          obtain ⟨bn, on_, s, rfl, hDn, hxn, _, cn0⟩ := SlP.at_ HNV6.out hlt
          have HCD6 : Hid (bd < w6.heap.size ∧ w6.cell? ⟨bd, od + j, none⟩ = some (.int .i64 dz)) := Lib.hid ⟨hDd, cd0⟩
          have HCN6 : Hid (bn < w6.heap.size ∧ w6.cell? ⟨bn, on_ + j, none⟩ = some (.string (bsOf s))) := Lib.hid ⟨hDn, cn0⟩
          have HSTEP := Lib.hid (zipH_step (r := r) hxd hxn)
          have hdm : dz ∈ m.data := List.mem_of_getElem? hxd
          obtain ⟨d, rfl⟩ : ∃ d : Nat, dz = (d : Int) := ⟨dz.toNat, by have := (HOK.out.data dz hdm).1; omega⟩
          have HLd : Hid (d < wd) := by have := HCD.out _ hdm; show d < wd; omega
          have id0 : (0 : Int) ≤ (d : Int) := by omega
          have id1 : (d : Int) < (wd : Int) := by have := HLd.out; omega
          have ij0 : (0 : Int) ≤ (j : Int) := by omega
          have ij1 : (j : Int) < (m.data.length : Int) := by omega
          have ij2 : (j : Int) < (names.length : Int) := by omega
          have HR0 : Hid (RelR (fun l : Bt => Value.string (bsOf l)) w6 g 9 g wd r (fun j => j = d) wo.drew) := Lib.hid ⟨HBr.out.drew, _, HO.out.drew, rfl, fun _ _ => rfl⟩
          clear hxd hxn hDd hDn hdm cd0 cn0
          go_upto_region 24 with fail
          refine wp_region_rel (by kernel_rfl) (by kernel_rfl) (by kernel_rfl) (RelR (fun l : Bt => Value.string (bsOf l)) w6 g 9 g wd r (fun j => j = d)) (refF24 w g d wd bd od cm bn on_ cn j m names s) ?h0 ?hstep ?hend ?hall
          case hall => exact hall_of (by kernel_rfl)
          case h0 => exact HR0.out
          case hstep =>
            intro i o ho listed ac W hsh hi hk hR hM
            have hb6 : Below w6.heap.size w6 W := by rw [HG.out]; exact hR.below
            have hgW : g < W.heap.size := by obtain ⟨_, h1, _, _⟩ := hR.row; exact h1.lt
            obtain ⟨c0, c1, c2, c3, c4, c5, c6, c7⟩ := (HM6.out.now hb6).c8m
            have cdW : W.cell? ⟨bd, od + j, none⟩ = some (.int .i64 (d : Int)) := (hb6.cell (p := ⟨bd, od + j, none⟩) HCD6.out.1).trans HCD6.out.2
            have cnW : W.cell? ⟨bn, on_ + j, none⟩ = some (.string (bsOf s)) := (hb6.cell (p := ⟨bn, on_ + j, none⟩) HCN6.out.1).trans HCN6.out.2
            match i, ho with
            | 0, ho =>
              injection ho with ho
              subst ho
              have e0 : ac.eval (.tmp 10) = .slice (some ⟨g, 0, none⟩) wd wd := hk.same (s := 10) (by kernel_rfl)
              exact wpM_run (.slice (some ⟨g, 0, none⟩) wd wd) W (by simp only [execOp, e0]; simp [go_sem]) ⟨_, rfl, hR, fun u hu => hu (by simp), fun j _ _ _ u h => h⟩
            | 1, ho =>
              injection ho with ho
              subst ho
              have e0 : ac.eval (.tmp 3) = .pointer (some ⟨w.heap.size + 1, 0, none⟩) := hk.same (s := 3) (by kernel_rfl)
              exact wpM_run (.pointer (some ⟨w.heap.size + 1, 5, none⟩)) W (by simp only [execOp, e0]; simp [go_sem]) ⟨_, rfl, hR, fun u hu => hu (by simp), fun j _ _ _ u h => h⟩
            | 2, ho =>
              injection ho with ho
              subst ho
              have e0 : ac.eval (.tmp 86) = .pointer (some ⟨w.heap.size + 1, 5, none⟩) := hM 1 (by decide) (ready_up hi (by kernel_rfl))
              exact wpM_run (.slice (some ⟨bd, od, none⟩) m.data.length cm) W (by simp only [execOp, e0]; simp [go_sem, c5]) ⟨_, rfl, hR, fun u hu => hu (by simp), fun j _ _ _ u h => h⟩
            | 3, ho =>
              injection ho with ho
              subst ho
              have e0 : ac.eval (.tmp 11) = .int .i64 (j : Int) := hk.same (s := 11) (by kernel_rfl)
              exact wpM_run (.int .i64 (j : Int)) W (by simp only [execOp, e0]; simp [go_sem]) ⟨_, rfl, hR, fun u hu => hu (by simp), fun j _ _ _ u h => h⟩
            | 4, ho =>
              injection ho with ho
              subst ho
              have e0 : ac.eval (.tmp 87) = .slice (some ⟨bd, od, none⟩) m.data.length cm := hM 2 (by decide) (ready_up hi (by kernel_rfl))
              have e1 : ac.eval (.tmp 88) = .int .i64 (j : Int) := hM 3 (by decide) (ready_up hi (by kernel_rfl))
              exact wpM_run (.pointer (some ⟨bd, od + j, none⟩)) W (by simp only [execOp, e0, e1]; simp [go_sem, ij0, ij1]) ⟨_, rfl, hR, fun u hu => hu (by simp), fun j _ _ _ u h => h⟩
            | 5, ho =>
              injection ho with ho
              subst ho
              have e0 : ac.eval (.tmp 89) = .pointer (some ⟨bd, od + j, none⟩) := hM 4 (by decide) (ready_up hi (by kernel_rfl))
              exact wpM_run (.int .i64 (d : Int)) W (by simp only [execOp, e0]; simp [go_sem, cdW]) ⟨_, rfl, hR, fun u hu => hu (by simp), fun j _ _ _ u h => h⟩
            | 6, ho =>
              injection ho with ho
              subst ho
              have e0 : ac.eval (.tmp 6) = .slice (some ⟨bn, on_, none⟩) names.length cn := hk.same (s := 6) (by kernel_rfl)
              exact wpM_run (.slice (some ⟨bn, on_, none⟩) names.length cn) W (by simp only [execOp, e0]; simp [go_sem]) ⟨_, rfl, hR, fun u hu => hu (by simp), fun j _ _ _ u h => h⟩
            | 7, ho =>
              injection ho with ho
              subst ho
              have e0 : ac.eval (.tmp 11) = .int .i64 (j : Int) := hk.same (s := 11) (by kernel_rfl)
              exact wpM_run (.int .i64 (j : Int)) W (by simp only [execOp, e0]; simp [go_sem]) ⟨_, rfl, hR, fun u hu => hu (by simp), fun j _ _ _ u h => h⟩
            | 8, ho =>
              injection ho with ho
              subst ho
              have e0 : ac.eval (.tmp 91) = .slice (some ⟨bn, on_, none⟩) names.length cn := hM 6 (by decide) (ready_up hi (by kernel_rfl))
              have e1 : ac.eval (.tmp 92) = .int .i64 (j : Int) := hM 7 (by decide) (ready_up hi (by kernel_rfl))
              exact wpM_run (.pointer (some ⟨bn, on_ + j, none⟩)) W (by simp only [execOp, e0, e1]; simp [go_sem, ij0, ij2]) ⟨_, rfl, hR, fun u hu => hu (by simp), fun j _ _ _ u h => h⟩
            | 9, ho =>
              injection ho with ho
              subst ho
              have e0 : ac.eval (.tmp 93) = .pointer (some ⟨bn, on_ + j, none⟩) := hM 8 (by decide) (ready_up hi (by kernel_rfl))
              exact wpM_run (.string (bsOf s)) W (by simp only [execOp, e0]; simp [go_sem, cnW]) ⟨_, rfl, hR, fun u hu => hu (by simp), fun j _ _ _ u h => h⟩
            | 10, ho =>
              injection ho with ho
              subst ho
              have e0 : ac.eval (.tmp 85) = .slice (some ⟨g, 0, none⟩) wd wd := hM 0 (by decide) (ready_up hi (by kernel_rfl))
              have e1 : ac.eval (.tmp 90) = .int .i64 (d : Int) := hM 5 (by decide) (ready_up hi (by kernel_rfl))
              exact wpM_run (.pointer (some ⟨g, d, none⟩)) W (by simp only [execOp, e0, e1]; simp [go_sem, id0, id1]) ⟨_, rfl, hR, fun u hu => hu (by simp), fun j _ _ _ u h => h⟩
            | 11, ho =>
              injection ho with ho
              subst ho
              have e0 : ac.eval (.tmp 95) = .pointer (some ⟨g, d, none⟩) := hM 10 (by decide) (ready_up hi (by kernel_rfl))
              have e1 : ac.eval (.tmp 94) = .string (bsOf s) := hM 9 (by decide) (ready_up hi (by kernel_rfl))
              obtain ⟨y, hy⟩ := hR.cell (k := d) (by rw [HLR.out]; exact HLd.out)
              have fz := hR.frozen d
              refine wpM_store _ _ _ _ _ (W.setCell ⟨g, d, none⟩ (.string (bsOf s))) () rfl e0 e1 (by simp [go_sem, hy, fz]) ⟨_, rfl, hR.set_ rfl s, fun u _ => cell_put W hy _, fun j hj hji hu u h => ?_⟩
              match j, hj, hji, h with
              | 0, _, _, h => exact h
              | 1, _, _, h => exact h
              | 2, _, _, h => exact h
              | 3, _, _, h => exact h
              | 4, _, _, h => exact h
              | 5, _, _, h => exact h
              | 6, _, _, h => exact h
              | 7, _, _, h => exact h
              | 8, _, _, h => exact h
              | 9, _, _, h => exact h
              | 10, _, _, h => exact h
              | 11, _, hji, _ => exact absurd rfl hji
              | n + 12, hj, _, _ => exact absurd hj (by simp)
            | n + 12, ho => simp at ho
          case hend =>
            intro ac W hk hR hM
            have hrow : OwnCells W g g wd (r.set d s) := by
              refine hR.end_ str_inj (by simp) (fun j hj => List.getElem?_set_ne (fun e => hj e.symm)) (fun j x hj hx => ?_)
              subst hj
              have hl1 : j < r.length := by rw [HLR.out]; exact HLd.out
              rw [List.getElem?_set_self hl1] at hx
              injection hx with hx
              rw [← hx]
              exact hM 11 (by decide)
            have hbw := hR.below
            have HROW := Lib.hid hrow
            have HBW := Lib.hid hbw
            rw [hk.form (by kernel_rfl)]
            simp only [putsAll, Option.getD_some, Act.put, List.setIfInBounds_toArray, List.set_cons_zero, List.set_cons_succ]
            go_wp2_with fail
            go_roundw
            case rel => exact ⟨j + 1, r.set d s, by go_num, by omega, HROW, Lib.hid ((List.length_set ..).trans HLR.out), Lib.hid (HHR.out.trans HSTEP.out), HBW⟩
            case measure => simp [intOf]; omega
        · have hje : j = names.length := by omega
          have HHD : Hid (hd = r) := by
            show _ = _
            rw [HHR.out, hje, List.drop_eq_nil_of_le (by rw [List.length_zip]; omega)]
            rfl
          have hjn : ¬ (j : Int) < (names.length : Int) := by omega
          have HHV : Hid (SlP (Lt wo.heap.size) wo (.slice (some ⟨g, 0, none⟩) wd wd) hd) := Lib.hid (by
            rw [HHD.out]
            have h1 := HO.out.1
            rw [HLR.out] at h1
            exact SlS.of_own (zs := r.map bsOf) (by rw [List.map_map]; exact h1) (fun z hz => by
              obtain ⟨b, hb, rfl⟩ := List.mem_map.1 hz
              rw [bs_size]
              have := HHC.out b (by rw [HHD.out]; exact hb)
              unfold maxLen; omega))
          clear hje hlt
          have hbl := bone wo (.cells #[.slice (some ⟨g, 0, none⟩) wd wd] 51)
          have HOR := ownR_one (w := wo) 51 HHV.out
          have HBo := bthen HBR.out hbl
          go_upto_region 26 with fail
          obtain ⟨wp, hwp⟩ : ∃ wp, wo.alloc (.cells #[.slice (some ⟨g, 0, none⟩) wd wd] 51) = wp := ⟨_, rfl⟩
          rw [hwp] at HOR HBo ⊢
          have HOP : Hid (OwnR 1 RStrs (fun _ => False) wp w6.heap.size 51 (.slice (some ⟨wo.heap.size, 0, none⟩) 1 1) [hd]) := Lib.hid (by
            obtain ⟨cs, h1, h2⟩ := HOR
            exact ⟨cs, own_mono h1 HBR.out.size, h2⟩)
          have HBP := Lib.hid HBo
          have HRO : Hid (RowsOk wd [hd]) := Lib.hid fun x hx => by rw [List.mem_singleton] at hx; rw [hx]; exact ⟨HHL.out, HHC.out⟩
          clear hwp HOR HBo hbl hjn HHV HHD HHR HO HBr HBR HLR
          go_wp2_with fail
          go_loopw [12, 13] (fun ov iv wr => ∃ (i : Nat) (acc : List (List Bt)), iv = .int .i64 (i : Int) ∧ i ≤ l.length ∧ acc.length = i + 1 ∧ Hid (OwnR 1 RStrs (fun _ => False) wr w6.heap.size 51 ov acc) ∧ Hid (RowsOk wd acc) ∧ Hid (rowsX (rowX vtN names m wd) l [hd] = rowsX (rowX vtN names m wd) (l.drop i) acc) ∧ Hid (Below w6.heap.size w6 wr)) (fun _ iv _ => l.length - (intOf iv).toNat)
          case atStart => exact ⟨0, [hd], rfl, Nat.zero_le _, rfl, HOP, HRO, Lib.hid rfl, HBP⟩
          case round =>
            obtain ⟨i, acc, rfl, hi, hal, HOA, HRA, HXA, HBA⟩ := hrel
            obtain ⟨wa, hwa⟩ : ∃ wa, wr = wa := ⟨_, rfl⟩
            rw [hwa] at HOA HBA ⊢
            have HAL := Lib.hid hal
            have hll : l.length ≤ 40 := few_of HQ1.out HHV0.out
            clear hwa HOP HBP HRO hal
            have lg := (HLG6.out.now HBA.out).c1
            by_cases hil : i < l.length
            · obtain ⟨be, oe, e, dv, rfl, hDe, hxe, hfe, hde, e0, e1, e2, e3, e4, e5⟩ := SlEv.at_ (SlEv.now HS6.out HBA.out) hil
              obtain ⟨Ad, cd, rfl, _, _, hde⟩ := hde.open_
              have HXE := Lib.hid hxe
              have HEL := Lib.hid (evLe (logB_ev HQ1.out hxe))
              have HEM := Lib.hid (List.mem_of_getElem? hxe)
              have HIE : Hid (IsEv (Lt wa.heap.size) wa (evV e (.slice Ad e.data.length cd)) e) := Lib.hid ⟨_, rfl, hfe, hde⟩
              unfold evV at HIE
              have HEC : Hid (be < wa.heap.size ∧ wa.cell? ⟨be, oe + i * 6, none⟩ = some (.string e.cas) ∧ wa.cell? ⟨be, oe + i * 6 + 1, none⟩ = some (.string e.act) ∧ wa.cell? ⟨be, oe + i * 6 + 2, none⟩ = some (.string e.res) ∧ wa.cell? ⟨be, oe + i * 6 + 3, none⟩ = some (.int .i64 e.life) ∧ wa.cell? ⟨be, oe + i * 6 + 4, none⟩ = some (.int .i64 e.time) ∧ wa.cell? ⟨be, oe + i * 6 + 5, none⟩ = some (.slice Ad e.data.length cd)) := Lib.hid ⟨hDe, e0, e1, e2, e3, e4, e5⟩
              have HRS := Lib.hid (HRL.out e HEL.out)
              have HRP := Lib.hid (rowsX_step (f := rowX vtN names m wd) (acc := acc) HXE.out)
              have HRR := Lib.hid (fun W (hb : Below wa.heap.size wa W) => HRW.out names e _ _ W (HIE.out.now hb) (HNV6.out.now (bthen HBA.out hb)) (HMP6.out.now (bthen HBA.out hb)) HOK.out HEL.out (fun f hf => HNM.out e HEM.out f hf) HNL.out)
              obtain ⟨x, hx⟩ : ∃ x, rowX vtN names m wd e = x := ⟨_, rfl⟩
              rw [hx] at HRR HRS HRP
              obtain ⟨row, k⟩ := x
              have i0 : (0 : Int) ≤ (i : Int) := by omega
              have i1 : (i : Int) < (l.length : Int) := by omega
              clear hxe hfe hde hDe hx e0 e1 e2 e3 e4 e5
              go_upto_region 29 with fail
              clear lg
              go_cut [14, 15] from 105 to 116 (fun rv kv W => SlP (Btw wa.heap.size W.heap.size) W rv row ∧ kv = .int .i64 k ∧ Below wa.heap.size wa W)
              case first =>
                rename_i J1 K1 hJ hK
                refine wp_region_rel2 (by kernel_rfl) (by kernel_rfl) (by kernel_rfl) (fun W => Below wa.heap.size wa W) (refF29 w.heap.size be oe i wd wa.heap.size (.slice (some ⟨be, oe, none⟩) l.length cl) (.agg #[.string e.cas, .string e.act, .string e.res, .int .i64 e.life, .int .i64 e.time, .slice Ad e.data.length cd]) (.agg #[.int .i64 (c : Int), .int .i64 (a : Int), .int .i64 m.res, .int .i64 m.life, .int .i64 (t : Int), .slice Am m.data.length cm, .slice Ak m.kinds.length ck, .int .u8 z]) (.slice An names.length cn) row k) (fun _ _ => false) ?h0 ?hstep ?hend ?hall
                case hall => exact hall_of (by kernel_rfl)
                case h0 => exact (Below.refl _ _).drew
                case hstep =>
                  intro i' o ho listed ac W hsh hi' hk hR hM
                  have hbW := bthen HBA.out hR
                  obtain ⟨c0, c1, c2, c3, c4, c5, c6, c7⟩ := (HM6.out.now hbW).c8m
                  have lg := (HLG6.out.now hbW).c1
                  have nd : ∀ k' : Nat, (fun _ _ => false : Nat → Nat → Bool) 0 k' = true → False := fun _ h => by cases h
                  have z0 := (hR.cell (p := ⟨be, oe + i * 6, none⟩) HEC.out.1).trans HEC.out.2.1
                  have z1 := (hR.cell (p := ⟨be, oe + i * 6 + 1, none⟩) HEC.out.1).trans HEC.out.2.2.1
                  have z2 := (hR.cell (p := ⟨be, oe + i * 6 + 2, none⟩) HEC.out.1).trans HEC.out.2.2.2.1
                  have z3 := (hR.cell (p := ⟨be, oe + i * 6 + 3, none⟩) HEC.out.1).trans HEC.out.2.2.2.2.1
                  have z4 := (hR.cell (p := ⟨be, oe + i * 6 + 4, none⟩) HEC.out.1).trans HEC.out.2.2.2.2.2.1
                  have z5 := (hR.cell (p := ⟨be, oe + i * 6 + 5, none⟩) HEC.out.1).trans HEC.out.2.2.2.2.2.2
                  match i', ho with
                  | 0, ho =>
                    injection ho with ho
                    subst ho
                    have e0 : ac.eval (.tmp 2) = .pointer (some ⟨w.heap.size, 0, none⟩) := hk.same (s := 2) (by kernel_rfl)
                    exact wpM_run (.pointer (some ⟨w.heap.size, 0, none⟩)) W (by simp only [execOp, e0]; simp [go_sem]) ⟨_, rfl, hR, fun u hu => hu (by simp), fun j _ _ _ _ u h => h⟩
                  | 1, ho =>
                    injection ho with ho
                    subst ho
                    have e0 : ac.eval (.tmp 106) = .pointer (some ⟨w.heap.size, 0, none⟩) := hM 0 (by decide) (ready_up hi' (by kernel_rfl)) (fun _ h => by cases h)
                    exact wpM_run (.slice (some ⟨be, oe, none⟩) l.length cl) W (by simp only [execOp, e0]; simp [go_sem, lg]) ⟨_, rfl, hR, fun u hu => hu (by simp), fun j _ _ _ _ u h => h⟩
                  | 2, ho =>
                    injection ho with ho
                    subst ho
                    have e0 : ac.eval (.tmp 13) = .int .i64 (i : Int) := hk.same (s := 13) (by kernel_rfl)
                    exact wpM_run (.int .i64 (i : Int)) W (by simp only [execOp, e0]; simp [go_sem]) ⟨_, rfl, hR, fun u hu => hu (by simp), fun j _ _ _ _ u h => h⟩
                  | 3, ho =>
                    injection ho with ho
                    subst ho
                    have e0 : ac.eval (.tmp 107) = .slice (some ⟨be, oe, none⟩) l.length cl := hM 1 (by decide) (ready_up hi' (by kernel_rfl)) (fun _ h => by cases h)
                    have e1 : ac.eval (.tmp 108) = .int .i64 (i : Int) := hM 2 (by decide) (ready_up hi' (by kernel_rfl)) (fun _ h => by cases h)
                    exact wpM_run (.pointer (some ⟨be, oe + i * 6, none⟩)) W (by simp only [execOp, e0, e1]; simp [go_sem, i0, i1]) ⟨_, rfl, hR, fun u hu => hu (by simp), fun j _ _ _ _ u h => h⟩
                  | 4, ho =>
                    injection ho with ho
                    subst ho
                    have e0 : ac.eval (.tmp 109) = .pointer (some ⟨be, oe + i * 6, none⟩) := hM 3 (by decide) (ready_up hi' (by kernel_rfl)) (fun _ h => by cases h)
                    exact wpM_run (.agg #[.string e.cas, .string e.act, .string e.res, .int .i64 e.life, .int .i64 e.time, .slice Ad e.data.length cd]) W (by simp only [execOp, e0]; simp [go_sem, z0, z1, z2, z3, z4, z5]) ⟨_, rfl, hR, fun u hu => hu (by simp), fun j _ _ _ _ u h => h⟩
                  | 5, ho =>
                    injection ho with ho
                    subst ho
                    have e0 : ac.eval (.tmp 3) = .pointer (some ⟨w.heap.size + 1, 0, none⟩) := hk.same (s := 3) (by kernel_rfl)
                    exact wpM_run (.agg #[.int .i64 (c : Int), .int .i64 (a : Int), .int .i64 m.res, .int .i64 m.life, .int .i64 (t : Int), .slice Am m.data.length cm, .slice Ak m.kinds.length ck, .int .u8 z]) W (by simp only [execOp, e0]; simp [go_sem, c0, c1, c2, c3, c4, c5, c6, c7]) ⟨_, rfl, hR, fun u hu => hu (by simp), fun j _ _ _ _ u h => h⟩
                  | 6, ho =>
                    injection ho with ho
                    subst ho
                    have e0 : ac.eval (.tmp 6) = .slice An names.length cn := hk.same (s := 6) (by kernel_rfl)
                    exact wpM_run (.slice An names.length cn) W (by simp only [execOp, e0]; simp [go_sem]) ⟨_, rfl, hR, fun u hu => hu (by simp), fun j _ _ _ _ u h => h⟩
                  | 7, ho =>
                    injection ho with ho
                    subst ho
                    have e0 : ac.eval (.tmp 7) = .int .i64 (wd : Int) := hk.same (s := 7) (by kernel_rfl)
                    exact wpM_run (.int .i64 (wd : Int)) W (by simp only [execOp, e0]; simp [go_sem]) ⟨_, rfl, hR, fun u hu => hu (by simp), fun j _ _ _ _ u h => h⟩
                  | 8, ho =>
                    injection ho with ho
                    subst ho
                    have e0 : ac.eval (.tmp 110) = .agg #[.string e.cas, .string e.act, .string e.res, .int .i64 e.life, .int .i64 e.time, .slice Ad e.data.length cd] := hM 4 (by decide) (ready_up hi' (by kernel_rfl)) (fun _ h => by cases h)
                    have e1 : ac.eval (.tmp 111) = .agg #[.int .i64 (c : Int), .int .i64 (a : Int), .int .i64 m.res, .int .i64 m.life, .int .i64 (t : Int), .slice Am m.data.length cm, .slice Ak m.kinds.length ck, .int .u8 z] := hM 5 (by decide) (ready_up hi' (by kernel_rfl)) (fun _ h => by cases h)
                    have e2 : ac.eval (.tmp 112) = .slice An names.length cn := hM 6 (by decide) (ready_up hi' (by kernel_rfl)) (fun _ h => by cases h)
                    have e3 : ac.eval (.tmp 113) = .int .i64 (wd : Int) := hM 7 (by decide) (ready_up hi' (by kernel_rfl)) (fun _ h => by cases h)
                    refine wpM_callF (f := 90) enters_written _ _ #[.agg #[.string e.cas, .string e.act, .string e.res, .int .i64 e.life, .int .i64 e.time, .slice Ad e.data.length cd], .agg #[.int .i64 (c : Int), .int .i64 (a : Int), .int .i64 m.res, .int .i64 m.life, .int .i64 (t : Int), .slice Am m.data.length cm, .slice Ak m.kinds.length ck, .int .u8 z], .slice An names.length cn, .int .i64 (wd : Int)] _ rfl rfl (by simp only [List.map_toArray, List.map_cons, List.map_nil, e0, e1, e2, e3]) ((HRR.out W hR).mono ?_)
                    rintro e' W' ⟨rv, rfl, hrv, hb⟩
                    exact ⟨_, rfl, _, rfl, hR.trans (hb.mono hR.size), fun u hu => ⟨rv, hu (by simp), SlP.keep hrv (fun b hb' => ⟨Nat.le_trans hR.size hb'.1, hb'.2⟩) (Same.refl _ _)⟩, fun j _ _ _ _ u h => ref29Keep hb j u h⟩
                  | 9, ho =>
                    injection ho with ho
                    subst ho
                    obtain ⟨rv, e0, hrv⟩ := hM 8 (by decide) (ready_up hi' (by kernel_rfl)) (fun _ h => by cases h)
                    have e0 : ac.eval (.tmp 114) = .tuple #[rv, .int .i64 k] := e0
                    exact wpM_run (.tuple #[rv, .int .i64 k]) W (by simp only [execOp, e0]; simp [go_sem]) ⟨_, rfl, hR, fun u hu => ⟨rv, hu (by simp), hrv⟩, fun j _ _ _ _ u h => h⟩
                  | 10, ho =>
                    injection ho with ho
                    subst ho
                    obtain ⟨rv, e0, hrv⟩ := hM 9 (by decide) (ready_up hi' (by kernel_rfl)) (fun _ h => by cases h)
                    have e0 : ac.eval (.tmp 105) = .tuple #[rv, .int .i64 k] := e0
                    exact wpM_run rv W (by simp only [execOp, e0]; simp [go_sem]) ⟨_, rfl, hR, fun u hu => by rw [hu (by simp)]; exact hrv, fun j _ _ _ _ u h => h⟩
                  | 11, ho =>
                    injection ho with ho
                    subst ho
                    obtain ⟨rv, e0, hrv⟩ := hM 9 (by decide) (ready_up hi' (by kernel_rfl)) (fun _ h => by cases h)
                    have e0 : ac.eval (.tmp 105) = .tuple #[rv, .int .i64 k] := e0
                    exact wpM_run (.int .i64 k) W (by simp only [execOp, e0]; simp [go_sem]) ⟨_, rfl, hR, fun u hu => hu (by simp), fun j _ _ _ _ u h => h⟩
                  | 12, ho =>
                    injection ho with ho
                    subst ho
                    have e0 : SlP (Btw wa.heap.size W.heap.size) W (ac.eval (.tmp 115)) row := hM 10 (by decide) (ready_up hi' (by kernel_rfl)) (fun _ h => by cases h)
                    exact wpM_assign _ _ rfl rfl ⟨_, rfl, hR, fun u hu => by rw [hu (by simp)]; exact e0, fun j _ _ _ _ u h => h⟩
                  | 13, ho =>
                    injection ho with ho
                    subst ho
                    have e0 : ac.eval (.tmp 116) = .int .i64 k := hM 11 (by decide) (ready_up hi' (by kernel_rfl)) (fun _ h => by cases h)
                    exact wpM_assign _ _ rfl e0 ⟨_, rfl, hR, fun u hu => hu (by simp), fun j _ _ _ _ u h => h⟩
                  | n + 14, ho => simp at ho
                case hend =>
                  intro ac W hk hR hM
                  have x14 : SlP (Btw wa.heap.size W.heap.size) W (Act.slot ac 14) row := hM 12 (by decide) (fun _ => rfl)
                  have x15 : Act.slot ac 15 = .int .i64 k := hM 13 (by decide) (fun _ => rfl)
                  refine hK _ _ ?_
                  obtain ⟨rv, hrv⟩ : ∃ rv, Act.slot ac 14 = rv := ⟨_, rfl⟩
                  rw [hrv] at x14
                  rw [hk.form (by kernel_rfl)]
                  simp only [putsAll, Option.getD_some, Act.put, List.setIfInBounds_toArray, List.set_cons_zero, List.set_cons_succ, hrv, x15]
                  go_meet
                  exact ⟨x14, rfl, hR⟩
              case rest =>
              obtain ⟨hrv, rfl, hb9⟩ := hcut
              obtain ⟨w9, hw9⟩ : ∃ w9, wc = w9 := ⟨_, rfl⟩
              rw [hw9] at hrv hb9 ⊢
              obtain ⟨Ar, cr, rfl, _, _, hrv⟩ := SlP.open_ hrv
              have HB9 := Lib.hid (bthen HBA.out hb9)
              have HO9 := Lib.hid (HOA.out.now RStrs.kept hb9)
              have HLT9 := Lib.hid (fun g (hg : _ = some g) => (OwnR.lt HOA.out g hg).2)
              have HRV := Lib.hid hrv
              clear hw9 hb9 hrv HRR HOA HBA
              by_cases hk0 : k = 0
              · subst hk0
                have HSTEP : Hid (rowsX (rowX vtN names m wd) l [hd] = rowsX (rowX vtN names m wd) (l.drop (i + 1)) (acc ++ [row])) := by
                  show _ = _
                  rw [HXA.out, HRP.out, if_neg (by simp)]
                have HRO : Hid (RowsOk wd (acc ++ [row])) := Lib.hid (RowsOk.push HRA.out (HRS.out rfl).1 (HRS.out rfl).2)
                have HSZ := Lib.hid HB9.out.size
                obtain ⟨Ao, co, hov⟩ := OwnR.open_ HO9.out
                subst hov
                have HYY : Hid (RStrs (Off (fun _ => False) w9 (.slice Ao acc.length co)) w9 row [.slice Ar row.length cr]) := Lib.hid ⟨_, rfl, SlP.keep HRV.out (fun b hb => ⟨hb.2, fun e => by have h1 := HLT9.out b e; have h2 := hb.1; omega, fun h => h⟩) (Same.refl _ _)⟩
                go_wp2_with (at_builtin; refine wpList_pushR (X := fun _ => False) appStrs RStrs.kept rfl (.tmp 120) (.tmp 122) rfl w9 [.slice Ar row.length cr] rfl (fun u hu => by simp at hu; subst hu; rfl) _ acc row rfl HO9.out HYY.out rfl (by have := HAL.out; omega) HSZ.out ?_; intro v' w10 hown hgr hat)
                have HBX : Hid (Below w6.heap.size w6 w10) := Lib.hid (HB9.out.trans (below_of_grown hgr HSZ.out (fun g hg => (OwnR.lt HO9.out g hg).1)))
                go_roundw
                case rel => exact ⟨i + 1, acc ++ [row], by go_num, by omega, by rw [List.length_append, HAL.out]; rfl, Lib.hid hown, HRO, HSTEP, HBX⟩
                case measure => simp [intOf]; omega
              · have HR2 : Hid (p = ([], k)) := by
                  show _ = _
                  have h1 : (rowsX (rowX vtN names m wd) l [hd]) = ([], k) := by rw [HXA.out, HRP.out, if_pos (by simpa using hk0)]
                  rw [HE2.out, h1, if_pos (by simpa using hk0)]
                have x1 : (k != 0) = true := by simpa using hk0
                go_wp2_with fail
                go_ret2
                show RetSE _ _ _ _
                rw [HR2.out]
                exact ⟨rfl, (HB.out.trans (HB6.out.mono HB.out.size)).trans (HB9.out.mono (HB.out.trans (HB6.out.mono HB.out.size)).size)⟩
            · have hie : i = l.length := by omega
              have HEND : Hid (rowsX (rowX vtN names m wd) l [hd] = (acc, 0)) := by
                show _ = _
                rw [HXA.out, hie, List.drop_eq_nil_of_le (Nat.le_refl _)]
                rfl
              have HR2 : Hid (p = writeE m.sep acc) := by
                show _ = _
                rw [HE2.out, HEND.out, if_neg (by simp)]
              have hin : ¬ (i : Int) < (l.length : Int) := by omega
              have HSM : Hid (SmallT acc) := Lib.hid ⟨by have := HAL.out; omega, fun r hr => ⟨by rw [(HRA.out r hr).1]; have := HW40.out; omega, (HRA.out r hr).2⟩⟩
              have HWR := Lib.hid (HWRT.out acc _ wa (slSS_of HOA.out) HSM.out)
              obtain ⟨c0, c1, c2, c3, c4, c5, c6, c7⟩ := (HM6.out.now HBA.out).c8m
              clear hie hil
              go_wp2_with fail
              (with_reducible refine HWR.out.mono ?_)
              rintro _ w9 ⟨rfl, hb9⟩
              have HB9 := Lib.hid (bthen HBA.out hb9)
              clear hb9
              go_wp2_with fail
              go_ret2
              show RetSE _ _ _ _
              rw [HR2.out]
              exact ⟨rfl, (HB.out.trans (HB6.out.mono HB.out.size)).trans (HB9.out.mono (HB.out.trans (HB6.out.mono HB.out.size)).size)⟩
end Go.Proofs.YtoalecalahkblaaGreatDoor

set_option linter.all false
namespace Go.Proofs.YtoalecalahkblaaGreatDoor
open Go.RowKit
theorem eqF_same {P : Program} {d t o : Nat} {xs : Array Value} {f : Go.Field} {l : List Go.Field} {v : Value} {W : World} (hf : (f.name == "_", f.type, f.offset) = (false, t, o)) (hp : (Go.part t xs o).run P W = .ok v W) (he : (Op.equalIn d t v v).run P W = .ok true W) :
    (Op.eqFields d xs xs (f :: l)).run P W = (Op.eqFields d xs xs l).run P W := by
  simp only [Prod.mk.injEq, beq_eq_false_iff_ne] at hf
  obtain ⟨h1, h2, h3⟩ := hf
  simp only [Op.eqFields, h1, h2, h3, ne_eq, not_false_eq_true, if_true]
  simp only [Sem.run_bind, hp, he, Result.andThen_ok]
  simp
theorem part_int {P : Program} {t o : Nat} {xs : Array Value} {v : Value} {W : World} (ht : P.underlying t = some (.int .i64)) (hx : xs[o]? = some v) : (Go.part t xs o).run P W = .ok v W := by
  simp only [Sem.run_bind, Go.part, isAgg, run_underlying ht, Result.andThen_ok, Sem.run_pure, Bool.false_eq_true, if_false, hx]
theorem part_str {P : Program} {t o : Nat} {xs : Array Value} {v : Value} {W : World} (ht : P.underlying t = some .string) (hx : xs[o]? = some v) : (Go.part t xs o).run P W = .ok v W := by
  simp only [Sem.run_bind, Go.part, isAgg, run_underlying ht, Result.andThen_ok, Sem.run_pure, Bool.false_eq_true, if_false, hx]
theorem fieldsFld : ((Program.fieldsOf Tryz.prog 123).toList.map fun f => (f.name == "_", f.type, f.offset)) = [(false, 9, 0), (false, 121, 1)] := by kernel_rfl
theorem fieldsVal : ((Program.fieldsOf Tryz.prog 121).toList.map fun f => (f.name == "_", f.type, f.offset)) = [(false, 3, 0), (false, 3, 1), (false, 9, 2)] := by kernel_rfl
theorem valInfoSize : (Tryz.prog.info? 121).map (fun i => i.size) = some 3 := by kernel_rfl
theorem list2 {α β : Type} {g : α → β} {L : List α} {a b : β} (h : L.map g = [a, b]) : ∃ x y, L = [x, y] ∧ g x = a ∧ g y = b := by
  match L, h with
  | [x, y], h => injection h with h1 h; injection h with h2 _; exact ⟨x, y, rfl, h1, h2⟩
theorem list3 {α β : Type} {g : α → β} {L : List α} {a b c : β} (h : L.map g = [a, b, c]) : ∃ x y z, L = [x, y, z] ∧ g x = a ∧ g y = b ∧ g z = c := by
  match L, h with
  | [x, y, z], h => injection h with h1 h; injection h with h2 h; injection h with h3 _; exact ⟨x, y, z, rfl, h1, h2, h3⟩
theorem valEq (a b : Int) (s : ByteArray) (W : World) (d : Nat) : (Op.equalIn (d + 1 + 1) 121 (.agg #[.int .i64 a, .int .i64 b, .string s]) (.agg #[.int .i64 a, .int .i64 b, .string s])).run Tryz.prog W = .ok true W := by
  rw [run_equalIn_agg (ht := by kernel_rfl) (hp := by kernel_rfl)]
  obtain ⟨x, y, z, hl, h1, h2, h3⟩ := list3 fieldsVal
  rw [hl]
  have hi : Program.underlying Tryz.prog 3 = some (.int .i64) := by kernel_rfl
  have hs : Program.underlying Tryz.prog 9 = some .string := by kernel_rfl
  rw [eqF_same (v := .int .i64 a) h1 (part_int hi rfl) (by rw [run_equalIn_int (h := hi)]; simp), eqF_same (v := .int .i64 b) h2 (part_int hi rfl) (by rw [run_equalIn_int (h := hi)]; simp), eqF_same (v := .string s) h3 (part_str hs rfl) (by rw [run_equalIn_string (h := hs)]; simp)]
  simp [Op.eqFields]
theorem part_val (nm : ByteArray) (a b : Int) (s : ByteArray) (W : World) : (Go.part 121 #[.string nm, .int .i64 a, .int .i64 b, .string s] 1).run Tryz.prog W = .ok (.agg #[.int .i64 a, .int .i64 b, .string s]) W := by
  obtain ⟨i, hi, hs⟩ := Option.map_eq_some_iff.1 valInfoSize
  have ht : Program.underlying Tryz.prog 121 = some (.struct (Program.fieldsOf Tryz.prog 121)) := by kernel_rfl
  simp [Go.part, isAgg, run_underlying ht, sizeOf, typeInfo, hi, hs]
theorem fldNeq (f : Fld) (W : World) : (binOp .neq 123 (.agg #[.string f.nm, .int .i64 f.v.kind, .int .i64 f.v.n, .string f.v.s]) (.agg #[.string f.nm, .int .i64 f.v.kind, .int .i64 f.v.n, .string f.v.s])).run Tryz.prog W = .ok (.bool false) W := by
  rw [run_neq_struct, show (10000 : Nat) = 9996 + 1 + 1 + 1 + 1 from rfl, run_equalIn_agg (ht := by kernel_rfl) (hp := by kernel_rfl)]
  obtain ⟨x, y, hl, h1, h2⟩ := list2 fieldsFld
  rw [hl]
  have hs : Program.underlying Tryz.prog 9 = some .string := by kernel_rfl
  rw [eqF_same (v := .string f.nm) h1 (part_str hs rfl) (by rw [run_equalIn_string (h := hs)]; simp), eqF_same h2 (part_val _ _ _ _ W) (valEq _ _ _ W _)]
  simp [Op.eqFields]
set_option maxHeartbeats 1000000 in
set_option maxRecDepth 100000 in
theorem evSame_ref (e : Ev) (d1 d2 : Value) (w : World) (h1 : SlFl (Lt w.heap.size) w d1 e.data) (h2 : SlFl (Lt w.heap.size) w d2 e.data) :
    Calls Tryz.prog 66 #[.agg #[.string e.cas, .string e.act, .string e.res, .int .i64 e.life, .int .i64 e.time, d1], .agg #[.string e.cas, .string e.act, .string e.res, .int .i64 e.life, .int .i64 e.time, d2]] w fun x w' => x = .returned (.bool true) ∧ Below w.heap.size w w' := by
  obtain ⟨A, c, rfl, _, _, h1⟩ := h1.open_
  obtain ⟨A2, c2, rfl, _, _, h2⟩ := h2.open_
  have HA := Lib.hid h1
  have HB := Lib.hid h2
  have hb1 := bone w (.cells #[.string e.cas, .string e.act, .string e.res, .int .i64 e.life, .int .i64 e.time, .slice A e.data.length c] 69)
  have hb12 := bbox hb1 (.cells #[.string e.cas, .string e.act, .string e.res, .int .i64 e.life, .int .i64 e.time, .slice A2 e.data.length c2] 69)
  have HB12 := Lib.hid hb12
  clear h1 h2
  go_enter Tryz.func66, Tryz.ntmps66
  go_wp2_with fail
  go_loopw [5] (fun iv wr => ∃ k q : Nat, iv = .int .i64 (k : Int) ∧ k ≤ e.data.length ∧ wr = ((w.alloc (.cells #[.string e.cas, .string e.act, .string e.res, .int .i64 e.life, .int .i64 e.time, .slice A e.data.length c] 69)).alloc (.cells #[.string e.cas, .string e.act, .string e.res, .int .i64 e.life, .int .i64 e.time, .slice A2 e.data.length c2] 69)).drewN q) (fun iv _ => e.data.length - (intOf iv).toNat)
  case atStart => exact ⟨0, 0, rfl, Nat.zero_le _, rfl⟩
  case round =>
    obtain ⟨k, q, rfl, hk, hwr⟩ := hrel
    by_cases hlt : k < e.data.length
    · obtain ⟨b, o, f, rfl, hDb, hx, _, f0, f1, f2, f3⟩ := SlFl.at_ HA.out hlt
      obtain ⟨b', o', f', rfl, hDb', hx', _, g0, g1, g2, g3⟩ := SlFl.at_ HB.out hlt
      rw [hx] at hx'
      injection hx' with hx'
      subst hx'
      have p0 := (hb12.cell (p := ⟨b, o + k * 4, none⟩) hDb).trans f0
      have p1 := (hb12.cell (p := ⟨b, o + k * 4 + 1, none⟩) hDb).trans f1
      have p2 := (hb12.cell (p := ⟨b, o + k * 4 + 2, none⟩) hDb).trans f2
      have p3 := (hb12.cell (p := ⟨b, o + k * 4 + 3, none⟩) hDb).trans f3
      have q0 := (hb12.cell (p := ⟨b', o' + k * 4, none⟩) hDb').trans g0
      have q1 := (hb12.cell (p := ⟨b', o' + k * 4 + 1, none⟩) hDb').trans g1
      have q2 := (hb12.cell (p := ⟨b', o' + k * 4 + 2, none⟩) hDb').trans g2
      have q3 := (hb12.cell (p := ⟨b', o' + k * 4 + 3, none⟩) hDb').trans g3
      have hne := fldNeq f
      have i1 : (0 : Int) ≤ (k : Int) := by omega
      have i2 : (k : Int) < (e.data.length : Int) := by omega
      clear hx f0 f1 f2 f3 g0 g1 g2 g3
      go_wp2_with fail
      go_quiet (fail)
      go_wp2_with fail
      go_roundw
      case rel => exact ⟨k + 1, q + nq, by go_num, by omega, by first | rfl | (rw [hwr]; simp) | simp⟩
      case measure => simp [intOf]; omega
    · obtain rfl : k = e.data.length := by omega
      have z1 : ¬ (e.data.length : Int) < (e.data.length : Int) := by omega
      go_wp2_with fail
      go_ret
      exact ⟨rfl, below_drewN HB12.out q⟩
end Go.Proofs.YtoalecalahkblaaGreatDoor

set_option linter.all false
namespace Go.Proofs.YtoalecalahkblaaGreatDoor
open Go.RowKit
set_option maxHeartbeats 1000000 in
set_option maxRecDepth 100000 in
theorem logSame_ref (l : List Ev) (u v : Value) (w : World) (hu : IsLog (Lt w.heap.size) w u l) (hv : IsLog (Lt w.heap.size) w v l) :
    Calls Tryz.prog 20 #[u, v] w fun x w' => x = .returned (.bool true) ∧ Below w.heap.size w w' := by
  obtain ⟨_, rfl, hu⟩ := hu
  obtain ⟨_, rfl, hv⟩ := hv
  obtain ⟨A, c, rfl, _, _, hu⟩ := hu.open_
  obtain ⟨A2, c2, rfl, _, _, hv⟩ := hv.open_
  have HU := Lib.hid hu
  have HV := Lib.hid hv
  have hb1 := bone w (.cells #[.slice A l.length c] 38)
  have hb12 := bbox hb1 (.cells #[.slice A2 l.length c2] 38)
  have hB1 := (Blk.new w 38 #[.slice A l.length c]).now (bone _ (.cells #[.slice A2 l.length c2] 38))
  have hB2 := Blk.new (w.alloc (.cells #[.slice A l.length c] 38)) 38 #[.slice A2 l.length c2]
  rw [World.size_alloc] at hB2
  clear hu hv hb1
  go_enter Tryz.func20, Tryz.ntmps20
  go_wp2_with fail
  obtain ⟨w2, hw2⟩ : ∃ w2, (w.alloc (.cells #[.slice A l.length c] 38)).alloc (.cells #[.slice A2 l.length c2] 38) = w2 := ⟨_, rfl⟩
  rw [hw2] at hb12 hB1 hB2 ⊢
  clear hw2
  have HB12 := Lib.hid hb12
  have HB1 := Lib.hid hB1
  have HB2 := Lib.hid hB2
  clear hb12 hB1 hB2
  go_loopw [5] (fun iv wr => ∃ k : Nat, iv = .int .i64 (k : Int) ∧ k ≤ l.length ∧ Hid (Below w2.heap.size w2 wr)) (fun iv _ => l.length - (intOf iv).toNat)
  case atStart => exact ⟨0, rfl, Nat.zero_le _, Lib.hid (Below.refl _ _)⟩
  case round =>
    obtain ⟨k, rfl, hk, HR⟩ := hrel
    have hw12 := HB12.out.size
    have hB1r := HB1.out.now HR.out
    have hB2r := HB2.out.now HR.out
    have r1 := hB1r.c1
    have r2 := hB2r.c1
    by_cases hlt : k < l.length
    · have HBR := Lib.hid (HB12.out.trans (HR.out.mono hw12))
      obtain ⟨b, o, e, dv, rfl, hD, hx, _, hdv, f0, f1, f2, f3, f4, f5⟩ := SlEv.at_ HU.out hlt
      obtain ⟨b', o', e', dv', rfl, hD', hx', _, hdv', g0, g1, g2, g3, g4, g5⟩ := SlEv.at_ HV.out hlt
      rw [hx] at hx'
      injection hx' with hx'
      subst hx'
      have hE := fun W => HBR.out.trans ((ext_below wr W).mono HBR.out.size)
      have hES := fun W => (hE W).size
      have p0 := fun W => ((hE W).cell (p := ⟨b, o + k * 6, none⟩) hD).trans f0
      have p1 := fun W => ((hE W).cell (p := ⟨b, o + k * 6 + 1, none⟩) hD).trans f1
      have p2 := fun W => ((hE W).cell (p := ⟨b, o + k * 6 + 2, none⟩) hD).trans f2
      have p3 := fun W => ((hE W).cell (p := ⟨b, o + k * 6 + 3, none⟩) hD).trans f3
      have p4 := fun W => ((hE W).cell (p := ⟨b, o + k * 6 + 4, none⟩) hD).trans f4
      have p5 := fun W => ((hE W).cell (p := ⟨b, o + k * 6 + 5, none⟩) hD).trans f5
      have q0 := fun W => ((hE W).cell (p := ⟨b', o' + k * 6, none⟩) hD').trans g0
      have q1 := fun W => ((hE W).cell (p := ⟨b', o' + k * 6 + 1, none⟩) hD').trans g1
      have q2 := fun W => ((hE W).cell (p := ⟨b', o' + k * 6 + 2, none⟩) hD').trans g2
      have q3 := fun W => ((hE W).cell (p := ⟨b', o' + k * 6 + 3, none⟩) hD').trans g3
      have q4 := fun W => ((hE W).cell (p := ⟨b', o' + k * 6 + 4, none⟩) hD').trans g4
      have q5 := fun W => ((hE W).cell (p := ⟨b', o' + k * 6 + 5, none⟩) hD').trans g5
      have t1 : ∀ W, (ext wr W).cell? ⟨w.heap.size, 0, none⟩ = some (.slice (some ⟨b, o, none⟩) l.length c) := fun W => (hB1r.now (ext_below wr W)).c1
      have t2 : ∀ W, (ext wr W).cell? ⟨w.heap.size + 1, 0, none⟩ = some (.slice (some ⟨b', o', none⟩) l.length c2) := fun W => (hB2r.now (ext_below wr W)).c1
      have HS : Hid (∀ W, Calls Tryz.prog 66 #[.agg #[.string e.cas, .string e.act, .string e.res, .int .i64 e.life, .int .i64 e.time, dv], .agg #[.string e.cas, .string e.act, .string e.res, .int .i64 e.life, .int .i64 e.time, dv']] (ext wr W) fun x w' => x = .returned (.bool true) ∧ Below (ext wr W).heap.size (ext wr W) w') :=
        Lib.hid fun W => evSame_ref e dv dv' (ext wr W) (SlFl.below hdv (hE W) (hES W)) (SlFl.below hdv' (hE W) (hES W))
      have i1 : (0 : Int) ≤ (k : Int) := by omega
      have i2 : (k : Int) < (l.length : Int) := by omega
      have HR' := HR
      clear hx f0 f1 f2 f3 f4 f5 g0 g1 g2 g3 g4 g5 hdv hdv' hE hES hB1r hB2r
      go_upto_region 6 with fail
      refine wp_region_growV (by kernel_rfl) (by kernel_rfl) ?_
      repeat (refine veil_step (fun K hK => ?_); go_simp; first | (refine hK _ ?_; clear hK K) | (apply Exists.intro; refine ⟨fun Wq => ?_, hK _ ?_⟩; ((go_at_call 66; exact grow_of (HS.out Wq))); clear hK K))
      refine veil_nil ?_
      intro _ hw'
      obtain ⟨W, rfl⟩ := hw'
      go_wp2_with fail
      go_roundw
      case rel => exact ⟨k + 1, by go_num, by omega, Lib.hid (HR'.out.trans ((ext_below wr W).mono HR'.out.size))⟩
      case measure => simp [intOf]; omega
    · obtain rfl : k = l.length := by omega
      have z1 : ¬ (l.length : Int) < (l.length : Int) := by omega
      have HF := Lib.hid (HB12.out.trans (HR.out.mono hw12))
      clear hB1r hB2r
      go_wp2_with fail
      go_ret
      exact ⟨rfl, HF.out⟩
end Go.Proofs.YtoalecalahkblaaGreatDoor

set_option linter.all false
namespace Go.Proofs.YtoalecalahkblaaGreatDoor
open Go.RowKit
def awText : ByteArray := ⟨#[119, 104, 111, 44, 119, 104, 97, 116, 44, 119, 104, 101, 110, 10, 99, 49, 44, 97, 44, 53, 10, 99, 49, 44, 34, 98, 34, 44, 51, 10]⟩
def awHead : List Bt := [[119, 104, 111], [119, 104, 97, 116], [119, 104, 101, 110]]
def awRows : List (List Bt) := [[[99, 49], [97], [53]], [[99, 49], [98], [51]]]
def awEvs : List Ev := [⟨bsOf [99, 49], bsOf [97], ⟨#[]⟩, 5, 5, []⟩, ⟨bsOf [99, 49], bsOf [98], ⟨#[]⟩, 5, 3, []⟩]
theorem aw_cells : cellsE 44 awText.data.toList = (awHead :: awRows, (0, 0), 0) := by rfl
theorem aw_sorted : sortS tlt awEvs = [⟨bsOf [99, 49], bsOf [98], ⟨#[]⟩, 5, 3, []⟩, ⟨bsOf [99, 49], bsOf [97], ⟨#[]⟩, 5, 5, []⟩] := by simp [sortS, awEvs, insL, mg, tlt]
theorem aw_nat5 : natE [53] = (5, 0) := by
  unfold natE
  rw [if_neg (by decide)]
  have h : Lib.atoiAll [53] = .ok 5 := by rfl
  have h2 : Lib.itoa 5 = [53] := by first | rfl | kernel_rfl | (simp [Lib.itoa, Lib.decDigits]; done)
  rw [h]
  show (if ((5 : Int) < 0 ∨ Lib.itoa 5 ≠ [53]) then ((0 : Int), (3 : Int)) else if (1099511627776 : Int) < 5 then (0, 2) else (5, 0)) = (5, 0)
  rw [if_neg (by rintro (h | h); omega; exact h h2), if_neg (by omega)]
theorem aw_nat3 : natE [51] = (3, 0) := by
  unfold natE
  rw [if_neg (by decide)]
  have h : Lib.atoiAll [51] = .ok 3 := by rfl
  have h2 : Lib.itoa 3 = [51] := by first | rfl | kernel_rfl | (simp [Lib.itoa, Lib.decDigits]; done)
  rw [h]
  show (if ((3 : Int) < 0 ∨ Lib.itoa 3 ≠ [51]) then ((0 : Int), (3 : Int)) else if (1099511627776 : Int) < 3 then (0, 2) else (3, 0)) = (3, 0)
  rw [if_neg (by rintro (h | h); omega; exact h h2), if_neg (by omega)]
theorem aw_good : ∀ (i : Nat) r e, awRows[i]? = some r → awEvs[i]? = some e → GoodR r e := by
  intro i r e hr he
  match i, hr, he with
  | 0, hr, he =>
    injection hr with hr
    injection he with he
    subst hr he
    exact ⟨⟨[99, 49], [97], [53], 5, rfl, rfl, rfl, by decide, by decide, aw_nat5, by decide, rfl⟩⟩
  | 1, hr, he =>
    injection hr with hr
    injection he with he
    subst hr he
    exact ⟨⟨[99, 49], [98], [51], 3, rfl, rfl, rfl, by decide, by decide, aw_nat3, by decide, rfl⟩⟩
  | i + 2, hr, _ => simp [awRows] at hr
def awS : List Ev := [⟨bsOf [99, 49], bsOf [98], ⟨#[]⟩, 5, 3, []⟩, ⟨bsOf [99, 49], bsOf [97], ⟨#[]⟩, 5, 5, []⟩]
theorem plain_any (w : World) : Calls Tryz.prog 36 #[] w fun e w' => e = .returned (.agg #[.int .i64 0, .int .i64 1, .int .i64 (-1), .int .i64 (-1), .int .i64 2, .slice none 0 0, .slice none 0 0, .int .u8 44]) ∧ Below w.heap.size w w' := by
  have hb := bone w (.cells #[.int .i64 0, .int .i64 0, .int .i64 0, .int .i64 0, .int .i64 0, .slice none 0 0, .slice none 0 0, .int .u8 0] 33)
  have hB := Blk.new w 33 #[.int .i64 0, .int .i64 0, .int .i64 0, .int .i64 0, .int .i64 0, .slice none 0 0, .slice none 0 0, .int .u8 0]
  go_enter Tryz.func36, Tryz.ntmps36
  go_upto_region 1 with fail
  go_wp2_with fail
  have hz : Blk (w.alloc (.cells #[.int .i64 0, .int .i64 1, .int .i64 (-1), .int .i64 (-1), .int .i64 2, .slice none 0 0, .slice none 0 0, .int .u8 44] 33)) w.heap.size 33 #[.int .i64 0, .int .i64 1, .int .i64 (-1), .int .i64 (-1), .int .i64 2, .slice none 0 0, .slice none 0 0, .int .u8 44] := Blk.new _ _ _
  obtain ⟨q0, q1, q2, q3, q4, q5, q6, q7⟩ := hz.c8m
  have hbz := bone w (.cells #[.int .i64 0, .int .i64 1, .int .i64 (-1), .int .i64 (-1), .int .i64 2, .slice none 0 0, .slice none 0 0, .int .u8 44] 33)
  generalize w.alloc (.cells #[.int .i64 0, .int .i64 1, .int .i64 (-1), .int .i64 (-1), .int .i64 2, .slice none 0 0, .slice none 0 0, .int .u8 44] 33) = wz at *
  refine bodyPost_ret (v := .agg #[.int .i64 0, .int .i64 1, .int .i64 (-1), .int .i64 (-1), .int .i64 2, .slice none 0 0, .slice none 0 0, .int .u8 44]) (by simp [results, Tryz.results36, go_sem, q0, q1, q2, q3, q4, q5, q6, q7]) rfl ?_
  exact ⟨rfl, hbz⟩
theorem log_lit (w : World) : IsLog (Lt (w.alloc (.cells #[.string (bsOf [99, 49]), .string (bsOf [98]), .string ⟨#[]⟩, .int .i64 5, .int .i64 3, .slice none 0 0, .string (bsOf [99, 49]), .string (bsOf [97]), .string ⟨#[]⟩, .int .i64 5, .int .i64 5, .slice none 0 0] 69)).heap.size) (w.alloc (.cells #[.string (bsOf [99, 49]), .string (bsOf [98]), .string ⟨#[]⟩, .int .i64 5, .int .i64 3, .slice none 0 0, .string (bsOf [99, 49]), .string (bsOf [97]), .string ⟨#[]⟩, .int .i64 5, .int .i64 5, .slice none 0 0] 69)) (.agg #[.slice (some ⟨w.heap.size, 0, none⟩) 2 2]) awS := by
  refine ⟨_, rfl, ?_⟩
  have hB := Blk.new w 69 #[.string (bsOf [99, 49]), .string (bsOf [98]), .string ⟨#[]⟩, .int .i64 5, .int .i64 3, .slice none 0 0, .string (bsOf [99, 49]), .string (bsOf [97]), .string ⟨#[]⟩, .int .i64 5, .int .i64 5, .slice none 0 0]
  have hfit : ∀ e ∈ awS, FitEv e := by
    intro e he
    simp only [awS, List.mem_cons, List.not_mem_nil, or_false] at he
    rcases he with rfl | rfl <;> exact ⟨by unfold maxLen; decide, by unfold maxLen; decide, by unfold maxLen; decide, by unfold Fit; simp, by unfold Fit; simp⟩
  refine Sl.ofBlk (size := 6) (cs := [.string (bsOf [99, 49]), .string (bsOf [98]), .string ⟨#[]⟩, .int .i64 5, .int .i64 3, .slice none 0 0, .string (bsOf [99, 49]), .string (bsOf [97]), .string ⟨#[]⟩, .int .i64 5, .int .i64 5, .slice none 0 0]) (xs := awS) hB (by unfold maxLen; decide) fun i x hx => ?_
  have hm := hfit x (List.mem_of_getElem? hx)
  match i, hx with
  | 0, hx =>
    injection hx with hx
    subst hx
    exact ⟨[.string (bsOf [99, 49]), .string (bsOf [98]), .string ⟨#[]⟩, .int .i64 5, .int .i64 3, .slice none 0 0], rfl, fun j u hu => by
      match j, hu with
      | 0, hu => exact hu
      | 1, hu => exact hu
      | 2, hu => exact hu
      | 3, hu => exact hu
      | 4, hu => exact hu
      | 5, hu => exact hu
      | j + 6, hu => simp at hu, _, rfl, hm, Sl.none_⟩
  | 1, hx =>
    injection hx with hx
    subst hx
    exact ⟨[.string (bsOf [99, 49]), .string (bsOf [97]), .string ⟨#[]⟩, .int .i64 5, .int .i64 5, .slice none 0 0], rfl, fun j u hu => by
      match j, hu with
      | 0, hu => exact hu
      | 1, hu => exact hu
      | 2, hu => exact hu
      | 3, hu => exact hu
      | 4, hu => exact hu
      | 5, hu => exact hu
      | j + 6, hu => simp at hu, _, rfl, hm, Sl.none_⟩
  | i + 2, hx => simp [awS] at hx
theorem rows_lit (w : World) : SlSS (Lt ((w.alloc (.cells #[.string ⟨#[120, 34, 121]⟩] 9)).alloc (.cells #[.slice (some ⟨w.heap.size, 0, none⟩) 1 1] 51)).heap.size) ((w.alloc (.cells #[.string ⟨#[120, 34, 121]⟩] 9)).alloc (.cells #[.slice (some ⟨w.heap.size, 0, none⟩) 1 1] 51)) (.slice (some ⟨w.heap.size + 1, 0, none⟩) 1 1) [[[120, 34, 121]]] := by
  have h1 := Blk.new w 9 #[.string ⟨#[120, 34, 121]⟩]
  have hs1 : (w.alloc (.cells #[.string ⟨#[120, 34, 121]⟩] 9)).heap.size = w.heap.size + 1 := by simp
  obtain ⟨w1, hw1⟩ : ∃ w1, w.alloc (.cells #[.string ⟨#[120, 34, 121]⟩] 9) = w1 := ⟨_, rfl⟩
  rw [hw1] at h1 hs1 ⊢
  have h2 := Blk.new w1 51 #[.slice (some ⟨w.heap.size, 0, none⟩) 1 1]
  have h12 := h1.now (bone w1 (.cells #[.slice (some ⟨w.heap.size, 0, none⟩) 1 1] 51))
  obtain ⟨w2, hw2⟩ : ∃ w2, w1.alloc (.cells #[.slice (some ⟨w.heap.size, 0, none⟩) 1 1] 51) = w2 := ⟨_, rfl⟩
  rw [hw2] at h2 h12 ⊢
  rw [hs1] at h2
  have hrow : SlP (Lt w2.heap.size) w2 (.slice (some ⟨w.heap.size, 0, none⟩) 1 1) [[120, 34, 121]] := SlS.ofBlk (zs := [⟨#[120, 34, 121]⟩]) h12 (by unfold maxLen; decide) (fun z hz => by
    rw [List.mem_singleton] at hz
    subst hz
    unfold maxLen
    decide)
  refine Sl.ofBlk (size := 1) (cs := [.slice (some ⟨w.heap.size, 0, none⟩) 1 1]) (xs := [[[120, 34, 121]]]) h2 (by unfold maxLen; decide) fun i x hx => ?_
  match i, hx with
  | 0, hx =>
    injection hx with hx
    subst hx
    exact ⟨[.slice (some ⟨w.heap.size, 0, none⟩) 1 1], rfl, fun j u hu => by
      match j, hu with
      | 0, hu => exact hu
      | j + 1, hu => simp at hu, _, rfl, hrow⟩
  | i + 1, hx => simp at hx
theorem aw_write : writeE 44 [[[120, 34, 121]]] = ([34, 120, 34, 34, 121, 34, 10], 0) := by rfl
set_option maxHeartbeats 8000000 in
set_option maxRecDepth 100000 in
theorem awake_any (w : World) (ha : AmbP w) : Calls Tryz.prog 10 #[] w fun e w' => e = .returned (.bool true) ∧ Below w.heap.size w w' := by
  have HP := Lib.hid plain_any
  have HI : Hid (∀ W, AmbP W → Calls Tryz.prog 16 #[.string awText, .agg #[.int .i64 0, .int .i64 1, .int .i64 (-1), .int .i64 (-1), .int .i64 2, .slice none 0 0, .slice none 0 0, .int .u8 44]] W (RetLog awS W)) := fun W hW => by
    have := import_few awText awHead awRows awEvs W (by decide) aw_cells rfl rfl (by decide) aw_good (by decide) (by decide) hW
    rwa [aw_sorted] at this
  unfold awText at HI
  have HWR : Hid (∀ W (v : Value), SlSS (Lt W.heap.size) W v [[[120, 34, 121]]] → AmbP W → Calls Tryz.prog 12 #[v, .int .u8 44] W fun e w' => e = .returned (.tuple #[.string ⟨#[34, 120, 34, 34, 121, 34, 10]⟩, .int .i64 0]) ∧ Below W.heap.size W w') := fun W v hv hW => by
    have := write_any [[[120, 34, 121]]] v 44 W hv ⟨by decide, by
      intro r hr
      rw [List.mem_singleton] at hr
      subst hr
      exact ⟨by decide, by
        intro b hb
        rw [List.mem_singleton] at hb
        subst hb
        decide⟩⟩ hW
    rw [aw_write] at this
    exact this
  have HAM := Lib.hid ha
  have HLL := Lib.hid log_lit
  have HRL := Lib.hid rows_lit
  clear ha
  go_enter Tryz.func10, Tryz.ntmps10
  go_wp2_with fail
  (with_reducible refine (HP.out _).mono ?_)
  rintro _ w1 ⟨rfl, hb1⟩
  have HB1 := Lib.hid hb1
  clear hb1
  go_wp2_with fail
  (with_reducible refine (HI.out _ (HAM.out.now HB1.out)).mono ?_)
  rintro _ w2 ⟨u, rfl, hlog, hb2⟩
  obtain ⟨ev, rfl, hsl⟩ := hlog
  obtain ⟨Ae, ce, rfl, _, _, hsl⟩ := hsl.open_
  have HSL := Lib.hid hsl
  have HB2 := Lib.hid (bthen HB1.out hb2)
  clear hsl hb2 HB1
  have hlen : awS.length = 2 := rfl
  rw [hlen] at HSL ⊢
  go_upto_region 2 with fail
  have hg1 := Blk.new w2 38 #[.slice Ae 2 ce]
  have hb3a := bone w2 (.cells #[.slice Ae 2 ce] 38)
  have hb3b := bone (w2.alloc (.cells #[.slice Ae 2 ce] 38)) (.cells #[.int .i64 0, .int .i64 0] 40)
  have HG3 := Lib.hid (hg1.now hb3b)
  have HB23 := Lib.hid (bthen hb3a hb3b)
  obtain ⟨w3, hw3⟩ : ∃ w3, (w2.alloc (.cells #[.slice Ae 2 ce] 38)).alloc (.cells #[.int .i64 0, .int .i64 0] 40) = w3 := ⟨_, rfl⟩
  rw [hw3] at HG3 HB23 ⊢
  clear hg1 hb3a hb3b hw3
  have HB3 := Lib.hid (bthen HB2.out HB23.out)
  have HSL3 : Hid (SlEv (Lt w3.heap.size) w3 (.slice Ae 2 ce) awS) := SlEv.now HSL.out HB23.out
  have HR4 := Lib.hid (HRL.out w3)
  have HB34 := Lib.hid (bthen (bone w3 (.cells #[.string ⟨#[120, 34, 121]⟩] 9)) (bone (w3.alloc (.cells #[.string ⟨#[120, 34, 121]⟩] 9)) (.cells #[.slice (some ⟨w3.heap.size, 0, none⟩) 1 1] 51)))
  have HW4 := Lib.hid (HWR.out _ _ HR4.out ((HAM.out.now HB3.out).now HB34.out))
  go_wp2_with fail
  (with_reducible refine HW4.out.mono ?_)
  rintro _ w5 ⟨rfl, hb5⟩
  have HB35 := Lib.hid (bthen HB34.out hb5)
  have HG5 := Lib.hid (HG3.out.now HB35.out)
  have HB5 := Lib.hid (bthen HB3.out HB35.out)
  have HSL5 : Hid (SlEv (Lt w5.heap.size) w5 (.slice Ae 2 ce) awS) := SlEv.now HSL3.out HB35.out
  clear hb5 HW4 HB34 HR4 HB35 HG3 HB3 HSL3
  have HLL5 := Lib.hid (HLL.out w5)
  have HB56 := Lib.hid (bone w5 (.cells #[.string (bsOf [99, 49]), .string (bsOf [98]), .string ⟨#[]⟩, .int .i64 5, .int .i64 3, .slice none 0 0, .string (bsOf [99, 49]), .string (bsOf [97]), .string ⟨#[]⟩, .int .i64 5, .int .i64 5, .slice none 0 0] 69))
  have HSM : Hid (Calls Tryz.prog 20 #[.agg #[.slice Ae 2 ce], .agg #[.slice (some ⟨w5.heap.size, 0, none⟩) 2 2]] (w5.alloc (.cells #[.string (bsOf [99, 49]), .string (bsOf [98]), .string ⟨#[]⟩, .int .i64 5, .int .i64 3, .slice none 0 0, .string (bsOf [99, 49]), .string (bsOf [97]), .string ⟨#[]⟩, .int .i64 5, .int .i64 5, .slice none 0 0] 69)) fun x w' => x = .returned (.bool true) ∧ Below (w5.alloc (.cells #[.string (bsOf [99, 49]), .string (bsOf [98]), .string ⟨#[]⟩, .int .i64 5, .int .i64 3, .slice none 0 0, .string (bsOf [99, 49]), .string (bsOf [97]), .string ⟨#[]⟩, .int .i64 5, .int .i64 5, .slice none 0 0] 69)).heap.size (w5.alloc (.cells #[.string (bsOf [99, 49]), .string (bsOf [98]), .string ⟨#[]⟩, .int .i64 5, .int .i64 3, .slice none 0 0, .string (bsOf [99, 49]), .string (bsOf [97]), .string ⟨#[]⟩, .int .i64 5, .int .i64 5, .slice none 0 0] 69)) w') :=
    logSame_ref awS _ _ _ ⟨_, rfl, SlEv.now HSL5.out HB56.out⟩ HLL5.out
  have g0 := HG5.out.c1
  have hbs1 : bsOf [99, 49] = ⟨#[99, 49]⟩ := rfl
  have hbs2 : bsOf [98] = ⟨#[98]⟩ := rfl
  have hbs3 : bsOf [97] = ⟨#[97]⟩ := rfl
  rw [hbs1, hbs2, hbs3] at HSM HB56
  clear hbs1 hbs2 hbs3 HLL HRL HWR HI HP HLL5 HAM HSL HB23
  go_wp2_with fail
  (with_reducible refine HSM.out.mono ?_)
  rintro _ w6 ⟨rfl, hb6⟩
  have HB6 := Lib.hid (bthen HB5.out (bthen HB56.out hb6))
  clear hb6
  go_wp2_with fail
  go_ret
  exact ⟨rfl, HB6.out⟩
end Go.Proofs.YtoalecalahkblaaGreatDoor

set_option linter.all false
namespace Go.Proofs.YtoalecalahkblaaGreatDoor
open Go.ChangeShapes Go.WideShapes Go.RowKit Go.Deep
theorem add_lit' (b o n j : Nat) : ((⟨b, o, none⟩ : Addr).add n).add j = ⟨b, o + n + j, none⟩ := by
  rw [add_add']; unfold Addr.add
  by_cases h : n + j = 0
  · have h1 : n = 0 := by omega
    have h2 : j = 0 := by omega
    subst h1 h2; rfl
  · rw [if_neg h]; simp [Nat.add_assoc]
theorem cell_spot {w : World} {a : Addr} {u : Value} (h : w.cell? a = some u) : a = ⟨a.block, a.off, none⟩ ∧ a.block < w.heap.size := by
  obtain ⟨b, o, s⟩ := a
  unfold World.cell? at h
  cases s with
  | none =>
    refine ⟨rfl, ?_⟩
    rcases Nat.lt_or_ge b w.heap.size with h' | h'
    · exact h'
    · simp [Array.getElem?_eq_none h'] at h
  | some s => split at h <;> simp at h
section
variable {H : Type} {enc : TypeId × Value → H} {P : Program} {w : World} {base : Nat} {spare : Nat → Bool} {held : Bool}
theorem Sl.of_trod {α : Type} [Inhabited α] {size : Nat} {R : ElemR α} {t e : TypeId} {fuel : Nat} {v : Value} {x : DataW H × List MemPlace} (ht : P.underlying t = some (.slice e)) (hsz : P.cellsOf e = size) (hs0 : 0 < size)
    (hR : ∀ (fuel' : Nat) (cs : List Value) (y : DataW H × List MemPlace), DataW.trod enc P w base spare held fuel' e cs = some y → ∃ z, R (Lt w.heap.size) w z cs)
    (h : DataW.trod enc P w base spare held fuel t [v] = some x) : ∃ xs, Sl size R (Lt w.heap.size) w v xs := by
  rcases open_slice ht h with ⟨hv, _⟩ | ⟨a, len, cap, m, n, D, Pl, hv, _, hl, hm, hmm, _, hi⟩
  · injection hv with hv; subst hv; exact ⟨[], Sl.none_⟩
  · injection hv with hv
    subst hv
    have hlm : len ≤ m := by rw [hmm]; split <;> omega
    have key : ∀ i, ∃ z : α, i < len → ∃ cs : List Value, cs.length = size ∧ R (Lt w.heap.size) w z cs ∧ ∀ j, j < size → w.cell? ((a.add (i * size)).add j) = cs[j]? := by
      intro i
      by_cases hlt : i < len
      · obtain ⟨cs', hc, htr⟩ := hi i (by omega)
        rw [hsz] at hc
        obtain ⟨z, hz⟩ := hR _ _ _ htr
        obtain ⟨_, hcl, hat⟩ := World.cells?_some hc
        exact ⟨z, fun _ => ⟨cs', hcl, hz, hat⟩⟩
      · exact ⟨default, fun h' => absurd h' hlt⟩
    refine ⟨(List.range len).map fun i => Classical.choose (key i), some a, cap, by simp, by simpa using hl, hm, fun i z hz => ?_⟩
    rw [List.getElem?_map] at hz
    have hlt : i < len := by
      rcases Nat.lt_or_ge i len with h' | h'
      · exact h'
      · rw [List.getElem?_eq_none (by simpa using h')] at hz; simp at hz
    rw [List.getElem?_range hlt] at hz
    injection hz with hz
    obtain ⟨cs, hcl, hr, hat⟩ := Classical.choose_spec (key i) hlt
    obtain ⟨cs0, hcl0, _, hat0⟩ := Classical.choose_spec (key 0) (by omega)
    have h00 := hat0 0 hs0
    have hc0 : cs0[0]? = some (cs0[0]'(by omega)) := List.getElem?_eq_getElem (by omega)
    rw [hc0] at h00
    have ha0 : (a.add (0 * size)).add 0 = a := by simp [Addr.add]
    rw [ha0] at h00
    obtain ⟨ha, hblk⟩ := cell_spot h00
    replace hz : Classical.choose (key i) = z := hz
    rw [hz] at hr
    refine ⟨a.block, a.off, cs, by rw [← ha], hblk, hcl, hr, fun j u hu => ?_⟩
    have hj : j < size := by
      rcases Nat.lt_or_ge j cs.length with h' | h'
      · omega
      · rw [List.getElem?_eq_none h'] at hu; cases hu
    have := hat j hj
    rw [ha, add_lit'] at this
    rw [this, hu]
theorem fit_of_wf {n : Int} (h : (Lit.int .i64 n).wf = true) : Fit n := by
  have h' : decide ((-9223372036854775808 : Int) ≤ n) = true ∧ decide (n ≤ (9223372036854775807 : Int)) = true := by
    rw [← Bool.and_eq_true]; exact h
  unfold Fit
  simpa using h'
theorem SlI.of_trod {t e : TypeId} {fuel : Nat} {v : Value} {x : DataW H × List MemPlace} (ht : P.underlying t = some (.slice e)) (he : P.underlying e = some (.int .i64)) (hc : P.cellsOf e = 1)
    (h : DataW.trod enc P w base spare held fuel t [v] = some x) : ∃ zs, SlI (Lt w.heap.size) w v zs :=
  Sl.of_trod ht hc (by omega) (fun _ cs y hy => by
    obtain ⟨k, e1, e2, e3⟩ := DataW.trod_int he hy
    exact ⟨k, e1, fit_of_wf e3⟩) h
theorem SlS.of_trod {t e : TypeId} {fuel : Nat} {v : Value} {x : DataW H × List MemPlace} (ht : P.underlying t = some (.slice e)) (he : P.underlying e = some .string) (hc : P.cellsOf e = 1)
    (h : DataW.trod enc P w base spare held fuel t [v] = some x) : ∃ zs, SlS (Lt w.heap.size) w v zs :=
  Sl.of_trod ht hc (by omega) (fun _ cs y hy => by
    obtain ⟨k, e1, e2, e3⟩ := DataW.trod_string he hy
    exact ⟨k, e1, e3⟩) h
theorem post_of_below {f : Func} {s : ChangeSpec} {apart fresh handsOn again : Bool} {W W' : World} {args : Array Value} {v : Value} {ds gs : List (DataW H)} {before pa pv : List MemPlace}
    (hW : DataW.Whole enc P f.params.toList s.vars apart W args.toList ds gs before)
    (hres : ∀ (b : Nat) (sp : Nat → Bool) (hd : Bool), DataW.TrodAll enc P W' b sp hd f.resultTypes.toList (v.resultList f.resultTypes.size) (s.fn H (ds ++ gs)).results [])
    (hargs : ∀ sp : Nat → Bool, (∀ p ∈ before, sp p.block = true) → DataW.TrodAll enc P W' 0 sp true f.params.toList args.toList (s.fn H (ds ++ gs)).args pa)
    (hvars : ∀ sp : Nat → Bool, (∀ p ∈ before, sp p.block = true) → DataW.TrodVars enc P W' sp s.vars (s.fn H (ds ++ gs)).vars pv)
    (hps : before = pa ++ pv) (hb : Below W.heap.size W W')
    (hok : ∀ (j : Nat) (t : TypeId) (r : Value), f.resultTypes[j]? = some t → (v.resultList f.resultTypes.size)[j]? = some r → Value.okWide P W' .any 0 t r) :
    s.post enc P f apart fresh handsOn again W args v W' := by
  have hlt : ∀ p ∈ before, p.block < W.heap.size := fun p hp => hW.lt p hp
  have hold : ∀ p ∈ before, (fun b => decide (b < W.heap.size)) p.block = true := fun p hp => by simpa using hlt p hp
  refine ⟨ds, gs, before, [], pa, pv, hW, hres _ _ _, hargs _ hold, hvars _ hold, World.keptBut_mono (fun p hp => ⟨hp, ?_⟩) (hb.frame (· ∈ before)), fun _ => ?_⟩
  · rw [hps, List.mem_append] at hp
    exact Or.inr hp
  · obtain ⟨_, _, _, _, _, hz, hn⟩ := hW
    refine ⟨hok, _, _, ([] ++ pa) ++ pv, ⟨[] ++ pa, pv, trodAll_append (hargs _ (fun _ _ => rfl)) (hres _ _ _), hvars _ (fun _ _ => rfl), rfl, ?_, ?_⟩, ?_⟩
    · intro b off hp
      have hin : MemPlace.cell b off ∈ before := by rw [hps]; simpa using hp
      rw [hb.frozen (hlt _ hin)]
      exact hz b off hin
    · intro ha
      have := hn ha
      rw [hps] at this
      simpa using this
    · intro p hp _
      rw [hps]
      simpa using hp
end
end Go.Proofs.YtoalecalahkblaaGreatDoor
