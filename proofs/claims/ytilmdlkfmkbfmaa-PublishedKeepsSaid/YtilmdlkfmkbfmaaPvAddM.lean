/- privacy.Suppress's add. -/
import Derived.Test.YtilmdlkfmkbfmaaPvMap
import Derived.Deep.RegionHeld3
import Derived.Deep.RegionLaw
import Derived.Laws.EntriesVeiled
set_option linter.all false
namespace Go.Proofs.Ytilmdlkfmkbfmaa
open Go.RowKit Go.Maps Go.WideMaps

theorem WS.put {w : World} {B0 g b : Nat} {N : Nat → Nat} {B : List Vr} {bl : Nat → Option Nat} (h : WS w B0 g N B bl) (hn : NamesIn B) (h0 : ∀ u, 0 ≤ cnt B u) {u : Wd} {k : Int} (hu : u.length < 201) (hnu : Names u) (hb : bl u.length = some b) (hk : 1 ≤ k) {sv : Value} (hs : SlS (Lt B0) w sv u) (hB : B0 ≤ g) (hN : N u.length < maxLen) :
    ∃ w', (Instr.mapUpdate 60 (.map (some b)) (.string (keyS u)) (entV sv (cnt B u + k))).run Try.prog w = .ok () w' ∧ WS w' B0 g (updN N u.length (N u.length + 1)) (B ++ [⟨u, k⟩]) bl ∧ w.grownBy w' (some b) := by
  obtain ⟨hgb, n, hnN, hM⟩ := h.map u.length b hu hb
  obtain ⟨w', hrun, hM', hgr⟩ := hM.put hn h0 rfl hnu (by omega) hk hs (by omega) (by omega)
  have hblt := hM.lt
  have hsm : Same (Lt B0) w w' := fun j hj => hgr.block j (by have hj' : j < B0 := hj; omega) (fun e => by injection e with e; have hj' : j < B0 := hj; omega)
  have hgl := h.lt
  refine ⟨w', hrun, ?_, hgr⟩
  obtain ⟨⟨cs, h1, h2, h3⟩, h4, h5, h6⟩ := h
  refine ⟨⟨cs, (hgr.block g hgl (fun e => by injection e with e; omega)).trans h1, h2, h3⟩, fun j hj e v hv => ?_, fun j b' hj e => ?_, h6⟩
  · have hne : v ≠ u := fun e' => by rw [← e', hv, e] at hb; cases hb
    rw [cnt_other hne]
    exact h4 j hj e v hv
  · by_cases hj2 : j = u.length
    · subst hj2
      rw [hb] at e
      injection e with e
      subst e
      exact ⟨hgb, n + 1, by rw [updN_same]; omega, hM'⟩
    · obtain ⟨g1, n', g2, g3⟩ := h5 j b' hj e
      have hbb : b' ≠ b := fun e' => hj2 (h6 j u.length b hj hu (e' ▸ e) hb)
      refine ⟨g1, n', by rw [updN_ne hj2]; exact g2, ?_⟩
      refine (g3.keep (hgr.block b' g3.lt (fun e' => by injection e' with e'; exact hbb e')) hsm).cnt_same fun v hv => cnt_other (fun e' => hj2 (by rw [← hv, e']))
theorem mapSome (b : Nat) (w : World) : (binOp BinOp.eql 60 (.map (some b)) (.map none)).run Try.prog w = .ok (.bool false) w := by kernel_rfl
theorem mapNone (w : World) : (binOp BinOp.eql 60 (.map none) (.map none)).run Try.prog w = .ok (.bool true) w := by kernel_rfl
theorem fieldEnt (A : Option Addr) (n c : Nat) (z : Int) (W : World) : (Instr.field 62 (.agg #[.slice A n c, .int .i64 z]) 1).run Try.prog W = .ok (.int .i64 z) W := by kernel_rfl
structure RetAdd (g B0 : Nat) (N : Nat → Nat) (B : List Vr) (bl bl' : Nat → Option Nat) (u : Wd) (k : Int) (w w' : World) : Prop where
  ws : WS w' B0 g (updN N u.length (N u.length + 1)) (B ++ [⟨u, k⟩]) bl'
  other : ∀ j, j ≠ u.length → bl' j = bl j
  old : ∀ b, bl' u.length = some b → bl u.length = some b ∨ w.heap.size ≤ b
  chg : Chg (fun b => b = g ∨ bl u.length = some b) w w'
set_option maxHeartbeats 4000000 in
set_option maxRecDepth 100000 in
/-- Where there is a map of the length. -/
theorem add_map {w : World} {q B0 g b : Nat} {N : Nat → Nat} {B : List Vr} {bl : Nat → Option Nat} (h : WS w B0 g N B bl) (hn : NamesIn B) (h0 : ∀ u, 0 ≤ cnt B u) {u : Wd} {k : Int} (hu : u.length < 201) (hnu : Names u) (hb : bl u.length = some b) (hk : 1 ≤ k) (hkb : cnt B u + k ≤ 4611686018427387904) {sv : Value} (hs : SlS (Lt B0) w sv u) (hB : B0 ≤ g) (hBw : B0 ≤ w.heap.size) (hN : N u.length < maxLen) (hq : Blk w q 59 #[.slice (some ⟨g, 0, none⟩) 201 201]) :
    Calls Try.prog 25 #[sv, .int .i64 k, .pointer (some ⟨q, 0, none⟩)] w fun e w' => e = .returned (.tuple #[]) ∧ WS w' B0 g (updN N u.length (N u.length + 1)) (B ++ [⟨u, k⟩]) bl ∧ Chg (fun b' => b' = b) w w' := by
  have HW := Lib.hid h
  have HQ := Lib.hid hq
  have HS := Lib.hid hs
  have hc0 := h.cell hu
  rw [hb] at hc0
  have hq0 := hq.c1
  have hql := hq.lt
  have hgl := h.lt
  have hcu := h0 u
  have HNI := Lib.hid hn
  have HH0 := Lib.hid h0
  obtain ⟨Au, cu, rfl, hu1, hu2, _⟩ := hs.open_
  have HK : Hid (∀ W, Below w.heap.size w W → Calls Try.prog 26 #[.slice Au u.length cu] W fun e w' => e = .returned (.string (keyS u)) ∧ Below W.heap.size W w') := Lib.hid fun W hW => key_any _ u W (Sl.keep HS.out RStr.kept (fun b hb => Nat.lt_of_lt_of_le (Nat.lt_of_lt_of_le hb hBw) hW.size) (fun b hb => hW.block b (Nat.lt_of_lt_of_le hb hBw))) hnu (by omega)
  have HSS : Hid (∀ W, Below w.heap.size w W → W.cell? ⟨q, 0, none⟩ = some (.slice (some ⟨g, 0, none⟩) 201 201) ∧ W.cell? ⟨g, u.length, none⟩ = some (.map (some b))) := Lib.hid fun W hW => ⟨(hW.cell (p := ⟨q, 0, none⟩) hql).trans hq0, (hW.cell (p := ⟨g, u.length, none⟩) hgl).trans hc0⟩
  have hqb : q ≠ b := fun e => by
    obtain ⟨_, n, _, D, ⟨es, clock, g1, _⟩, _⟩ := h.map u.length b hu hb
    rw [← e] at g1
    have := hq.symm.trans g1
    injection this with this
    cases this
  have hgb : g ≠ b := Nat.ne_of_lt (h.map u.length b hu hb).1
  have HS3 : Hid (∀ W w', Below w.heap.size w W → W.grownBy w' (some b) → w'.cell? ⟨q, 0, none⟩ = some (.slice (some ⟨g, 0, none⟩) 201 201) ∧ w'.cell? ⟨g, u.length, none⟩ = some (.map (some b))) := Lib.hid fun W w' hW hg => by
    obtain ⟨k1, k2⟩ := HSS.out W hW
    exact ⟨(World.cell?_of_block (a := ⟨q, 0, none⟩) (hg.block q (Nat.lt_of_lt_of_le hql hW.size) (fun e => by injection e with e; exact hqb e))).trans k1, (World.cell?_of_block (a := ⟨g, u.length, none⟩) (hg.block g (Nat.lt_of_lt_of_le hgl hW.size) (fun e => by injection e with e; exact hgb e))).trans k2⟩
  have HLK : Hid (∀ W, Below w.heap.size w W → ∃ A n c, (Instr.lookup 60 (.map (some b)) (.string (keyS u)) false).run Try.prog W = .ok (entV (.slice A n c) (cnt B u)) W) := Lib.hid fun W hW => by
    obtain ⟨_, n, _, hM⟩ := (HW.out.now hW hBw).map u.length b hu hb
    exact hM.look HNI.out HH0.out rfl hnu (by omega)
  have HUP : Hid (∀ W, Below w.heap.size w W → ∃ w', (Instr.mapUpdate 60 (.map (some b)) (.string (keyS u)) (entV (.slice Au u.length cu) (cnt B u + k))).run Try.prog W = .ok () w' ∧ WS w' B0 g (updN N u.length (N u.length + 1)) (B ++ [⟨u, k⟩]) bl ∧ W.grownBy w' (some b)) := Lib.hid fun W hW =>
    (HW.out.now hW hBw).put HNI.out HH0.out hu hnu hb hk (Sl.keep HS.out RStr.kept (fun _ => id) (fun b hb => hW.block b (Nat.lt_of_lt_of_le hb hBw))) hB hN
  have HGB := Lib.hid (show b < w.heap.size by obtain ⟨_, n, _, hM⟩ := h.map u.length b hu hb; exact hM.lt)
  have hwr : IntKind.i64.wrap (cnt B u + k) = cnt B u + k := i64wrap (by omega)
  obtain ⟨cb, hcb⟩ : ∃ cb, cnt B u = cb := ⟨_, rfl⟩
  rw [hcb] at HLK HUP hwr
  unfold entV at HLK HUP
  have hi1 : (u.length : Int) < 201 := by omega
  have hi0 : (0 : Int) ≤ (u.length : Int) := by omega
  have hi2 : u.length < 201 := hu
  clear h hq hs hn h0 hcb hkb hcu hN hnu hu hb hk
  have hms := mapSome b
  have hfe := fieldEnt
  go_enter Try.func25, Try.ntmps25
  obtain ⟨s0, s1⟩ := HSS.out w (Below.refl _ _)
  go_upto_region 2 with fail
  have hcd : Below w.heap.size w w.drew := (Below.refl _ _).drew
  go_region_held3 (fun W => W.cell? ⟨q, 0, none⟩ = some (.slice (some ⟨g, 0, none⟩) 201 201) ∧ W.cell? ⟨g, u.length, none⟩ = some (.map (some b))) (first | exact HSS.out _ (by assumption) | exact HS3.out _ _ (by assumption) (by assumption))
    (first
      | (go_at_call 26; (with_reducible refine (HK.out w1 hc1).mono ?_); rintro _ w2 ⟨rfl, hb2⟩; have hc2 : Below w.heap.size w w2 := hc1.trans (hb2.mono hc1.size); obtain ⟨A2, n2, c2, hlk⟩ := HLK.out w2 hc2; obtain ⟨w3, hup, hws, hgr⟩ := HUP.out w2 hc2)
      | (go_at_call 26; (with_reducible refine (HK.out _ hcd).mono ?_); rintro _ w1 ⟨rfl, hb1⟩; have hc1 : Below w.heap.size w w1 := hcd.trans (hb1.mono hcd.size)))
  all_goals
    have HF : Hid (WS w3 B0 g (updN N u.length (N u.length + 1)) (B ++ [⟨u, k⟩]) bl ∧ Chg (fun b' => b' = b) w w3) := Lib.hid ⟨hws, (Chg.of_below hc2).trans (Chg.of_grown hgr rfl)⟩
    clear hws hgr hup hlk
    go_wp2_with fail
    go_end0
    exact ⟨rfl, HF.out⟩
set_option maxHeartbeats 4000000 in
set_option maxRecDepth 100000 in
/-- Where there is none yet. -/
theorem add_none {w : World} {q B0 g : Nat} {N : Nat → Nat} {B : List Vr} {bl : Nat → Option Nat} (h : WS w B0 g N B bl) (hn : NamesIn B) (h0 : ∀ u, 0 ≤ cnt B u) {u : Wd} {k : Int} (hu : u.length < 201) (hnu : Names u) (hbn : bl u.length = none) (hk : 1 ≤ k) (hkb : cnt B u + k ≤ 4611686018427387904) {sv : Value} (hs : SlS (Lt B0) w sv u) (hB : B0 ≤ g) (hBw : B0 ≤ w.heap.size) (hN : N u.length < maxLen) (hq : Blk w q 59 #[.slice (some ⟨g, 0, none⟩) 201 201]) (hgq : g ≠ q) :
    Calls Try.prog 25 #[sv, .int .i64 k, .pointer (some ⟨q, 0, none⟩)] w fun e w' => e = .returned (.tuple #[]) ∧ WS w' B0 g (updN N u.length (N u.length + 1)) (B ++ [⟨u, k⟩]) (updN bl u.length (some w.heap.size)) ∧ Chg (fun b' => b' = g) w w' := by
  have hw2 := h.make hu hbn hB
  have hch : Chg (fun b' => b' = g) w ((w.alloc (.map #[] 0)).setCell ⟨g, u.length, none⟩ (.map (some w.heap.size))) := Chg.set (S := fun b' => b' = g) (Chg.of_below (bone w _)) (p := ⟨g, u.length, none⟩) (.inr rfl) _
  have hq2 := hq.chg hch (fun e => hgq e.symm)
  have hs2 : SlS (Lt B0) ((w.alloc (.map #[] 0)).setCell ⟨g, u.length, none⟩ (.map (some w.heap.size))) sv u := Sl.keep hs RStr.kept (fun _ => id) (fun b hb => hch.block b (Nat.lt_of_lt_of_le hb hBw) (by have hb' : b < B0 := hb; omega))
  have hc0 := h.cell hu
  rw [hbn] at hc0
  have hfz := h.frozen u.length
  have hgl := h.lt
  have hq0 := hq.c1
  have hi1 : (u.length : Int) < 201 := by omega
  have hi0 : (0 : Int) ≤ (u.length : Int) := by omega
  have hi2 : u.length < 201 := hu
  have hmn := mapNone
  have hmm := @run_makeMap Try.prog
  have hfe := fieldEnt
  obtain ⟨Au, cu, rfl, hu1, hu2, _⟩ := hs.open_
  have HR : Hid (updN bl u.length (some w.heap.size) u.length = some w.heap.size) := Lib.hid (updN_same _ _ _)
  have HU := Lib.hid hu
  have HNU := Lib.hid hnu
  have HBK := Lib.hid hk
  have HKB := Lib.hid hkb
  have HNN := Lib.hid hN
  have HN0 := Lib.hid hn
  have H00 := Lib.hid h0
  clear h hs hq hbn hu hnu hk hkb hN hn h0
  go_enter Try.func25, Try.ntmps25
  go_upto_region 2 with fail
  obtain ⟨X, hX⟩ : ∃ X, (w.alloc (.map #[] 0)).setCell ⟨g, u.length, none⟩ (.map (some w.heap.size)) = X := ⟨_, rfl⟩
  have hX2 : (w.setCell ⟨g, u.length, none⟩ (.map (some w.heap.size))).alloc (.map #[] 0) = X := by rw [← hX]; exact (World.setCell_alloc_past _ _ _ _ hgl).symm
  rw [hX] at hw2 hch hq2 hs2
  rw [hX2]
  obtain ⟨bl2, hbl2⟩ : ∃ bl2, updN bl u.length (some w.heap.size) = bl2 := ⟨_, rfl⟩
  have HBL2 := Lib.hid hbl2
  rw [hbl2] at hw2 HR
  have HCH := Lib.hid hch
  have hBX : B0 ≤ X.heap.size := Nat.le_trans hBw hch.size
  obtain ⟨b, hbb⟩ : ∃ b, w.heap.size = b := ⟨_, rfl⟩
  have HBW := Lib.hid (Nat.le_of_eq hbb)
  rw [hbb] at HR
  try rw [hbb]
  have hqX := hq2.lt
  have hqX0 := hq2.c1
  have hgX := hw2.lt
  have hcX0 := hw2.cell HU.out
  rw [HR.out] at hcX0
  have HWX := Lib.hid hw2
  have HSX := Lib.hid hs2
  have HK : Hid (∀ W, Below X.heap.size X W → Calls Try.prog 26 #[.slice Au u.length cu] W fun e w' => e = .returned (.string (keyS u)) ∧ Below W.heap.size W w') := Lib.hid fun W hW => key_any _ u W (Sl.keep HSX.out RStr.kept (fun b hb => Nat.lt_of_lt_of_le (Nat.lt_of_lt_of_le hb hBX) hW.size) (fun b hb => hW.block b (Nat.lt_of_lt_of_le hb hBX))) HNU.out (by have := HU.out; omega)
  have HSS : Hid (∀ W, Below X.heap.size X W → W.cell? ⟨q, 0, none⟩ = some (.slice (some ⟨g, 0, none⟩) 201 201) ∧ W.cell? ⟨g, u.length, none⟩ = some (.map (some b))) := Lib.hid fun W hW => ⟨(hW.cell (p := ⟨q, 0, none⟩) hqX).trans hqX0, (hW.cell (p := ⟨g, u.length, none⟩) hgX).trans hcX0⟩
  have hqb : q ≠ b := fun e => by
    obtain ⟨_, n, _, D, ⟨es, clock, g1, _⟩, _⟩ := hw2.map u.length b HU.out HR.out
    rw [← e] at g1
    have := hq2.symm.trans g1
    injection this with this
    cases this
  have hgb : g ≠ b := Nat.ne_of_lt (hw2.map u.length b HU.out HR.out).1
  have HS3 : Hid (∀ W w', Below X.heap.size X W → W.grownBy w' (some b) → w'.cell? ⟨q, 0, none⟩ = some (.slice (some ⟨g, 0, none⟩) 201 201) ∧ w'.cell? ⟨g, u.length, none⟩ = some (.map (some b))) := Lib.hid fun W w' hW hg => by
    obtain ⟨k1, k2⟩ := HSS.out W hW
    exact ⟨(World.cell?_of_block (a := ⟨q, 0, none⟩) (hg.block q (Nat.lt_of_lt_of_le hqX hW.size) (fun e => by injection e with e; exact hqb e))).trans k1, (World.cell?_of_block (a := ⟨g, u.length, none⟩) (hg.block g (Nat.lt_of_lt_of_le hgX hW.size) (fun e => by injection e with e; exact hgb e))).trans k2⟩
  have HLK : Hid (∀ W, Below X.heap.size X W → ∃ A n c, (Instr.lookup 60 (.map (some b)) (.string (keyS u)) false).run Try.prog W = .ok (entV (.slice A n c) (cnt B u)) W) := Lib.hid fun W hW => by
    obtain ⟨_, n, _, hM⟩ := (HWX.out.now hW hBX).map u.length b HU.out HR.out
    exact hM.look HN0.out H00.out rfl HNU.out (by have := HU.out; omega)
  have HUP : Hid (∀ W, Below X.heap.size X W → ∃ w', (Instr.mapUpdate 60 (.map (some b)) (.string (keyS u)) (entV (.slice Au u.length cu) (cnt B u + k))).run Try.prog W = .ok () w' ∧ WS w' B0 g (updN N u.length (N u.length + 1)) (B ++ [⟨u, k⟩]) bl2 ∧ W.grownBy w' (some b)) := Lib.hid fun W hW =>
    (HWX.out.now hW hBX).put HN0.out H00.out HU.out HNU.out HR.out HBK.out (Sl.keep HSX.out RStr.kept (fun _ => id) (fun b hb => hW.block b (Nat.lt_of_lt_of_le hb hBX))) hB HNN.out
  have HGB := Lib.hid (show b < X.heap.size by obtain ⟨_, n, _, hM⟩ := hw2.map u.length b HU.out HR.out; exact hM.lt)
  have hwr : IntKind.i64.wrap (cnt B u + k) = cnt B u + k := i64wrap (by have := HKB.out; have := H00.out u; have := HBK.out; omega)
  obtain ⟨cb, hcb⟩ : ∃ cb, cnt B u = cb := ⟨_, rfl⟩
  rw [hcb] at HLK HUP hwr
  unfold entV at HLK HUP
  clear hw2 hq2 hs2 hch hX hX2 hbl2 hbb hmm hcb hc0 hq0 hfz hBw
  have hms := mapSome b
  obtain ⟨s0, s1⟩ := HSS.out X (Below.refl _ _)
  have hcd : Below X.heap.size X X.drew := (Below.refl _ _).drew
  go_region_held3 (fun W => W.cell? ⟨q, 0, none⟩ = some (.slice (some ⟨g, 0, none⟩) 201 201) ∧ W.cell? ⟨g, u.length, none⟩ = some (.map (some b))) (first | exact HSS.out _ (by assumption) | exact HS3.out _ _ (by assumption) (by assumption))
    (first
      | (go_at_call 26; (with_reducible refine (HK.out w1 hc1).mono ?_); rintro _ w2 ⟨rfl, hb2⟩; have hc2 : Below X.heap.size X w2 := hc1.trans (hb2.mono hc1.size); obtain ⟨A2, n2, c2, hlk⟩ := HLK.out w2 hc2; obtain ⟨w3, hup, hws, hgr⟩ := HUP.out w2 hc2)
      | (go_at_call 26; (with_reducible refine (HK.out _ hcd).mono ?_); rintro _ w1 ⟨rfl, hb1⟩; have hc1 : Below X.heap.size X w1 := hcd.trans (hb1.mono hcd.size)))
  all_goals
    have HF : Hid (WS w3 B0 g (updN N u.length (N u.length + 1)) (B ++ [⟨u, k⟩]) bl2 ∧ Chg (fun b' => b' = g) w w3) := Lib.hid ⟨hws, by have h2 := HCH.out.trans (Chg.of_below (S := fun b' => b' = g) hc2); exact ⟨hgr.os.trans h2.os, hgr.tape.trans h2.tape, hgr.output.trans h2.output, Nat.le_trans h2.size hgr.size, fun i hi hn => (hgr.block i (Nat.lt_of_lt_of_le hi h2.size) (fun e => by injection e with e; have := HBW.out; omega)).trans (h2.block i hi hn)⟩⟩
    clear hws hgr hup hlk
    go_wp2_with fail
    go_end0
    exact ⟨rfl, by rw [HBL2.out]; exact HF.out.1, HF.out.2⟩
