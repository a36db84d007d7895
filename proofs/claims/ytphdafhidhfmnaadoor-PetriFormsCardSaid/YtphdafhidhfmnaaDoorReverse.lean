/- petri.Reverse. -/
import Derived.Test.YtphdafhidhfmnaaDoorBackSpec
import Derived.Test.YtphdafhidhfmnaaDoorOwnR
import Derived.Test.YtphdafhidhfmnaaDoorTail
namespace Go.Proofs.YtphdafhidhfmnaaDoor
open Go.RowKit

def RetNE (n : Net) (c : Int) (w : World) (e : Ending) (w' : World) : Prop := ∃ v, e = .returned (.tuple #[v, .int .i64 c]) ∧ IsNet (Lt w'.heap.size) w' v n ∧ Below w.heap.size w w'

theorem appTrs : AppInfo Tryd.prog 22 64 3 := AppInfo.mk' (z := .agg #[.string ⟨#[]⟩, .slice none 0 0, .slice none 0 0]) (bytes := 64) Tryd.underlying22 (by kernel_rfl) (by omega) rfl (by omega)

/-- A slice that was made after B was the heap's size; it stays. -/
def Made (B : Nat) (w : World) (v : Value) (zs : List Int) : Prop := ∀ W, Below w.heap.size w W → SlI (fun b => B ≤ b ∧ b < W.heap.size) W v zs
/-- A copy, in whatever world has grown. -/
theorem clone_grown (v : Value) (zs : List Int) (wd W : World) (h : SlI (Lt wd.heap.size) wd v zs) (hb : Below wd.heap.size wd W) (hz : zs.length ≤ 1000) :
    Calls Tryd.prog 23 #[v] W fun e w' => ∃ A c, e = .returned (.slice A zs.length c) ∧ Made wd.heap.size w' (.slice A zs.length c) zs ∧ Below wd.heap.size wd w' ∧ Below W.heap.size W w' := by
  refine (cloneI v zs W (h.now hb) (by omega)).mono ?_
  rintro e w' ⟨v', rfl, ho, hb'⟩
  have h1 : SlI (fun b => wd.heap.size ≤ b ∧ b < w'.heap.size) w' v' zs :=
    Sl.of_own1 ho (by simp) (fun g hg => by have := ho.lt g hg; have := hb.size; omega) fun i x hx => ⟨.int .i64 x, by simp [hx], rfl, h.fits x (List.mem_of_getElem? hx)⟩
  obtain ⟨A, c, rfl, _, _, h1⟩ := h1.open_
  exact ⟨A, c, rfl, fun W' hW => Sl.keep h1 RInt.kept (fun b hb => ⟨hb.1, Nat.lt_of_lt_of_le hb.2 hW.size⟩) (fun b hb => hW.block b hb.2), bthen hb hb', hb'⟩

/-- What the round's walk reads. -/
def RevKP (W : World) (gt gm : Nat) (lab iv ov tv : Value) (B : Nat) : Prop := W.cell? ⟨gt, 0, none⟩ = some lab ∧ W.cell? ⟨gt, 1, none⟩ = some iv ∧ W.cell? ⟨gt, 2, none⟩ = some ov ∧ W.cell? ⟨gm, 1, none⟩ = some tv ∧ B ≤ W.heap.size ∧ gm < W.heap.size

set_option maxHeartbeats 2000000 in
set_option maxRecDepth 100000 in
theorem reverse_any (n : Net) (v : Value) (w : World) (h : IsNet (Lt w.heap.size) w v n) :
    Calls Tryd.prog 21 #[v] w (RetNE (revE n).1 (revE n).2 w) := by
  have h0 := h
  obtain ⟨tv, rfl, hp, hs, hkk, ht⟩ := h
  obtain ⟨A, c, rfl, h1, h2, ht⟩ := ht.open_
  go_enter Tryd.func21, Tryd.ntmps21
  go_wp2_with fail
  have hb := bbox (bone w (.cells #[.int .i64 n.places, .slice A n.trans.length c, .int .i64 n.source, .int .i64 n.sink] 24)) (.cells #[.int .i64 0, .slice none 0 0, .int .i64 0, .int .i64 0] 24)
  have hN := (Blk.new w 24 #[.int .i64 n.places, .slice A n.trans.length c, .int .i64 n.source, .int .i64 n.sink]).alloc (.cells #[.int .i64 0, .slice none 0 0, .int .i64 0, .int .i64 0] 24)
  have hR := Blk.new (w.alloc (.cells #[.int .i64 n.places, .slice A n.trans.length c, .int .i64 n.source, .int .i64 n.sink] 24)) 24 #[.int .i64 0, .slice none 0 0, .int .i64 0, .int .i64 0]
  rw [World.size_alloc] at hR
  refine (valid_any n _ _ (h0.now hb)).mono ?_
  rintro e w1 ⟨rfl, hb1⟩
  have hbw := bthen hb hb1
  have hN1 := hN.now hb1
  have hR1 := hR.now hb1
  have hlt1 := hR1.lt
  have hlt0 := hN1.lt
  clear hb hb1 hN hR
  obtain ⟨q0, q1, q2, q3⟩ := hN1.c4
  obtain ⟨r0, r1, r2, r3⟩ := hR1.c4
  have rf := fun i => hR1.frozen i
  generalize hq : validB n = q
  have HV := Lib.hid hq
  clear hq
  cases q
  · have HE : Hid (revE n = (noNet, 1)) := by show revE n = _; unfold revE; rw [HV.out]; rfl
    go_wp2_with fail
    refine bodyPost_ret (v := .tuple #[.agg #[.int .i64 0, .slice none 0 0, .int .i64 0, .int .i64 0], .int .i64 1]) (by simp [results, Tryd.results21, go_sem, r0, r1, r2, r3]) rfl ?_
    rw [HE.out]
    refine ⟨_, rfl, ⟨_, rfl, by unfold Fit noNet; simp, by unfold Fit noNet; simp, by unfold Fit noNet; simp, Sl.none_⟩, ?_⟩
    exact (((hbw.setCell (p := ⟨w.heap.size + 1, 0, none⟩) (Nat.le_succ _) _).setCell (p := ⟨w.heap.size + 1, 1, none⟩) (Nat.le_succ _) _).setCell (p := ⟨w.heap.size + 1, 2, none⟩) (Nat.le_succ _) _).setCell (p := ⟨w.heap.size + 1, 3, none⟩) (Nat.le_succ _) _
  have HE : Hid (revE n = (revN n, 0)) := by show revE n = _; unfold revE; rw [HV.out]; rfl
  obtain ⟨v1, v2, v3, v4⟩ := validOk HV.out
  have HLI : Hid (∀ t ∈ n.trans, t.ins.length ≤ 40 ∧ t.outs.length ≤ 40) := fun t htt => by
    have a := places_len (trPlaces (v4 t htt)).1
    have b := places_len (trPlaces (v4 t htt)).2
    omega
  clear v4
  have hM := Blk.new w1 24 #[.int .i64 n.places, .slice none 0 0, .int .i64 n.sink, .int .i64 n.source]
  have hbM := bbox hbw (.cells #[.int .i64 n.places, .slice none 0 0, .int .i64 n.sink, .int .i64 n.source] 24)
  have hRM := hR1.alloc (.cells #[.int .i64 n.places, .slice none 0 0, .int .i64 n.sink, .int .i64 n.source] 24)
  go_wp2_with fail
  clear q0 q1 q2 q3 r0 r1 r2 r3
  go_loopw [21] (fun i wr => ∃ (k : Nat) (tv : Value), k ≤ n.trans.length ∧ i = .int .i64 k ∧ Blk wr w1.heap.size 24 #[.int .i64 n.places, tv, .int .i64 n.sink, .int .i64 n.source] ∧ OwnR 3 RTr (fun b => b ≤ w1.heap.size) wr (w1.heap.size + 1) 64 tv ((n.trans.take k).map revT) ∧ Below w.heap.size w wr ∧ Blk wr (w.heap.size + 1) 24 #[.int .i64 0, .slice none 0 0, .int .i64 0, .int .i64 0]) (fun i _ => n.trans.length - (intOf i).toNat)
  case atStart => exact ⟨0, _, Nat.zero_le _, rfl, hM, OwnR.nil, hbM, hRM⟩
  case round =>
    obtain ⟨k, tv, hk, rfl, hMr, hown, hbr, hRr⟩ := hrel
    have hltM := hMr.lt
    by_cases hlt : k < n.trans.length
    · obtain ⟨b, o, t, iv, ov, rfl, hD, hx, hlb, hti, hto, d0, d1, d2⟩ := (ht.now hbr).at_ hlt
      have HX := Lib.hid hx
      have hls := HLI.out t (List.mem_of_getElem? hx)
      clear hx
      obtain ⟨Ai, ci, rfl, i1, i2, hti⟩ := hti.open_
      obtain ⟨Ao, co, rfl, o1, o2, hto⟩ := hto.open_
      have hTd := Blk.new wr 64 #[.string t.label, .slice Ai t.ins.length ci, .slice Ao t.outs.length co]
      have hbo := bone wr (.cells #[.string t.label, .slice Ai t.ins.length ci, .slice Ao t.outs.length co] 64)
      have hMd := hMr.now hbo
      have hownd := hown.now RTr.kept hbo
      have htid := hti.now hbo
      have htod := hto.now hbo
      have hbd := bthen hbr hbo
      have hRd := hRr.now hbo
      have hltd : wr.heap.size < (wr.alloc (.cells #[.string t.label, .slice Ai t.ins.length ci, .slice Ao t.outs.length co] 64)).heap.size := by simp
      go_wp2_with fail
      generalize hwd : wr.alloc _ = wd
      rw [hwd] at hTd hMd hownd htid htod hbd hRd hltd
      have hownr := hown.lt
      clear hown hti hto hbo hwd hMr hbr hRr d0 d1 d2
      obtain ⟨e0, e1, e2⟩ := hTd.c3
      obtain ⟨m0, m1, m2, m3⟩ := hMd.c4
      have mf := hMd.frozen 1
      have hownl := hownd.lt
      have hnt : tv.ownBlock ≠ some wr.heap.size := fun e => by have := hownr wr.heap.size e; omega
      have HKP : Hid (∀ W, Below wd.heap.size wd W → RevKP W wr.heap.size w1.heap.size (.string t.label) (.slice Ai t.ins.length ci) (.slice Ao t.outs.length co) tv wd.heap.size) :=
        fun W hW => ⟨(hTd.now hW).c3.1, (hTd.now hW).c3.2.1, (hTd.now hW).c3.2.2, (hMd.now hW).c4.2.1, hW.size, (hMd.now hW).lt⟩
      have HCO : Hid (∀ W, Below wd.heap.size wd W → Calls Tryd.prog 23 #[.slice Ao t.outs.length co] W fun e w' => ∃ A c, e = .returned (.slice A t.outs.length c) ∧ Made wd.heap.size w' (.slice A t.outs.length c) t.outs ∧ Below wd.heap.size wd w' ∧ Below W.heap.size W w' ∧ RevKP w' wr.heap.size w1.heap.size (.string t.label) (.slice Ai t.ins.length ci) (.slice Ao t.outs.length co) tv wd.heap.size) :=
        fun W hW => (clone_grown _ t.outs wd W htod hW (by omega)).mono fun e w' ⟨A, c, he, h1, h2, h3⟩ => ⟨A, c, he, h1, h2, h3, HKP.out _ h2⟩
      have HCI : Hid (∀ W, Below wd.heap.size wd W → Calls Tryd.prog 23 #[.slice Ai t.ins.length ci] W fun e w' => ∃ A c, e = .returned (.slice A t.ins.length c) ∧ Made wd.heap.size w' (.slice A t.ins.length c) t.ins ∧ Below wd.heap.size wd w' ∧ Below W.heap.size W w' ∧ RevKP w' wr.heap.size w1.heap.size (.string t.label) (.slice Ai t.ins.length ci) (.slice Ao t.outs.length co) tv wd.heap.size) :=
        fun W hW => (clone_grown _ t.ins wd W htid hW (by omega)).mono fun e w' ⟨A, c, he, h1, h2, h3⟩ => ⟨A, c, he, h1, h2, h3, HKP.out _ h2⟩
      have HEL : Hid (∀ (W : World) (vo vi : Value), SlI (fun b => wd.heap.size ≤ b ∧ b < W.heap.size) W vo t.outs → SlI (fun b => wd.heap.size ≤ b ∧ b < W.heap.size) W vi t.ins → RTr (Off (fun b => b ≤ w1.heap.size) W tv) W (revT t) [.string t.label, vo, vi]) := by
        intro W vo vi h1 h2
        have hd : ∀ b, wd.heap.size ≤ b ∧ b < W.heap.size → Off (fun b => b ≤ w1.heap.size) W tv b := fun b hb => ⟨hb.2, fun e => by have := hownl b e; omega, fun e => by have : b ≤ w1.heap.size := e; omega⟩
        exact ⟨vo, vi, rfl, hlb, Sl.keep h1 RInt.kept hd (Same.refl _ _), Sl.keep h2 RInt.kept hd (Same.refl _ _)⟩
      have HFIN : Hid (∀ (W w' : World) (v' : Value), Below wd.heap.size wd W → OwnR 3 RTr (fun b => b ≤ w1.heap.size) w' (w1.heap.size + 1) 64 v' ((n.trans.take k).map revT ++ [revT t]) → W.grownBy w' tv.ownBlock →
          (∃ A c, v' = .slice A (k + 1) c) ∧ Blk w' w1.heap.size 24 #[.int .i64 n.places, tv, .int .i64 n.sink, .int .i64 n.source] ∧ Blk (w'.setCell ⟨w1.heap.size, 1, none⟩ v') w1.heap.size 24 #[.int .i64 n.places, v', .int .i64 n.sink, .int .i64 n.source] ∧ OwnR 3 RTr (fun b => b ≤ w1.heap.size) (w'.setCell ⟨w1.heap.size, 1, none⟩ v') (w1.heap.size + 1) 64 v' ((n.trans.take (k + 1)).map revT) ∧ Below w.heap.size w (w'.setCell ⟨w1.heap.size, 1, none⟩ v') ∧ Blk (w'.setCell ⟨w1.heap.size, 1, none⟩ v') (w.heap.size + 1) 24 #[.int .i64 0, .slice none 0 0, .int .i64 0, .int .i64 0] ∧ Blk w' wr.heap.size 64 #[.string t.label, .slice Ai t.ins.length ci, .slice Ao t.outs.length co] ∧ Blk (w'.setCell ⟨w1.heap.size, 1, none⟩ v') wr.heap.size 64 #[.string t.label, .slice Ai t.ins.length ci, .slice Ao t.outs.length co]) := by
        intro W w' v' hW hown' hgr
        have hne : ∀ g, g < w1.heap.size + 1 → some g ≠ tv.ownBlock := fun g hg e => by have := hownl g e.symm; omega
        have a1 := (hMd.now hW).grown hgr (hne _ (by omega))
        have a2 := (hRd.now hW).grown hgr (hne _ (by omega))
        have a3 := (hTd.now hW).grown hgr (fun e => hnt e.symm)
        refine ⟨?_, a1, a1.set_ 1 v', ?_, ?_, a2.far (by show w.heap.size + 1 ≠ w1.heap.size; omega) _, a3, a3.far (by show wr.heap.size ≠ w1.heap.size; omega) _⟩
        · obtain ⟨A, c, e⟩ := hown'.open_
          refine ⟨A, c, ?_⟩
          rw [e, List.length_append, List.length_map, List.length_take, Nat.min_eq_left hk]; rfl
        · have e : (n.trans.take (k + 1)).map revT = (n.trans.take k).map revT ++ [revT t] := by
            have hx := HX.out
            have hk' : k < n.trans.length := hlt
            rw [List.getElem?_eq_getElem hk'] at hx
            injection hx with hx
            rw [List.take_succ_eq_append_getElem hk', List.map_append, hx]; rfl
          rw [e]
          exact hown'.far RTr.kept (p := ⟨w1.heap.size, 1, none⟩) (Nat.le_refl _) (fun e => by have := (hown'.lt w1.heap.size e).1; omega) v'
        · have b1 : Below w.heap.size W w' := below_of_grown hgr (Nat.le_trans (by omega) hW.size) (fun g hg => by have := hownl g hg; omega)
          exact ((bthen hbd hW).trans b1).setCell (p := ⟨w1.heap.size, 1, none⟩) (by show w.heap.size ≤ w1.heap.size; omega) _
      have hbdd : Below wd.heap.size wd wd.drew := (Below.refl _ _).drew
      have hk7 : ((n.trans.take k).map revT).length < 10000000 := by rw [List.length_map, List.length_take]; omega
      have hbase : w1.heap.size + 1 ≤ wd.heap.size := by omega
      have HS3 : Hid (∀ W, Below wd.heap.size wd W → W.cell? ⟨wr.heap.size, 0, none⟩ = some (.string t.label) ∧ W.cell? ⟨wr.heap.size, 1, none⟩ = some (.slice Ai t.ins.length ci) ∧ W.cell? ⟨wr.heap.size, 2, none⟩ = some (.slice Ao t.outs.length co)) := fun W hW => (hTd.now hW).c3
      clear hTd htid htod
      refine wp_region_held_tail 12 (fun W => W.cell? ⟨wr.heap.size, 0, none⟩ = some (.string t.label) ∧ W.cell? ⟨wr.heap.size, 1, none⟩ = some (.slice Ai t.ins.length ci) ∧ W.cell? ⟨wr.heap.size, 2, none⟩ = some (.slice Ao t.outs.length co) ∧ W.cell? ⟨w1.heap.size, 1, none⟩ = some tv) (by kernel_rfl) (by kernel_rfl) ⟨e0, e1, e2, m1⟩ (fun hHeld => ?_)
      simp only [List.take_succ_cons, List.take_zero]
      refine takeL (v := ?v0) 0 rfl (by kernel_rfl) (by kernel_rfl) (by kernel_rfl) (fun _ _ _ h => h) rfl ?hy0 hHeld ?rest0
      case hy0 => (intro W hW; obtain ⟨k0, k1, k2, k3⟩ := hW; go_simp <;> rfl)
      simp only [Act.put, List.setIfInBounds_toArray, List.set_cons_zero, List.set_cons_succ]
      refine takeL (v := ?v1) 1 rfl (by kernel_rfl) (by kernel_rfl) (by kernel_rfl) (fun _ _ _ h => h) rfl ?hy1 hHeld ?rest1
      case hy1 => (intro W hW; obtain ⟨k0, k1, k2, k3⟩ := hW; go_simp <;> rfl)
      simp only [Act.put, List.setIfInBounds_toArray, List.set_cons_zero, List.set_cons_succ]
      refine takeL (v := ?v2) 2 rfl (by kernel_rfl) (by kernel_rfl) (by kernel_rfl) (fun _ _ _ h => h) rfl ?hy2 hHeld ?rest2
      case hy2 => (intro W hW; obtain ⟨k0, k1, k2, k3⟩ := hW; go_simp <;> rfl)
      simp only [Act.put, List.setIfInBounds_toArray, List.set_cons_zero, List.set_cons_succ]
      refine takeL (v := ?v3) 3 rfl (by kernel_rfl) (by kernel_rfl) (by kernel_rfl) (fun _ _ _ h => h) rfl ?hy3 hHeld ?rest3
      case hy3 => (intro W hW; obtain ⟨k0, k1, k2, k3⟩ := hW; go_simp <;> rfl)
      simp only [Act.put, List.setIfInBounds_toArray, List.set_cons_zero, List.set_cons_succ]
      refine takeL (v := ?v4) 4 rfl (by kernel_rfl) (by kernel_rfl) (by kernel_rfl) (fun _ _ _ h => h) rfl ?hy4 hHeld ?rest4
      case hy4 => (intro W hW; obtain ⟨k0, k1, k2, k3⟩ := hW; go_simp <;> rfl)
      simp only [Act.put, List.setIfInBounds_toArray, List.set_cons_zero, List.set_cons_succ]
      refine takeL (v := ?v5) 5 rfl (by kernel_rfl) (by kernel_rfl) (by kernel_rfl) (fun _ _ _ h => h) rfl ?hy5 hHeld ?rest5
      case hy5 => (intro W hW; obtain ⟨k0, k1, k2, k3⟩ := hW; go_simp <;> rfl)
      simp only [Act.put, List.setIfInBounds_toArray, List.set_cons_zero, List.set_cons_succ]
      refine takeL (v := ?v7) 7 rfl (by kernel_rfl) (by kernel_rfl) (by kernel_rfl) (fun _ _ _ h => h) rfl ?hy7 hHeld ?rest7
      case hy7 => (intro W hW; obtain ⟨k0, k1, k2, k3⟩ := hW; go_simp <;> rfl)
      simp only [Act.put, List.setIfInBounds_toArray, List.set_cons_zero, List.set_cons_succ]
      refine takeL (v := ?v8) 8 rfl (by kernel_rfl) (by kernel_rfl) (by kernel_rfl) (fun _ _ _ h => h) rfl ?hy8 hHeld ?rest8
      case hy8 => (intro W hW; obtain ⟨k0, k1, k2, k3⟩ := hW; go_simp <;> rfl)
      simp only [Act.put, List.setIfInBounds_toArray, List.set_cons_zero, List.set_cons_succ]
      refine onlyL 6 rfl rfl (by kernel_rfl) (fun K hK => ?_)
      go_simp
      refine (HCO.out _ hbdd).mono ?_
      rintro e wo ⟨Avo, cvo, rfl, hgo, hbo1, hbo2, o0, o1', o2', o3, o4, o5⟩
      refine hK.out _ _ ⟨o0, o1', o2', o3⟩ (fun hHeld => ?_)
      clear hK K
      refine onlyL 9 rfl rfl (by kernel_rfl) (fun K hK => ?_)
      go_simp
      refine (HCI.out _ hbo1).mono ?_
      rintro e wi ⟨Avi, cvi, rfl, hgi, hbi1, hbi2, p0, p1, p2, p3, p4, p5⟩
      refine hK.out _ _ ⟨p0, p1, p2, p3⟩ (fun hHeld => ?_)
      clear hK K
      refine takeL (v := ?v10) 10 rfl (by kernel_rfl) (by kernel_rfl) (by kernel_rfl) (fun _ _ _ h => h) rfl ?hy10 hHeld ?rest10
      case hy10 => (intro W hW; go_simp <;> rfl)
      simp only [Act.put, List.setIfInBounds_toArray, List.set_cons_zero, List.set_cons_succ]
      refine onlyL 11 rfl rfl (by kernel_rfl) (fun K hK => ?_)
      go_simp
      have hal := HKP.out _ (bbox hbi1 (.cells #[.string t.label, .slice Avo t.outs.length cvo, .slice Avi t.ins.length cvi] 64))
      refine hK.out _ _ ⟨hal.1, hal.2.1, hal.2.2.1, hal.2.2.2.1⟩ (fun hHeld => ?_)
      clear hK K
      refine doneL (by kernel_rfl) ?_
      simp only [List.drop_succ_cons, List.drop_zero]
      refine wpList_pushR appTrs RTr.kept rfl (.tmp 26) (.tmp 36) rfl wi [.string t.label, .slice Avo t.outs.length cvo, .slice Avi t.ins.length cvi] rfl (by simp [Value.oneCell']) tv ((n.trans.take k).map revT) (revT t) rfl (hownd.now RTr.kept hbi1) (HEL.out _ _ _ (hgo _ hbi2) (hgi _ (Below.refl _ _))) rfl hk7 (Nat.le_trans hbase p4) ?_
      intro v' w' hown' hgr hat
      obtain ⟨⟨A9, c9, rfl⟩, hM9, hF1, hF2, hF3, hF4, hT9, hT10⟩ := HFIN.out _ _ _ hbi1 hown' hgr
      obtain ⟨n0, n1, n2, n3⟩ := hM9.c4
      have nf := hM9.frozen 1
      go_wp2_with fail
      go_roundw
      case rel => exact ⟨k + 1, _, by omega, by go_num, hF1, hF2, hF3, hF4⟩
      case measure => simp [intOf]; omega
    · obtain rfl : k = n.trans.length := by omega
      rw [List.take_of_length_le (Nat.le_refl _)] at hown
      obtain ⟨At, ct, rfl⟩ := hown.open_
      obtain ⟨m0, m1, m2, m3⟩ := hMr.c4
      have rf := fun i => hRr.frozen i
      obtain ⟨r0, r1, r2, r3⟩ := hRr.c4
      go_wp2_with fail
      have hX1 : (fun b => b ≤ w1.heap.size) (w.heap.size + 1) := (by show w.heap.size + 1 ≤ w1.heap.size; omega)
      have hO1 : ∀ v : Value, (∀ g, v.ownBlock = some g → w1.heap.size + 1 ≤ g ∧ g < wr.heap.size) → v.ownBlock ≠ some (w.heap.size + 1) := fun v h e => by have := h _ e; omega
      have hn := hO1 _ hown.lt
      have hfin := (((hown.far RTr.kept (p := ⟨w.heap.size + 1, 0, none⟩) hX1 hn (.int .i64 n.places)).far RTr.kept (p := ⟨w.heap.size + 1, 1, none⟩) hX1 hn (.slice At (n.trans.map revT).length ct)).far RTr.kept (p := ⟨w.heap.size + 1, 2, none⟩) hX1 hn (.int .i64 n.sink)).far RTr.kept (p := ⟨w.heap.size + 1, 3, none⟩) hX1 hn (.int .i64 n.source)
      have hR4 := (((hRr.set_ 0 (.int .i64 n.places)).set_ 1 (.slice At (n.trans.map revT).length ct)).set_ 2 (.int .i64 n.sink)).set_ 3 (.int .i64 n.source)
      have hb4 := (((hbr.setCell (p := ⟨w.heap.size + 1, 0, none⟩) (Nat.le_succ _) (.int .i64 n.places)).setCell (p := ⟨w.heap.size + 1, 1, none⟩) (Nat.le_succ _) (.slice At (n.trans.map revT).length ct)).setCell (p := ⟨w.heap.size + 1, 2, none⟩) (Nat.le_succ _) (.int .i64 n.sink)).setCell (p := ⟨w.heap.size + 1, 3, none⟩) (Nat.le_succ _) (.int .i64 n.source)
      rw [List.length_map] at hfin hR4 hb4
      have hsl := hfin.sl RTr.kept
      clear hfin hown hMr
      generalize (((wr.setCell ⟨w.heap.size + 1, 0, none⟩ (.int .i64 n.places)).setCell ⟨w.heap.size + 1, 1, none⟩ (.slice At n.trans.length ct)).setCell ⟨w.heap.size + 1, 2, none⟩ (.int .i64 n.sink)).setCell ⟨w.heap.size + 1, 3, none⟩ (.int .i64 n.source) = W4 at *
      obtain ⟨y0, y1, y2, y3⟩ := Blk.c4 (a := .int .i64 n.places) (b := .slice At n.trans.length ct) (c := .int .i64 n.sink) (d := .int .i64 n.source) hR4
      refine bodyPost_ret (v := .tuple #[.agg #[.int .i64 n.places, .slice At n.trans.length ct, .int .i64 n.sink, .int .i64 n.source], .int .i64 0]) (by simp [results, Tryd.results21, go_sem, y0, y1, y2, y3]) rfl ?_
      rw [HE.out]
      exact ⟨_, rfl, ⟨_, rfl, hp, hkk, hs, hsl⟩, hb4⟩
end Go.Proofs.YtphdafhidhfmnaaDoor
