/- casebookref21.Reverse. -/
import Derived.Test.YtphdafhidhfmnaaDoorReverse
import Derived.Test.YtphdafhidhfmnaaDoorAwake
namespace Go.Proofs.YtphdafhidhfmnaaDoor
open Go.RowKit

theorem own_open {w : World} {base t n : Nat} {v : Value} {xs : List Value} (h : w.ownsRow base t 1 v n xs) : ∃ A c, v = .slice A n c := by
  rcases h.2 with ⟨rfl, h0⟩ | ⟨g, cap, cur, rfl, _⟩
  · exact ⟨none, 0, by rw [h0]⟩
  · exact ⟨_, _, rfl⟩
theorem own_empty (w : World) (B t : Nat) (hB : B ≤ w.heap.size) : (w.alloc (.cells #[] t)).ownsRow B t 1 (.slice (some ⟨w.heap.size, 0, none⟩) 0 0) 0 [] :=
  World.ownsRow_lit (base := B) (e := t) (size := 1) w #[] 0 hB (by unfold maxLen; omega) rfl
/-- A copy of the numbers zs in a row of the call's own, none of it in the block g. -/
structure Cop (B g : Nat) (W : World) (A : Option Addr) (c : Nat) (zs : List Int) : Prop where
  own : W.ownsRow B 3 1 (.slice A zs.length c) zs.length (zs.map (Value.int .i64))
  far : (Value.slice A zs.length c).ownBlock ≠ some g
theorem Cop.now {B g : Nat} {W W' : World} {A : Option Addr} {c : Nat} {zs : List Int} (h : Cop B g W A c zs) (hb : Below W.heap.size W W') : Cop B g W' A c zs := ⟨own_now h.own hb, h.far⟩
theorem Cop.grown {B g : Nat} {W W' : World} {A : Option Addr} {c : Nat} {zs : List Int} (h : Cop B g W A c zs) (hb : W.grownBy W' (some g)) : Cop B g W' A c zs :=
  ⟨h.own.kept hb (by
    cases e : (Value.slice A zs.length c).ownBlock with
    | none => exact .inl rfl
    | some g' => exact .inr (fun e' => h.far (by rw [e, e']))), h.far⟩
theorem Cop.sl {B g : Nat} {W : World} {A : Option Addr} {c : Nat} {zs : List Int} (h : Cop B g W A c zs) (hf : ∀ z ∈ zs, Fit z) : SlI (fun b => B ≤ b ∧ b < W.heap.size) W (.slice A zs.length c) zs :=
  Sl.of_own1 h.own rfl (fun g hg => h.own.lt g hg) fun i x hx => ⟨.int .i64 x, by simp [hx], rfl, hf x (List.mem_of_getElem? hx)⟩

set_option maxHeartbeats 2000000 in
set_option maxRecDepth 100000 in
theorem reverse_ref (n : Net) (v : Value) (w : World) (h : IsNet (Lt w.heap.size) w v n) (hV : validB n = true) :
    Calls Tryd.prog 46 #[v] w (RetNet (revN n) w) := by
  have HV := Lib.hid hV
  clear hV
  obtain ⟨tv, rfl, hp, hs, hkk, ht⟩ := h
  obtain ⟨A, c, rfl, h1, h2, ht⟩ := ht.open_
  go_enter Tryd.func46, Tryd.ntmps46
  have hbw := bbox (bone w (.cells #[.int .i64 n.places, .slice A n.trans.length c, .int .i64 n.source, .int .i64 n.sink] 24)) (.cells #[.int .i64 0, .slice none 0 0, .int .i64 0, .int .i64 0] 24)
  have hN1 := (Blk.new w 24 #[.int .i64 n.places, .slice A n.trans.length c, .int .i64 n.source, .int .i64 n.sink]).alloc (.cells #[.int .i64 0, .slice none 0 0, .int .i64 0, .int .i64 0] 24)
  have hR1 := Blk.new (w.alloc (.cells #[.int .i64 n.places, .slice A n.trans.length c, .int .i64 n.source, .int .i64 n.sink] 24)) 24 #[.int .i64 0, .slice none 0 0, .int .i64 0, .int .i64 0]
  rw [World.size_alloc] at hR1
  go_upto_region 1 with fail
  generalize hw1 : (w.alloc (.cells #[.int .i64 n.places, .slice A n.trans.length c, .int .i64 n.source, .int .i64 n.sink] 24)).alloc (.cells #[.int .i64 0, .slice none 0 0, .int .i64 0, .int .i64 0] 24) = w1 at *
  clear hw1
  have hlt1 := hR1.lt
  have hlt0 := hN1.lt
  obtain ⟨q0, q1, q2, q3⟩ := hN1.c4
  obtain ⟨r0, r1, r2, r3⟩ := hR1.c4
  have rf := fun i => hR1.frozen i
  obtain ⟨v1, v2, v3, v4⟩ := validOk HV.out
  have HLI : Hid (∀ t ∈ n.trans, t.ins.length ≤ 40 ∧ t.outs.length ≤ 40) := fun t htt => by
    have a := places_len (trPlaces (v4 t htt)).1
    have b := places_len (trPlaces (v4 t htt)).2
    omega
  clear v4
  have hM := Blk.new w1 24 #[.int .i64 n.places, .slice none 0 0, .int .i64 n.sink, .int .i64 n.source]
  have hbM := bbox hbw (.cells #[.int .i64 n.places, .slice none 0 0, .int .i64 n.sink, .int .i64 n.source] 24)
  have hRM := hR1.alloc (.cells #[.int .i64 n.places, .slice none 0 0, .int .i64 n.sink, .int .i64 n.source] 24)
  go_wp2_with fail
  clear q0 q1 q2 q3 r0 r1 r2 r3
  go_loopw [4] (fun i wr => ∃ (k : Nat) (tv : Value), k ≤ n.trans.length ∧ i = .int .i64 k ∧ Blk wr w1.heap.size 24 #[.int .i64 n.places, tv, .int .i64 n.sink, .int .i64 n.source] ∧ OwnR 3 RTr (fun b => b ≤ w1.heap.size) wr (w1.heap.size + 1) 64 tv ((n.trans.take k).map revT) ∧ Below w.heap.size w wr ∧ Blk wr (w.heap.size + 1) 24 #[.int .i64 0, .slice none 0 0, .int .i64 0, .int .i64 0] ∧ Blk wr w.heap.size 24 #[.int .i64 n.places, .slice A n.trans.length c, .int .i64 n.source, .int .i64 n.sink]) (fun i _ => n.trans.length - (intOf i).toNat)
  case atStart => exact ⟨0, _, Nat.zero_le _, rfl, hM, OwnR.nil, hbM, hRM, hN1.alloc _⟩
  case round =>
    obtain ⟨k, tv, hk, rfl, hMr, hown, hbr, hRr, hNr⟩ := hrel
    obtain ⟨q0, q1, q2, q3⟩ := hNr.c4
    have hltM := hMr.lt
    by_cases hlt : k < n.trans.length
    · obtain ⟨b, o, t, iv, ov, rfl, hD, hx, hlb, hti, hto, d0, d1, d2⟩ := (ht.now hbr).at_ hlt
      have HX := Lib.hid hx
      have hls := HLI.out t (List.mem_of_getElem? hx)
      clear hx
      obtain ⟨Ai, ci, rfl, i1, i2, hti⟩ := hti.open_
      obtain ⟨Ao, co, rfl, o1, o2, hto⟩ := hto.open_
      have hTd := Blk.new wr 64 #[.string t.label, .slice Ai t.ins.length ci, .slice Ao t.outs.length co]
      have hbo := bone wr (.cells #[.string t.label, .slice Ai t.ins.length ci, .slice Ao t.outs.length co] 64)
      have hMd := hMr.now hbo
      have hownd := hown.now RTr.kept hbo
      have htid := hti.now hbo
      have htod := hto.now hbo
      have hbd := bthen hbr hbo
      have hRd := hRr.now hbo
      have hNd := hNr.now hbo
      have hltd : wr.heap.size < (wr.alloc (.cells #[.string t.label, .slice Ai t.ins.length ci, .slice Ao t.outs.length co] 64)).heap.size := by simp
      go_wp2_with fail
      generalize hwd : wr.alloc _ = wd
      rw [hwd] at hTd hMd hownd htid htod hbd hRd hltd hNd
      have hownr := hown.lt
      clear hown hti hto hbo hwd hMr hbr hRr d0 d1 d2
      obtain ⟨e0, e1, e2⟩ := hTd.c3
      obtain ⟨m0, m1, m2, m3⟩ := hMd.c4
      have mf := hMd.frozen 1
      have hownl := hownd.lt
      have hnt : tv.ownBlock ≠ some wr.heap.size := fun e => by have := hownr wr.heap.size e; omega
      have HKP : Hid (∀ W, Below wd.heap.size wd W → RevKP W wr.heap.size w1.heap.size (.string t.label) (.slice Ai t.ins.length ci) (.slice Ao t.outs.length co) tv wd.heap.size) :=
        fun W hW => ⟨(hTd.now hW).c3.1, (hTd.now hW).c3.2.1, (hTd.now hW).c3.2.2, (hMd.now hW).c4.2.1, hW.size, (hMd.now hW).lt⟩
      have HEL : Hid (∀ (W : World) (vo vi : Value), SlI (fun b => wd.heap.size ≤ b ∧ b < W.heap.size) W vo t.outs → SlI (fun b => wd.heap.size ≤ b ∧ b < W.heap.size) W vi t.ins → RTr (Off (fun b => b ≤ w1.heap.size) W tv) W (revT t) [.string t.label, vo, vi]) := by
        intro W vo vi h1 h2
        have hd : ∀ b, wd.heap.size ≤ b ∧ b < W.heap.size → Off (fun b => b ≤ w1.heap.size) W tv b := fun b hb => ⟨hb.2, fun e => by have := hownl b e; omega, fun e => by have : b ≤ w1.heap.size := e; omega⟩
        exact ⟨vo, vi, rfl, hlb, Sl.keep h1 RInt.kept hd (Same.refl _ _), Sl.keep h2 RInt.kept hd (Same.refl _ _)⟩
      have HFIN : Hid (∀ (W w' : World) (v' : Value), Below wd.heap.size wd W → OwnR 3 RTr (fun b => b ≤ w1.heap.size) w' (w1.heap.size + 1) 64 v' ((n.trans.take k).map revT ++ [revT t]) → W.grownBy w' tv.ownBlock →
          (∃ A c, v' = .slice A (k + 1) c) ∧ Blk w' w1.heap.size 24 #[.int .i64 n.places, tv, .int .i64 n.sink, .int .i64 n.source] ∧ Blk (w'.setCell ⟨w1.heap.size, 1, none⟩ v') w1.heap.size 24 #[.int .i64 n.places, v', .int .i64 n.sink, .int .i64 n.source] ∧ OwnR 3 RTr (fun b => b ≤ w1.heap.size) (w'.setCell ⟨w1.heap.size, 1, none⟩ v') (w1.heap.size + 1) 64 v' ((n.trans.take (k + 1)).map revT) ∧ Below w.heap.size w (w'.setCell ⟨w1.heap.size, 1, none⟩ v') ∧ Blk (w'.setCell ⟨w1.heap.size, 1, none⟩ v') (w.heap.size + 1) 24 #[.int .i64 0, .slice none 0 0, .int .i64 0, .int .i64 0] ∧ Blk w' wr.heap.size 64 #[.string t.label, .slice Ai t.ins.length ci, .slice Ao t.outs.length co] ∧ Blk (w'.setCell ⟨w1.heap.size, 1, none⟩ v') wr.heap.size 64 #[.string t.label, .slice Ai t.ins.length ci, .slice Ao t.outs.length co] ∧ Blk (w'.setCell ⟨w1.heap.size, 1, none⟩ v') w.heap.size 24 #[.int .i64 n.places, .slice (some ⟨b, o, none⟩) n.trans.length c, .int .i64 n.source, .int .i64 n.sink]) := by
        intro W w' v' hW hown' hgr
        have hne : ∀ g, g < w1.heap.size + 1 → some g ≠ tv.ownBlock := fun g hg e => by have := hownl g e.symm; omega
        have a1 := (hMd.now hW).grown hgr (hne _ (by omega))
        have a2 := (hRd.now hW).grown hgr (hne _ (by omega))
        have a3 := (hTd.now hW).grown hgr (fun e => hnt e.symm)
        have a4 := (hNd.now hW).grown hgr (hne _ (by omega))
        refine ⟨?_, a1, a1.set_ 1 v', ?_, ?_, a2.far (by show w.heap.size + 1 ≠ w1.heap.size; omega) _, a3, a3.far (by show wr.heap.size ≠ w1.heap.size; omega) _, a4.far (by show w.heap.size ≠ w1.heap.size; omega) _⟩
        · obtain ⟨A, c, e⟩ := hown'.open_
          refine ⟨A, c, ?_⟩
          rw [e, List.length_append, List.length_map, List.length_take, Nat.min_eq_left hk]; rfl
        · have e : (n.trans.take (k + 1)).map revT = (n.trans.take k).map revT ++ [revT t] := by
            have hx := HX.out
            have hk' : k < n.trans.length := hlt
            rw [List.getElem?_eq_getElem hk'] at hx
            injection hx with hx
            rw [List.take_succ_eq_append_getElem hk', List.map_append, hx]; rfl
          rw [e]
          exact hown'.far RTr.kept (p := ⟨w1.heap.size, 1, none⟩) (Nat.le_refl _) (fun e => by have := (hown'.lt w1.heap.size e).1; omega) v'
        · have b1 : Below w.heap.size W w' := below_of_grown hgr (Nat.le_trans (by omega) hW.size) (fun g hg => by have := hownl g hg; omega)
          exact ((bthen hbd hW).trans b1).setCell (p := ⟨w1.heap.size, 1, none⟩) (by show w.heap.size ≤ w1.heap.size; omega) _
      have hbdd : Below wd.heap.size wd wd.drew := (Below.refl _ _).drew
      have hk7 : ((n.trans.take k).map revT).length < 10000000 := by rw [List.length_map, List.length_take]; omega
      have hbase : w1.heap.size + 1 ≤ wd.heap.size := by omega
      have HS3 : Hid (∀ W, Below wd.heap.size wd W → W.cell? ⟨wr.heap.size, 0, none⟩ = some (.string t.label) ∧ W.cell? ⟨wr.heap.size, 1, none⟩ = some (.slice Ai t.ins.length ci) ∧ W.cell? ⟨wr.heap.size, 2, none⟩ = some (.slice Ao t.outs.length co)) := fun W hW => (hTd.now hW).c3
      have HTO : Hid (∀ W, Below wd.heap.size wd W → SlI (Lt W.heap.size) W (.slice Ao t.outs.length co) t.outs) := fun W hW => htod.now hW
      have HTI : Hid (∀ W, Below wd.heap.size wd W → SlI (Lt W.heap.size) W (.slice Ai t.ins.length ci) t.ins) := fun W hW => htid.now hW
      have HFO : Hid (∀ z ∈ t.outs, Fit z) := htod.fits
      have HFI : Hid (∀ z ∈ t.ins, Fit z) := htid.fits
      clear hTd htid htod
      refine wp_region_held_tail 14 (fun W => W.cell? ⟨wr.heap.size, 0, none⟩ = some (.string t.label) ∧ W.cell? ⟨wr.heap.size, 1, none⟩ = some (.slice Ai t.ins.length ci) ∧ W.cell? ⟨wr.heap.size, 2, none⟩ = some (.slice Ao t.outs.length co) ∧ W.cell? ⟨w1.heap.size, 1, none⟩ = some tv) (by kernel_rfl) (by kernel_rfl) ⟨e0, e1, e2, m1⟩ (fun hHeld => ?_)
      simp only [List.take_succ_cons, List.take_zero]
      refine takeL (v := ?v0) 0 rfl (by kernel_rfl) (by kernel_rfl) (by kernel_rfl) (fun _ _ _ h => h) rfl ?hy0 hHeld ?rest0
      case hy0 => (intro W hW; obtain ⟨k0, k1, k2, k3⟩ := hW; go_simp <;> rfl)
      simp only [Act.put, List.setIfInBounds_toArray, List.set_cons_zero, List.set_cons_succ]
      refine takeL (v := ?v1) 1 rfl (by kernel_rfl) (by kernel_rfl) (by kernel_rfl) (fun _ _ _ h => h) rfl ?hy1 hHeld ?rest1
      case hy1 => (intro W hW; obtain ⟨k0, k1, k2, k3⟩ := hW; go_simp <;> rfl)
      simp only [Act.put, List.setIfInBounds_toArray, List.set_cons_zero, List.set_cons_succ]
      refine takeL (v := ?v2) 2 rfl (by kernel_rfl) (by kernel_rfl) (by kernel_rfl) (fun _ _ _ h => h) rfl ?hy2 hHeld ?rest2
      case hy2 => (intro W hW; obtain ⟨k0, k1, k2, k3⟩ := hW; go_simp <;> rfl)
      simp only [Act.put, List.setIfInBounds_toArray, List.set_cons_zero, List.set_cons_succ]
      refine takeL (v := ?v3) 3 rfl (by kernel_rfl) (by kernel_rfl) (by kernel_rfl) (fun _ _ _ h => h) rfl ?hy3 hHeld ?rest3
      case hy3 => (intro W hW; obtain ⟨k0, k1, k2, k3⟩ := hW; go_simp <;> rfl)
      simp only [Act.put, List.setIfInBounds_toArray, List.set_cons_zero, List.set_cons_succ]
      refine takeL (v := ?v5) 5 rfl (by kernel_rfl) (by kernel_rfl) (by kernel_rfl) (fun _ _ _ h => h) rfl ?hy5 hHeld ?rest5
      case hy5 => (intro W hW; obtain ⟨k0, k1, k2, k3⟩ := hW; go_simp <;> rfl)
      simp only [Act.put, List.setIfInBounds_toArray, List.set_cons_zero, List.set_cons_succ]
      refine takeL (v := ?v6) 6 rfl (by kernel_rfl) (by kernel_rfl) (by kernel_rfl) (fun _ _ _ h => h) rfl ?hy6 hHeld ?rest6
      case hy6 => (intro W hW; obtain ⟨k0, k1, k2, k3⟩ := hW; go_simp <;> rfl)
      simp only [Act.put, List.setIfInBounds_toArray, List.set_cons_zero, List.set_cons_succ]
      refine takeL (v := ?v9) 9 rfl (by kernel_rfl) (by kernel_rfl) (by kernel_rfl) (fun _ _ _ h => h) rfl ?hy9 hHeld ?rest9
      case hy9 => (intro W hW; obtain ⟨k0, k1, k2, k3⟩ := hW; go_simp <;> rfl)
      simp only [Act.put, List.setIfInBounds_toArray, List.set_cons_zero, List.set_cons_succ]
      refine takeL (v := ?v10) 10 rfl (by kernel_rfl) (by kernel_rfl) (by kernel_rfl) (fun _ _ _ h => h) rfl ?hy10 hHeld ?rest10
      case hy10 => (intro W hW; obtain ⟨k0, k1, k2, k3⟩ := hW; go_simp <;> rfl)
      simp only [Act.put, List.setIfInBounds_toArray, List.set_cons_zero, List.set_cons_succ]
      refine twoL 4 8 rfl rfl rfl rfl (by kernel_rfl) (fun K hK => ?_) (fun K hK => ?_)
      · go_simp
        have hb1 : Below wd.heap.size wd (wd.alloc (.cells #[] 3)).drew := (bone wd (.cells #[] 3)).drew
        have hE1 : (wd.alloc (.cells #[] 3)).drew.ownsRow wd.heap.size 3 1 (.slice (some ⟨wd.heap.size, 0, none⟩) 0 0) 0 [] := own_empty wd wd.heap.size 3 (Nat.le_refl _)
        have sx := HKP.out _ hb1
        refine hK.out _ _ ⟨sx.1, sx.2.1, sx.2.2.1, sx.2.2.2.1⟩ (fun hHeld => ?_)
        clear hK K sx hHeld
        have hz1 : wd.heap.size < (wd.alloc (.cells #[] 3)).drew.heap.size := (hE1.lt _ rfl).2
        generalize (wd.alloc (.cells #[] 3)).drew = W1 at *
        refine twoL 7 8 rfl rfl rfl rfl (by kernel_rfl) (fun K hK => ?_) (fun K hK => ?_)
        · refine wp_appendAll appInts (.tmp 29) (.tmp 31) rfl W1 _ 0 [] rfl hE1 _ t.outs (Value.int .i64) rfl (HTO.out _ hb1) (fun y c h => by injection h.1) (fun y => rfl) (by omega) hb1.size ?_
          intro vo W2 hown hgr hat
          rw [Nat.zero_add, List.nil_append] at hown
          obtain ⟨Avo, cvo, rfl⟩ := own_open hown
          have hb2 : Below wd.heap.size wd W2 := hb1.trans (below_of_grown hgr hb1.size (fun g' hg' => (hE1.lt g' hg').1))
          have sx := HKP.out _ hb2
          refine hK.out _ _ ⟨sx.1, sx.2.1, sx.2.2.1, sx.2.2.2.1⟩ (fun hHeld => ?_)
          clear hK K sx hHeld
          simp only [Act.put, List.setIfInBounds_toArray, List.set_cons_zero, List.set_cons_succ]
          refine onlyL 8 rfl rfl (by kernel_rfl) (fun K hK => ?_)
          go_simp
          have hbW := bbox hb2 (.cells #[] 3)
          have hE := own_empty W2 wd.heap.size 3 hb2.size
          have hEz : W2.heap.size < (W2.alloc (.cells #[] 3)).heap.size := by simp
          have sx := HKP.out _ hbW
          refine hK.out _ _ ⟨sx.1, sx.2.1, sx.2.2.1, sx.2.2.2.1⟩ (fun hHeld => ?_)
          clear hK K sx hHeld
          have hboW3 := bone W2 (.cells #[] 3)
          have hcop : Cop wd.heap.size W2.heap.size (W2.alloc (.cells #[] 3)) Avo cvo t.outs := ⟨own_now hown hboW3, fun e => by have := (hown.lt _ e).2; omega⟩
          generalize W2.alloc (.cells #[] 3) = W at *
          clear hE1 hgr hat hown hboW3 hEz hb1 hb2 hz1
          refine onlyL 11 rfl rfl (by kernel_rfl) (fun K hK => ?_)
          refine wp_appendAll appInts (.tmp 33) (.tmp 35) rfl W _ 0 [] rfl hE _ t.ins (Value.int .i64) rfl (HTI.out _ hbW) (fun y c h => by injection h.1) (fun y => rfl) (by omega) hbW.size ?_
          intro vi W4 hown4 hgr4 hat4
          rw [Nat.zero_add, List.nil_append] at hown4
          obtain ⟨Avi, cvi, rfl⟩ := own_open hown4
          have hb4 : Below wd.heap.size wd W4 := hbW.trans (below_of_grown hgr4 hbW.size (fun g' hg' => (hE.lt g' hg').1))
          have hcop4 := hcop.grown hgr4
          have hci4 : Cop wd.heap.size W4.heap.size W4 Avi cvi t.ins := ⟨hown4, fun e => by have := (hown4.lt _ e).2; omega⟩
          have sx := HKP.out _ hb4
          refine hK.out _ _ ⟨sx.1, sx.2.1, sx.2.2.1, sx.2.2.2.1⟩ (fun hHeld => ?_)
          clear hK K sx hHeld hgr4 hat4 hE hcop hown4
          have sx := HKP.out _ hb4
          have hHeld : (fun W => W.cell? ⟨wr.heap.size, 0, none⟩ = some (.string t.label) ∧ W.cell? ⟨wr.heap.size, 1, none⟩ = some (.slice Ai t.ins.length ci) ∧ W.cell? ⟨wr.heap.size, 2, none⟩ = some (.slice Ao t.outs.length co) ∧ W.cell? ⟨w1.heap.size, 1, none⟩ = some tv) W4 := ⟨sx.1, sx.2.1, sx.2.2.1, sx.2.2.2.1⟩
          simp only [Act.put, List.setIfInBounds_toArray, List.set_cons_zero, List.set_cons_succ]
          refine takeL (v := ?v12a) 12 rfl (by kernel_rfl) (by kernel_rfl) (by kernel_rfl) (fun _ _ _ h => h) rfl ?hy12a hHeld ?rest12a
          case hy12a => (intro W hW; go_simp <;> rfl)
          simp only [Act.put, List.setIfInBounds_toArray, List.set_cons_zero, List.set_cons_succ]
          refine onlyL 13 rfl rfl (by kernel_rfl) (fun K hK => ?_)
          go_simp
          have hal := HKP.out _ (bbox hb4 (.cells #[.string t.label, .slice Avo t.outs.length cvo, .slice Avi t.ins.length cvi] 64))
          refine hK.out _ _ ⟨hal.1, hal.2.1, hal.2.2.1, hal.2.2.2.1⟩ (fun hHeld => ?_)
          clear hK K
          refine doneL (by kernel_rfl) ?_
          simp only [List.drop_succ_cons, List.drop_zero]
          refine wpList_pushR appTrs RTr.kept rfl (.tmp 26) (.tmp 38) rfl W4 [.string t.label, .slice Avo t.outs.length cvo, .slice Avi t.ins.length cvi] rfl (by simp [Value.oneCell']) tv ((n.trans.take k).map revT) (revT t) rfl (hownd.now RTr.kept hb4) (HEL.out _ _ _ (hcop4.sl HFO.out) (hci4.sl HFI.out)) rfl hk7 (Nat.le_trans hbase hb4.size) ?_
          intro v' w' hown' hgr hat
          obtain ⟨⟨A9, c9, rfl⟩, hM9, hF1, hF2, hF3, hF4, hT9, hT10, hN10⟩ := HFIN.out _ _ _ hb4 hown' hgr
          obtain ⟨n0, n1, n2, n3⟩ := hM9.c4
          have nf := hM9.frozen 1
          go_wp2_with fail
          go_roundw
          case rel => exact ⟨k + 1, _, by omega, by go_num, hF1, hF2, hF3, hF4, hN10⟩
          case measure => simp [intOf]; omega
        · go_simp
          have hb2 := bbox hb1 (.cells #[] 3)
          have hE2 := own_empty W1 wd.heap.size 3 hb1.size
          have hE2z : W1.heap.size < (W1.alloc (.cells #[] 3)).heap.size := by simp
          have sx := HKP.out _ hb2
          refine hK.out _ _ ⟨sx.1, sx.2.1, sx.2.2.1, sx.2.2.2.1⟩ (fun hHeld => ?_)
          clear hK K sx hHeld
          have hboW2 := bone W1 (.cells #[] 3)
          have hE1' := own_now hE1 hboW2
          generalize W1.alloc (.cells #[] 3) = W2 at *
          refine onlyL 7 rfl rfl (by kernel_rfl) (fun K hK => ?_)
          refine wp_appendAll appInts (.tmp 29) (.tmp 31) rfl W2 _ 0 [] rfl hE1' _ t.outs (Value.int .i64) rfl (HTO.out _ hb2) (fun y c h => by injection h.1) (fun y => rfl) (by omega) hb2.size ?_
          intro vo W hown hgr hat
          rw [Nat.zero_add, List.nil_append] at hown
          obtain ⟨Avo, cvo, rfl⟩ := own_open hown
          have hbW : Below wd.heap.size wd W := hb2.trans (below_of_grown hgr hb2.size (fun g' hg' => (hE1'.lt g' hg').1))
          have sx := HKP.out _ hbW
          refine hK.out _ _ ⟨sx.1, sx.2.1, sx.2.2.1, sx.2.2.2.1⟩ (fun hHeld => ?_)
          clear hK K sx hHeld
          simp only [Act.put, List.setIfInBounds_toArray, List.set_cons_zero, List.set_cons_succ]
          have hE : W.ownsRow wd.heap.size 3 1 (.slice (some ⟨W1.heap.size, 0, none⟩) 0 0) 0 [] := hE2.kept hgr (.inr (fun e => by have e2 : W1.heap.size = wd.heap.size := Option.some.inj e; omega))
          have hcop : Cop wd.heap.size W1.heap.size W Avo cvo t.outs := ⟨hown, fun e => by
            rcases hat with h' | h'
            · have e2 : wd.heap.size = W1.heap.size := Option.some.inj (h'.symm.trans e); omega
            · have e2 : W2.heap.size = W1.heap.size := Option.some.inj (h'.symm.trans e); omega⟩
          clear hE1 hE1' hE2 hgr hat hown hboW2 hb1 hb2 hz1
          refine onlyL 11 rfl rfl (by kernel_rfl) (fun K hK => ?_)
          refine wp_appendAll appInts (.tmp 33) (.tmp 35) rfl W _ 0 [] rfl hE _ t.ins (Value.int .i64) rfl (HTI.out _ hbW) (fun y c h => by injection h.1) (fun y => rfl) (by omega) hbW.size ?_
          intro vi W4 hown4 hgr4 hat4
          rw [Nat.zero_add, List.nil_append] at hown4
          obtain ⟨Avi, cvi, rfl⟩ := own_open hown4
          have hb4 : Below wd.heap.size wd W4 := hbW.trans (below_of_grown hgr4 hbW.size (fun g' hg' => (hE.lt g' hg').1))
          have hcop4 := hcop.grown hgr4
          have hci4 : Cop wd.heap.size W4.heap.size W4 Avi cvi t.ins := ⟨hown4, fun e => by have := (hown4.lt _ e).2; omega⟩
          have sx := HKP.out _ hb4
          refine hK.out _ _ ⟨sx.1, sx.2.1, sx.2.2.1, sx.2.2.2.1⟩ (fun hHeld => ?_)
          clear hK K sx hHeld hgr4 hat4 hE hcop hown4
          have sx := HKP.out _ hb4
          have hHeld : (fun W => W.cell? ⟨wr.heap.size, 0, none⟩ = some (.string t.label) ∧ W.cell? ⟨wr.heap.size, 1, none⟩ = some (.slice Ai t.ins.length ci) ∧ W.cell? ⟨wr.heap.size, 2, none⟩ = some (.slice Ao t.outs.length co) ∧ W.cell? ⟨w1.heap.size, 1, none⟩ = some tv) W4 := ⟨sx.1, sx.2.1, sx.2.2.1, sx.2.2.2.1⟩
          simp only [Act.put, List.setIfInBounds_toArray, List.set_cons_zero, List.set_cons_succ]
          refine takeL (v := ?v12b) 12 rfl (by kernel_rfl) (by kernel_rfl) (by kernel_rfl) (fun _ _ _ h => h) rfl ?hy12b hHeld ?rest12b
          case hy12b => (intro W hW; go_simp <;> rfl)
          simp only [Act.put, List.setIfInBounds_toArray, List.set_cons_zero, List.set_cons_succ]
          refine onlyL 13 rfl rfl (by kernel_rfl) (fun K hK => ?_)
          go_simp
          have hal := HKP.out _ (bbox hb4 (.cells #[.string t.label, .slice Avo t.outs.length cvo, .slice Avi t.ins.length cvi] 64))
          refine hK.out _ _ ⟨hal.1, hal.2.1, hal.2.2.1, hal.2.2.2.1⟩ (fun hHeld => ?_)
          clear hK K
          refine doneL (by kernel_rfl) ?_
          simp only [List.drop_succ_cons, List.drop_zero]
          refine wpList_pushR appTrs RTr.kept rfl (.tmp 26) (.tmp 38) rfl W4 [.string t.label, .slice Avo t.outs.length cvo, .slice Avi t.ins.length cvi] rfl (by simp [Value.oneCell']) tv ((n.trans.take k).map revT) (revT t) rfl (hownd.now RTr.kept hb4) (HEL.out _ _ _ (hcop4.sl HFO.out) (hci4.sl HFI.out)) rfl hk7 (Nat.le_trans hbase hb4.size) ?_
          intro v' w' hown' hgr hat
          obtain ⟨⟨A9, c9, rfl⟩, hM9, hF1, hF2, hF3, hF4, hT9, hT10, hN10⟩ := HFIN.out _ _ _ hb4 hown' hgr
          obtain ⟨n0, n1, n2, n3⟩ := hM9.c4
          have nf := hM9.frozen 1
          go_wp2_with fail
          go_roundw
          case rel => exact ⟨k + 1, _, by omega, by go_num, hF1, hF2, hF3, hF4, hN10⟩
          case measure => simp [intOf]; omega
      · go_simp
        have hb1 : Below wd.heap.size wd (wd.alloc (.cells #[] 3)).drew := (bone wd (.cells #[] 3)).drew
        have hE1 : (wd.alloc (.cells #[] 3)).drew.ownsRow wd.heap.size 3 1 (.slice (some ⟨wd.heap.size, 0, none⟩) 0 0) 0 [] := own_empty wd wd.heap.size 3 (Nat.le_refl _)
        have sx := HKP.out _ hb1
        refine hK.out _ _ ⟨sx.1, sx.2.1, sx.2.2.1, sx.2.2.2.1⟩ (fun hHeld => ?_)
        clear hK K sx hHeld
        have hz1 : wd.heap.size < (wd.alloc (.cells #[] 3)).drew.heap.size := (hE1.lt _ rfl).2
        generalize (wd.alloc (.cells #[] 3)).drew = W1 at *
        refine onlyL 4 rfl rfl (by kernel_rfl) (fun K hK => ?_)
        go_simp
        have hb2 := bbox hb1 (.cells #[] 3)
        have hE2 := own_empty W1 wd.heap.size 3 hb1.size
        have hE2z : W1.heap.size < (W1.alloc (.cells #[] 3)).heap.size := by simp
        have sx := HKP.out _ hb2
        refine hK.out _ _ ⟨sx.1, sx.2.1, sx.2.2.1, sx.2.2.2.1⟩ (fun hHeld => ?_)
        clear hK K sx hHeld
        have hboW2 := bone W1 (.cells #[] 3)
        have hE1' := own_now hE1 hboW2
        generalize W1.alloc (.cells #[] 3) = W2 at *
        refine onlyL 7 rfl rfl (by kernel_rfl) (fun K hK => ?_)
        refine wp_appendAll appInts (.tmp 29) (.tmp 31) rfl W2 _ 0 [] rfl hE2 _ t.outs (Value.int .i64) rfl (HTO.out _ hb2) (fun y c h => by injection h.1) (fun y => rfl) (by omega) hb2.size ?_
        intro vo W hown hgr hat
        rw [Nat.zero_add, List.nil_append] at hown
        obtain ⟨Avo, cvo, rfl⟩ := own_open hown
        have hbW : Below wd.heap.size wd W := hb2.trans (below_of_grown hgr hb2.size (fun g' hg' => (hE2.lt g' hg').1))
        have sx := HKP.out _ hbW
        refine hK.out _ _ ⟨sx.1, sx.2.1, sx.2.2.1, sx.2.2.2.1⟩ (fun hHeld => ?_)
        clear hK K sx hHeld
        simp only [Act.put, List.setIfInBounds_toArray, List.set_cons_zero, List.set_cons_succ]
        have hE : W.ownsRow wd.heap.size 3 1 (.slice (some ⟨wd.heap.size, 0, none⟩) 0 0) 0 [] := hE1'.kept hgr (.inr (fun e => by have e2 : wd.heap.size = W1.heap.size := Option.some.inj e; omega))
        have hcop : Cop wd.heap.size wd.heap.size W Avo cvo t.outs := ⟨hown, fun e => by
          rcases hat with h' | h'
          · have e2 : W1.heap.size = wd.heap.size := Option.some.inj (h'.symm.trans e); omega
          · have e2 : W2.heap.size = wd.heap.size := Option.some.inj (h'.symm.trans e); omega⟩
        clear hE1 hE1' hE2 hgr hat hown hboW2 hb1 hb2 hz1
        refine onlyL 11 rfl rfl (by kernel_rfl) (fun K hK => ?_)
        refine wp_appendAll appInts (.tmp 33) (.tmp 35) rfl W _ 0 [] rfl hE _ t.ins (Value.int .i64) rfl (HTI.out _ hbW) (fun y c h => by injection h.1) (fun y => rfl) (by omega) hbW.size ?_
        intro vi W4 hown4 hgr4 hat4
        rw [Nat.zero_add, List.nil_append] at hown4
        obtain ⟨Avi, cvi, rfl⟩ := own_open hown4
        have hb4 : Below wd.heap.size wd W4 := hbW.trans (below_of_grown hgr4 hbW.size (fun g' hg' => (hE.lt g' hg').1))
        have hcop4 := hcop.grown hgr4
        have hci4 : Cop wd.heap.size W4.heap.size W4 Avi cvi t.ins := ⟨hown4, fun e => by have := (hown4.lt _ e).2; omega⟩
        have sx := HKP.out _ hb4
        refine hK.out _ _ ⟨sx.1, sx.2.1, sx.2.2.1, sx.2.2.2.1⟩ (fun hHeld => ?_)
        clear hK K sx hHeld hgr4 hat4 hE hcop hown4
        have sx := HKP.out _ hb4
        have hHeld : (fun W => W.cell? ⟨wr.heap.size, 0, none⟩ = some (.string t.label) ∧ W.cell? ⟨wr.heap.size, 1, none⟩ = some (.slice Ai t.ins.length ci) ∧ W.cell? ⟨wr.heap.size, 2, none⟩ = some (.slice Ao t.outs.length co) ∧ W.cell? ⟨w1.heap.size, 1, none⟩ = some tv) W4 := ⟨sx.1, sx.2.1, sx.2.2.1, sx.2.2.2.1⟩
        simp only [Act.put, List.setIfInBounds_toArray, List.set_cons_zero, List.set_cons_succ]
        refine takeL (v := ?v12c) 12 rfl (by kernel_rfl) (by kernel_rfl) (by kernel_rfl) (fun _ _ _ h => h) rfl ?hy12c hHeld ?rest12c
        case hy12c => (intro W hW; go_simp <;> rfl)
        simp only [Act.put, List.setIfInBounds_toArray, List.set_cons_zero, List.set_cons_succ]
        refine onlyL 13 rfl rfl (by kernel_rfl) (fun K hK => ?_)
        go_simp
        have hal := HKP.out _ (bbox hb4 (.cells #[.string t.label, .slice Avo t.outs.length cvo, .slice Avi t.ins.length cvi] 64))
        refine hK.out _ _ ⟨hal.1, hal.2.1, hal.2.2.1, hal.2.2.2.1⟩ (fun hHeld => ?_)
        clear hK K
        refine doneL (by kernel_rfl) ?_
        simp only [List.drop_succ_cons, List.drop_zero]
        refine wpList_pushR appTrs RTr.kept rfl (.tmp 26) (.tmp 38) rfl W4 [.string t.label, .slice Avo t.outs.length cvo, .slice Avi t.ins.length cvi] rfl (by simp [Value.oneCell']) tv ((n.trans.take k).map revT) (revT t) rfl (hownd.now RTr.kept hb4) (HEL.out _ _ _ (hcop4.sl HFO.out) (hci4.sl HFI.out)) rfl hk7 (Nat.le_trans hbase hb4.size) ?_
        intro v' w' hown' hgr hat
        obtain ⟨⟨A9, c9, rfl⟩, hM9, hF1, hF2, hF3, hF4, hT9, hT10, hN10⟩ := HFIN.out _ _ _ hb4 hown' hgr
        obtain ⟨n0, n1, n2, n3⟩ := hM9.c4
        have nf := hM9.frozen 1
        go_wp2_with fail
        go_roundw
        case rel => exact ⟨k + 1, _, by omega, by go_num, hF1, hF2, hF3, hF4, hN10⟩
        case measure => simp [intOf]; omega
    · obtain rfl : k = n.trans.length := by omega
      rw [List.take_of_length_le (Nat.le_refl _)] at hown
      obtain ⟨At, ct, rfl⟩ := hown.open_
      obtain ⟨m0, m1, m2, m3⟩ := hMr.c4
      have rf := fun i => hRr.frozen i
      obtain ⟨r0, r1, r2, r3⟩ := hRr.c4
      go_wp2_with fail
      have hX1 : (fun b => b ≤ w1.heap.size) (w.heap.size + 1) := (by show w.heap.size + 1 ≤ w1.heap.size; omega)
      have hO1 : ∀ v : Value, (∀ g, v.ownBlock = some g → w1.heap.size + 1 ≤ g ∧ g < wr.heap.size) → v.ownBlock ≠ some (w.heap.size + 1) := fun v h e => by have := h _ e; omega
      have hn := hO1 _ hown.lt
      have hfin := (((hown.far RTr.kept (p := ⟨w.heap.size + 1, 0, none⟩) hX1 hn (.int .i64 n.places)).far RTr.kept (p := ⟨w.heap.size + 1, 1, none⟩) hX1 hn (.slice At (n.trans.map revT).length ct)).far RTr.kept (p := ⟨w.heap.size + 1, 2, none⟩) hX1 hn (.int .i64 n.sink)).far RTr.kept (p := ⟨w.heap.size + 1, 3, none⟩) hX1 hn (.int .i64 n.source)
      have hR4 := (((hRr.set_ 0 (.int .i64 n.places)).set_ 1 (.slice At (n.trans.map revT).length ct)).set_ 2 (.int .i64 n.sink)).set_ 3 (.int .i64 n.source)
      have hb4 := (((hbr.setCell (p := ⟨w.heap.size + 1, 0, none⟩) (Nat.le_succ _) (.int .i64 n.places)).setCell (p := ⟨w.heap.size + 1, 1, none⟩) (Nat.le_succ _) (.slice At (n.trans.map revT).length ct)).setCell (p := ⟨w.heap.size + 1, 2, none⟩) (Nat.le_succ _) (.int .i64 n.sink)).setCell (p := ⟨w.heap.size + 1, 3, none⟩) (Nat.le_succ _) (.int .i64 n.source)
      rw [List.length_map] at hfin hR4 hb4
      have hsl := hfin.sl RTr.kept
      clear hfin hown hMr
      generalize (((wr.setCell ⟨w.heap.size + 1, 0, none⟩ (.int .i64 n.places)).setCell ⟨w.heap.size + 1, 1, none⟩ (.slice At n.trans.length ct)).setCell ⟨w.heap.size + 1, 2, none⟩ (.int .i64 n.sink)).setCell ⟨w.heap.size + 1, 3, none⟩ (.int .i64 n.source) = W4 at *
      obtain ⟨y0, y1, y2, y3⟩ := Blk.c4 (a := .int .i64 n.places) (b := .slice At n.trans.length ct) (c := .int .i64 n.sink) (d := .int .i64 n.source) hR4
      refine bodyPost_ret (v := .agg #[.int .i64 n.places, .slice At n.trans.length ct, .int .i64 n.sink, .int .i64 n.source]) (by simp [results, Tryd.results46, go_sem, y0, y1, y2, y3]) rfl ?_
      exact ⟨_, rfl, ⟨_, rfl, hp, hkk, hs, hsl⟩, hb4⟩
end Go.Proofs.YtphdafhidhfmnaaDoor
