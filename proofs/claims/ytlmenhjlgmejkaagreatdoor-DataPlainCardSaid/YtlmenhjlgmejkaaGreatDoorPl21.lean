/- Merged texts. -/
import Derived.Deep.LoopGhost
import Derived.Laws.StructEq
import Derived.Test.YtlmenhjlgmejkaaGreatDoorPl20
set_option linter.all false
namespace Go.Proofs.YtlmenhjlgmejkaaGreatDoor
open Go.RowKit
theorem intsInfo : (Tryz.prog.info? 31).map (fun i => (i.zero, i.size, i.bytes)) = some (some (.slice none 0 0), 1, 24) := by kernel_rfl
theorem own_form {w : World} {b e n : Nat} {v : Value} {xs : List Value} (h : w.ownsRow b e 1 v n xs) : ∃ A c, v = .slice A n c := by
  rcases h.2 with ⟨rfl, h0⟩ | ⟨g, cap, cur, rfl, _⟩
  · exact ⟨none, 0, by rw [h0]⟩
  · exact ⟨_, _, rfl⟩
def RetBIE (p : Bool × List Int × Int) (w : World) (e : Ending) (w' : World) : Prop := ∃ v, e = .returned (.tuple #[.bool p.1, v, .int .i64 p.2.2]) ∧ SlI (Lt w'.heap.size) w' v p.2.1 ∧ Below w.heap.size w w'
theorem OwnF.grown {α : Type} {f : α → Value} {w w' : World} {base t g cap : Nat} {xs : List α} {row : Option Nat} (h : OwnF f w base t g cap xs) (hg : w.grownBy w' row) (hne : row ≠ some g) : OwnF f w' base t g cap xs :=
  ⟨h.1.kept hg (.inr (fun e => hne e.symm)), Nat.lt_of_lt_of_le h.2.1 hg.size, h.2.2⟩
theorem preds_fit {ms : List Mv} (h : ∀ m ∈ ms, SmallM m) (n : Nat) : ∀ r ∈ predRows n ms, ∀ z ∈ r, Fit z := by
  intro r hr z hz
  unfold predRows at hr
  obtain ⟨k, _, rfl⟩ := List.mem_map.1 hr
  obtain ⟨m, hm, _, rfl⟩ := preds_mem hz
  have := (h m hm).1
  unfold Fit; omega
set_option maxHeartbeats 64000000 in
set_option maxRecDepth 100000 in
theorem dsound_any (n : Nat) (d : DNet) (most : Int) (u : Value) (w : World) (h : IsDn n (Lt w.heap.size) w u d) (hl : d.vars.length ≤ 1000000) (ha : Amb w) :
    Calls Tryz.prog 21 #[u, .int .i64 most] w (RetBIE (dsoundE d most) w) := by
  have h0 := h
  obtain ⟨At, ct, Ax, cx, iv, Ag, cg, Aw, cw, rfl, dn1, dn2, dn3, dn4, dn5, ⟨t1, t2⟩, ⟨x1, x2⟩, ⟨g1, g2⟩, v1, v2⟩ := h.open_
  clear h dn1 dn2 dn3 dn4 dn5
  have hb := bone w (.cells #[.int .i64 d.net.places, .slice At d.net.trans.length ct, .int .i64 d.net.source, .int .i64 d.net.sink, .slice Ax d.vars.length cx, iv, .slice Ag d.guards.length cg, .slice Aw d.writes.length cw] 30)
  have hB := Blk.new w 30 #[.int .i64 d.net.places, .slice At d.net.trans.length ct, .int .i64 d.net.source, .int .i64 d.net.sink, .slice Ax d.vars.length cx, iv, .slice Ag d.guards.length cg, .slice Aw d.writes.length cw]
  have hd1 := h0.now hb
  have HI := Lib.hid (dwhole_any n d most _ _ hd1 hl (ha.now hb))
  go_enter Tryz.func21, Tryz.ntmps21
  go_upto_region 1 with fail
  generalize hw1e : w.alloc (.cells #[.int .i64 d.net.places, .slice At d.net.trans.length ct, .int .i64 d.net.source, .int .i64 d.net.sink, .slice Ax d.vars.length cx, iv, .slice Ag d.guards.length cg, .slice Aw d.writes.length cw] 30) = w1 at *
  clear hw1e
  obtain ⟨q0, q1, q2, q3, q4, q5, q6, q7⟩ := hB.c8
  go_wp2_with fail
  refine HI.out.mono ?_
  rintro e w2 ⟨sv, mv, rfl, h1, h2, hb2⟩
  clear HI q0 q1 q2 q3 q4 q5 q6 q7
  have hbw2 := bthen hb hb2
  have hB2 := hB.now hb2
  by_cases hc : (dwholeE d most).2 = 0
  rotate_left
  · have HR := Lib.hid (dsound_err hc)
    have bc : ((dwholeE d most).2 != 0) = true := by simpa using hc
    generalize dwholeE d most = q at *
    obtain ⟨qp, qc⟩ := q
    dsimp only at *
    clear hc
    go_wp2_with fail
    go_ret3
    rw [HR.out]
    exact ⟨_, rfl, Sl.none_, hbw2⟩
  have HY := Lib.hid (dsound_yes hc)
  have HN := Lib.hid (fun k => dsound_no (k := k) hc)
  obtain ⟨mo, hmo, hinv, hdv, -, -, hvst, -, -⟩ := whole_inv hc
  have HINV := Lib.hid hinv
  have HDV := Lib.hid hdv
  have bc : ((dwholeE d most).2 != 0) = false := by simpa using hc
  generalize dwholeE d most = q at *
  obtain ⟨p, qc⟩ := q
  dsimp only at *
  obtain ⟨As, cs, rfl, sc1, sc2, h1⟩ := Sl.open_ h1
  obtain ⟨Am, cm, rfl, mc1, mc2, h2⟩ := h2.open_
  have h1 : SlSt (Lt w2.heap.size) w2 (.slice As p.states.length cs) p.states := h1
  have hn0 : p.states.length ≤ 2000 := by have := hinv.le; omega
  have hm0 : p.moves.length ≤ 20000 := hinv.mvl
  have HMV : Hid (∀ m ∈ p.moves, m.src < p.states.length ∧ m.dst < p.states.length) := fun m hm => by
    obtain ⟨s, s', a, b, _⟩ := hinv.mv m hm
    exact ⟨lt_of_get a, lt_of_get b⟩
  have HSM := Lib.hid h2.small
  clear hc hinv hdv hvst hb hB hd1 hb2
  have hmk1 := run_make_n (P := Tryz.prog) 102 31 (.slice none 0 0) 24 Tryz.underlying102 intsInfo p.states.length (by omega) (by omega) rfl
  go_upto_region 5 with fail
  have ho3 := OwnF.made (f := id) w2 31 p.states.length (.slice none 0 0) (by unfold maxLen; omega)
  dsimp only [id] at ho3
  have hr3 := OwnRows.start (w2.alloc (.cells (madeCells #[.slice none 0 0] p.states.length) 31)) w2.heap.size p.states.length
  have hb3 := bone w2 (.cells (madeCells #[.slice none 0 0] p.states.length) 31)
  generalize hw3 : w2.alloc (.cells (madeCells #[.slice none 0 0] p.states.length) 31) = w3 at *
  clear hw3 hmk1
  go_wp2_with fail
  go_loopw [37] (fun i wr => ∃ (j : Nat) (vs : List Value), j ≤ p.moves.length ∧ i = .int .i64 j ∧ OwnF id wr w2.heap.size 31 w2.heap.size p.states.length vs ∧ vs.length = p.states.length ∧ OwnRows wr w2.heap.size vs (predRows p.states.length (p.moves.take j)) ∧ Below w2.heap.size w2 wr) (fun i _ => p.moves.length - (intOf i).toNat)
  case atStart => exact ⟨0, _, Nat.zero_le _, rfl, ho3, by simp, hr3, hb3⟩
  case round =>
    obtain ⟨j, vs, hj, rfl, ho, hvl, hr, hbr⟩ := hrel
    have HVL := Lib.hid hvl
    clear ho3 hr3 hb3
    by_cases hlt : j < p.moves.length
    · obtain ⟨b, o, m, rfl, hD, hx, ⟨sm1, sm2, sm3⟩, c0, c1, c2⟩ := (h2.now hbr).at_ hlt
      have HT := Lib.hid (take_snoc' hx)
      obtain ⟨hms, hmd⟩ := HMV.out m (List.mem_of_getElem? hx)
      clear hx
      have hb4 := bone wr (.cells #[.int .i64 (m.src : Int), .int .i64 (m.dst : Int), .int .i64 (m.sym : Int)] 73)
      have hY := Blk.new wr 73 #[.int .i64 (m.src : Int), .int .i64 (m.dst : Int), .int .i64 (m.sym : Int)]
      have ho4 := ho.now hb4
      have hr4 := hr.now hb4
      have hbr4 := hbr.trans (hb4.mono hbr.size)
      have hvd : vs[m.dst]? = some (vs[m.dst]'(by omega)) := List.getElem?_eq_getElem _
      generalize vs[m.dst]'(by omega) = v at hvd
      have hrd := predRows_at (mv := p.moves.take j) hmd
      have hown := hr4.own m.dst v _ hvd hrd
      have hpl := preds_len (p.moves.take j) m.dst
      rw [List.length_take] at hpl
      obtain ⟨Av, cv, rfl⟩ := own_form hown
      have hcd := ho4.cell hvd
      have HVD := Lib.hid hvd
      have HRD := Lib.hid hrd
      dsimp only [id] at hcd
      clear hvd hrd ho hr
      go_upto_region 8 with fail
      clear c0 c1 c2
      generalize hw4 : wr.alloc (.cells #[.int .i64 (m.src : Int), .int .i64 (m.dst : Int), .int .i64 (m.sym : Int)] 73) = w4 at *
      clear hw4
      have HPR : Hid (predRows p.states.length (p.moves.take (j + 1)) = (predRows p.states.length (p.moves.take j)).set m.dst (preds (p.moves.take j) m.dst ++ [(m.src : Int)])) := by show _ = _; rw [HT.out, predRows_snoc]
      have HHS : Hid (∀ W, Below w4.heap.size w4 W → W.cell? ⟨wr.heap.size, 0, none⟩ = some (.int .i64 m.src) ∧ W.cell? ⟨wr.heap.size, 1, none⟩ = some (.int .i64 m.dst) ∧ W.cell? ⟨w2.heap.size, m.dst, none⟩ = some (.slice Av (preds (p.moves.take j) m.dst).length cv)) := fun W hW => ⟨(hY.now hW).c3.1, (hY.now hW).c3.2.1, (hW.cell (p := ⟨w2.heap.size, m.dst, none⟩) ho4.lt).trans hcd⟩
      generalize hps : preds (p.moves.take j) m.dst = ps at *
      have HPS := Lib.hid hps
      have hbd : Below w4.heap.size w4 w4.drew := (Below.refl _ _).drew
      obtain ⟨e0, e1, e2⟩ := HHS.out _ hbd
      have i1 : (0 : Int) ≤ (m.dst : Int) := by omega
      have i2 : (m.dst : Int) < (p.states.length : Int) := by omega
      clear hvl hps
      refine wp_region_held_tail 13 (fun W => W.cell? ⟨wr.heap.size, 0, none⟩ = some (.int .i64 m.src) ∧ W.cell? ⟨wr.heap.size, 1, none⟩ = some (.int .i64 m.dst) ∧ W.cell? ⟨w2.heap.size, m.dst, none⟩ = some (.slice Av ps.length cv)) (by kernel_rfl) (by kernel_rfl) ⟨e0, e1, e2⟩ (fun hHeld => ?_)
      simp only [List.take_succ_cons, List.take_zero]
      refine takeL (v := ?v0) 0 rfl (by kernel_rfl) (by kernel_rfl) (by kernel_rfl) (fun _ _ _ h => h) rfl ?hy0 hHeld ?rest0
      case hy0 => (intro W hW; obtain ⟨k0, k1, k2⟩ := hW; go_simp <;> rfl)
      simp only [Act.put, List.setIfInBounds_toArray, List.set_cons_zero, List.set_cons_succ]
      refine takeL (v := ?v1) 1 rfl (by kernel_rfl) (by kernel_rfl) (by kernel_rfl) (fun _ _ _ h => h) rfl ?hy1 hHeld ?rest1
      case hy1 => (intro W hW; obtain ⟨k0, k1, k2⟩ := hW; go_simp <;> rfl)
      simp only [Act.put, List.setIfInBounds_toArray, List.set_cons_zero, List.set_cons_succ]
      refine takeL (v := ?v2) 2 rfl (by kernel_rfl) (by kernel_rfl) (by kernel_rfl) (fun _ _ _ h => h) rfl ?hy2 hHeld ?rest2
      case hy2 => (intro W hW; obtain ⟨k0, k1, k2⟩ := hW; go_simp <;> rfl)
      simp only [Act.put, List.setIfInBounds_toArray, List.set_cons_zero, List.set_cons_succ]
      refine takeL (v := ?v3) 3 rfl (by kernel_rfl) (by kernel_rfl) (by kernel_rfl) (fun _ _ _ h => h) rfl ?hy3 hHeld ?rest3
      case hy3 => (intro W hW; obtain ⟨k0, k1, k2⟩ := hW; go_simp <;> rfl)
      simp only [Act.put, List.setIfInBounds_toArray, List.set_cons_zero, List.set_cons_succ]
      refine takeL (v := ?v4) 4 rfl (by kernel_rfl) (by kernel_rfl) (by kernel_rfl) (fun _ _ _ h => h) rfl ?hy4 hHeld ?rest4
      case hy4 => (intro W hW; obtain ⟨k0, k1, k2⟩ := hW; go_simp <;> rfl)
      simp only [Act.put, List.setIfInBounds_toArray, List.set_cons_zero, List.set_cons_succ]
      refine takeL (v := ?v5) 5 rfl (by kernel_rfl) (by kernel_rfl) (by kernel_rfl) (fun _ _ _ h => h) rfl ?hy5 hHeld ?rest5
      case hy5 => (intro W hW; obtain ⟨k0, k1, k2⟩ := hW; go_simp <;> rfl)
      simp only [Act.put, List.setIfInBounds_toArray, List.set_cons_zero, List.set_cons_succ]
      refine takeL (v := ?v6) 6 rfl (by kernel_rfl) (by kernel_rfl) (by kernel_rfl) (fun _ _ _ h => h) rfl ?hy6 hHeld ?rest6
      case hy6 => (intro W hW; obtain ⟨k0, k1, k2⟩ := hW; go_simp <;> rfl)
      simp only [Act.put, List.setIfInBounds_toArray, List.set_cons_zero, List.set_cons_succ]
      refine takeL (v := ?v7) 7 rfl (by kernel_rfl) (by kernel_rfl) (by kernel_rfl) (fun _ _ _ h => h) rfl ?hy7 hHeld ?rest7
      case hy7 => (intro W hW; obtain ⟨k0, k1, k2⟩ := hW; go_simp <;> rfl)
      simp only [Act.put, List.setIfInBounds_toArray, List.set_cons_zero, List.set_cons_succ]
      refine takeL (v := ?v8) 8 rfl (by kernel_rfl) (by kernel_rfl) (by kernel_rfl) (fun _ _ _ h => h) rfl ?hy8 hHeld ?rest8
      case hy8 => (intro W hW; obtain ⟨k0, k1, k2⟩ := hW; go_simp <;> rfl)
      simp only [Act.put, List.setIfInBounds_toArray, List.set_cons_zero, List.set_cons_succ]
      refine takeL (v := ?v9) 9 rfl (by kernel_rfl) (by kernel_rfl) (by kernel_rfl) (fun _ _ _ h => h) rfl ?hy9 hHeld ?rest9
      case hy9 => (intro W hW; obtain ⟨k0, k1, k2⟩ := hW; go_simp <;> rfl)
      simp only [Act.put, List.setIfInBounds_toArray, List.set_cons_zero, List.set_cons_succ]
      refine onlyL 10 rfl rfl (by kernel_rfl) (fun K hK => ?_)
      go_simp
      have hba : Below w4.heap.size w4 (w4.drew.alloc (.cells #[.int .i64 (m.src : Int)] 3)) := bbox hbd _
      refine hK.out _ _ (HHS.out _ hba) (fun hHeld => ?_)
      clear hK K
      refine onlyL 11 rfl rfl (by kernel_rfl) (fun K hK => ?_)
      refine wp_push appInts (.tmp 48) (.tmp 51) rfl w4.drew [.int .i64 (m.src : Int)] rfl (by simp [Value.oneCell']) _ ps.length (ps.map (Value.int .i64)) rfl hown rfl (by omega) hbr4.size ?_
      intro v' w5 hown' hgr hat
      have hgr4 : w4.grownBy w5 (Value.slice Av ps.length cv).ownBlock := ⟨hgr.os, hgr.tape, hgr.output, hgr.size, hgr.block⟩
      have hog : (Value.slice Av ps.length cv).ownBlock ≠ some w2.heap.size := fun e => own_apart hown ho4.1 (by decide) e (by rfl)
      have hyg : (Value.slice Av ps.length cv).ownBlock ≠ some wr.heap.size := own_ne hown hY (by decide)
      have ho5 := ho4.grown hgr4 hog
      have hY5 := hY.grown hgr4 (fun e => hyg e.symm)
      have hr5 := hr4.push (k := m.dst) HVD.out HRD.out (by simpa using hown') hgr4 hat
      have hb45 : Below w2.heap.size w4 w5 := below_of_grown hgr4 hbr4.size (fun g hg => (hown.lt g hg).1)
      obtain ⟨A5, c5, rfl⟩ := own_form hown'
      obtain ⟨y0, y1, _⟩ := hY5.c3
      have hcd5 := ho5.cell HVD.out
      dsimp only [id] at hcd5
      refine hK.out _ _ ⟨y0, y1, hcd5⟩ (fun hHeld => ?_)
      clear hK K
      refine takeL (v := ?v12) 12 rfl (by kernel_rfl) (by kernel_rfl) (by kernel_rfl) (fun _ _ _ h => h) rfl ?hy12 hHeld ?rest12
      case hy12 => (intro W hW; obtain ⟨k0, k1, k2⟩ := hW; go_simp <;> rfl)
      simp only [Act.put, List.setIfInBounds_toArray, List.set_cons_zero, List.set_cons_succ]
      refine doneL (by kernel_rfl) ?_
      simp only [List.drop_succ_cons, List.drop_zero]
      have hfz := ho5.frozen m.dst
      have hr6 := hr5.far ho5 (by decide) m.dst (.slice A5 (ps.length + 1) c5)
      have ho6 := ho5.set_ m.dst (.slice A5 (ps.length + 1) c5)
      dsimp only [id] at ho6
      have hb6 := (hbr4.trans hb45).setCell (p := ⟨w2.heap.size, m.dst, none⟩) (Nat.le_refl _) (.slice A5 (ps.length + 1) c5)
      go_wp2_with fail
      go_roundw
      case rel =>
        refine ⟨j + 1, vs.set m.dst (.slice A5 (ps.length + 1) c5), by omega, by go_num, ho6, by rw [List.length_set]; exact HVL.out, ?_, hb6⟩
        rw [HPR.out]
        exact hr6
      case measure => simp [intOf]; omega
    · obtain rfl : j = p.moves.length := by omega
      rw [List.take_of_length_le (Nat.le_refl _)] at hr
      have hII := hr.sl ho (preds_fit HSM.out _)
      rw [hvl] at hII
      have hszr := hbr.size
      clear hr ho hvl HVL
      obtain ⟨wo, hwo⟩ : ∃ z, z = wr := ⟨_, rfl⟩
      subst hwo
      have hmk2 := run_make_n (P := Tryz.prog) 132 4 (.bool false) 1 Tryz.underlying132 boolInfo p.states.length (by omega) (by omega) rfl
      go_upto_region 11 with fail
      have hg3 := OwnF.made (f := Value.bool) wo 4 p.states.length false (by unfold maxLen; omega)
      have hb3 := bone wo (.cells (madeCells #[.bool false] p.states.length) 4)
      rw [← fin_zero d p] at hg3
      generalize hw3 : wo.alloc (.cells (madeCells #[.bool false] p.states.length) 4) = w6 at *
      clear hw3 hmk2
      go_wp2_with fail
      go_loopw [60, 14] (fun i wv wr => ∃ k : Nat, k ≤ p.states.length ∧ i = .int .i64 k ∧ OwnF Value.bool wr wo.heap.size 4 wo.heap.size p.states.length (finTo d p k) ∧ wr.ownsRow wo.heap.size 3 1 wv (workTo d p k).length ((workTo d p k).map fun (x : Nat) => Value.int .i64 (x : Int)) ∧ Below wo.heap.size wo wr) (fun i _ _ => p.states.length - (intOf i).toNat)
      case atStart => exact ⟨0, Nat.zero_le _, rfl, hg3, World.ownsRow_nil _ _ _ _, hb3⟩
      case round =>
        obtain ⟨k, hk, rfl, hg, hwk, hbw⟩ := hrel
        clear hg3 hb3
        have hbw2r := hbr.trans (hbw.mono hszr)
        have hszw := hbw.size
        by_cases hlt : k < p.states.length
        · obtain ⟨b, o, s, mvv, vvv, rfl, hD, hx, hsm, hsv, c0, c1⟩ := (h1.now hbw2r).at_ hlt
          obtain ⟨Am4, cm4, rfl, _, _, hsm⟩ := hsm.open_
          obtain ⟨Av4, cv4, rfl, _, _, hsv⟩ := hsv.open_
          have HX := Lib.hid hx
          have hwl := work_len d p k
          have hfl := fin_len d p k
          clear hx
          have hb4 := bone wr (.cells #[.slice Am4 s.marks.length cm4, .slice Av4 s.vals.length cv4] 33)
          have hY := Blk.new wr 33 #[.slice Am4 s.marks.length cm4, .slice Av4 s.vals.length cv4]
          have hg4 := hg.now hb4
          have hwk4 := own_now hwk hb4
          have hbr4 := hbw.trans (hb4.mono hbw.size)
          have hsm4 := hsm.now hb4
          have hB4 := (hB2.now hbw2r).now hb4
          have hd4 := ((h0.now hbw2).now hbw2r).now hb4
          go_upto_region 15 with fail
          clear c0 c1 hg hwk hsm hsv
          generalize hw4 : wr.alloc (.cells #[.slice Am4 s.marks.length cm4, .slice Av4 s.vals.length cv4] 33) = w4 at *
          clear hw4 hb4
          have HF := Lib.hid (finalM_any n d s.marks _ _ w4 hd4 hsm4)
          obtain ⟨q0, q1, q2, q3, q4, q5, q6, q7⟩ := hB4.c8
          obtain ⟨y0, y1⟩ := hY.c2
          go_wp2_with fail
          refine HF.out.mono ?_
          rintro e w5 ⟨rfl, hb5⟩
          have hg5 := hg4.now hb5
          have hwk5 := own_now hwk4 hb5
          have hbr5 := hbr4.trans (hb5.mono hbr4.size)
          clear HF q0 q1 q2 q3 q4 q5 q6 q7 y0 y1 hg4 hwk4 hB4 hd4 hsm4 hY
          have hszw5 := hbr5.size
          cases hq : finalM d s.marks
          · obtain ⟨f1, f2⟩ := fin_no HX.out hq
            have HF1 := Lib.hid f1
            have HF2 := Lib.hid f2
            clear f1 f2 hq hfl
            go_wp2_with fail
            go_roundw
            case rel => exact ⟨k + 1, by omega, by go_num, by rw [HF1.out]; exact hg5, by rw [HF2.out]; exact hwk5, hbr5⟩
            case measure => simp [intOf]; omega
          · obtain ⟨f1, f2⟩ := fin_yes HX.out hq
            have HF1 := Lib.hid f1
            have HF2 := Lib.hid f2
            have hcl := hg5.cell (k := k) (x := (finTo d p k)[k]'(by omega)) (List.getElem?_eq_getElem _)
            have hfz := hg5.frozen k
            have hg6 := hg5.set_ k true
            have hwk6 := ownsRow_setCell_other hwk5 (a := ⟨wo.heap.size, k, none⟩) (fun e => own_apart hwk5 hg5.1 (by decide) e (by rfl)) (.bool true)
            have hbr6 := hbr5.setCell (p := ⟨wo.heap.size, k, none⟩) (Nat.le_refl _) (.bool true)
            have k1 : (0 : Int) ≤ (k : Int) := by omega
            have k2 : (k : Int) < (p.states.length : Int) := by omega
            clear f1 f2 hq
            go_upto_region 17 with fail
            generalize hw6 : w5.setCell ⟨wo.heap.size, k, none⟩ (.bool true) = w6' at *
            clear hw6 hcl hfz hg5 hwk5
            have hszw6 := hbr6.size
            go_wp2_with (at_builtin; refine wpList_push appInts rfl (.tmp 72) (.tmp 74) rfl w6' [.int .i64 (k : Int)] rfl (by simp [Value.oneCell']) _ (workTo d p k).length ((workTo d p k).map fun (x : Nat) => Value.int .i64 (x : Int)) rfl hwk6 rfl (by omega) hszw6 ?_; intro v' w7 hown' hgr hat)
            have hbg : Below wo.heap.size w6' w7 := below_of_grown hgr hszw6 (fun g hg => (hwk6.lt g hg).1)
            have hg7 := hg6.grown hgr (fun e => own_apart hwk6 hg6.1 (by decide) e (by rfl))
            go_roundw
            case rel =>
              refine ⟨k + 1, by omega, by go_num, by rw [HF1.out]; exact hg7, ?_, hbr6.trans hbg⟩
              rw [HF2.out]; simpa using hown'
            case measure => simp [intOf]; omega
        · obtain rfl : k = p.states.length := by omega
          obtain ⟨hmk, hcd⟩ := marks_start d p
          have HMK := Lib.hid hmk
          have HCD := Lib.hid hcd
          have hwl := work_len d p p.states.length
          have HWN : Hid (∀ x ∈ workTo d p p.states.length, x < p.states.length) := fun x hx => List.mem_range.1 (List.mem_filter.1 hx).1
          have hfs : falses (finTo d p p.states.length) ≤ p.states.length := by
            have h3 := fin_len d p p.states.length
            unfold falses
            have h4 := List.length_filter_le (fun b => !b) (finTo d p p.states.length)
            omega
          generalize finTo d p p.states.length = gs0 at *
          generalize workTo d p p.states.length = wk0 at *
          clear hmk hcd
          go_wp2_with fail
          go_loopg [14] (3 * p.states.length) (fun gg wv wr => ∃ (gs : List Bool) (wk : List Nat), 2 * falses gs + wk.length ≤ gg ∧ 2 * falses gs + wk.length ≤ 3 * p.states.length ∧ Marks d p gs wk ∧ Closed p gs wk ∧ (∀ x ∈ wk, x < p.states.length) ∧ OwnF Value.bool wr wo.heap.size 4 wo.heap.size p.states.length gs ∧ wr.ownsRow wo.heap.size 3 1 wv wk.length (wk.map fun (x : Nat) => Value.int .i64 (x : Int)) ∧ Below wo.heap.size wo wr)
          case atStart => exact ⟨gs0, wk0, by omega, by omega, HMK.out, HCD.out, HWN.out, hg, hwk, hbw⟩
          case round =>
            obtain ⟨gs, wk, hgg, hg3, hmk, hcd, hwn, hg, hwk, hbw⟩ := hrel
            have HMK := Lib.hid hmk
            have HCD := Lib.hid hcd
            have HWN := Lib.hid hwn
            clear hmk hcd hwn hfs hwl
            have hszw := hbw.size
            have hbw2r := hbr.trans (hbw.mono hszr)
            have hgl : gs.length = p.states.length := HMK.out.len
            rcases List.eq_nil_or_concat wk with hnil | ⟨wk', i, hcons⟩
            · subst hnil
              have HG := Lib.hid (Marks.done HMK.out HCD.out (fun m hm => (HMV.out m hm).1))
              have hof : ∃ A c, _ = Value.slice A 0 c := own_form hwk
              obtain ⟨Aw', cw', rfl⟩ := hof
              clear hgl
              have hg5 : OwnF Value.bool wr wo.heap.size 4 wo.heap.size p.states.length (goodL d p) := by rw [← HG.out]; exact hg
              have hgl := goodL_len d p
              clear hg hwk HG HMK HCD HWN hgg hg3
              go_wp2_with fail
              obtain ⟨wq, hwq⟩ : ∃ z, z = wr := ⟨_, rfl⟩
              subst hwq
              go_loopw [115] (fun i wr => ∃ k : Nat, k ≤ p.states.length ∧ i = .int .i64 k ∧ (∀ q, q < k → badAt d p q = false) ∧ Below wq.heap.size wq wr) (fun i _ => p.states.length - (intOf i).toNat)
              case atStart => exact ⟨0, Nat.zero_le _, rfl, fun q hq => absurd hq (by omega), Below.refl _ _⟩
              case round =>
                obtain ⟨k, hk, rfl, hall, hbq⟩ := hrel
                have HALL := Lib.hid hall
                clear hall
                have hbwq := hbw.trans (hbq.mono hszw)
                have hbw2q := hbr.trans (hbwq.mono hszr)
                by_cases hlt : k < p.states.length
                rotate_left
                · obtain rfl : k = p.states.length := by omega
                  have HE := Lib.hid (HY.out (first_none HALL.out))
                  go_wp2_with fail
                  go_ret3
                  rw [HE.out]
                  exact ⟨_, rfl, Sl.none_, bthen hbw2 hbw2q⟩
                obtain ⟨b, o, s, mvv, vvv, rfl, hD, hx, hsm, hsv, c0, c1⟩ := (h1.now hbw2q).at_ hlt
                have hst := HINV.out.ok s (List.mem_of_getElem? hx)
                have HBA := Lib.hid (bad_at (n := d) hx)
                clear hx
                obtain ⟨hnv, hmk, _⟩ := state_parts hst
                obtain ⟨_, sk1, sk2⟩ := insideOk hnv
                have hml := (markOk (n := d.net) hmk).1
                clear hst hnv hmk
                obtain ⟨Am4, cm4, rfl, _, _, hsm⟩ := hsm.open_
                obtain ⟨Av4, cv4, rfl, _, _, hsv⟩ := hsv.open_
                have hb4 := bone wr (.cells #[.slice Am4 s.marks.length cm4, .slice Av4 s.vals.length cv4] 33)
                have hY := Blk.new wr 33 #[.slice Am4 s.marks.length cm4, .slice Av4 s.vals.length cv4]
                have hg6 := (hg5.now hbq).now hb4
                have hsm4 := hsm.now hb4
                have hB4 := (hB2.now hbw2q).now hb4
                have hd4 := ((h0.now hbw2).now hbw2q).now hb4
                have hb24 : Below w2.heap.size w2 (wr.alloc (.cells #[.slice Am4 s.marks.length cm4, .slice Av4 s.vals.length cv4] 33)) := hbw2q.trans (hb4.mono hbw2q.size)
                have hbq4 : Below wq.heap.size wq (wr.alloc (.cells #[.slice Am4 s.marks.length cm4, .slice Av4 s.vals.length cv4] 33)) := hbq.trans (hb4.mono hbq.size)
                go_upto_region 32 with fail
                clear c0 c1 hsm hsv hb4
                generalize hw4 : wr.alloc (.cells #[.slice Am4 s.marks.length cm4, .slice Av4 s.vals.length cv4] 33) = w4 at *
                clear hw4
                have hskl : d.net.sink.toNat < s.marks.length := by omega
                obtain ⟨bm, om, z, rfl, hDm, hz, _, cz⟩ := hsm4.at_ hskl
                have hzd : s.marks.getD d.net.sink.toNat 0 = z := by rw [List.getD_eq_getElem?_getD, hz]; rfl
                have HZD := Lib.hid hzd
                have sk3 : d.net.sink < (s.marks.length : Int) := by omega
                have hcg := hg6.cell (k := k) (x := (goodL d p)[k]'(by omega)) (List.getElem?_eq_getElem _)
                have hgd : (goodL d p).getD k false = (goodL d p)[k]'(by omega) := by rw [List.getD_eq_getElem?_getD, List.getElem?_eq_getElem (by omega)]; rfl
                generalize (goodL d p)[k]'(by omega) = bv at hcg hgd
                have HGD := Lib.hid hgd
                have k1 : (0 : Int) ≤ (k : Int) := by omega
                have k2 : (k : Int) < (p.states.length : Int) := by omega
                clear hgd hz hzd
                obtain ⟨q0, q1, q2, q3, q4, q5, q6, q7⟩ := hB4.c8
                obtain ⟨y0, y1⟩ := hY.c2
                cases bv
                · have HBD : Hid (badAt d p k = true) := by show _ = _; rw [HBA.out, HGD.out]; rfl
                  have HE := Lib.hid (HN.out k (first_some hlt HBD.out HALL.out))
                  have HPA := Lib.hid (dpath_any p.moves k _ _ (h2.now hb24) (by omega) (by omega))
                  go_wp2_with fail
                  refine HPA.out.mono ?_
                  rintro e w9 ⟨v9, rfl, hv9, hb9⟩
                  go_wp2_with fail
                  go_ret3
                  rw [HE.out]
                  exact ⟨_, rfl, hv9, bthen (bthen hbw2 hb24) hb9⟩
                by_cases hpos : 0 < z
                rotate_left
                · have HBD : Hid (badAt d p k = false) := by show _ = _; rw [HBA.out, HGD.out]; unfold badS; rw [HZD.out, decide_eq_false hpos]; rfl
                  go_wp2_with fail
                  go_roundw
                  case rel => exact ⟨k + 1, by omega, by go_num, fun q hq => by
                    by_cases e : q = k
                    · subst e; exact HBD.out
                    · exact HALL.out q (by omega), hbq4⟩
                  case measure => simp [intOf]; omega
                have HF := Lib.hid (finalM_any n d s.marks _ _ w4 hd4 hsm4)
                go_wp2_with fail
                refine HF.out.mono ?_
                rintro e w5 ⟨rfl, hb5⟩
                clear HF q0 q1 q2 q3 q4 q5 q6 q7 y0 y1 cz hcg
                have hb25 := hb24.trans (hb5.mono hb24.size)
                have hbq5 := hbq4.trans (hb5.mono hbq4.size)
                cases hq : finalM d s.marks
                · have HBD : Hid (badAt d p k = true) := by show _ = _; rw [HBA.out, HGD.out]; unfold badS; rw [HZD.out, decide_eq_true hpos, hq]; rfl
                  clear hq
                  have HE := Lib.hid (HN.out k (first_some hlt HBD.out HALL.out))
                  have HPA := Lib.hid (dpath_any p.moves k _ _ (h2.now hb25) (by omega) (by omega))
                  go_wp2_with fail
                  refine HPA.out.mono ?_
                  rintro e w9 ⟨v9, rfl, hv9, hb9⟩
                  go_wp2_with fail
                  go_ret3
                  rw [HE.out]
                  exact ⟨_, rfl, hv9, bthen (bthen hbw2 hb25) hb9⟩
                · have HBD : Hid (badAt d p k = false) := by show _ = _; rw [HBA.out, HGD.out]; unfold badS; rw [HZD.out, decide_eq_true hpos, hq]; rfl
                  clear hq
                  go_wp2_with fail
                  go_roundw
                  case rel => exact ⟨k + 1, by omega, by go_num, fun q hq => by
                    by_cases e : q = k
                    · subst e; exact HBD.out
                    · exact HALL.out q (by omega), hbq5⟩
                  case measure => simp [intOf]; omega
            · rw [List.concat_eq_append] at hcons
              subst hcons
              obtain ⟨hm1, hm2⟩ := HMK.out.pop
              have HM1 := Lib.hid hm1
              have HGI := Lib.hid hm2
              have HOP := Lib.hid (Closed.pop HCD.out)
              have HCI := Lib.hid (HMK.out.sound i hm2)
              have hin := HWN.out i (by simp)
              have HWN' : Hid (∀ x ∈ wk', x < p.states.length) := fun x hx => HWN.out x (by simp [hx])
              have hmap : (wk' ++ [i]).map (fun (x : Nat) => Value.int .i64 (x : Int)) = ((wk' ++ [i]).map fun (x : Nat) => (x : Int)).map (Value.int .i64) := by rw [List.map_map]; rfl
              rw [hmap] at hwk
              obtain ⟨gw, cw', rfl, hcap, hoi⟩ := OwnI.of hwk (by simp)
              have hln : ((wk' ++ [i]).map fun (x : Nat) => (x : Int)).length = wk'.length + 1 := by simp
              have hln2 : (wk' ++ [i]).length = wk'.length + 1 := by simp
              rw [hln] at hcap ⊢
              rw [hln2] at hgg hg3
              have hci := hoi.cell (k := wk'.length) (z := (i : Int)) (by simp)
              have hpop : wr.ownsRow wo.heap.size 3 1 (.slice (some ⟨gw, 0, none⟩) wk'.length cw') wk'.length (wk'.map fun (x : Nat) => Value.int .i64 (x : Int)) := by
                refine ownsRow_pop (last := [.int .i64 (i : Int)]) (by simp) ?_
                rw [← hmap, hln2] at hwk
                rw [hln] at hwk
                simpa using hwk
              have hcapm : cw' ≤ 9223372036854775807 := by
                rcases hwk.2 with ⟨e, _⟩ | ⟨g', cap', cur, e, _, _, _, hm', _⟩
                · cases e
                · injection e with _ _ e3
                  subst e3
                  unfold maxLen at hm'; exact hm'
              obtain ⟨bI, oI, r, ru, hru, hDI, hrx, hrs, hcI⟩ := hII.at_ hin
              have hre : r = preds p.moves i := by
                rw [predRows_at hin] at hrx
                injection hrx with hrx; exact hrx.symm
              obtain ⟨Ar, cr, rfl, r1, r2, hrs⟩ := hrs.open_
              have HRE := Lib.hid hre
              clear hm1 hm2 hmap hwk hoi hln hln2 hre hrx hgl
              injection hru with hru
              injection hru with hru1 hru2 _
              subst hru1
              subst hru2
              rw [Nat.zero_add] at hcI
              replace hcI := (hbw.cell (p := ⟨w2.heap.size, i, none⟩) hDI).trans hcI
              have j1 : (0 : Int) ≤ (wk'.length : Int) := by omega
              have j2 : (wk'.length : Int) ≤ (cw' : Int) := by omega
              have j3 : (0 : Int) ≤ (i : Int) := by omega
              have j4 : (i : Int) < (p.states.length : Int) := by omega
              have hw6 : wk'.length ≤ 6000 := by omega
              go_wp2_with fail
              obtain ⟨wq, hwq⟩ : ∃ z, z = wr := ⟨_, rfl⟩
              subst hwq
              go_loopw [96, 14] (fun tv wv wr => ∃ (j : Nat) (gs' : List Bool) (wk : List Nat), j ≤ r.length ∧ tv = .int .i64 j ∧ 2 * falses gs' + wk.length ≤ 2 * falses gs + wk'.length ∧ Marks d p gs' wk ∧ Open p gs' wk i j ∧ (∀ x ∈ wk, x < p.states.length) ∧ OwnF Value.bool wr wo.heap.size 4 wo.heap.size p.states.length gs' ∧ wr.ownsRow wo.heap.size 3 1 wv wk.length (wk.map fun (x : Nat) => Value.int .i64 (x : Int)) ∧ Below wo.heap.size wo wr) (fun tv _ _ => r.length - (intOf tv).toNat)
              case atStart => exact ⟨0, gs, wk', Nat.zero_le _, rfl, Nat.le_refl _, HM1.out, HOP.out, HWN'.out, hg, hpop, hbw⟩
              case round =>
                obtain ⟨j, gs', wk, hj, rfl, hgg', hmk, hop, hwn, hg, hwk, hbw⟩ := hrel
                have HMK := Lib.hid hmk
                have HOP := Lib.hid hop
                have HWN := Lib.hid hwn
                clear hmk hop hwn hcI
                have hszw := hbw.size
                by_cases hlt : j < r.length
                rotate_left
                · obtain rfl : j = r.length := by omega
                  have hop := HOP.out
                  rw [HRE.out] at hop
                  have HCD := Lib.hid hop.done
                  clear hop
                  go_wp2_with fail
                  go_roundg (2 * falses gs' + wk.length)
                  case measure => omega
                  case rel => exact ⟨gs', wk, Nat.le_refl _, by omega, HMK.out, HCD.out, HWN.out, hg, hwk, hbw⟩
                obtain ⟨b, o, z, rfl, hD, hz, _, c0⟩ := (hrs.now hbw).at_ hlt
                have hz' := hz
                rw [HRE.out] at hz'
                obtain ⟨mm, hmm, hmd, hmz⟩ := preds_mem (List.mem_of_getElem? hz')
                have hkl := (HMV.out mm hmm).1
                subst hmz
                have HZ := Lib.hid hz'
                generalize hmk : mm.src = k at *
                have hgl : gs'.length = p.states.length := HMK.out.len
                have hcg := hg.cell (k := k) (x := gs'[k]'(by omega)) (List.getElem?_eq_getElem _)
                have hfg := hg.frozen k
                have hgd : gs'.getD k false = gs'[k]'(by omega) := by rw [List.getD_eq_getElem?_getD, List.getElem?_eq_getElem (by omega)]; rfl
                generalize gs'[k]'(by omega) = bv at hcg hgd
                have HGD := Lib.hid hgd
                have k1 : (0 : Int) ≤ (k : Int) := by omega
                have k2 : (k : Int) < (p.states.length : Int) := by omega
                clear hz hz' hmm hmd hmk hgd
                cases bv
                · have HM2 := Lib.hid (HMK.out.mark (pred_can HCI.out HZ.out) hkl)
                  have HO2 := Lib.hid (HOP.out.mark HZ.out (by omega))
                  have hfs := falses_set gs' k (by omega) HGD.out
                  have hg6 := hg.set_ k true
                  have hwk6 := ownsRow_setCell_other hwk (a := ⟨wo.heap.size, k, none⟩) (fun e => own_apart hwk hg.1 (by decide) e (by rfl)) (.bool true)
                  have hbr6 := hbw.setCell (p := ⟨wo.heap.size, k, none⟩) (Nat.le_refl _) (.bool true)
                  have HFS := Lib.hid hfs
                  have hwkl : wk.length ≤ 6000 := by omega
                  clear hfs hgl
                  go_upto_region 27 with fail
                  generalize hw6 : wr.setCell ⟨wo.heap.size, k, none⟩ (.bool true) = w6' at *
                  clear hw6 hcg hfg hg hwk c0
                  have hszw6 := hbr6.size
                  go_wp2_with (at_builtin; refine wpList_push appInts rfl (.tmp 108) (.tmp 110) rfl w6' [.int .i64 (k : Int)] rfl (by simp [Value.oneCell']) _ wk.length (wk.map fun (x : Nat) => Value.int .i64 (x : Int)) rfl hwk6 rfl (by omega) hszw6 ?_; intro v' w7 hown' hgr hat)
                  have hbg : Below wo.heap.size w6' w7 := below_of_grown hgr hszw6 (fun g hg => (hwk6.lt g hg).1)
                  have hg7 := hg6.grown hgr (fun e => own_apart hwk6 hg6.1 (by decide) e (by rfl))
                  go_roundw
                  case rel =>
                    refine ⟨j + 1, gs'.set k true, wk ++ [k], by omega, by go_num, ?_, HM2.out, HO2.out, fun x hx => ?_, hg7, ?_, hbr6.trans hbg⟩
                    · have := HFS.out
                      rw [List.length_append, List.length_singleton]
                      omega
                    · rcases List.mem_append.1 hx with hx | hx
                      · exact HWN.out x hx
                      · rw [List.mem_singleton] at hx; omega
                    · simpa using hown'
                  case measure => simp [intOf]; omega
                · have HO2 := Lib.hid (HOP.out.skip HZ.out HGD.out)
                  clear hgl
                  go_wp2_with fail
                  go_roundw
                  case rel => exact ⟨j + 1, gs', wk, by omega, by go_num, hgg', HMK.out, HO2.out, HWN.out, hg, hwk, hbw⟩
                  case measure => simp [intOf]; omega
def findZ (l : List St) (s : St) : Int := match idxS l s with
  | some k => (k : Int)
  | none => -1
theorem eqF_int {P : Program} {d t o : Nat} {xs ys : Array Value} {f : Field} {l : List Field} {q : Bool × Nat × Nat} {a b : Int} (hf : (f.name == "_", f.type, f.offset) = q) (hq : q = (false, t, o)) (ht : P.underlying t = some (.int .i64)) (hx : xs[o]? = some (.int .i64 a)) (hy : ys[o]? = some (.int .i64 b)) (W : World) :
    (Op.eqFields (d + 1) xs ys (f :: l)).run P W = if a == b then (Op.eqFields (d + 1) xs ys l).run P W else .ok false W := by
  rw [hq] at hf
  simp only [Prod.mk.injEq, beq_eq_false_iff_ne] at hf
  obtain ⟨h1, h2, h3⟩ := hf
  simp only [Op.eqFields, h1, h2, h3, ne_eq, not_false_eq_true, if_true]
  simp only [Sem.run_bind, part, isAgg, run_underlying ht, Result.andThen_ok, Sem.run_pure, Bool.false_eq_true, if_false, hx, hy, run_equalIn_int W d t .i64 .i64 a b ht]
  cases a == b <;> simp
theorem fieldsMv : ((Program.fieldsOf Tryz.prog 73).toList.map fun f => (f.name == "_", f.type, f.offset)) = [(false, 3, 0), (false, 3, 1), (false, 3, 2)] := by kernel_rfl
theorem mvNeq (a b c d e f : Int) (W : World) : (binOp .neq 73 (.agg #[.int .i64 a, .int .i64 b, .int .i64 c]) (.agg #[.int .i64 d, .int .i64 e, .int .i64 f])).run Tryz.prog W = .ok (.bool (!(a == d && (b == e && c == f)))) W := by
  rw [run_neq_struct, show (10000 : Nat) = 9998 + 1 + 1 from rfl, run_equalIn_agg (ht := by kernel_rfl) (hp := by kernel_rfl)]
  have hF := fieldsMv
  generalize (Program.fieldsOf Tryz.prog 73).toList = L at hF
  rcases L with _ | ⟨f1, L⟩
  · simp at hF
  rcases L with _ | ⟨f2, L⟩
  · simp at hF
  rcases L with _ | ⟨f3, L⟩
  · simp at hF
  rcases L with _ | ⟨f4, L⟩
  · rw [List.map_cons, List.map_cons, List.map_cons, List.map_nil] at hF
    injection hF with e1 hF
    injection hF with e2 hF
    injection hF with e3 hF
    have hi : Program.underlying Tryz.prog 3 = some (.int .i64) := by kernel_rfl
    rw [eqF_int e1 rfl hi rfl rfl, eqF_int e2 rfl hi rfl rfl, eqF_int e3 rfl hi rfl rfl]
    cases a == d <;> cases b == e <;> cases c == f <;> simp [Op.eqFields]
  · simp at hF
theorem mvSame (x y : Mv) : ((x.src : Int) == (y.src : Int) && ((x.dst : Int) == (y.dst : Int) && (x.sym : Int) == (y.sym : Int))) = decide (x = y) := by
  obtain ⟨a, b, c⟩ := x
  obtain ⟨d, e, f⟩ := y
  rw [Bool.eq_iff_iff]
  simp only [Bool.and_eq_true, beq_iff_eq, decide_eq_true_eq, Mv.mk.injEq]
  omega
set_option maxHeartbeats 4000000 in
set_option maxRecDepth 100000 in
theorem sameMoves_ref (l m : List Mv) (lv mv : Value) (w : World) (hl : SlM (Lt w.heap.size) w lv l) (hm : SlM (Lt w.heap.size) w mv m) :
    Calls Tryz.prog 20 #[lv, mv] w fun e w' => e = .returned (.bool (decide (l = m))) ∧ Below w.heap.size w w' := by
  obtain ⟨Al, cl, rfl, l1, l2, hl⟩ := Sl.open_ hl
  have hl : SlM (Lt w.heap.size) w (.slice Al l.length cl) l := hl
  obtain ⟨Bl, dl, rfl, m1, m2, hm⟩ := Sl.open_ hm
  have hm : SlM (Lt w.heap.size) w (.slice Bl m.length dl) m := hm
  by_cases hne : l.length = m.length
  rotate_left
  · have HE : Hid (decide (l = m) = false) := by show _ = _; rw [decide_eq_false_iff_not]; exact fun e => hne (by rw [e])
    have t1 : ((l.length : Int) != (m.length : Int)) = true := by simp; omega
    clear hne hl hm
    go_enter Tryz.func20, Tryz.ntmps20
    go_wp2_with fail
    go_ret
    rw [HE.out]
    exact ⟨rfl, Below.refl _ _⟩
  have t1 : ((l.length : Int) != (m.length : Int)) = false := by simp [hne]
  have HN := Lib.hid hne
  have hne2 : l.length ≤ m.length := by omega
  clear hne
  go_enter Tryz.func20, Tryz.ntmps20
  go_wp2_with fail
  clear t1
  go_loopw [5] (fun i wr => ∃ k : Nat, k ≤ l.length ∧ i = .int .i64 k ∧ (∀ j, j < k → l[j]? = m[j]?) ∧ Below w.heap.size w wr) (fun i _ => l.length - (intOf i).toNat)
  case atStart => exact ⟨0, Nat.zero_le _, rfl, fun j h => absurd h (by omega), Below.refl _ _⟩
  case round =>
    obtain ⟨k, hk, rfl, hp, hbr⟩ := hrel
    have HP := Lib.hid hp
    clear hp
    by_cases hlt : k < l.length
    rotate_left
    · have HE : Hid (decide (l = m) = true) := by show _ = _; rw [decide_eq_true_iff]; exact eq_of_gets HN.out (fun j hj => HP.out j (by omega))
      go_wp2_with fail
      go_ret
      rw [HE.out]
      exact ⟨rfl, hbr⟩
    have hlr := hl.now hbr
    have hmr := hm.now hbr
    obtain ⟨b, o, x, rfl, hD, hx, hsx, c0, c1, c2⟩ := hlr.at_ hlt
    obtain ⟨b2, o2, y, rfl, hD2, hy, hsy, d0, d1, d2⟩ := hmr.at_ (k := k) (by omega)
    have HX := Lib.hid hx
    have HY := Lib.hid hy
    have i1 : (0 : Int) ≤ (k : Int) := by omega
    have i2 : (k : Int) < (l.length : Int) := by omega
    have i3 : (k : Int) < (m.length : Int) := by omega
    have hbd : ∀ q, Below w.heap.size w (wr.drewN q) := fun q => hbr.trans (bdrawn (Below.refl _ _) q)
    have HBD := Lib.hid hbd
    clear hx hy hD hD2 hlr hmr hbd
    have hne : ∀ W, (binOp .neq 73 (.agg #[.int .i64 (x.src : Int), .int .i64 (x.dst : Int), .int .i64 (x.sym : Int)]) (.agg #[.int .i64 (y.src : Int), .int .i64 (y.dst : Int), .int .i64 (y.sym : Int)])).run Tryz.prog W = .ok (.bool (!(decide (x = y)))) W := fun W => by rw [mvNeq, mvSame]
    by_cases hxy : x = y
    · have HE := Lib.hid hxy
      rw [decide_eq_true hxy] at hne
      clear hxy
      simp only [Bool.not_true] at hne
      go_upto_region 6 with fail
      go_quiet (fail)
      go_wp2_with fail
      go_roundw
      case rel => exact ⟨k + 1, by omega, by go_num, fun j hj => by
        by_cases e : j = k
        · subst e
          rw [HX.out, HY.out, HE.out]
        · exact HP.out j (by omega), HBD.out _⟩
      case measure => simp [intOf]; omega
    · have HE : Hid (decide (l = m) = false) := by
        show _ = _
        rw [decide_eq_false_iff_not]
        rintro rfl
        have h1 := HX.out
        rw [HY.out] at h1
        injection h1 with h1
        exact hxy h1.symm
      rw [decide_eq_false hxy] at hne
      clear hxy
      simp only [Bool.not_false] at hne
      go_upto_region 6 with fail
      go_quiet (fail)
      go_wp2_with fail
      go_ret
      rw [HE.out]
      exact ⟨rfl, HBD.out _⟩
end Go.Proofs.YtlmenhjlgmejkaaGreatDoor
