/- Merged texts. -/
import Derived.Test.YtlmenhjlgmejkaaGreatDoorSn24
import Derived.Test.YtlmenhjlgmejkaaGreatDoorSn28
import Derived.Test.YtlmenhjlgmejkaaGreatDoorSn29
set_option linter.all false
namespace Go.Proofs.YtlmenhjlgmejkaaGreatDoor
open Go.RowKit
theorem appSS : AppInfo Tryz.prog 102 31 1 := AppInfo.mk' (z := .slice none 0 0) (bytes := 24) Tryz.underlying102 (by kernel_rfl) (by decide) rfl (by decide)
def finL (d : DNet) (p : Sp) (i : Nat) : List Bool := (List.range p.states.length).map fun j => decide (j < i) && finalM d ((p.states[j]?).getD noSt).marks
section
variable {d : DNet} {p : Sp} {i j : Nat} {s : St} {c : List Bool}
theorem finL_len (d : DNet) (p : Sp) (i : Nat) : (finL d p i).length = p.states.length := by unfold finL; simp
theorem finL_get (h : j < p.states.length) : (finL d p i)[j]? = some (decide (j < i) && finalM d ((p.states[j]?).getD noSt).marks) := by unfold finL; simp [h]
theorem finL_zero : finL d p 0 = List.replicate p.states.length false := by
 refine List.ext_getElem? fun t => ?_
 rcases Nat.lt_or_ge t p.states.length with ht | ht
 ·rw [finL_get ht]
  simp [ht]
 ·rw [List.getElem?_eq_none (by rw [finL_len]; exact ht), List.getElem?_eq_none (by simpa using ht)]
theorem finL_set (h : p.states[i]? = some s) : finL d p (i + 1) = (finL d p i).set i (finalM d s.marks) := by
 have hi := lt_of_get h
 refine List.ext_getElem? fun t => ?_
 rcases Nat.lt_or_ge t p.states.length with ht | ht
 ·rw [finL_get ht]
  by_cases e : i = t
  ·subst e
   rw [List.getElem?_set_self (by rw [finL_len]; exact hi), h]
   simp
  ·rw [List.getElem?_set_ne e, finL_get ht]
   have : decide (t < i + 1) = decide (t < i) := by rw [decide_eq_decide]; omega
   rw [this]
 ·rw [List.getElem?_eq_none (by rw [finL_len]; exact ht), List.getElem?_eq_none (by rw [List.length_set, finL_len]; exact ht)]
structure Good (d : DNet) (p : Sp) (c : List Bool) : Prop where
 len : c.length = p.states.length
 snd : ∀ i, c.getD i false = true → CanF d p i
 fin : ∀ (j : Nat) (s : St), p.states[j]? = some s → finalM d s.marks = true → c.getD j false = true
theorem Good.start : Good d p (finL d p p.states.length) := by
 refine ⟨finL_len _ _ _, fun i hi => ?_, fun j s hs hf => ?_⟩
 ·rw [List.getD_eq_getElem?_getD] at hi
  rcases Nat.lt_or_ge i p.states.length with ht | ht
  ·rw [finL_get ht] at hi
   simp only [Option.getD_some, Bool.and_eq_true] at hi
   rw [List.getElem?_eq_getElem ht] at hi
   exact .here ⟨_, List.getElem?_eq_getElem ht, hi.2⟩
  ·rw [List.getElem?_eq_none (by rw [finL_len]; exact ht)] at hi; cases hi
 ·have ht := lt_of_get hs
  rw [List.getD_eq_getElem?_getD, finL_get ht, hs]
  simp [hf, ht]
theorem getD_set {i j : Nat} (h : (c.set i true).getD j false = true) : c.getD j false = true ∨ j = i := by
 by_cases e : i = j
 ·exact .inr e.symm
 ·rw [List.getD_eq_getElem?_getD, List.getElem?_set_ne e, ← List.getD_eq_getElem?_getD] at h
  exact .inl h
theorem getD_mono {i j : Nat} (h : c.getD j false = true) : (c.set i true).getD j false = true := by
 have hj : j < c.length := by
  rcases Nat.lt_or_ge j c.length with h' | h'
  ·exact h'
  ·rw [List.getD_eq_getElem?_getD, List.getElem?_eq_none h'] at h; cases h
 by_cases e : i = j
 ·subst e
  rw [List.getD_eq_getElem?_getD, List.getElem?_set_self hj]; rfl
 ·rw [List.getD_eq_getElem?_getD, List.getElem?_set_ne e, ← List.getD_eq_getElem?_getD]; exact h
theorem Good.set {m : Mv} (h : Good d p c) (hm : m ∈ p.moves) (hc : c.getD m.dst false = true) : Good d p (c.set m.src true) := by
 refine ⟨by simpa using h.len, fun i hi => ?_, fun j s hs hf => getD_mono (h.fin j s hs hf)⟩
 rcases getD_set hi with hi | rfl
 ·exact h.snd i hi
 ·exact CanR.go hm (h.snd _ hc)
theorem Good.done (h : Good d p c) (hcl : ∀ m ∈ p.moves, c.getD m.dst false = true → c.getD m.src false = true) (hin : ∀ m ∈ p.moves, m.src < p.states.length) (i : Nat) : c.getD i false = (goodL d p).getD i false := by
 rw [Bool.eq_iff_iff, good_iff hin]
 refine ⟨h.snd i, fun hc => ?_⟩
 unfold CanF at hc
 induction hc with
 | here hf => obtain ⟨s, h1, h2⟩ := hf; exact h.fin _ s h1 h2
 | go hm _ ih => exact hcl _ hm ih
end
set_option maxHeartbeats 64000000 in
set_option maxRecDepth 100000 in
theorem sound30_ref (n : Nat) (d : DNet) (most : Int) (u : Value) (w : World) (h : IsDn n (Lt w.heap.size) w u d) :
  Calls Tryz.prog 35 #[u, .int .i64 most] w (RetBIE (dsoundE d most) w) := by
 have h0 := h
 obtain ⟨At, ct, Ax, cx, iv, Ag, cg, Aw, cw, rfl, dn1, dn2, dn3, dn4, dn5, ⟨t1, t2⟩, ⟨x1, x2⟩, ⟨g1, g2⟩, v1, v2⟩ := h.open_
 clear h dn1 dn2 dn3 dn4 dn5
 have hb := bone w (.cells #[.int .i64 d.net.places, .slice At d.net.trans.length ct, .int .i64 d.net.source, .int .i64 d.net.sink, .slice Ax d.vars.length cx, iv, .slice Ag d.guards.length cg, .slice Aw d.writes.length cw] 30)
 have hB := Blk.new w 30 #[.int .i64 d.net.places, .slice At d.net.trans.length ct, .int .i64 d.net.source, .int .i64 d.net.sink, .slice Ax d.vars.length cx, iv, .slice Ag d.guards.length cg, .slice Aw d.writes.length cw]
 have hd1 := h0.now hb
 have HI := Lib.hid (whole30_ref n d most _ _ hd1)
 go_enter Tryz.func35, Tryz.ntmps35
 go_upto_region 1 with fail
 generalize hw1e : w.alloc (.cells #[.int .i64 d.net.places, .slice At d.net.trans.length ct, .int .i64 d.net.source, .int .i64 d.net.sink, .slice Ax d.vars.length cx, iv, .slice Ag d.guards.length cg, .slice Aw d.writes.length cw] 30) = w1 at *
 clear hw1e
 obtain ⟨q0, q1, q2, q3, q4, q5, q6, q7⟩ := hB.c8
 go_wp2_with fail
 refine HI.out.mono ?_
 rintro e w2 ⟨As, ns, cs, Am, nm, cm, rfl, hl, hb2⟩
 clear HI q0 q1 q2 q3 q4 q5 q6 q7
 have hbw2 := bthen hb hb2
 have hB2 := hB.now hb2
 have hd2 := hd1.now hb2
 by_cases hc : (dwholeE d most).2 = 0
 rotate_left
 ·have HR := Lib.hid (dsound_err hc)
  have bc : ((dwholeE d most).2 != 0) = true := by simpa using hc
  generalize dwholeE d most = q at *
  obtain ⟨qp, qc⟩ := q
  dsimp only at *
  clear hc
  go_wp2_with fail
  go_ret3
  rw [HR.out]
  exact ⟨_, rfl, Sl.none_, hbw2⟩
 have HY := Lib.hid (dsound_yes hc)
 have HN := Lib.hid (fun k => dsound_no (k := k) hc)
 obtain ⟨mo, hmo, hinv, hdv, -, hex, hvst, -, -⟩ := whole_inv hc
 have HINV := Lib.hid hinv
 have HDV := Lib.hid hdv
 have HORD := Lib.hid (exFrom_ord hex)
 obtain ⟨h1, h2⟩ := hl hc
 have bc : ((dwholeE d most).2 != 0) = false := by simp [hc]
 rw [hc] at bc ⊢
 have HR1 := Lib.hid hl
 clear hl bc
 generalize (dwholeE d most).1 = p at *
 obtain ⟨As', cs', es, sc1, sc2, h1⟩ := Sl.open_ h1
 injection es with e1 e2 e3
 subst e1 e2 e3
 obtain ⟨Am', cm', em, mc1, mc2, h2⟩ := h2.open_
 injection em with e1 e2 e3
 subst e1 e2 e3
 have h1 : SlSt (Lt w2.heap.size) w2 (.slice As p.states.length cs) p.states := h1
 have hn0 : p.states.length ≤ 2000 := by have := hinv.le; omega
 have hn1 : 1 ≤ p.states.length := lt_of_get hinv.head
 have hm0 : p.moves.length ≤ 20000 := hinv.mvl
 have HMV : Hid (∀ m ∈ p.moves, m.src < p.states.length ∧ m.dst < p.states.length) := fun m hm => by
  obtain ⟨s, s', a, b, _⟩ := hinv.mv m hm
  exact ⟨lt_of_get a, lt_of_get b⟩
 clear hc hinv hdv hvst hb hB hd1 hb2 HR1 hex
 have hmk := run_make_n (P := Tryz.prog) 132 4 (.bool false) 1 Tryz.underlying132 boolInfo p.states.length (by omega) (by omega) rfl
 go_upto_region 5 with fail
 have ho3 := OwnF.made (f := Value.bool) w2 4 p.states.length false (by unfold maxLen; omega)
 have hb3 := bone w2 (.cells (madeCells #[.bool false] p.states.length) 4)
 rw [← finL_zero (d := d)] at ho3
 generalize hw3 : w2.alloc (.cells (madeCells #[.bool false] p.states.length) 4) = w3 at *
 clear hw3 hmk
 go_wp2_with fail
 go_loopw [11] (fun iv wr => ∃ i : Nat, i ≤ p.states.length ∧ iv = .int .i64 i ∧ OwnF Value.bool wr w2.heap.size 4 w2.heap.size p.states.length (finL d p i) ∧ Below w2.heap.size w2 wr) (fun iv _ => p.states.length - (intOf iv).toNat)
 case atStart => exact ⟨0, Nat.zero_le _, rfl, ho3, hb3⟩
 case round =>
  obtain ⟨i, hi, rfl, ho, hbr⟩ := hrel
  clear ho3 hb3
  have hszr := hbr.size
  by_cases hlt : i < p.states.length
  ·obtain ⟨bs, os, s, mvv, vvv, rfl, hDs, hx, hsm, hsv, c0, c1⟩ := h1.at_ hlt
   obtain ⟨As2, cs2, rfl, _, _, hsm⟩ := hsm.open_
   obtain ⟨Av2, cv2, rfl, _, _, hsv⟩ := hsv.open_
   have HF := Lib.hid (finL_set (d := d) hx)
   have hfl := finL_len d p i
   have HFL := Lib.hid (finL_get (d := d) (i := i) hlt)
   have HCF : Hid (∀ W, Below wr.heap.size wr W → Calls Tryz.prog 46 #[.agg #[.int .i64 d.net.places, .slice At d.net.trans.length ct, .int .i64 d.net.source, .int .i64 d.net.sink, .slice Ax d.vars.length cx, iv, .slice Ag d.guards.length cg, .slice Aw d.writes.length cw], .agg #[.slice As2 s.marks.length cs2, .slice Av2 s.vals.length cv2]] W fun e w' => e = .returned (.bool (finalM d s.marks)) ∧ Below wr.heap.size wr w') := fun W hW => by
    have hW2 : Below w2.heap.size w2 W := hbr.trans (hW.mono hszr)
    exact (final_ref n d s _ _ W (hd2.now hW2) ⟨_, _, rfl, hsm.now hW2, hsv.now hW2⟩ (dvalid_parts HDV.out).1).mono fun e w' ⟨he, hb⟩ => ⟨he, bthen hW hb⟩
   have HS : Hid (∀ W, Below w2.heap.size w2 W → W.cell? ⟨w.heap.size, 0, none⟩ = some (.int .i64 d.net.places) ∧ W.cell? ⟨w.heap.size, 1, none⟩ = some (.slice At d.net.trans.length ct) ∧ W.cell? ⟨w.heap.size, 2, none⟩ = some (.int .i64 d.net.source) ∧ W.cell? ⟨w.heap.size, 3, none⟩ = some (.int .i64 d.net.sink) ∧ W.cell? ⟨w.heap.size, 4, none⟩ = some (.slice Ax d.vars.length cx) ∧ W.cell? ⟨w.heap.size, 5, none⟩ = some (iv) ∧ W.cell? ⟨w.heap.size, 6, none⟩ = some (.slice Ag d.guards.length cg) ∧ W.cell? ⟨w.heap.size, 7, none⟩ = some (.slice Aw d.writes.length cw) ∧ W.cell? ⟨bs, os + i * 2, none⟩ = some (.slice As2 s.marks.length cs2) ∧ W.cell? ⟨bs, os + i * 2 + 1, none⟩ = some (.slice Av2 s.vals.length cv2)) := fun W hW => ⟨(hB2.now hW).c8.1, (hB2.now hW).c8.2.1, (hB2.now hW).c8.2.2.1, (hB2.now hW).c8.2.2.2.1, (hB2.now hW).c8.2.2.2.2.1, (hB2.now hW).c8.2.2.2.2.2.1, (hB2.now hW).c8.2.2.2.2.2.2.1, (hB2.now hW).c8.2.2.2.2.2.2.2, (hW.cell (p := ⟨bs, _, none⟩) hDs).trans c0, (hW.cell (p := ⟨bs, _, none⟩) hDs).trans c1⟩
   have i1 : (0 : Int) ≤ (i : Int) := by omega
   have i2 : (i : Int) < (p.states.length : Int) := by omega
   clear hx hsm hsv c0 c1 HFL
   generalize finalM d s.marks = fm at *
   go_upto_region 8 with fail
   have hbd : Below w2.heap.size w2 wr.drew := hbr.drew
   have hbe : Below wr.heap.size wr wr.drew := (Below.refl _ _).drew
   obtain ⟨a0, a1, a2, a3, a4, a5, a6, a7, d0, d1⟩ := HS.out _ hbd
   go_region_held3 (fun W => W.cell? ⟨w.heap.size, 0, none⟩ = some (.int .i64 d.net.places) ∧ W.cell? ⟨w.heap.size, 1, none⟩ = some (.slice At d.net.trans.length ct) ∧ W.cell? ⟨w.heap.size, 2, none⟩ = some (.int .i64 d.net.source) ∧ W.cell? ⟨w.heap.size, 3, none⟩ = some (.int .i64 d.net.sink) ∧ W.cell? ⟨w.heap.size, 4, none⟩ = some (.slice Ax d.vars.length cx) ∧ W.cell? ⟨w.heap.size, 5, none⟩ = some (iv) ∧ W.cell? ⟨w.heap.size, 6, none⟩ = some (.slice Ag d.guards.length cg) ∧ W.cell? ⟨w.heap.size, 7, none⟩ = some (.slice Aw d.writes.length cw) ∧ W.cell? ⟨bs, os + i * 2, none⟩ = some (.slice As2 s.marks.length cs2) ∧ W.cell? ⟨bs, os + i * 2 + 1, none⟩ = some (.slice Av2 s.vals.length cv2)) (first | exact HS.out _ (by assumption) | exact HS.out _ (hbr.trans (Below.mono (by assumption) hszr)) | exact HS.out _ (Below.setCell (p := ⟨w2.heap.size, _, none⟩) (hbr.trans (Below.mono (by assumption) hszr)) (Nat.le_refl _) _))
    (first | (go_at_call 46; (with_reducible refine (HCF.out _ (by assumption)).mono ?_); rintro e wt ⟨rfl, hbt⟩; have hot := ho.now hbt; have e1 := hot.cell (k := i) (x := (finL d p i)[i]'(by omega)) (List.getElem?_eq_getElem _); have e1f := hot.frozen i))
   all_goals
    have ho5 := OwnF.set_ hot i fm
    have hb5 : Below w2.heap.size w2 (wt.setCell ⟨w2.heap.size, i, none⟩ (.bool fm)) := Below.setCell (p := ⟨w2.heap.size, i, none⟩) (hbr.trans (hbt.mono hszr)) (Nat.le_refl _) _
    clear HCF HS e1 e1f
    go_wp2_with fail
    go_roundw
    case rel => exact ⟨i + 1, by omega, by go_num, by rw [HF.out]; exact ho5, hb5⟩
    case measure => simp [intOf]; omega
  ·obtain rfl : i = p.states.length := by omega
   have HG0 := Lib.hid (Good.start (d := d) (p := p))
   generalize hc0 : finL d p p.states.length = c0 at *
   clear hc0 hlt hi
   have hg0 := HG0.out
   have hf0 : falses c0 ≤ p.states.length := by
    unfold falses
    have := List.length_filter_le (fun b => !b) c0
    have := hg0.len
    omega
   clear HG0
   go_wp2_with fail
   clear hszr
   go_loopg [] (p.states.length) (fun gg wr => ∃ c : List Bool, falses c ≤ gg ∧ Good d p c ∧ OwnF Value.bool wr w2.heap.size 4 w2.heap.size p.states.length c ∧ Below w2.heap.size w2 wr)
   case atStart => exact ⟨c0, hf0, hg0, ho, hbr⟩
   case round =>
    obtain ⟨c, hcg, hgd, ho, hbr⟩ := hrel
    clear hf0 hg0
    have HGD := Lib.hid hgd
    clear hgd
    go_wp2_with fail
    have ho0 := ho
    have hbr0 := hbr
    clear ho hbr
    go_loopw [12, 13] (fun mv iv wr => ∃ (k : Nat) (more : Bool) (c' : List Bool), mv = .bool more ∧ iv = .int .i64 k ∧ k ≤ p.moves.length ∧ Good d p c' ∧ (more = false → c' = c ∧ ∀ (j : Nat) (m : Mv), j < k → p.moves[j]? = some m → c.getD m.dst false = true → c.getD m.src false = true) ∧ (more = true → falses c' < falses c) ∧ falses c' ≤ falses c ∧ OwnF Value.bool wr w2.heap.size 4 w2.heap.size p.states.length c' ∧ Below w2.heap.size w2 wr) (fun _ iv _ => p.moves.length - (intOf iv).toNat)
    case atStart => exact ⟨0, false, c, rfl, rfl, Nat.zero_le _, HGD.out, fun _ => ⟨rfl, fun j m hj => absurd hj (by omega)⟩, fun h => (by cases h), Nat.le_refl _, ho0, hbr0⟩
    case round =>
     obtain ⟨k, more, c', rfl, rfl, hk, hg', hno, hyes, hfl, ho, hbr⟩ := hrel
     have HG := Lib.hid hg'
     have HNO := Lib.hid hno
     have HYES := Lib.hid hyes
     have hcl := hg'.len
     clear hg' hno hyes ho0 hbr0
     by_cases hlt : k < p.moves.length
     ·obtain ⟨b, o, m, rfl, hD, hx, _, e0, e1, e2⟩ := (h2.now hbr).at_ hlt
      obtain ⟨ms, md⟩ := HMV.out m (List.mem_of_getElem? hx)
      have HX := Lib.hid hx
      have hxd := List.getElem?_eq_getElem (l := c') (i := m.dst) (by omega)
      have hxs := List.getElem?_eq_getElem (l := c') (i := m.src) (by omega)
      generalize c'[m.dst]'(by omega) = vd at hxd
      generalize c'[m.src]'(by omega) = vs at hxs
      have hgdd : c'.getD m.dst false = vd := by rw [List.getD_eq_getElem?_getD, hxd]; rfl
      have hgds : c'.getD m.src false = vs := by rw [List.getD_eq_getElem?_getD, hxs]; rfl
      have f0 := ho.cell hxd
      have f1 := ho.cell hxs
      have f1f := ho.frozen m.src
      have HVD := Lib.hid hgdd
      have HVS := Lib.hid hgds
      have i1 : (k : Int) < (p.moves.length : Int) := by omega
      have i2 : (0 : Int) ≤ (m.dst : Int) := by omega
      have i3 : (m.dst : Int) < (p.states.length : Int) := by omega
      have i4 : (0 : Int) ≤ (m.src : Int) := by omega
      have i5 : (m.src : Int) < (p.states.length : Int) := by omega
      clear hx hxd hxs hgdd hgds hD
      by_cases hch : vd = true ∧ vs = false
      ·obtain ⟨rfl, rfl⟩ := hch
       have ho5 := ho.set_ m.src true
       have hbr5 := Below.setCell (p := ⟨w2.heap.size, m.src, none⟩) hbr (Nat.le_refl _) (.bool true)
       have hfs := falses_set c' m.src (by omega) HVS.out
       go_wp2_with fail
       go_roundw
       case rel => exact ⟨k + 1, true, _, rfl, by go_num, by omega, HG.out.set (List.mem_of_getElem? HX.out) HVD.out, fun h => (by cases h), fun _ => by omega, by omega, ho5, hbr5⟩
       case measure => simp [intOf]; omega
      ·have hcl2 : vd = true → vs = true := fun h1 => by
        cases vs
        ·exact absurd ⟨h1, rfl⟩ hch
        ·rfl
       have HC2 := Lib.hid hcl2
       clear hch hcl2
       have HN2 : Hid (more = false → c' = c ∧ ∀ (j : Nat) (m : Mv), j < k + 1 → p.moves[j]? = some m → c.getD m.dst false = true → c.getD m.src false = true) := fun hm => by
        obtain ⟨rfl, h3⟩ := HNO.out hm
        refine ⟨rfl, fun j m' hj hm' hd => ?_⟩
        by_cases e : j = k
        ·subst e
         rw [HX.out] at hm'
         injection hm' with hm'
         subst hm'
         rw [HVS.out]
         rw [HVD.out] at hd
         exact HC2.out hd
        ·exact h3 j m' (by omega) hm' hd
       cases vd with
       | false =>
        go_wp2_with fail
        go_roundw
        case rel => exact ⟨k + 1, more, c', rfl, by go_num, by omega, HG.out, HN2.out, HYES.out, hfl, ho, hbr⟩
        case measure => simp [intOf]; omega
       | true =>
        obtain rfl : vs = true := HC2.out rfl
        go_wp2_with fail
        go_roundw
        case rel => exact ⟨k + 1, more, c', rfl, by go_num, by omega, HG.out, HN2.out, HYES.out, hfl, ho, hbr⟩
        case measure => simp [intOf]; omega
     ·obtain rfl : k = p.moves.length := by omega
      cases more with
      | true =>
       have hfy := HYES.out rfl
       go_wp2_with fail
       go_roundg (falses c')
       case measure => omega
       case rel => exact ⟨c', Nat.le_refl _, HG.out, ho, hbr⟩
      | false =>
       obtain ⟨rfl, hcl3⟩ := HNO.out rfl
       have HDN := Lib.hid (Good.done HG.out (fun m hm hd => by
        obtain ⟨j, hj⟩ := List.mem_iff_getElem?.1 hm
        exact hcl3 j m (lt_of_get hj) hj hd) (fun m hm => (HMV.out m hm).1))
       clear hcl3 HNO HYES
       go_wp2_with fail
       clear hcg hfl hcl hk hlt
       have ho5 := ho
       have hbr5 := hbr
       clear ho hbr
       obtain ⟨w5, hw5⟩ : ∃ z, z = wr := ⟨_, rfl⟩
       subst hw5
       have hsz5 := hbr5.size
       have hcl := HG.out.len
       go_loopw [14] (fun iv wr => ∃ i : Nat, i ≤ p.states.length ∧ iv = .int .i64 i ∧ (∀ q, q < i → badAt d p q = false) ∧ Below w5.heap.size w5 wr) (fun iv _ => p.states.length - (intOf iv).toNat)
       case atStart => exact ⟨0, Nat.zero_le _, rfl, fun q hq => absurd hq (by omega), Below.refl _ _⟩
       case round =>
        obtain ⟨i, hi, rfl, hall, hbr⟩ := hrel
        have HALL := Lib.hid hall
        clear hall
        have hbr2 := hbr5.trans (hbr.mono hsz5)
        by_cases hlt : i < p.states.length
        rotate_left
        ·obtain rfl : i = p.states.length := by omega
         have HE := Lib.hid (HY.out (first_none HALL.out))
         go_wp2_with fail
         go_ret3
         rw [HE.out]
         exact ⟨_, rfl, Sl.none_, bthen hbw2 hbr2⟩
        obtain ⟨bs, os, s, mvv, vvv, rfl, hDs, hx, hsm, hsv, c0, c1⟩ := h1.at_ hlt
        have hst := HINV.out.ok s (List.mem_of_getElem? hx)
        have hba := bad_at (n := d) hx
        obtain ⟨hnv, hmk, _⟩ := state_parts hst
        obtain ⟨_, sk1, sk2⟩ := insideOk hnv
        obtain ⟨hml, hmw⟩ := markOk (n := d.net) hmk
        obtain ⟨As2, cs2, rfl, _, _, hsm⟩ := hsm.open_
        obtain ⟨Av2, cv2, rfl, _, _, hsv⟩ := hsv.open_
        obtain ⟨sk, hsk⟩ := Int.eq_ofNat_of_zero_le sk1
        have hskl : sk < s.marks.length := by omega
        have hsmm := hsm
        obtain ⟨bk, ok, z, rfl, hDk, hz, hfz, cz⟩ := hsm.at_ hskl
        have hz0 := (hmw z (List.mem_of_getElem? hz)).1
        have hxc := List.getElem?_eq_getElem (l := c') (i := i) (by omega)
        generalize c'[i]'(by omega) = bv at hxc
        have hgdv : c'.getD i false = bv := by rw [List.getD_eq_getElem?_getD, hxc]; rfl
        rw [← HDN.out i, hgdv] at hba
        have hbad : badAt d p i = !(bv && (finalM d s.marks || decide (z = 0))) := by
         rw [hba]
         unfold badS
         rw [hsk, Int.toNat_natCast, List.getD_eq_getElem?_getD, hz, Option.getD_some]
         have : decide (0 < z) = !decide (z = 0) := by
          rw [← decide_not, decide_eq_decide]; omega
         rw [this]
         cases bv <;> cases finalM d s.marks <;> cases decide (z = 0) <;> rfl
        have HBAD := Lib.hid hbad
        have hof := ho5.now hbr
        have HS : Hid (∀ W, Below wr.heap.size wr W → W.cell? ⟨w.heap.size, 0, none⟩ = some (.int .i64 d.net.places) ∧ W.cell? ⟨w.heap.size, 1, none⟩ = some (.slice At d.net.trans.length ct) ∧ W.cell? ⟨w.heap.size, 2, none⟩ = some (.int .i64 d.net.source) ∧ W.cell? ⟨w.heap.size, 3, none⟩ = some (.int .i64 (sk : Int)) ∧ W.cell? ⟨w.heap.size, 4, none⟩ = some (.slice Ax d.vars.length cx) ∧ W.cell? ⟨w.heap.size, 5, none⟩ = some (iv) ∧ W.cell? ⟨w.heap.size, 6, none⟩ = some (.slice Ag d.guards.length cg) ∧ W.cell? ⟨w.heap.size, 7, none⟩ = some (.slice Aw d.writes.length cw) ∧ W.cell? ⟨bs, os + i * 2, none⟩ = some (.slice (some ⟨bk, ok, none⟩) s.marks.length cs2) ∧ W.cell? ⟨bs, os + i * 2 + 1, none⟩ = some (.slice Av2 s.vals.length cv2) ∧ W.cell? ⟨bk, ok + sk, none⟩ = some (.int .i64 z) ∧ W.cell? ⟨w2.heap.size, i, none⟩ = some (.bool bv)) := fun W hW => by
         have hW2 : Below w2.heap.size w2 W := hbr2.trans (hW.mono hbr2.size)
         have hq := (hB2.now hW2).c8
         exact ⟨hq.1, hq.2.1, hq.2.2.1, by rw [hq.2.2.2.1, hsk], hq.2.2.2.2.1, hq.2.2.2.2.2.1, hq.2.2.2.2.2.2.1, hq.2.2.2.2.2.2.2, (hW2.cell (p := ⟨bs, _, none⟩) hDs).trans c0, (hW2.cell (p := ⟨bs, _, none⟩) hDs).trans c1, (hW2.cell (p := ⟨bk, _, none⟩) hDk).trans cz, (hof.now hW).cell hxc⟩
        have HCF : Hid (∀ W, Below wr.heap.size wr W → Calls Tryz.prog 46 #[.agg #[.int .i64 d.net.places, .slice At d.net.trans.length ct, .int .i64 d.net.source, .int .i64 (sk : Int), .slice Ax d.vars.length cx, iv, .slice Ag d.guards.length cg, .slice Aw d.writes.length cw], .agg #[.slice (some ⟨bk, ok, none⟩) s.marks.length cs2, .slice Av2 s.vals.length cv2]] W fun e w' => e = .returned (.bool (finalM d s.marks)) ∧ Below wr.heap.size wr w') := fun W hW => by
         have hW2 : Below w2.heap.size w2 W := hbr2.trans (hW.mono hbr2.size)
         have hf := final_ref n d s _ _ W (hd2.now hW2) ⟨_, _, rfl, hsmm.now hW2, hsv.now hW2⟩ hnv
         rw [hsk] at hf
         exact hf.mono fun e w' ⟨he, hb⟩ => ⟨he, bthen hW hb⟩
        have i1 : (0 : Int) ≤ (i : Int) := by omega
        have i2 : (i : Int) < (p.states.length : Int) := by omega
        have i3 : (0 : Int) ≤ (sk : Int) := by omega
        have i4 : (sk : Int) < (s.marks.length : Int) := by omega
        clear hst hba hnv hmk sk1 sk2 hml hmw hsk hsm hsmm hsv hDk hz hfz cz hgdv hbad c0 c1 hx hDs hxc hskl
        go_upto_region 20 with fail
        have hbd : Below wr.heap.size wr wr.drew := (Below.refl _ _).drew
        have HQ : Hid (∃ q : Bool, q = (bv && (finalM d s.marks || decide (z = 0)))) := ⟨_, rfl⟩
        obtain ⟨q, hq0⟩ := HQ.out
        have HQ := Lib.hid hq0
        clear hq0
        generalize finalM d s.marks = fm at *
        go_cut [111] (fun s111 W => s111 = .bool q ∧ Below wr.heap.size wr W)
        case first =>
         cases bv with
         | false =>
          obtain rfl : q = false := HQ.out
          obtain ⟨a0, a1, a2, a3, a4, a5, a6, a7, d0, d1, d2, d3⟩ := HS.out _ (Below.refl _ _)
          clear HQ HBAD
          go_quiet (fail)
          go_wp2_with fail
          go_meet
          exact ⟨rfl, bdrawn (Below.refl _ _) _⟩
         | true =>
         cases fm with
         | true =>
          obtain rfl : q = true := by rw [HQ.out]; rfl
          clear HQ HBAD
          refine wp_region_held_drew (S := fun W => W.cell? ⟨w.heap.size, 0, none⟩ = some (.int .i64 d.net.places) ∧ W.cell? ⟨w.heap.size, 1, none⟩ = some (.slice At d.net.trans.length ct) ∧ W.cell? ⟨w.heap.size, 2, none⟩ = some (.int .i64 d.net.source) ∧ W.cell? ⟨w.heap.size, 3, none⟩ = some (.int .i64 (sk : Int)) ∧ W.cell? ⟨w.heap.size, 4, none⟩ = some (.slice Ax d.vars.length cx) ∧ W.cell? ⟨w.heap.size, 5, none⟩ = some (iv) ∧ W.cell? ⟨w.heap.size, 6, none⟩ = some (.slice Ag d.guards.length cg) ∧ W.cell? ⟨w.heap.size, 7, none⟩ = some (.slice Aw d.writes.length cw) ∧ W.cell? ⟨bs, os + i * 2, none⟩ = some (.slice (some ⟨bk, ok, none⟩) s.marks.length cs2) ∧ W.cell? ⟨bs, os + i * 2 + 1, none⟩ = some (.slice Av2 s.vals.length cv2) ∧ W.cell? ⟨bk, ok + sk, none⟩ = some (.int .i64 z) ∧ W.cell? ⟨w2.heap.size, i, none⟩ = some (.bool true)) (by kernel_rfl) (HS.out _ hbd) (fun hHeld => ?_)
          refine takeG (v := ?vm0) 0 rfl (by kernel_rfl) (by kernel_rfl) (by kernel_rfl) (fun _ _ _ h => h) (by rfl) ?hym0 hHeld ?restm0
          case hym0 => (intro W hW; obtain ⟨k0, k1, k2, k3, k4, k5, k6, k7, k8, k9, k10, k11⟩ := hW; go_simp <;> rfl)
          simp only [Act.put, List.setIfInBounds_toArray, List.set_cons_zero, List.set_cons_succ]
          refine takeG (v := ?vm1) 1 rfl (by kernel_rfl) (by kernel_rfl) (by kernel_rfl) (fun _ _ _ h => h) (by rfl) ?hym1 hHeld ?restm1
          case hym1 => (intro W hW; obtain ⟨k0, k1, k2, k3, k4, k5, k6, k7, k8, k9, k10, k11⟩ := hW; go_simp <;> rfl)
          simp only [Act.put, List.setIfInBounds_toArray, List.set_cons_zero, List.set_cons_succ]
          refine takeG (v := ?vm2) 2 rfl (by kernel_rfl) (by kernel_rfl) (by kernel_rfl) (fun _ _ _ h => h) (by rfl) ?hym2 hHeld ?restm2
          case hym2 => (intro W hW; obtain ⟨k0, k1, k2, k3, k4, k5, k6, k7, k8, k9, k10, k11⟩ := hW; go_simp <;> rfl)
          simp only [Act.put, List.setIfInBounds_toArray, List.set_cons_zero, List.set_cons_succ]
          refine takeG (v := ?vm3) 3 rfl (by kernel_rfl) (by kernel_rfl) (by kernel_rfl) (fun _ _ _ h => h) (by rfl) ?hym3 hHeld ?restm3
          case hym3 => (intro W hW; obtain ⟨k0, k1, k2, k3, k4, k5, k6, k7, k8, k9, k10, k11⟩ := hW; go_simp <;> rfl)
          simp only [Act.put, List.setIfInBounds_toArray, List.set_cons_zero, List.set_cons_succ]
          refine takeG (v := .bool true) 4 rfl (by kernel_rfl) (by kernel_rfl) (by kernel_rfl) (fun _ _ _ h => h) (by rfl) ?hym4 hHeld ?restm4
          case hym4 => (intro W hW; obtain ⟨k0, k1, k2, k3, k4, k5, k6, k7, k8, k9, k10, k11⟩ := hW; go_simp <;> rfl)
          simp only [Act.put, List.setIfInBounds_toArray, List.set_cons_zero, List.set_cons_succ]
          refine takeG (v := ?vm5) 5 rfl (by kernel_rfl) (by kernel_rfl) (by kernel_rfl) (fun _ _ _ h => h) (by rfl) ?hym5 hHeld ?restm5
          case hym5 => (intro W hW; obtain ⟨k0, k1, k2, k3, k4, k5, k6, k7, k8, k9, k10, k11⟩ := hW; go_simp <;> rfl)
          simp only [Act.put, List.setIfInBounds_toArray, List.set_cons_zero, List.set_cons_succ]
          refine takeG (v := ?vm6) 6 rfl (by kernel_rfl) (by kernel_rfl) (by kernel_rfl) (fun _ _ _ h => h) (by rfl) ?hym6 hHeld ?restm6
          case hym6 => (intro W hW; obtain ⟨k0, k1, k2, k3, k4, k5, k6, k7, k8, k9, k10, k11⟩ := hW; go_simp <;> rfl)
          simp only [Act.put, List.setIfInBounds_toArray, List.set_cons_zero, List.set_cons_succ]
          refine takeG (v := ?vm7) 7 rfl (by kernel_rfl) (by kernel_rfl) (by kernel_rfl) (fun _ _ _ h => h) (by rfl) ?hym7 hHeld ?restm7
          case hym7 => (intro W hW; obtain ⟨k0, k1, k2, k3, k4, k5, k6, k7, k8, k9, k10, k11⟩ := hW; go_simp <;> rfl)
          simp only [Act.put, List.setIfInBounds_toArray, List.set_cons_zero, List.set_cons_succ]
          refine takeG (v := ?vm8) 8 rfl (by kernel_rfl) (by kernel_rfl) (by kernel_rfl) (fun _ _ _ h => h) (by rfl) ?hym8 hHeld ?restm8
          case hym8 => (intro W hW; obtain ⟨k0, k1, k2, k3, k4, k5, k6, k7, k8, k9, k10, k11⟩ := hW; go_simp <;> rfl)
          simp only [Act.put, List.setIfInBounds_toArray, List.set_cons_zero, List.set_cons_succ]
          refine takeG (v := ?vm9) 9 rfl (by kernel_rfl) (by kernel_rfl) (by kernel_rfl) (fun _ _ _ h => h) (by rfl) ?hym9 hHeld ?restm9
          case hym9 => (intro W hW; obtain ⟨k0, k1, k2, k3, k4, k5, k6, k7, k8, k9, k10, k11⟩ := hW; go_simp <;> rfl)
          simp only [Act.put, List.setIfInBounds_toArray, List.set_cons_zero, List.set_cons_succ]
          refine onlyG 10 rfl (by rfl) (by kernel_rfl) (fun K hK => ?_)
          go_simp
          refine (HCF.out _ hbd).mono ?_
          rintro e w11 ⟨rfl, hb11⟩
          refine hK _ _ (HS.out _ hb11) (fun hHeld => ?_)
          clear hK K
          refine takeG (v := .bool true) 11 rfl (by kernel_rfl) (by kernel_rfl) (by kernel_rfl) (fun _ _ _ h => h) (by rfl) ?hym11 hHeld ?restm11
          case hym11 => (intro W hW; obtain ⟨k0, k1, k2, k3, k4, k5, k6, k7, k8, k9, k10, k11⟩ := hW; go_simp <;> rfl)
          simp only [Act.put, List.setIfInBounds_toArray, List.set_cons_zero, List.set_cons_succ]
          refine skipG 12 rfl (by kernel_rfl) (by kernel_rfl) (by kernel_rfl) (fun _ _ _ h => h) (by rfl) hHeld ?_
          simp only [Act.put, List.setIfInBounds_toArray, List.set_cons_zero, List.set_cons_succ]
          refine skipG 13 rfl (by kernel_rfl) (by kernel_rfl) (by kernel_rfl) (fun _ _ _ h => h) (by rfl) hHeld ?_
          simp only [Act.put, List.setIfInBounds_toArray, List.set_cons_zero, List.set_cons_succ]
          refine skipG 14 rfl (by kernel_rfl) (by kernel_rfl) (by kernel_rfl) (fun _ _ _ h => h) (by rfl) hHeld ?_
          simp only [Act.put, List.setIfInBounds_toArray, List.set_cons_zero, List.set_cons_succ]
          refine skipG 15 rfl (by kernel_rfl) (by kernel_rfl) (by kernel_rfl) (fun _ _ _ h => h) (by rfl) hHeld ?_
          simp only [Act.put, List.setIfInBounds_toArray, List.set_cons_zero, List.set_cons_succ]
          refine skipG 16 rfl (by kernel_rfl) (by kernel_rfl) (by kernel_rfl) (fun _ _ _ h => h) (by rfl) hHeld ?_
          simp only [Act.put, List.setIfInBounds_toArray, List.set_cons_zero, List.set_cons_succ]
          refine skipG 17 rfl (by kernel_rfl) (by kernel_rfl) (by kernel_rfl) (fun _ _ _ h => h) (by rfl) hHeld ?_
          simp only [Act.put, List.setIfInBounds_toArray, List.set_cons_zero, List.set_cons_succ]
          refine skipG 18 rfl (by kernel_rfl) (by kernel_rfl) (by kernel_rfl) (fun _ _ _ h => h) (by rfl) hHeld ?_
          simp only [Act.put, List.setIfInBounds_toArray, List.set_cons_zero, List.set_cons_succ]
          refine skipG 19 rfl (by kernel_rfl) (by kernel_rfl) (by kernel_rfl) (fun _ _ _ h => h) (by rfl) hHeld ?_
          simp only [Act.put, List.setIfInBounds_toArray, List.set_cons_zero, List.set_cons_succ]
          refine skipG 20 rfl (by kernel_rfl) (by kernel_rfl) (by kernel_rfl) (fun _ _ _ h => h) (by rfl) hHeld ?_
          simp only [Act.put, List.setIfInBounds_toArray, List.set_cons_zero, List.set_cons_succ]
          refine skipG 21 rfl (by kernel_rfl) (by kernel_rfl) (by kernel_rfl) (fun _ _ _ h => h) (by rfl) hHeld ?_
          simp only [Act.put, List.setIfInBounds_toArray, List.set_cons_zero, List.set_cons_succ]
          refine skipG 22 rfl (by kernel_rfl) (by kernel_rfl) (by kernel_rfl) (fun _ _ _ h => h) (by rfl) hHeld ?_
          simp only [Act.put, List.setIfInBounds_toArray, List.set_cons_zero, List.set_cons_succ]
          refine takeG (v := .bool true) 23 rfl (by kernel_rfl) (by kernel_rfl) (by kernel_rfl) (fun _ _ _ h => h) (by rfl) ?hym23 hHeld ?restm23
          case hym23 => (intro W hW; obtain ⟨k0, k1, k2, k3, k4, k5, k6, k7, k8, k9, k10, k11⟩ := hW; go_simp <;> rfl)
          simp only [Act.put, List.setIfInBounds_toArray, List.set_cons_zero, List.set_cons_succ]
          refine takeG (v := .bool true) 24 rfl (by kernel_rfl) (by kernel_rfl) (by kernel_rfl) (fun _ _ _ h => h) (by rfl) ?hym24 hHeld ?restm24
          case hym24 => (intro W hW; obtain ⟨k0, k1, k2, k3, k4, k5, k6, k7, k8, k9, k10, k11⟩ := hW; go_simp <;> rfl)
          simp only [Act.put, List.setIfInBounds_toArray, List.set_cons_zero, List.set_cons_succ]
          refine wpAnyH_done (by kernel_rfl) ?_ _
          go_wp2_with fail
          go_meet
          exact ⟨rfl, hb11⟩
         | false =>
          by_cases hz2 : z = 0
          ·have e5 : (z == 0) = true := by simp [hz2]
           obtain rfl : q = true := by rw [HQ.out, hz2]; rfl
           clear HQ HBAD hz2
           obtain ⟨a0, a1, a2, a3, a4, a5, a6, a7, d0, d1, d2, d3⟩ := HS.out _ hbd
           go_region_held3 (fun W => W.cell? ⟨w.heap.size, 0, none⟩ = some (.int .i64 d.net.places) ∧ W.cell? ⟨w.heap.size, 1, none⟩ = some (.slice At d.net.trans.length ct) ∧ W.cell? ⟨w.heap.size, 2, none⟩ = some (.int .i64 d.net.source) ∧ W.cell? ⟨w.heap.size, 3, none⟩ = some (.int .i64 (sk : Int)) ∧ W.cell? ⟨w.heap.size, 4, none⟩ = some (.slice Ax d.vars.length cx) ∧ W.cell? ⟨w.heap.size, 5, none⟩ = some (iv) ∧ W.cell? ⟨w.heap.size, 6, none⟩ = some (.slice Ag d.guards.length cg) ∧ W.cell? ⟨w.heap.size, 7, none⟩ = some (.slice Aw d.writes.length cw) ∧ W.cell? ⟨bs, os + i * 2, none⟩ = some (.slice (some ⟨bk, ok, none⟩) s.marks.length cs2) ∧ W.cell? ⟨bs, os + i * 2 + 1, none⟩ = some (.slice Av2 s.vals.length cv2) ∧ W.cell? ⟨bk, ok + sk, none⟩ = some (.int .i64 z) ∧ W.cell? ⟨w2.heap.size, i, none⟩ = some (.bool true)) (first | exact HS.out _ (by assumption))
            (first | (go_at_call 46; (with_reducible refine (HCF.out _ (by assumption)).mono ?_); rintro e wt ⟨rfl, hbt⟩))
           all_goals (go_wp2_with fail; go_meet)
           all_goals exact ⟨rfl, by assumption⟩
          ·have e5 : (z == 0) = false := by simpa using hz2
           obtain rfl : q = false := by rw [HQ.out, decide_eq_false hz2]; rfl
           clear HQ HBAD hz2
           obtain ⟨a0, a1, a2, a3, a4, a5, a6, a7, d0, d1, d2, d3⟩ := HS.out _ hbd
           go_region_held3 (fun W => W.cell? ⟨w.heap.size, 0, none⟩ = some (.int .i64 d.net.places) ∧ W.cell? ⟨w.heap.size, 1, none⟩ = some (.slice At d.net.trans.length ct) ∧ W.cell? ⟨w.heap.size, 2, none⟩ = some (.int .i64 d.net.source) ∧ W.cell? ⟨w.heap.size, 3, none⟩ = some (.int .i64 (sk : Int)) ∧ W.cell? ⟨w.heap.size, 4, none⟩ = some (.slice Ax d.vars.length cx) ∧ W.cell? ⟨w.heap.size, 5, none⟩ = some (iv) ∧ W.cell? ⟨w.heap.size, 6, none⟩ = some (.slice Ag d.guards.length cg) ∧ W.cell? ⟨w.heap.size, 7, none⟩ = some (.slice Aw d.writes.length cw) ∧ W.cell? ⟨bs, os + i * 2, none⟩ = some (.slice (some ⟨bk, ok, none⟩) s.marks.length cs2) ∧ W.cell? ⟨bs, os + i * 2 + 1, none⟩ = some (.slice Av2 s.vals.length cv2) ∧ W.cell? ⟨bk, ok + sk, none⟩ = some (.int .i64 z) ∧ W.cell? ⟨w2.heap.size, i, none⟩ = some (.bool true)) (first | exact HS.out _ (by assumption))
            (first | (go_at_call 46; (with_reducible refine (HCF.out _ (by assumption)).mono ?_); rintro e wt ⟨rfl, hbt⟩))
           all_goals (go_wp2_with fail; go_meet)
           all_goals exact ⟨rfl, by assumption⟩
        case rest =>
         obtain ⟨rfl, hb6⟩ := hcut
         have hbd' : badAt d p i = !q := by rw [HBAD.out, HQ.out]
         have HBD := Lib.hid hbd'
         have hbr6 := hbr.trans (hb6.mono hbr.size)
         have hbr26 := hbr5.trans (hbr6.mono hsz5)
         clear HCF HS hbd' HBAD HQ hof hbd
         cases q with
         | true =>
          go_wp2_with fail
          go_roundw
          case rel => exact ⟨i + 1, by omega, by go_num, fun q hq => by
           by_cases e : q = i
           ·subst e; exact HBD.out
           ·exact HALL.out q (by omega), hbr6⟩
          case measure => simp [intOf]; omega
         | false =>
          have HE := Lib.hid (HN.out i (first_some hlt HBD.out HALL.out))
          have HORD2 := Lib.hid HORD.out
          generalize hwc : wc = wz at *
          clear hwc
          have hbz := bone wz (.cells #[.slice none 0 0, .slice Am p.moves.length cm, .bool false] 104)
          have hX := Blk.new wz 104 #[.slice none 0 0, .slice Am p.moves.length cm, .bool false]
          go_upto_region 22 with fail
          obtain ⟨gX, hgX⟩ : ∃ z, z = wz.heap.size := ⟨_, rfl⟩
          rw [← hgX] at hX ⊢
          generalize hwx : wz.alloc (.cells #[.slice none 0 0, .slice Am p.moves.length cm, .bool false] 104) = wx at *
          clear hwx
          have hgx2 := hX.lt
          have hgz : wz.heap.size ≤ gX := Nat.le_of_eq hgX.symm
          clear hgX
          go_wp2_with fail
          go_loopw [16] (fun iv wr => ∃ (k : Nat) (vs : List Value) (A : Option Addr) (c : Nat), iv = .int .i64 k ∧ k ≤ p.states.length ∧ vs.length = k ∧ wr.ownsRow wx.heap.size 31 1 (.slice A k c) k vs ∧ Blk wr gX 104 #[.slice A k c, .slice Am p.moves.length cm, .bool false] ∧ Below wz.heap.size wz wr ∧ wx.heap.size ≤ wr.heap.size) (fun iv _ => p.states.length - (intOf iv).toNat)
          case atStart => exact ⟨0, [], none, 0, rfl, Nat.zero_le _, rfl, World.ownsRow_nil _ _ _ _, hX, hbz, Nat.le_refl _⟩
          case round =>
           obtain ⟨k, vs, A, c, rfl, hk, hvl, hown, hX, hbr, hszx⟩ := hrel
           clear hbz
           have hbrz := hbr26.trans (hbr.mono hbr26.size)
           obtain ⟨x0, x1, x2⟩ := hX.c3
           by_cases hlk : k < p.states.length
           rotate_left
           ·obtain rfl : k = p.states.length := by omega
            have HPA := Lib.hid (path22_ref A p.states.length c Am p.moves cm false i wr (h2.now hbrz) HORD.out ⟨hn1, hn0⟩ hm0 hlt)
            go_wp2_with fail
            refine HPA.out.mono ?_
            rintro e w9 ⟨v9, rfl, hv9, hb9⟩
            go_wp2_with fail
            go_ret3
            rw [HE.out]
            exact ⟨_, rfl, hv9, bthen (bthen hbw2 hbrz) hb9⟩
           obtain ⟨b3, o3, s3, mv3, vv3, hA3, hD3, _, hm3, _, e0, e1⟩ := (h1.now hbrz).at_ hlk
           simp only [Option.some.injEq, Addr.mk.injEq, and_true] at hA3
           obtain ⟨rfl, rfl⟩ := hA3
           obtain ⟨A3, c3, rfl, _, _, _⟩ := hm3.open_
           have x0f := hX.frozen 0
           have i6 : (0 : Int) ≤ (k : Int) := by omega
           have i7 : (k : Int) < (p.states.length : Int) := by omega
           have hkm : k < 10000000 := by omega
           obtain ⟨xa0, xa1, xa2⟩ := (hX.now (bone wr (.cells #[.slice A3 s3.marks.length c3] 31))).c3
           clear hm3 hD3
           go_upto_region 25 with fail
           go_region_law (refine step_push_drew appSS rfl (.tmp 121) (.tmp 127) rfl _ [.slice A3 s3.marks.length c3] rfl (by simp [Value.oneCell']) (.slice A k c) k vs rfl hown rfl hkm hszx ?_; intro v' w' hown' hgr hat; obtain ⟨A9, c9, rfl⟩ := own_form hown'; have hXg : Blk w' gX 104 #[.slice A k c, .slice Am p.moves.length cm, .bool false] := hX.grown hgr (fun e => by have := (hown.lt gX (by first | exact e | exact e.symm)).1; omega); obtain ⟨z0, z1, z2⟩ := hXg.c3; have z0f := hXg.frozen 0)
           all_goals
            have hXs := hXg.set_ 0 (.slice A9 (k + 1) c9)
            have hbs : Below wz.heap.size wr (w'.setCell ⟨gX, 0, none⟩ (.slice A9 (k + 1) c9)) := Below.setCell (p := ⟨gX, 0, none⟩) (below_of_grown hgr hbr.size (fun g hg => by have := (hown.lt g hg).1; omega)) hgz _
            have hos := ownsRow_setCell_other hown' (a := ⟨gX, 0, none⟩) (fun e => by have := (hown'.lt gX e).1; omega) (.slice A9 (k + 1) c9)
            clear z0 z1 z2 z0f x0 x1 x2 x0f xa0 xa1 xa2
            go_wp2_with fail
            go_roundw
            case rel => exact ⟨k + 1, vs ++ [.slice A3 s3.marks.length c3], A9, c9, by go_num, by omega, by simp [hvl], hos, hXs, hbr.trans hbs, by have := hgr.size; simp; omega⟩
            case measure => simp [intOf]; omega
def R8 : ElemR Int := fun _ _ z cs => cs = [.int .u8 z] ∧ 0 ≤ z ∧ z ≤ 255
theorem R8.kept : ElemR.Kept R8 := fun _ _ _ _ _ _ _ _ h => h
def Sl8 := Sl 1 R8
theorem Sl8.now {w w' : World} {u : Value} {zs : List Int} (h : Sl8 (Lt w.heap.size) w u zs) (hb : Below w.heap.size w w') : Sl8 (Lt w'.heap.size) w' u zs := Sl.below h R8.kept hb hb.size
def RetTrue (w : World) (e : Ending) (w' : World) : Prop := e = .returned (.bool true) ∧ Below w.heap.size w w'
set_option maxHeartbeats 16000000 in
set_option maxRecDepth 100000 in
theorem dataSound_any {n : Nat} (d : DNet) (most : Int) (u : Value) (w : World) (h : IsDn n (Lt w.heap.size) w u d) (ha : Amb w) :
  Calls Tryz.prog 7 #[u, .int .i64 most] w (RetTrue w) := by
 have h0 := h
 obtain ⟨At, ct, Ax, cx, iv, Ag, cg, Aw, cw, rfl, dn1, dn2, dn3, dn4, dn5, ⟨t1, t2⟩, ⟨x1, x2⟩, ⟨g1, g2⟩, v1, v2⟩ := h.open_
 clear h dn1 dn2 dn3 dn4 dn5
 have hb := bone w (.cells #[.int .i64 d.net.places, .slice At d.net.trans.length ct, .int .i64 d.net.source, .int .i64 d.net.sink, .slice Ax d.vars.length cx, iv, .slice Ag d.guards.length cg, .slice Aw d.writes.length cw] 30)
 have hB := Blk.new w 30 #[.int .i64 d.net.places, .slice At d.net.trans.length ct, .int .i64 d.net.source, .int .i64 d.net.sink, .slice Ax d.vars.length cx, iv, .slice Ag d.guards.length cg, .slice Aw d.writes.length cw]
 have hd1 := h0.now hb
 have ha1 := ha.now hb
 clear h0 ha
 go_enter Tryz.func7, Tryz.ntmps7
 go_upto_region 1 with fail
 generalize hw1e : w.alloc (.cells #[.int .i64 d.net.places, .slice At d.net.trans.length ct, .int .i64 d.net.source, .int .i64 d.net.sink, .slice Ax d.vars.length cx, iv, .slice Ag d.guards.length cg, .slice Aw d.writes.length cw] 30) = w1 at *
 clear hw1e
 go_wp2_with fail
 refine (awake_any w1 ha1).mono ?_
 rintro e w2 ⟨rfl, hb2⟩
 have hbw2 := bthen hb hb2
 have hB2 := hB.now hb2
 have hd2 := hd1.now hb2
 have ha2 := ha1.now hb2
 clear hB hd1 hb ha1
 obtain ⟨q0, q1, q2, q3, q4, q5, q6, q7⟩ := hB2.c8
 go_wp2_with fail
 refine (few_any n d _ w2 hd2).mono ?_
 rintro e w3 ⟨q, rfl, hq, hb3⟩
 have hbw3 := bthen hbw2 hb3
 have hB3 := hB2.now hb3
 have hd3 := hd2.now hb3
 have ha3 := ha2.now hb3
 clear hB2 hd2 ha2 q0 q1 q2 q3 q4 q5 q6 q7 hbw2
 obtain ⟨q0, q1, q2, q3, q4, q5, q6, q7⟩ := hB3.c8
 cases q
 ·go_wp2_with fail
  go_ret
  exact ⟨rfl, hbw3⟩
 have hl : d.vars.length ≤ 1000000 := by have := (hq rfl).2.2.1; omega
 clear hq
 by_cases c1 : most > 60
 ·by_cases c2 : most ≤ 2000
  ·go_wp2_with fail
   go_ret
   exact ⟨rfl, hbw3⟩
  ·have HR1 := Lib.hid (dsound_any n d most _ w3 hd3 hl ha3)
   go_wp2_with fail
   refine HR1.out.mono ?_
   rintro e w5 ⟨v5, rfl, hv5, hb5⟩
   have hB5 := hB3.now hb5
   have hd5 := hd3.now hb5
   have ha5 := ha3.now hb5
   have hbw5 := bthen hbw3 hb5
   clear HR1 hB3 hd3 ha3 q0 q1 q2 q3 q4 q5 q6 q7
   obtain ⟨q0, q1, q2, q3, q4, q5, q6, q7⟩ := hB5.c8
   have HR2 := Lib.hid (sound30_ref n d most _ w5 hd5)
   go_wp2_with fail
   refine HR2.out.mono ?_
   rintro e w6 ⟨v6, rfl, hv6, hb6⟩
   have hv5 := hv5.now hb6
   have hB6 := hB5.now hb6
   have hd6 := hd5.now hb6
   have ha6 := ha5.now hb6
   have hbw6 := bthen hbw5 hb6
   clear HR2 hB5 hd5 ha5 q0 q1 q2 q3 q4 q5 q6 q7
   obtain ⟨q0, q1, q2, q3, q4, q5, q6, q7⟩ := hB6.c8
   have HR3 := Lib.hid (ddead_any n d most _ w6 hd6 hl ha6)
   go_wp2_with fail
   refine HR3.out.mono ?_
   rintro e w7 ⟨v7, rfl, hv7, hb7⟩
   have hv5 := hv5.now hb7
   have hv6 := hv6.now hb7
   have hB7 := hB6.now hb7
   have hd7 := hd6.now hb7
   have hbw7 := bthen hbw6 hb7
   clear HR3 hB6 hd6 ha6 q0 q1 q2 q3 q4 q5 q6 q7
   obtain ⟨q0, q1, q2, q3, q4, q5, q6, q7⟩ := hB7.c8
   have HR4 := Lib.hid (dead30_ref n d most _ w7 hd7)
   go_wp2_with fail
   refine HR4.out.mono ?_
   rintro e w8 ⟨v8, rfl, hv8, hb8⟩
   have hv5 := hv5.now hb8
   have hv6 := hv6.now hb8
   have hv7 := hv7.now hb8
   have hbw8 := bthen hbw7 hb8
   clear HR4 hB7 hd7 q0 q1 q2 q3 q4 q5 q6 q7
   have HE1 := equalI _ _ _ _ w8 hv5 hv6
   rw [beq_self_eq_true] at HE1
   have HE1 := Lib.hid HE1
   have e1 : ((dsoundE d most).1 == (dsoundE d most).1) = true := beq_self_eq_true _
   have e2 : ((dsoundE d most).2.2 == (dsoundE d most).2.2) = true := beq_self_eq_true _
   have e3 : ((ddeadE d most).2 == (ddeadE d most).2) = true := beq_self_eq_true _
   generalize dsoundE d most = R1 at *
   generalize ddeadE d most = R2 at *
   go_wp2_with fail
   refine HE1.out.mono ?_
   rintro e w9 ⟨rfl, q, rfl⟩
   have hbq := bdrawn (Below.refl w8.heap.size w8) q
   have HE2 := equalI _ _ _ _ _ (hv7.now hbq) (hv8.now hbq)
   rw [beq_self_eq_true] at HE2
   have HE2 := Lib.hid HE2
   go_wp2_with fail
   refine HE2.out.mono ?_
   rintro e w10 ⟨rfl, q', rfl⟩
   go_wp2_with fail
   go_ret
   exact ⟨rfl, bdrawn hbw8 (q + q')⟩
 ·have HR1 := Lib.hid (dsound_any n d most _ w3 hd3 hl ha3)
  go_wp2_with fail
  refine HR1.out.mono ?_
  rintro e w5 ⟨v5, rfl, hv5, hb5⟩
  have hB5 := hB3.now hb5
  have hd5 := hd3.now hb5
  have ha5 := ha3.now hb5
  have hbw5 := bthen hbw3 hb5
  clear HR1 hB3 hd3 ha3 q0 q1 q2 q3 q4 q5 q6 q7
  obtain ⟨q0, q1, q2, q3, q4, q5, q6, q7⟩ := hB5.c8
  have HR2 := Lib.hid (sound30_ref n d most _ w5 hd5)
  go_wp2_with fail
  refine HR2.out.mono ?_
  rintro e w6 ⟨v6, rfl, hv6, hb6⟩
  have hv5 := hv5.now hb6
  have hB6 := hB5.now hb6
  have hd6 := hd5.now hb6
  have ha6 := ha5.now hb6
  have hbw6 := bthen hbw5 hb6
  clear HR2 hB5 hd5 ha5 q0 q1 q2 q3 q4 q5 q6 q7
  obtain ⟨q0, q1, q2, q3, q4, q5, q6, q7⟩ := hB6.c8
  have HR3 := Lib.hid (ddead_any n d most _ w6 hd6 hl ha6)
  go_wp2_with fail
  refine HR3.out.mono ?_
  rintro e w7 ⟨v7, rfl, hv7, hb7⟩
  have hv5 := hv5.now hb7
  have hv6 := hv6.now hb7
  have hB7 := hB6.now hb7
  have hd7 := hd6.now hb7
  have hbw7 := bthen hbw6 hb7
  clear HR3 hB6 hd6 ha6 q0 q1 q2 q3 q4 q5 q6 q7
  obtain ⟨q0, q1, q2, q3, q4, q5, q6, q7⟩ := hB7.c8
  have HR4 := Lib.hid (dead30_ref n d most _ w7 hd7)
  go_wp2_with fail
  refine HR4.out.mono ?_
  rintro e w8 ⟨v8, rfl, hv8, hb8⟩
  have hv5 := hv5.now hb8
  have hv6 := hv6.now hb8
  have hv7 := hv7.now hb8
  have hbw8 := bthen hbw7 hb8
  clear HR4 hB7 hd7 q0 q1 q2 q3 q4 q5 q6 q7
  have HE1 := equalI _ _ _ _ w8 hv5 hv6
  rw [beq_self_eq_true] at HE1
  have HE1 := Lib.hid HE1
  have e1 : ((dsoundE d most).1 == (dsoundE d most).1) = true := beq_self_eq_true _
  have e2 : ((dsoundE d most).2.2 == (dsoundE d most).2.2) = true := beq_self_eq_true _
  have e3 : ((ddeadE d most).2 == (ddeadE d most).2) = true := beq_self_eq_true _
  generalize dsoundE d most = R1 at *
  generalize ddeadE d most = R2 at *
  go_wp2_with fail
  refine HE1.out.mono ?_
  rintro e w9 ⟨rfl, q, rfl⟩
  have hbq := bdrawn (Below.refl w8.heap.size w8) q
  have HE2 := equalI _ _ _ _ _ (hv7.now hbq) (hv8.now hbq)
  rw [beq_self_eq_true] at HE2
  have HE2 := Lib.hid HE2
  go_wp2_with fail
  refine HE2.out.mono ?_
  rintro e w10 ⟨rfl, q', rfl⟩
  go_wp2_with fail
  go_ret
  exact ⟨rfl, bdrawn hbw8 (q + q')⟩
end Go.Proofs.YtlmenhjlgmejkaaGreatDoor
