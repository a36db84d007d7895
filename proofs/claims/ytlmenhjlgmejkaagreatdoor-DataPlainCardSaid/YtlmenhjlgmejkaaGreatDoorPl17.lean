/- Merged texts. -/
import Derived.Deep.RegionHeld
import Derived.Test.YtlmenhjlgmejkaaGreatDoorPl16
set_option linter.all false
namespace Go.Proofs.YtlmenhjlgmejkaaGreatDoor
open Go.RowKit
theorem den_no {d : DNet} {s : St} {k : Nat} (h : (fireD d s (k : Int)).2 ≠ 0) : firesTo d s (k + 1) = firesTo d s k := by
  unfold firesTo
  rw [List.range_succ, List.filter_append]
  simp [h]
theorem den_yes {d : DNet} {s : St} {k : Nat} (h : (fireD d s (k : Int)).2 = 0) : firesTo d s (k + 1) = firesTo d s k ++ [(k : Int)] := by
  unfold firesTo
  rw [List.range_succ, List.filter_append]
  simp [h]
theorem den_len (d : DNet) (s : St) (k : Nat) : (firesTo d s k).length ≤ k := by
  unfold firesTo
  rw [List.length_map]
  have := List.length_filter_le (fun (t : Nat) => decide ((fireD d s (t : Int)).2 = 0)) (List.range k)
  simpa using this
theorem den_fit (d : DNet) (s : St) (k : Nat) (hk : k ≤ 100) : ∀ z ∈ firesTo d s k, Fit z := by
  intro z hz
  unfold firesTo at hz
  obtain ⟨t, ht, rfl⟩ := List.mem_map.1 hz
  have := List.mem_range.1 (List.mem_filter.1 ht).1
  unfold Fit; omega
set_option maxHeartbeats 8000000 in
set_option maxRecDepth 100000 in
theorem denabled_any (n : Nat) (d : DNet) (s : St) (u us : Value) (w : World) (h : IsDn n (Lt w.heap.size) w u d) (hs : IsSt (Lt w.heap.size) w us s) (hl : d.vars.length ≤ 1000000) :
    Calls Tryz.prog 31 #[u, us] w (RetIE (denE d s).1 (denE d s).2 w) := by
  have h0 := h
  have hs0 := hs
  obtain ⟨At, ct, Ax, cx, iv, Ag, cg, Aw, cw, rfl, dn1, dn2, dn3, dn4, dn5, ⟨t1, t2⟩, ⟨x1, x2⟩, ⟨g1, g2⟩, v1, v2⟩ := h.open_
  obtain ⟨Am, cm, Av, cv, rfl, s1, s2, ⟨t3, t4⟩, t5, t6⟩ := hs.open_
  clear h hs dn1 dn2 dn3 dn4 dn5 s1 s2
  have hb0 := bone w (.cells #[.int .i64 d.net.places, .slice At d.net.trans.length ct, .int .i64 d.net.source, .int .i64 d.net.sink, .slice Ax d.vars.length cx, iv, .slice Ag d.guards.length cg, .slice Aw d.writes.length cw] 30)
  have hb := bbox hb0 (.cells #[.slice Am s.marks.length cm, .slice Av s.vals.length cv] 33)
  have hB := (Blk.new w 30 #[.int .i64 d.net.places, .slice At d.net.trans.length ct, .int .i64 d.net.source, .int .i64 d.net.sink, .slice Ax d.vars.length cx, iv, .slice Ag d.guards.length cg, .slice Aw d.writes.length cw]).alloc (.cells #[.slice Am s.marks.length cm, .slice Av s.vals.length cv] 33)
  have hC := (Blk.new_at (t := 33) (cs := #[.slice Am s.marks.length cm, .slice Av s.vals.length cv]) (w := w.alloc (.cells #[.int .i64 d.net.places, .slice At d.net.trans.length ct, .int .i64 d.net.source, .int .i64 d.net.sink, .slice Ax d.vars.length cx, iv, .slice Ag d.guards.length cg, .slice Aw d.writes.length cw] 30)) (s := w.heap.size + 1) (by simp))
  have hd1 := h0.now hb
  have hs1 := hs0.now hb
  clear h0 hs0 hb0
  have HD : Hid (denE d s = if vstateB d s then (firesTo d s d.net.trans.length, 0) else ([], 1)) := rfl
  go_enter Tryz.func31, Tryz.ntmps31
  go_upto_region 1 with fail
  generalize hw1e : (w.alloc (.cells #[.int .i64 d.net.places, .slice At d.net.trans.length ct, .int .i64 d.net.source, .int .i64 d.net.sink, .slice Ax d.vars.length cx, iv, .slice Ag d.guards.length cg, .slice Aw d.writes.length cw] 30)).alloc (.cells #[.slice Am s.marks.length cm, .slice Av s.vals.length cv] 33) = w1 at *
  clear hw1e
  obtain ⟨q0, q1, q2, q3, q4, q5, q6, q7⟩ := hB.c8
  obtain ⟨y0, y1⟩ := hC.c2
  go_wp2_with fail
  refine (dvstate_any n d s _ _ _ hd1 hs1 hl).mono ?_
  rintro e w2 ⟨rfl, hb2⟩
  have hbw2 := bthen hb hb2
  have hB2 := hB.now hb2
  have hC2 := hC.now hb2
  have hd2 := hd1.now hb2
  have hs2 := hs1.now hb2
  clear q0 q1 q2 q3 q4 q5 q6 q7 y0 y1 hB hC hd1 hs1 hb2
  obtain ⟨q0, q1, q2, q3, q4, q5, q6, q7⟩ := hB2.c8
  obtain ⟨y0, y1⟩ := hC2.c2
  cases hq : vstateB d s
  · have HR : Hid (denE d s = ([], 1)) := by show _ = _; rw [HD.out, hq]; rfl
    clear hq
    go_wp2_with fail
    go_ret2
    rw [HR.out]
    exact ⟨_, rfl, Sl.none_, hbw2⟩
  have HR : Hid (denE d s = (firesTo d s d.net.trans.length, 0)) := by show _ = _; rw [HD.out, hq]; rfl
  have HV := Lib.hid hq
  have htl : d.net.trans.length ≤ 60 := (validOk (dvalid_parts (vstate_parts hq).1).1).2.2.1
  clear hq HD
  have hsz2 : w.heap.size + 2 ≤ w2.heap.size := by have := hC2.lt; omega
  go_wp2_with fail
  clear q0 q1 q2 q3 q4 q5 q6 q7 y0 y1
  go_loopw [6, 18] (fun ov i wr => ∃ k : Nat, k ≤ d.net.trans.length ∧ i = .int .i64 k ∧ wr.ownsRow w2.heap.size 3 1 ov (firesTo d s k).length ((firesTo d s k).map (Value.int .i64)) ∧ Below w.heap.size w wr ∧ Below w2.heap.size w2 wr) (fun _ i _ => d.net.trans.length - (intOf i).toNat)
  case atStart => exact ⟨0, Nat.zero_le _, rfl, World.ownsRow_nil _ _ _ _, hbw2, Below.refl _ _⟩
  case round =>
    obtain ⟨k, hk, rfl, hown, hbr, hbr2⟩ := hrel
    have hszr := hbr2.size
    by_cases hlt : k < d.net.trans.length
    rotate_left
    · obtain rfl : k = d.net.trans.length := by omega
      go_wp2_with fail
      go_ret2
      rw [HR.out]
      exact ⟨_, rfl, SlI.of_own hown (den_fit d s _ (by omega)), hbr⟩
    have hB5 := hB2.now hbr2
    have hC5 := hC2.now hbr2
    obtain ⟨q0, q1, q2, q3, q4, q5, q6, q7⟩ := hB5.c8
    obtain ⟨y0, y1⟩ := hC5.c2
    have HF := Lib.hid (fire_one n d s k _ _ wr (hd2.now hbr2) (hs2.now hbr2) HV.out hl)
    have hlen := den_len d s k
    go_wp2_with fail
    refine HF.out.mono ?_
    rintro e w3 ⟨u3, rfl, hu3, hb3⟩
    have hu3 := hu3.weak
    clear HF q0 q1 q2 q3 q4 q5 q6 q7 y0 y1 hB5 hC5
    by_cases hc : (fireD d s (k : Int)).2 = 0
    · have HN := Lib.hid (den_yes hc)
      have bc : ((fireD d s (k : Int)).2 == 0) = true := by simp [hc]
      generalize fireD d s (k : Int) = p at *
      obtain ⟨ps, pc⟩ := p
      dsimp only at *
      obtain ⟨Am2, cm2, Av2, cv2, rfl, _, _, _, _, _⟩ := hu3.open_
      have hb4 := bone w3 (.cells #[.slice Am2 ps.marks.length cm2, .slice Av2 ps.vals.length cv2] 33)
      have hown4 := own_now (own_now hown hb3) hb4
      have hbw4 := bthen (bthen hbr hb3) hb4
      have hb24 : Below w2.heap.size w2 (w3.alloc (.cells #[.slice Am2 ps.marks.length cm2, .slice Av2 ps.vals.length cv2] 33)) := (hbr2.trans (hb3.mono hbr2.size)).trans (hb4.mono (Nat.le_trans hbr2.size hb3.size))
      clear hc hown
      go_upto_region 9 with fail
      generalize hw4 : w3.alloc (.cells #[.slice Am2 ps.marks.length cm2, .slice Av2 ps.vals.length cv2] 33) = w4 at *
      clear hw4
      have hsz4 := hb24.size
      go_wp2_with (at_builtin; refine wpList_push appInts rfl (.tmp 30) (.tmp 32) rfl w4 [.int .i64 (k : Int)] rfl (by simp [Value.oneCell']) _ (firesTo d s k).length ((firesTo d s k).map (Value.int .i64)) rfl hown4 rfl (by omega) (by omega) ?_; intro v' w' hown' hgr hat)
      have hbg : Below w2.heap.size w4 w' := below_of_grown hgr (by omega) (fun g hg => (hown4.lt g hg).1)
      go_roundw
      case rel =>
        refine ⟨k + 1, by omega, by go_num, ?_, hbw4.trans (hbg.mono (by omega)), hb24.trans hbg⟩
        rw [HN.out]; simpa using hown'
      case measure => simp [intOf]; omega
    · have HN := Lib.hid (den_no hc)
      have bc : ((fireD d s (k : Int)).2 == 0) = false := by simpa using hc
      generalize fireD d s (k : Int) = p at *
      obtain ⟨ps, pc⟩ := p
      dsimp only at *
      obtain ⟨Am2, cm2, Av2, cv2, rfl, _, _, _, _, _⟩ := hu3.open_
      have hb4 := bone w3 (.cells #[.slice Am2 ps.marks.length cm2, .slice Av2 ps.vals.length cv2] 33)
      have hown4 := own_now (own_now hown hb3) hb4
      have hbw4 := bthen (bthen hbr hb3) hb4
      have hb24 : Below w2.heap.size w2 (w3.alloc (.cells #[.slice Am2 ps.marks.length cm2, .slice Av2 ps.vals.length cv2] 33)) := (hbr2.trans (hb3.mono hbr2.size)).trans (hb4.mono (Nat.le_trans hbr2.size hb3.size))
      clear hc hown
      go_wp2_with fail
      go_roundw
      case rel => exact ⟨k + 1, by omega, by go_num, by rw [HN.out]; exact hown4, hbw4, hb24⟩
      case measure => simp [intOf]; omega
set_option maxHeartbeats 4000000 in
set_option maxRecDepth 100000 in
theorem finalM_any (n : Nat) (d : DNet) (m : List Int) (u mv : Value) (w : World) (h : IsDn n (Lt w.heap.size) w u d) (hm : SlI (Lt w.heap.size) w mv m) :
    Calls Tryz.prog 71 #[u, mv] w fun e w' => e = .returned (.bool (finalM d m)) ∧ Below w.heap.size w w' := by
  obtain ⟨At, ct, Ax, cx, iv, Ag, cg, Aw, cw, rfl, dn1, dn2, dn3, dn4, dn5, ⟨t1, t2⟩, ⟨x1, x2⟩, ⟨g1, g2⟩, v1, v2⟩ := h.open_
  clear h
  have hb := bone w (.cells #[.int .i64 d.net.places, .slice At d.net.trans.length ct, .int .i64 d.net.source, .int .i64 d.net.sink, .slice Ax d.vars.length cx, iv, .slice Ag d.guards.length cg, .slice Aw d.writes.length cw] 30)
  have hB := Blk.new w 30 #[.int .i64 d.net.places, .slice At d.net.trans.length ct, .int .i64 d.net.source, .int .i64 d.net.sink, .slice Ax d.vars.length cx, iv, .slice Ag d.guards.length cg, .slice Aw d.writes.length cw]
  have hn1 := dn1.now hb
  have hm1 := hm.now hb
  clear dn1 dn2 dn3 dn4 dn5 hm
  have HFM : Hid (finalM d m = (validB d.net && decide (oneB d.net d.net.sink = m))) := rfl
  have HO : Hid (oneE d.net d.net.sink = if validB d.net = false then ([], 1) else (oneB d.net d.net.sink, 0)) := rfl
  go_enter Tryz.func71, Tryz.ntmps71
  go_upto_region 1 with fail
  generalize hw1e : w.alloc (.cells #[.int .i64 d.net.places, .slice At d.net.trans.length ct, .int .i64 d.net.source, .int .i64 d.net.sink, .slice Ax d.vars.length cx, iv, .slice Ag d.guards.length cg, .slice Aw d.writes.length cw] 30) = w1 at *
  clear hw1e
  obtain ⟨q0, q1, q2, q3, q4, q5, q6, q7⟩ := hB.c8
  have HC := Lib.hid (final_any d.net _ w1 hn1)
  go_wp2_with fail
  refine HC.out.mono ?_
  rintro e w2 ⟨fv, rfl, hf, hb2⟩
  clear HC q0 q1 q2 q3 q4 q5 q6 q7
  have hbw2 := bthen hb hb2
  have hm2 := hm1.now hb2
  clear hn1 hm1 hB hb2
  cases hv : validB d.net
  · have HR : Hid (finalM d m = false) := by show _ = _; rw [HFM.out, hv]; rfl
    rw [HO.out, if_pos hv]
    clear hv
    dsimp only
    go_wp2_with fail
    go_ret
    exact ⟨ret_bool HR.out.symm, hbw2⟩
  · have HR : Hid (finalM d m = (oneB d.net d.net.sink == m)) := by show _ = _; rw [HFM.out, hv, Bool.true_and, Bool.eq_iff_iff]; simp
    rw [HO.out, if_neg (by rw [hv]; simp)] at hf ⊢
    clear hv
    dsimp only at hf ⊢
    have HC := Lib.hid (equalI fv mv (oneB d.net d.net.sink) m w2 hf hm2)
    generalize oneB d.net d.net.sink = o at *
    go_wp2_with fail
    refine HC.out.mono ?_
    rintro e w3 ⟨rfl, q, rfl⟩
    go_wp2_with fail
    go_ret
    exact ⟨ret_bool HR.out.symm, below_drewQ hbw2 q⟩
end Go.Proofs.YtlmenhjlgmejkaaGreatDoor
namespace Go.Proofs.YtlmenhjlgmejkaaGreatDoor
def TailPost (P : Program) (l : List Oper) (n : Nat) (Q : Exit → Act → World → Prop) : Exit → Act → World → Prop
  | .normal, a, w => wpList P l.toArray Q (l.drop n) a w
  | e, a, w => Q e a w
def earlyB (l : List Oper) : Bool := (List.range l.length).all fun j => match l[j]? with
  | some o => o.guard.isNone && o.after.all fun e => !Region.binds .any e || decide (e.on < j)
  | none => true
theorem early_spec {l : List Oper} (h : earlyB l = true) {j : Nat} {o : Oper} (hj : l[j]? = some o) : o.guard = none ∧ ∀ e ∈ o.after, Region.binds .any e = true → e.on < j := by
  have hlt : j < l.length := by
    rcases Nat.lt_or_ge j l.length with h' | h'
    · exact h'
    · rw [List.getElem?_eq_none h'] at hj; cases hj
  have h1 := List.all_eq_true.1 h j (List.mem_range.2 hlt)
  rw [hj] at h1
  simp only [Bool.and_eq_true, Array.all_eq_true_iff_forall_mem, Bool.or_eq_true, Bool.not_eq_true', decide_eq_true_eq] at h1
  refine ⟨Option.isNone_iff_eq_none.1 h1.1, fun e he hb => (h1.2 e he).resolve_left (by rw [hb]; simp)⟩
def tailB (l : List Oper) (n : Nat) : Bool := earlyB l && decide (n < l.length) && Region.sinkB .any l.toArray n && Region.chainB .any l.toArray n && Region.seqB .any l.toArray (l.length - n) n (Array.replicate n true ++ Array.replicate (l.length - n) false)
theorem unlisted_zero {L : Array Bool} (h : unlisted L = 0) : ∀ i, i < L.size → L.getD i false = true := by
  intro i hi
  unfold unlisted at h
  have h0 := List.eq_nil_of_length_eq_zero h
  rw [List.filter_eq_nil_iff] at h0
  have := h0 L[i] (by simp)
  simpa [hi] using this
theorem unlisted_pos {L : Array Bool} {f : Nat} (h : unlisted L = f + 1) : ∃ i, i < L.size ∧ L.getD i true = false := by
  unfold unlisted at h
  cases hl : L.toList.filter (fun b => !b) with
  | nil => rw [hl] at h; simp at h
  | cons b l =>
    have hb : b ∈ L.toList.filter (fun b => !b) := by rw [hl]; simp
    rw [List.mem_filter] at hb
    obtain ⟨i, hi, e⟩ := List.mem_iff_getElem.1 hb.1
    have hi' : i < L.size := by simpa using hi
    refine ⟨i, hi', ?_⟩
    have hbf : b = false := by simpa using hb.2
    have : L[i] = false := by rw [← hbf, ← e]; simp
    simp [hi', this]
section
variable {P : Program} {l : List Oper} {n : Nat} {Q : Exit → Act → World → Prop}
theorem first_ready (hE : earlyB l = true) {L : Array Bool} (hs : L.size = l.length) : ∀ (i : Nat), i < L.size → L.getD i true = false → ∃ j, j ≤ i ∧ j ∈ Region.ready .any l.toArray L := by
  intro i
  induction i using Nat.strongRecOn with
  | _ i ih =>
    intro hi hun
    have hi' : i < l.length := by omega
    by_cases hr : i ∈ Region.ready .any l.toArray L
    · exact ⟨i, Nat.le_refl _, hr⟩
    · have ho : l[i]? = some l[i] := List.getElem?_eq_getElem hi'
      have hsp := early_spec hE ho
      have : ∃ e ∈ l[i].after, Region.binds .any e = true ∧ L.getD e.on false = false := by
        apply Classical.byContradiction
        intro hno
        refine hr (mem_ready.2 ⟨hun, l[i], by simp, fun e he hb => ?_⟩)
        cases h : L.getD e.on false with
        | true => rfl
        | false => exact absurd ⟨e, he, hb, h⟩ hno
      obtain ⟨e, he, hb, hf⟩ := this
      have hlt := hsp.2 e he hb
      obtain ⟨j, hj, hr'⟩ := ih e.on hlt (by omega) (getD_in (by omega) hf)
      exact ⟨j, by omega, hr'⟩
theorem wpAny_tail (hE : earlyB l = true) (hs : Region.sinkB .any l.toArray n = true) (hc : Region.chainB .any l.toArray n = true) (hn : n < l.length)
    (hq : Region.seqB .any l.toArray (l.length - n) n (Array.replicate n true ++ Array.replicate (l.length - n) false) = true) :
    ∀ (f : Nat) (L' L : Array Bool) (a : Act) (w : World), L'.size = n → unlisted L' = f → HeadInv .any l.toArray n L → (∀ i b, i < n → L.getD i b = L'.getD i b) →
      wpAny P .any (l.take n).toArray (TailPost P l n Q) f L' a w → wpAny P .any l.toArray Q (f + (l.length - n)) L a w := by
  intro f
  induction f with
  | zero =>
    intro L' L a w hs' hu inv hR h
    rw [Nat.zero_add]
    have hL : L = Array.replicate n true ++ Array.replicate (l.length - n) false := by
      apply Array.ext
      · rw [inv.size]; simp; omega
      · intro i h1 h2
        rcases Nat.lt_or_ge i n with hi | hi
        · have := hR i false hi
          rw [unlisted_zero hu i (by omega)] at this
          rw [Array.getElem_append_left (by simpa using hi)]
          simpa [h1] using this
        · have := inv.tail i hi (by rw [← inv.size]; exact h1)
          rw [Array.getElem_append_right (by simpa using hi)]
          simpa [h1] using this
    have h2 : wpList P l.toArray Q (l.drop n) a w := h.2
    have := wpAny_of_seq (md := .any) (P := P) (ops := l.toArray) (Q' := Q) (l.drop n) n L a w (fun j => by simp [List.getElem?_drop]) (by rw [List.length_drop, hL]; exact hq) h2
    rwa [List.length_drop] at this
  | succ f ih =>
    intro L' L a w hs' hu inv hR h
    rw [show f + 1 + (l.length - n) = (f + (l.length - n)) + 1 by omega]
    obtain ⟨i0, hi0, hun0⟩ := unlisted_pos hu
    have hi0n : i0 < n := by omega
    have hun : L.getD i0 true = false := by rw [hR i0 true hi0n]; exact hun0
    have hnot : ∀ t, n ≤ t → t ∉ Region.ready .any l.toArray L := tail_waits hs hc (by simpa using hn) inv _ i0 rfl hi0n hun
    refine ⟨fun hr => ?_, fun i hi => ?_⟩
    · obtain ⟨j, _, hj⟩ := first_ready hE (L := L) (by simpa using inv.size) i0 (by rw [inv.size]; simp; omega) hun
      rw [hr] at hj; cases hj
    · have hin : i < n := by
        rcases Nat.lt_or_ge i n with h' | h'
        · exact h'
        · exact absurd hi (hnot i h')
      obtain ⟨hiu, o, ho, hall⟩ := mem_ready.1 hi
      have ho' : l[i]? = some o := by simpa using ho
      have hsp := early_spec hE ho'
      have hot : (l.take n).toArray[i]? = some o := by simp [hin, ho']
      have hi' : i ∈ Region.ready .any (l.take n).toArray L' := mem_ready.2 ⟨by rw [← hR i true hin]; exact hiu, o, hot, fun e he hb => by
        have h1 := hsp.2 e he hb
        rw [← hR e.on false (by omega)]
        exact hall e he hb⟩
      have h1 := h.2 i hi'
      have hw : ∀ ops : Array Oper, Region.wanted o (yielded ops a.tmps) = true := fun ops => by simp [Region.wanted, hsp.1]
      unfold wpOp at h1 ⊢
      rw [hot] at h1
      rw [ho]
      simp only [hw, if_true] at h1 ⊢
      have hstep : ∀ a' w', wpAny P .any (l.take n).toArray (TailPost P l n Q) f (L'.setIfInBounds i true) a' w' → wpAny P .any l.toArray Q (f + (l.length - n)) (L.setIfInBounds i true) a' w' := by
        intro a' w' h2
        refine ih (L'.setIfInBounds i true) (L.setIfInBounds i true) a' w' (by simpa using hs') ?_ (inv.set hi hin) ?_ h2
        · have := unlisted_set (listed := L') (i := i) (by rw [← hR i true hin]; exact hiu)
          omega
        · intro k b hk
          by_cases hik : i = k
          · subst hik
            have hiL : i < L.size := by rw [inv.size]; simp; omega
            have hiL' : i < L'.size := by omega
            simp [hiL, hiL']
          · rw [getD_set_ne b hik, getD_set_ne b hik]; exact hR k b hk
      rcases h1 with h1 | ⟨h1, a0, w0, h2⟩
      · left
        unfold Oper.wp at h1 ⊢
        generalize (execOp a.eval o).run P w = r at h1 ⊢
        cases r with
        | ok x w' =>
          cases x <;> simp only [Oper.upon] at h1 ⊢ <;>
            first
              | exact hstep _ _ h1
              | exact Calls.mono h1 (fun e w'' he => by cases e <;> first | exact hstep _ _ he | exact he)
              | exact Rows.mono h1 (fun _ _ he => hstep _ _ he)
        | halt x w' => cases x <;> simp only [Oper.upon] at h1 ⊢ <;> exact h1
      · exact .inr ⟨h1, a0, w0, h2⟩
theorem wp_region_held_tail {id : Nat} {a : Act} {w : World} (n : Nat) (S : World → Prop) (hm : P.follows .mixedOrders = true) (hB : tailB l n = true) (hS : S w.drew)
    (h : S w.drew → wpAnyH P .any (l.take n).toArray (TailPost P l n Q) S n (Array.replicate n false) a w.drew) : (Code.region id l.toArray true).wp P Q a w := by
  unfold tailB at hB
  simp only [Bool.and_eq_true, decide_eq_true_eq] at hB
  obtain ⟨⟨⟨⟨h1, h2⟩, h3⟩, h4⟩, h5⟩ := hB
  refine wp_region_any hm ?_
  have inv0 : HeadInv .any l.toArray n (Array.replicate l.toArray.size false) :=
    ⟨by simp, fun j oj _ hl => (by rw [getD_replicate_false] at hl; cases hl), fun t _ ht => getD_in (by simpa using ht) (getD_replicate_false _ _)⟩
  have hu : unlisted (Array.replicate n false) = n := by unfold unlisted; simp
  have := wpAny_tail (P := P) (Q := Q) h1 h3 h4 h2 h5 n (Array.replicate n false) _ a w.drew (by simp) hu inv0 (fun i b hi => by
    have h' : i < l.length := by omega
    simp [hi, h']) (wpAny_of_held _ _ _ _ (h hS))
  rw [show n + (l.length - n) = l.toArray.size by simp; omega] at this
  exact this
theorem takeL {S : World → Prop} {a : Act} {w : World} {v : Value} {oi : Oper} {fuel : Nat} {listed : Array Bool} (i : Nat) (hi : l[i]? = some oi) (hs : Region.noSelect l.toArray = true) (hf : Region.free .any l.toArray listed i = true)
    (hr : (Region.ready .any l.toArray listed).contains i = true) (hQ : ∀ c a w, Q (.panic c) (a.put oi.dst v) w → Q (.panic c) a w) (hg : oi.guard = none) (hy : ∀ W, S W → (execOp a.eval oi).run P W = .ok (.value v) W) (hS : S w)
    (h : wpAnyH P .any l.toArray Q S fuel (listed.setIfInBounds i true) (a.put oi.dst v) w) : wpAnyH P .any l.toArray Q S (fuel + 1) listed a w :=
  wpAnyH_take (by simpa using hi) hs hf hr hQ (.inl ⟨by simp [Region.wanted, hg], hy⟩) hS h
theorem onlyL {S : World → Prop} {a : Act} {w : World} {oi : Oper} {fuel : Nat} {listed : Array Bool} (i : Nat) (hi : l[i]? = some oi) (hg : oi.guard = none) (hr : Region.ready .any l.toArray listed = [i])
    (h : ∀ K' : Act → World → Prop, Go.Shut (∀ a w, S w → (S w → wpAnyH P .any l.toArray Q S fuel (listed.setIfInBounds i true) a w) → K' a w) → Oper.wp P oi a w K' Q) : wpAnyH P .any l.toArray Q S (fuel + 1) listed a w := by
  refine wpAnyH_ready hr (by simp) (AllReadyH.cons (by simpa using hi) (fun K' hK => ?_) AllReadyH.nil)
  rw [if_pos (by simp [Region.wanted, hg])]
  exact h K' hK
theorem doneL {S : World → Prop} {a : Act} {w : World} {l' : List Oper} {n fuel : Nat} {listed : Array Bool} (hr : Region.ready .any l'.toArray listed = []) (h : wpList P l.toArray Q (l.drop n) a w) : wpAnyH P .any l'.toArray (TailPost P l n Q) S fuel listed a w :=
  wpAnyH_done hr h fuel
end
end Go.Proofs.YtlmenhjlgmejkaaGreatDoor
namespace Go.Proofs.YtlmenhjlgmejkaaGreatDoor
open Go.RowKit
def RetStKE (s : St) (k c : Int) (w : World) (e : Ending) (w' : World) : Prop := ∃ u, e = .returned (.tuple #[u, .int .i64 k, .int .i64 c]) ∧ IsSt (Lt w'.heap.size) w' u s ∧ Below w.heap.size w w'
theorem drun_end (d : DNet) (s : St) (l : List Int) : drunFrom d s (l.drop l.length) l.length = (s, l.length, 0) := by rw [List.drop_eq_nil_of_le (Nat.le_refl _)]; rfl
theorem drun_drop {d : DNet} {s : St} {l : List Int} {j : Nat} {t : Int} (h : l[j]? = some t) : drunFrom d s (l.drop j) j = if (fireD d s t).2 ≠ 0 then (noSt, j, (fireD d s t).2) else drunFrom d (fireD d s t).1 (l.drop (j + 1)) (j + 1) := by
  rw [drop_cons h, drunFrom]
theorem cloneI_grown (v : Value) (zs : List Int) (wd W : World) (h : SlI (Lt wd.heap.size) wd v zs) (hb : Below wd.heap.size wd W) (hz : zs.length ≤ 1000) :
    Calls Tryz.prog 64 #[v] W fun e w' => ∃ A c, e = .returned (.slice A zs.length c) ∧ SlI (Fr wd.heap.size w') w' (.slice A zs.length c) zs ∧ Below wd.heap.size wd w' ∧ Below W.heap.size W w' := by
  refine (cloneI v zs W (h.now hb) (by omega)).mono ?_
  rintro e w' ⟨v', rfl, ho, hb'⟩
  have h1 : SlI (Fr wd.heap.size w') w' v' zs :=
    Sl.of_own1 ho (by simp) (fun g hg => by have := ho.lt g hg; have := hb.size; exact ⟨by omega, by omega⟩) fun i x hx => ⟨.int .i64 x, by simp [hx], rfl, h.fits x (List.mem_of_getElem? hx)⟩
  obtain ⟨A, c, rfl, _, _, h1⟩ := Sl.open_ h1
  exact ⟨A, c, rfl, h1, bthen hb hb', hb'⟩
theorem cloneV_grown (v : Value) (zs : List Val) (wd W : World) (h : SlV (Lt wd.heap.size) wd v zs) (hb : Below wd.heap.size wd W) (hz : zs.length ≤ 1000) :
    Calls Tryz.prog 65 #[v] W fun e w' => ∃ A c, e = .returned (.slice A zs.length c) ∧ SlV (Fr wd.heap.size w') w' (.slice A zs.length c) zs ∧ Below wd.heap.size wd w' ∧ Below W.heap.size W w' := by
  refine (cloneV v zs W (h.now hb) (by omega)).mono ?_
  rintro e w' ⟨v', rfl, ho, hb'⟩
  have h1 : SlV (Fr wd.heap.size w') w' v' zs := OwnV.fresh ho hb.size h.fits
  obtain ⟨A, c, rfl, _, _, h1⟩ := Sl.open_ h1
  exact ⟨A, c, rfl, h1, bthen hb hb', hb'⟩
set_option maxHeartbeats 16000000 in
set_option maxRecDepth 100000 in
theorem drun_any (n : Nat) (d : DNet) (s : St) (l : List Int) (u us lv : Value) (w : World) (h : IsDn n (Lt w.heap.size) w u d) (hs : IsSt (Lt w.heap.size) w us s) (hll : SlI (Lt w.heap.size) w lv l) (hl : d.vars.length ≤ 1000000) :
    Calls Tryz.prog 14 #[u, us, lv] w (RetStKE (drunB d s l).1 ((drunB d s l).2.1 : Int) (drunB d s l).2.2 w) := by
  have h0 := h
  have hs0 := hs
  obtain ⟨At, ct, Ax, cx, iv, Ag, cg, Aw, cw, rfl, dn1, dn2, dn3, dn4, dn5, ⟨t1, t2⟩, ⟨x1, x2⟩, ⟨g1, g2⟩, v1, v2⟩ := h.open_
  obtain ⟨Am, cm, Av, cv, rfl, s1, s2, ⟨t3, t4⟩, t5, t6⟩ := hs.open_
  obtain ⟨Al, cl, rfl, l1, l2, hll⟩ := hll.open_
  clear h hs dn1 dn2 dn3 dn4 dn5
  have hb0 := bone w (.cells #[.int .i64 d.net.places, .slice At d.net.trans.length ct, .int .i64 d.net.source, .int .i64 d.net.sink, .slice Ax d.vars.length cx, iv, .slice Ag d.guards.length cg, .slice Aw d.writes.length cw] 30)
  have hb1 := bbox hb0 (.cells #[.slice Am s.marks.length cm, .slice Av s.vals.length cv] 33)
  have hb := bbox hb1 (.cells #[.slice none 0 0, .slice none 0 0] 33)
  have hB := ((Blk.new w 30 #[.int .i64 d.net.places, .slice At d.net.trans.length ct, .int .i64 d.net.source, .int .i64 d.net.sink, .slice Ax d.vars.length cx, iv, .slice Ag d.guards.length cg, .slice Aw d.writes.length cw]).alloc (.cells #[.slice Am s.marks.length cm, .slice Av s.vals.length cv] 33)).alloc (.cells #[.slice none 0 0, .slice none 0 0] 33)
  have hC := (Blk.new_at (t := 33) (cs := #[.slice Am s.marks.length cm, .slice Av s.vals.length cv]) (w := w.alloc (.cells #[.int .i64 d.net.places, .slice At d.net.trans.length ct, .int .i64 d.net.source, .int .i64 d.net.sink, .slice Ax d.vars.length cx, iv, .slice Ag d.guards.length cg, .slice Aw d.writes.length cw] 30)) (s := w.heap.size + 1) (by simp)).alloc (.cells #[.slice none 0 0, .slice none 0 0] 33)
  have hZ := Blk.new_at (t := 33) (cs := #[.slice none 0 0, .slice none 0 0]) (w := (w.alloc (.cells #[.int .i64 d.net.places, .slice At d.net.trans.length ct, .int .i64 d.net.source, .int .i64 d.net.sink, .slice Ax d.vars.length cx, iv, .slice Ag d.guards.length cg, .slice Aw d.writes.length cw] 30)).alloc (.cells #[.slice Am s.marks.length cm, .slice Av s.vals.length cv] 33)) (s := w.heap.size + 1 + 1) (by simp)
  have hd1 := h0.now hb
  have hs1 := hs0.now hb
  have hm1 := s1.now hb
  have hv1 := s2.now hb
  clear hs0 hb0 hb1 s1 s2
  have HD : Hid (drunB d s l = if vstateB d s = false then (noSt, 0, 1) else if 1000 < l.length then (noSt, 0, 5) else drunFrom d s l 0) := rfl
  go_enter Tryz.func14, Tryz.ntmps14
  go_upto_region 1 with fail
  generalize hw1e : ((w.alloc (.cells #[.int .i64 d.net.places, .slice At d.net.trans.length ct, .int .i64 d.net.source, .int .i64 d.net.sink, .slice Ax d.vars.length cx, iv, .slice Ag d.guards.length cg, .slice Aw d.writes.length cw] 30)).alloc (.cells #[.slice Am s.marks.length cm, .slice Av s.vals.length cv] 33)).alloc (.cells #[.slice none 0 0, .slice none 0 0] 33) = w1 at *
  clear hw1e
  obtain ⟨q0, q1, q2, q3, q4, q5, q6, q7⟩ := hB.c8
  obtain ⟨y0, y1⟩ := hC.c2
  go_wp2_with fail
  refine (dvstate_any n d s _ _ _ hd1 hs1 hl).mono ?_
  rintro e w2 ⟨rfl, hb2⟩
  have hbw2 := bthen hb hb2
  have hB2 := hB.now hb2
  have hC2 := hC.now hb2
  have hZ2 := hZ.now hb2
  have hm2 := hm1.now hb2
  have hv2 := hv1.now hb2
  clear q0 q1 q2 q3 q4 q5 q6 q7 y0 y1 hB hC hZ hd1 hs1 hm1 hv1 hb2
  cases hq : vstateB d s
  · have HR : Hid (drunB d s l = (noSt, 0, 1)) := by show _ = _; rw [HD.out, if_pos hq]
    clear hq
    obtain ⟨zz0, zz1⟩ := hZ2.c2
    have z0 := hZ2.frozen 0
    have z1 := hZ2.frozen 1
    go_wp2_with fail
    obtain ⟨r0, r1⟩ := (hZ2.set2 (.slice none 0 0) (.slice none 0 0)).c2
    refine bodyPost_ret (v := .tuple #[.agg #[.slice none 0 0, .slice none 0 0], .int .i64 0, .int .i64 1]) (by simp [results, Tryz.results14, go_sem, r0, r1]) rfl ?_
    rw [HR.out]
    exact ⟨_, rfl, noSt_is _ _, bset2 hbw2 (by omega) _ _⟩
  by_cases hlen : 1000 < l.length
  · have HR : Hid (drunB d s l = (noSt, 0, 5)) := by show _ = _; rw [HD.out, if_neg (by rw [hq]; simp), if_pos hlen]
    clear hq
    obtain ⟨zz0, zz1⟩ := hZ2.c2
    have z0 := hZ2.frozen 0
    have z1 := hZ2.frozen 1
    go_wp2_with fail
    obtain ⟨r0, r1⟩ := (hZ2.set2 (.slice none 0 0) (.slice none 0 0)).c2
    refine bodyPost_ret (v := .tuple #[.agg #[.slice none 0 0, .slice none 0 0], .int .i64 0, .int .i64 5]) (by simp [results, Tryz.results14, go_sem, r0, r1]) rfl ?_
    rw [HR.out]
    exact ⟨_, rfl, noSt_is _ _, bset2 hbw2 (by omega) _ _⟩
  have HR : Hid (drunB d s l = drunFrom d s l 0) := by show _ = _; rw [HD.out, if_neg (by rw [hq]; simp), if_neg hlen]
  have HV := Lib.hid hq
  have hmb : s.marks.length ≤ 1000 := by
    have a := (validOk (state_parts (vstate_parts hq).2).1)
    have b := (markOk (n := d.net) (state_parts (vstate_parts hq).2).2.1).1
    omega
  have hvb : s.vals.length ≤ 1000 := by
    have a := (asg_parts (state_parts (vstate_parts hq).2).2.2)
    have b := a.1
    unfold varsB at b
    simp only [Bool.and_eq_true, decide_eq_true_eq] at b
    omega
  clear hq HD
  have hsz2 : w.heap.size + 3 ≤ w2.heap.size := by have := hZ2.lt; omega
  have HCI : Hid (∀ W, Below w2.heap.size w2 W → Calls Tryz.prog 64 #[.slice Am s.marks.length cm] W fun e w' => ∃ A c, e = .returned (.slice A s.marks.length c) ∧ SlI (Fr w2.heap.size w') w' (.slice A s.marks.length c) s.marks ∧ Below w2.heap.size w2 w' ∧ Below W.heap.size W w') := fun W hW => cloneI_grown _ s.marks w2 W hm2 hW hmb
  have HCV : Hid (∀ W, Below w2.heap.size w2 W → Calls Tryz.prog 65 #[.slice Av s.vals.length cv] W fun e w' => ∃ A c, e = .returned (.slice A s.vals.length c) ∧ SlV (Fr w2.heap.size w') w' (.slice A s.vals.length c) s.vals ∧ Below w2.heap.size w2 w' ∧ Below W.heap.size W w') := fun W hW => cloneV_grown _ s.vals w2 W hv2 hW hvb
  have HS : Hid (∀ W, Below w2.heap.size w2 W → W.cell? ⟨w.heap.size + 1, 0, none⟩ = some (.slice Am s.marks.length cm) ∧ W.cell? ⟨w.heap.size + 1, 1, none⟩ = some (.slice Av s.vals.length cv)) := fun W hW => (hC2.now hW).c2
  have hbd : Below w2.heap.size w2 w2.drew := (Below.refl _ _).drew
  obtain ⟨e0, e1⟩ := HS.out _ hbd
  clear hm2 hv2
  go_upto_region 5 with fail
  refine wp_region_held_tail 7 (fun W => W.cell? ⟨w.heap.size + 1, 0, none⟩ = some (.slice Am s.marks.length cm) ∧ W.cell? ⟨w.heap.size + 1, 1, none⟩ = some (.slice Av s.vals.length cv)) (by kernel_rfl) (by kernel_rfl) ⟨e0, e1⟩ (fun hHeld => ?_)
  simp only [List.take_succ_cons, List.take_zero]
  refine takeL (v := ?v0) 0 rfl (by kernel_rfl) (by kernel_rfl) (by kernel_rfl) (fun _ _ _ h => h) rfl ?hy0 hHeld ?rest0
  case hy0 => (intro W hW; obtain ⟨k0, k1⟩ := hW; go_simp <;> rfl)
  simp only [Act.put, List.setIfInBounds_toArray, List.set_cons_zero, List.set_cons_succ]
  refine takeL (v := ?v1) 1 rfl (by kernel_rfl) (by kernel_rfl) (by kernel_rfl) (fun _ _ _ h => h) rfl ?hy1 hHeld ?rest1
  case hy1 => (intro W hW; obtain ⟨k0, k1⟩ := hW; go_simp <;> rfl)
  simp only [Act.put, List.setIfInBounds_toArray, List.set_cons_zero, List.set_cons_succ]
  refine takeL (v := ?v3) 3 rfl (by kernel_rfl) (by kernel_rfl) (by kernel_rfl) (fun _ _ _ h => h) rfl ?hy3 hHeld ?rest3
  case hy3 => (intro W hW; obtain ⟨k0, k1⟩ := hW; go_simp <;> rfl)
  simp only [Act.put, List.setIfInBounds_toArray, List.set_cons_zero, List.set_cons_succ]
  refine takeL (v := ?v4) 4 rfl (by kernel_rfl) (by kernel_rfl) (by kernel_rfl) (fun _ _ _ h => h) rfl ?hy4 hHeld ?rest4
  case hy4 => (intro W hW; obtain ⟨k0, k1⟩ := hW; go_simp <;> rfl)
  simp only [Act.put, List.setIfInBounds_toArray, List.set_cons_zero, List.set_cons_succ]
  refine onlyL 2 rfl rfl (by kernel_rfl) (fun K hK => ?_)
  go_simp
  refine (HCI.out _ hbd).mono ?_
  rintro e w3 ⟨Am3, cm3, rfl, hm3, hb3, _⟩
  refine hK.out _ _ (HS.out _ hb3) (fun hHeld => ?_)
  clear hK K
  refine onlyL 5 rfl rfl (by kernel_rfl) (fun K hK => ?_)
  go_simp
  refine (HCV.out _ hb3).mono ?_
  rintro e w4 ⟨Av3, cv3, rfl, hv3, hb4, hb34⟩
  refine hK.out _ _ (HS.out _ hb4) (fun hHeld => ?_)
  clear hK K
  refine takeL (v := ?v6) 6 rfl (by kernel_rfl) (by kernel_rfl) (by kernel_rfl) (fun _ _ _ h => h) rfl ?hy6 hHeld ?rest6
  case hy6 => (intro W hW; go_simp <;> rfl)
  simp only [Act.put, List.setIfInBounds_toArray, List.set_cons_zero, List.set_cons_succ]
  refine doneL (by kernel_rfl) ?_
  simp only [List.drop_succ_cons, List.drop_zero]
  have hm4 := hm3.nowF hb34
  have hB4 := hB2.now hb4
  have hC4 := hC2.now hb4
  have hZ4 := hZ2.now hb4
  have hbw4 := bthen hbw2 hb4
  clear HCI HCV HS hbd e0 e1 hm3 hb3 hb34 hHeld hB2 hC2 hZ2 hb4 hbw2
  obtain ⟨y0, y1⟩ := hC4.c2
  have z0 := hC4.frozen 0
  have z1 := hC4.frozen 1
  go_upto_region 6 with fail
  have hC5 := hC4.set2 (.slice Am3 s.marks.length cm3) (.slice Av3 s.vals.length cv3)
  have hB5 := (hB4.far (p := ⟨w.heap.size + 1, 0, none⟩) (by show w.heap.size ≠ w.heap.size + 1; omega) (.slice Am3 s.marks.length cm3)).far (p := ⟨w.heap.size + 1, 1, none⟩) (by show w.heap.size ≠ w.heap.size + 1; omega) (.slice Av3 s.vals.length cv3)
  have hZ5 := (hZ4.far (p := ⟨w.heap.size + 1, 0, none⟩) (by show w.heap.size + 1 + 1 ≠ w.heap.size + 1; omega) (.slice Am3 s.marks.length cm3)).far (p := ⟨w.heap.size + 1, 1, none⟩) (by show w.heap.size + 1 + 1 ≠ w.heap.size + 1; omega) (.slice Av3 s.vals.length cv3)
  have hm5 := (SlI.set2F hm4 hC4 (.slice Am3 s.marks.length cm3) (.slice Av3 s.vals.length cv3)).weak
  have hv5 := (SlV.set2F hv3 hC4 (.slice Am3 s.marks.length cm3) (.slice Av3 s.vals.length cv3)).weak
  have hbw5 := bset2 hbw4 (g := w.heap.size + 1) (by omega) (.slice Am3 s.marks.length cm3) (.slice Av3 s.vals.length cv3)
  generalize hw5 : (w4.setCell ⟨w.heap.size + 1, 0, none⟩ (.slice Am3 s.marks.length cm3)).setCell ⟨w.heap.size + 1, 1, none⟩ (.slice Av3 s.vals.length cv3) = w5 at *
  clear hw5 y0 y1 z0 z1 hC4 hB4 hZ4 hm4 hv3 hbw4
  go_wp2_with fail
  go_loopw [31] (fun i wr => ∃ (j : Nat) (cur : St) (Am cm Av cv : _), j ≤ l.length ∧ i = .int .i64 j ∧ drunFrom d s l 0 = drunFrom d cur (l.drop j) j ∧ vstateB d cur = true ∧ Blk wr (w.heap.size + 1) 33 #[.slice Am cur.marks.length cm, .slice Av cur.vals.length cv] ∧ SlI (Lt wr.heap.size) wr (.slice Am cur.marks.length cm) cur.marks ∧ SlV (Lt wr.heap.size) wr (.slice Av cur.vals.length cv) cur.vals ∧ Blk wr w.heap.size 30 #[.int .i64 d.net.places, .slice At d.net.trans.length ct, .int .i64 d.net.source, .int .i64 d.net.sink, .slice Ax d.vars.length cx, iv, .slice Ag d.guards.length cg, .slice Aw d.writes.length cw] ∧ Blk wr (w.heap.size + 1 + 1) 33 #[.slice none 0 0, .slice none 0 0] ∧ Below w.heap.size w wr) (fun i _ => l.length - (intOf i).toNat)
  case atStart => exact ⟨0, s, _, _, _, _, Nat.zero_le _, rfl, rfl, HV.out, hC5, hm5, hv5, hB5, hZ5, hbw5⟩
  case round =>
    obtain ⟨j, cur, Am, cm, Av, cv, hj, rfl, hrun, hvs, hCr, hmr, hvr, hBr, hZr, hbr⟩ := hrel
    have HRN := Lib.hid hrun
    have HVS := Lib.hid hvs
    clear hrun hvs hC5 hm5 hv5 hB5 hZ5 hbw5
    have hszr := hZr.lt
    obtain ⟨y0, y1⟩ := hCr.c2
    by_cases hlt : j < l.length
    rotate_left
    · obtain rfl : j = l.length := by omega
      obtain ⟨zz0, zz1⟩ := hZr.c2
      have z0 := hZr.frozen 0
      have z1 := hZr.frozen 1
      go_wp2_with fail
      obtain ⟨r0, r1⟩ := (hZr.set2 (.slice Am cur.marks.length cm) (.slice Av cur.vals.length cv)).c2
      refine bodyPost_ret (v := .tuple #[.agg #[.slice Am cur.marks.length cm, .slice Av cur.vals.length cv], .int .i64 l.length, .int .i64 0]) (by simp [results, Tryz.results14, go_sem, r0, r1]) rfl ?_
      rw [HR.out, HRN.out, drun_end]
      refine ⟨_, rfl, ⟨_, _, rfl, ?_, ?_⟩, bset2 hbr (by omega) _ _⟩
      · exact SlI.set2 hmr hZr _ _
      · exact SlV.set2 hvr hZr _ _
    obtain ⟨b, o, t, rfl, hD, hx, hf, c0⟩ := (hll.now hbr).at_ hlt
    have HX := Lib.hid (drun_drop (d := d) (s := cur) hx)
    clear hx
    obtain ⟨q0, q1, q2, q3, q4, q5, q6, q7⟩ := hBr.c8
    have HF := Lib.hid (fire_one n d cur t _ _ wr (h0.now hbr) ⟨_, _, rfl, hmr, hvr⟩ HVS.out hl)
    have HKS : Hid ((fireD d cur t).2 = 0 → vstateB d (fireD d cur t).1 = true) := fun hc => by
      obtain ⟨p1, p2⟩ := vstate_parts HVS.out
      unfold vstateB
      rw [p1, fire_state p1 p2 hc]; rfl
    have i1 : (0 : Int) ≤ (j : Int) := by omega
    have i2 : (j : Int) < (l.length : Int) := by omega
    go_wp2_with fail
    refine HF.out.mono ?_
    rintro e w6 ⟨u6, rfl, hu6, hb6⟩
    clear HF q0 q1 q2 q3 q4 q5 q6 q7 y0 y1 c0
    generalize fireD d cur t = p at *
    obtain ⟨ps, pc⟩ := p
    dsimp only at *
    obtain ⟨Am2, cm2, Av2, cv2, rfl, m1, m2, _, _, _⟩ := hu6.weak.open_
    have hb7 := bone w6 (.cells #[.slice Am2 ps.marks.length cm2, .slice Av2 ps.vals.length cv2] 33)
    have hY := Blk.new w6 33 #[.slice Am2 ps.marks.length cm2, .slice Av2 ps.vals.length cv2]
    have hB7 := (hBr.now hb6).now hb7
    have hC7 := (hCr.now hb6).now hb7
    have hZ7 := (hZr.now hb6).now hb7
    have hm7 := m1.now hb7
    have hv7 := m2.now hb7
    have hbw7 := bthen (bthen hbr hb6) hb7
    have hszz : w.heap.size + 1 + 1 < w6.heap.size := by have := hb6.size; omega
    clear hBr hCr hZr hmr hvr m1 m2 hu6 hb6
    go_upto_region 10 with fail
    generalize hw7 : w6.alloc (.cells #[.slice Am2 ps.marks.length cm2, .slice Av2 ps.vals.length cv2] 33) = w7 at *
    clear hw7 hb7
    by_cases hpc : pc = 0
    rotate_left
    · have HE : Hid (drunB d s l = (noSt, j, pc)) := by show _ = _; rw [HR.out, HRN.out, HX.out, if_pos hpc]
      have bpc : (pc != 0) = true := by simpa using hpc
      clear hpc
      obtain ⟨zz0, zz1⟩ := hZ7.c2
      have z0 := hZ7.frozen 0
      have z1 := hZ7.frozen 1
      go_wp2_with fail
      obtain ⟨r0, r1⟩ := (hZ7.set2 (.slice none 0 0) (.slice none 0 0)).c2
      refine bodyPost_ret (v := .tuple #[.agg #[.slice none 0 0, .slice none 0 0], .int .i64 j, .int .i64 pc]) (by simp [results, Tryz.results14, go_sem, r0, r1]) rfl ?_
      rw [HE.out]
      exact ⟨_, rfl, noSt_is _ _, bset2 hbw7 (by omega) _ _⟩
    · subst hpc
      have HE : Hid (drunFrom d s l 0 = drunFrom d ps (l.drop (j + 1)) (j + 1)) := by show _ = _; rw [HRN.out, HX.out]; rfl
      obtain ⟨y0, y1⟩ := hC7.c2
      have z0 := hC7.frozen 0
      have z1 := hC7.frozen 1
      obtain ⟨u0, u1⟩ := hY.c2
      go_wp2_with fail
      have hC8 := hC7.set2 (.slice Am2 ps.marks.length cm2) (.slice Av2 ps.vals.length cv2)
      have hB8 := (hB7.far (p := ⟨w.heap.size + 1, 0, none⟩) (by show w.heap.size ≠ w.heap.size + 1; omega) (.slice Am2 ps.marks.length cm2)).far (p := ⟨w.heap.size + 1, 1, none⟩) (by show w.heap.size ≠ w.heap.size + 1; omega) (.slice Av2 ps.vals.length cv2)
      have hZ8 := (hZ7.far (p := ⟨w.heap.size + 1, 0, none⟩) (by show w.heap.size + 1 + 1 ≠ w.heap.size + 1; omega) (.slice Am2 ps.marks.length cm2)).far (p := ⟨w.heap.size + 1, 1, none⟩) (by show w.heap.size + 1 + 1 ≠ w.heap.size + 1; omega) (.slice Av2 ps.vals.length cv2)
      go_roundw
      case rel => exact ⟨j + 1, ps, _, _, _, _, by omega, by go_num, HE.out, HKS.out rfl, hC8, SlI.set2 hm7 hC7 _ _, SlV.set2 hv7 hC7 _ _, hB8, hZ8, bset2 hbw7 (by omega) _ _⟩
      case measure => simp [intOf]; omega
def arcOf (back : Bool) (t : Tr) : List Int × List Int := if back then (t.outs, t.ins) else (t.ins, t.outs)
def arcs (back : Bool) (n : Net) : List (List Int × List Int) := n.trans.map (arcOf back)
def Reach (ts : List (List Int × List Int)) (a p : Int) : Prop := ∀ S : Int → Prop, S a → (∀ t ∈ ts, ∀ q ∈ t.1, S q → ∀ r ∈ t.2, S r) → S p
theorem Reach.start (ts : List (List Int × List Int)) (a : Int) : Reach ts a a := fun _ h _ => h
theorem Reach.step {ts : List (List Int × List Int)} {a q r : Int} {t : List Int × List Int} (ht : t ∈ ts) (hq : q ∈ t.1) (h : Reach ts a q) (hr : r ∈ t.2) : Reach ts a r :=
  fun S h1 h2 => h2 t ht q hq (h S h1 h2) r hr
def setAll (pl : List Bool) (ps : List Int) : List Bool := ps.foldl (fun l p => l.set p.toNat true) pl
theorem setAll_length (ps : List Int) : ∀ pl, (setAll pl ps).length = pl.length := by
  unfold setAll
  induction ps with
  | nil => intro pl; rfl
  | cons p ps ih => intro pl; rw [List.foldl_cons, ih, List.length_set]
theorem setAll_get (ps : List Int) : ∀ (pl : List Bool) (k : Nat), (∀ p ∈ ps, 0 ≤ p ∧ p.toNat < pl.length) → ((setAll pl ps).getD k false = true ↔ pl.getD k false = true ∨ (k : Int) ∈ ps) := by
  induction ps with
  | nil => intro pl k _; simp [setAll]
  | cons p ps ih =>
    intro pl k h
    have e : setAll pl (p :: ps) = setAll (pl.set p.toNat true) ps := rfl
    rw [e, ih (pl.set p.toNat true) k (fun q hq => by rw [List.length_set]; exact h q (by simp [hq]))]
    have hp := h p (by simp)
    simp only [List.getD_eq_getElem?_getD, List.getElem?_set, List.mem_cons]
    by_cases hk : p.toNat = k
    · subst hk
      have : ((p.toNat : Nat) : Int) = p := by omega
      simp [hp.2, this]
    · have : ¬ (k : Int) = p := by omega
      simp [hk, this]
structure Inv (ts : List (List Int × List Int)) (P : Nat) (a : Int) (pl tr : List Bool) : Prop where
  lp : pl.length = P
  lt : tr.length = ts.length
  has : pl.getD a.toNat false = true
  ok : ∀ k, pl.getD k false = true → Reach ts a k
  done : ∀ i t, ts[i]? = some t → tr.getD i false = true → (∃ q ∈ t.1, Reach ts a q) ∧ ∀ r ∈ t.2, pl.getD r.toNat false = true
def anyIn (pl : List Bool) (ps : List Int) : Bool := ps.any fun p => pl.getD p.toNat false
def InPl (P : Nat) (ts : List (List Int × List Int)) : Prop := ∀ t ∈ ts, (∀ q ∈ t.1, 0 ≤ q ∧ q.toNat < P) ∧ (∀ r ∈ t.2, 0 ≤ r ∧ r.toNat < P)
theorem getD_set_bool (l : List Bool) (i j : Nat) : (l.set i true).getD j false = true ↔ (i = j ∧ i < l.length) ∨ l.getD j false = true := by
  simp only [List.getD_eq_getElem?_getD, List.getElem?_set]
  by_cases h : i = j
  · subst h
    by_cases hl : i < l.length
    · simp [hl]
    · simp [hl]
  · simp [h]
theorem Inv.start {ts : List (List Int × List Int)} {P : Nat} {a : Int} (h0 : 0 ≤ a) (h1 : a.toNat < P) : Inv ts P a ((List.replicate P false).set a.toNat true) (List.replicate ts.length false) := by
  refine ⟨by simp, by simp, ?_, ?_, ?_⟩
  · rw [getD_set_bool]; left; simp [h1]
  · intro k hk
    rw [getD_set_bool] at hk
    rcases hk with ⟨h, _⟩ | h
    · have : (k : Int) = a := by omega
      rw [this]; exact Reach.start ts a
    · simp only [List.getD_eq_getElem?_getD, List.getElem?_replicate] at h
      split at h <;> simp at h
  · intro i t _ h
    simp only [List.getD_eq_getElem?_getD, List.getElem?_replicate] at h
    split at h <;> simp at h
theorem Inv.step {ts : List (List Int × List Int)} {P : Nat} {a : Int} {pl tr : List Bool} (h : Inv ts P a pl tr) (hin : InPl P ts) {i : Nat} {t : List Int × List Int} (ht : ts[i]? = some t) (hany : anyIn pl t.1 = true) :
    Inv ts P a (setAll pl t.2) (tr.set i true) := by
  obtain ⟨h1, h2⟩ := hin t (List.mem_of_getElem? ht)
  have hg := fun k => setAll_get t.2 pl k (fun p hp => by rw [h.lp]; exact h2 p hp)
  have hq : ∃ q ∈ t.1, Reach ts a q := by
    unfold anyIn at hany
    rw [List.any_eq_true] at hany
    obtain ⟨q, hq, hq2⟩ := hany
    refine ⟨q, hq, ?_⟩
    have := h.ok q.toNat hq2
    rwa [show ((q.toNat : Nat) : Int) = q from by have := h1 q hq; omega] at this
  refine ⟨by rw [setAll_length]; exact h.lp, by rw [List.length_set]; exact h.lt, ?_, ?_, ?_⟩
  · rw [hg]; exact .inl h.has
  · intro k hk
    rw [hg] at hk
    rcases hk with hk | hk
    · exact h.ok k hk
    · obtain ⟨q, hq, hr⟩ := hq
      exact Reach.step (List.mem_of_getElem? ht) hq hr hk
  · intro j u hu hj
    rw [getD_set_bool] at hj
    rcases hj with ⟨rfl, _⟩ | hj
    · rw [ht] at hu
      injection hu with hu
      subst hu
      refine ⟨hq, fun r hr => ?_⟩
      rw [hg]; right
      rwa [show ((r.toNat : Nat) : Int) = r from by have := h2 r hr; omega]
    · obtain ⟨a1, a2⟩ := h.done j u hu hj
      exact ⟨a1, fun r hr => by rw [hg]; exact .inl (a2 r hr)⟩
def Found (ts : List (List Int × List Int)) (P : Nat) (a : Int) (pl tr : List Bool) : Prop :=
  pl.length = P ∧ tr.length = ts.length ∧ (∀ k, pl.getD k false = true ↔ Reach ts a k) ∧ (∀ i t, ts[i]? = some t → (tr.getD i false = true ↔ ∃ q ∈ t.1, Reach ts a q))
def falses (tr : List Bool) : Nat := (tr.filter (fun b => !b)).length
theorem falses_set (tr : List Bool) : ∀ i, i < tr.length → tr.getD i false = false → falses (tr.set i true) + 1 = falses tr := by
  unfold falses
  induction tr with
  | nil => intro i hi; simp at hi
  | cons b tr ih =>
    intro i hi h
    cases i with
    | zero => simp at h; subst h; simp
    | succ i =>
      have := ih i (by simpa using hi) (by simpa using h)
      cases b
      · simp only [List.set_cons_succ, List.filter_cons, Bool.not_false, if_true, List.length_cons]; omega
      · simp only [List.set_cons_succ, List.filter_cons, Bool.not_true, Bool.false_eq_true, if_false]; omega
end Go.Proofs.YtlmenhjlgmejkaaGreatDoor
