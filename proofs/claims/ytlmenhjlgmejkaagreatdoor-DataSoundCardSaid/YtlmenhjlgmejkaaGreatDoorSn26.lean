/- Merged texts. -/
import Derived.Test.YtlmenhjlgmejkaaGreatDoorSn15
set_option linter.all false
namespace Go.Proofs.YtlmenhjlgmejkaaGreatDoor
open Go.RowKit
theorem asg_no {vs : List Var} {vals : List Val} (h : varsB vs = false) : asgB vs vals = false := by
 unfold asgB inAllE okB
 rw [h]; rfl
theorem exs_all {p : Ex → Bool} {ls : List Ex} (h : ∀ q y, q < ls.length → ls[q]? = some y → p y = true) : ls.all p = true := by
 rw [List.all_eq_true]
 intro y hy
 obtain ⟨q, hq⟩ := List.mem_iff_getElem?.1 hy
 have hl : q < ls.length := by
  rcases Nat.lt_or_ge q ls.length with h' | h'
  ·exact h'
  ·rw [List.getElem?_eq_none h'] at hq; cases hq
 exact h q y hl hq
theorem exs_bad {p : Ex → Bool} {ls : List Ex} {q : Nat} {y : Ex} (h : ls[q]? = some y) (hp : p y = false) : ls.all p = false := by
 rw [Bool.eq_false_iff]
 intro ha
 rw [List.all_eq_true] at ha
 have := ha y (List.mem_of_getElem? h)
 rw [hp] at this
 cases this
def VrRel (vs : List Var) (l : List Wr) (w w6 : World) (j : Value) (W : World) : Prop :=
 ∃ (m : Nat) (z : Int), m ≤ l.length ∧ j = .int .i64 m ∧ ((m = 0 ∧ z = -1) ∨ ∃ p y, m = p + 1 ∧ l[p]? = some y ∧ y.var = z ∧ 0 ≤ z) ∧ wrsB vs (-1) l = wrsB vs z (l.drop m) ∧ Below w.heap.size w W ∧ Below w6.heap.size w6 W
section
variable {P : Program} {l : List Oper} {Q : Exit → Act → World → Prop}
theorem takeG {S : World → Prop} {a : Act} {w : World} {v : Value} {oi : Oper} {fuel : Nat} {listed : Array Bool} (i : Nat) (hi : l[i]? = some oi) (hs : Region.noSelect l.toArray = true) (hf : Region.free .any l.toArray listed i = true)
  (hr : (Region.ready .any l.toArray listed).contains i = true) (hQ : ∀ c a w, Q (.panic c) (a.put oi.dst v) w → Q (.panic c) a w) (hg : Region.wanted oi (yielded l.toArray a.tmps) = true) (hy : ∀ W, S W → (execOp a.eval oi).run P W = .ok (.value v) W) (hS : S w)
  (h : wpAnyH P .any l.toArray Q S fuel (listed.setIfInBounds i true) (a.put oi.dst v) w) : wpAnyH P .any l.toArray Q S (fuel + 1) listed a w :=
 wpAnyH_take (by simpa using hi) hs hf hr hQ (.inl ⟨hg, hy⟩) hS h
theorem skipG {S : World → Prop} {a : Act} {w : World} {oi : Oper} {fuel : Nat} {listed : Array Bool} (i : Nat) (hi : l[i]? = some oi) (hs : Region.noSelect l.toArray = true) (hf : Region.free .any l.toArray listed i = true)
  (hr : (Region.ready .any l.toArray listed).contains i = true) (hQ : ∀ c a w, Q (.panic c) (a.put oi.dst undef) w → Q (.panic c) a w) (hg : Region.wanted oi (yielded l.toArray a.tmps) = false) (hS : S w)
  (h : wpAnyH P .any l.toArray Q S fuel (listed.setIfInBounds i true) (a.put oi.dst undef) w) : wpAnyH P .any l.toArray Q S (fuel + 1) listed a w :=
 wpAnyH_take (by simpa using hi) hs hf hr hQ (.inr ⟨hg, rfl⟩) hS h
theorem onlyG {S : World → Prop} {a : Act} {w : World} {oi : Oper} {fuel : Nat} {listed : Array Bool} (i : Nat) (hi : l[i]? = some oi) (hg : Region.wanted oi (yielded l.toArray a.tmps) = true) (hr : Region.ready .any l.toArray listed = [i])
  (h : ∀ K' : Act → World → Prop, Go.Shut (∀ a w, S w → (S w → wpAnyH P .any l.toArray Q S fuel (listed.setIfInBounds i true) a w) → K' a w) → Oper.wp P oi a w K' Q) : wpAnyH P .any l.toArray Q S (fuel + 1) listed a w := by
 refine wpAnyH_ready hr (by simp) (AllReadyH.cons (by simpa using hi) (fun K' hK => ?_) AllReadyH.nil)
 rw [if_pos hg]
 exact h K' hK
end
set_option maxHeartbeats 64000000 in
set_option maxRecDepth 100000 in
theorem dvalid_ref (n : Nat) (d : DNet) (u : Value) (w : World) (h : IsDn n (Lt w.heap.size) w u d) :
  Calls Tryz.prog 23 #[u] w fun e w' => e = .returned (.bool (dvalidB d)) ∧ Below w.heap.size w w' := by
 obtain ⟨At, ct, Ax, cx, iv, Ag, cg, Aw, cw, rfl, h1, h2, h3, h4, h5, ⟨t1, t2⟩, ⟨x1, x2⟩, ⟨g1, g2⟩, v1, v2⟩ := h.open_
 clear h
 have hb := bone w (.cells #[.int .i64 d.net.places, .slice At d.net.trans.length ct, .int .i64 d.net.source, .int .i64 d.net.sink, .slice Ax d.vars.length cx, iv, .slice Ag d.guards.length cg, .slice Aw d.writes.length cw] 30)
 have hB := Blk.new w 30 #[.int .i64 d.net.places, .slice At d.net.trans.length ct, .int .i64 d.net.source, .int .i64 d.net.sink, .slice Ax d.vars.length cx, iv, .slice Ag d.guards.length cg, .slice Aw d.writes.length cw]
 have hn1 := h1.now hb
 have hx1 := h2.now hb
 have hi1 := h3.now hb
 have hg1 := SlE.now h4 hb
 have hw1 := SlWW.now h5 hb
 clear h1 h2 h3 h4 h5
 have HD : Hid (dvalidB d = (validB d.net && asgB d.vars d.init && decide (d.guards.length = d.net.trans.length) && decide (d.writes.length = d.net.trans.length) &&
  (d.guards.all fun x => typedB d.vars x 1) && d.writes.all (wrsB d.vars (-1)))) := rfl
 go_enter Tryz.func23, Tryz.ntmps23
 go_upto_region 1 with fail
 generalize hw1e : w.alloc (.cells #[.int .i64 d.net.places, .slice At d.net.trans.length ct, .int .i64 d.net.source, .int .i64 d.net.sink, .slice Ax d.vars.length cx, iv, .slice Ag d.guards.length cg, .slice Aw d.writes.length cw] 30) = w1 at *
 clear hw1e
 obtain ⟨q0, q1, q2, q3, q4, q5, q6, q7⟩ := hB.c8
 go_wp2_with fail
 refine (valid_ref d.net _ _ hn1).mono ?_
 rintro e w2 ⟨rfl, hb2⟩
 have hbw2 := bthen hb hb2
 have hB2 := hB.now hb2
 have hx2 := hx1.now hb2
 have hi2 := hi1.now hb2
 have hg2 := SlE.now hg1 hb2
 have hw2 := SlWW.now hw1 hb2
 clear q0 q1 q2 q3 q4 q5 q6 q7 hB hn1 hx1 hi1 hg1 hw1 hb2
 obtain ⟨q0, q1, q2, q3, q4, q5, q6, q7⟩ := hB2.c8
 generalize hv1 : validB d.net = b1 at *
 clear hv1
 cases b1
 ·have HR : Hid (dvalidB d = false) := by show _ = _; rw [HD.out]; simp
  go_wp2_with fail
  go_ret
  exact ⟨ret_bool HR.out.symm, hbw2⟩
 go_wp2_with fail
 refine (validVars_ref d.vars _ _ hx2).mono ?_
 rintro e w3 ⟨rfl, hb3⟩
 have hbw3 := bthen hbw2 hb3
 have hB3 := hB2.now hb3
 have hx3 := hx2.now hb3
 have hi3 := hi2.now hb3
 have hg3 := SlE.now hg2 hb3
 have hw3 := SlWW.now hw2 hb3
 clear q0 q1 q2 q3 q4 q5 q6 q7 hB2 hx2 hi2 hg2 hw2 hb3
 obtain ⟨q0, q1, q2, q3, q4, q5, q6, q7⟩ := hB3.c8
 cases hv2 : varsB d.vars
 ·have HR : Hid (dvalidB d = false) := by show _ = _; rw [HD.out, asg_no hv2]; simp
  clear hv2
  go_wp2_with fail
  go_ret
  exact ⟨ret_bool HR.out.symm, hbw3⟩
 have HVB := Lib.hid hv2
 clear hv2
 go_wp2_with fail
 refine (dassign_ref d.vars d.init _ _ _ hx3 hi3 HVB.out).mono ?_
 rintro e w4 ⟨rfl, hb4⟩
 have hbw4 := bthen hbw3 hb4
 have hB4 := hB3.now hb4
 have hx4 := hx3.now hb4
 have hg4 := SlE.now hg3 hb4
 have hw4 := SlWW.now hw3 hb4
 clear q0 q1 q2 q3 q4 q5 q6 q7 hB3 hx3 hi3 hg3 hw3 hb4
 obtain ⟨q0, q1, q2, q3, q4, q5, q6, q7⟩ := hB4.c8
 generalize hv2 : asgB d.vars d.init = b2 at *
 clear hv2
 cases b2
 ·have HR : Hid (dvalidB d = false) := by show _ = _; rw [HD.out]; simp
  go_wp2_with fail
  go_ret
  exact ⟨ret_bool HR.out.symm, hbw4⟩
 by_cases c3 : d.guards.length = d.net.trans.length
 rotate_left
 ·have HR : Hid (dvalidB d = false) := by show _ = _; rw [HD.out, decide_eq_false c3]; simp
  have c3' : ((d.guards.length : Int) != d.net.trans.length) = true := by simp only [bne_iff_ne, ne_eq]; omega
  clear c3
  go_wp2_with fail
  go_ret
  exact ⟨ret_bool HR.out.symm, hbw4⟩
 by_cases c4 : d.writes.length = d.net.trans.length
 rotate_left
 ·have HR : Hid (dvalidB d = false) := by show _ = _; rw [HD.out, decide_eq_false c4]; simp
  have c3' : ((d.guards.length : Int) != d.net.trans.length) = false := by simp only [bne_eq_false_iff_eq]; omega
  have c4' : ((d.writes.length : Int) != d.net.trans.length) = true := by simp only [bne_iff_ne, ne_eq]; omega
  clear c3 c4
  go_wp2_with fail
  go_ret
  exact ⟨ret_bool HR.out.symm, hbw4⟩
 have HR : Hid (dvalidB d = ((d.guards.all fun x => typedB d.vars x 1) && d.writes.all (wrsB d.vars (-1)))) := by show _ = _; rw [HD.out, decide_eq_true c3, decide_eq_true c4]; simp
 have c3' : ((d.guards.length : Int) != d.net.trans.length) = false := by simp only [bne_eq_false_iff_eq]; omega
 have c4' : ((d.writes.length : Int) != d.net.trans.length) = false := by simp only [bne_eq_false_iff_eq]; omega
 have hgw : d.writes.length = d.guards.length := by omega
 have HGW := Lib.hid hgw
 clear HD c3 c4 hgw
 go_wp2_with fail
 clear c3' c4'
 go_loopw [3] (fun i wr => ∃ k : Nat, k ≤ d.guards.length ∧ i = .int .i64 k ∧ (∀ q y, q < k → d.guards[q]? = some y → typedB d.vars y 1 = true) ∧ (∀ q y, q < k → d.writes[q]? = some y → wrsB d.vars (-1) y = true) ∧ Below w.heap.size w wr ∧ Below w4.heap.size w4 wr) (fun i _ => d.guards.length - (intOf i).toNat)
 case atStart => exact ⟨0, Nat.zero_le _, rfl, fun q y hq _ => absurd hq (by omega), fun q y hq _ => absurd hq (by omega), hbw4, Below.refl _ _⟩
 case round =>
  obtain ⟨k, hk, rfl, hall, hall2, hbr, hbr4⟩ := hrel
  have HA := Lib.hid hall
  have HA2 := Lib.hid hall2
  clear hall hall2
  have hB5 := hB4.now hbr4
  have hx5 := hx4.now hbr4
  have hg5 := SlE.now hg4 hbr4
  have hw5 := SlWW.now hw4 hbr4
  clear hB4 hx4 hg4 hw4 q0 q1 q2 q3 q4 q5 q6 q7
  obtain ⟨q0, q1, q2, q3, q4, q5, q6, q7⟩ := hB5.c8
  by_cases hlt : k < d.guards.length
  rotate_left
  ·obtain rfl : k = d.guards.length := by omega
   have HRR : Hid (dvalidB d = true) := by show _ = _; rw [HR.out, exs_all HA.out, rows_all (fun q y hq => HA2.out q y (by have := HGW.out; omega))]; rfl
   go_wp2_with fail
   go_ret
   exact ⟨ret_bool HRR.out.symm, hbr⟩
  obtain ⟨bG, oG, x, lv, n', hn, rfl, hDG, hxx, hex, hfv, hsl, e0, e1, e2, e3, e4, e5⟩ := hg5.at_ hlt
  have HXX := Lib.hid hxx
  obtain ⟨A2, c2', rfl, m1, m2, _⟩ := hsl.open_
  have hex5 := hex
  clear hxx hex hsl hfv hn
  have hltw : k < d.writes.length := by have := HGW.out; omega
  obtain ⟨bA, oA, l, lv, rfl, hD, hlx, hslw, hcell⟩ := hw5.at_ hltw
  have HLX := Lib.hid hlx
  clear hlx
  obtain ⟨AW, cW, rfl, m3, m4, hslw⟩ := Sl.open_ hslw
  have hsl5 : SlW n (Lt wr.heap.size) wr (.slice AW l.length cW) l := hslw
  clear hslw
  obtain ⟨w5, hw5e⟩ : ∃ z, z = wr := ⟨_, rfl⟩
  subst hw5e
  have HCL : Hid (∀ W, Below w5.heap.size w5 W → Calls Tryz.prog 77 #[.slice Ax d.vars.length cx, .agg #[.int .i64 x.op, .int .i64 x.v.kind, .int .i64 x.v.n, .string x.v.s, .string x.s, .slice A2 x.l.length c2'], .int .i64 1] W fun e w' => e = .returned (.bool (typedB d.vars x 1)) ∧ Below w5.heap.size w5 w') :=
   fun W hW => (dtyped_ref n' d.vars x 1 _ _ W (hx5.now hW) (hex5.now hW)).mono fun e w' ⟨he, hb⟩ => ⟨he, bthen hW hb⟩
  have HS : Hid (∀ W, Below w5.heap.size w5 W → W.cell? ⟨w.heap.size, 4, none⟩ = some (.slice Ax d.vars.length cx) ∧ W.cell? ⟨w.heap.size, 6, none⟩ = some (.slice (some ⟨bG, oG, none⟩) d.guards.length cg) ∧ W.cell? ⟨bG, oG + k * 6, none⟩ = some (.int .i64 x.op) ∧ W.cell? ⟨bG, oG + k * 6 + 1, none⟩ = some (.int .i64 x.v.kind) ∧ W.cell? ⟨bG, oG + k * 6 + 2, none⟩ = some (.int .i64 x.v.n) ∧ W.cell? ⟨bG, oG + k * 6 + 3, none⟩ = some (.string x.v.s) ∧ W.cell? ⟨bG, oG + k * 6 + 4, none⟩ = some (.string x.s) ∧ W.cell? ⟨bG, oG + k * 6 + 5, none⟩ = some (.slice A2 x.l.length c2')) := fun W hW => ⟨(hB5.now hW).c8.2.2.2.2.1, (hB5.now hW).c8.2.2.2.2.2.2.1, (hW.cell (p := ⟨bG, _, none⟩) hDG).trans e0, (hW.cell (p := ⟨bG, _, none⟩) hDG).trans e1, (hW.cell (p := ⟨bG, _, none⟩) hDG).trans e2, (hW.cell (p := ⟨bG, _, none⟩) hDG).trans e3, (hW.cell (p := ⟨bG, _, none⟩) hDG).trans e4, (hW.cell (p := ⟨bG, _, none⟩) hDG).trans e5⟩
  have hbd : Below w5.heap.size w5 w5.drew := (Below.refl _ _).drew
  generalize hty : typedB d.vars x 1 = ty at *
  have HTY := Lib.hid hty
  clear hty
  go_upto_region 6 with fail
  clear e0 e1 e2 e3 e4 e5 q0 q1 q2 q3 q4 q5 q6 q7
  obtain ⟨a0, a1, d0, d1, d2, d3, d4, d5⟩ := HS.out _ hbd
  go_region_held3 (fun W => W.cell? ⟨w.heap.size, 4, none⟩ = some (.slice Ax d.vars.length cx) ∧ W.cell? ⟨w.heap.size, 6, none⟩ = some (.slice (some ⟨bG, oG, none⟩) d.guards.length cg) ∧ W.cell? ⟨bG, oG + k * 6, none⟩ = some (.int .i64 x.op) ∧ W.cell? ⟨bG, oG + k * 6 + 1, none⟩ = some (.int .i64 x.v.kind) ∧ W.cell? ⟨bG, oG + k * 6 + 2, none⟩ = some (.int .i64 x.v.n) ∧ W.cell? ⟨bG, oG + k * 6 + 3, none⟩ = some (.string x.v.s) ∧ W.cell? ⟨bG, oG + k * 6 + 4, none⟩ = some (.string x.s) ∧ W.cell? ⟨bG, oG + k * 6 + 5, none⟩ = some (.slice A2 x.l.length c2')) (exact HS.out _ (by assumption))
    (first | (go_at_call 77; (with_reducible refine (HCL.out _ (by assumption)).mono ?_); rintro e w6 ⟨rfl, hb6⟩))
  clear a0 a1 d0 d1 d2 d3 d4 d5 HS HCL
  have hbw6 := bthen hbr hb6
  have hb46 := hbr4.trans (hb6.mono hbr4.size)
  have hB6 := hB5.now hb6
  have hx6 := hx5.now hb6
  have hsl6 := SlW.now hsl5 hb6
  have hcell6 : w6.cell? ⟨bA, oA + k, none⟩ = some (.slice AW l.length cW) := (hb6.cell (p := ⟨bA, _, none⟩) hD).trans hcell
  have hD6 : bA < w6.heap.size := Nat.lt_of_lt_of_le hD hb6.size
  clear hB5 hx5 hsl5 hcell hg5 hw5 hex5
  cases ty
  ·have HRR : Hid (dvalidB d = false) := by show _ = _; rw [HR.out, exs_bad HXX.out HTY.out]; rfl
   go_wp2_with fail
   go_ret
   exact ⟨ret_bool HRR.out.symm, hbw6⟩
  obtain ⟨q0, q1, q2, q3, q4, q5, q6, q7⟩ := hB6.c8
  go_wp2_with fail
  clear q0 q1 q2 q3 q4 q5 q6 q7
  go_loopw [4] (fun j W => VrRel d.vars l w w6 j W) (fun j _ => l.length - (intOf j).toNat)
  case atStart => exact ⟨0, -1, Nat.zero_le _, rfl, .inl ⟨rfl, rfl⟩, rfl, hbw6, Below.refl _ _⟩
  case round =>
   obtain ⟨m, z, hm, rfl, hzz, hz, hbwr, hb6r⟩ := hrel
   have HZ := Lib.hid hz
   have HZZ := Lib.hid hzz
   have hz1 : -1 ≤ z := by rcases hzz with ⟨_, rfl⟩ | ⟨p, y, _, _, _, h⟩ <;> omega
   clear hz hzz
   have hB7 := hB6.now hb6r
   have hx7 := hx6.now hb6r
   have hsl7 := SlW.now hsl6 hb6r
   have hcell7 : wr.cell? ⟨bA, oA + k, none⟩ = some (.slice AW l.length cW) := (hb6r.cell (p := ⟨bA, _, none⟩) hD6).trans hcell6
   obtain ⟨q0, q1, q2, q3, q4, q5, q6, q7⟩ := hB7.c8
   by_cases hltm : m < l.length
   rotate_left
   ·have HRR : Hid (wrsB d.vars (-1) l = true) := by show _ = _; rw [HZ.out, List.drop_eq_nil_of_le (by omega), wrsB_nil]
    go_wp2_with fail
    go_roundw
    case rel => exact ⟨k + 1, by omega, by go_num, (fun q y hq hy => by
     by_cases e : q = k
     ·subst e; have := HXX.out; rw [this] at hy; injection hy with hy; rw [← hy]; exact HTY.out
     ·exact HA.out q y (by omega) hy), (fun q y hq hy => by
     by_cases e : q = k
     ·subst e; have := HLX.out; rw [this] at hy; injection hy with hy; rw [← hy]; exact HRR.out
     ·exact HA2.out q y (by omega) hy), hbwr, hb46.trans (hb6r.mono hb46.size)⟩
    case measure => simp [intOf]; omega
   obtain ⟨b2, o2, ⟨yv, yx⟩, lv2, rfl, hD2, hy, hfv, hex, e0, e1, e2, e3, e4, e5, e6⟩ := hsl7.at_ hltm
   have HX := Lib.hid (wrsB_drop (vs := d.vars) hy z)
   have HY := Lib.hid hy
   clear hy
   dsimp only at HX hfv hex e0 e1 e2 e3 e4 e5 e6
   obtain ⟨A3, c3, rfl⟩ := hex.slice_
   have hb7 := bone wr (.cells #[.int .i64 yv, .int .i64 yx.op, .int .i64 yx.v.kind, .int .i64 yx.v.n, .string yx.v.s, .string yx.s, .slice A3 yx.l.length c3] 124)
   have hY := Blk.new wr 124 #[.int .i64 yv, .int .i64 yx.op, .int .i64 yx.v.kind, .int .i64 yx.v.n, .string yx.v.s, .string yx.s, .slice A3 yx.l.length c3]
   have hB8 := hB7.now hb7
   have hex8 := hex.now hb7
   have hx8 := hx7.now hb7
   have hcell8 := (hb7.cell (p := ⟨bA, oA + k, none⟩) (Nat.lt_of_lt_of_le hD6 hb6r.size)).trans hcell7
   have hD8 : bA < (wr.alloc (.cells #[.int .i64 yv, .int .i64 yx.op, .int .i64 yx.v.kind, .int .i64 yx.v.n, .string yx.v.s, .string yx.s, .slice A3 yx.l.length c3] 124)).heap.size := Nat.lt_of_lt_of_le (Nat.lt_of_lt_of_le hD6 hb6r.size) hb7.size
   have hD28 : b2 < (wr.alloc (.cells #[.int .i64 yv, .int .i64 yx.op, .int .i64 yx.v.kind, .int .i64 yx.v.n, .string yx.v.s, .string yx.s, .slice A3 yx.l.length c3] 124)).heap.size := Nat.lt_of_lt_of_le hD2 hb7.size
   have hsl8 := SlW.now hsl7 hb7
   clear hex hB7 hx7
   go_upto_region 12 with fail
   have hbw8 := bthen hbwr hb7
   have hb68 := bthen hb6r hb7
   generalize hw8 : wr.alloc (.cells #[.int .i64 yv, .int .i64 yx.op, .int .i64 yx.v.kind, .int .i64 yx.v.n, .string yx.v.s, .string yx.s, .slice A3 yx.l.length c3] 124) = w8 at *
   clear hw8 e0 e1 e2 e3 e4 e5 e6 hb7 q0 q1 q2 q3 q4 q5 q6 q7 hcell7
   obtain ⟨q0, q1, q2, q3, q4, q5, q6, q7⟩ := hB8.c8
   obtain ⟨y0, y1, y2, y3, y4, y5, y6⟩ := hY.c7
   by_cases c1 : yv < 0
   ·have HRR : Hid (wrsB d.vars (-1) l = false) := by show _ = _; rw [HZ.out, HX.out, decide_eq_false (by omega)]; rfl
    have HRD : Hid (dvalidB d = false) := by show _ = _; rw [HR.out, rows_bad HLX.out HRR.out, Bool.and_false]
    have hS0 : w8.drew.cell? ⟨w.heap.size, 4, none⟩ = some (.slice Ax d.vars.length cx) ∧ w8.drew.cell? ⟨wr.heap.size, 0, none⟩ = some (.int .i64 yv) := ⟨q4, y0⟩
    clear q0 q1 q2 q3 q4 q5 q6 q7 y0 y1 y2 y3 y4 y5 y6
    refine wp_region_held_drew (S := fun W => W.cell? ⟨w.heap.size, 4, none⟩ = some (.slice Ax d.vars.length cx) ∧ W.cell? ⟨wr.heap.size, 0, none⟩ = some (.int .i64 yv)) (by kernel_rfl) hS0 (fun hHeld => ?_)
    refine takeG (v := ?va0) 0 rfl (by kernel_rfl) (by kernel_rfl) (by kernel_rfl) (fun _ _ _ h => h) (by rfl) ?hya0 hHeld ?resta0
    case hya0 => (intro W hW; obtain ⟨k0, k1⟩ := hW; go_simp <;> rfl)
    simp only [Act.put, List.setIfInBounds_toArray, List.set_cons_zero, List.set_cons_succ]
    refine takeG (v := ?va1) 1 rfl (by kernel_rfl) (by kernel_rfl) (by kernel_rfl) (fun _ _ _ h => h) (by rfl) ?hya1 hHeld ?resta1
    case hya1 => (intro W hW; obtain ⟨k0, k1⟩ := hW; go_simp <;> rfl)
    simp only [Act.put, List.setIfInBounds_toArray, List.set_cons_zero, List.set_cons_succ]
    refine takeG (v := .bool true) 2 rfl (by kernel_rfl) (by kernel_rfl) (by kernel_rfl) (fun _ _ _ h => h) (by rfl) ?hya2 hHeld ?resta2
    case hya2 => (intro W hW; obtain ⟨k0, k1⟩ := hW; go_simp <;> rfl)
    simp only [Act.put, List.setIfInBounds_toArray, List.set_cons_zero, List.set_cons_succ]
    refine takeG (v := ?va3) 3 rfl (by kernel_rfl) (by kernel_rfl) (by kernel_rfl) (fun _ _ _ h => h) (by rfl) ?hya3 hHeld ?resta3
    case hya3 => (intro W hW; obtain ⟨k0, k1⟩ := hW; go_simp <;> rfl)
    simp only [Act.put, List.setIfInBounds_toArray, List.set_cons_zero, List.set_cons_succ]
    refine skipG 4 rfl (by kernel_rfl) (by kernel_rfl) (by kernel_rfl) (fun _ _ _ h => h) (by rfl) hHeld ?_
    simp only [Act.put, List.setIfInBounds_toArray, List.set_cons_zero, List.set_cons_succ]
    refine skipG 5 rfl (by kernel_rfl) (by kernel_rfl) (by kernel_rfl) (fun _ _ _ h => h) (by rfl) hHeld ?_
    simp only [Act.put, List.setIfInBounds_toArray, List.set_cons_zero, List.set_cons_succ]
    refine skipG 6 rfl (by kernel_rfl) (by kernel_rfl) (by kernel_rfl) (fun _ _ _ h => h) (by rfl) hHeld ?_
    simp only [Act.put, List.setIfInBounds_toArray, List.set_cons_zero, List.set_cons_succ]
    refine skipG 7 rfl (by kernel_rfl) (by kernel_rfl) (by kernel_rfl) (fun _ _ _ h => h) (by rfl) hHeld ?_
    simp only [Act.put, List.setIfInBounds_toArray, List.set_cons_zero, List.set_cons_succ]
    refine skipG 8 rfl (by kernel_rfl) (by kernel_rfl) (by kernel_rfl) (fun _ _ _ h => h) (by rfl) hHeld ?_
    simp only [Act.put, List.setIfInBounds_toArray, List.set_cons_zero, List.set_cons_succ]
    refine skipG 9 rfl (by kernel_rfl) (by kernel_rfl) (by kernel_rfl) (fun _ _ _ h => h) (by rfl) hHeld ?_
    simp only [Act.put, List.setIfInBounds_toArray, List.set_cons_zero, List.set_cons_succ]
    refine takeG (v := .bool true) 10 rfl (by kernel_rfl) (by kernel_rfl) (by kernel_rfl) (fun _ _ _ h => h) (by rfl) ?hya10 hHeld ?resta10
    case hya10 => (intro W hW; obtain ⟨k0, k1⟩ := hW; go_simp <;> rfl)
    simp only [Act.put, List.setIfInBounds_toArray, List.set_cons_zero, List.set_cons_succ]
    refine takeG (v := ?va11) 11 rfl (by kernel_rfl) (by kernel_rfl) (by kernel_rfl) (fun _ _ _ h => h) (by rfl) ?hya11 hHeld ?resta11
    case hya11 => (intro W hW; obtain ⟨k0, k1⟩ := hW; go_simp <;> rfl)
    simp only [Act.put, List.setIfInBounds_toArray, List.set_cons_zero, List.set_cons_succ]
    refine skipG 12 rfl (by kernel_rfl) (by kernel_rfl) (by kernel_rfl) (fun _ _ _ h => h) (by rfl) hHeld ?_
    simp only [Act.put, List.setIfInBounds_toArray, List.set_cons_zero, List.set_cons_succ]
    refine skipG 13 rfl (by kernel_rfl) (by kernel_rfl) (by kernel_rfl) (fun _ _ _ h => h) (by rfl) hHeld ?_
    simp only [Act.put, List.setIfInBounds_toArray, List.set_cons_zero, List.set_cons_succ]
    refine skipG 14 rfl (by kernel_rfl) (by kernel_rfl) (by kernel_rfl) (fun _ _ _ h => h) (by rfl) hHeld ?_
    simp only [Act.put, List.setIfInBounds_toArray, List.set_cons_zero, List.set_cons_succ]
    refine skipG 15 rfl (by kernel_rfl) (by kernel_rfl) (by kernel_rfl) (fun _ _ _ h => h) (by rfl) hHeld ?_
    simp only [Act.put, List.setIfInBounds_toArray, List.set_cons_zero, List.set_cons_succ]
    refine skipG 16 rfl (by kernel_rfl) (by kernel_rfl) (by kernel_rfl) (fun _ _ _ h => h) (by rfl) hHeld ?_
    simp only [Act.put, List.setIfInBounds_toArray, List.set_cons_zero, List.set_cons_succ]
    refine skipG 17 rfl (by kernel_rfl) (by kernel_rfl) (by kernel_rfl) (fun _ _ _ h => h) (by rfl) hHeld ?_
    simp only [Act.put, List.setIfInBounds_toArray, List.set_cons_zero, List.set_cons_succ]
    refine skipG 18 rfl (by kernel_rfl) (by kernel_rfl) (by kernel_rfl) (fun _ _ _ h => h) (by rfl) hHeld ?_
    simp only [Act.put, List.setIfInBounds_toArray, List.set_cons_zero, List.set_cons_succ]
    refine skipG 19 rfl (by kernel_rfl) (by kernel_rfl) (by kernel_rfl) (fun _ _ _ h => h) (by rfl) hHeld ?_
    simp only [Act.put, List.setIfInBounds_toArray, List.set_cons_zero, List.set_cons_succ]
    refine skipG 20 rfl (by kernel_rfl) (by kernel_rfl) (by kernel_rfl) (fun _ _ _ h => h) (by rfl) hHeld ?_
    simp only [Act.put, List.setIfInBounds_toArray, List.set_cons_zero, List.set_cons_succ]
    refine skipG 21 rfl (by kernel_rfl) (by kernel_rfl) (by kernel_rfl) (fun _ _ _ h => h) (by rfl) hHeld ?_
    simp only [Act.put, List.setIfInBounds_toArray, List.set_cons_zero, List.set_cons_succ]
    refine skipG 22 rfl (by kernel_rfl) (by kernel_rfl) (by kernel_rfl) (fun _ _ _ h => h) (by rfl) hHeld ?_
    simp only [Act.put, List.setIfInBounds_toArray, List.set_cons_zero, List.set_cons_succ]
    refine skipG 23 rfl (by kernel_rfl) (by kernel_rfl) (by kernel_rfl) (fun _ _ _ h => h) (by rfl) hHeld ?_
    simp only [Act.put, List.setIfInBounds_toArray, List.set_cons_zero, List.set_cons_succ]
    refine skipG 24 rfl (by kernel_rfl) (by kernel_rfl) (by kernel_rfl) (fun _ _ _ h => h) (by rfl) hHeld ?_
    simp only [Act.put, List.setIfInBounds_toArray, List.set_cons_zero, List.set_cons_succ]
    refine skipG 25 rfl (by kernel_rfl) (by kernel_rfl) (by kernel_rfl) (fun _ _ _ h => h) (by rfl) hHeld ?_
    simp only [Act.put, List.setIfInBounds_toArray, List.set_cons_zero, List.set_cons_succ]
    refine skipG 26 rfl (by kernel_rfl) (by kernel_rfl) (by kernel_rfl) (fun _ _ _ h => h) (by rfl) hHeld ?_
    simp only [Act.put, List.setIfInBounds_toArray, List.set_cons_zero, List.set_cons_succ]
    refine skipG 27 rfl (by kernel_rfl) (by kernel_rfl) (by kernel_rfl) (fun _ _ _ h => h) (by rfl) hHeld ?_
    simp only [Act.put, List.setIfInBounds_toArray, List.set_cons_zero, List.set_cons_succ]
    refine skipG 28 rfl (by kernel_rfl) (by kernel_rfl) (by kernel_rfl) (fun _ _ _ h => h) (by rfl) hHeld ?_
    simp only [Act.put, List.setIfInBounds_toArray, List.set_cons_zero, List.set_cons_succ]
    refine takeG (v := .bool true) 29 rfl (by kernel_rfl) (by kernel_rfl) (by kernel_rfl) (fun _ _ _ h => h) (by rfl) ?hya29 hHeld ?resta29
    case hya29 => (intro W hW; obtain ⟨k0, k1⟩ := hW; go_simp <;> rfl)
    simp only [Act.put, List.setIfInBounds_toArray, List.set_cons_zero, List.set_cons_succ]
    refine takeG (v := ?va30) 30 rfl (by kernel_rfl) (by kernel_rfl) (by kernel_rfl) (fun _ _ _ h => h) (by rfl) ?hya30 hHeld ?resta30
    case hya30 => (intro W hW; obtain ⟨k0, k1⟩ := hW; go_simp <;> rfl)
    simp only [Act.put, List.setIfInBounds_toArray, List.set_cons_zero, List.set_cons_succ]
    refine skipG 31 rfl (by kernel_rfl) (by kernel_rfl) (by kernel_rfl) (fun _ _ _ h => h) (by rfl) hHeld ?_
    simp only [Act.put, List.setIfInBounds_toArray, List.set_cons_zero, List.set_cons_succ]
    refine skipG 32 rfl (by kernel_rfl) (by kernel_rfl) (by kernel_rfl) (fun _ _ _ h => h) (by rfl) hHeld ?_
    simp only [Act.put, List.setIfInBounds_toArray, List.set_cons_zero, List.set_cons_succ]
    refine skipG 33 rfl (by kernel_rfl) (by kernel_rfl) (by kernel_rfl) (fun _ _ _ h => h) (by rfl) hHeld ?_
    simp only [Act.put, List.setIfInBounds_toArray, List.set_cons_zero, List.set_cons_succ]
    refine skipG 34 rfl (by kernel_rfl) (by kernel_rfl) (by kernel_rfl) (fun _ _ _ h => h) (by rfl) hHeld ?_
    simp only [Act.put, List.setIfInBounds_toArray, List.set_cons_zero, List.set_cons_succ]
    refine skipG 35 rfl (by kernel_rfl) (by kernel_rfl) (by kernel_rfl) (fun _ _ _ h => h) (by rfl) hHeld ?_
    simp only [Act.put, List.setIfInBounds_toArray, List.set_cons_zero, List.set_cons_succ]
    refine skipG 36 rfl (by kernel_rfl) (by kernel_rfl) (by kernel_rfl) (fun _ _ _ h => h) (by rfl) hHeld ?_
    simp only [Act.put, List.setIfInBounds_toArray, List.set_cons_zero, List.set_cons_succ]
    refine skipG 37 rfl (by kernel_rfl) (by kernel_rfl) (by kernel_rfl) (fun _ _ _ h => h) (by rfl) hHeld ?_
    simp only [Act.put, List.setIfInBounds_toArray, List.set_cons_zero, List.set_cons_succ]
    refine skipG 38 rfl (by kernel_rfl) (by kernel_rfl) (by kernel_rfl) (fun _ _ _ h => h) (by rfl) hHeld ?_
    simp only [Act.put, List.setIfInBounds_toArray, List.set_cons_zero, List.set_cons_succ]
    refine skipG 39 rfl (by kernel_rfl) (by kernel_rfl) (by kernel_rfl) (fun _ _ _ h => h) (by rfl) hHeld ?_
    simp only [Act.put, List.setIfInBounds_toArray, List.set_cons_zero, List.set_cons_succ]
    refine skipG 40 rfl (by kernel_rfl) (by kernel_rfl) (by kernel_rfl) (fun _ _ _ h => h) (by rfl) hHeld ?_
    simp only [Act.put, List.setIfInBounds_toArray, List.set_cons_zero, List.set_cons_succ]
    refine skipG 41 rfl (by kernel_rfl) (by kernel_rfl) (by kernel_rfl) (fun _ _ _ h => h) (by rfl) hHeld ?_
    simp only [Act.put, List.setIfInBounds_toArray, List.set_cons_zero, List.set_cons_succ]
    refine skipG 42 rfl (by kernel_rfl) (by kernel_rfl) (by kernel_rfl) (fun _ _ _ h => h) (by rfl) hHeld ?_
    simp only [Act.put, List.setIfInBounds_toArray, List.set_cons_zero, List.set_cons_succ]
    refine skipG 43 rfl (by kernel_rfl) (by kernel_rfl) (by kernel_rfl) (fun _ _ _ h => h) (by rfl) hHeld ?_
    simp only [Act.put, List.setIfInBounds_toArray, List.set_cons_zero, List.set_cons_succ]
    refine takeG (v := .bool true) 44 rfl (by kernel_rfl) (by kernel_rfl) (by kernel_rfl) (fun _ _ _ h => h) (by rfl) ?hya44 hHeld ?resta44
    case hya44 => (intro W hW; obtain ⟨k0, k1⟩ := hW; go_simp <;> rfl)
    simp only [Act.put, List.setIfInBounds_toArray, List.set_cons_zero, List.set_cons_succ]
    refine wpAnyH_done (by kernel_rfl) ?_ _
    go_wp2_with fail
    go_ret
    exact ⟨ret_bool HRD.out.symm, hbw8.drew⟩
   by_cases c2 : (d.vars.length : Int) ≤ yv
   ·have HRR : Hid (wrsB d.vars (-1) l = false) := by show _ = _; rw [HZ.out, HX.out, decide_eq_false (show ¬ yv < (d.vars.length : Int) by omega)]; simp
    have HRD : Hid (dvalidB d = false) := by show _ = _; rw [HR.out, rows_bad HLX.out HRR.out, Bool.and_false]
    have hS0 : w8.drew.cell? ⟨w.heap.size, 4, none⟩ = some (.slice Ax d.vars.length cx) ∧ w8.drew.cell? ⟨wr.heap.size, 0, none⟩ = some (.int .i64 yv) := ⟨q4, y0⟩
    clear q0 q1 q2 q3 q4 q5 q6 q7 y0 y1 y2 y3 y4 y5 y6
    refine wp_region_held_drew (S := fun W => W.cell? ⟨w.heap.size, 4, none⟩ = some (.slice Ax d.vars.length cx) ∧ W.cell? ⟨wr.heap.size, 0, none⟩ = some (.int .i64 yv)) (by kernel_rfl) hS0 (fun hHeld => ?_)
    refine takeG (v := ?vb0) 0 rfl (by kernel_rfl) (by kernel_rfl) (by kernel_rfl) (fun _ _ _ h => h) (by rfl) ?hyb0 hHeld ?restb0
    case hyb0 => (intro W hW; obtain ⟨k0, k1⟩ := hW; go_simp <;> rfl)
    simp only [Act.put, List.setIfInBounds_toArray, List.set_cons_zero, List.set_cons_succ]
    refine takeG (v := ?vb1) 1 rfl (by kernel_rfl) (by kernel_rfl) (by kernel_rfl) (fun _ _ _ h => h) (by rfl) ?hyb1 hHeld ?restb1
    case hyb1 => (intro W hW; obtain ⟨k0, k1⟩ := hW; go_simp <;> rfl)
    simp only [Act.put, List.setIfInBounds_toArray, List.set_cons_zero, List.set_cons_succ]
    refine takeG (v := .bool false) 2 rfl (by kernel_rfl) (by kernel_rfl) (by kernel_rfl) (fun _ _ _ h => h) (by rfl) ?hyb2 hHeld ?restb2
    case hyb2 => (intro W hW; obtain ⟨k0, k1⟩ := hW; go_simp <;> rfl)
    simp only [Act.put, List.setIfInBounds_toArray, List.set_cons_zero, List.set_cons_succ]
    refine takeG (v := ?vb3) 3 rfl (by kernel_rfl) (by kernel_rfl) (by kernel_rfl) (fun _ _ _ h => h) (by rfl) ?hyb3 hHeld ?restb3
    case hyb3 => (intro W hW; obtain ⟨k0, k1⟩ := hW; go_simp <;> rfl)
    simp only [Act.put, List.setIfInBounds_toArray, List.set_cons_zero, List.set_cons_succ]
    refine takeG (v := ?vb4) 4 rfl (by kernel_rfl) (by kernel_rfl) (by kernel_rfl) (fun _ _ _ h => h) (by rfl) ?hyb4 hHeld ?restb4
    case hyb4 => (intro W hW; obtain ⟨k0, k1⟩ := hW; go_simp <;> rfl)
    simp only [Act.put, List.setIfInBounds_toArray, List.set_cons_zero, List.set_cons_succ]
    refine takeG (v := ?vb5) 5 rfl (by kernel_rfl) (by kernel_rfl) (by kernel_rfl) (fun _ _ _ h => h) (by rfl) ?hyb5 hHeld ?restb5
    case hyb5 => (intro W hW; obtain ⟨k0, k1⟩ := hW; go_simp <;> rfl)
    simp only [Act.put, List.setIfInBounds_toArray, List.set_cons_zero, List.set_cons_succ]
    refine takeG (v := ?vb6) 6 rfl (by kernel_rfl) (by kernel_rfl) (by kernel_rfl) (fun _ _ _ h => h) (by rfl) ?hyb6 hHeld ?restb6
    case hyb6 => (intro W hW; obtain ⟨k0, k1⟩ := hW; go_simp <;> rfl)
    simp only [Act.put, List.setIfInBounds_toArray, List.set_cons_zero, List.set_cons_succ]
    refine takeG (v := ?vb7) 7 rfl (by kernel_rfl) (by kernel_rfl) (by kernel_rfl) (fun _ _ _ h => h) (by rfl) ?hyb7 hHeld ?restb7
    case hyb7 => (intro W hW; obtain ⟨k0, k1⟩ := hW; go_simp <;> rfl)
    simp only [Act.put, List.setIfInBounds_toArray, List.set_cons_zero, List.set_cons_succ]
    refine takeG (v := ?vb8) 8 rfl (by kernel_rfl) (by kernel_rfl) (by kernel_rfl) (fun _ _ _ h => h) (by rfl) ?hyb8 hHeld ?restb8
    case hyb8 => (intro W hW; obtain ⟨k0, k1⟩ := hW; go_simp <;> rfl)
    simp only [Act.put, List.setIfInBounds_toArray, List.set_cons_zero, List.set_cons_succ]
    refine takeG (v := .bool true) 9 rfl (by kernel_rfl) (by kernel_rfl) (by kernel_rfl) (fun _ _ _ h => h) (by rfl) ?hyb9 hHeld ?restb9
    case hyb9 => (intro W hW; obtain ⟨k0, k1⟩ := hW; go_simp <;> rfl)
    simp only [Act.put, List.setIfInBounds_toArray, List.set_cons_zero, List.set_cons_succ]
    refine takeG (v := .bool true) 10 rfl (by kernel_rfl) (by kernel_rfl) (by kernel_rfl) (fun _ _ _ h => h) (by rfl) ?hyb10 hHeld ?restb10
    case hyb10 => (intro W hW; obtain ⟨k0, k1⟩ := hW; go_simp <;> rfl)
    simp only [Act.put, List.setIfInBounds_toArray, List.set_cons_zero, List.set_cons_succ]
    refine takeG (v := ?vb11) 11 rfl (by kernel_rfl) (by kernel_rfl) (by kernel_rfl) (fun _ _ _ h => h) (by rfl) ?hyb11 hHeld ?restb11
    case hyb11 => (intro W hW; obtain ⟨k0, k1⟩ := hW; go_simp <;> rfl)
    simp only [Act.put, List.setIfInBounds_toArray, List.set_cons_zero, List.set_cons_succ]
    refine skipG 12 rfl (by kernel_rfl) (by kernel_rfl) (by kernel_rfl) (fun _ _ _ h => h) (by rfl) hHeld ?_
    simp only [Act.put, List.setIfInBounds_toArray, List.set_cons_zero, List.set_cons_succ]
    refine skipG 13 rfl (by kernel_rfl) (by kernel_rfl) (by kernel_rfl) (fun _ _ _ h => h) (by rfl) hHeld ?_
    simp only [Act.put, List.setIfInBounds_toArray, List.set_cons_zero, List.set_cons_succ]
    refine skipG 14 rfl (by kernel_rfl) (by kernel_rfl) (by kernel_rfl) (fun _ _ _ h => h) (by rfl) hHeld ?_
    simp only [Act.put, List.setIfInBounds_toArray, List.set_cons_zero, List.set_cons_succ]
    refine skipG 15 rfl (by kernel_rfl) (by kernel_rfl) (by kernel_rfl) (fun _ _ _ h => h) (by rfl) hHeld ?_
    simp only [Act.put, List.setIfInBounds_toArray, List.set_cons_zero, List.set_cons_succ]
    refine skipG 16 rfl (by kernel_rfl) (by kernel_rfl) (by kernel_rfl) (fun _ _ _ h => h) (by rfl) hHeld ?_
    simp only [Act.put, List.setIfInBounds_toArray, List.set_cons_zero, List.set_cons_succ]
    refine skipG 17 rfl (by kernel_rfl) (by kernel_rfl) (by kernel_rfl) (fun _ _ _ h => h) (by rfl) hHeld ?_
    simp only [Act.put, List.setIfInBounds_toArray, List.set_cons_zero, List.set_cons_succ]
    refine skipG 18 rfl (by kernel_rfl) (by kernel_rfl) (by kernel_rfl) (fun _ _ _ h => h) (by rfl) hHeld ?_
    simp only [Act.put, List.setIfInBounds_toArray, List.set_cons_zero, List.set_cons_succ]
    refine skipG 19 rfl (by kernel_rfl) (by kernel_rfl) (by kernel_rfl) (fun _ _ _ h => h) (by rfl) hHeld ?_
    simp only [Act.put, List.setIfInBounds_toArray, List.set_cons_zero, List.set_cons_succ]
    refine skipG 20 rfl (by kernel_rfl) (by kernel_rfl) (by kernel_rfl) (fun _ _ _ h => h) (by rfl) hHeld ?_
    simp only [Act.put, List.setIfInBounds_toArray, List.set_cons_zero, List.set_cons_succ]
    refine skipG 21 rfl (by kernel_rfl) (by kernel_rfl) (by kernel_rfl) (fun _ _ _ h => h) (by rfl) hHeld ?_
    simp only [Act.put, List.setIfInBounds_toArray, List.set_cons_zero, List.set_cons_succ]
    refine skipG 22 rfl (by kernel_rfl) (by kernel_rfl) (by kernel_rfl) (fun _ _ _ h => h) (by rfl) hHeld ?_
    simp only [Act.put, List.setIfInBounds_toArray, List.set_cons_zero, List.set_cons_succ]
    refine skipG 23 rfl (by kernel_rfl) (by kernel_rfl) (by kernel_rfl) (fun _ _ _ h => h) (by rfl) hHeld ?_
    simp only [Act.put, List.setIfInBounds_toArray, List.set_cons_zero, List.set_cons_succ]
    refine skipG 24 rfl (by kernel_rfl) (by kernel_rfl) (by kernel_rfl) (fun _ _ _ h => h) (by rfl) hHeld ?_
    simp only [Act.put, List.setIfInBounds_toArray, List.set_cons_zero, List.set_cons_succ]
    refine skipG 25 rfl (by kernel_rfl) (by kernel_rfl) (by kernel_rfl) (fun _ _ _ h => h) (by rfl) hHeld ?_
    simp only [Act.put, List.setIfInBounds_toArray, List.set_cons_zero, List.set_cons_succ]
    refine skipG 26 rfl (by kernel_rfl) (by kernel_rfl) (by kernel_rfl) (fun _ _ _ h => h) (by rfl) hHeld ?_
    simp only [Act.put, List.setIfInBounds_toArray, List.set_cons_zero, List.set_cons_succ]
    refine skipG 27 rfl (by kernel_rfl) (by kernel_rfl) (by kernel_rfl) (fun _ _ _ h => h) (by rfl) hHeld ?_
    simp only [Act.put, List.setIfInBounds_toArray, List.set_cons_zero, List.set_cons_succ]
    refine skipG 28 rfl (by kernel_rfl) (by kernel_rfl) (by kernel_rfl) (fun _ _ _ h => h) (by rfl) hHeld ?_
    simp only [Act.put, List.setIfInBounds_toArray, List.set_cons_zero, List.set_cons_succ]
    refine takeG (v := .bool true) 29 rfl (by kernel_rfl) (by kernel_rfl) (by kernel_rfl) (fun _ _ _ h => h) (by rfl) ?hyb29 hHeld ?restb29
    case hyb29 => (intro W hW; obtain ⟨k0, k1⟩ := hW; go_simp <;> rfl)
    simp only [Act.put, List.setIfInBounds_toArray, List.set_cons_zero, List.set_cons_succ]
    refine takeG (v := ?vb30) 30 rfl (by kernel_rfl) (by kernel_rfl) (by kernel_rfl) (fun _ _ _ h => h) (by rfl) ?hyb30 hHeld ?restb30
    case hyb30 => (intro W hW; obtain ⟨k0, k1⟩ := hW; go_simp <;> rfl)
    simp only [Act.put, List.setIfInBounds_toArray, List.set_cons_zero, List.set_cons_succ]
    refine skipG 31 rfl (by kernel_rfl) (by kernel_rfl) (by kernel_rfl) (fun _ _ _ h => h) (by rfl) hHeld ?_
    simp only [Act.put, List.setIfInBounds_toArray, List.set_cons_zero, List.set_cons_succ]
    refine skipG 32 rfl (by kernel_rfl) (by kernel_rfl) (by kernel_rfl) (fun _ _ _ h => h) (by rfl) hHeld ?_
    simp only [Act.put, List.setIfInBounds_toArray, List.set_cons_zero, List.set_cons_succ]
    refine skipG 33 rfl (by kernel_rfl) (by kernel_rfl) (by kernel_rfl) (fun _ _ _ h => h) (by rfl) hHeld ?_
    simp only [Act.put, List.setIfInBounds_toArray, List.set_cons_zero, List.set_cons_succ]
    refine skipG 34 rfl (by kernel_rfl) (by kernel_rfl) (by kernel_rfl) (fun _ _ _ h => h) (by rfl) hHeld ?_
    simp only [Act.put, List.setIfInBounds_toArray, List.set_cons_zero, List.set_cons_succ]
    refine skipG 35 rfl (by kernel_rfl) (by kernel_rfl) (by kernel_rfl) (fun _ _ _ h => h) (by rfl) hHeld ?_
    simp only [Act.put, List.setIfInBounds_toArray, List.set_cons_zero, List.set_cons_succ]
    refine skipG 36 rfl (by kernel_rfl) (by kernel_rfl) (by kernel_rfl) (fun _ _ _ h => h) (by rfl) hHeld ?_
    simp only [Act.put, List.setIfInBounds_toArray, List.set_cons_zero, List.set_cons_succ]
    refine skipG 37 rfl (by kernel_rfl) (by kernel_rfl) (by kernel_rfl) (fun _ _ _ h => h) (by rfl) hHeld ?_
    simp only [Act.put, List.setIfInBounds_toArray, List.set_cons_zero, List.set_cons_succ]
    refine skipG 38 rfl (by kernel_rfl) (by kernel_rfl) (by kernel_rfl) (fun _ _ _ h => h) (by rfl) hHeld ?_
    simp only [Act.put, List.setIfInBounds_toArray, List.set_cons_zero, List.set_cons_succ]
    refine skipG 39 rfl (by kernel_rfl) (by kernel_rfl) (by kernel_rfl) (fun _ _ _ h => h) (by rfl) hHeld ?_
    simp only [Act.put, List.setIfInBounds_toArray, List.set_cons_zero, List.set_cons_succ]
    refine skipG 40 rfl (by kernel_rfl) (by kernel_rfl) (by kernel_rfl) (fun _ _ _ h => h) (by rfl) hHeld ?_
    simp only [Act.put, List.setIfInBounds_toArray, List.set_cons_zero, List.set_cons_succ]
    refine skipG 41 rfl (by kernel_rfl) (by kernel_rfl) (by kernel_rfl) (fun _ _ _ h => h) (by rfl) hHeld ?_
    simp only [Act.put, List.setIfInBounds_toArray, List.set_cons_zero, List.set_cons_succ]
    refine skipG 42 rfl (by kernel_rfl) (by kernel_rfl) (by kernel_rfl) (fun _ _ _ h => h) (by rfl) hHeld ?_
    simp only [Act.put, List.setIfInBounds_toArray, List.set_cons_zero, List.set_cons_succ]
    refine skipG 43 rfl (by kernel_rfl) (by kernel_rfl) (by kernel_rfl) (fun _ _ _ h => h) (by rfl) hHeld ?_
    simp only [Act.put, List.setIfInBounds_toArray, List.set_cons_zero, List.set_cons_succ]
    refine takeG (v := .bool true) 44 rfl (by kernel_rfl) (by kernel_rfl) (by kernel_rfl) (fun _ _ _ h => h) (by rfl) ?hyb44 hHeld ?restb44
    case hyb44 => (intro W hW; obtain ⟨k0, k1⟩ := hW; go_simp <;> rfl)
    simp only [Act.put, List.setIfInBounds_toArray, List.set_cons_zero, List.set_cons_succ]
    refine wpAnyH_done (by kernel_rfl) ?_ _
    go_wp2_with fail
    go_ret
    exact ⟨ret_bool HRD.out.symm, hbw8.drew⟩
   obtain ⟨t, rfl⟩ := Int.eq_ofNat_of_zero_le (show 0 ≤ yv by omega)
   have hlt2 : t < d.vars.length := by omega
   obtain ⟨b4, o4, xv, iv4, rfl, hD4, hxv, hvar, _, k0, k1, k2, k3, k4⟩ := hx8.at_ hlt2
   have HKA := Lib.hid (kindAt_at hxv)
   clear hxv
   have HCL : Hid (∀ W, Below w8.heap.size w8 W → Calls Tryz.prog 77 #[.slice (some ⟨b4, o4, none⟩) d.vars.length cx, .agg #[.int .i64 yx.op, .int .i64 yx.v.kind, .int .i64 yx.v.n, .string yx.v.s, .string yx.s, .slice A3 yx.l.length c3], .int .i64 xv.kind] W fun e w' => e = .returned (.bool (typedB d.vars yx xv.kind)) ∧ Below w8.heap.size w8 w') :=
    fun W hW => (dtyped_ref n d.vars yx xv.kind _ _ W (hx8.now hW) (hex8.now hW)).mono fun e w' ⟨he, hb⟩ => ⟨he, bthen hW hb⟩
   rcases HZZ.out with ⟨hm0, hz0⟩ | ⟨p, y, hmp, hpy, rfl, hz0⟩
   ·have c1' : ¬ (t : Int) < 0 := by omega
    have c2' : ¬ (d.vars.length : Int) ≤ (t : Int) := c2
    clear c1 c2
    have c4' : ¬ (0 : Int) < (m : Int) := by omega
    have c5' : ¬ 0 < m := by omega
    have hzt : z < (t : Int) := by omega
    clear hm0 hz0
    have HS : Hid (∀ W, Below w8.heap.size w8 W → W.cell? ⟨w.heap.size, 4, none⟩ = some (.slice (some ⟨b4, o4, none⟩) d.vars.length cx) ∧ W.cell? ⟨w.heap.size, 7, none⟩ = some (.slice (some ⟨bA, oA, none⟩) d.writes.length cw) ∧ W.cell? ⟨bA, oA + k, none⟩ = some (.slice (some ⟨b2, o2, none⟩) l.length cW) ∧ W.cell? ⟨b4, o4 + t * 5 + 1, none⟩ = some (.int .i64 xv.kind) ∧ W.cell? ⟨wr.heap.size, 0, none⟩ = some (.int .i64 t) ∧ W.cell? ⟨wr.heap.size, 1, none⟩ = some (.int .i64 yx.op) ∧ W.cell? ⟨wr.heap.size, 2, none⟩ = some (.int .i64 yx.v.kind) ∧ W.cell? ⟨wr.heap.size, 3, none⟩ = some (.int .i64 yx.v.n) ∧ W.cell? ⟨wr.heap.size, 4, none⟩ = some (.string yx.v.s) ∧ W.cell? ⟨wr.heap.size, 5, none⟩ = some (.string yx.s) ∧ W.cell? ⟨wr.heap.size, 6, none⟩ = some (.slice A3 yx.l.length c3)) := fun W hW => ⟨(hB8.now hW).c8.2.2.2.2.1, (hB8.now hW).c8.2.2.2.2.2.2.2, (hW.cell (p := ⟨bA, _, none⟩) hD8).trans hcell8, (hW.cell (p := ⟨b4, _, none⟩) hD4).trans k1, (hY.now hW).c7⟩
    have hbd : Below w8.heap.size w8 w8.drew := (Below.refl _ _).drew
    clear k0 k1 k2 k3 k4 q0 q1 q2 q3 q4 q5 q6 q7 y0 y1 y2 y3 y4 y5 y6 hvar hcell8
    generalize hty : typedB d.vars yx xv.kind = ty at *
    have HTY := Lib.hid hty
    clear hty
    refine wp_region_held_drew (S := fun W => W.cell? ⟨w.heap.size, 4, none⟩ = some (.slice (some ⟨b4, o4, none⟩) d.vars.length cx) ∧ W.cell? ⟨w.heap.size, 7, none⟩ = some (.slice (some ⟨bA, oA, none⟩) d.writes.length cw) ∧ W.cell? ⟨bA, oA + k, none⟩ = some (.slice (some ⟨b2, o2, none⟩) l.length cW) ∧ W.cell? ⟨b4, o4 + t * 5 + 1, none⟩ = some (.int .i64 xv.kind) ∧ W.cell? ⟨wr.heap.size, 0, none⟩ = some (.int .i64 t) ∧ W.cell? ⟨wr.heap.size, 1, none⟩ = some (.int .i64 yx.op) ∧ W.cell? ⟨wr.heap.size, 2, none⟩ = some (.int .i64 yx.v.kind) ∧ W.cell? ⟨wr.heap.size, 3, none⟩ = some (.int .i64 yx.v.n) ∧ W.cell? ⟨wr.heap.size, 4, none⟩ = some (.string yx.v.s) ∧ W.cell? ⟨wr.heap.size, 5, none⟩ = some (.string yx.s) ∧ W.cell? ⟨wr.heap.size, 6, none⟩ = some (.slice A3 yx.l.length c3)) (by kernel_rfl) (HS.out _ hbd) (fun hHeld => ?_)
    refine takeG (v := ?vc0) 0 rfl (by kernel_rfl) (by kernel_rfl) (by kernel_rfl) (fun _ _ _ h => h) (by rfl) ?hyc0 hHeld ?restc0
    case hyc0 => (intro W hW; obtain ⟨k0, k1, k2, k3, k4, k5, k6, k7, k8, k9, k10⟩ := hW; go_simp <;> rfl)
    simp only [Act.put, List.setIfInBounds_toArray, List.set_cons_zero, List.set_cons_succ]
    refine takeG (v := ?vc1) 1 rfl (by kernel_rfl) (by kernel_rfl) (by kernel_rfl) (fun _ _ _ h => h) (by rfl) ?hyc1 hHeld ?restc1
    case hyc1 => (intro W hW; obtain ⟨k0, k1, k2, k3, k4, k5, k6, k7, k8, k9, k10⟩ := hW; go_simp <;> rfl)
    simp only [Act.put, List.setIfInBounds_toArray, List.set_cons_zero, List.set_cons_succ]
    refine takeG (v := .bool false) 2 rfl (by kernel_rfl) (by kernel_rfl) (by kernel_rfl) (fun _ _ _ h => h) (by rfl) ?hyc2 hHeld ?restc2
    case hyc2 => (intro W hW; obtain ⟨k0, k1, k2, k3, k4, k5, k6, k7, k8, k9, k10⟩ := hW; go_simp <;> rfl)
    simp only [Act.put, List.setIfInBounds_toArray, List.set_cons_zero, List.set_cons_succ]
    refine takeG (v := ?vc3) 3 rfl (by kernel_rfl) (by kernel_rfl) (by kernel_rfl) (fun _ _ _ h => h) (by rfl) ?hyc3 hHeld ?restc3
    case hyc3 => (intro W hW; obtain ⟨k0, k1, k2, k3, k4, k5, k6, k7, k8, k9, k10⟩ := hW; go_simp <;> rfl)
    simp only [Act.put, List.setIfInBounds_toArray, List.set_cons_zero, List.set_cons_succ]
    refine takeG (v := ?vc4) 4 rfl (by kernel_rfl) (by kernel_rfl) (by kernel_rfl) (fun _ _ _ h => h) (by rfl) ?hyc4 hHeld ?restc4
    case hyc4 => (intro W hW; obtain ⟨k0, k1, k2, k3, k4, k5, k6, k7, k8, k9, k10⟩ := hW; go_simp <;> rfl)
    simp only [Act.put, List.setIfInBounds_toArray, List.set_cons_zero, List.set_cons_succ]
    refine takeG (v := ?vc5) 5 rfl (by kernel_rfl) (by kernel_rfl) (by kernel_rfl) (fun _ _ _ h => h) (by rfl) ?hyc5 hHeld ?restc5
    case hyc5 => (intro W hW; obtain ⟨k0, k1, k2, k3, k4, k5, k6, k7, k8, k9, k10⟩ := hW; go_simp <;> rfl)
    simp only [Act.put, List.setIfInBounds_toArray, List.set_cons_zero, List.set_cons_succ]
    refine takeG (v := ?vc6) 6 rfl (by kernel_rfl) (by kernel_rfl) (by kernel_rfl) (fun _ _ _ h => h) (by rfl) ?hyc6 hHeld ?restc6
    case hyc6 => (intro W hW; obtain ⟨k0, k1, k2, k3, k4, k5, k6, k7, k8, k9, k10⟩ := hW; go_simp <;> rfl)
    simp only [Act.put, List.setIfInBounds_toArray, List.set_cons_zero, List.set_cons_succ]
    refine takeG (v := ?vc7) 7 rfl (by kernel_rfl) (by kernel_rfl) (by kernel_rfl) (fun _ _ _ h => h) (by rfl) ?hyc7 hHeld ?restc7
    case hyc7 => (intro W hW; obtain ⟨k0, k1, k2, k3, k4, k5, k6, k7, k8, k9, k10⟩ := hW; go_simp <;> rfl)
    simp only [Act.put, List.setIfInBounds_toArray, List.set_cons_zero, List.set_cons_succ]
    refine takeG (v := ?vc8) 8 rfl (by kernel_rfl) (by kernel_rfl) (by kernel_rfl) (fun _ _ _ h => h) (by rfl) ?hyc8 hHeld ?restc8
    case hyc8 => (intro W hW; obtain ⟨k0, k1, k2, k3, k4, k5, k6, k7, k8, k9, k10⟩ := hW; go_simp <;> rfl)
    simp only [Act.put, List.setIfInBounds_toArray, List.set_cons_zero, List.set_cons_succ]
    refine takeG (v := .bool false) 9 rfl (by kernel_rfl) (by kernel_rfl) (by kernel_rfl) (fun _ _ _ h => h) (by rfl) ?hyc9 hHeld ?restc9
    case hyc9 => (intro W hW; obtain ⟨k0, k1, k2, k3, k4, k5, k6, k7, k8, k9, k10⟩ := hW; go_simp <;> rfl)
    simp only [Act.put, List.setIfInBounds_toArray, List.set_cons_zero, List.set_cons_succ]
    refine takeG (v := .bool false) 10 rfl (by kernel_rfl) (by kernel_rfl) (by kernel_rfl) (fun _ _ _ h => h) (by rfl) ?hyc10 hHeld ?restc10
    case hyc10 => (intro W hW; obtain ⟨k0, k1, k2, k3, k4, k5, k6, k7, k8, k9, k10⟩ := hW; go_simp <;> rfl)
    simp only [Act.put, List.setIfInBounds_toArray, List.set_cons_zero, List.set_cons_succ]
    refine takeG (v := ?vc11) 11 rfl (by kernel_rfl) (by kernel_rfl) (by kernel_rfl) (fun _ _ _ h => h) (by rfl) ?hyc11 hHeld ?restc11
    case hyc11 => (intro W hW; obtain ⟨k0, k1, k2, k3, k4, k5, k6, k7, k8, k9, k10⟩ := hW; go_simp <;> rfl)
    simp only [Act.put, List.setIfInBounds_toArray, List.set_cons_zero, List.set_cons_succ]
    refine takeG (v := ?vc12) 12 rfl (by kernel_rfl) (by kernel_rfl) (by kernel_rfl) (fun _ _ _ h => h) (by rfl) ?hyc12 hHeld ?restc12
    case hyc12 => (intro W hW; obtain ⟨k0, k1, k2, k3, k4, k5, k6, k7, k8, k9, k10⟩ := hW; go_simp <;> rfl)
    simp only [Act.put, List.setIfInBounds_toArray, List.set_cons_zero, List.set_cons_succ]
    refine takeG (v := .bool false) 13 rfl (by kernel_rfl) (by kernel_rfl) (by kernel_rfl) (fun _ _ _ h => h) (by rfl) ?hyc13 hHeld ?restc13
    case hyc13 => (intro W hW; obtain ⟨k0, k1, k2, k3, k4, k5, k6, k7, k8, k9, k10⟩ := hW; go_simp <;> rfl)
    simp only [Act.put, List.setIfInBounds_toArray, List.set_cons_zero, List.set_cons_succ]
    refine takeG (v := ?vc14) 14 rfl (by kernel_rfl) (by kernel_rfl) (by kernel_rfl) (fun _ _ _ h => h) (by rfl) ?hyc14 hHeld ?restc14
    case hyc14 => (intro W hW; obtain ⟨k0, k1, k2, k3, k4, k5, k6, k7, k8, k9, k10⟩ := hW; go_simp <;> rfl)
    simp only [Act.put, List.setIfInBounds_toArray, List.set_cons_zero, List.set_cons_succ]
    refine skipG 15 rfl (by kernel_rfl) (by kernel_rfl) (by kernel_rfl) (fun _ _ _ h => h) (by rfl) hHeld ?_
    simp only [Act.put, List.setIfInBounds_toArray, List.set_cons_zero, List.set_cons_succ]
    refine skipG 16 rfl (by kernel_rfl) (by kernel_rfl) (by kernel_rfl) (fun _ _ _ h => h) (by rfl) hHeld ?_
    simp only [Act.put, List.setIfInBounds_toArray, List.set_cons_zero, List.set_cons_succ]
    refine skipG 17 rfl (by kernel_rfl) (by kernel_rfl) (by kernel_rfl) (fun _ _ _ h => h) (by rfl) hHeld ?_
    simp only [Act.put, List.setIfInBounds_toArray, List.set_cons_zero, List.set_cons_succ]
    refine skipG 18 rfl (by kernel_rfl) (by kernel_rfl) (by kernel_rfl) (fun _ _ _ h => h) (by rfl) hHeld ?_
    simp only [Act.put, List.setIfInBounds_toArray, List.set_cons_zero, List.set_cons_succ]
    refine skipG 19 rfl (by kernel_rfl) (by kernel_rfl) (by kernel_rfl) (fun _ _ _ h => h) (by rfl) hHeld ?_
    simp only [Act.put, List.setIfInBounds_toArray, List.set_cons_zero, List.set_cons_succ]
    refine skipG 20 rfl (by kernel_rfl) (by kernel_rfl) (by kernel_rfl) (fun _ _ _ h => h) (by rfl) hHeld ?_
    simp only [Act.put, List.setIfInBounds_toArray, List.set_cons_zero, List.set_cons_succ]
    refine skipG 21 rfl (by kernel_rfl) (by kernel_rfl) (by kernel_rfl) (fun _ _ _ h => h) (by rfl) hHeld ?_
    simp only [Act.put, List.setIfInBounds_toArray, List.set_cons_zero, List.set_cons_succ]
    refine skipG 22 rfl (by kernel_rfl) (by kernel_rfl) (by kernel_rfl) (fun _ _ _ h => h) (by rfl) hHeld ?_
    simp only [Act.put, List.setIfInBounds_toArray, List.set_cons_zero, List.set_cons_succ]
    refine skipG 23 rfl (by kernel_rfl) (by kernel_rfl) (by kernel_rfl) (fun _ _ _ h => h) (by rfl) hHeld ?_
    simp only [Act.put, List.setIfInBounds_toArray, List.set_cons_zero, List.set_cons_succ]
    refine skipG 24 rfl (by kernel_rfl) (by kernel_rfl) (by kernel_rfl) (fun _ _ _ h => h) (by rfl) hHeld ?_
    simp only [Act.put, List.setIfInBounds_toArray, List.set_cons_zero, List.set_cons_succ]
    refine skipG 25 rfl (by kernel_rfl) (by kernel_rfl) (by kernel_rfl) (fun _ _ _ h => h) (by rfl) hHeld ?_
    simp only [Act.put, List.setIfInBounds_toArray, List.set_cons_zero, List.set_cons_succ]
    refine skipG 26 rfl (by kernel_rfl) (by kernel_rfl) (by kernel_rfl) (fun _ _ _ h => h) (by rfl) hHeld ?_
    simp only [Act.put, List.setIfInBounds_toArray, List.set_cons_zero, List.set_cons_succ]
    refine skipG 27 rfl (by kernel_rfl) (by kernel_rfl) (by kernel_rfl) (fun _ _ _ h => h) (by rfl) hHeld ?_
    simp only [Act.put, List.setIfInBounds_toArray, List.set_cons_zero, List.set_cons_succ]
    refine takeG (v := .bool false) 28 rfl (by kernel_rfl) (by kernel_rfl) (by kernel_rfl) (fun _ _ _ h => h) (by rfl) ?hyc28 hHeld ?restc28
    case hyc28 => (intro W hW; obtain ⟨k0, k1, k2, k3, k4, k5, k6, k7, k8, k9, k10⟩ := hW; go_simp <;> rfl)
    simp only [Act.put, List.setIfInBounds_toArray, List.set_cons_zero, List.set_cons_succ]
    refine takeG (v := .bool false) 29 rfl (by kernel_rfl) (by kernel_rfl) (by kernel_rfl) (fun _ _ _ h => h) (by rfl) ?hyc29 hHeld ?restc29
    case hyc29 => (intro W hW; obtain ⟨k0, k1, k2, k3, k4, k5, k6, k7, k8, k9, k10⟩ := hW; go_simp <;> rfl)
    simp only [Act.put, List.setIfInBounds_toArray, List.set_cons_zero, List.set_cons_succ]
    refine takeG (v := ?vc30) 30 rfl (by kernel_rfl) (by kernel_rfl) (by kernel_rfl) (fun _ _ _ h => h) (by rfl) ?hyc30 hHeld ?restc30
    case hyc30 => (intro W hW; obtain ⟨k0, k1, k2, k3, k4, k5, k6, k7, k8, k9, k10⟩ := hW; go_simp <;> rfl)
    simp only [Act.put, List.setIfInBounds_toArray, List.set_cons_zero, List.set_cons_succ]
    refine takeG (v := ?vc31) 31 rfl (by kernel_rfl) (by kernel_rfl) (by kernel_rfl) (fun _ _ _ h => h) (by rfl) ?hyc31 hHeld ?restc31
    case hyc31 => (intro W hW; obtain ⟨k0, k1, k2, k3, k4, k5, k6, k7, k8, k9, k10⟩ := hW; go_simp <;> rfl)
    simp only [Act.put, List.setIfInBounds_toArray, List.set_cons_zero, List.set_cons_succ]
    refine takeG (v := ?vc32) 32 rfl (by kernel_rfl) (by kernel_rfl) (by kernel_rfl) (fun _ _ _ h => h) (by rfl) ?hyc32 hHeld ?restc32
    case hyc32 => (intro W hW; obtain ⟨k0, k1, k2, k3, k4, k5, k6, k7, k8, k9, k10⟩ := hW; go_simp <;> rfl)
    simp only [Act.put, List.setIfInBounds_toArray, List.set_cons_zero, List.set_cons_succ]
    refine takeG (v := ?vc33) 33 rfl (by kernel_rfl) (by kernel_rfl) (by kernel_rfl) (fun _ _ _ h => h) (by rfl) ?hyc33 hHeld ?restc33
    case hyc33 => (intro W hW; obtain ⟨k0, k1, k2, k3, k4, k5, k6, k7, k8, k9, k10⟩ := hW; go_simp <;> rfl)
    simp only [Act.put, List.setIfInBounds_toArray, List.set_cons_zero, List.set_cons_succ]
    refine takeG (v := ?vc34) 34 rfl (by kernel_rfl) (by kernel_rfl) (by kernel_rfl) (fun _ _ _ h => h) (by rfl) ?hyc34 hHeld ?restc34
    case hyc34 => (intro W hW; obtain ⟨k0, k1, k2, k3, k4, k5, k6, k7, k8, k9, k10⟩ := hW; go_simp <;> rfl)
    simp only [Act.put, List.setIfInBounds_toArray, List.set_cons_zero, List.set_cons_succ]
    refine takeG (v := ?vc35) 35 rfl (by kernel_rfl) (by kernel_rfl) (by kernel_rfl) (fun _ _ _ h => h) (by rfl) ?hyc35 hHeld ?restc35
    case hyc35 => (intro W hW; obtain ⟨k0, k1, k2, k3, k4, k5, k6, k7, k8, k9, k10⟩ := hW; go_simp <;> rfl)
    simp only [Act.put, List.setIfInBounds_toArray, List.set_cons_zero, List.set_cons_succ]
    refine takeG (v := ?vc36) 36 rfl (by kernel_rfl) (by kernel_rfl) (by kernel_rfl) (fun _ _ _ h => h) (by rfl) ?hyc36 hHeld ?restc36
    case hyc36 => (intro W hW; obtain ⟨k0, k1, k2, k3, k4, k5, k6, k7, k8, k9, k10⟩ := hW; go_simp <;> rfl)
    simp only [Act.put, List.setIfInBounds_toArray, List.set_cons_zero, List.set_cons_succ]
    refine takeG (v := ?vc37) 37 rfl (by kernel_rfl) (by kernel_rfl) (by kernel_rfl) (fun _ _ _ h => h) (by rfl) ?hyc37 hHeld ?restc37
    case hyc37 => (intro W hW; obtain ⟨k0, k1, k2, k3, k4, k5, k6, k7, k8, k9, k10⟩ := hW; go_simp <;> rfl)
    simp only [Act.put, List.setIfInBounds_toArray, List.set_cons_zero, List.set_cons_succ]
    refine takeG (v := ?vc38) 38 rfl (by kernel_rfl) (by kernel_rfl) (by kernel_rfl) (fun _ _ _ h => h) (by rfl) ?hyc38 hHeld ?restc38
    case hyc38 => (intro W hW; obtain ⟨k0, k1, k2, k3, k4, k5, k6, k7, k8, k9, k10⟩ := hW; go_simp <;> rfl)
    simp only [Act.put, List.setIfInBounds_toArray, List.set_cons_zero, List.set_cons_succ]
    refine takeG (v := ?vc39) 39 rfl (by kernel_rfl) (by kernel_rfl) (by kernel_rfl) (fun _ _ _ h => h) (by rfl) ?hyc39 hHeld ?restc39
    case hyc39 => (intro W hW; obtain ⟨k0, k1, k2, k3, k4, k5, k6, k7, k8, k9, k10⟩ := hW; go_simp <;> rfl)
    simp only [Act.put, List.setIfInBounds_toArray, List.set_cons_zero, List.set_cons_succ]
    refine takeG (v := ?vc40) 40 rfl (by kernel_rfl) (by kernel_rfl) (by kernel_rfl) (fun _ _ _ h => h) (by rfl) ?hyc40 hHeld ?restc40
    case hyc40 => (intro W hW; obtain ⟨k0, k1, k2, k3, k4, k5, k6, k7, k8, k9, k10⟩ := hW; go_simp <;> rfl)
    simp only [Act.put, List.setIfInBounds_toArray, List.set_cons_zero, List.set_cons_succ]
    refine takeG (v := ?vc41) 41 rfl (by kernel_rfl) (by kernel_rfl) (by kernel_rfl) (fun _ _ _ h => h) (by rfl) ?hyc41 hHeld ?restc41
    case hyc41 => (intro W hW; obtain ⟨k0, k1, k2, k3, k4, k5, k6, k7, k8, k9, k10⟩ := hW; go_simp <;> rfl)
    simp only [Act.put, List.setIfInBounds_toArray, List.set_cons_zero, List.set_cons_succ]
    refine onlyG 42 rfl (by rfl) (by kernel_rfl) (fun K hK => ?_)
    go_simp
    refine (HCL.out _ hbd).mono ?_
    rintro e w11 ⟨rfl, hb11⟩
    refine hK.out _ _ (HS.out _ hb11) (fun hHeld => ?_)
    clear hK K
    refine takeG (v := ?vc43) 43 rfl (by kernel_rfl) (by kernel_rfl) (by kernel_rfl) (fun _ _ _ h => h) (by rfl) ?hyc43 hHeld ?restc43
    case hyc43 => (intro W hW; go_simp <;> rfl)
    simp only [Act.put, List.setIfInBounds_toArray, List.set_cons_zero, List.set_cons_succ]
    refine takeG (v := ?vc44) 44 rfl (by kernel_rfl) (by kernel_rfl) (by kernel_rfl) (fun _ _ _ h => h) (by rfl) ?hyc44 hHeld ?restc44
    case hyc44 => (intro W hW; go_simp <;> rfl)
    simp only [Act.put, List.setIfInBounds_toArray, List.set_cons_zero, List.set_cons_succ]
    refine wpAnyH_done (by kernel_rfl) ?_ _
    all_goals
     have hbw11 := bthen hbw8 hb11
     have hb611 := bthen hb68 hb11
     clear HS HCL
     cases ty
     ·have HRR : Hid (wrsB d.vars (-1) l = false) := by show _ = _; rw [HZ.out, HX.out, HKA.out, HTY.out]; simp
      have HRD : Hid (dvalidB d = false) := by show _ = _; rw [HR.out, rows_bad HLX.out HRR.out, Bool.and_false]
      go_wp2_with fail
      go_ret
      exact ⟨ret_bool HRD.out.symm, hbw11⟩
     ·have HRR : Hid (wrsB d.vars (-1) l = wrsB d.vars t (l.drop (m + 1))) := by show _ = _; rw [HZ.out, HX.out, HKA.out, HTY.out, decide_eq_true (show z < (t : Int) from hzt), decide_eq_true (show (t : Int) < d.vars.length by omega)]; rfl
      go_wp2_with fail
      go_roundw
      case rel => exact ⟨m + 1, t, by omega, by go_num, Or.inr ⟨m, _, rfl, HY.out, rfl, by omega⟩, HRR.out, hbw11, hb611⟩
      case measure => simp [intOf]; omega
   ·obtain ⟨b2', o2', y', lv3, eA, _, hpy2, _, _, hprev, _⟩ := hsl8.at_ (show p < l.length by omega)
    injection eA with eA
    injection eA with eA1 eA2 _
    subst eA1 eA2
    obtain rfl : y = y' := by rw [hpy] at hpy2; injection hpy2
    clear hpy hpy2
    generalize hyz : y.var = z at *
    clear hyz
    have i1 : (0 : Int) ≤ (p : Int) := by omega
    have wm : IntKind.i64.wrap ((m : Int) - 1) = (p : Int) := by rw [IntWalk.i64_in _ (by omega)]; omega
    have i2 : (0 : Int) < (m : Int) := by omega
    have i5 : 0 < m := by omega
    have i3 : (p : Int) < (l.length : Int) := by omega
    clear hmp
    have HS : Hid (∀ W, Below w8.heap.size w8 W → W.cell? ⟨w.heap.size, 4, none⟩ = some (.slice (some ⟨b4, o4, none⟩) d.vars.length cx) ∧ W.cell? ⟨w.heap.size, 7, none⟩ = some (.slice (some ⟨bA, oA, none⟩) d.writes.length cw) ∧ W.cell? ⟨bA, oA + k, none⟩ = some (.slice (some ⟨b2, o2, none⟩) l.length cW) ∧ W.cell? ⟨b4, o4 + t * 5 + 1, none⟩ = some (.int .i64 xv.kind) ∧ W.cell? ⟨b2, o2 + p * 7, none⟩ = some (.int .i64 z) ∧ W.cell? ⟨wr.heap.size, 0, none⟩ = some (.int .i64 t) ∧ W.cell? ⟨wr.heap.size, 1, none⟩ = some (.int .i64 yx.op) ∧ W.cell? ⟨wr.heap.size, 2, none⟩ = some (.int .i64 yx.v.kind) ∧ W.cell? ⟨wr.heap.size, 3, none⟩ = some (.int .i64 yx.v.n) ∧ W.cell? ⟨wr.heap.size, 4, none⟩ = some (.string yx.v.s) ∧ W.cell? ⟨wr.heap.size, 5, none⟩ = some (.string yx.s) ∧ W.cell? ⟨wr.heap.size, 6, none⟩ = some (.slice A3 yx.l.length c3)) := fun W hW => ⟨(hB8.now hW).c8.2.2.2.2.1, (hB8.now hW).c8.2.2.2.2.2.2.2, (hW.cell (p := ⟨bA, _, none⟩) hD8).trans hcell8, (hW.cell (p := ⟨b4, _, none⟩) hD4).trans k1, (hW.cell (p := ⟨b2, _, none⟩) hD28).trans hprev, (hY.now hW).c7⟩
    by_cases ctz : (t : Int) ≤ z
    ·have HRR : Hid (wrsB d.vars (-1) l = false) := by show _ = _; rw [HZ.out, HX.out, decide_eq_false (show ¬ z < (t : Int) by omega)]; simp
     have HRD : Hid (dvalidB d = false) := by show _ = _; rw [HR.out, rows_bad HLX.out HRR.out, Bool.and_false]
     have hbd : Below w8.heap.size w8 w8.drew := (Below.refl _ _).drew
     clear k0 k1 k2 k3 k4 q0 q1 q2 q3 q4 q5 q6 q7 y0 y1 y2 y3 y4 y5 y6 hvar
     refine wp_region_held_drew (S := fun W => W.cell? ⟨w.heap.size, 4, none⟩ = some (.slice (some ⟨b4, o4, none⟩) d.vars.length cx) ∧ W.cell? ⟨w.heap.size, 7, none⟩ = some (.slice (some ⟨bA, oA, none⟩) d.writes.length cw) ∧ W.cell? ⟨bA, oA + k, none⟩ = some (.slice (some ⟨b2, o2, none⟩) l.length cW) ∧ W.cell? ⟨b4, o4 + t * 5 + 1, none⟩ = some (.int .i64 xv.kind) ∧ W.cell? ⟨b2, o2 + p * 7, none⟩ = some (.int .i64 z) ∧ W.cell? ⟨wr.heap.size, 0, none⟩ = some (.int .i64 t) ∧ W.cell? ⟨wr.heap.size, 1, none⟩ = some (.int .i64 yx.op) ∧ W.cell? ⟨wr.heap.size, 2, none⟩ = some (.int .i64 yx.v.kind) ∧ W.cell? ⟨wr.heap.size, 3, none⟩ = some (.int .i64 yx.v.n) ∧ W.cell? ⟨wr.heap.size, 4, none⟩ = some (.string yx.v.s) ∧ W.cell? ⟨wr.heap.size, 5, none⟩ = some (.string yx.s) ∧ W.cell? ⟨wr.heap.size, 6, none⟩ = some (.slice A3 yx.l.length c3)) (by kernel_rfl) (HS.out _ hbd) (fun hHeld => ?_)
     refine takeG (v := ?vd0) 0 rfl (by kernel_rfl) (by kernel_rfl) (by kernel_rfl) (fun _ _ _ h => h) (by rfl) ?hyd0 hHeld ?restd0
     case hyd0 => (intro W hW; obtain ⟨k0, k1, k2, k3, k4, k5, k6, k7, k8, k9, k10, k11⟩ := hW; go_simp <;> rfl)
     simp only [Act.put, List.setIfInBounds_toArray, List.set_cons_zero, List.set_cons_succ]
     refine takeG (v := ?vd1) 1 rfl (by kernel_rfl) (by kernel_rfl) (by kernel_rfl) (fun _ _ _ h => h) (by rfl) ?hyd1 hHeld ?restd1
     case hyd1 => (intro W hW; obtain ⟨k0, k1, k2, k3, k4, k5, k6, k7, k8, k9, k10, k11⟩ := hW; go_simp <;> rfl)
     simp only [Act.put, List.setIfInBounds_toArray, List.set_cons_zero, List.set_cons_succ]
     refine takeG (v := .bool false) 2 rfl (by kernel_rfl) (by kernel_rfl) (by kernel_rfl) (fun _ _ _ h => h) (by rfl) ?hyd2 hHeld ?restd2
     case hyd2 => (intro W hW; obtain ⟨k0, k1, k2, k3, k4, k5, k6, k7, k8, k9, k10, k11⟩ := hW; go_simp <;> rfl)
     simp only [Act.put, List.setIfInBounds_toArray, List.set_cons_zero, List.set_cons_succ]
     refine takeG (v := ?vd3) 3 rfl (by kernel_rfl) (by kernel_rfl) (by kernel_rfl) (fun _ _ _ h => h) (by rfl) ?hyd3 hHeld ?restd3
     case hyd3 => (intro W hW; obtain ⟨k0, k1, k2, k3, k4, k5, k6, k7, k8, k9, k10, k11⟩ := hW; go_simp <;> rfl)
     simp only [Act.put, List.setIfInBounds_toArray, List.set_cons_zero, List.set_cons_succ]
     refine takeG (v := ?vd4) 4 rfl (by kernel_rfl) (by kernel_rfl) (by kernel_rfl) (fun _ _ _ h => h) (by rfl) ?hyd4 hHeld ?restd4
     case hyd4 => (intro W hW; obtain ⟨k0, k1, k2, k3, k4, k5, k6, k7, k8, k9, k10, k11⟩ := hW; go_simp <;> rfl)
     simp only [Act.put, List.setIfInBounds_toArray, List.set_cons_zero, List.set_cons_succ]
     refine takeG (v := ?vd5) 5 rfl (by kernel_rfl) (by kernel_rfl) (by kernel_rfl) (fun _ _ _ h => h) (by rfl) ?hyd5 hHeld ?restd5
     case hyd5 => (intro W hW; obtain ⟨k0, k1, k2, k3, k4, k5, k6, k7, k8, k9, k10, k11⟩ := hW; go_simp <;> rfl)
     simp only [Act.put, List.setIfInBounds_toArray, List.set_cons_zero, List.set_cons_succ]
     refine takeG (v := ?vd6) 6 rfl (by kernel_rfl) (by kernel_rfl) (by kernel_rfl) (fun _ _ _ h => h) (by rfl) ?hyd6 hHeld ?restd6
     case hyd6 => (intro W hW; obtain ⟨k0, k1, k2, k3, k4, k5, k6, k7, k8, k9, k10, k11⟩ := hW; go_simp <;> rfl)
     simp only [Act.put, List.setIfInBounds_toArray, List.set_cons_zero, List.set_cons_succ]
     refine takeG (v := ?vd7) 7 rfl (by kernel_rfl) (by kernel_rfl) (by kernel_rfl) (fun _ _ _ h => h) (by rfl) ?hyd7 hHeld ?restd7
     case hyd7 => (intro W hW; obtain ⟨k0, k1, k2, k3, k4, k5, k6, k7, k8, k9, k10, k11⟩ := hW; go_simp <;> rfl)
     simp only [Act.put, List.setIfInBounds_toArray, List.set_cons_zero, List.set_cons_succ]
     refine takeG (v := ?vd8) 8 rfl (by kernel_rfl) (by kernel_rfl) (by kernel_rfl) (fun _ _ _ h => h) (by rfl) ?hyd8 hHeld ?restd8
     case hyd8 => (intro W hW; obtain ⟨k0, k1, k2, k3, k4, k5, k6, k7, k8, k9, k10, k11⟩ := hW; go_simp <;> rfl)
     simp only [Act.put, List.setIfInBounds_toArray, List.set_cons_zero, List.set_cons_succ]
     refine takeG (v := .bool false) 9 rfl (by kernel_rfl) (by kernel_rfl) (by kernel_rfl) (fun _ _ _ h => h) (by rfl) ?hyd9 hHeld ?restd9
     case hyd9 => (intro W hW; obtain ⟨k0, k1, k2, k3, k4, k5, k6, k7, k8, k9, k10, k11⟩ := hW; go_simp <;> rfl)
     simp only [Act.put, List.setIfInBounds_toArray, List.set_cons_zero, List.set_cons_succ]
     refine takeG (v := .bool false) 10 rfl (by kernel_rfl) (by kernel_rfl) (by kernel_rfl) (fun _ _ _ h => h) (by rfl) ?hyd10 hHeld ?restd10
     case hyd10 => (intro W hW; obtain ⟨k0, k1, k2, k3, k4, k5, k6, k7, k8, k9, k10, k11⟩ := hW; go_simp <;> rfl)
     simp only [Act.put, List.setIfInBounds_toArray, List.set_cons_zero, List.set_cons_succ]
     refine takeG (v := ?vd11) 11 rfl (by kernel_rfl) (by kernel_rfl) (by kernel_rfl) (fun _ _ _ h => h) (by rfl) ?hyd11 hHeld ?restd11
     case hyd11 => (intro W hW; obtain ⟨k0, k1, k2, k3, k4, k5, k6, k7, k8, k9, k10, k11⟩ := hW; go_simp <;> rfl)
     simp only [Act.put, List.setIfInBounds_toArray, List.set_cons_zero, List.set_cons_succ]
     refine takeG (v := ?vd12) 12 rfl (by kernel_rfl) (by kernel_rfl) (by kernel_rfl) (fun _ _ _ h => h) (by rfl) ?hyd12 hHeld ?restd12
     case hyd12 => (intro W hW; obtain ⟨k0, k1, k2, k3, k4, k5, k6, k7, k8, k9, k10, k11⟩ := hW; go_simp <;> rfl)
     simp only [Act.put, List.setIfInBounds_toArray, List.set_cons_zero, List.set_cons_succ]
     refine takeG (v := .bool true) 13 rfl (by kernel_rfl) (by kernel_rfl) (by kernel_rfl) (fun _ _ _ h => h) (by rfl) ?hyd13 hHeld ?restd13
     case hyd13 => (intro W hW; obtain ⟨k0, k1, k2, k3, k4, k5, k6, k7, k8, k9, k10, k11⟩ := hW; go_simp <;> rfl)
     simp only [Act.put, List.setIfInBounds_toArray, List.set_cons_zero, List.set_cons_succ]
     refine takeG (v := ?vd14) 14 rfl (by kernel_rfl) (by kernel_rfl) (by kernel_rfl) (fun _ _ _ h => h) (by rfl) ?hyd14 hHeld ?restd14
     case hyd14 => (intro W hW; obtain ⟨k0, k1, k2, k3, k4, k5, k6, k7, k8, k9, k10, k11⟩ := hW; go_simp <;> rfl)
     simp only [Act.put, List.setIfInBounds_toArray, List.set_cons_zero, List.set_cons_succ]
     refine takeG (v := ?vd15) 15 rfl (by kernel_rfl) (by kernel_rfl) (by kernel_rfl) (fun _ _ _ h => h) (by rfl) ?hyd15 hHeld ?restd15
     case hyd15 => (intro W hW; obtain ⟨k0, k1, k2, k3, k4, k5, k6, k7, k8, k9, k10, k11⟩ := hW; go_simp <;> rfl)
     simp only [Act.put, List.setIfInBounds_toArray, List.set_cons_zero, List.set_cons_succ]
     refine takeG (v := ?vd16) 16 rfl (by kernel_rfl) (by kernel_rfl) (by kernel_rfl) (fun _ _ _ h => h) (by rfl) ?hyd16 hHeld ?restd16
     case hyd16 => (intro W hW; obtain ⟨k0, k1, k2, k3, k4, k5, k6, k7, k8, k9, k10, k11⟩ := hW; go_simp <;> rfl)
     simp only [Act.put, List.setIfInBounds_toArray, List.set_cons_zero, List.set_cons_succ]
     refine takeG (v := ?vd17) 17 rfl (by kernel_rfl) (by kernel_rfl) (by kernel_rfl) (fun _ _ _ h => h) (by rfl) ?hyd17 hHeld ?restd17
     case hyd17 => (intro W hW; obtain ⟨k0, k1, k2, k3, k4, k5, k6, k7, k8, k9, k10, k11⟩ := hW; go_simp <;> rfl)
     simp only [Act.put, List.setIfInBounds_toArray, List.set_cons_zero, List.set_cons_succ]
     refine takeG (v := ?vd18) 18 rfl (by kernel_rfl) (by kernel_rfl) (by kernel_rfl) (fun _ _ _ h => h) (by rfl) ?hyd18 hHeld ?restd18
     case hyd18 => (intro W hW; obtain ⟨k0, k1, k2, k3, k4, k5, k6, k7, k8, k9, k10, k11⟩ := hW; go_simp <;> rfl)
     simp only [Act.put, List.setIfInBounds_toArray, List.set_cons_zero, List.set_cons_succ]
     refine takeG (v := ?vd19) 19 rfl (by kernel_rfl) (by kernel_rfl) (by kernel_rfl) (fun _ _ _ h => h) (by rfl) ?hyd19 hHeld ?restd19
     case hyd19 => (intro W hW; obtain ⟨k0, k1, k2, k3, k4, k5, k6, k7, k8, k9, k10, k11⟩ := hW; go_simp <;> rfl)
     simp only [Act.put, List.setIfInBounds_toArray, List.set_cons_zero, List.set_cons_succ]
     refine takeG (v := ?vd20) 20 rfl (by kernel_rfl) (by kernel_rfl) (by kernel_rfl) (fun _ _ _ h => h) (by rfl) ?hyd20 hHeld ?restd20
     case hyd20 => (intro W hW; obtain ⟨k0, k1, k2, k3, k4, k5, k6, k7, k8, k9, k10, k11⟩ := hW; go_simp <;> rfl)
     simp only [Act.put, List.setIfInBounds_toArray, List.set_cons_zero, List.set_cons_succ]
     refine takeG (v := ?vd21) 21 rfl (by kernel_rfl) (by kernel_rfl) (by kernel_rfl) (fun _ _ _ h => h) (by rfl) ?hyd21 hHeld ?restd21
     case hyd21 => (intro W hW; obtain ⟨k0, k1, k2, k3, k4, k5, k6, k7, k8, k9, k10, k11⟩ := hW; go_simp <;> rfl)
     simp only [Act.put, List.setIfInBounds_toArray, List.set_cons_zero, List.set_cons_succ]
     refine takeG (v := ?vd22) 22 rfl (by kernel_rfl) (by kernel_rfl) (by kernel_rfl) (fun _ _ _ h => h) (by rfl) ?hyd22 hHeld ?restd22
     case hyd22 => (intro W hW; obtain ⟨k0, k1, k2, k3, k4, k5, k6, k7, k8, k9, k10, k11⟩ := hW; go_simp <;> rfl)
     simp only [Act.put, List.setIfInBounds_toArray, List.set_cons_zero, List.set_cons_succ]
     refine takeG (v := ?vd23) 23 rfl (by kernel_rfl) (by kernel_rfl) (by kernel_rfl) (fun _ _ _ h => h) (by rfl) ?hyd23 hHeld ?restd23
     case hyd23 => (intro W hW; obtain ⟨k0, k1, k2, k3, k4, k5, k6, k7, k8, k9, k10, k11⟩ := hW; go_simp <;> rfl)
     simp only [Act.put, List.setIfInBounds_toArray, List.set_cons_zero, List.set_cons_succ]
     refine takeG (v := ?vd24) 24 rfl (by kernel_rfl) (by kernel_rfl) (by kernel_rfl) (fun _ _ _ h => h) (by rfl) ?hyd24 hHeld ?restd24
     case hyd24 => (intro W hW; obtain ⟨k0, k1, k2, k3, k4, k5, k6, k7, k8, k9, k10, k11⟩ := hW; go_simp <;> rfl)
     simp only [Act.put, List.setIfInBounds_toArray, List.set_cons_zero, List.set_cons_succ]
     refine takeG (v := ?vd25) 25 rfl (by kernel_rfl) (by kernel_rfl) (by kernel_rfl) (fun _ _ _ h => h) (by rfl) ?hyd25 hHeld ?restd25
     case hyd25 => (intro W hW; obtain ⟨k0, k1, k2, k3, k4, k5, k6, k7, k8, k9, k10, k11⟩ := hW; go_simp <;> rfl)
     simp only [Act.put, List.setIfInBounds_toArray, List.set_cons_zero, List.set_cons_succ]
     refine takeG (v := ?vd26) 26 rfl (by kernel_rfl) (by kernel_rfl) (by kernel_rfl) (fun _ _ _ h => h) (by rfl) ?hyd26 hHeld ?restd26
     case hyd26 => (intro W hW; obtain ⟨k0, k1, k2, k3, k4, k5, k6, k7, k8, k9, k10, k11⟩ := hW; go_simp <;> rfl)
     simp only [Act.put, List.setIfInBounds_toArray, List.set_cons_zero, List.set_cons_succ]
     refine takeG (v := .bool true) 27 rfl (by kernel_rfl) (by kernel_rfl) (by kernel_rfl) (fun _ _ _ h => h) (by rfl) ?hyd27 hHeld ?restd27
     case hyd27 => (intro W hW; obtain ⟨k0, k1, k2, k3, k4, k5, k6, k7, k8, k9, k10, k11⟩ := hW; go_simp <;> rfl)
     simp only [Act.put, List.setIfInBounds_toArray, List.set_cons_zero, List.set_cons_succ]
     refine takeG (v := .bool true) 28 rfl (by kernel_rfl) (by kernel_rfl) (by kernel_rfl) (fun _ _ _ h => h) (by rfl) ?hyd28 hHeld ?restd28
     case hyd28 => (intro W hW; obtain ⟨k0, k1, k2, k3, k4, k5, k6, k7, k8, k9, k10, k11⟩ := hW; go_simp <;> rfl)
     simp only [Act.put, List.setIfInBounds_toArray, List.set_cons_zero, List.set_cons_succ]
     refine takeG (v := .bool true) 29 rfl (by kernel_rfl) (by kernel_rfl) (by kernel_rfl) (fun _ _ _ h => h) (by rfl) ?hyd29 hHeld ?restd29
     case hyd29 => (intro W hW; obtain ⟨k0, k1, k2, k3, k4, k5, k6, k7, k8, k9, k10, k11⟩ := hW; go_simp <;> rfl)
     simp only [Act.put, List.setIfInBounds_toArray, List.set_cons_zero, List.set_cons_succ]
     refine takeG (v := ?vd30) 30 rfl (by kernel_rfl) (by kernel_rfl) (by kernel_rfl) (fun _ _ _ h => h) (by rfl) ?hyd30 hHeld ?restd30
     case hyd30 => (intro W hW; obtain ⟨k0, k1, k2, k3, k4, k5, k6, k7, k8, k9, k10, k11⟩ := hW; go_simp <;> rfl)
     simp only [Act.put, List.setIfInBounds_toArray, List.set_cons_zero, List.set_cons_succ]
     refine skipG 31 rfl (by kernel_rfl) (by kernel_rfl) (by kernel_rfl) (fun _ _ _ h => h) (by rfl) hHeld ?_
     simp only [Act.put, List.setIfInBounds_toArray, List.set_cons_zero, List.set_cons_succ]
     refine skipG 32 rfl (by kernel_rfl) (by kernel_rfl) (by kernel_rfl) (fun _ _ _ h => h) (by rfl) hHeld ?_
     simp only [Act.put, List.setIfInBounds_toArray, List.set_cons_zero, List.set_cons_succ]
     refine skipG 33 rfl (by kernel_rfl) (by kernel_rfl) (by kernel_rfl) (fun _ _ _ h => h) (by rfl) hHeld ?_
     simp only [Act.put, List.setIfInBounds_toArray, List.set_cons_zero, List.set_cons_succ]
     refine skipG 34 rfl (by kernel_rfl) (by kernel_rfl) (by kernel_rfl) (fun _ _ _ h => h) (by rfl) hHeld ?_
     simp only [Act.put, List.setIfInBounds_toArray, List.set_cons_zero, List.set_cons_succ]
     refine skipG 35 rfl (by kernel_rfl) (by kernel_rfl) (by kernel_rfl) (fun _ _ _ h => h) (by rfl) hHeld ?_
     simp only [Act.put, List.setIfInBounds_toArray, List.set_cons_zero, List.set_cons_succ]
     refine skipG 36 rfl (by kernel_rfl) (by kernel_rfl) (by kernel_rfl) (fun _ _ _ h => h) (by rfl) hHeld ?_
     simp only [Act.put, List.setIfInBounds_toArray, List.set_cons_zero, List.set_cons_succ]
     refine skipG 37 rfl (by kernel_rfl) (by kernel_rfl) (by kernel_rfl) (fun _ _ _ h => h) (by rfl) hHeld ?_
     simp only [Act.put, List.setIfInBounds_toArray, List.set_cons_zero, List.set_cons_succ]
     refine skipG 38 rfl (by kernel_rfl) (by kernel_rfl) (by kernel_rfl) (fun _ _ _ h => h) (by rfl) hHeld ?_
     simp only [Act.put, List.setIfInBounds_toArray, List.set_cons_zero, List.set_cons_succ]
     refine skipG 39 rfl (by kernel_rfl) (by kernel_rfl) (by kernel_rfl) (fun _ _ _ h => h) (by rfl) hHeld ?_
     simp only [Act.put, List.setIfInBounds_toArray, List.set_cons_zero, List.set_cons_succ]
     refine skipG 40 rfl (by kernel_rfl) (by kernel_rfl) (by kernel_rfl) (fun _ _ _ h => h) (by rfl) hHeld ?_
     simp only [Act.put, List.setIfInBounds_toArray, List.set_cons_zero, List.set_cons_succ]
     refine skipG 41 rfl (by kernel_rfl) (by kernel_rfl) (by kernel_rfl) (fun _ _ _ h => h) (by rfl) hHeld ?_
     simp only [Act.put, List.setIfInBounds_toArray, List.set_cons_zero, List.set_cons_succ]
     refine skipG 42 rfl (by kernel_rfl) (by kernel_rfl) (by kernel_rfl) (fun _ _ _ h => h) (by rfl) hHeld ?_
     simp only [Act.put, List.setIfInBounds_toArray, List.set_cons_zero, List.set_cons_succ]
     refine skipG 43 rfl (by kernel_rfl) (by kernel_rfl) (by kernel_rfl) (fun _ _ _ h => h) (by rfl) hHeld ?_
     simp only [Act.put, List.setIfInBounds_toArray, List.set_cons_zero, List.set_cons_succ]
     refine takeG (v := .bool true) 44 rfl (by kernel_rfl) (by kernel_rfl) (by kernel_rfl) (fun _ _ _ h => h) (by rfl) ?hyd44 hHeld ?restd44
     case hyd44 => (intro W hW; obtain ⟨k0, k1, k2, k3, k4, k5, k6, k7, k8, k9, k10, k11⟩ := hW; go_simp <;> rfl)
     simp only [Act.put, List.setIfInBounds_toArray, List.set_cons_zero, List.set_cons_succ]
     refine wpAnyH_done (by kernel_rfl) ?_ _
     go_wp2_with fail
     go_ret
     exact ⟨ret_bool HRD.out.symm, hbw8.drew⟩
    have c1' : ¬ (t : Int) < 0 := c1
    have c2' : ¬ (d.vars.length : Int) ≤ (t : Int) := c2
    have c3' : ¬ (t : Int) ≤ z := ctz
    clear c1 c2 ctz
    have hbd : Below w8.heap.size w8 w8.drew := (Below.refl _ _).drew
    clear k0 k1 k2 k3 k4 q0 q1 q2 q3 q4 q5 q6 q7 y0 y1 y2 y3 y4 y5 y6 hvar hcell8 hprev
    generalize hty : typedB d.vars yx xv.kind = ty at *
    have HTY := Lib.hid hty
    clear hty
    refine wp_region_held_drew (S := fun W => W.cell? ⟨w.heap.size, 4, none⟩ = some (.slice (some ⟨b4, o4, none⟩) d.vars.length cx) ∧ W.cell? ⟨w.heap.size, 7, none⟩ = some (.slice (some ⟨bA, oA, none⟩) d.writes.length cw) ∧ W.cell? ⟨bA, oA + k, none⟩ = some (.slice (some ⟨b2, o2, none⟩) l.length cW) ∧ W.cell? ⟨b4, o4 + t * 5 + 1, none⟩ = some (.int .i64 xv.kind) ∧ W.cell? ⟨b2, o2 + p * 7, none⟩ = some (.int .i64 z) ∧ W.cell? ⟨wr.heap.size, 0, none⟩ = some (.int .i64 t) ∧ W.cell? ⟨wr.heap.size, 1, none⟩ = some (.int .i64 yx.op) ∧ W.cell? ⟨wr.heap.size, 2, none⟩ = some (.int .i64 yx.v.kind) ∧ W.cell? ⟨wr.heap.size, 3, none⟩ = some (.int .i64 yx.v.n) ∧ W.cell? ⟨wr.heap.size, 4, none⟩ = some (.string yx.v.s) ∧ W.cell? ⟨wr.heap.size, 5, none⟩ = some (.string yx.s) ∧ W.cell? ⟨wr.heap.size, 6, none⟩ = some (.slice A3 yx.l.length c3)) (by kernel_rfl) (HS.out _ hbd) (fun hHeld => ?_)
    refine takeG (v := ?ve0) 0 rfl (by kernel_rfl) (by kernel_rfl) (by kernel_rfl) (fun _ _ _ h => h) (by rfl) ?hye0 hHeld ?reste0
    case hye0 => (intro W hW; obtain ⟨k0, k1, k2, k3, k4, k5, k6, k7, k8, k9, k10, k11⟩ := hW; go_simp <;> rfl)
    simp only [Act.put, List.setIfInBounds_toArray, List.set_cons_zero, List.set_cons_succ]
    refine takeG (v := ?ve1) 1 rfl (by kernel_rfl) (by kernel_rfl) (by kernel_rfl) (fun _ _ _ h => h) (by rfl) ?hye1 hHeld ?reste1
    case hye1 => (intro W hW; obtain ⟨k0, k1, k2, k3, k4, k5, k6, k7, k8, k9, k10, k11⟩ := hW; go_simp <;> rfl)
    simp only [Act.put, List.setIfInBounds_toArray, List.set_cons_zero, List.set_cons_succ]
    refine takeG (v := .bool false) 2 rfl (by kernel_rfl) (by kernel_rfl) (by kernel_rfl) (fun _ _ _ h => h) (by rfl) ?hye2 hHeld ?reste2
    case hye2 => (intro W hW; obtain ⟨k0, k1, k2, k3, k4, k5, k6, k7, k8, k9, k10, k11⟩ := hW; go_simp <;> rfl)
    simp only [Act.put, List.setIfInBounds_toArray, List.set_cons_zero, List.set_cons_succ]
    refine takeG (v := ?ve3) 3 rfl (by kernel_rfl) (by kernel_rfl) (by kernel_rfl) (fun _ _ _ h => h) (by rfl) ?hye3 hHeld ?reste3
    case hye3 => (intro W hW; obtain ⟨k0, k1, k2, k3, k4, k5, k6, k7, k8, k9, k10, k11⟩ := hW; go_simp <;> rfl)
    simp only [Act.put, List.setIfInBounds_toArray, List.set_cons_zero, List.set_cons_succ]
    refine takeG (v := ?ve4) 4 rfl (by kernel_rfl) (by kernel_rfl) (by kernel_rfl) (fun _ _ _ h => h) (by rfl) ?hye4 hHeld ?reste4
    case hye4 => (intro W hW; obtain ⟨k0, k1, k2, k3, k4, k5, k6, k7, k8, k9, k10, k11⟩ := hW; go_simp <;> rfl)
    simp only [Act.put, List.setIfInBounds_toArray, List.set_cons_zero, List.set_cons_succ]
    refine takeG (v := ?ve5) 5 rfl (by kernel_rfl) (by kernel_rfl) (by kernel_rfl) (fun _ _ _ h => h) (by rfl) ?hye5 hHeld ?reste5
    case hye5 => (intro W hW; obtain ⟨k0, k1, k2, k3, k4, k5, k6, k7, k8, k9, k10, k11⟩ := hW; go_simp <;> rfl)
    simp only [Act.put, List.setIfInBounds_toArray, List.set_cons_zero, List.set_cons_succ]
    refine takeG (v := ?ve6) 6 rfl (by kernel_rfl) (by kernel_rfl) (by kernel_rfl) (fun _ _ _ h => h) (by rfl) ?hye6 hHeld ?reste6
    case hye6 => (intro W hW; obtain ⟨k0, k1, k2, k3, k4, k5, k6, k7, k8, k9, k10, k11⟩ := hW; go_simp <;> rfl)
    simp only [Act.put, List.setIfInBounds_toArray, List.set_cons_zero, List.set_cons_succ]
    refine takeG (v := ?ve7) 7 rfl (by kernel_rfl) (by kernel_rfl) (by kernel_rfl) (fun _ _ _ h => h) (by rfl) ?hye7 hHeld ?reste7
    case hye7 => (intro W hW; obtain ⟨k0, k1, k2, k3, k4, k5, k6, k7, k8, k9, k10, k11⟩ := hW; go_simp <;> rfl)
    simp only [Act.put, List.setIfInBounds_toArray, List.set_cons_zero, List.set_cons_succ]
    refine takeG (v := ?ve8) 8 rfl (by kernel_rfl) (by kernel_rfl) (by kernel_rfl) (fun _ _ _ h => h) (by rfl) ?hye8 hHeld ?reste8
    case hye8 => (intro W hW; obtain ⟨k0, k1, k2, k3, k4, k5, k6, k7, k8, k9, k10, k11⟩ := hW; go_simp <;> rfl)
    simp only [Act.put, List.setIfInBounds_toArray, List.set_cons_zero, List.set_cons_succ]
    refine takeG (v := .bool false) 9 rfl (by kernel_rfl) (by kernel_rfl) (by kernel_rfl) (fun _ _ _ h => h) (by rfl) ?hye9 hHeld ?reste9
    case hye9 => (intro W hW; obtain ⟨k0, k1, k2, k3, k4, k5, k6, k7, k8, k9, k10, k11⟩ := hW; go_simp <;> rfl)
    simp only [Act.put, List.setIfInBounds_toArray, List.set_cons_zero, List.set_cons_succ]
    refine takeG (v := .bool false) 10 rfl (by kernel_rfl) (by kernel_rfl) (by kernel_rfl) (fun _ _ _ h => h) (by rfl) ?hye10 hHeld ?reste10
    case hye10 => (intro W hW; obtain ⟨k0, k1, k2, k3, k4, k5, k6, k7, k8, k9, k10, k11⟩ := hW; go_simp <;> rfl)
    simp only [Act.put, List.setIfInBounds_toArray, List.set_cons_zero, List.set_cons_succ]
    refine takeG (v := ?ve11) 11 rfl (by kernel_rfl) (by kernel_rfl) (by kernel_rfl) (fun _ _ _ h => h) (by rfl) ?hye11 hHeld ?reste11
    case hye11 => (intro W hW; obtain ⟨k0, k1, k2, k3, k4, k5, k6, k7, k8, k9, k10, k11⟩ := hW; go_simp <;> rfl)
    simp only [Act.put, List.setIfInBounds_toArray, List.set_cons_zero, List.set_cons_succ]
    refine takeG (v := ?ve12) 12 rfl (by kernel_rfl) (by kernel_rfl) (by kernel_rfl) (fun _ _ _ h => h) (by rfl) ?hye12 hHeld ?reste12
    case hye12 => (intro W hW; obtain ⟨k0, k1, k2, k3, k4, k5, k6, k7, k8, k9, k10, k11⟩ := hW; go_simp <;> rfl)
    simp only [Act.put, List.setIfInBounds_toArray, List.set_cons_zero, List.set_cons_succ]
    refine takeG (v := .bool true) 13 rfl (by kernel_rfl) (by kernel_rfl) (by kernel_rfl) (fun _ _ _ h => h) (by rfl) ?hye13 hHeld ?reste13
    case hye13 => (intro W hW; obtain ⟨k0, k1, k2, k3, k4, k5, k6, k7, k8, k9, k10, k11⟩ := hW; go_simp <;> rfl)
    simp only [Act.put, List.setIfInBounds_toArray, List.set_cons_zero, List.set_cons_succ]
    refine takeG (v := ?ve14) 14 rfl (by kernel_rfl) (by kernel_rfl) (by kernel_rfl) (fun _ _ _ h => h) (by rfl) ?hye14 hHeld ?reste14
    case hye14 => (intro W hW; obtain ⟨k0, k1, k2, k3, k4, k5, k6, k7, k8, k9, k10, k11⟩ := hW; go_simp <;> rfl)
    simp only [Act.put, List.setIfInBounds_toArray, List.set_cons_zero, List.set_cons_succ]
    refine takeG (v := ?ve15) 15 rfl (by kernel_rfl) (by kernel_rfl) (by kernel_rfl) (fun _ _ _ h => h) (by rfl) ?hye15 hHeld ?reste15
    case hye15 => (intro W hW; obtain ⟨k0, k1, k2, k3, k4, k5, k6, k7, k8, k9, k10, k11⟩ := hW; go_simp <;> rfl)
    simp only [Act.put, List.setIfInBounds_toArray, List.set_cons_zero, List.set_cons_succ]
    refine takeG (v := ?ve16) 16 rfl (by kernel_rfl) (by kernel_rfl) (by kernel_rfl) (fun _ _ _ h => h) (by rfl) ?hye16 hHeld ?reste16
    case hye16 => (intro W hW; obtain ⟨k0, k1, k2, k3, k4, k5, k6, k7, k8, k9, k10, k11⟩ := hW; go_simp <;> rfl)
    simp only [Act.put, List.setIfInBounds_toArray, List.set_cons_zero, List.set_cons_succ]
    refine takeG (v := ?ve17) 17 rfl (by kernel_rfl) (by kernel_rfl) (by kernel_rfl) (fun _ _ _ h => h) (by rfl) ?hye17 hHeld ?reste17
    case hye17 => (intro W hW; obtain ⟨k0, k1, k2, k3, k4, k5, k6, k7, k8, k9, k10, k11⟩ := hW; go_simp <;> rfl)
    simp only [Act.put, List.setIfInBounds_toArray, List.set_cons_zero, List.set_cons_succ]
    refine takeG (v := ?ve18) 18 rfl (by kernel_rfl) (by kernel_rfl) (by kernel_rfl) (fun _ _ _ h => h) (by rfl) ?hye18 hHeld ?reste18
    case hye18 => (intro W hW; obtain ⟨k0, k1, k2, k3, k4, k5, k6, k7, k8, k9, k10, k11⟩ := hW; go_simp <;> rfl)
    simp only [Act.put, List.setIfInBounds_toArray, List.set_cons_zero, List.set_cons_succ]
    refine takeG (v := ?ve19) 19 rfl (by kernel_rfl) (by kernel_rfl) (by kernel_rfl) (fun _ _ _ h => h) (by rfl) ?hye19 hHeld ?reste19
    case hye19 => (intro W hW; obtain ⟨k0, k1, k2, k3, k4, k5, k6, k7, k8, k9, k10, k11⟩ := hW; go_simp <;> rfl)
    simp only [Act.put, List.setIfInBounds_toArray, List.set_cons_zero, List.set_cons_succ]
    refine takeG (v := ?ve20) 20 rfl (by kernel_rfl) (by kernel_rfl) (by kernel_rfl) (fun _ _ _ h => h) (by rfl) ?hye20 hHeld ?reste20
    case hye20 => (intro W hW; obtain ⟨k0, k1, k2, k3, k4, k5, k6, k7, k8, k9, k10, k11⟩ := hW; go_simp <;> rfl)
    simp only [Act.put, List.setIfInBounds_toArray, List.set_cons_zero, List.set_cons_succ]
    refine takeG (v := ?ve21) 21 rfl (by kernel_rfl) (by kernel_rfl) (by kernel_rfl) (fun _ _ _ h => h) (by rfl) ?hye21 hHeld ?reste21
    case hye21 => (intro W hW; obtain ⟨k0, k1, k2, k3, k4, k5, k6, k7, k8, k9, k10, k11⟩ := hW; go_simp <;> rfl)
    simp only [Act.put, List.setIfInBounds_toArray, List.set_cons_zero, List.set_cons_succ]
    refine takeG (v := ?ve22) 22 rfl (by kernel_rfl) (by kernel_rfl) (by kernel_rfl) (fun _ _ _ h => h) (by rfl) ?hye22 hHeld ?reste22
    case hye22 => (intro W hW; obtain ⟨k0, k1, k2, k3, k4, k5, k6, k7, k8, k9, k10, k11⟩ := hW; go_simp <;> rfl)
    simp only [Act.put, List.setIfInBounds_toArray, List.set_cons_zero, List.set_cons_succ]
    refine takeG (v := ?ve23) 23 rfl (by kernel_rfl) (by kernel_rfl) (by kernel_rfl) (fun _ _ _ h => h) (by rfl) ?hye23 hHeld ?reste23
    case hye23 => (intro W hW; obtain ⟨k0, k1, k2, k3, k4, k5, k6, k7, k8, k9, k10, k11⟩ := hW; go_simp <;> rfl)
    simp only [Act.put, List.setIfInBounds_toArray, List.set_cons_zero, List.set_cons_succ]
    refine takeG (v := ?ve24) 24 rfl (by kernel_rfl) (by kernel_rfl) (by kernel_rfl) (fun _ _ _ h => h) (by rfl) ?hye24 hHeld ?reste24
    case hye24 => (intro W hW; obtain ⟨k0, k1, k2, k3, k4, k5, k6, k7, k8, k9, k10, k11⟩ := hW; go_simp <;> rfl)
    simp only [Act.put, List.setIfInBounds_toArray, List.set_cons_zero, List.set_cons_succ]
    refine takeG (v := ?ve25) 25 rfl (by kernel_rfl) (by kernel_rfl) (by kernel_rfl) (fun _ _ _ h => h) (by rfl) ?hye25 hHeld ?reste25
    case hye25 => (intro W hW; obtain ⟨k0, k1, k2, k3, k4, k5, k6, k7, k8, k9, k10, k11⟩ := hW; go_simp <;> rfl)
    simp only [Act.put, List.setIfInBounds_toArray, List.set_cons_zero, List.set_cons_succ]
    refine takeG (v := ?ve26) 26 rfl (by kernel_rfl) (by kernel_rfl) (by kernel_rfl) (fun _ _ _ h => h) (by rfl) ?hye26 hHeld ?reste26
    case hye26 => (intro W hW; obtain ⟨k0, k1, k2, k3, k4, k5, k6, k7, k8, k9, k10, k11⟩ := hW; go_simp <;> rfl)
    simp only [Act.put, List.setIfInBounds_toArray, List.set_cons_zero, List.set_cons_succ]
    refine takeG (v := .bool false) 27 rfl (by kernel_rfl) (by kernel_rfl) (by kernel_rfl) (fun _ _ _ h => h) (by rfl) ?hye27 hHeld ?reste27
    case hye27 => (intro W hW; obtain ⟨k0, k1, k2, k3, k4, k5, k6, k7, k8, k9, k10, k11⟩ := hW; go_simp <;> rfl)
    simp only [Act.put, List.setIfInBounds_toArray, List.set_cons_zero, List.set_cons_succ]
    refine takeG (v := .bool false) 28 rfl (by kernel_rfl) (by kernel_rfl) (by kernel_rfl) (fun _ _ _ h => h) (by rfl) ?hye28 hHeld ?reste28
    case hye28 => (intro W hW; obtain ⟨k0, k1, k2, k3, k4, k5, k6, k7, k8, k9, k10, k11⟩ := hW; go_simp <;> rfl)
    simp only [Act.put, List.setIfInBounds_toArray, List.set_cons_zero, List.set_cons_succ]
    refine takeG (v := .bool false) 29 rfl (by kernel_rfl) (by kernel_rfl) (by kernel_rfl) (fun _ _ _ h => h) (by rfl) ?hye29 hHeld ?reste29
    case hye29 => (intro W hW; obtain ⟨k0, k1, k2, k3, k4, k5, k6, k7, k8, k9, k10, k11⟩ := hW; go_simp <;> rfl)
    simp only [Act.put, List.setIfInBounds_toArray, List.set_cons_zero, List.set_cons_succ]
    refine takeG (v := ?ve30) 30 rfl (by kernel_rfl) (by kernel_rfl) (by kernel_rfl) (fun _ _ _ h => h) (by rfl) ?hye30 hHeld ?reste30
    case hye30 => (intro W hW; obtain ⟨k0, k1, k2, k3, k4, k5, k6, k7, k8, k9, k10, k11⟩ := hW; go_simp <;> rfl)
    simp only [Act.put, List.setIfInBounds_toArray, List.set_cons_zero, List.set_cons_succ]
    refine takeG (v := ?ve31) 31 rfl (by kernel_rfl) (by kernel_rfl) (by kernel_rfl) (fun _ _ _ h => h) (by rfl) ?hye31 hHeld ?reste31
    case hye31 => (intro W hW; obtain ⟨k0, k1, k2, k3, k4, k5, k6, k7, k8, k9, k10, k11⟩ := hW; go_simp <;> rfl)
    simp only [Act.put, List.setIfInBounds_toArray, List.set_cons_zero, List.set_cons_succ]
    refine takeG (v := ?ve32) 32 rfl (by kernel_rfl) (by kernel_rfl) (by kernel_rfl) (fun _ _ _ h => h) (by rfl) ?hye32 hHeld ?reste32
    case hye32 => (intro W hW; obtain ⟨k0, k1, k2, k3, k4, k5, k6, k7, k8, k9, k10, k11⟩ := hW; go_simp <;> rfl)
    simp only [Act.put, List.setIfInBounds_toArray, List.set_cons_zero, List.set_cons_succ]
    refine takeG (v := ?ve33) 33 rfl (by kernel_rfl) (by kernel_rfl) (by kernel_rfl) (fun _ _ _ h => h) (by rfl) ?hye33 hHeld ?reste33
    case hye33 => (intro W hW; obtain ⟨k0, k1, k2, k3, k4, k5, k6, k7, k8, k9, k10, k11⟩ := hW; go_simp <;> rfl)
    simp only [Act.put, List.setIfInBounds_toArray, List.set_cons_zero, List.set_cons_succ]
    refine takeG (v := ?ve34) 34 rfl (by kernel_rfl) (by kernel_rfl) (by kernel_rfl) (fun _ _ _ h => h) (by rfl) ?hye34 hHeld ?reste34
    case hye34 => (intro W hW; obtain ⟨k0, k1, k2, k3, k4, k5, k6, k7, k8, k9, k10, k11⟩ := hW; go_simp <;> rfl)
    simp only [Act.put, List.setIfInBounds_toArray, List.set_cons_zero, List.set_cons_succ]
    refine takeG (v := ?ve35) 35 rfl (by kernel_rfl) (by kernel_rfl) (by kernel_rfl) (fun _ _ _ h => h) (by rfl) ?hye35 hHeld ?reste35
    case hye35 => (intro W hW; obtain ⟨k0, k1, k2, k3, k4, k5, k6, k7, k8, k9, k10, k11⟩ := hW; go_simp <;> rfl)
    simp only [Act.put, List.setIfInBounds_toArray, List.set_cons_zero, List.set_cons_succ]
    refine takeG (v := ?ve36) 36 rfl (by kernel_rfl) (by kernel_rfl) (by kernel_rfl) (fun _ _ _ h => h) (by rfl) ?hye36 hHeld ?reste36
    case hye36 => (intro W hW; obtain ⟨k0, k1, k2, k3, k4, k5, k6, k7, k8, k9, k10, k11⟩ := hW; go_simp <;> rfl)
    simp only [Act.put, List.setIfInBounds_toArray, List.set_cons_zero, List.set_cons_succ]
    refine takeG (v := ?ve37) 37 rfl (by kernel_rfl) (by kernel_rfl) (by kernel_rfl) (fun _ _ _ h => h) (by rfl) ?hye37 hHeld ?reste37
    case hye37 => (intro W hW; obtain ⟨k0, k1, k2, k3, k4, k5, k6, k7, k8, k9, k10, k11⟩ := hW; go_simp <;> rfl)
    simp only [Act.put, List.setIfInBounds_toArray, List.set_cons_zero, List.set_cons_succ]
    refine takeG (v := ?ve38) 38 rfl (by kernel_rfl) (by kernel_rfl) (by kernel_rfl) (fun _ _ _ h => h) (by rfl) ?hye38 hHeld ?reste38
    case hye38 => (intro W hW; obtain ⟨k0, k1, k2, k3, k4, k5, k6, k7, k8, k9, k10, k11⟩ := hW; go_simp <;> rfl)
    simp only [Act.put, List.setIfInBounds_toArray, List.set_cons_zero, List.set_cons_succ]
    refine takeG (v := ?ve39) 39 rfl (by kernel_rfl) (by kernel_rfl) (by kernel_rfl) (fun _ _ _ h => h) (by rfl) ?hye39 hHeld ?reste39
    case hye39 => (intro W hW; obtain ⟨k0, k1, k2, k3, k4, k5, k6, k7, k8, k9, k10, k11⟩ := hW; go_simp <;> rfl)
    simp only [Act.put, List.setIfInBounds_toArray, List.set_cons_zero, List.set_cons_succ]
    refine takeG (v := ?ve40) 40 rfl (by kernel_rfl) (by kernel_rfl) (by kernel_rfl) (fun _ _ _ h => h) (by rfl) ?hye40 hHeld ?reste40
    case hye40 => (intro W hW; obtain ⟨k0, k1, k2, k3, k4, k5, k6, k7, k8, k9, k10, k11⟩ := hW; go_simp <;> rfl)
    simp only [Act.put, List.setIfInBounds_toArray, List.set_cons_zero, List.set_cons_succ]
    refine takeG (v := ?ve41) 41 rfl (by kernel_rfl) (by kernel_rfl) (by kernel_rfl) (fun _ _ _ h => h) (by rfl) ?hye41 hHeld ?reste41
    case hye41 => (intro W hW; obtain ⟨k0, k1, k2, k3, k4, k5, k6, k7, k8, k9, k10, k11⟩ := hW; go_simp <;> rfl)
    simp only [Act.put, List.setIfInBounds_toArray, List.set_cons_zero, List.set_cons_succ]
    refine onlyG 42 rfl (by rfl) (by kernel_rfl) (fun K hK => ?_)
    go_simp
    refine (HCL.out _ hbd).mono ?_
    rintro e w11 ⟨rfl, hb11⟩
    refine hK.out _ _ (HS.out _ hb11) (fun hHeld => ?_)
    clear hK K
    refine takeG (v := ?ve43) 43 rfl (by kernel_rfl) (by kernel_rfl) (by kernel_rfl) (fun _ _ _ h => h) (by rfl) ?hye43 hHeld ?reste43
    case hye43 => (intro W hW; go_simp <;> rfl)
    simp only [Act.put, List.setIfInBounds_toArray, List.set_cons_zero, List.set_cons_succ]
    refine takeG (v := ?ve44) 44 rfl (by kernel_rfl) (by kernel_rfl) (by kernel_rfl) (fun _ _ _ h => h) (by rfl) ?hye44 hHeld ?reste44
    case hye44 => (intro W hW; go_simp <;> rfl)
    simp only [Act.put, List.setIfInBounds_toArray, List.set_cons_zero, List.set_cons_succ]
    refine wpAnyH_done (by kernel_rfl) ?_ _
    all_goals
     have hbw11 := bthen hbw8 hb11
     have hb611 := bthen hb68 hb11
     clear HS HCL
     cases ty
     ·have HRR : Hid (wrsB d.vars (-1) l = false) := by show _ = _; rw [HZ.out, HX.out, HKA.out, HTY.out]; simp
      have HRD : Hid (dvalidB d = false) := by show _ = _; rw [HR.out, rows_bad HLX.out HRR.out, Bool.and_false]
      go_wp2_with fail
      go_ret
      exact ⟨ret_bool HRD.out.symm, hbw11⟩
     ·have HRR : Hid (wrsB d.vars (-1) l = wrsB d.vars t (l.drop (m + 1))) := by show _ = _; rw [HZ.out, HX.out, HKA.out, HTY.out, decide_eq_true (show z < (t : Int) by omega), decide_eq_true (show (t : Int) < d.vars.length by omega)]; rfl
      go_wp2_with fail
      go_roundw
      case rel => exact ⟨m + 1, t, by omega, by go_num, Or.inr ⟨m, _, rfl, HY.out, rfl, by omega⟩, HRR.out, hbw11, hb611⟩
      case measure => simp [intOf]; omega
end Go.Proofs.YtlmenhjlgmejkaaGreatDoor
