/- Merged texts. -/
import Derived.Test.YtlmenhjlgmejkaaGreatDoorSn27
set_option linter.all false
namespace Go.Proofs.YtlmenhjlgmejkaaGreatDoor
open Go.RowKit
theorem oneB_at {n : Net} {P q k : Nat} (hP : n.places = (P : Int)) (hk : k < P) : (oneB n q)[k]? = some (if k = q then 1 else 0) := by
 unfold oneB
 rw [hP, Int.toNat_natCast, Int.toNat_natCast, List.getElem?_set]
 by_cases h : q = k
 ·subst h
  rw [if_pos rfl, if_pos (by simpa using hk), if_pos rfl]
 ·rw [if_neg h, if_neg (fun e => h e.symm), List.getElem?_replicate, if_pos hk]
theorem oneB_step {n : Net} {P q k : Nat} (hP : n.places = (P : Int)) (hk : k < P) : (oneB n q).take (k + 1) = (oneB n q).take k ++ [if k = q then 1 else 0] := by
 rw [List.take_add_one, oneB_at hP hk]; rfl
theorem oneB_all {n : Net} {P q : Nat} (hP : n.places = (P : Int)) : (oneB n q).take P = oneB n q := by
 refine List.take_of_length_le ?_
 unfold oneB
 rw [List.length_set, List.length_replicate, hP, Int.toNat_natCast]
 exact Nat.le_refl _
theorem oneB_fit {n : Net} {p : Int} : ∀ z ∈ oneB n p, Fit z := by
 intro z hz
 unfold oneB at hz
 rcases List.mem_or_eq_of_mem_set hz with hz | rfl
 ·rw [List.eq_of_mem_replicate hz]; unfold Fit; omega
 ·unfold Fit; omega
def RetSlF (zs : List Int) (w : World) (e : Ending) (w' : World) : Prop := ∃ v, e = .returned v ∧ SlI (Fr w.heap.size w') w' v zs ∧ Below w.heap.size w w'
set_option maxHeartbeats 2000000 in
theorem one_ref (n : Net) (v : Value) (p : Int) (w : World) (h : IsNet (Lt w.heap.size) w v n) (hV : validB n = true) (hp0 : 0 ≤ p) :
  Calls Tryz.prog 130 #[v, .int .i64 p] w (RetSlF (oneB n p) w) := by
 obtain ⟨tv, rfl, hp, hs, hkk, ht⟩ := h
 obtain ⟨A, c, rfl, h1, h2, ht⟩ := ht.open_
 obtain ⟨v1, v2, v3, v4⟩ := validOk hV
 clear v4 ht hV
 obtain ⟨q, rfl⟩ := Int.eq_ofNat_of_zero_le hp0
 obtain ⟨P, hP⟩ := Int.eq_ofNat_of_zero_le (show 0 ≤ n.places by omega)
 have HP := Lib.hid hP
 rw [hP]
 rw [hP] at v1 v2
 have hb := bone w (.cells #[.int .i64 P, .slice A n.trans.length c, .int .i64 n.source, .int .i64 n.sink] 24)
 have hB := Blk.new w 24 #[.int .i64 P, .slice A n.trans.length c, .int .i64 n.source, .int .i64 n.sink]
 clear hP hp hs hkk hp0
 go_enter Tryz.func130, Tryz.ntmps130
 go_wp2_with fail
 go_loopw [5, 6] (fun ov i wr => ∃ k : Nat, k ≤ P ∧ i = .int .i64 k ∧ wr.ownsRow (w.heap.size + 1) 3 1 ov k (((oneB n q).take k).map (Value.int .i64)) ∧ Below w.heap.size w wr ∧ Blk wr w.heap.size 24 #[.int .i64 P, .slice A n.trans.length c, .int .i64 n.source, .int .i64 n.sink]) (fun _ i _ => P - (intOf i).toNat)
 case atStart => exact ⟨0, Nat.zero_le _, rfl, World.ownsRow_nil _ _ _ _, hb, hB⟩
 case round =>
  obtain ⟨k, hk, rfl, hown, hbr, hBr⟩ := hrel
  have hltr := hBr.lt
  obtain ⟨q0, q1, q2, q3⟩ := hBr.c4
  by_cases hlt : k < P
  ·have HS := Lib.hid (oneB_step (q := q) HP.out hlt)
   by_cases hkq : k = q
   ·subst hkq
    have HS2 : Hid ((oneB n k).take (k + 1) = (oneB n k).take k ++ [1]) := by show _ = _; rw [HS.out, if_pos rfl]
    clear HS
    go_wp2_with (at_builtin; refine wpList_push appInts rfl (.tmp 17) (.tmp 19) rfl wr [.int .i64 1] rfl (by simp [Value.oneCell']) _ k (((oneB n k).take k).map (Value.int .i64)) rfl hown rfl (by omega) (by omega) ?_; intro v' w' hown' hgr hat)
    have hbg : Below (w.heap.size + 1) wr w' := below_of_grown hgr (by omega) (fun g hg => (World.ownsRow.lt hown g hg).1)
    go_roundw
    case rel =>
     refine ⟨k + 1, by omega, by go_num, ?_, hbr.trans (hbg.mono (by omega)), hBr.below hbg (by omega)⟩
     rw [HS2.out]; simpa using hown'
    case measure => simp [intOf]; omega
   ·have HS2 : Hid ((oneB n q).take (k + 1) = (oneB n q).take k ++ [0]) := by show _ = _; rw [HS.out, if_neg hkq]
    have b1 : ((k : Int) == (q : Int)) = false := by rw [beq_eq_false_iff_ne]; omega
    clear HS
    go_wp2_with (at_builtin; refine wpList_push appInts rfl (.tmp 17) (.tmp 19) rfl wr [.int .i64 0] rfl (by simp [Value.oneCell']) _ k (((oneB n q).take k).map (Value.int .i64)) rfl hown rfl (by omega) (by omega) ?_; intro v' w' hown' hgr hat)
    have hbg : Below (w.heap.size + 1) wr w' := below_of_grown hgr (by omega) (fun g hg => (World.ownsRow.lt hown g hg).1)
    go_roundw
    case rel =>
     refine ⟨k + 1, by omega, by go_num, ?_, hbr.trans (hbg.mono (by omega)), hBr.below hbg (by omega)⟩
     rw [HS2.out]; simpa using hown'
    case measure => simp [intOf]; omega
  ·obtain rfl : k = P := by omega
   rw [oneB_all HP.out] at hown
   go_wp2_with fail
   go_ret
   exact ⟨_, rfl, SlI.of_ownF hown (by omega) oneB_fit, hbr⟩
set_option maxHeartbeats 1000000 in
theorem initialM_ref (n : Net) (v : Value) (w : World) (h : IsNet (Lt w.heap.size) w v n) (hV : validB n = true) : Calls Tryz.prog 86 #[v] w (RetSlF (oneB n n.source) w) := by
 have h0 := h
 obtain ⟨tv, rfl, hp, hs, hkk, ht⟩ := h
 obtain ⟨A, c, rfl, h1, h2, ht⟩ := ht.open_
 obtain ⟨v1, v2, v3, v4⟩ := validOk hV
 have hp0 : 0 ≤ n.source := (insideOk hV).1.1
 clear v4 ht
 have hb := bone w (.cells #[.int .i64 n.places, .slice A n.trans.length c, .int .i64 n.source, .int .i64 n.sink] 24)
 have HC := Lib.hid (one_ref n _ n.source _ (h0.now hb) hV hp0)
 clear hp hs hkk v1 v2 v3 hp0 hV h0
 go_enter Tryz.func86, Tryz.ntmps86
 go_wp2_with fail
 refine HC.out.mono ?_
 rintro e w1 ⟨u, rfl, hu, hb1⟩
 go_wp2_with fail
 go_ret
 have hsz := hb.size
 exact ⟨_, rfl, hu.from_ hsz, bthen hb hb1⟩
set_option maxHeartbeats 1000000 in
theorem finalMR_ref (n : Net) (v : Value) (w : World) (h : IsNet (Lt w.heap.size) w v n) (hV : validB n = true) : Calls Tryz.prog 89 #[v] w (RetSlF (oneB n n.sink) w) := by
 have h0 := h
 obtain ⟨tv, rfl, hp, hs, hkk, ht⟩ := h
 obtain ⟨A, c, rfl, h1, h2, ht⟩ := ht.open_
 obtain ⟨v1, v2, v3, v4⟩ := validOk hV
 have hp0 : 0 ≤ n.sink := (insideOk hV).2.1
 clear v4 ht
 have hb := bone w (.cells #[.int .i64 n.places, .slice A n.trans.length c, .int .i64 n.source, .int .i64 n.sink] 24)
 have HC := Lib.hid (one_ref n _ n.sink _ (h0.now hb) hV hp0)
 clear hp hs hkk v1 v2 v3 hp0 hV h0
 go_enter Tryz.func89, Tryz.ntmps89
 go_wp2_with fail
 refine HC.out.mono ?_
 rintro e w1 ⟨u, rfl, hu, hb1⟩
 go_wp2_with fail
 go_ret
 have hsz := hb.size
 exact ⟨_, rfl, hu.from_ hsz, bthen hb hb1⟩
theorem finalM_eq {n : Net} {d : DNet} (hd : d.net = n) (hV : validB n = true) (m : List Int) : (m == oneB n n.sink) = finalM d m := by
 subst hd
 unfold finalM
 rw [hV, Bool.true_and, Bool.eq_iff_iff, decide_eq_true_eq, beq_iff_eq]
 exact ⟨fun h => h.symm, fun h => h.symm⟩
set_option maxHeartbeats 4000000 in
set_option maxRecDepth 100000 in
theorem final_ref (n : Nat) (d : DNet) (s : St) (u us : Value) (w : World) (h : IsDn n (Lt w.heap.size) w u d) (hs : IsSt (Lt w.heap.size) w us s) (hv : validB d.net = true) :
  Calls Tryz.prog 46 #[u, us] w fun e w' => e = .returned (.bool (finalM d s.marks)) ∧ Below w.heap.size w w' := by
 have HF := Lib.hid (finalM_eq (d := d) rfl hv s.marks)
 obtain ⟨At, ct, Ax, cx, iv, Ag, cg, Aw, cw, rfl, dn1, dn2, dn3, dn4, dn5, ⟨t1, t2⟩, ⟨x1, x2⟩, ⟨g1, g2⟩, v1, v2⟩ := h.open_
 obtain ⟨Am, cm, Av, cv, rfl, s1, s2, ⟨t3, t4⟩, t5, t6⟩ := hs.open_
 clear h hs
 have hb0 := bone w (.cells #[.int .i64 d.net.places, .slice At d.net.trans.length ct, .int .i64 d.net.source, .int .i64 d.net.sink, .slice Ax d.vars.length cx, iv, .slice Ag d.guards.length cg, .slice Aw d.writes.length cw] 30)
 have hb := bbox hb0 (.cells #[.slice Am s.marks.length cm, .slice Av s.vals.length cv] 33)
 have hB := (Blk.new w 30 #[.int .i64 d.net.places, .slice At d.net.trans.length ct, .int .i64 d.net.source, .int .i64 d.net.sink, .slice Ax d.vars.length cx, iv, .slice Ag d.guards.length cg, .slice Aw d.writes.length cw]).alloc (.cells #[.slice Am s.marks.length cm, .slice Av s.vals.length cv] 33)
 have hC := Blk.new_at (t := 33) (cs := #[.slice Am s.marks.length cm, .slice Av s.vals.length cv]) (w := w.alloc (.cells #[.int .i64 d.net.places, .slice At d.net.trans.length ct, .int .i64 d.net.source, .int .i64 d.net.sink, .slice Ax d.vars.length cx, iv, .slice Ag d.guards.length cg, .slice Aw d.writes.length cw] 30)) (s := w.heap.size + 1) (by simp)
 have hn1 := dn1.now hb
 have hm1 := s1.now hb
 clear dn1 dn2 dn3 dn4 dn5 s1 s2 hb0
 go_enter Tryz.func46, Tryz.ntmps46
 go_upto_region 1 with fail
 generalize hw1e : (w.alloc (.cells #[.int .i64 d.net.places, .slice At d.net.trans.length ct, .int .i64 d.net.source, .int .i64 d.net.sink, .slice Ax d.vars.length cx, iv, .slice Ag d.guards.length cg, .slice Aw d.writes.length cw] 30)).alloc (.cells #[.slice Am s.marks.length cm, .slice Av s.vals.length cv] 33) = w1 at *
 clear hw1e
 have HCL : Hid (∀ W, Below w1.heap.size w1 W → Calls Tryz.prog 89 #[.agg #[.int .i64 d.net.places, .slice At d.net.trans.length ct, .int .i64 d.net.source, .int .i64 d.net.sink]] W fun e w' => ∃ v, e = .returned v ∧ SlI (Lt w'.heap.size) w' v (oneB d.net d.net.sink) ∧ Below w1.heap.size w1 w' ∧ Below W.heap.size W w') := fun W hW => (finalMR_ref d.net _ W (hn1.now hW) hv).mono fun e w' ⟨v, he, hv, hb⟩ => ⟨v, he, SlI.weak hv, bthen hW hb, hb⟩
 obtain ⟨fm, hfm⟩ : ∃ z, z = finalM d s.marks := ⟨_, rfl⟩
 have HSM : Hid (∀ W v, Below w1.heap.size w1 W → SlI (Lt W.heap.size) W v (oneB d.net d.net.sink) → Calls Tryz.prog 33 #[.slice Am s.marks.length cm, v] W fun e w' => e = .returned (.bool fm) ∧ Below w1.heap.size w1 w') := fun W v hW hv => (sameM_ref _ _ _ _ W (hm1.now hW) hv).mono fun e w' ⟨he, q, hq⟩ => ⟨by rw [he, HF.out, hfm], by rw [hq]; exact bdrawn hW q⟩
 have HS : Hid (∀ W, Below w1.heap.size w1 W → W.cell? ⟨w.heap.size, 0, none⟩ = some (.int .i64 d.net.places) ∧ W.cell? ⟨w.heap.size, 1, none⟩ = some (.slice At d.net.trans.length ct) ∧ W.cell? ⟨w.heap.size, 2, none⟩ = some (.int .i64 d.net.source) ∧ W.cell? ⟨w.heap.size, 3, none⟩ = some (.int .i64 d.net.sink) ∧ W.cell? ⟨w.heap.size + 1, 0, none⟩ = some (.slice Am s.marks.length cm)) := fun W hW => ⟨(hB.now hW).c8.1, (hB.now hW).c8.2.1, (hB.now hW).c8.2.2.1, (hB.now hW).c8.2.2.2.1, (hC.now hW).c2.1⟩
 have hbd : Below w1.heap.size w1 w1.drew := (Below.refl _ _).drew
 obtain ⟨a0, a1, a2, a3, d0⟩ := HS.out _ hbd
 have HFM := Lib.hid hfm
 clear hfm HF
 go_region_held3 (fun W => W.cell? ⟨w.heap.size, 0, none⟩ = some (.int .i64 d.net.places) ∧ W.cell? ⟨w.heap.size, 1, none⟩ = some (.slice At d.net.trans.length ct) ∧ W.cell? ⟨w.heap.size, 2, none⟩ = some (.int .i64 d.net.source) ∧ W.cell? ⟨w.heap.size, 3, none⟩ = some (.int .i64 d.net.sink) ∧ W.cell? ⟨w.heap.size + 1, 0, none⟩ = some (.slice Am s.marks.length cm)) (exact HS.out _ (by assumption))
  (first | (go_at_call 89; (with_reducible refine (HCL.out _ (by assumption)).mono ?_); rintro e w6 ⟨fv, rfl, hfv, hb6, hb7⟩) | (go_at_call 33; (with_reducible refine (HSM.out _ _ (by assumption) (by assumption)).mono ?_); rintro e w8 ⟨rfl, hb8⟩))
 all_goals
  go_wp2_with fail
  go_ret
  exact ⟨ret_bool HFM.out, bthen hb hb8⟩
def inF (d : DNet) (At : Option Addr) (ct : Nat) (Ai : Option Addr) (ci G B j : Nat) (v : Value) (W : World) : Prop := match j with
 | 0 => v = .pointer (some ⟨G, 0, none⟩)
 | 1 => v = .agg #[.int .i64 d.net.places, .slice At d.net.trans.length ct, .int .i64 d.net.source, .int .i64 d.net.sink]
 | 2 => ∃ A c, v = .slice A (firstS d).marks.length c ∧ SlI (Fr B W) W v (firstS d).marks
 | 3 => ∃ g, v = .slice (some ⟨g, 0, none⟩) 0 0 ∧ OwnV W B v []
 | 4 => v = .pointer (some ⟨G, 5, none⟩)
 | 5 => v = .slice Ai d.init.length ci
 | 6 => ∃ A c, v = .slice A (firstS d).vals.length c ∧ SlV (Fr B W) W v (firstS d).vals
 | 7 => ∃ A c A' c', v = .agg #[.slice A (firstS d).marks.length c, .slice A' (firstS d).vals.length c'] ∧ SlI (Fr B W) W (.slice A (firstS d).marks.length c) (firstS d).marks ∧ SlV (Fr B W) W (.slice A' (firstS d).vals.length c') (firstS d).vals
 | _ => True
theorem inF_now (d : DNet) (At : Option Addr) (ct : Nat) (Ai : Option Addr) (ci G B : Nat) : ∀ j v W W', inF d At ct Ai ci G B j v W → Below W.heap.size W W' → inF d At ct Ai ci G B j v W' := by
 intro j v W W' h hb
 obtain ⟨hd, hs⟩ := fr_now (B := B) hb
 match j, h with
 | 0, h => exact h
 | 1, h => exact h
 | 2, ⟨A, c, e, h⟩ => exact ⟨A, c, e, Sl.keep h RInt.kept hd hs⟩
 | 3, ⟨g, e, h⟩ => exact ⟨g, e, OwnV.now h hb⟩
 | 4, h => exact h
 | 5, h => exact h
 | 6, ⟨A, c, e, h⟩ => exact ⟨A, c, e, Sl.keep h RVal.kept hd hs⟩
 | 7, ⟨A, c, A', c', e, h, h'⟩ => exact ⟨A, c, A', c', e, Sl.keep h RInt.kept hd hs, Sl.keep h' RVal.kept hd hs⟩
 | n + 8, h => exact h
theorem wpM_callIni {o : Oper} {a : Act} {w : World} {K : Act → World → Prop} {Q : Exit → Act → World → Prop} (x : Operand) (args : Array Operand) (vals : Array Value) (ts : Array TypeId) (ho : o.op = .call { callee := .value x, args := args, argTypes := ts }) (hx : a.eval x = .func (.func 86) #[] #[]) (hv : args.map a.eval = vals)
  (h : Calls Tryz.prog 86 vals w fun e w' => ∃ v, e = .returned v ∧ K (a.put o.dst v) w') : o.wp Tryz.prog a w K Q := by
 unfold Oper.wp execOp
 simp only [ho]
 generalize a.eval = ρ at hx hv ⊢
 simp [hx, hv, go_sem]
 refine h.mono ?_
 rintro e w' ⟨v, rfl, hK⟩
 exact hK
def RetSt1 (s : St) (w : World) (e : Ending) (w' : World) : Prop := ∃ v, e = .returned v ∧ IsSt (Lt w'.heap.size) w' v s ∧ Below w.heap.size w w'
set_option maxHeartbeats 4000000 in
set_option maxRecDepth 100000 in
theorem initial30_ref (n : Nat) (d : DNet) (u : Value) (w : World) (h : IsDn n (Lt w.heap.size) w u d) (hv : dvalidB d = true) : Calls Tryz.prog 40 #[u] w (RetSt1 (firstS d) w) := by
 obtain ⟨At, ct, Ax, cx, iv, Ag, cg, Aw, cw, rfl, dn1, dn2, dn3, dn4, dn5, ⟨t1, t2⟩, ⟨x1, x2⟩, ⟨g1, g2⟩, v1, v2⟩ := h.open_
 obtain ⟨Ai, ci, rfl, i1, i2, dn3⟩ := Sl.open_ dn3
 have dn3 : SlV (Lt w.heap.size) w (.slice Ai d.init.length ci) d.init := dn3
 clear h dn2 dn4 dn5
 have hnv := (dvalid_parts hv).1
 have hil : d.init.length ≤ 1000 := by
  have h1 := asg_parts (dvalid_parts hv).2.1
  have h2 := vars_len h1.1
  omega
 have hfit := Lib.hid dn3.fits
 clear hv
 go_enter Tryz.func40, Tryz.ntmps40
 go_upto_region 1 with fail
 rename_i Q1 K1 hK1
 have hb0 := bone w (.cells #[.int .i64 d.net.places, .slice At d.net.trans.length ct, .int .i64 d.net.source, .int .i64 d.net.sink, .slice Ax d.vars.length cx, .slice Ai d.init.length ci, .slice Ag d.guards.length cg, .slice Aw d.writes.length cw] 30)
 have hb := bbox hb0 (.cells #[.slice none 0 0, .slice none 0 0] 33)
 have hB := (Blk.new w 30 #[.int .i64 d.net.places, .slice At d.net.trans.length ct, .int .i64 d.net.source, .int .i64 d.net.sink, .slice Ax d.vars.length cx, .slice Ai d.init.length ci, .slice Ag d.guards.length cg, .slice Aw d.writes.length cw]).alloc (.cells #[.slice none 0 0, .slice none 0 0] 33)
 have hZ := Blk.new_at (t := 33) (cs := #[.slice none 0 0, .slice none 0 0]) (w := w.alloc (.cells #[.int .i64 d.net.places, .slice At d.net.trans.length ct, .int .i64 d.net.source, .int .i64 d.net.sink, .slice Ax d.vars.length cx, .slice Ai d.init.length ci, .slice Ag d.guards.length cg, .slice Aw d.writes.length cw] 30)) (s := w.heap.size + 1) (by simp)
 have hn1 := dn1.now hb
 have hi1 := dn3.now hb
 generalize hw1e : (w.alloc (.cells #[.int .i64 d.net.places, .slice At d.net.trans.length ct, .int .i64 d.net.source, .int .i64 d.net.sink, .slice Ax d.vars.length cx, .slice Ai d.init.length ci, .slice Ag d.guards.length cg, .slice Aw d.writes.length cw] 30)).alloc (.cells #[.slice none 0 0, .slice none 0 0] 33) = w1 at *
 clear hw1e hb0 dn1 dn3
 refine wp_region_make (by kernel_rfl) 8 (by kernel_rfl) (by kernel_rfl) (by kernel_rfl) (by kernel_rfl) (inF d At ct Ai ci w.heap.size w1.heap.size) (inF_now _ _ _ _ _ _ _) ?hall ?hstep ?hlast
 case hall => exact hall_of (by kernel_rfl)
 case hlast =>
  intro o ho a W hk hbW hF
  injection ho with ho
  subst ho
  obtain ⟨A, c, A', c', e7, h1, h2⟩ := (show inF d At ct Ai ci w.heap.size w1.heap.size 7 (Act.slot a 10) W from hF 7 (by decide))
  have k2 : a.eval (.tmp 2) = .pointer (some ⟨w.heap.size + 1, 0, none⟩) := hk.same (s := 2) (by kernel_rfl)
  have hbW : Below w1.heap.size w1 W := (Below.refl _ _).drew.trans hbW
  have hZr := hZ.now hbW
  obtain ⟨zz0, zz1⟩ := hZr.c2
  refine wpM_store 33 (.tmp 2) (.tmp 10) _ _ _ () rfl k2 e7 (by simp [go_sem, zz0, zz1, hZr.frozen]; rfl) ⟨_, rfl, fun a'' hk'' hs => ?_⟩
  have hk2 : Act.slot a'' 2 = .pointer (some ⟨w.heap.size + 1, 0, none⟩) := hk''.same (s := 2) (by kernel_rfl)
  obtain ⟨r0, r1⟩ := (hZr.set2 (.slice A (firstS d).marks.length c) (.slice A' (firstS d).vals.length c')).c2
  have hbF := bset2 (w := w) (bthen hb hbW) (g := w.heap.size + 1) (by omega) (.slice A (firstS d).marks.length c) (.slice A' (firstS d).vals.length c')
  refine hK1 _ _ (wp_ret ?_)
  unfold Act.slot at hk2
  rw [Array.getD_eq_getD_getElem?] at hk2
  refine bodyPost_ret (P := Tryz.prog) (fn := Tryz.f40) (R := RetSt1 (firstS d) w) (v := .agg #[.slice A (firstS d).marks.length c, .slice A' (firstS d).vals.length c']) ?_ ?_ ?_
  ·simp [results, Tryz.results40, go_sem, hk2, r0, r1]
  ·exact hk''.defers
  ·exact ⟨_, rfl, ⟨_, _, rfl, (SlI.set2F h1 hZr _ _).weak, (SlV.set2F h2 hZr _ _).weak⟩, hbF⟩
 case hstep =>
  refine ⟨fun a W hk hbW hd => ?_, ?_⟩
  ·show Oper.wp _ _ a W _ _
   have k1 : a.eval (.tmp 1) = .pointer (some ⟨w.heap.size, 0, none⟩) := hk.same (s := 1) (by kernel_rfl)
   refine wpM_field _ _ _ _ _ rfl k1 (by simp [go_sem]; rfl) ⟨_, rfl, Below.refl _ _, ?_⟩
   exact rfl
  refine ⟨fun a W hk hbW hd => ?_, ?_⟩
  ·show Oper.wp _ _ a W _ _
   have e0 : a.eval (.tmp 3) = .pointer (some ⟨w.heap.size, 0, none⟩) := (show inF d At ct Ai ci w.heap.size w1.heap.size 0 (Act.slot a 3) W from hd 0 (by kernel_rfl))
   obtain ⟨q0, q1, q2, q3, q4, q5, q6, q7⟩ := (hB.now (show Below w1.heap.size w1 W from (Below.refl _ _).drew.trans hbW)).c8
   refine wpM_load _ _ _ (.agg #[.int .i64 d.net.places, .slice At d.net.trans.length ct, .int .i64 d.net.source, .int .i64 d.net.sink]) rfl e0 (by simp [go_sem, q0, q1, q2, q3]) ⟨_, rfl, Below.refl _ _, ?_⟩
   exact rfl
  refine ⟨fun a W hk hbW hd => ?_, ?_⟩
  ·show Oper.wp _ _ a W _ _
   have e1 : a.eval (.tmp 4) = .agg #[.int .i64 d.net.places, .slice At d.net.trans.length ct, .int .i64 d.net.source, .int .i64 d.net.sink] := (show inF d At ct Ai ci w.heap.size w1.heap.size 1 (Act.slot a 4) W from hd 1 (by kernel_rfl))
   refine wpM_callIni _ _ #[.agg #[.int .i64 d.net.places, .slice At d.net.trans.length ct, .int .i64 d.net.source, .int .i64 d.net.sink]] _ rfl rfl (by simp [e1]) ?_
   refine (initialM_ref d.net _ W (hn1.now (show Below w1.heap.size w1 W from (Below.refl _ _).drew.trans hbW)) hnv).mono ?_
   rintro e w' ⟨v, rfl, hv, hb'⟩
   obtain ⟨A, c, rfl, _, _, _⟩ := hv.open_
   have hsz := hbW.size
   exact ⟨_, rfl, _, rfl, hb', A, c, rfl, hv.from_ hsz⟩
  refine ⟨fun a W hk hbW hd => ?_, ?_⟩
  ·show Oper.wp _ _ a W _ _
   refine wpM_slice _ _ _ _ _ _ rfl ?_ (bsV0 W) ⟨_, rfl, bone _ _, ?_⟩
   ·simp
   ·exact ⟨_, rfl, World.ownsRow_lit (base := w1.heap.size) (e := 63) (size := 3) W #[] 0 hbW.size (by unfold maxLen; omega) rfl⟩
  refine ⟨fun a W hk hbW hd => ?_, ?_⟩
  ·show Oper.wp _ _ a W _ _
   have k1 : a.eval (.tmp 1) = .pointer (some ⟨w.heap.size, 0, none⟩) := hk.same (s := 1) (by kernel_rfl)
   refine wpM_field _ _ _ _ _ rfl k1 (by simp [go_sem]; rfl) ⟨_, rfl, Below.refl _ _, ?_⟩
   exact rfl
  refine ⟨fun a W hk hbW hd => ?_, ?_⟩
  ·show Oper.wp _ _ a W _ _
   have e4 : a.eval (.tmp 7) = .pointer (some ⟨w.heap.size, 5, none⟩) := (show inF d At ct Ai ci w.heap.size w1.heap.size 4 (Act.slot a 7) W from hd 4 (by kernel_rfl))
   obtain ⟨q0, q1, q2, q3, q4, q5, q6, q7⟩ := (hB.now (show Below w1.heap.size w1 W from (Below.refl _ _).drew.trans hbW)).c8
   refine wpM_load _ _ _ (.slice Ai d.init.length ci) rfl e4 (by simp [go_sem, q5]) ⟨_, rfl, Below.refl _ _, ?_⟩
   exact rfl
  refine ⟨fun a W hk hbW hd => ?_, ?_⟩
  ·show Oper.wp _ _ a W _ _
   obtain ⟨g, e3, hown⟩ := (show inF d At ct Ai ci w.heap.size w1.heap.size 3 (Act.slot a 6) W from hd 3 (by kernel_rfl))
   have e5 : a.eval (.tmp 8) = .slice Ai d.init.length ci := (show inF d At ct Ai ci w.heap.size w1.heap.size 5 (Act.slot a 8) W from hd 5 (by kernel_rfl))
   rw [e3] at hown
   refine wpM_appLit (fc := cellsV) (R := RVal) appVals (.tmp 6) (.tmp 8) rfl W cellsV_len g e3 hown _ d.init e5 (hi1.now (show Below w1.heap.size w1 W from (Below.refl _ _).drew.trans hbW)) (fun y c h => h.1) cellsV_one (by omega) hbW.size ?_
   intro v' w' ho' hb'
   have hsl := OwnV.fresh (B := w1.heap.size) ho' (Nat.le_refl _) hfit.out
   obtain ⟨A, c, rfl, _, _, hsl⟩ := Sl.open_ hsl
   exact ⟨_, rfl, hb', A, c, rfl, hsl⟩
  refine ⟨fun a W hk hbW hd => ?_, trivial⟩
  ·show Oper.wp _ _ a W _ _
   obtain ⟨A, c, e2, h1⟩ := (show inF d At ct Ai ci w.heap.size w1.heap.size 2 (Act.slot a 5) W from hd 2 (by kernel_rfl))
   obtain ⟨A', c', e6, h2⟩ := (show inF d At ct Ai ci w.heap.size w1.heap.size 6 (Act.slot a 9) W from hd 6 (by kernel_rfl))
   rw [e2] at h1
   rw [e6] at h2
   refine wpM_build _ _ _ _ rfl ?_ (bSt A A' (firstS d).marks.length (firstS d).vals.length c c' W) ⟨_, rfl, Below.refl _ _, ?_⟩
   ·have ev2 : a.eval (.tmp 5) = _ := e2; have ev6 : a.eval (.tmp 9) = _ := e6; simp [ev2, ev6]
   ·exact ⟨_, _, _, _, rfl, h1, h2⟩
def RetWhR (d : DNet) (most : Int) (w : World) (e : Ending) (w' : World) : Prop := ∃ A n c A' n' c', e = .returned (.tuple #[.slice A n c, .slice A' n' c', .int .i64 (dwholeE d most).2]) ∧ ((dwholeE d most).2 = 0 → SlSt (Lt w'.heap.size) w' (.slice A n c) (dwholeE d most).1.states ∧ SlM (Lt w'.heap.size) w' (.slice A' n' c') (dwholeE d most).1.moves) ∧ Below w.heap.size w w'
set_option maxHeartbeats 8000000 in
set_option maxRecDepth 100000 in
theorem whole30_ref (n : Nat) (d : DNet) (most : Int) (u : Value) (w : World) (h : IsDn n (Lt w.heap.size) w u d) :
  Calls Tryz.prog 84 #[u, .int .i64 most] w (RetWhR d most w) := by
 have h0 := h
 obtain ⟨At, ct, Ax, cx, iv, Ag, cg, Aw, cw, rfl, dn1, dn2, dn3, dn4, dn5, ⟨t1, t2⟩, ⟨x1, x2⟩, ⟨g1, g2⟩, v1, v2⟩ := h.open_
 clear h dn1 dn2 dn3 dn4 dn5
 have hb := bone w (.cells #[.int .i64 d.net.places, .slice At d.net.trans.length ct, .int .i64 d.net.source, .int .i64 d.net.sink, .slice Ax d.vars.length cx, iv, .slice Ag d.guards.length cg, .slice Aw d.writes.length cw] 30)
 have hB := Blk.new w 30 #[.int .i64 d.net.places, .slice At d.net.trans.length ct, .int .i64 d.net.source, .int .i64 d.net.sink, .slice Ax d.vars.length cx, iv, .slice Ag d.guards.length cg, .slice Aw d.writes.length cw]
 have hd1 := h0.now hb
 have HI := Lib.hid (dvalid_ref n d _ _ hd1)
 go_enter Tryz.func84, Tryz.ntmps84
 go_upto_region 1 with fail
 generalize hw1e : w.alloc (.cells #[.int .i64 d.net.places, .slice At d.net.trans.length ct, .int .i64 d.net.source, .int .i64 d.net.sink, .slice Ax d.vars.length cx, iv, .slice Ag d.guards.length cg, .slice Aw d.writes.length cw] 30) = w1 at *
 clear hw1e
 obtain ⟨q0, q1, q2, q3, q4, q5, q6, q7⟩ := hB.c8
 go_wp2_with fail
 refine HI.out.mono ?_
 rintro e w2 ⟨rfl, hb2⟩
 clear HI q0 q1 q2 q3 q4 q5 q6 q7
 have hbw2 := bthen hb hb2
 have hB2 := hB.now hb2
 have hd2 := hd1.now hb2
 clear hB hd1 hb hb2
 cases hv : dvalidB d with
 | false =>
  have HR := Lib.hid (dwhole_bad (most := most) hv)
  clear hv
  go_wp2_with fail
  go_ret3
  unfold RetWhR
  rw [HR.out]
  exact ⟨_, _, _, _, _, _, rfl, fun h => (by cases h), hbw2⟩
 | true =>
 have HV := Lib.hid hv
 have HLM := Lib.hid (dwhole_limit (most := most) hv)
 have HOK := Lib.hid (dwhole_ok (most := most) hv)
 clear hv
 have HCI : Hid (∀ W, Below w2.heap.size w2 W → Calls Tryz.prog 40 #[.agg #[.int .i64 d.net.places, .slice At d.net.trans.length ct, .int .i64 d.net.source, .int .i64 d.net.sink, .slice Ax d.vars.length cx, iv, .slice Ag d.guards.length cg, .slice Aw d.writes.length cw]] W fun e w' => ∃ A c A' c', e = .returned (.agg #[.slice A (firstS d).marks.length c, .slice A' (firstS d).vals.length c']) ∧ IsSt (Lt w'.heap.size) w' (.agg #[.slice A (firstS d).marks.length c, .slice A' (firstS d).vals.length c']) (firstS d) ∧ Below w2.heap.size w2 w') := fun W hW => by
  refine (initial30_ref n d _ W (hd2.now hW) HV.out).mono ?_
  rintro e w' ⟨v, rfl, hv', hb⟩
  have hv0 := hv'
  obtain ⟨A, c, A', c', rfl, _⟩ := hv'.open_
  exact ⟨A, c, A', c', rfl, hv0, bthen hW hb⟩
 have HCE : Hid (∀ W v, Below w2.heap.size w2 W → IsSt (Lt W.heap.size) W v (firstS d) → Calls Tryz.prog 18 #[.agg #[.int .i64 d.net.places, .slice At d.net.trans.length ct, .int .i64 d.net.source, .int .i64 d.net.sink, .slice Ax d.vars.length cx, iv, .slice Ag d.guards.length cg, .slice Aw d.writes.length cw], v, .int .i64 most] W fun e w' => ∃ sv mv, e = .returned (.tuple #[sv, mv, .bool (dexplE d (firstS d) most).1.full, .int .i64 (dexplE d (firstS d) most).2]) ∧ SlSt (Lt w'.heap.size) w' sv (dexplE d (firstS d) most).1.states ∧ SlM (Lt w'.heap.size) w' mv (dexplE d (firstS d) most).1.moves ∧ Below w2.heap.size w2 w') := fun W v hW hv' => by
  refine (explore30_ref n d (firstS d) most _ _ W (hd2.now hW) hv').mono ?_
  rintro e w' ⟨sv, mv, he, h1, h2, hb⟩
  exact ⟨sv, mv, he, h1, h2, bthen hW hb⟩
 have HS : Hid (∀ W, Below w2.heap.size w2 W → W.cell? ⟨w.heap.size, 0, none⟩ = some (.int .i64 d.net.places) ∧ W.cell? ⟨w.heap.size, 1, none⟩ = some (.slice At d.net.trans.length ct) ∧ W.cell? ⟨w.heap.size, 2, none⟩ = some (.int .i64 d.net.source) ∧ W.cell? ⟨w.heap.size, 3, none⟩ = some (.int .i64 d.net.sink) ∧ W.cell? ⟨w.heap.size, 4, none⟩ = some (.slice Ax d.vars.length cx) ∧ W.cell? ⟨w.heap.size, 5, none⟩ = some iv ∧ W.cell? ⟨w.heap.size, 6, none⟩ = some (.slice Ag d.guards.length cg) ∧ W.cell? ⟨w.heap.size, 7, none⟩ = some (.slice Aw d.writes.length cw)) := fun W hW => (hB2.now hW).c8
 have HEX : Hid (∃ R, R = dexplE d (firstS d) most) := ⟨_, rfl⟩
 have HLM2 : Hid ((dexplE d (firstS d) most).2 = 0 → (dexplE d (firstS d) most).1.full = false → dwholeE d most = (noSp, 13)) := HLM
 have HOK2 : Hid (¬ ((dexplE d (firstS d) most).2 = 0 ∧ (dexplE d (firstS d) most).1.full = false) → dwholeE d most = dexplE d (firstS d) most) := HOK
 clear HLM HOK HEX
 generalize dexplE d (firstS d) most = R at *
 obtain ⟨p, c⟩ := R
 dsimp only at HCE HLM2 HOK2
 go_upto_region 3 with fail
 go_cut [7, 8, 9, 10] (fun s7 s8 s9 s10 W => ∃ A n c1 A' n' c', s7 = .slice A n c1 ∧ s8 = .slice A' n' c' ∧ s9 = .bool p.full ∧ s10 = .int .i64 c ∧ SlSt (Lt W.heap.size) W (.slice A n c1) p.states ∧ SlM (Lt W.heap.size) W (.slice A' n' c') p.moves ∧ Below w2.heap.size w2 W)
 case first =>
  have hbd : Below w2.heap.size w2 w2.drew := (Below.refl _ _).drew
  obtain ⟨a0, a1, a2, a3, a4, a5, a6, a7⟩ := HS.out _ hbd
  go_region_held3 (fun W => W.cell? ⟨w.heap.size, 0, none⟩ = some (.int .i64 d.net.places) ∧ W.cell? ⟨w.heap.size, 1, none⟩ = some (.slice At d.net.trans.length ct) ∧ W.cell? ⟨w.heap.size, 2, none⟩ = some (.int .i64 d.net.source) ∧ W.cell? ⟨w.heap.size, 3, none⟩ = some (.int .i64 d.net.sink) ∧ W.cell? ⟨w.heap.size, 4, none⟩ = some (.slice Ax d.vars.length cx) ∧ W.cell? ⟨w.heap.size, 5, none⟩ = some iv ∧ W.cell? ⟨w.heap.size, 6, none⟩ = some (.slice Ag d.guards.length cg) ∧ W.cell? ⟨w.heap.size, 7, none⟩ = some (.slice Aw d.writes.length cw)) (first | exact HS.out _ (by assumption))
   (first | (go_at_call 40; (with_reducible refine (HCI.out _ (by assumption)).mono ?_); rintro e wb ⟨A2, c2, A3, c3, rfl, hib, hbb⟩) | (go_at_call 18; (with_reducible refine (HCE.out _ _ (by assumption) (by assumption)).mono ?_); rintro e wx ⟨sv, mv, rfl, hsv, hmv, hbx⟩))
  all_goals (go_wp2_with fail; go_meet)
  all_goals
   obtain ⟨A, c1, rfl, _, _, hsv⟩ := Sl.open_ hsv
   obtain ⟨A', c1', rfl, _, _, hmv⟩ := hmv.open_
   exact ⟨_, _, _, _, _, _, rfl, rfl, rfl, rfl, hsv, hmv, by assumption⟩
 case rest =>
  obtain ⟨A, n1, c1, A', n1', c1', rfl, rfl, rfl, rfl, hsv, hmv, hb3⟩ := hcut
  have hbw3 := bthen hbw2 hb3
  clear HCI HCE HS
  by_cases hc : c = 0
  ·have d1 : (c == 0) = true := by simp [hc]
   cases hf : p.full with
   | false =>
    have HR := Lib.hid (HLM2.out hc hf)
    clear hc hf
    go_wp2_with fail
    go_ret3
    unfold RetWhR
    rw [HR.out]
    exact ⟨_, _, _, _, _, _, rfl, fun h => (by cases h), hbw3⟩
   | true =>
    have HR := Lib.hid (HOK2.out (by rintro ⟨_, h⟩; rw [hf] at h; cases h))
    clear hf
    go_wp2_with fail
    go_ret3
    unfold RetWhR
    rw [HR.out]
    exact ⟨_, _, _, _, _, _, rfl, fun _ => ⟨hsv, hmv⟩, hbw3⟩
  ·have d1 : (c == 0) = false := by simpa using hc
   have HR := Lib.hid (HOK2.out (by rintro ⟨h, _⟩; exact hc h))
   clear hc
   go_wp2_with fail
   go_ret3
   unfold RetWhR
   rw [HR.out]
   exact ⟨_, _, _, _, _, _, rfl, fun _ => ⟨hsv, hmv⟩, hbw3⟩
def hasT (mv : List Mv) (t : Nat) : Bool := mv.any fun m => decide (m.sym = t)
def deadT (mv : List Mv) (t : Nat) : List Int := ((List.range t).filter fun t => !hasT mv t).map fun (t : Nat) => (t : Int)
theorem deadT_yes {mv : List Mv} {t : Nat} (h : hasT mv t = true) : deadT mv (t + 1) = deadT mv t := by
 unfold deadT
 rw [List.range_succ, List.filter_append]
 simp [h]
theorem deadT_no {mv : List Mv} {t : Nat} (h : hasT mv t = false) : deadT mv (t + 1) = deadT mv t ++ [(t : Int)] := by
 unfold deadT
 rw [List.range_succ, List.filter_append]
 simp [h]
theorem deadT_len (mv : List Mv) (t : Nat) : (deadT mv t).length ≤ t := by
 unfold deadT
 rw [List.length_map]
 exact Nat.le_trans (List.length_filter_le _ _) (by simp)
theorem deadT_fit (mv : List Mv) (t : Nat) (h : t ≤ 1000) : ∀ z ∈ deadT mv t, Fit z := by
 intro z hz
 unfold deadT at hz
 obtain ⟨k, hk, rfl⟩ := List.mem_map.1 hz
 have := List.mem_range.1 (List.mem_filter.1 hk).1
 unfold Fit; omega
theorem hasT_snoc {mv : List Mv} {i t : Nat} {m : Mv} (h : mv[i]? = some m) : hasT (mv.take (i + 1)) t = (hasT (mv.take i) t || decide (m.sym = t)) := by
 unfold hasT
 rw [take_snoc' h, List.any_append]
 simp
theorem ddead_err {d : DNet} {most : Int} (h : (dwholeE d most).2 ≠ 0) : ddeadE d most = ([], (dwholeE d most).2) := if_pos h
theorem ddead_ok {d : DNet} {most : Int} (h : (dwholeE d most).2 = 0) : ddeadE d most = (deadL d (dwholeE d most).1.moves, 0) := if_neg (by rw [h]; simp)
set_option maxHeartbeats 8000000 in
set_option maxRecDepth 100000 in
theorem dead30_ref (n : Nat) (d : DNet) (most : Int) (u : Value) (w : World) (h : IsDn n (Lt w.heap.size) w u d) :
  Calls Tryz.prog 37 #[u, .int .i64 most] w (RetIE (ddeadE d most).1 (ddeadE d most).2 w) := by
 have h0 := h
 obtain ⟨At, ct, Ax, cx, iv, Ag, cg, Aw, cw, rfl, dn1, dn2, dn3, dn4, dn5, ⟨t1, t2⟩, ⟨x1, x2⟩, ⟨g1, g2⟩, v1, v2⟩ := h.open_
 clear h dn1 dn2 dn3 dn4 dn5
 have hb := bone w (.cells #[.int .i64 d.net.places, .slice At d.net.trans.length ct, .int .i64 d.net.source, .int .i64 d.net.sink, .slice Ax d.vars.length cx, iv, .slice Ag d.guards.length cg, .slice Aw d.writes.length cw] 30)
 have hB := Blk.new w 30 #[.int .i64 d.net.places, .slice At d.net.trans.length ct, .int .i64 d.net.source, .int .i64 d.net.sink, .slice Ax d.vars.length cx, iv, .slice Ag d.guards.length cg, .slice Aw d.writes.length cw]
 have hd1 := h0.now hb
 have HI := Lib.hid (whole30_ref n d most _ _ hd1)
 go_enter Tryz.func37, Tryz.ntmps37
 go_upto_region 1 with fail
 generalize hw1e : w.alloc (.cells #[.int .i64 d.net.places, .slice At d.net.trans.length ct, .int .i64 d.net.source, .int .i64 d.net.sink, .slice Ax d.vars.length cx, iv, .slice Ag d.guards.length cg, .slice Aw d.writes.length cw] 30) = w1 at *
 clear hw1e
 obtain ⟨q0, q1, q2, q3, q4, q5, q6, q7⟩ := hB.c8
 go_wp2_with fail
 refine HI.out.mono ?_
 rintro e w2 ⟨As, ns, cs, Am, nm, cm, rfl, hl, hb2⟩
 clear HI q0 q1 q2 q3 q4 q5 q6 q7
 have hbw2 := bthen hb hb2
 have hB2 := hB.now hb2
 by_cases hc : (dwholeE d most).2 = 0
 rotate_left
 ·have HR := Lib.hid (ddead_err hc)
  have bc : ((dwholeE d most).2 != 0) = true := by simpa using hc
  generalize dwholeE d most = q at *
  obtain ⟨qp, qc⟩ := q
  dsimp only at *
  clear hc
  go_wp2_with fail
  (try simp only [Exit.inBlock, Exit.then])
  refine bodyPost_ret (results_tmp2 rfl _ _ _) rfl ?_
  rw [HR.out]
  exact ⟨_, rfl, Sl.none_, hbw2⟩
 have HR := Lib.hid (ddead_ok hc)
 obtain ⟨mo, hmo, hinv, hdv, -, -, hvst, -, -⟩ := whole_inv hc
 obtain ⟨_, h2⟩ := hl hc
 have htl : d.net.trans.length ≤ 60 := (validOk (dvalid_parts hdv).1).2.2.1
 have hm0 : (dwholeE d most).1.moves.length ≤ 20000 := hinv.mvl
 have bc : ((dwholeE d most).2 != 0) = false := by simp [hc]
 rw [hc] at bc ⊢
 clear hc hinv hdv hvst hl hb hd1 hb2 hmo bc
 generalize (dwholeE d most).1.moves = mv at *
 obtain ⟨Am', cm', em, mc1, mc2, h2⟩ := h2.open_
 injection em with e1 e2 e3
 subst e1 e2 e3
 obtain ⟨q0, q1, q2, q3, q4, q5, q6, q7⟩ := hB2.c8
 go_wp2_with fail
 clear q0 q1 q2 q3 q4 q5 q6 q7
 go_loopw [9, 10] (fun ov tv wr => ∃ t : Nat, t ≤ d.net.trans.length ∧ tv = .int .i64 t ∧ wr.ownsRow w2.heap.size 3 1 ov (deadT mv t).length ((deadT mv t).map (Value.int .i64)) ∧ Below w2.heap.size w2 wr) (fun _ tv _ => d.net.trans.length - (intOf tv).toNat)
 case atStart => exact ⟨0, Nat.zero_le _, rfl, World.ownsRow_nil _ _ _ _, Below.refl _ _⟩
 case round =>
  obtain ⟨t, ht, rfl, hown, hbr⟩ := hrel
  have hszr := hbr.size
  have hBr := hB2.now hbr
  obtain ⟨q0, q1, q2, q3, q4, q5, q6, q7⟩ := hBr.c8
  by_cases hlt : t < d.net.trans.length
  rotate_left
  ·obtain rfl : t = d.net.trans.length := by omega
   go_wp2_with fail
   (try simp only [Exit.inBlock, Exit.then])
   refine bodyPost_ret (results_tmp2 rfl _ _ _) rfl ?_
   rw [HR.out]
   exact ⟨_, rfl, SlI.of_own hown (deadT_fit _ _ (by omega)), bthen hbw2 hbr⟩
  have hdl := deadT_len mv t
  go_wp2_with fail
  clear q0 q1 q2 q3 q4 q5 q6 q7
  go_loopw [11, 12] (fun sv iv wr' => ∃ i : Nat, i ≤ mv.length ∧ iv = .int .i64 i ∧ sv = .bool (hasT (mv.take i) t) ∧ wr' = wr) (fun _ iv _ => mv.length - (intOf iv).toNat)
  case atStart => exact ⟨0, Nat.zero_le _, rfl, rfl, by first | rfl | trivial⟩
  case round =>
   obtain ⟨i, hi, rfl, rfl, hwe⟩ := hrel
   subst hwe
   by_cases hli : i < mv.length
   rotate_left
   ·obtain rfl : i = mv.length := by omega
    rw [List.take_of_length_le (Nat.le_refl _)]
    cases hq : hasT mv t with
    | true =>
     have HD := Lib.hid (deadT_yes hq)
     clear hq
     go_wp2_with fail
     go_roundw
     case rel => exact ⟨t + 1, by omega, by go_num, by rw [HD.out]; exact hown, hbr⟩
     case measure => simp [intOf]; omega
    | false =>
     have HD := Lib.hid (deadT_no hq)
     clear hq
     go_wp2_with (at_builtin; refine wpList_push appInts rfl (.tmp 49) (.tmp 51) rfl wr [.int .i64 (t : Int)] rfl (by simp [Value.oneCell']) _ (deadT mv t).length ((deadT mv t).map (Value.int .i64)) rfl hown rfl (by omega) hszr ?_; intro v' w' hown' hgr hat)
     have hbg : Below w2.heap.size wr w' := below_of_grown hgr hszr (fun g hg => (hown.lt g hg).1)
     go_roundw
     case rel =>
      refine ⟨t + 1, by omega, by go_num, ?_, hbr.trans hbg⟩
      rw [HD.out]
      simpa using hown'
     case measure => simp [intOf]; omega
   obtain ⟨b, o, m, rfl, hD, hx, _, c0, c1, c2⟩ := (h2.now hbr).at_ hli
   have HT := Lib.hid (hasT_snoc (t := t) hx)
   have i1 : (i : Int) < (mv.length : Int) := by omega
   clear hx hD
   cases hq : hasT (mv.take i) t with
   | true =>
    have HQ := Lib.hid hq
    clear hq
    go_wp2_with fail
    go_roundw
    case rel => exact ⟨i + 1, by omega, by go_num, by rw [HT.out, HQ.out]; rfl, by first | rfl | trivial⟩
    case measure => simp [intOf]; omega
   | false =>
    have HQ := Lib.hid hq
    clear hq
    by_cases he : m.sym = t
    ·have d1 : ((m.sym : Int) == (t : Int)) = true := by simp [he]
     have HE := Lib.hid he
     clear he
     go_wp2_with fail
     go_roundw
     case rel => exact ⟨i + 1, by omega, by go_num, by rw [HT.out, HQ.out, decide_eq_true HE.out]; rfl, by first | rfl | trivial⟩
     case measure => simp [intOf]; omega
    ·have d1 : ((m.sym : Int) == (t : Int)) = false := by rw [beq_eq_false_iff_ne]; omega
     have HE := Lib.hid he
     clear he
     go_wp2_with fail
     go_roundw
     case rel => exact ⟨i + 1, by omega, by go_num, by rw [HT.out, HQ.out, decide_eq_false HE.out]; rfl, by first | rfl | trivial⟩
     case measure => simp [intOf]; omega
def seenT (mv : List Mv) (T : Nat) : List Bool := (List.range T).map (hasT mv)
theorem seenT_len (mv : List Mv) (T : Nat) : (seenT mv T).length = T := by unfold seenT; simp
theorem seenT_get {mv : List Mv} {T t : Nat} (h : t < T) : (seenT mv T)[t]? = some (hasT mv t) := by unfold seenT; simp [h]
theorem seenT_snoc {mv : List Mv} {i T : Nat} {m : Mv} (h : mv[i]? = some m) : seenT (mv.take (i + 1)) T = (seenT (mv.take i) T).set m.sym true := by
 refine List.ext_getElem? fun t => ?_
 rcases Nat.lt_or_ge t T with ht | ht
 ·rw [seenT_get ht, hasT_snoc h]
  by_cases e : m.sym = t
  ·subst e
   rw [List.getElem?_set_self (by rw [seenT_len]; exact ht)]
   simp
  ·rw [List.getElem?_set_ne e, seenT_get ht]
   simp [e]
 ·rw [List.getElem?_eq_none (by rw [seenT_len]; exact ht), List.getElem?_eq_none (by rw [List.length_set, seenT_len]; exact ht)]
theorem seenT_none (T : Nat) : seenT [] T = List.replicate T false := by
 refine List.ext_getElem? fun t => ?_
 rcases Nat.lt_or_ge t T with ht | ht
 ·rw [seenT_get ht]
  simp [ht, hasT]
 ·rw [List.getElem?_eq_none (by rw [seenT_len]; exact ht), List.getElem?_eq_none (by simpa using ht)]
set_option maxHeartbeats 8000000 in
set_option maxRecDepth 100000 in
theorem ddead_any (n : Nat) (d : DNet) (most : Int) (u : Value) (w : World) (h : IsDn n (Lt w.heap.size) w u d) (hlv : d.vars.length ≤ 1000000) (ha : Amb w) :
  Calls Tryz.prog 36 #[u, .int .i64 most] w (RetIE (ddeadE d most).1 (ddeadE d most).2 w) := by
 have h0 := h
 obtain ⟨At, ct, Ax, cx, iv, Ag, cg, Aw, cw, rfl, dn1, dn2, dn3, dn4, dn5, ⟨t1, t2⟩, ⟨x1, x2⟩, ⟨g1, g2⟩, v1, v2⟩ := h.open_
 clear h dn1 dn2 dn3 dn4 dn5
 have hb := bone w (.cells #[.int .i64 d.net.places, .slice At d.net.trans.length ct, .int .i64 d.net.source, .int .i64 d.net.sink, .slice Ax d.vars.length cx, iv, .slice Ag d.guards.length cg, .slice Aw d.writes.length cw] 30)
 have hB := Blk.new w 30 #[.int .i64 d.net.places, .slice At d.net.trans.length ct, .int .i64 d.net.source, .int .i64 d.net.sink, .slice Ax d.vars.length cx, iv, .slice Ag d.guards.length cg, .slice Aw d.writes.length cw]
 have hd1 := h0.now hb
 have HI := Lib.hid (dwhole_any n d most _ _ hd1 hlv (ha.now hb))
 go_enter Tryz.func36, Tryz.ntmps36
 go_upto_region 1 with fail
 generalize hw1e : w.alloc (.cells #[.int .i64 d.net.places, .slice At d.net.trans.length ct, .int .i64 d.net.source, .int .i64 d.net.sink, .slice Ax d.vars.length cx, iv, .slice Ag d.guards.length cg, .slice Aw d.writes.length cw] 30) = w1 at *
 clear hw1e
 obtain ⟨q0, q1, q2, q3, q4, q5, q6, q7⟩ := hB.c8
 go_wp2_with fail
 refine HI.out.mono ?_
 rintro e w2 ⟨sv, mvv, rfl, h1, h2, hb2⟩
 clear HI q0 q1 q2 q3 q4 q5 q6 q7
 have hbw2 := bthen hb hb2
 have hB2 := hB.now hb2
 by_cases hc : (dwholeE d most).2 = 0
 rotate_left
 ·have HR := Lib.hid (ddead_err hc)
  have bc : ((dwholeE d most).2 != 0) = true := by simpa using hc
  generalize dwholeE d most = q at *
  obtain ⟨qp, qc⟩ := q
  dsimp only at *
  clear hc
  go_wp2_with fail
  (try simp only [Exit.inBlock, Exit.then])
  refine bodyPost_ret (results_tmp2 rfl _ _ _) rfl ?_
  rw [HR.out]
  exact ⟨_, rfl, Sl.none_, hbw2⟩
 have HR := Lib.hid (ddead_ok hc)
 obtain ⟨mo, hmo, hinv, hdv, -, -, hvst, -, -⟩ := whole_inv hc
 have htl : d.net.trans.length ≤ 60 := (validOk (dvalid_parts hdv).1).2.2.1
 have hm0 : (dwholeE d most).1.moves.length ≤ 20000 := hinv.mvl
 have HSY : Hid (∀ m ∈ (dwholeE d most).1.moves, m.sym < d.net.trans.length) := fun m hm => by
  obtain ⟨s, s', _, _, h3⟩ := hinv.mv m hm
  have := (fire_parts (n := d) (s := s) (t := m.sym) (by rw [h3])).2.1
  omega
 rw [hc]
 clear hc hinv hdv hvst hb hd1 hb2 hmo h1
 generalize (dwholeE d most).1.moves = mv at *
 obtain ⟨Am, cm, rfl, mc1, mc2, h2⟩ := h2.open_
 obtain ⟨q0, q1, q2, q3, q4, q5, q6, q7⟩ := hB2.c8
 have hmk := run_make_n (P := Tryz.prog) 132 4 (.bool false) 1 Tryz.underlying132 boolInfo d.net.trans.length (by omega) (by omega) rfl
 go_upto_region 5 with fail
 have ho3 := OwnF.made (f := Value.bool) w2 4 d.net.trans.length false (by unfold maxLen; omega)
 have hb3 := bone w2 (.cells (madeCells #[.bool false] d.net.trans.length) 4)
 rw [← seenT_none] at ho3
 generalize hw3 : w2.alloc (.cells (madeCells #[.bool false] d.net.trans.length) 4) = w3 at *
 clear hw3 hmk q0 q1 q2 q3 q4 q5 q6 q7
 go_wp2_with fail
 go_loopw [32] (fun iv wr => ∃ i : Nat, i ≤ mv.length ∧ iv = .int .i64 i ∧ OwnF Value.bool wr w2.heap.size 4 w2.heap.size d.net.trans.length (seenT (mv.take i) d.net.trans.length) ∧ Below w2.heap.size w2 wr) (fun iv _ => mv.length - (intOf iv).toNat)
 case atStart => exact ⟨0, Nat.zero_le _, rfl, ho3, hb3⟩
 case round =>
  obtain ⟨i, hi, rfl, ho, hbr⟩ := hrel
  clear ho3 hb3
  by_cases hlt : i < mv.length
  ·obtain ⟨b, o, m, rfl, hD, hx, _, c0, c1, c2⟩ := (h2.now hbr).at_ hlt
   have HT := Lib.hid (seenT_snoc (T := d.net.trans.length) hx)
   have hsy := HSY.out m (List.mem_of_getElem? hx)
   have hb4 := bone wr (.cells #[.int .i64 (m.src : Int), .int .i64 (m.dst : Int), .int .i64 (m.sym : Int)] 73)
   have hY := Blk.new wr 73 #[.int .i64 (m.src : Int), .int .i64 (m.dst : Int), .int .i64 (m.sym : Int)]
   have ho4 := ho.now hb4
   have hbr4 := hbr.trans (hb4.mono hbr.size)
   have i1 : (i : Int) < (mv.length : Int) := by omega
   have i2 : (0 : Int) ≤ (m.sym : Int) := by omega
   have i3 : (m.sym : Int) < (d.net.trans.length : Int) := by omega
   clear hx hD
   go_upto_region 8 with fail
   generalize hw4 : wr.alloc (.cells #[.int .i64 (m.src : Int), .int .i64 (m.dst : Int), .int .i64 (m.sym : Int)] 73) = w4 at *
   clear hw4 hb4 c0 c1 c2 ho hbr
   obtain ⟨y0, y1, y2⟩ := hY.c3
   obtain ⟨z, hz⟩ : ∃ z, (seenT (mv.take i) d.net.trans.length)[m.sym]? = some z := ⟨_, seenT_get hsy⟩
   have e1 := ho4.cell hz
   have e1f := ho4.frozen m.sym
   have ho5 := ho4.set_ m.sym true
   have hbr5 := hbr4.setCell (p := ⟨w2.heap.size, m.sym, none⟩) (Nat.le_refl _) (.bool true)
   clear hz ho4
   go_wp2_with fail
   go_roundw
   case rel => exact ⟨i + 1, by omega, by go_num, by rw [HT.out]; exact ho5, hbr5⟩
   case measure => simp [intOf]; omega
  ·obtain rfl : i = mv.length := by omega
   rw [List.take_of_length_le (Nat.le_refl _)] at ho
   go_wp2_with fail
   obtain ⟨wo, hwo⟩ : ∃ z, z = wr := ⟨_, rfl⟩
   subst hwo
   go_loopw [43, 12] (fun tv ov wr => ∃ t : Nat, t ≤ d.net.trans.length ∧ tv = .int .i64 t ∧ wr.ownsRow wo.heap.size 3 1 ov (deadT mv t).length ((deadT mv t).map (Value.int .i64)) ∧ Below wo.heap.size wo wr) (fun tv _ _ => d.net.trans.length - (intOf tv).toNat)
   case atStart => exact ⟨0, Nat.zero_le _, rfl, World.ownsRow_nil _ _ _ _, Below.refl _ _⟩
   case round =>
    obtain ⟨t, ht, rfl, hown, hbo⟩ := hrel
    have hszr := hbo.size
    have hbrw := hbr.trans (hbo.mono hbr.size)
    by_cases hlt2 : t < d.net.trans.length
    rotate_left
    ·obtain rfl : t = d.net.trans.length := by omega
     go_wp2_with fail
     (try simp only [Exit.inBlock, Exit.then])
     refine bodyPost_ret (results_tmp2 rfl _ _ _) rfl ?_
     rw [HR.out]
     exact ⟨_, rfl, SlI.of_own hown (deadT_fit _ _ (by omega)), bthen hbw2 hbrw⟩
    have hdl := deadT_len mv t
    have e1 := (ho.now hbo).cell (seenT_get (mv := mv) hlt2)
    have i1 : (0 : Int) ≤ (t : Int) := by omega
    have i2 : (t : Int) < (d.net.trans.length : Int) := by omega
    cases hq : hasT mv t with
    | true =>
     have HD := Lib.hid (deadT_yes hq)
     rw [hq] at e1
     clear hq
     go_wp2_with fail
     go_roundw
     case rel => exact ⟨t + 1, by omega, by go_num, by rw [HD.out]; exact hown, hbo⟩
     case measure => simp [intOf]; omega
    | false =>
     have HD := Lib.hid (deadT_no hq)
     rw [hq] at e1
     clear hq
     go_wp2_with (at_builtin; refine wpList_push appInts rfl (.tmp 50) (.tmp 52) rfl wr [.int .i64 (t : Int)] rfl (by simp [Value.oneCell']) _ (deadT mv t).length ((deadT mv t).map (Value.int .i64)) rfl hown rfl (by omega) hszr ?_; intro v' w' hown' hgr hat)
     have hbg : Below wo.heap.size wr w' := below_of_grown hgr hszr (fun g hg => (hown.lt g hg).1)
     go_roundw
     case rel =>
      refine ⟨t + 1, by omega, by go_num, ?_, hbo.trans hbg⟩
      rw [HD.out]
      simpa using hown'
     case measure => simp [intOf]; omega
end Go.Proofs.YtlmenhjlgmejkaaGreatDoor
