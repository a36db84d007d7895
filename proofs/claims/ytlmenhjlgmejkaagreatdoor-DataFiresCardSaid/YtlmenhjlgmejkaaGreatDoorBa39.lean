/- Texts of this seat, merged. -/
import Derived.Test.YtlmenhjlgmejkaaGreatDoorBa24
import Derived.Test.YtlmenhjlgmejkaaGreatDoorBa38
set_option linter.unusedSimpArgs false
set_option linter.unusedVariables false
namespace Go.Proofs.YtlmenhjlgmejkaaGreatDoor
open Go.RowKit
inductive Rch (n : DNet) : St → St → Prop where
  | refl (s : St) : Rch n s s
  | step {s x : St} {t : Nat} (ht : t < n.net.trans.length) (h : (fireD n s (t : Int)).2 = 0) (hx : Rch n (fireD n s (t : Int)).1 x) : Rch n s x
def ShutS (n : DNet) (P : List St) : Prop := ∀ s ∈ P, ∀ t : Nat, t < n.net.trans.length → (fireD n s (t : Int)).2 ≠ 5 ∧ ((fireD n s (t : Int)).2 = 0 → (fireD n s (t : Int)).1 ∈ P)
section
variable {n : DNet} {s0 s x : St} {most : Nat} {p q : Sp}
structure InL (P : List St) (q : Sp) (b : Nat) : Prop where
  sub : ∀ s ∈ q.states, s ∈ P
  full : q.full = true
  mvs : q.moves.length ≤ b
  nd : q.states.Nodup
end
end Go.Proofs.YtlmenhjlgmejkaaGreatDoor

namespace Go.Proofs.YtlmenhjlgmejkaaGreatDoor
open Go.RowKit
def Can (d : DNet) (x : St) : Prop := ∃ y, Rch d x y ∧ finalM d y.marks = true
section
variable {d : DNet} {s0 s : St} {most i : Nat} {p : Sp}
end
def firstS (d : DNet) : St := ⟨oneB d.net d.net.source, d.init⟩
structure Tells (d : DNet) (m : Int) (x : St) (q : Sp) : Prop where
  expl : dexplE d x m = (q, 0)
  full : q.full = true
  len : q.states.length ≤ 2000
  ok : ∀ y ∈ q.states, vstateB d y = true
  fin : (∃ y ∈ q.states, finalM d y.marks = true) ↔ Can d x
structure Wit (d : DNet) (m : Int) (ok : Bool) (path : List Int) (p : Sp) : Prop where
  valid : dvalidB d = true
  start : vstateB d (firstS d) = true
  tells : Tells d m (firstS d) p
  each : ∀ x ∈ p.states, ∃ q, Tells d m x q
  pos : 1 ≤ m
  yes : ok = true → path = [] ∧ ∀ x ∈ p.states, Can d x
  no : ok = false → path.length ≤ 60 ∧ ∃ x, x ∈ p.states ∧ drunB d (firstS d) path = (x, path.length, 0) ∧ (Can d x → finalM d x.marks = false ∧ 0 < x.marks.getD d.net.sink.toNat 0)
end Go.Proofs.YtlmenhjlgmejkaaGreatDoor

namespace Go.Proofs.YtlmenhjlgmejkaaGreatDoor
open Go.RowKit
def inF (d : DNet) (At : Option Addr) (ct : Nat) (Ai : Option Addr) (ci G B j : Nat) (v : Value) (W : World) : Prop := match j with
  | 0 => v = .pointer (some ⟨G, 0, none⟩)
  | 1 => v = .agg #[.int .i64 d.net.places, .slice At d.net.trans.length ct, .int .i64 d.net.source, .int .i64 d.net.sink]
  | 2 => ∃ A c, v = .slice A (firstS d).marks.length c ∧ SlI (Fr B W) W v (firstS d).marks
  | 3 => ∃ g, v = .slice (some ⟨g, 0, none⟩) 0 0 ∧ OwnV W B v []
  | 4 => v = .pointer (some ⟨G, 5, none⟩)
  | 5 => v = .slice Ai d.init.length ci
  | 6 => ∃ A c, v = .slice A (firstS d).vals.length c ∧ SlV (Fr B W) W v (firstS d).vals
  | 7 => ∃ A c A' c', v = .agg #[.slice A (firstS d).marks.length c, .slice A' (firstS d).vals.length c'] ∧ SlI (Fr B W) W (.slice A (firstS d).marks.length c) (firstS d).marks ∧ SlV (Fr B W) W (.slice A' (firstS d).vals.length c') (firstS d).vals
  | _ => True
theorem inF_now (d : DNet) (At : Option Addr) (ct : Nat) (Ai : Option Addr) (ci G B : Nat) : ∀ j v W W', inF d At ct Ai ci G B j v W → Below W.heap.size W W' → inF d At ct Ai ci G B j v W' := by
  intro j v W W' h hb
  obtain ⟨hd, hs⟩ := fr_now (B := B) hb
  match j, h with
  | 0, h => exact h
  | 1, h => exact h
  | 2, ⟨A, c, e, h⟩ => exact ⟨A, c, e, Sl.keep h RInt.kept hd hs⟩
  | 3, ⟨g, e, h⟩ => exact ⟨g, e, OwnV.now h hb⟩
  | 4, h => exact h
  | 5, h => exact h
  | 6, ⟨A, c, e, h⟩ => exact ⟨A, c, e, Sl.keep h RVal.kept hd hs⟩
  | 7, ⟨A, c, A', c', e, h, h'⟩ => exact ⟨A, c, A', c', e, Sl.keep h RInt.kept hd hs, Sl.keep h' RVal.kept hd hs⟩
  | n + 8, h => exact h
theorem wpM_callIni {o : Oper} {a : Act} {w : World} {K : Act → World → Prop} {Q : Exit → Act → World → Prop} (x : Operand) (args : Array Operand) (vals : Array Value) (ts : Array TypeId) (ho : o.op = .call { callee := .value x, args := args, argTypes := ts }) (hx : a.eval x = .func (.func 86) #[] #[]) (hv : args.map a.eval = vals)
    (h : Calls Tryz.prog 86 vals w fun e w' => ∃ v, e = .returned v ∧ K (a.put o.dst v) w') : o.wp Tryz.prog a w K Q := by
  unfold Oper.wp execOp
  simp only [ho]
  generalize a.eval = ρ at hx hv ⊢
  simp [hx, hv, go_sem]
  refine h.mono ?_
  rintro e w' ⟨v, rfl, hK⟩
  exact hK
def RetSt1 (s : St) (w : World) (e : Ending) (w' : World) : Prop := ∃ v, e = .returned v ∧ IsSt (Lt w'.heap.size) w' v s ∧ Below w.heap.size w w'
set_option maxHeartbeats 4000000 in
set_option maxRecDepth 100000 in
theorem initial30_ref (n : Nat) (d : DNet) (u : Value) (w : World) (h : IsDn n (Lt w.heap.size) w u d) (hv : dvalidB d = true) : Calls Tryz.prog 40 #[u] w (RetSt1 (firstS d) w) := by
  obtain ⟨At, ct, Ax, cx, iv, Ag, cg, Aw, cw, rfl, dn1, dn2, dn3, dn4, dn5, ⟨t1, t2⟩, ⟨x1, x2⟩, ⟨g1, g2⟩, v1, v2⟩ := h.open_
  obtain ⟨Ai, ci, rfl, i1, i2, dn3⟩ := Sl.open_ dn3
  have dn3 : SlV (Lt w.heap.size) w (.slice Ai d.init.length ci) d.init := dn3
  clear h dn2 dn4 dn5
  have hnv := (dvalid_parts hv).1
  have hil : d.init.length ≤ 1000 := by
    have h1 := asg_parts (dvalid_parts hv).2.1
    have h2 := vars_len h1.1
    omega
  have hfit := Lib.hid dn3.fits
  clear hv
  go_enter Tryz.func40, Tryz.ntmps40
  go_upto_region 1 with fail
  rename_i Q1 K1 hK1
  have hb0 := bone w (.cells #[.int .i64 d.net.places, .slice At d.net.trans.length ct, .int .i64 d.net.source, .int .i64 d.net.sink, .slice Ax d.vars.length cx, .slice Ai d.init.length ci, .slice Ag d.guards.length cg, .slice Aw d.writes.length cw] 30)
  have hb := bbox hb0 (.cells #[.slice none 0 0, .slice none 0 0] 33)
  have hB := (Blk.new w 30 #[.int .i64 d.net.places, .slice At d.net.trans.length ct, .int .i64 d.net.source, .int .i64 d.net.sink, .slice Ax d.vars.length cx, .slice Ai d.init.length ci, .slice Ag d.guards.length cg, .slice Aw d.writes.length cw]).alloc (.cells #[.slice none 0 0, .slice none 0 0] 33)
  have hZ := Blk.new_at (t := 33) (cs := #[.slice none 0 0, .slice none 0 0]) (w := w.alloc (.cells #[.int .i64 d.net.places, .slice At d.net.trans.length ct, .int .i64 d.net.source, .int .i64 d.net.sink, .slice Ax d.vars.length cx, .slice Ai d.init.length ci, .slice Ag d.guards.length cg, .slice Aw d.writes.length cw] 30)) (s := w.heap.size + 1) (by simp)
  have hn1 := dn1.now hb
  have hi1 := dn3.now hb
  generalize hw1e : (w.alloc (.cells #[.int .i64 d.net.places, .slice At d.net.trans.length ct, .int .i64 d.net.source, .int .i64 d.net.sink, .slice Ax d.vars.length cx, .slice Ai d.init.length ci, .slice Ag d.guards.length cg, .slice Aw d.writes.length cw] 30)).alloc (.cells #[.slice none 0 0, .slice none 0 0] 33) = w1 at *
  clear hw1e hb0 dn1 dn3
  refine wp_region_make (by kernel_rfl) 8 (by kernel_rfl) (by kernel_rfl) (by kernel_rfl) (by kernel_rfl) (inF d At ct Ai ci w.heap.size w1.heap.size) (inF_now _ _ _ _ _ _ _) ?hall ?hstep ?hlast
  case hall => exact hall_of (by kernel_rfl)
  case hlast =>
    intro o ho a W hk hbW hF
    injection ho with ho
    subst ho
    obtain ⟨A, c, A', c', e7, h1, h2⟩ := (show inF d At ct Ai ci w.heap.size w1.heap.size 7 (Act.slot a 10) W from hF 7 (by decide))
    have k2 : a.eval (.tmp 2) = .pointer (some ⟨w.heap.size + 1, 0, none⟩) := hk.same (s := 2) (by kernel_rfl)
    have hbW : Below w1.heap.size w1 W := (Below.refl _ _).drew.trans hbW
    have hZr := hZ.now hbW
    obtain ⟨zz0, zz1⟩ := hZr.c2
    refine wpM_store 33 (.tmp 2) (.tmp 10) _ _ _ () rfl k2 e7 (by simp [go_sem, zz0, zz1, hZr.frozen]; rfl) ⟨_, rfl, fun a'' hk'' hs => ?_⟩
    have hk2 : Act.slot a'' 2 = .pointer (some ⟨w.heap.size + 1, 0, none⟩) := hk''.same (s := 2) (by kernel_rfl)
    obtain ⟨r0, r1⟩ := (hZr.set2 (.slice A (firstS d).marks.length c) (.slice A' (firstS d).vals.length c')).c2
    have hbF := bset2 (w := w) (bthen hb hbW) (g := w.heap.size + 1) (by omega) (.slice A (firstS d).marks.length c) (.slice A' (firstS d).vals.length c')
    refine hK1 _ _ (wp_ret ?_)
    unfold Act.slot at hk2
    rw [Array.getD_eq_getD_getElem?] at hk2
    refine bodyPost_ret (P := Tryz.prog) (fn := Tryz.f40) (R := RetSt1 (firstS d) w) (v := .agg #[.slice A (firstS d).marks.length c, .slice A' (firstS d).vals.length c']) ?_ ?_ ?_
    · simp [results, Tryz.results40, go_sem, hk2, r0, r1]
    · exact hk''.defers
    · exact ⟨_, rfl, ⟨_, _, rfl, (SlI.set2F h1 hZr _ _).weak, (SlV.set2F h2 hZr _ _).weak⟩, hbF⟩
  case hstep =>
    refine ⟨fun a W hk hbW hd => ?_, ?_⟩
    · show Oper.wp _ _ a W _ _
      have k1 : a.eval (.tmp 1) = .pointer (some ⟨w.heap.size, 0, none⟩) := hk.same (s := 1) (by kernel_rfl)
      refine wpM_field _ _ _ _ _ rfl k1 (by simp [go_sem]; rfl) ⟨_, rfl, Below.refl _ _, ?_⟩
      exact rfl
    refine ⟨fun a W hk hbW hd => ?_, ?_⟩
    · show Oper.wp _ _ a W _ _
      have e0 : a.eval (.tmp 3) = .pointer (some ⟨w.heap.size, 0, none⟩) := (show inF d At ct Ai ci w.heap.size w1.heap.size 0 (Act.slot a 3) W from hd 0 (by kernel_rfl))
      obtain ⟨q0, q1, q2, q3, q4, q5, q6, q7⟩ := (hB.now (show Below w1.heap.size w1 W from (Below.refl _ _).drew.trans hbW)).c8
      refine wpM_load _ _ _ (.agg #[.int .i64 d.net.places, .slice At d.net.trans.length ct, .int .i64 d.net.source, .int .i64 d.net.sink]) rfl e0 (by simp [go_sem, q0, q1, q2, q3]) ⟨_, rfl, Below.refl _ _, ?_⟩
      exact rfl
    refine ⟨fun a W hk hbW hd => ?_, ?_⟩
    · show Oper.wp _ _ a W _ _
      have e1 : a.eval (.tmp 4) = .agg #[.int .i64 d.net.places, .slice At d.net.trans.length ct, .int .i64 d.net.source, .int .i64 d.net.sink] := (show inF d At ct Ai ci w.heap.size w1.heap.size 1 (Act.slot a 4) W from hd 1 (by kernel_rfl))
      refine wpM_callIni _ _ #[.agg #[.int .i64 d.net.places, .slice At d.net.trans.length ct, .int .i64 d.net.source, .int .i64 d.net.sink]] _ rfl rfl (by simp [e1]) ?_
      refine (initialM_ref d.net _ W (hn1.now (show Below w1.heap.size w1 W from (Below.refl _ _).drew.trans hbW)) hnv).mono ?_
      rintro e w' ⟨v, rfl, hv, hb'⟩
      obtain ⟨A, c, rfl, _, _, _⟩ := hv.open_
      have hsz := hbW.size
      exact ⟨_, rfl, _, rfl, hb', A, c, rfl, hv.from_ hsz⟩
    refine ⟨fun a W hk hbW hd => ?_, ?_⟩
    · show Oper.wp _ _ a W _ _
      refine wpM_slice _ _ _ _ _ _ rfl ?_ (bsV0 W) ⟨_, rfl, bone _ _, ?_⟩
      · simp
      · exact ⟨_, rfl, World.ownsRow_lit (base := w1.heap.size) (e := 63) (size := 3) W #[] 0 hbW.size (by unfold maxLen; omega) rfl⟩
    refine ⟨fun a W hk hbW hd => ?_, ?_⟩
    · show Oper.wp _ _ a W _ _
      have k1 : a.eval (.tmp 1) = .pointer (some ⟨w.heap.size, 0, none⟩) := hk.same (s := 1) (by kernel_rfl)
      refine wpM_field _ _ _ _ _ rfl k1 (by simp [go_sem]; rfl) ⟨_, rfl, Below.refl _ _, ?_⟩
      exact rfl
    refine ⟨fun a W hk hbW hd => ?_, ?_⟩
    · show Oper.wp _ _ a W _ _
      have e4 : a.eval (.tmp 7) = .pointer (some ⟨w.heap.size, 5, none⟩) := (show inF d At ct Ai ci w.heap.size w1.heap.size 4 (Act.slot a 7) W from hd 4 (by kernel_rfl))
      obtain ⟨q0, q1, q2, q3, q4, q5, q6, q7⟩ := (hB.now (show Below w1.heap.size w1 W from (Below.refl _ _).drew.trans hbW)).c8
      refine wpM_load _ _ _ (.slice Ai d.init.length ci) rfl e4 (by simp [go_sem, q5]) ⟨_, rfl, Below.refl _ _, ?_⟩
      exact rfl
    refine ⟨fun a W hk hbW hd => ?_, ?_⟩
    · show Oper.wp _ _ a W _ _
      obtain ⟨g, e3, hown⟩ := (show inF d At ct Ai ci w.heap.size w1.heap.size 3 (Act.slot a 6) W from hd 3 (by kernel_rfl))
      have e5 : a.eval (.tmp 8) = .slice Ai d.init.length ci := (show inF d At ct Ai ci w.heap.size w1.heap.size 5 (Act.slot a 8) W from hd 5 (by kernel_rfl))
      rw [e3] at hown
      refine wpM_appLit (fc := cellsV) (R := RVal) appVals (.tmp 6) (.tmp 8) rfl W cellsV_len g e3 hown _ d.init e5 (hi1.now (show Below w1.heap.size w1 W from (Below.refl _ _).drew.trans hbW)) (fun y c h => h.1) cellsV_one (by omega) hbW.size ?_
      intro v' w' ho' hb'
      have hsl := OwnV.fresh (B := w1.heap.size) ho' (Nat.le_refl _) hfit.out
      obtain ⟨A, c, rfl, _, _, hsl⟩ := Sl.open_ hsl
      exact ⟨_, rfl, hb', A, c, rfl, hsl⟩
    refine ⟨fun a W hk hbW hd => ?_, trivial⟩
    · show Oper.wp _ _ a W _ _
      obtain ⟨A, c, e2, h1⟩ := (show inF d At ct Ai ci w.heap.size w1.heap.size 2 (Act.slot a 5) W from hd 2 (by kernel_rfl))
      obtain ⟨A', c', e6, h2⟩ := (show inF d At ct Ai ci w.heap.size w1.heap.size 6 (Act.slot a 9) W from hd 6 (by kernel_rfl))
      rw [e2] at h1
      rw [e6] at h2
      refine wpM_build _ _ _ _ rfl ?_ (bSt A A' (firstS d).marks.length (firstS d).vals.length c c' W) ⟨_, rfl, Below.refl _ _, ?_⟩
      · have ev2 : a.eval (.tmp 5) = _ := e2; have ev6 : a.eval (.tmp 9) = _ := e6; simp [ev2, ev6]
      · exact ⟨_, _, _, _, rfl, h1, h2⟩
end Go.Proofs.YtlmenhjlgmejkaaGreatDoor

namespace Go.Proofs.YtlmenhjlgmejkaaGreatDoor
open Go.RowKit
def endB (d : DNet) (q : Sp) : Bool := q.states.any fun y => finalM d y.marks
theorem dfinal_ok {d : DNet} {s : St} (h : vstateB d s = true) : dfinalE d s = (finalM d s.marks, 0) := by unfold dfinalE; rw [if_pos h]
end Go.Proofs.YtlmenhjlgmejkaaGreatDoor
