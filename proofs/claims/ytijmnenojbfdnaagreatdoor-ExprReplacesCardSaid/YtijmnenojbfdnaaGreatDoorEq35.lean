/- Texts of this seat, merged. -/
import Derived.Test.YtijmnenojbfdnaaGreatDoorEq01
import Derived.Test.YtijmnenojbfdnaaGreatDoorEq02
import Derived.Test.YtijmnenojbfdnaaGreatDoorEq03
import Derived.Test.YtijmnenojbfdnaaGreatDoorEq04
import Derived.Test.YtijmnenojbfdnaaGreatDoorEq05
import Derived.Test.YtijmnenojbfdnaaGreatDoorEq06
import Derived.Test.YtijmnenojbfdnaaGreatDoorEq07
import Derived.Test.YtijmnenojbfdnaaGreatDoorEq08
import Derived.Test.YtijmnenojbfdnaaGreatDoorEq09
import Derived.Test.YtijmnenojbfdnaaGreatDoorEq10
import Derived.Test.YtijmnenojbfdnaaGreatDoorEq11
import Derived.Test.YtijmnenojbfdnaaGreatDoorEq12
import Derived.Test.YtijmnenojbfdnaaGreatDoorEq13
import Derived.Test.YtijmnenojbfdnaaGreatDoorEq14
import Derived.Test.YtijmnenojbfdnaaGreatDoorEq15
import Derived.Test.YtijmnenojbfdnaaGreatDoorEq16
import Derived.Test.YtijmnenojbfdnaaGreatDoorEq17
import Derived.Test.YtijmnenojbfdnaaGreatDoorEq18
import Derived.Test.YtijmnenojbfdnaaGreatDoorEq19
import Derived.Test.YtijmnenojbfdnaaGreatDoorEq20
import Derived.Test.YtijmnenojbfdnaaGreatDoorEq21
import Derived.Test.YtijmnenojbfdnaaGreatDoorEq22
import Derived.Test.YtijmnenojbfdnaaGreatDoorEq23
import Derived.Test.YtijmnenojbfdnaaGreatDoorEq24
import Derived.Test.YtijmnenojbfdnaaGreatDoorEq25
import Derived.Test.YtijmnenojbfdnaaGreatDoorEq26
import Derived.Test.YtijmnenojbfdnaaGreatDoorEq27
import Derived.Test.YtijmnenojbfdnaaGreatDoorEq28
import Derived.Test.YtijmnenojbfdnaaGreatDoorEq29
import Derived.Test.YtijmnenojbfdnaaGreatDoorEq30
set_option linter.unusedSimpArgs false
set_option linter.unusedVariables false
namespace Go.Proofs.YtijmnenojbfdnaaGreatDoor
open Go.RowKit
def RetBVE (r : Bool × List Val × Int) (w : World) (e : Ending) (w' : World) : Prop := ∃ v, e = .returned (.tuple #[.bool r.1, v, .int .i64 r.2.2]) ∧ SlV (Lt w'.heap.size) w' v r.2.1 ∧ Below w.heap.size w w'
theorem RetBVE.none_ {r : Bool × List Val × Int} {w w' : World} {e : Int} (h : r = (false, [], e)) (hb : Below w.heap.size w w') : RetBVE r w (.returned (.tuple #[.bool false, .slice none 0 0, .int .i64 e])) w' := by
  subst h; exact ⟨_, rfl, Sl.none_, hb⟩
set_option maxHeartbeats 4000000 in
set_option maxRecDepth 100000 in
theorem equiv_any (n : Nat) (l : List Var) (x y : Ex) (uv u u' : Value) (w : World) (hvs : SlX (Lt w.heap.size) w uv l) (hx : IsEx n (Lt w.heap.size) w u x) (hy : IsEx n (Lt w.heap.size) w u' y) (hl : l.length ≤ 1000000) :
    Calls Tryz.prog 27 #[uv, u, u'] w (RetBVE (equivE l x y) w) := by
  have hxx := hx
  have hyy := hy
  obtain ⟨Av, cv, rfl, v1, v2, hvs⟩ := hvs.open_
  obtain ⟨lv, rfl, _, Ax, cx, rfl⟩ := hx.cells
  obtain ⟨lw, rfl, _, Ay, cy, rfl⟩ := hy.cells
  have hb := bbox (bbox (bone w (.cells #[.slice Av l.length cv] 22)) (.cells #[.int .i64 x.op, .int .i64 x.v.kind, .int .i64 x.v.n, .string x.v.s, .string x.s, .slice Ax x.l.length cx] 28)) (.cells #[.int .i64 y.op, .int .i64 y.v.kind, .int .i64 y.v.n, .string y.v.s, .string y.s, .slice Ay y.l.length cy] 28)
  have hBv := ((Blk.new w 22 #[.slice Av l.length cv]).alloc (.cells #[.int .i64 x.op, .int .i64 x.v.kind, .int .i64 x.v.n, .string x.v.s, .string x.s, .slice Ax x.l.length cx] 28)).alloc (.cells #[.int .i64 y.op, .int .i64 y.v.kind, .int .i64 y.v.n, .string y.v.s, .string y.s, .slice Ay y.l.length cy] 28)
  have hBx := (Blk.new_at (t := 28) (cs := #[.int .i64 x.op, .int .i64 x.v.kind, .int .i64 x.v.n, .string x.v.s, .string x.s, .slice Ax x.l.length cx]) (w := w.alloc (.cells #[.slice Av l.length cv] 22)) (s := w.heap.size + 1) (World.size_alloc _ _)).alloc (.cells #[.int .i64 y.op, .int .i64 y.v.kind, .int .i64 y.v.n, .string y.v.s, .string y.s, .slice Ay y.l.length cy] 28)
  have hBy := Blk.new_at (t := 28) (cs := #[.int .i64 y.op, .int .i64 y.v.kind, .int .i64 y.v.n, .string y.v.s, .string y.s, .slice Ay y.l.length cy]) (w := (w.alloc (.cells #[.slice Av l.length cv] 22)).alloc (.cells #[.int .i64 x.op, .int .i64 x.v.kind, .int .i64 x.v.n, .string x.v.s, .string x.s, .slice Ax x.l.length cx] 28)) (s := w.heap.size + 2) (by rw [World.size_alloc, World.size_alloc])
  have hx1 := hxx.now hb
  have hy1 := hyy.now hb
  have hv1 := hvs.now hb
  have HVY := Lib.hid (validX_any n y _ _ hy1)
  have HE : Hid (equivE l x y = if validX y = false then (false, [], 1) else if (givenE l x).2 ≠ 0 then (false, [], (givenE l x).2) else if (givenE l y).2 ≠ 0 then (false, [], (givenE l y).2) else if (givenE l x).1 ≠ (givenE l y).1 then (false, [], 11) else if plentyB l then (false, [], 13) else (((asgL l).find? fun v => !likeB l x y v).isNone, ((asgL l).find? fun v => !likeB l x y v).getD [], 0)) := rfl
  have HGX := Lib.hid (fun h => given_ok (vs := l) (x := x) h)
  have HGY := Lib.hid (fun h => given_ok (vs := l) (x := y) h)
  have HVS := Lib.hid hvs
  have HXX := Lib.hid hxx
  have HYY := Lib.hid hyy
  clear hx hy hvs hxx hyy
  go_enter Tryz.func27, Tryz.ntmps27
  go_upto_region 1 with fail
  generalize hww : ((w.alloc (.cells #[.slice Av l.length cv] 22)).alloc (.cells #[.int .i64 x.op, .int .i64 x.v.kind, .int .i64 x.v.n, .string x.v.s, .string x.s, .slice Ax x.l.length cx] 28)).alloc (.cells #[.int .i64 y.op, .int .i64 y.v.kind, .int .i64 y.v.n, .string y.v.s, .string y.s, .slice Ay y.l.length cy] 28) = w1 at *
  clear hww
  have b0 := hBv.c1
  obtain ⟨q0, q1, q2, q3, q4, q5⟩ := hBx.c6
  obtain ⟨r0, r1, r2, r3, r4, r5⟩ := hBy.c6
  go_wp2_with fail
  (with_reducible refine HVY.out.mono ?_)
  rintro e w2 ⟨rfl, hb2⟩
  have hbw2 := bthen hb hb2
  have hv2 := hv1.now hb2
  have hx2 := hx1.now hb2
  have hy2 := hy1.now hb2
  have hBv2 := hBv.now hb2
  have hBx2 := hBx.now hb2
  have hBy2 := hBy.now hb2
  clear HVY b0 q0 q1 q2 q3 q4 q5 r0 r1 r2 r3 r4 r5 hBv hBx hBy hv1 hx1 hy1 hb hb2
  have b0 := hBv2.c1
  obtain ⟨q0, q1, q2, q3, q4, q5⟩ := hBx2.c6
  cases hvy : validX y
  · have HR : Hid (equivE l x y = (false, [], 1)) := by show _ = _; rw [HE.out, if_pos hvy]
    go_wp2_with fail
    go_ret3
    exact RetBVE.none_ HR.out hbw2
  have HVY := Lib.hid hvy
  clear hvy
  have HG := Lib.hid (given_any n l x _ _ _ hv2 hx2 hl)
  go_wp2_with fail
  (with_reducible refine HG.out.mono ?_)
  rintro e w3 ⟨rfl, hfit, hb3⟩
  have hbw3 := bthen hbw2 hb3
  have hv3 := hv2.now hb3
  have hy3 := hy2.now hb3
  have hBv3 := hBv2.now hb3
  have hBx3 := hBx2.now hb3
  have hBy3 := hBy2.now hb3
  clear HG b0 q0 q1 q2 q3 q4 q5 hBv2 hBx2 hBy2 hv2 hx2 hy2 hbw2 hb3
  have b0 := hBv3.c1
  obtain ⟨r0, r1, r2, r3, r4, r5⟩ := hBy3.c6
  by_cases hg : (givenE l x).2 = 0
  rotate_left
  · have HR : Hid (equivE l x y = (false, [], (givenE l x).2)) := by show _ = _; rw [HE.out, if_neg (by rw [HVY.out]; simp), if_pos hg]
    have hk' : ((givenE l x).2 != 0) = true := by simpa using hg
    clear hg HE
    generalize (givenE l x).2 = ge at *
    generalize (givenE l x).1 = gk at *
    go_wp2_with fail
    go_ret3
    exact RetBVE.none_ HR.out hbw3
  have HG0 := Lib.hid hg
  rw [hg]
  clear hg
  have HG := Lib.hid (given_any n l y _ _ _ hv3 hy3 hl)
  have HKX : Hid (∃ k, k = (givenE l x).1) := ⟨_, rfl⟩
  obtain ⟨kx, hkx⟩ := HKX.out
  rw [← hkx] at hfit ⊢
  have HKX := Lib.hid hkx
  clear hkx
  go_wp2_with fail
  (with_reducible refine HG.out.mono ?_)
  rintro e w4 ⟨rfl, hfit', hb4⟩
  have hbw4 := bthen hbw3 hb4
  have hv4 := hv3.now hb4
  have hBv4 := hBv3.now hb4
  have hBx4 := hBx3.now hb4
  have hBy4 := hBy3.now hb4
  clear HG b0 r0 r1 r2 r3 r4 r5 hBv3 hBx3 hBy3 hv3 hy3 hbw3 hb4
  have b0 := hBv4.c1
  by_cases hg : (givenE l y).2 = 0
  rotate_left
  · have HR : Hid (equivE l x y = (false, [], (givenE l y).2)) := by show _ = _; rw [HE.out, if_neg (by rw [HVY.out]; simp), if_neg (by rw [HG0.out]; simp), if_pos hg]
    have hk' : ((givenE l y).2 != 0) = true := by simpa using hg
    clear hg HE
    generalize (givenE l y).2 = ge at *
    generalize (givenE l y).1 = gk at *
    go_wp2_with fail
    go_ret3
    exact RetBVE.none_ HR.out hbw4
  have HG1 := Lib.hid hg
  rw [hg]
  clear hg
  have HKY : Hid (∃ k, k = (givenE l y).1) := ⟨_, rfl⟩
  obtain ⟨ky, hky⟩ := HKY.out
  rw [← hky] at hfit' ⊢
  have HKY := Lib.hid hky
  clear hky
  by_cases hkk : kx = ky
  rotate_left
  · have HR : Hid (equivE l x y = (false, [], 11)) := by show _ = _; rw [HE.out, if_neg (by rw [HVY.out]; simp), if_neg (by rw [HG0.out]; simp), if_neg (by rw [HG1.out]; simp), ← HKX.out, ← HKY.out, if_pos hkk]
    have hk' : (kx != ky) = true := by simpa using hkk
    clear hkk
    go_wp2_with fail
    go_ret3
    exact RetBVE.none_ HR.out hbw4
  subst hkk
  have hk' : (kx != kx) = false := by simp
  obtain ⟨hvx, hvv, hty⟩ := HGX.out HG0.out
  obtain ⟨hvy, _, hty'⟩ := HGY.out HG1.out
  have HPL := Lib.hid (plenty_any l _ w4 hv4 hvv)
  have HVV := Lib.hid hvv
  have h8 := vars_len hvv
  have H1 := Lib.hid (And.intro (valid_ok hvx) (And.intro hty (And.intro (valid_ok hvy) hty')))
  clear hvv hvx hty hvy hty'
  go_wp2_with fail
  (with_reducible refine HPL.out.mono ?_)
  rintro e w5 ⟨rfl, hb5⟩
  have hbw5 := bthen hbw4 hb5
  have hBv5 := hBv4.now hb5
  have hBx5 := hBx4.now hb5
  have hBy5 := hBy4.now hb5
  clear HPL b0 hBv4 hBx4 hBy4 hv4 hbw4 hb5
  have b0 := hBv5.c1
  cases hpl : plentyB l
  rotate_left
  · have HR : Hid (equivE l x y = (false, [], 13)) := by show _ = _; rw [HE.out, if_neg (by rw [HVY.out]; simp), if_neg (by rw [HG0.out]; simp), if_neg (by rw [HG1.out]; simp), if_neg (by rw [← HKX.out, ← HKY.out]; simp), hpl, if_pos rfl]
    go_wp2_with fail
    go_ret3
    exact RetBVE.none_ HR.out hbw5
  have HR : Hid (equivE l x y = (((asgL l).find? fun v => !likeB l x y v).isNone, ((asgL l).find? fun v => !likeB l x y v).getD [], 0)) := by show _ = _; rw [HE.out, if_neg (by rw [HVY.out]; simp), if_neg (by rw [HG0.out]; simp), if_neg (by rw [HG1.out]; simp), if_neg (by rw [← HKX.out, ← HKY.out]; simp), hpl, if_neg Bool.false_ne_true]
  clear hpl HE
  have hb6 := bbox (bone w5 (.cells #[.bool true] 4)) (.cells #[.slice none 0 0] 23)
  have hC6 := (Blk.new w5 4 #[.bool true]).alloc (.cells #[.slice none 0 0] 23)
  have hF6 := Blk.new_at (t := 23) (cs := #[.slice none 0 0]) (w := w5.alloc (.cells #[.bool true] 4)) (s := w5.heap.size + 1) (World.size_alloc _ _)
  go_upto_region 15 with fail
  generalize hw6 : (w5.alloc (.cells #[.bool true] 4)).alloc (.cells #[.slice none 0 0] 23) = w6 at *
  clear hw6
  have hBv6 := hBv5.now hb6
  have hBx6 := hBx5.now hb6
  have hBy6 := hBy5.now hb6
  have hbw6 := bthen hbw5 hb6
  have hg3 : w.heap.size + 3 ≤ w5.heap.size := hBy5.lt
  have hg4 : w5.heap.size + 2 ≤ w6.heap.size := hF6.lt
  have hI : EqI l x y n w.heap.size w.heap.size w5.heap.size Av Ax Ay cv cx cy [] w6 :=
    ⟨hBv6, hBx6, hBy6, Sl.below HVS.out RVar.kept hbw6 (Nat.le_refl _), HXX.out.below hbw6 (Nat.le_refl _), HYY.out.below hbw6 (Nat.le_refl _), hC6, _, hF6, Sl.none_⟩
  have hVis : Visits l 66 #[.pointer (some ⟨w.heap.size, 0, none⟩), .pointer (some ⟨w.heap.size + 1, 0, none⟩), .pointer (some ⟨w.heap.size + 2, 0, none⟩), .pointer (some ⟨w5.heap.size, 0, none⟩), .pointer (some ⟨w5.heap.size + 1, 0, none⟩)] w5.heap.size (w5.heap.size + 1) (likeB l x y) (EqI l x y n w.heap.size w.heap.size w5.heap.size Av Ax Ay cv cx cy) :=
    ⟨fun z w => enters_of Tryz.func66 (by kernel_rfl) rfl _ w, fun d W W' h hb => h.now (Nat.le_refl _) hb, fun d W h => ⟨⟨_, _, h.sm⟩, by obtain ⟨fv, h1, _⟩ := h.df; exact ⟨_, _, h1⟩⟩,
      fun d v vv W h hd hg hs => equiv1_any l x y n w.heap.size w.heap.size w5.heap.size Av Ax Ay cv cx cy H1.out.1 H1.out.2.1 H1.out.2.2.1 H1.out.2.2.2 (Nat.le_refl _) hg3 h8 d v vv W h hg hs⟩
  have HEC := Lib.hid (each_any l _ _ _ _ _ _ hVis (.slice Av l.length cv) w6 w.heap.size HVV.out hbw6.size (by omega) (by omega) hI.hv hI)
  have HR2 : Hid (equivE l x y = (sameD (likeB l x y) (eachL l (likeB l x y) (prodL l) (firstV l)), difD (likeB l x y) (eachL l (likeB l x y) (prodL l) (firstV l)), 0)) := by
    show _ = _
    have h := each_q l (likeB l x y) (prodL l) (firstV l)
    rw [HR.out]
    exact Prod.ext h.1.symm (Prod.ext h.2.symm rfl)
  have b4 := hBv6.c1
  have c4 := hC6.c1
  have d4 := hF6.c1
  clear hVis hI b0 hBv5 hBx5 hBy5
  go_wp2_with fail
  (with_reducible refine HEC.out.mono ?_)
  rintro e w7 ⟨rfl, hI7, hT7⟩
  obtain ⟨fv, hF7, hfv7⟩ := hI7.df
  have hfl := hfv7.lt
  obtain ⟨Af, cf, rfl, _, _, hfl⟩ := hfl.open_
  have e5 := hI7.sm.c1
  have e6 := hF7.c1
  have hbw7 : Below w.heap.size w w7 := hbw6.trans (hT7.below hbw6.size (by omega) (by omega))
  clear b4 c4 d4 HEC hBv6 hBx6 hBy6
  go_wp2_with fail
  go_quiet (fail)
  go_wp2_with fail
  go_ret3
  rw [HR2.out]
  exact ⟨_, rfl, hfl, bdrawn hbw7 _⟩
end Go.Proofs.YtijmnenojbfdnaaGreatDoor

namespace Go.Proofs.YtijmnenojbfdnaaGreatDoor
open Go.RowKit
def RetNar (l : List Var) (w : World) (e : Ending) (w' : World) : Prop := ∃ b, e = .returned (.bool b) ∧ (b = true → l.length ≤ 10) ∧ Below w.heap.size w w'
theorem narrow_any (l : List Var) (v : Value) (w : World) (h : SlX (Lt w.heap.size) w v l) : Calls Tryz.prog 24 #[v] w (RetNar l w) := by
  have HL := Lib.hid (list_any l v w h)
  obtain ⟨A, c, rfl, _, _, h⟩ := h.open_
  go_enter Tryz.func24, Tryz.ntmps24
  go_wp2_with fail
  (with_reducible refine HL.out.mono ?_)
  rintro e w2 ⟨q, rfl, hq, hb2⟩
  cases q
  · go_wp2_with fail
    go_ret
    exact ⟨_, rfl, fun h => (by cases h), hb2⟩
  have h10 := hq rfl
  clear hq
  have HV := Lib.hid (validVars_ref l _ w2 (h.now hb2))
  go_wp2_with fail
  (with_reducible refine HV.out.mono ?_)
  rintro e w3 ⟨rfl, hb3⟩
  have hb3w := bthen hb2 hb3
  cases hv : varsB l
  · go_wp2_with fail
    go_ret
    exact ⟨_, rfl, fun _ => h10, hb3w⟩
  · have HA := Lib.hid (assignments_ref l _ w3 ((h.now hb2).now hb3) hv)
    clear hv
    go_wp2_with fail
    (with_reducible refine HA.out.mono ?_)
    rintro e w4 ⟨rfl, hb4⟩
    have hb4w := bthen hb3w hb4
    generalize ((min 10001 (prodL l) : Nat) : Int) = z at *
    by_cases hz : z ≤ 600
    · go_wp2_with fail
      go_ret
      exact ⟨_, rfl, fun _ => h10, hb4w⟩
    · go_wp2_with fail
      go_ret
      exact ⟨_, rfl, fun _ => h10, hb4w⟩
end Go.Proofs.YtijmnenojbfdnaaGreatDoor
