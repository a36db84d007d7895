/- Texts of this seat, merged. -/
import Derived.Test.YtijmnenojbfdnaaGreatDoorEm01
import Derived.Test.YtijmnenojbfdnaaGreatDoorEm02
import Derived.Test.YtijmnenojbfdnaaGreatDoorEm03
import Derived.Test.YtijmnenojbfdnaaGreatDoorEm04
import Derived.Test.YtijmnenojbfdnaaGreatDoorEm05
import Derived.Test.YtijmnenojbfdnaaGreatDoorEm06
import Derived.Test.YtijmnenojbfdnaaGreatDoorEm07
import Derived.Test.YtijmnenojbfdnaaGreatDoorEm08
import Derived.Test.YtijmnenojbfdnaaGreatDoorEm09
import Derived.Test.YtijmnenojbfdnaaGreatDoorEm10
import Derived.Test.YtijmnenojbfdnaaGreatDoorEm11
import Derived.Test.YtijmnenojbfdnaaGreatDoorEm12
import Derived.Test.YtijmnenojbfdnaaGreatDoorEm13
import Derived.Test.YtijmnenojbfdnaaGreatDoorEm14
import Derived.Test.YtijmnenojbfdnaaGreatDoorEm15
import Derived.Test.YtijmnenojbfdnaaGreatDoorEm16
import Derived.Test.YtijmnenojbfdnaaGreatDoorEm17
import Derived.Test.YtijmnenojbfdnaaGreatDoorEm18
import Derived.Test.YtijmnenojbfdnaaGreatDoorEm19
import Derived.Test.YtijmnenojbfdnaaGreatDoorEm20
import Derived.Test.YtijmnenojbfdnaaGreatDoorEm21
import Derived.Test.YtijmnenojbfdnaaGreatDoorEm22
import Derived.Test.YtijmnenojbfdnaaGreatDoorEm23
import Derived.Test.YtijmnenojbfdnaaGreatDoorEm24
import Derived.Test.YtijmnenojbfdnaaGreatDoorEm25
import Derived.Test.YtijmnenojbfdnaaGreatDoorEm26
import Derived.Test.YtijmnenojbfdnaaGreatDoorEm27
set_option linter.unusedSimpArgs false
set_option linter.unusedVariables false
namespace Go.Proofs.YtijmnenojbfdnaaGreatDoor
open Go.RowKit
set_option maxHeartbeats 1000000 in
theorem equalVV (u v : Value) (xs : List Val) (w : World) (hu : SlV (Lt w.heap.size) w u xs) (hv : SlV (Lt w.heap.size) w v xs) :
    Calls Tryz.prog 68 #[u, v] w fun e w' => e = .returned (.bool true) ∧ Below w.heap.size w w' := by
  obtain ⟨A, c, rfl, h1, h2, ht⟩ := hu.open_
  obtain ⟨Av, cv, rfl, h1v, h2v, htv⟩ := hv.open_
  clear hu hv
  go_enter Tryz.func68, Tryz.ntmps68
  have h3 : ((xs.length : Int) != (xs.length : Int)) = false := by simp
  go_wp2_with fail
  go_loopw [13] (fun i wr => ∃ k : Nat, k ≤ xs.length ∧ i = .int .i64 (k : Int) ∧ Below w.heap.size w wr) (fun i _ => xs.length - (intOf i).toNat)
  case atStart => exact ⟨0, Nat.zero_le _, rfl, Below.refl _ _⟩
  case round =>
    obtain ⟨k, hk, rfl, hbr⟩ := hrel
    by_cases hlt : k < xs.length
    · obtain ⟨b, o, a, rfl, _, ha, _, a0, a1, a2⟩ := SlV.at_ (ht.now hbr) hlt
      obtain ⟨b', o', a', rfl, _, ha', _, b0, b1, b2⟩ := SlV.at_ (htv.now hbr) hlt
      obtain rfl : a = a' := by rw [ha] at ha'; injection ha'
      have hne : ∀ W, (binOp .neq 25 (.agg #[.int .i64 a.kind, .int .i64 a.n, .string a.s]) (.agg #[.int .i64 a.kind, .int .i64 a.n, .string a.s])).run Tryz.prog W = .ok (.bool false) W := fun W => by
        have := run_neV W a a
        rw [decide_eq_true rfl] at this
        exact this
      have i0 : (0 : Int) ≤ (k : Int) := by omega
      have i1 : (k : Int) < (xs.length : Int) := by omega
      clear ha ha'
      go_wp2_with fail
      go_quiet (fail)
      go_wp2_with fail
      go_roundw
      case rel => exact ⟨k + 1, by omega, by go_num, bdrawn hbr _⟩
      case measure => simp [intOf]; omega
    · go_wp2_with fail
      go_ret
      exact ⟨rfl, hbr⟩
theorem sameV_any (u v : Value) (xs : List Val) (w : World) (hu : SlV (Lt w.heap.size) w u xs) (hv : SlV (Lt w.heap.size) w v xs) :
    Calls Tryz.prog 29 #[u, v] w fun e w' => e = .returned (.bool true) ∧ Below w.heap.size w w' := by
  have HC := Lib.hid (equalVV u v xs w hu hv)
  obtain ⟨A, c, rfl, _, _, _⟩ := hu.open_
  obtain ⟨Av, cv, rfl, _, _, _⟩ := hv.open_
  clear hu hv
  go_enter Tryz.func29, Tryz.ntmps29
  go_wp2_with fail
  (with_reducible refine HC.out.mono ?_)
  rintro e w2 ⟨rfl, hb2⟩
  go_wp2_with fail
  go_ret
  exact ⟨rfl, hb2⟩
def RetNar (l : List Var) (w : World) (e : Ending) (w' : World) : Prop := ∃ b, e = .returned (.bool b) ∧ (b = true → l.length ≤ 10) ∧ Below w.heap.size w w'
theorem narrow_any (l : List Var) (v : Value) (w : World) (h : SlX (Lt w.heap.size) w v l) : Calls Tryz.prog 24 #[v] w (RetNar l w) := by
  have HL := Lib.hid (list_any l v w h)
  obtain ⟨A, c, rfl, _, _, h⟩ := h.open_
  go_enter Tryz.func24, Tryz.ntmps24
  go_wp2_with fail
  (with_reducible refine HL.out.mono ?_)
  rintro e w2 ⟨q, rfl, hq, hb2⟩
  cases q
  · go_wp2_with fail
    go_ret
    exact ⟨_, rfl, fun h => (by cases h), hb2⟩
  have h10 := hq rfl
  clear hq
  have HV := Lib.hid (validVars_ref l _ w2 (h.now hb2))
  go_wp2_with fail
  (with_reducible refine HV.out.mono ?_)
  rintro e w3 ⟨rfl, hb3⟩
  have hb3w := bthen hb2 hb3
  cases hv : varsB l
  · go_wp2_with fail
    go_ret
    exact ⟨_, rfl, fun _ => h10, hb3w⟩
  · have HA := Lib.hid (assignments_ref l _ w3 ((h.now hb2).now hb3) hv)
    clear hv
    go_wp2_with fail
    (with_reducible refine HA.out.mono ?_)
    rintro e w4 ⟨rfl, hb4⟩
    have hb4w := bthen hb3w hb4
    generalize ((min 10001 (prodL l) : Nat) : Int) = z at *
    by_cases hz : z ≤ 600
    · go_wp2_with fail
      go_ret
      exact ⟨_, rfl, fun _ => h10, hb4w⟩
    · go_wp2_with fail
      go_ret
      exact ⟨_, rfl, fun _ => h10, hb4w⟩
end Go.Proofs.YtijmnenojbfdnaaGreatDoor

namespace Go.Proofs.YtijmnenojbfdnaaGreatDoor
open Go.RowKit
def likeB (l : List Var) (a b : Ex) (v : List Val) : Bool := decide (evX l v a = evX l v b)
def sameD (q : List Val → Bool) (d : List (List Val)) : Bool := (d.getLast?.map q).getD true
def difD (q : List Val → Bool) (d : List (List Val)) : List Val := (d.reverse.find? fun v => !q v).getD []
def equivE (l : List Var) (a b : Ex) : Bool × List Val × Int :=
  if validX b = false then (false, [], 1)
  else if (givenE l a).2 ≠ 0 then (false, [], (givenE l a).2)
  else if (givenE l b).2 ≠ 0 then (false, [], (givenE l b).2)
  else if (givenE l a).1 ≠ (givenE l b).1 then (false, [], 11)
  else if plentyB l then (false, [], 13)
  else (((asgL l).find? fun v => !likeB l a b v).isNone, ((asgL l).find? fun v => !likeB l a b v).getD [], 0)
theorem sameD_snoc (q : List Val → Bool) (d : List (List Val)) (v : List Val) : sameD q (d ++ [v]) = q v := by unfold sameD; simp
theorem difD_snoc (q : List Val → Bool) (d : List (List Val)) (v : List Val) : difD q (d ++ [v]) = if q v = true then difD q d else v := by
  unfold difD
  rw [List.reverse_append]
  show (List.find? _ (v :: d.reverse)).getD [] = _
  rw [List.find?_cons]
  cases h : q v <;> simp
theorem each_q (l : List Var) (q : List Val → Bool) : ∀ (f : Nat) (v : List Val),
    sameD q (eachL l q f v) = ((eachL l (fun _ => true) f v).find? fun v => !q v).isNone ∧ difD q (eachL l q f v) = ((eachL l (fun _ => true) f v).find? fun v => !q v).getD []
  | 0, v => ⟨rfl, rfl⟩
  | f + 1, v => by
    rw [eachL, eachL, List.find?_cons]
    cases hq : q v
    · simp [sameD, difD, hq]
    · simp only [Bool.true_and, Bool.not_true]
      cases hn : (nextV l v).2
      · simp [sameD, difD, hq]
      · simp only [if_pos]
        obtain ⟨h1, h2⟩ := each_q l q f (nextV l v).1
        rw [← h1, ← h2]
        generalize eachL l q f (nextV l v).1 = r
        refine ⟨?_, ?_⟩
        · unfold sameD
          cases r with
          | nil => simp [hq]
          | cons x r => rw [List.getLast?_cons_cons]
        · unfold difD
          rw [List.reverse_cons, List.find?_append]
          cases h : List.find? (fun v => !q v) r.reverse with
          | none => simp [hq]
          | some x => simp
structure EqI (l : List Var) (x y : Ex) (n B g c : Nat) (Av Ax Ay : Option Addr) (cv cx cy : Nat) (d : List (List Val)) (w : World) : Prop where
  bv : Blk w g 22 #[.slice Av l.length cv]
  bx : Blk w (g + 1) 28 #[.int .i64 x.op, .int .i64 x.v.kind, .int .i64 x.v.n, .string x.v.s, .string x.s, .slice Ax x.l.length cx]
  by_ : Blk w (g + 2) 28 #[.int .i64 y.op, .int .i64 y.v.kind, .int .i64 y.v.n, .string y.v.s, .string y.s, .slice Ay y.l.length cy]
  hv : SlX (Lt B) w (.slice Av l.length cv) l
  hx : IsEx n (Lt B) w (exV x (.slice Ax x.l.length cx)) x
  hy : IsEx n (Lt B) w (exV y (.slice Ay y.l.length cy)) y
  sm : Blk w c 4 #[.bool (sameD (likeB l x y) d)]
  df : ∃ fv, Blk w (c + 1) 23 #[fv] ∧ SlV (DT c (c + 1) w) w fv (difD (likeB l x y) d)
section
variable {l : List Var} {x y : Ex} {n B g c : Nat} {Av Ax Ay : Option Addr} {cv cx cy : Nat} {d d' : List (List Val)} {w w' : World}
theorem EqI.now (h : EqI l x y n B g c Av Ax Ay cv cx cy d w) (hBg : B ≤ g) (hb : Below w.heap.size w w') : EqI l x y n B g c Av Ax Ay cv cx cy d w' := by
  have hB : B ≤ w.heap.size := by have := h.bv.lt; omega
  obtain ⟨fv, h1, h2⟩ := h.df
  exact ⟨h.bv.now hb, h.bx.now hb, h.by_.now hb, Sl.below h.hv RVar.kept (hb.mono hB) (Nat.le_refl _), h.hx.below (hb.mono hB) (Nat.le_refl _), h.hy.below (hb.mono hB) (Nat.le_refl _), h.sm.now hb, fv, h1.now hb, Sl.keep h2 (fun _ _ _ _ _ _ _ _ h => h) (DT.up hb.size) (Two.of_below hb).same⟩
theorem EqI.put (h : EqI l x y n B g c Av Ax Ay cv cx cy d w) (hBg : B ≤ g) (hgc : g + 3 ≤ c) (hT : Two c (c + 1) w w')
    (hc : Blk w' c 4 #[.bool (sameD (likeB l x y) d')]) (hf : ∃ fv, Blk w' (c + 1) 23 #[fv] ∧ SlV (DT c (c + 1) w') w' fv (difD (likeB l x y) d')) : EqI l x y n B g c Av Ax Ay cv cx cy d' w' := by
  have hB : B ≤ w.heap.size := by have := h.bv.lt; omega
  have hb := hT.below hB (show B ≤ c by omega) (show B ≤ c + 1 by omega)
  exact ⟨(hT.block g h.bv.lt (by omega) (by omega)).trans h.bv, (hT.block (g + 1) h.bx.lt (by omega) (by omega)).trans h.bx, (hT.block (g + 2) h.by_.lt (by omega) (by omega)).trans h.by_, Sl.below h.hv RVar.kept hb (Nat.le_refl _), h.hx.below hb (Nat.le_refl _), h.hy.below hb (Nat.le_refl _), hc, hf⟩
end
set_option maxHeartbeats 4000000 in
set_option maxRecDepth 100000 in
theorem equiv1_any (l : List Var) (x y : Ex) (n B g c : Nat) (Av Ax Ay : Option Addr) (cv cx cy : Nat) (hok : okX x = true) (hty : (typX l x).2 = 0) (hok' : okX y = true) (hty' : (typX l y).2 = 0) (hBg : B ≤ g) (hgc : g + 3 ≤ c) (h8 : l.length ≤ 8) (d : List (List Val)) (v : List Val) (vv : Value) (w : World)
    (hI : EqI l x y n B g c Av Ax Ay cv cx cy d w) (hgood : Good l v) (hvv : SlV (DT c (c + 1) w) w vv v) :
    Calls Tryz.prog 66 #[vv, .pointer (some ⟨g, 0, none⟩), .pointer (some ⟨g + 1, 0, none⟩), .pointer (some ⟨g + 2, 0, none⟩), .pointer (some ⟨c, 0, none⟩), .pointer (some ⟨c + 1, 0, none⟩)] w
      fun e w' => e = .returned (.bool (likeB l x y v)) ∧ EqI l x y n B g c Av Ax Ay cv cx cy (d ++ [v]) w' ∧ Two c (c + 1) w w' := by
  have hBw : B ≤ w.heap.size := by have := hI.bv.lt; omega
  have hev := Lib.hid (eval_any n l v x w (.slice Av l.length cv) vv (exV x (.slice Ax x.l.length cx)) ⟨Sl.below hI.hv RVar.kept (Below.refl _ _) hBw, hvv.lt, hI.hx.below (Below.refl _ _) hBw, hok, hty, hgood.asg⟩)
  have HQ : Hid (likeB l x y v = decide (evX l v x = evX l v y)) := rfl
  have c0 := hI.bv.c1
  obtain ⟨q0, q1, q2, q3, q4, q5⟩ := hI.bx.c6
  go_enter Tryz.func66, Tryz.ntmps66
  go_wp2_with fail
  (with_reducible refine hev.out.mono ?_)
  rintro e w2 ⟨a, rfl, ha, hb2⟩
  have hI2 := hI.now hBg hb2
  have hT2 : Two c (c + 1) w w2 := Two.of_below hb2
  have hb3 := bone w2 (.cells #[.int .i64 a.kind, .int .i64 a.n, .string a.s] 25)
  have hA3 := Blk.new w2 25 #[.int .i64 a.kind, .int .i64 a.n, .string a.s]
  have hI3 := hI2.now hBg hb3
  have hT3 : Two c (c + 1) w _ := hT2.trans (Two.of_below hb3)
  have hvv3 : SlV (DT c (c + 1) _) _ vv v := Sl.keep hvv (fun _ _ _ _ _ _ _ _ h => h) (DT.up hT3.size) hT3.same
  have HA := Lib.hid ha
  clear c0 q0 q1 q2 q3 q4 q5 hev hT2 hI2 hb2 hvv hI ha
  go_upto_region 2 with fail
  generalize hw3 : w2.alloc (.cells #[.int .i64 a.kind, .int .i64 a.n, .string a.s] 25) = w3 at *
  clear hw3 hb3
  have hBw3 : B ≤ w3.heap.size := by have := hI3.bv.lt; omega
  have hev := Lib.hid (eval_any n l v y w3 (.slice Av l.length cv) vv (exV y (.slice Ay y.l.length cy)) ⟨Sl.below hI3.hv RVar.kept (Below.refl _ _) hBw3, hvv3.lt, hI3.hy.below (Below.refl _ _) hBw3, hok', hty', hgood.asg⟩)
  have c0 := hI3.bv.c1
  obtain ⟨q0, q1, q2, q3, q4, q5⟩ := hI3.by_.c6
  go_wp2_with fail
  (with_reducible refine hev.out.mono ?_)
  rintro e w4 ⟨b, rfl, hb, hb4⟩
  have hI4 := hI3.now hBg hb4
  have hT4 : Two c (c + 1) w w4 := hT3.trans (Two.of_below hb4)
  have hA4 := hA3.now hb4
  have hb5 := bone w4 (.cells #[.int .i64 b.kind, .int .i64 b.n, .string b.s] 25)
  have hB5 := Blk.new w4 25 #[.int .i64 b.kind, .int .i64 b.n, .string b.s]
  have hA5 := hA4.now hb5
  have hI5 := hI4.now hBg hb5
  have hT5 : Two c (c + 1) w _ := hT4.trans (Two.of_below hb5)
  have hvv5 : SlV (DT c (c + 1) _) _ vv v := Sl.keep (Sl.keep hvv3 (fun _ _ _ _ _ _ _ _ h => h) (DT.up hb4.size) (Two.of_below (g := c) (h := c + 1) hb4).same) (fun _ _ _ _ _ _ _ _ h => h) (DT.up hb5.size) (Two.of_below (g := c) (h := c + 1) hb5).same
  have HB := Lib.hid hb
  clear c0 q0 q1 q2 q3 q4 q5 hev hT4 hI4 hb4 hvv3 hI3 hb hA3 hA4 hT3
  go_upto_region 3 with fail
  generalize hw5 : w4.alloc (.cells #[.int .i64 b.kind, .int .i64 b.n, .string b.s] 25) = w5 at *
  clear hw5 hb5
  obtain ⟨a0, a1, a2⟩ := hA5.c3
  obtain ⟨b0, b1, b2⟩ := hB5.c3
  have sz0 := hI5.sm.c1
  have sz1 := hI5.sm.frozen 0
  have hne := fun W => run_eqV W a b
  cases hr1 : evX l v x with
  | none =>
    cases hr2 : evX l v y with
    | none =>
      have HZ : Hid (likeB l x y v = true) := by show _ = _; rw [HQ.out, hr1, hr2]; rfl
      clear hr1 hr2 hne
      go_upto_region 4 with fail
      have hCS : Blk (w5.setCell ⟨c, 0, none⟩ (.bool true)) c 4 #[.bool true] := hI5.sm.set_ 0 (.bool true)
      have hT6 : Two c (c + 1) w5 (w5.setCell ⟨c, 0, none⟩ (.bool true)) := (Two.refl _ _ _).set_g 0 _
      obtain ⟨fv, hF, hfv⟩ := hI5.df
      have hF6 := hF.far (p := ⟨c, 0, none⟩) (show c + 1 ≠ c by omega) (.bool true)
      have hfv6 : SlV (DT c (c + 1) _) _ fv _ := Sl.keep hfv (fun _ _ _ _ _ _ _ _ h => h) (DT.up hT6.size) hT6.same
      have hvv6 : SlV (DT c (c + 1) _) _ vv v := Sl.keep hvv5 (fun _ _ _ _ _ _ _ _ h => h) (DT.up hT6.size) hT6.same
      clear hF hfv sz0 sz1 a0 a1 a2 b0 b1 b2
      generalize hw6 : w5.setCell ⟨c, 0, none⟩ (.bool true) = w6 at *
      clear hw6
      have c6 := hCS.c1
      have hSD : Hid (sameD (likeB l x y) (d ++ [v]) = true) := by show _ = _; rw [sameD_snoc, HZ.out]
      have hDD : Hid (difD (likeB l x y) (d ++ [v]) = difD (likeB l x y) d) := by show _ = _; rw [difD_snoc, HZ.out, if_pos rfl]
      go_wp2_with fail
      go_ret
      exact ⟨by rw [HZ.out]; rfl, hI5.put hBg hgc hT6 (by rw [hSD.out]; exact hCS) (by rw [hDD.out]; exact ⟨_, hF6, hfv6⟩), hT5.trans hT6⟩
    | some b' =>
      have HZ : Hid (likeB l x y v = false) := by show _ = _; rw [HQ.out, hr1, hr2]; rfl
      clear hr1 hr2 hne
      go_upto_region 4 with fail
      have hCS : Blk (w5.setCell ⟨c, 0, none⟩ (.bool false)) c 4 #[.bool false] := hI5.sm.set_ 0 (.bool false)
      have hT6 : Two c (c + 1) w5 (w5.setCell ⟨c, 0, none⟩ (.bool false)) := (Two.refl _ _ _).set_g 0 _
      obtain ⟨fv, hF, hfv⟩ := hI5.df
      have hF6 := hF.far (p := ⟨c, 0, none⟩) (show c + 1 ≠ c by omega) (.bool false)
      have hfv6 : SlV (DT c (c + 1) _) _ fv _ := Sl.keep hfv (fun _ _ _ _ _ _ _ _ h => h) (DT.up hT6.size) hT6.same
      have hvv6 : SlV (DT c (c + 1) _) _ vv v := Sl.keep hvv5 (fun _ _ _ _ _ _ _ _ h => h) (DT.up hT6.size) hT6.same
      clear hF hfv sz0 sz1 a0 a1 a2 b0 b1 b2
      generalize hw6 : w5.setCell ⟨c, 0, none⟩ (.bool false) = w6 at *
      clear hw6
      have c6 := hCS.c1
      have hSD : Hid (sameD (likeB l x y) (d ++ [v]) = false) := by show _ = _; rw [sameD_snoc, HZ.out]
      have hDD : Hid (difD (likeB l x y) (d ++ [v]) = v) := by show _ = _; rw [difD_snoc, HZ.out, if_neg Bool.false_ne_true]
      have HCL := Lib.hid (cloneV vv v w6 hvv6.lt (by have := hgood.len; omega))
      go_wp2_with fail
      (with_reducible refine HCL.out.mono ?_)
      rintro e w7 ⟨ov, rfl, hown, hb7⟩
      have hov := hown.sl hvv6.fits
      obtain ⟨Ao, co, rfl, o1, o2, hov⟩ := hov.open_
      have hC7 := hCS.now hb7
      have hF7 := hF6.now hb7
      have hov7 := hov.two hC7 hF7
      have fz3 := hF7.frozen 0
      have d3 := hF7.c1
      have e3 := hC7.c1
      have hT8 : Two c (c + 1) w7 (w7.setCell ⟨c + 1, 0, none⟩ (.slice Ao v.length co)) := (Two.refl _ _ _).set_h 0 _
      have hCT := hC7.far (p := ⟨c + 1, 0, none⟩) (show c ≠ c + 1 by omega) (.slice Ao v.length co)
      have hFT : Blk _ (c + 1) 23 #[.slice Ao v.length co] := hF7.set_ 0 (.slice Ao v.length co)
      have hovT : SlV (DT c (c + 1) _) _ (.slice Ao v.length co) v := Sl.keep hov7 (fun _ _ _ _ _ _ _ _ h => h) (DT.up hT8.size) hT8.same
      have hTT := (hT6.trans (Two.of_below hb7)).trans hT8
      have c8 := hCT.c1
      clear c6 HCL
      go_wp2_with fail
      go_ret
      exact ⟨by rw [HZ.out]; rfl, hI5.put hBg hgc hTT (by rw [hSD.out]; exact hCT) (by rw [hDD.out]; exact ⟨_, hFT, hovT⟩), hT5.trans hTT⟩
  | some a' =>
    cases hr2 : evX l v y with
    | none =>
      have HZ : Hid (likeB l x y v = false) := by show _ = _; rw [HQ.out, hr1, hr2]; rfl
      clear hr1 hr2 hne
      go_upto_region 4 with fail
      have hCS : Blk (w5.setCell ⟨c, 0, none⟩ (.bool false)) c 4 #[.bool false] := hI5.sm.set_ 0 (.bool false)
      have hT6 : Two c (c + 1) w5 (w5.setCell ⟨c, 0, none⟩ (.bool false)) := (Two.refl _ _ _).set_g 0 _
      obtain ⟨fv, hF, hfv⟩ := hI5.df
      have hF6 := hF.far (p := ⟨c, 0, none⟩) (show c + 1 ≠ c by omega) (.bool false)
      have hfv6 : SlV (DT c (c + 1) _) _ fv _ := Sl.keep hfv (fun _ _ _ _ _ _ _ _ h => h) (DT.up hT6.size) hT6.same
      have hvv6 : SlV (DT c (c + 1) _) _ vv v := Sl.keep hvv5 (fun _ _ _ _ _ _ _ _ h => h) (DT.up hT6.size) hT6.same
      clear hF hfv sz0 sz1 a0 a1 a2 b0 b1 b2
      generalize hw6 : w5.setCell ⟨c, 0, none⟩ (.bool false) = w6 at *
      clear hw6
      have c6 := hCS.c1
      have hSD : Hid (sameD (likeB l x y) (d ++ [v]) = false) := by show _ = _; rw [sameD_snoc, HZ.out]
      have hDD : Hid (difD (likeB l x y) (d ++ [v]) = v) := by show _ = _; rw [difD_snoc, HZ.out, if_neg Bool.false_ne_true]
      have HCL := Lib.hid (cloneV vv v w6 hvv6.lt (by have := hgood.len; omega))
      go_wp2_with fail
      (with_reducible refine HCL.out.mono ?_)
      rintro e w7 ⟨ov, rfl, hown, hb7⟩
      have hov := hown.sl hvv6.fits
      obtain ⟨Ao, co, rfl, o1, o2, hov⟩ := hov.open_
      have hC7 := hCS.now hb7
      have hF7 := hF6.now hb7
      have hov7 := hov.two hC7 hF7
      have fz3 := hF7.frozen 0
      have d3 := hF7.c1
      have e3 := hC7.c1
      have hT8 : Two c (c + 1) w7 (w7.setCell ⟨c + 1, 0, none⟩ (.slice Ao v.length co)) := (Two.refl _ _ _).set_h 0 _
      have hCT := hC7.far (p := ⟨c + 1, 0, none⟩) (show c ≠ c + 1 by omega) (.slice Ao v.length co)
      have hFT : Blk _ (c + 1) 23 #[.slice Ao v.length co] := hF7.set_ 0 (.slice Ao v.length co)
      have hovT : SlV (DT c (c + 1) _) _ (.slice Ao v.length co) v := Sl.keep hov7 (fun _ _ _ _ _ _ _ _ h => h) (DT.up hT8.size) hT8.same
      have hTT := (hT6.trans (Two.of_below hb7)).trans hT8
      have c8 := hCT.c1
      clear c6 HCL
      go_wp2_with fail
      go_ret
      exact ⟨by rw [HZ.out]; rfl, hI5.put hBg hgc hTT (by rw [hSD.out]; exact hCT) (by rw [hDD.out]; exact ⟨_, hFT, hovT⟩), hT5.trans hTT⟩
    | some b' =>
      obtain rfl : a = a' := HA.out a' hr1
      obtain rfl : b = b' := HB.out b' hr2
      by_cases hab : a = b
      · have HZ : Hid (likeB l x y v = true) := by show _ = _; rw [HQ.out, hr1, hr2, hab]; exact decide_eq_true rfl
        rw [decide_eq_true hab] at hne
        clear hr1 hr2 hab
        go_upto_region 4 with fail
        have hCS : Blk (w5.setCell ⟨c, 0, none⟩ (.bool true)) c 4 #[.bool true] := hI5.sm.set_ 0 (.bool true)
        have hT6 : Two c (c + 1) w5 (w5.setCell ⟨c, 0, none⟩ (.bool true)) := (Two.refl _ _ _).set_g 0 _
        obtain ⟨fv, hF, hfv⟩ := hI5.df
        have hF6 := hF.far (p := ⟨c, 0, none⟩) (show c + 1 ≠ c by omega) (.bool true)
        have hfv6 : SlV (DT c (c + 1) _) _ fv _ := Sl.keep hfv (fun _ _ _ _ _ _ _ _ h => h) (DT.up hT6.size) hT6.same
        have hvv6 : SlV (DT c (c + 1) _) _ vv v := Sl.keep hvv5 (fun _ _ _ _ _ _ _ _ h => h) (DT.up hT6.size) hT6.same
        clear hF hfv sz0 sz1 a0 a1 a2 b0 b1 b2
        generalize hw6 : w5.setCell ⟨c, 0, none⟩ (.bool true) = w6 at *
        clear hw6
        have c6 := hCS.c1
        have hSD : Hid (sameD (likeB l x y) (d ++ [v]) = true) := by show _ = _; rw [sameD_snoc, HZ.out]
        have hDD : Hid (difD (likeB l x y) (d ++ [v]) = difD (likeB l x y) d) := by show _ = _; rw [difD_snoc, HZ.out, if_pos rfl]
        go_wp2_with fail
        go_ret
        exact ⟨by rw [HZ.out]; rfl, hI5.put hBg hgc hT6 (by rw [hSD.out]; exact hCS) (by rw [hDD.out]; exact ⟨_, hF6, hfv6⟩), hT5.trans hT6⟩
      · have HZ : Hid (likeB l x y v = false) := by show _ = _; rw [HQ.out, hr1, hr2]; exact decide_eq_false (fun e => hab (by injection e))
        rw [decide_eq_false hab] at hne
        clear hr1 hr2 hab
        go_upto_region 4 with fail
        have hCS : Blk (w5.setCell ⟨c, 0, none⟩ (.bool false)) c 4 #[.bool false] := hI5.sm.set_ 0 (.bool false)
        have hT6 : Two c (c + 1) w5 (w5.setCell ⟨c, 0, none⟩ (.bool false)) := (Two.refl _ _ _).set_g 0 _
        obtain ⟨fv, hF, hfv⟩ := hI5.df
        have hF6 := hF.far (p := ⟨c, 0, none⟩) (show c + 1 ≠ c by omega) (.bool false)
        have hfv6 : SlV (DT c (c + 1) _) _ fv _ := Sl.keep hfv (fun _ _ _ _ _ _ _ _ h => h) (DT.up hT6.size) hT6.same
        have hvv6 : SlV (DT c (c + 1) _) _ vv v := Sl.keep hvv5 (fun _ _ _ _ _ _ _ _ h => h) (DT.up hT6.size) hT6.same
        clear hF hfv sz0 sz1 a0 a1 a2 b0 b1 b2
        generalize hw6 : w5.setCell ⟨c, 0, none⟩ (.bool false) = w6 at *
        clear hw6
        have c6 := hCS.c1
        have hSD : Hid (sameD (likeB l x y) (d ++ [v]) = false) := by show _ = _; rw [sameD_snoc, HZ.out]
        have hDD : Hid (difD (likeB l x y) (d ++ [v]) = v) := by show _ = _; rw [difD_snoc, HZ.out, if_neg Bool.false_ne_true]
        have HCL := Lib.hid (cloneV vv v w6 hvv6.lt (by have := hgood.len; omega))
        go_wp2_with fail
        (with_reducible refine HCL.out.mono ?_)
        rintro e w7 ⟨ov, rfl, hown, hb7⟩
        have hov := hown.sl hvv6.fits
        obtain ⟨Ao, co, rfl, o1, o2, hov⟩ := hov.open_
        have hC7 := hCS.now hb7
        have hF7 := hF6.now hb7
        have hov7 := hov.two hC7 hF7
        have fz3 := hF7.frozen 0
        have d3 := hF7.c1
        have e3 := hC7.c1
        have hT8 : Two c (c + 1) w7 (w7.setCell ⟨c + 1, 0, none⟩ (.slice Ao v.length co)) := (Two.refl _ _ _).set_h 0 _
        have hCT := hC7.far (p := ⟨c + 1, 0, none⟩) (show c ≠ c + 1 by omega) (.slice Ao v.length co)
        have hFT : Blk _ (c + 1) 23 #[.slice Ao v.length co] := hF7.set_ 0 (.slice Ao v.length co)
        have hovT : SlV (DT c (c + 1) _) _ (.slice Ao v.length co) v := Sl.keep hov7 (fun _ _ _ _ _ _ _ _ h => h) (DT.up hT8.size) hT8.same
        have hTT := (hT6.trans (Two.of_below hb7)).trans hT8
        have c8 := hCT.c1
        clear c6 HCL
        go_wp2_with fail
        go_ret
        exact ⟨by rw [HZ.out]; rfl, hI5.put hBg hgc hTT (by rw [hSD.out]; exact hCT) (by rw [hDD.out]; exact ⟨_, hFT, hovT⟩), hT5.trans hTT⟩
end Go.Proofs.YtijmnenojbfdnaaGreatDoor

namespace Go.Proofs.YtijmnenojbfdnaaGreatDoor
open Go.RowKit
def RetBVE (r : Bool × List Val × Int) (w : World) (e : Ending) (w' : World) : Prop := ∃ v, e = .returned (.tuple #[.bool r.1, v, .int .i64 r.2.2]) ∧ SlV (Lt w'.heap.size) w' v r.2.1 ∧ Below w.heap.size w w'
theorem RetBVE.none_ {r : Bool × List Val × Int} {w w' : World} {e : Int} (h : r = (false, [], e)) (hb : Below w.heap.size w w') : RetBVE r w (.returned (.tuple #[.bool false, .slice none 0 0, .int .i64 e])) w' := by
  subst h; exact ⟨_, rfl, Sl.none_, hb⟩
set_option maxHeartbeats 4000000 in
set_option maxRecDepth 100000 in
theorem equiv_any (n : Nat) (l : List Var) (x y : Ex) (uv u u' : Value) (w : World) (hvs : SlX (Lt w.heap.size) w uv l) (hx : IsEx n (Lt w.heap.size) w u x) (hy : IsEx n (Lt w.heap.size) w u' y) (hl : l.length ≤ 1000000) :
    Calls Tryz.prog 27 #[uv, u, u'] w (RetBVE (equivE l x y) w) := by
  have hxx := hx
  have hyy := hy
  obtain ⟨Av, cv, rfl, v1, v2, hvs⟩ := hvs.open_
  obtain ⟨lv, rfl, _, Ax, cx, rfl⟩ := hx.cells
  obtain ⟨lw, rfl, _, Ay, cy, rfl⟩ := hy.cells
  have hb := bbox (bbox (bone w (.cells #[.slice Av l.length cv] 22)) (.cells #[.int .i64 x.op, .int .i64 x.v.kind, .int .i64 x.v.n, .string x.v.s, .string x.s, .slice Ax x.l.length cx] 28)) (.cells #[.int .i64 y.op, .int .i64 y.v.kind, .int .i64 y.v.n, .string y.v.s, .string y.s, .slice Ay y.l.length cy] 28)
  have hBv := ((Blk.new w 22 #[.slice Av l.length cv]).alloc (.cells #[.int .i64 x.op, .int .i64 x.v.kind, .int .i64 x.v.n, .string x.v.s, .string x.s, .slice Ax x.l.length cx] 28)).alloc (.cells #[.int .i64 y.op, .int .i64 y.v.kind, .int .i64 y.v.n, .string y.v.s, .string y.s, .slice Ay y.l.length cy] 28)
  have hBx := (Blk.new_at (t := 28) (cs := #[.int .i64 x.op, .int .i64 x.v.kind, .int .i64 x.v.n, .string x.v.s, .string x.s, .slice Ax x.l.length cx]) (w := w.alloc (.cells #[.slice Av l.length cv] 22)) (s := w.heap.size + 1) (World.size_alloc _ _)).alloc (.cells #[.int .i64 y.op, .int .i64 y.v.kind, .int .i64 y.v.n, .string y.v.s, .string y.s, .slice Ay y.l.length cy] 28)
  have hBy := Blk.new_at (t := 28) (cs := #[.int .i64 y.op, .int .i64 y.v.kind, .int .i64 y.v.n, .string y.v.s, .string y.s, .slice Ay y.l.length cy]) (w := (w.alloc (.cells #[.slice Av l.length cv] 22)).alloc (.cells #[.int .i64 x.op, .int .i64 x.v.kind, .int .i64 x.v.n, .string x.v.s, .string x.s, .slice Ax x.l.length cx] 28)) (s := w.heap.size + 2) (by rw [World.size_alloc, World.size_alloc])
  have hx1 := hxx.now hb
  have hy1 := hyy.now hb
  have hv1 := hvs.now hb
  have HVY := Lib.hid (validX_any n y _ _ hy1)
  have HE : Hid (equivE l x y = if validX y = false then (false, [], 1) else if (givenE l x).2 ≠ 0 then (false, [], (givenE l x).2) else if (givenE l y).2 ≠ 0 then (false, [], (givenE l y).2) else if (givenE l x).1 ≠ (givenE l y).1 then (false, [], 11) else if plentyB l then (false, [], 13) else (((asgL l).find? fun v => !likeB l x y v).isNone, ((asgL l).find? fun v => !likeB l x y v).getD [], 0)) := rfl
  have HGX := Lib.hid (fun h => given_ok (vs := l) (x := x) h)
  have HGY := Lib.hid (fun h => given_ok (vs := l) (x := y) h)
  have HVS := Lib.hid hvs
  have HXX := Lib.hid hxx
  have HYY := Lib.hid hyy
  clear hx hy hvs hxx hyy
  go_enter Tryz.func27, Tryz.ntmps27
  go_upto_region 1 with fail
  generalize hww : ((w.alloc (.cells #[.slice Av l.length cv] 22)).alloc (.cells #[.int .i64 x.op, .int .i64 x.v.kind, .int .i64 x.v.n, .string x.v.s, .string x.s, .slice Ax x.l.length cx] 28)).alloc (.cells #[.int .i64 y.op, .int .i64 y.v.kind, .int .i64 y.v.n, .string y.v.s, .string y.s, .slice Ay y.l.length cy] 28) = w1 at *
  clear hww
  have b0 := hBv.c1
  obtain ⟨q0, q1, q2, q3, q4, q5⟩ := hBx.c6
  obtain ⟨r0, r1, r2, r3, r4, r5⟩ := hBy.c6
  go_wp2_with fail
  (with_reducible refine HVY.out.mono ?_)
  rintro e w2 ⟨rfl, hb2⟩
  have hbw2 := bthen hb hb2
  have hv2 := hv1.now hb2
  have hx2 := hx1.now hb2
  have hy2 := hy1.now hb2
  have hBv2 := hBv.now hb2
  have hBx2 := hBx.now hb2
  have hBy2 := hBy.now hb2
  clear HVY b0 q0 q1 q2 q3 q4 q5 r0 r1 r2 r3 r4 r5 hBv hBx hBy hv1 hx1 hy1 hb hb2
  have b0 := hBv2.c1
  obtain ⟨q0, q1, q2, q3, q4, q5⟩ := hBx2.c6
  cases hvy : validX y
  · have HR : Hid (equivE l x y = (false, [], 1)) := by show _ = _; rw [HE.out, if_pos hvy]
    go_wp2_with fail
    go_ret3
    exact RetBVE.none_ HR.out hbw2
  have HVY := Lib.hid hvy
  clear hvy
  have HG := Lib.hid (given_any n l x _ _ _ hv2 hx2 hl)
  go_wp2_with fail
  (with_reducible refine HG.out.mono ?_)
  rintro e w3 ⟨rfl, hfit, hb3⟩
  have hbw3 := bthen hbw2 hb3
  have hv3 := hv2.now hb3
  have hy3 := hy2.now hb3
  have hBv3 := hBv2.now hb3
  have hBx3 := hBx2.now hb3
  have hBy3 := hBy2.now hb3
  clear HG b0 q0 q1 q2 q3 q4 q5 hBv2 hBx2 hBy2 hv2 hx2 hy2 hbw2 hb3
  have b0 := hBv3.c1
  obtain ⟨r0, r1, r2, r3, r4, r5⟩ := hBy3.c6
  by_cases hg : (givenE l x).2 = 0
  rotate_left
  · have HR : Hid (equivE l x y = (false, [], (givenE l x).2)) := by show _ = _; rw [HE.out, if_neg (by rw [HVY.out]; simp), if_pos hg]
    have hk' : ((givenE l x).2 != 0) = true := by simpa using hg
    clear hg HE
    generalize (givenE l x).2 = ge at *
    generalize (givenE l x).1 = gk at *
    go_wp2_with fail
    go_ret3
    exact RetBVE.none_ HR.out hbw3
  have HG0 := Lib.hid hg
  rw [hg]
  clear hg
  have HG := Lib.hid (given_any n l y _ _ _ hv3 hy3 hl)
  have HKX : Hid (∃ k, k = (givenE l x).1) := ⟨_, rfl⟩
  obtain ⟨kx, hkx⟩ := HKX.out
  rw [← hkx] at hfit ⊢
  have HKX := Lib.hid hkx
  clear hkx
  go_wp2_with fail
  (with_reducible refine HG.out.mono ?_)
  rintro e w4 ⟨rfl, hfit', hb4⟩
  have hbw4 := bthen hbw3 hb4
  have hv4 := hv3.now hb4
  have hBv4 := hBv3.now hb4
  have hBx4 := hBx3.now hb4
  have hBy4 := hBy3.now hb4
  clear HG b0 r0 r1 r2 r3 r4 r5 hBv3 hBx3 hBy3 hv3 hy3 hbw3 hb4
  have b0 := hBv4.c1
  by_cases hg : (givenE l y).2 = 0
  rotate_left
  · have HR : Hid (equivE l x y = (false, [], (givenE l y).2)) := by show _ = _; rw [HE.out, if_neg (by rw [HVY.out]; simp), if_neg (by rw [HG0.out]; simp), if_pos hg]
    have hk' : ((givenE l y).2 != 0) = true := by simpa using hg
    clear hg HE
    generalize (givenE l y).2 = ge at *
    generalize (givenE l y).1 = gk at *
    go_wp2_with fail
    go_ret3
    exact RetBVE.none_ HR.out hbw4
  have HG1 := Lib.hid hg
  rw [hg]
  clear hg
  have HKY : Hid (∃ k, k = (givenE l y).1) := ⟨_, rfl⟩
  obtain ⟨ky, hky⟩ := HKY.out
  rw [← hky] at hfit' ⊢
  have HKY := Lib.hid hky
  clear hky
  by_cases hkk : kx = ky
  rotate_left
  · have HR : Hid (equivE l x y = (false, [], 11)) := by show _ = _; rw [HE.out, if_neg (by rw [HVY.out]; simp), if_neg (by rw [HG0.out]; simp), if_neg (by rw [HG1.out]; simp), ← HKX.out, ← HKY.out, if_pos hkk]
    have hk' : (kx != ky) = true := by simpa using hkk
    clear hkk
    go_wp2_with fail
    go_ret3
    exact RetBVE.none_ HR.out hbw4
  subst hkk
  have hk' : (kx != kx) = false := by simp
  obtain ⟨hvx, hvv, hty⟩ := HGX.out HG0.out
  obtain ⟨hvy, _, hty'⟩ := HGY.out HG1.out
  have HPL := Lib.hid (plenty_any l _ w4 hv4 hvv)
  have HVV := Lib.hid hvv
  have h8 := vars_len hvv
  have H1 := Lib.hid (And.intro (valid_ok hvx) (And.intro hty (And.intro (valid_ok hvy) hty')))
  clear hvv hvx hty hvy hty'
  go_wp2_with fail
  (with_reducible refine HPL.out.mono ?_)
  rintro e w5 ⟨rfl, hb5⟩
  have hbw5 := bthen hbw4 hb5
  have hBv5 := hBv4.now hb5
  have hBx5 := hBx4.now hb5
  have hBy5 := hBy4.now hb5
  clear HPL b0 hBv4 hBx4 hBy4 hv4 hbw4 hb5
  have b0 := hBv5.c1
  cases hpl : plentyB l
  rotate_left
  · have HR : Hid (equivE l x y = (false, [], 13)) := by show _ = _; rw [HE.out, if_neg (by rw [HVY.out]; simp), if_neg (by rw [HG0.out]; simp), if_neg (by rw [HG1.out]; simp), if_neg (by rw [← HKX.out, ← HKY.out]; simp), hpl, if_pos rfl]
    go_wp2_with fail
    go_ret3
    exact RetBVE.none_ HR.out hbw5
  have HR : Hid (equivE l x y = (((asgL l).find? fun v => !likeB l x y v).isNone, ((asgL l).find? fun v => !likeB l x y v).getD [], 0)) := by show _ = _; rw [HE.out, if_neg (by rw [HVY.out]; simp), if_neg (by rw [HG0.out]; simp), if_neg (by rw [HG1.out]; simp), if_neg (by rw [← HKX.out, ← HKY.out]; simp), hpl, if_neg Bool.false_ne_true]
  clear hpl HE
  have hb6 := bbox (bone w5 (.cells #[.bool true] 4)) (.cells #[.slice none 0 0] 23)
  have hC6 := (Blk.new w5 4 #[.bool true]).alloc (.cells #[.slice none 0 0] 23)
  have hF6 := Blk.new_at (t := 23) (cs := #[.slice none 0 0]) (w := w5.alloc (.cells #[.bool true] 4)) (s := w5.heap.size + 1) (World.size_alloc _ _)
  go_upto_region 15 with fail
  generalize hw6 : (w5.alloc (.cells #[.bool true] 4)).alloc (.cells #[.slice none 0 0] 23) = w6 at *
  clear hw6
  have hBv6 := hBv5.now hb6
  have hBx6 := hBx5.now hb6
  have hBy6 := hBy5.now hb6
  have hbw6 := bthen hbw5 hb6
  have hg3 : w.heap.size + 3 ≤ w5.heap.size := hBy5.lt
  have hg4 : w5.heap.size + 2 ≤ w6.heap.size := hF6.lt
  have hI : EqI l x y n w.heap.size w.heap.size w5.heap.size Av Ax Ay cv cx cy [] w6 :=
    ⟨hBv6, hBx6, hBy6, Sl.below HVS.out RVar.kept hbw6 (Nat.le_refl _), HXX.out.below hbw6 (Nat.le_refl _), HYY.out.below hbw6 (Nat.le_refl _), hC6, _, hF6, Sl.none_⟩
  have hVis : Visits l 66 #[.pointer (some ⟨w.heap.size, 0, none⟩), .pointer (some ⟨w.heap.size + 1, 0, none⟩), .pointer (some ⟨w.heap.size + 2, 0, none⟩), .pointer (some ⟨w5.heap.size, 0, none⟩), .pointer (some ⟨w5.heap.size + 1, 0, none⟩)] w5.heap.size (w5.heap.size + 1) (likeB l x y) (EqI l x y n w.heap.size w.heap.size w5.heap.size Av Ax Ay cv cx cy) :=
    ⟨fun z w => enters_of Tryz.func66 (by kernel_rfl) rfl _ w, fun d W W' h hb => h.now (Nat.le_refl _) hb, fun d W h => ⟨⟨_, _, h.sm⟩, by obtain ⟨fv, h1, _⟩ := h.df; exact ⟨_, _, h1⟩⟩,
      fun d v vv W h hd hg hs => equiv1_any l x y n w.heap.size w.heap.size w5.heap.size Av Ax Ay cv cx cy H1.out.1 H1.out.2.1 H1.out.2.2.1 H1.out.2.2.2 (Nat.le_refl _) hg3 h8 d v vv W h hg hs⟩
  have HEC := Lib.hid (each_any l _ _ _ _ _ _ hVis (.slice Av l.length cv) w6 w.heap.size HVV.out hbw6.size (by omega) (by omega) hI.hv hI)
  have HR2 : Hid (equivE l x y = (sameD (likeB l x y) (eachL l (likeB l x y) (prodL l) (firstV l)), difD (likeB l x y) (eachL l (likeB l x y) (prodL l) (firstV l)), 0)) := by
    show _ = _
    have h := each_q l (likeB l x y) (prodL l) (firstV l)
    rw [HR.out]
    exact Prod.ext h.1.symm (Prod.ext h.2.symm rfl)
  have b4 := hBv6.c1
  have c4 := hC6.c1
  have d4 := hF6.c1
  clear hVis hI b0 hBv5 hBx5 hBy5
  go_wp2_with fail
  (with_reducible refine HEC.out.mono ?_)
  rintro e w7 ⟨rfl, hI7, hT7⟩
  obtain ⟨fv, hF7, hfv7⟩ := hI7.df
  have hfl := hfv7.lt
  obtain ⟨Af, cf, rfl, _, _, hfl⟩ := hfl.open_
  have e5 := hI7.sm.c1
  have e6 := hF7.c1
  have hbw7 : Below w.heap.size w w7 := hbw6.trans (hT7.below hbw6.size (by omega) (by omega))
  clear b4 c4 d4 HEC hBv6 hBx6 hBy6
  go_wp2_with fail
  go_quiet (fail)
  go_wp2_with fail
  go_ret3
  rw [HR2.out]
  exact ⟨_, rfl, hfl, bdrawn hbw7 _⟩
end Go.Proofs.YtijmnenojbfdnaaGreatDoor

namespace Go.Proofs.YtijmnenojbfdnaaGreatDoor
open Go.RowKit
set_option maxHeartbeats 2000000 in
set_option maxRecDepth 100000 in
theorem next_ref (l : List Var) (vs : List Val) (u v : Value) (w3 : World) (h : SlX (Lt w3.heap.size) w3 u l) (hv : SlV (Lt w3.heap.size) w3 v vs) (hvs : varsB l = true) (hvv : ∀ v ∈ vs, validV v = true) (ha : assignedB l vs = true) :
    Calls Tryz.prog 65 #[u, v] w3 (RetVB (nextV l vs).1 (nextV l vs).2 w3) := by
  have hit := vars_items h
  have HIT := Lib.hid hit
  have HFV := Lib.hid hv.fits
  clear hit
  obtain ⟨A, c, rfl, h1, h2, ht⟩ := h.open_
  obtain ⟨Av, cv, rfl, h1v, h2v, htv⟩ := hv.open_
  clear h hv
  have HV := Lib.hid hvs
  have HVV := Lib.hid hvv
  have HA := Lib.hid ha
  have h8 := vars_len hvs
  have hlen := (assigned_at ha).1
  clear hvs hvv ha
  rw [hlen] at htv h1v
  rw [hlen]
  have HL := Lib.hid hlen
  clear hlen
  have hb := bone w3 (.cells #[] 25)
  have htb := htv.now hb
  have hll : ([] : List Val).length + vs.length < 10000000 := by have := HL.out; simp; omega
  go_enter Tryz.func65, Tryz.ntmps65
  go_wp2_with (at_builtin; refine wpList_appendAllW (fc := cellsV) (R := RVal) appVals rfl (.tmp 9) (.tmp 10) rfl _ cellsV_len [] _ rfl (World.ownsRow_lit (base := w3.heap.size) (e := 25) (size := 3) w3 #[] 0 (Nat.le_refl _) (by unfold maxLen; omega) rfl) _ vs rfl htb (fun y c h => h.1) cellsV_one hll (by simp) ?_; intro ov w4 hown hgr hat)
  have hb4 : Below w3.heap.size w3 w4 := hb.trans (below_of_grown hgr (by simp) (fun g hg => by injection hg with hg; exact Nat.le_of_eq hg))
  have ht4 := ht.now hb4
  have htv4 := htv.now hb4
  rw [List.nil_append] at hown
  clear hgr hat
  go_loopw [7] (fun i wr => ∃ (k : Nat) (cur : List Val), k ≤ l.length ∧ i = .int .i64 ((k : Int) - 1) ∧ OwnV wr w3.heap.size ov cur ∧ cur.length = l.length ∧ (∀ x ∈ cur, FitV x) ∧ nextFrom l vs k cur = nextV l vs ∧ Below w3.heap.size w3 wr) (fun i _ => (intOf i + 1).toNat)
  case atStart => exact ⟨l.length, vs, Nat.le_refl _, rfl, hown, HL.out, HFV.out, rfl, hb4⟩
  case round =>
    obtain ⟨k, cur, hk, rfl, hcur, hcl, hcf, hnx, hbr⟩ := hrel
    have HN := Lib.hid hnx
    have HCF := Lib.hid hcf
    clear hnx hcf
    have hbwr : Below w3.heap.size w3 wr := hbr
    cases k with
    | zero =>
      have HN0 : Hid (nextV l vs = ([], false)) := by rw [← HN.out]; exact (rfl : _ = _)
      go_wp2_with fail
      go_ret2
      rw [HN0.out]
      exact ⟨_, rfl, Sl.none_, hbwr⟩
    | succ j =>
      rw [show ((j + 1 : Nat) : Int) - 1 = (j : Int) by omega]
      obtain ⟨g, cap, hov, hgc, hgb, hgl⟩ := OwnW.form hcur (by omega)
      rw [hcl] at hov hgc
      subst hov
      obtain ⟨b, o, x, iv, rfl, hD, hx, hvar, hiv, c0, c1, c2, c3, c4⟩ := (ht.now hbwr).at_ (k := j) (by omega)
      obtain ⟨bv, ovv, y, rfl, hDv, hy, hfy, d0, d1, d2⟩ := (htv.now hbwr).at_ (k := j) (by omega)
      have HX := Lib.hid hx
      have HY := Lib.hid hy
      have hvx := vars_each HV.out hx
      have htm := tame_of hvx
      have hz1 : x.kind = 1 → x.low = 0 := fun h => low_zero hvx (by omega)
      have hpl := (assigned_at HA.out).2 j x y (by omega) hx hy
      have hpb := place_lt htm (HVV.out y (List.mem_of_getElem? hy))
      have hsz := sizeV_le htm
      have hs1 := size_pos htm
      have hitx := HIT.out x (List.mem_of_getElem? hx)
      have HFN := Lib.hid (fun (i : Nat) (hi : (i : Int) < sizeV x) => fit_nth htm hi hitx)
      clear hx hy hitx
      have HC := Lib.hid (rank_ref x y _ wr.drew (hvar.now (Below.refl _ _).drew) htm hfy)
      unfold valV at HC
      have i1 : (0 : Int) ≤ j := by omega
      have i3 : (j : Int) < (l.length : Int) := by omega
      have i4 : (j : Int) < (cur.length : Int) := by omega
      obtain ⟨zn, hzn⟩ := Int.eq_ofNat_of_zero_le hpl
      have HZ := Lib.hid hzn
      rw [hzn] at HC hpb
      clear hpl hzn
      have HSZ := Lib.hid (rfl : sizeV x = sizeV x)
      go_wp2_with fail
      go_region_with (go_at_call 86; refine HC.out.mono ?_; rintro e w5 ⟨rfl, hb5⟩)
      all_goals
        have hb5' : Below wr.heap.size wr w5 := below_drew_left hb5
        obtain ⟨e0, e1, e2, e3, e4⟩ := carry5 hb5' hD c0 c1 c2 c3 c4
        have hvar5 := hvar.now hb5'
        have hcur5 := hcur.now hb5'
        clear c0 c1 c2 c3 c4 d0 d1 d2
        go_wp2_with fail
        refine (size_ref x _ _ hvar5 htm).mono ?_
        rintro e w6 ⟨rfl, hb6⟩
        have hb56 := bthen hb5' hb6
        obtain ⟨r0, r1, r2, r3, r4⟩ := carry5 hb6 (Nat.lt_of_lt_of_le hD hb5'.size) e0 e1 e2 e3 e4
        clear e0 e1 e2 e3 e4
        have hvar6 := hvar5.now hb6
        have hcur6 := hcur5.now hb6
        have HN1 := Lib.hid (fun (n : Nat) (hn : (n : Int) < sizeV x) => nth_ref x n _ w6 hvar6 htm hz1 hn)
        have HN0 := HN1.out 0 (by omega)
        clear hz1
        generalize hsx : sizeV x = sx at *
        have HSX := Lib.hid hsx
        clear hsx
        by_cases hz : (zn : Int) + 1 < sx
        · have HS := Lib.hid (nextFrom_yes (out := cur) HX.out HY.out (by rw [HZ.out, HSX.out]; exact hz))
          have hcall := HN1.out (zn + 1) (by omega)
          have hfn := HFN.out (zn + 1) (by omega)
          rw [show ((zn + 1 : Nat) : Int) = (zn : Int) + 1 by omega] at hcall hfn
          rw [HZ.out] at HS
          generalize nthV x ((zn : Int) + 1) = nv at *
          unfold valV at hcall
          have HCL := Lib.hid hcall
          clear HN1 HN0 hcall
          go_wp2_with fail
          refine HCL.out.mono ?_
          rintro e w7 ⟨rfl, hb7⟩
          have hcur7 : OwnV w7 w3.heap.size (.slice (some ⟨g, 0, none⟩) cur.length cap) cur := by rw [hcl]; exact hcur6.now hb7
          obtain ⟨cx, f0, f1, f2, z0, z1, z2⟩ := OwnV.cells hcur7 (k := j) (by omega)
          go_wp2_with fail
          go_ret2
          rw [← HN.out, HS.out]
          have hb37 : Below w3.heap.size w3 w7 := hbr.trans ((bthen hb56 hb7).mono hbr.size)
          refine ⟨.slice (some ⟨g, 0, none⟩) l.length cap, rfl, ?_, bput3 hb37 hgb _ _ _ _ _ _⟩
          have := (OwnV.set_ hcur7 (k := j) (by omega) nv).sl (fits_set HCF.out j hfn)
          rw [hcl] at this
          exact this
        · have HS := Lib.hid (nextFrom_no (out := cur) HX.out HY.out (by rw [HZ.out, HSX.out]; exact hz))
          have hfn := HFN.out 0 (by omega)
          rw [show ((0 : Nat) : Int) = 0 from rfl] at HN0 hfn
          generalize nthV x 0 = nv at *
          unfold valV at HN0
          have HCL := Lib.hid HN0
          clear HN1 HN0
          go_wp2_with fail
          refine HCL.out.mono ?_
          rintro e w7 ⟨rfl, hb7⟩
          have hcur7 : OwnV w7 w3.heap.size (.slice (some ⟨g, 0, none⟩) cur.length cap) cur := by rw [hcl]; exact hcur6.now hb7
          obtain ⟨cx, f0, f1, f2, z0, z1, z2⟩ := OwnV.cells hcur7 (k := j) (by omega)
          go_wp2_with fail
          have hb37 : Below w3.heap.size w3 w7 := hbr.trans ((bthen hb56 hb7).mono hbr.size)
          go_roundw
          case rel =>
            refine ⟨j, cur.set j nv, by omega, rfl, ?_, by rw [List.length_set]; exact hcl, fits_set HCF.out j hfn, by rw [← HS.out]; exact HN.out, bput3 hb37 hgb _ _ _ _ _ _⟩
            have := OwnV.set_ hcur7 (k := j) (by omega) nv
            rw [hcl] at this
            exact this
          case measure => simp [intOf]
end Go.Proofs.YtijmnenojbfdnaaGreatDoor
