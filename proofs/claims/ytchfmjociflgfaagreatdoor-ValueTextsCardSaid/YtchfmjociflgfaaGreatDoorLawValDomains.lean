/- ValueDomains: the walk. -/
import Derived.Test.YtchfmjociflgfaaGreatDoorLawValForms
namespace Go.Proofs.YtchfmjociflgfaaGreatDoor
open Go.RowKit

/-- A list of one variable, laid in a block. -/
theorem slOneX (w : World) (x : Var) (A : Option Addr) (c : Nat) (h : IsVar (Lt w.heap.size) w (.agg #[.string x.name, .int .i64 x.kind, .int .i64 x.low, .int .i64 x.high, .slice A x.items.length c]) x) : SlX (Lt (w.alloc (.cells #[.string x.name, .int .i64 x.kind, .int .i64 x.low, .int .i64 x.high, .slice A x.items.length c] 29)).heap.size) (w.alloc (.cells #[.string x.name, .int .i64 x.kind, .int .i64 x.low, .int .i64 x.high, .slice A x.items.length c] 29)) (.slice (some ⟨w.heap.size, 0, none⟩) 1 1) [x] := by
  have h2 := h.now (bone w (.cells #[.string x.name, .int .i64 x.kind, .int .i64 x.low, .int .i64 x.high, .slice A x.items.length c] 29))
  obtain ⟨iv, e, a1, a2, a3, a4, hi⟩ := h2
  injection e with e
  have e' := congrArg Array.toList e
  injection e' with _ e'; injection e' with _ e'; injection e' with _ e'; injection e' with _ e'; injection e' with e' _
  subst e'
  refine Sl.ofBlk (xs := [x]) (size := 5) (cs := [.string x.name, .int .i64 x.kind, .int .i64 x.low, .int .i64 x.high, .slice A x.items.length c]) (Blk.new w 29 _) (by unfold maxLen; simp) ?_
  intro i y hy
  match i, hy with
  | 0, hy =>
    injection hy with hy; subst hy
    exact ⟨_, rfl, fun j u hu => by simpa using hu, _, rfl, a1, a2, a3, a4, hi⟩
  | i + 1, hy => simp at hy
theorem slOne_at {w : World} {s : Nat} (v : Val) (hf : FitV v) (hs : w.heap.size = s) : SlV (Lt (w.alloc (.cells #[.int .i64 v.kind, .int .i64 v.n, .string v.s] 23)).heap.size) (w.alloc (.cells #[.int .i64 v.kind, .int .i64 v.n, .string v.s] 23)) (.slice (some ⟨s, 0, none⟩) 1 1) [v] := by
  subst hs
  exact slOne w v hf
theorem noV_cells : valV noV = .agg #[.int .i64 0, .int .i64 0, .string ⟨#[]⟩] := rfl

set_option maxHeartbeats 8000000 in
set_option maxRecDepth 100000 in
theorem valueDomains_law (x : Var) (v : Val) (i : Int) (xv : Value) (w : World) (hx : IsVar (Lt w.heap.size) w xv x) (hf : FitV v) (ha : Amb w) :
    Calls Tryz.prog 6 #[xv, valV v, .int .i64 i] w fun e w' => e = .returned (.bool true) ∧ Below w.heap.size w w' := by
  have hx0 := hx
  obtain ⟨iv, rfl, hnm, f1, f2, f3, hit⟩ := hx
  obtain ⟨A, c, rfl, i1, i2, hit⟩ := hit.open_
  have hb0 := bone w (.cells #[.string x.name, .int .i64 x.kind, .int .i64 x.low, .int .i64 x.high, .slice A x.items.length c] 29)
  have hb := bbox hb0 (.cells #[.int .i64 v.kind, .int .i64 v.n, .string v.s] 23)
  have hB := (Blk.new w 29 #[.string x.name, .int .i64 x.kind, .int .i64 x.low, .int .i64 x.high, .slice A x.items.length c]).alloc (.cells #[.int .i64 v.kind, .int .i64 v.n, .string v.s] 23)
  have hC := Blk.new_at (t := 23) (cs := #[.int .i64 v.kind, .int .i64 v.n, .string v.s]) (w := w.alloc (.cells #[.string x.name, .int .i64 x.kind, .int .i64 x.low, .int .i64 x.high, .slice A x.items.length c] 29)) (s := w.heap.size + 1) (by simp)
  unfold valV
  go_enter Tryz.func6, Tryz.ntmps6
  go_wp2_with fail
  refine (awake_any _ (ha.now hb)).mono ?_
  rintro e w1 ⟨rfl, hb1⟩
  have hbw1 := bthen hb hb1
  have hB1 := hB.now hb1
  have hC1 := hC.now hb1
  have hx1 := hx0.now hbw1
  obtain ⟨q0, q1, q2, q3, q4⟩ := hB1.c5
  obtain ⟨y0, y1, y2⟩ := hC1.c3
  have hb20 := bone w1 (.cells #[.string x.name, .int .i64 x.kind, .int .i64 x.low, .int .i64 x.high, .slice A x.items.length c] 29)
  have hb21 := bone (w1.alloc (.cells #[.string x.name, .int .i64 x.kind, .int .i64 x.low, .int .i64 x.high, .slice A x.items.length c] 29)) (.cells #[.int .i64 v.kind, .int .i64 v.n, .string v.s] 23)
  have hs2 := (slOneX w1 x A c hx1).now hb21
  have hs3 := slOne_at (w := w1.alloc (.cells #[.string x.name, .int .i64 x.kind, .int .i64 x.low, .int .i64 x.high, .slice A x.items.length c] 29)) (s := w1.heap.size + 1) v hf (by simp)
  have hb2 := bthen hb20 hb21
  have hbw2 := bthen hbw1 hb2
  have l1 := hB1.lt
  have l2 := hC1.lt
  go_wp2_with fail
  refine (long_any [x] [v] _ _ _ hs2 hs3).mono ?_
  rintro e w3 ⟨q, rfl, hq, hb3⟩
  clear hq
  have hbw3 := bthen hbw2 hb3
  have hB3 := (hB1.now hb2).now hb3
  have hC3 := (hC1.now hb2).now hb3
  clear q0 q1 q2 q3 q4 y0 y1 y2 hs2 hs3 hb20 hb21 hb2 hb3 l1 l2 hB1 hC1 hx1 hB hC
  obtain ⟨q0, q1, q2, q3, q4⟩ := hB3.c5
  obtain ⟨y0, y1, y2⟩ := hC3.c3
  cases q
  rotate_left
  · go_wp2_with fail
    go_ret
    exact ⟨rfl, hbw3⟩
  go_wp2_with fail
  refine (inE_any x v _ _ (hx0.now hbw3) hf).mono ?_
  rintro e w4 ⟨rfl, hb4⟩
  have hbw4 := bthen hbw3 hb4
  have hB4 := hB3.now hb4
  have hC4 := hC3.now hb4
  clear q0 q1 q2 q3 q4 y0 y1 y2 hB3 hC3
  obtain ⟨q0, q1, q2, q3, q4⟩ := hB4.c5
  obtain ⟨y0, y1, y2⟩ := hC4.c3
  go_wp2_with fail
  refine (sizeE_any x _ _ (hx0.now hbw4)).mono ?_
  rintro e w5 ⟨rfl, hb5⟩
  have hbw5 := bthen hbw4 hb5
  have hB5 := hB4.now hb5
  have hC5 := hC4.now hb5
  clear q0 q1 q2 q3 q4 y0 y1 y2 hB4 hC4
  obtain ⟨q0, q1, q2, q3, q4⟩ := hB5.c5
  obtain ⟨y0, y1, y2⟩ := hC5.c3
  go_wp2_with fail
  refine (nthE_any x i _ _ (hx0.now hbw5)).mono ?_
  rintro e w6 ⟨rfl, hb6⟩
  have hbw6 := bthen hbw5 hb6
  have hB6 := hB5.now hb6
  have hC6 := hC5.now hb6
  clear q0 q1 q2 q3 q4 y0 y1 y2 hB5 hC5
  generalize hnt : nthE x i = nt
  have HNT := Lib.hid hnt
  clear hnt
  unfold valV
  have hb7 := bone w6 (.cells #[.int .i64 nt.1.kind, .int .i64 nt.1.n, .string nt.1.s] 23)
  have hD7 := Blk.new w6 23 #[.int .i64 nt.1.kind, .int .i64 nt.1.n, .string nt.1.s]
  go_upto_region 8 with fail
  have hbw7 := bthen hbw6 hb7
  have hB7 := hB6.now hb7
  have hC7 := hC6.now hb7
  generalize hw7 : w6.alloc (.cells #[.int .i64 nt.1.kind, .int .i64 nt.1.n, .string nt.1.s] 23) = w7 at *
  clear hw7
  obtain ⟨q0, q1, q2, q3, q4⟩ := hB7.c5
  obtain ⟨y0, y1, y2⟩ := hC7.c3
  go_wp2_with fail
  have hrk := rankE_any x v _ w7 (hx0.now hbw7) hf
  unfold valV at hrk
  refine hrk.mono ?_
  clear hrk
  rintro e w8 ⟨rfl, hb8⟩
  have hbw8 := bthen hbw7 hb8
  have hB8 := hB7.now hb8
  have hC8 := hC7.now hb8
  have hD8 := hD7.now hb8
  clear q0 q1 q2 q3 q4 y0 y1 y2 hB7 hC7 hD7
  obtain ⟨q0, q1, q2, q3, q4⟩ := hB8.c5
  go_wp2_with fail
  refine (validVar_ref x _ _ (hx0.now hbw8)).mono ?_
  rintro e w9 ⟨rfl, hb9⟩
  have hbw9 := bthen hbw8 hb9
  have hB9 := hB8.now hb9
  have hC9 := hC8.now hb9
  have hD9 := hD8.now hb9
  clear q0 q1 q2 q3 q4 hB8 hC8 hD8
  obtain ⟨q0, q1, q2, q3, q4⟩ := hB9.c5
  obtain ⟨y0, y1, y2⟩ := hC9.c3
  obtain ⟨d0, d1, d2⟩ := hD9.c3
  have HIN : Hid (inE x v = if varB x && validV v then (decide (0 ≤ placeV x v), 0) else (false, 1)) := rfl
  have HSZ : Hid (sizeE x = if varB x then (sizeV x, 0) else (0, 1)) := rfl
  have HNE : Hid (nthE x i = if varB x then (if i < 0 ∨ sizeV x ≤ i then (noV, 2) else (nthV x i, 0)) else (noV, 1)) := rfl
  have HRK : Hid (rankE x v = if varB x && validV v then (if placeV x v < 0 then (0, 11) else (placeV x v, 0)) else (0, 1)) := rfl
  generalize hqx : varB x = qx at *
  have HX := Lib.hid hqx
  clear hqx
  cases qx
  · have e1 : inE x v = (false, 1) := HIN.out
    have e2 : sizeE x = (0, 1) := HSZ.out
    have e3 : nt = (noV, 1) := HNT.out.symm.trans HNE.out
    have e4 : rankE x v = (0, 1) := HRK.out
    subst e3
    rw [e1, e2, e4]
    clear e1 e2 e4 HIN HSZ HNE HRK HNT
    unfold noV emptyS at d0 d1 d2
    go_wp2_with fail
    go_ret
    exact ⟨rfl, hbw9⟩
  have htm := tame_of HX.out
  have hlz : x.kind = 1 → x.low = 0 := fun h => low_zero HX.out (by omega)
  have e2 : sizeE x = (sizeV x, 0) := HSZ.out
  rw [e2]
  dsimp only
  clear e2 HSZ
  go_wp2_with fail
  refine (size_ref x _ _ (hx0.now hbw9) htm).mono ?_
  rintro e w10 ⟨rfl, hb10⟩
  have hbw10 := bthen hbw9 hb10
  have hB10 := hB9.now hb10
  have hC10 := hC9.now hb10
  have hD10 := hD9.now hb10
  clear q0 q1 q2 q3 q4 y0 y1 y2 d0 d1 d2 hB9 hC9 hD9
  obtain ⟨q0, q1, q2, q3, q4⟩ := hB10.c5
  obtain ⟨y0, y1, y2⟩ := hC10.c3
  obtain ⟨d0, d1, d2⟩ := hD10.c3
  have hss : (sizeV x != sizeV x) = false := by simp
  by_cases hi : i < 0 ∨ sizeV x ≤ i
  · have e3 : nt = (noV, 2) := HNT.out.symm.trans (HNE.out.trans (if_pos hi))
    subst e3
    clear HNE HNT
    unfold noV emptyS at d0 d1 d2
    dsimp only at d0 d1 d2 ⊢
    generalize sizeV x = sx at *
    by_cases hi0 : i < 0
    · clear hi
      go_wp2_with fail
      have hvr := validV_ref v w10 hf
      unfold valV at hvr
      refine hvr.mono ?_
      clear hvr
      rintro e w20 ⟨rfl, hb20⟩
      have hbw20 := bthen hbw10 hb20
      have hB20 := hB10.now hb20
      have hC20 := hC10.now hb20
      clear q0 q1 q2 q3 q4 y0 y1 y2
      obtain ⟨q0, q1, q2, q3, q4⟩ := hB20.c5
      obtain ⟨y0, y1, y2⟩ := hC20.c3
      generalize hqv : validV v = qv at *
      have HV := Lib.hid hqv
      clear hqv
      cases qv
      · have e1 : inE x v = (false, 1) := HIN.out
        have e4 : rankE x v = (0, 1) := HRK.out
        rw [e1, e4]
        clear e1 e4 HIN HRK
        go_wp2_with fail
        go_ret
        exact ⟨rfl, hbw20⟩
      have e1 : inE x v = (decide (0 ≤ placeV x v), 0) := HIN.out
      have e5 : rankE x v = if placeV x v < 0 then (0, 11) else (placeV x v, 0) := HRK.out
      have hrr := rank_ref x v _ w20 (hx0.now hbw20) htm hf
      unfold valV at hrr
      generalize placeV x v = z at *
      have HRR := Lib.hid hrr
      clear hrr HIN HRK
      by_cases hz : z < 0
      · have hz1 : decide (0 ≤ z) = false := decide_eq_false (by omega)
        rw [if_pos hz] at e5
        rw [hz1] at e1
        rw [e1, e5]
        clear hz1 e1 e5
        go_wp2_with fail
        refine HRR.out.mono ?_
        rintro e w21 ⟨rfl, hb21⟩
        clear q0 q1 q2 q3 q4 y0 y1 y2
        go_wp2_with fail
        go_ret
        exact ⟨rfl, bthen hbw20 hb21⟩
      · have hz1 : decide (0 ≤ z) = true := decide_eq_true (by omega)
        have hz2 : (z == z) = true := by simp
        rw [if_neg hz] at e5
        rw [hz1] at e1
        rw [e1, e5]
        clear hz1 e1 e5
        go_wp2_with fail
        refine HRR.out.mono ?_
        rintro e w21 ⟨rfl, hb21⟩
        clear q0 q1 q2 q3 q4 y0 y1 y2
        go_wp2_with fail
        go_ret
        exact ⟨rfl, bthen hbw20 hb21⟩
    · have hi1 : sx ≤ i := by omega
      clear hi
      go_wp2_with fail
      have hvr := validV_ref v w10 hf
      unfold valV at hvr
      refine hvr.mono ?_
      clear hvr
      rintro e w20 ⟨rfl, hb20⟩
      have hbw20 := bthen hbw10 hb20
      have hB20 := hB10.now hb20
      have hC20 := hC10.now hb20
      clear q0 q1 q2 q3 q4 y0 y1 y2
      obtain ⟨q0, q1, q2, q3, q4⟩ := hB20.c5
      obtain ⟨y0, y1, y2⟩ := hC20.c3
      generalize hqv : validV v = qv at *
      have HV := Lib.hid hqv
      clear hqv
      cases qv
      · have e1 : inE x v = (false, 1) := HIN.out
        have e4 : rankE x v = (0, 1) := HRK.out
        rw [e1, e4]
        clear e1 e4 HIN HRK
        go_wp2_with fail
        go_ret
        exact ⟨rfl, hbw20⟩
      have e1 : inE x v = (decide (0 ≤ placeV x v), 0) := HIN.out
      have e5 : rankE x v = if placeV x v < 0 then (0, 11) else (placeV x v, 0) := HRK.out
      have hrr := rank_ref x v _ w20 (hx0.now hbw20) htm hf
      unfold valV at hrr
      generalize placeV x v = z at *
      have HRR := Lib.hid hrr
      clear hrr HIN HRK
      by_cases hz : z < 0
      · have hz1 : decide (0 ≤ z) = false := decide_eq_false (by omega)
        rw [if_pos hz] at e5
        rw [hz1] at e1
        rw [e1, e5]
        clear hz1 e1 e5
        go_wp2_with fail
        refine HRR.out.mono ?_
        rintro e w21 ⟨rfl, hb21⟩
        clear q0 q1 q2 q3 q4 y0 y1 y2
        go_wp2_with fail
        go_ret
        exact ⟨rfl, bthen hbw20 hb21⟩
      · have hz1 : decide (0 ≤ z) = true := decide_eq_true (by omega)
        have hz2 : (z == z) = true := by simp
        rw [if_neg hz] at e5
        rw [hz1] at e1
        rw [e1, e5]
        clear hz1 e1 e5
        go_wp2_with fail
        refine HRR.out.mono ?_
        rintro e w21 ⟨rfl, hb21⟩
        clear q0 q1 q2 q3 q4 y0 y1 y2
        go_wp2_with fail
        go_ret
        exact ⟨rfl, bthen hbw20 hb21⟩
  · have e3 : nt = (nthV x i, 0) := HNT.out.symm.trans (HNE.out.trans (if_neg hi))
    subst e3
    clear HNE HNT
    dsimp only at d0 d1 d2 ⊢
    have hi0 : ¬ i < 0 := fun h => hi (Or.inl h)
    have hi1 : ¬ sizeV x ≤ i := fun h => hi (Or.inr h)
    clear hi
    obtain ⟨n, rfl⟩ := Int.eq_ofNat_of_zero_le (by omega : 0 ≤ i)
    have HS : Hid (∀ W, Below w10.heap.size w10 W → (W.cell? ⟨w.heap.size, 0, none⟩ = some (.string x.name) ∧ W.cell? ⟨w.heap.size, 1, none⟩ = some (.int .i64 x.kind) ∧ W.cell? ⟨w.heap.size, 2, none⟩ = some (.int .i64 x.low) ∧ W.cell? ⟨w.heap.size, 3, none⟩ = some (.int .i64 x.high) ∧ W.cell? ⟨w.heap.size, 4, none⟩ = some (.slice A x.items.length c)) ∧ W.cell? ⟨w6.heap.size, 0, none⟩ = some (.int .i64 (nthV x n).kind) ∧ W.cell? ⟨w6.heap.size, 1, none⟩ = some (.int .i64 (nthV x n).n) ∧ W.cell? ⟨w6.heap.size, 2, none⟩ = some (.string (nthV x n).s)) := fun W hW => ⟨(hB10.now hW).c5, (hD10.now hW).c3⟩
    have HCL : Hid (∀ W, Below w10.heap.size w10 W → Calls Tryz.prog 34 #[.agg #[.string x.name, .int .i64 x.kind, .int .i64 x.low, .int .i64 x.high, .slice A x.items.length c], .int .i64 n] W fun e w' => e = .returned (.agg #[.int .i64 (nthV x n).kind, .int .i64 (nthV x n).n, .string (nthV x n).s]) ∧ Below w10.heap.size w10 w') :=
      fun W hW => (nth_ref x n _ W (hx0.now (bthen hbw10 hW)) htm hlz (by omega)).mono fun e w' ⟨he, hb⟩ => ⟨he, bthen hW hb⟩
    have hbd : Below w10.heap.size w10 w10.drew := (Below.refl _ _).drew
    generalize nthV x n = nv at *
    clear hlz
    generalize sizeV x = sx at *
    have hne := fun W => run_neV W nv nv
    rw [decide_eq_true rfl] at hne
    go_upto_region 16 with fail
    clear q0 q1 q2 q3 q4 y0 y1 y2 d0 d1 d2
    obtain ⟨⟨a0, a1, a2, a3, a4⟩, d0, d1, d2⟩ := HS.out _ hbd
    go_region_held3 (fun W => (W.cell? ⟨w.heap.size, 0, none⟩ = some (.string x.name) ∧ W.cell? ⟨w.heap.size, 1, none⟩ = some (.int .i64 x.kind) ∧ W.cell? ⟨w.heap.size, 2, none⟩ = some (.int .i64 x.low) ∧ W.cell? ⟨w.heap.size, 3, none⟩ = some (.int .i64 x.high) ∧ W.cell? ⟨w.heap.size, 4, none⟩ = some (.slice A x.items.length c)) ∧ W.cell? ⟨w6.heap.size, 0, none⟩ = some (.int .i64 nv.kind) ∧ W.cell? ⟨w6.heap.size, 1, none⟩ = some (.int .i64 nv.n) ∧ W.cell? ⟨w6.heap.size, 2, none⟩ = some (.string nv.s)) (exact HS.out _ (by assumption))
      (first | (go_at_call 34; (with_reducible refine (HCL.out _ (by assumption)).mono ?_); rintro e w11 ⟨rfl, hb11⟩))
    all_goals
      have hbw11 := bthen hbw10 hb11
      have hB11 := hB10.now hb11
      have hC11 := hC10.now hb11
      clear a0 a1 a2 a3 a4 d0 d1 d2 HS HCL
      obtain ⟨q0, q1, q2, q3, q4⟩ := hB11.c5
      obtain ⟨y0, y1, y2⟩ := hC11.c3
      go_wp2_with fail
      have hvr := validV_ref v w11 hf
      unfold valV at hvr
      refine hvr.mono ?_
      clear hvr
      rintro e w20 ⟨rfl, hb20⟩
      have hbw20 := bthen hbw11 hb20
      have hB20 := hB11.now hb20
      have hC20 := hC11.now hb20
      clear q0 q1 q2 q3 q4 y0 y1 y2
      obtain ⟨q0, q1, q2, q3, q4⟩ := hB20.c5
      obtain ⟨y0, y1, y2⟩ := hC20.c3
      generalize hqv : validV v = qv at *
      have HV := Lib.hid hqv
      clear hqv
      cases qv
      · have e1 : inE x v = (false, 1) := HIN.out
        have e4 : rankE x v = (0, 1) := HRK.out
        rw [e1, e4]
        clear e1 e4 HIN HRK
        go_wp2_with fail
        go_ret
        exact ⟨rfl, hbw20⟩
      have e1 : inE x v = (decide (0 ≤ placeV x v), 0) := HIN.out
      have e5 : rankE x v = if placeV x v < 0 then (0, 11) else (placeV x v, 0) := HRK.out
      have hrr := rank_ref x v _ w20 (hx0.now hbw20) htm hf
      unfold valV at hrr
      generalize placeV x v = z at *
      have HRR := Lib.hid hrr
      clear hrr HIN HRK
      by_cases hz : z < 0
      · have hz1 : decide (0 ≤ z) = false := decide_eq_false (by omega)
        rw [if_pos hz] at e5
        rw [hz1] at e1
        rw [e1, e5]
        clear hz1 e1 e5
        go_wp2_with fail
        refine HRR.out.mono ?_
        rintro e w21 ⟨rfl, hb21⟩
        clear q0 q1 q2 q3 q4 y0 y1 y2
        go_wp2_with fail
        go_ret
        exact ⟨rfl, bthen hbw20 hb21⟩
      · have hz1 : decide (0 ≤ z) = true := decide_eq_true (by omega)
        have hz2 : (z == z) = true := by simp
        rw [if_neg hz] at e5
        rw [hz1] at e1
        rw [e1, e5]
        clear hz1 e1 e5
        go_wp2_with fail
        refine HRR.out.mono ?_
        rintro e w21 ⟨rfl, hb21⟩
        clear q0 q1 q2 q3 q4 y0 y1 y2
        go_wp2_with fail
        go_ret
        exact ⟨rfl, bthen hbw20 hb21⟩
end Go.Proofs.YtchfmjociflgfaaGreatDoor
