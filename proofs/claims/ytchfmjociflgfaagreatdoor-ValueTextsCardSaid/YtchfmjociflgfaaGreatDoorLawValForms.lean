/- ValueForms: the walk. -/
import Derived.Test.YtchfmjociflgfaaGreatDoorValAwake2
import Derived.Deep.RegionHeld3
namespace Go.Proofs.YtchfmjociflgfaaGreatDoor
open Go.RowKit

/-- A list of one value, laid in a block. -/
theorem slOne (w : World) (v : Val) (hf : FitV v) : SlV (Lt (w.alloc (.cells #[.int .i64 v.kind, .int .i64 v.n, .string v.s] 23)).heap.size) (w.alloc (.cells #[.int .i64 v.kind, .int .i64 v.n, .string v.s] 23)) (.slice (some ⟨w.heap.size, 0, none⟩) 1 1) [v] := by
  refine Sl.ofBlk (xs := [v]) (size := 3) (cs := cellsV v) (Blk.new w 23 _) (by unfold maxLen; simp) ?_
  intro i x hx
  match i, hx with
  | 0, hx =>
    injection hx with hx; subst hx
    exact ⟨cellsV v, rfl, fun j u hu => by simpa using hu, rfl, hf⟩
  | i + 1, hx => simp at hx

set_option maxHeartbeats 4000000 in
set_option maxRecDepth 100000 in
theorem valueForms_law (v : Val) (l : List Var) (lv : Value) (w : World) (hf : FitV v) (h : SlX (Lt w.heap.size) w lv l) (ha : Amb w) :
    Calls Tryz.prog 3 #[valV v, lv] w fun e w' => e = .returned (.bool true) ∧ Below w.heap.size w w' := by
  obtain ⟨A, c, rfl, h1, h2, ht⟩ := h.open_
  clear h
  have hb := bone w (.cells #[.int .i64 v.kind, .int .i64 v.n, .string v.s] 23)
  have hB := Blk.new w 23 #[.int .i64 v.kind, .int .i64 v.n, .string v.s]
  unfold valV
  go_enter Tryz.func3, Tryz.ntmps3
  go_wp2_with fail
  refine (awake_any _ (ha.now hb)).mono ?_
  rintro e w1 ⟨rfl, hb1⟩
  have hbw1 := bthen hb hb1
  have hB1 := hB.now hb1
  obtain ⟨q0, q1, q2⟩ := hB1.c3
  have hb2 := bone w1 (.cells #[.int .i64 v.kind, .int .i64 v.n, .string v.s] 23)
  have hs2 := slOne w1 v hf
  have hbw2 := bthen hbw1 hb2
  go_wp2_with fail
  refine (long_any l [v] _ _ _ (ht.now hbw2) hs2).mono ?_
  rintro e w3 ⟨q, rfl, hq, hb3⟩
  have hbw3 := bthen hbw2 hb3
  have hB3 := (hB1.now hb2).now hb3
  clear q0 q1 q2
  obtain ⟨q0, q1, q2⟩ := hB3.c3
  cases q
  rotate_left
  · clear hq
    go_wp2_with fail
    go_ret
    exact ⟨rfl, hbw3⟩
  have hl12 := (hq rfl).1
  clear hq
  go_wp2_with fail
  go_loopw [15] (fun i wr => ∃ j : Nat, j ≤ l.length ∧ i = .int .i64 j ∧ Below w3.heap.size w3 wr) (fun i _ => l.length - (intOf i).toNat)
  case atStart => exact ⟨0, Nat.zero_le _, rfl, Below.refl _ _⟩
  case round =>
    obtain ⟨j, hj, rfl, hbr⟩ := hrel
    have hbwr := bthen hbw3 hbr
    by_cases hlt : j < l.length
    · obtain ⟨b, o, x, iv, rfl, hD, hx, hvar, hiv, c0, c1, c2, c3, c4⟩ := (ht.now hbwr).at_ hlt
      obtain ⟨A2, k2, rfl, g1, g2, hiv⟩ := hiv.open_
      have hb5 := bone wr (.cells #[.string x.name, .int .i64 x.kind, .int .i64 x.low, .int .i64 x.high, .slice A2 x.items.length k2] 29)
      have hB5 := Blk.new wr 29 #[.string x.name, .int .i64 x.kind, .int .i64 x.low, .int .i64 x.high, .slice A2 x.items.length k2]
      have hvar5 := hvar.now hb5
      have hbr5 := bthen hbr hb5
      clear hx hvar hiv q0 q1 q2
      go_upto_region 8 with fail
      generalize hw5 : wr.alloc (.cells #[.string x.name, .int .i64 x.kind, .int .i64 x.low, .int .i64 x.high, .slice A2 x.items.length k2] 29) = w5 at *
      clear hw5 c0 c1 c2 c3 c4
      have HS : Hid (∀ W, Below w5.heap.size w5 W → W.cell? ⟨wr.heap.size, 0, none⟩ = some (.string x.name) ∧ W.cell? ⟨wr.heap.size, 1, none⟩ = some (.int .i64 x.kind) ∧ W.cell? ⟨wr.heap.size, 2, none⟩ = some (.int .i64 x.low) ∧ W.cell? ⟨wr.heap.size, 3, none⟩ = some (.int .i64 x.high) ∧ W.cell? ⟨wr.heap.size, 4, none⟩ = some (.slice A2 x.items.length k2)) := fun W hW => (hB5.now hW).c5
      have HC1 : Hid (∀ W, Below w5.heap.size w5 W → Calls Tryz.prog 11 #[.agg #[.string x.name, .int .i64 x.kind, .int .i64 x.low, .int .i64 x.high, .slice A2 x.items.length k2]] W fun e w' => e = .returned (.bool (varB x)) ∧ Below w5.heap.size w5 w') :=
        fun W hW => (validVar_any x _ W (hvar5.now hW)).mono fun e w' ⟨he, hb⟩ => ⟨he, bthen hW hb⟩
      have HC2 : Hid (∀ W, Below w5.heap.size w5 W → Calls Tryz.prog 12 #[.agg #[.string x.name, .int .i64 x.kind, .int .i64 x.low, .int .i64 x.high, .slice A2 x.items.length k2]] W fun e w' => e = .returned (.bool (varB x)) ∧ Below w5.heap.size w5 w') :=
        fun W hW => (validVar_ref x _ W (hvar5.now hW)).mono fun e w' ⟨he, hb⟩ => ⟨he, bthen hW hb⟩
      have hbd : Below w5.heap.size w5 w5.drew := (Below.refl _ _).drew
      obtain ⟨a0, a1, a2, a3, a4⟩ := HS.out _ hbd
      generalize varB x = qv at *
      have hne : (qv != qv) = false := by simp
      go_region_held3 (fun W => W.cell? ⟨wr.heap.size, 0, none⟩ = some (.string x.name) ∧ W.cell? ⟨wr.heap.size, 1, none⟩ = some (.int .i64 x.kind) ∧ W.cell? ⟨wr.heap.size, 2, none⟩ = some (.int .i64 x.low) ∧ W.cell? ⟨wr.heap.size, 3, none⟩ = some (.int .i64 x.high) ∧ W.cell? ⟨wr.heap.size, 4, none⟩ = some (.slice A2 x.items.length k2)) (exact HS.out _ (by assumption))
        (first
        | (go_at_call 11; (with_reducible refine (HC1.out _ (by assumption)).mono ?_); rintro e w6 ⟨rfl, hb6⟩)
        | (go_at_call 12; (with_reducible refine (HC2.out _ (by assumption)).mono ?_); rintro e w7 ⟨rfl, hb7⟩))
      go_wp2_with fail
      go_roundw
      case rel => exact ⟨j + 1, by omega, by go_num, bthen hbr5 hb7⟩
      case measure => simp [intOf]; omega
    · have htr := ht.now hbwr
      have hB4 := hB3.now hbr
      clear q0 q1 q2
      go_upto_region 11 with fail
      have HS : Hid (∀ W, Below wr.heap.size wr W → W.cell? ⟨w.heap.size, 0, none⟩ = some (.int .i64 v.kind) ∧ W.cell? ⟨w.heap.size, 1, none⟩ = some (.int .i64 v.n) ∧ W.cell? ⟨w.heap.size, 2, none⟩ = some (.string v.s)) := fun W hW => (hB4.now hW).c3
      have HC1 : Hid (∀ W, Below wr.heap.size wr W → Calls Tryz.prog 13 #[.agg #[.int .i64 v.kind, .int .i64 v.n, .string v.s]] W fun e w' => e = .returned (.bool (validV v)) ∧ Below wr.heap.size wr w') :=
        fun W hW => (validV_any v W hf).mono fun e w' ⟨he, hb⟩ => ⟨he, bthen hW hb⟩
      have HC2 : Hid (∀ W, Below wr.heap.size wr W → Calls Tryz.prog 14 #[.agg #[.int .i64 v.kind, .int .i64 v.n, .string v.s]] W fun e w' => e = .returned (.bool (validV v)) ∧ Below wr.heap.size wr w') :=
        fun W hW => (validV_ref v W hf).mono fun e w' ⟨he, hb⟩ => ⟨he, bthen hW hb⟩
      have HC3 : Hid (∀ W, Below wr.heap.size wr W → Calls Tryz.prog 15 #[.slice A l.length c] W fun e w' => e = .returned (.bool (varsB l)) ∧ Below wr.heap.size wr w') :=
        fun W hW => (validVars_any l _ W (htr.now hW) (by omega)).mono fun e w' ⟨he, hb⟩ => ⟨he, bthen hW hb⟩
      have HC4 : Hid (∀ W, Below wr.heap.size wr W → Calls Tryz.prog 16 #[.slice A l.length c] W fun e w' => e = .returned (.bool (varsB l)) ∧ Below wr.heap.size wr w') :=
        fun W hW => (validVars_ref l _ W (htr.now hW)).mono fun e w' ⟨he, hb⟩ => ⟨he, bthen hW hb⟩
      have hbd : Below wr.heap.size wr wr.drew := (Below.refl _ _).drew
      obtain ⟨a0, a1, a2⟩ := HS.out _ hbd
      generalize validV v = qv at *
      generalize varsB l = ql at *
      have he1 : (qv == qv) = true := by simp
      have he2 : (ql == ql) = true := by simp
      go_region_held3 (fun W => W.cell? ⟨w.heap.size, 0, none⟩ = some (.int .i64 v.kind) ∧ W.cell? ⟨w.heap.size, 1, none⟩ = some (.int .i64 v.n) ∧ W.cell? ⟨w.heap.size, 2, none⟩ = some (.string v.s)) (exact HS.out _ (by assumption))
        (first
        | (go_at_call 13; (with_reducible refine (HC1.out _ (by assumption)).mono ?_); rintro e w6 ⟨rfl, hb6⟩)
        | (go_at_call 14; (with_reducible refine (HC2.out _ (by assumption)).mono ?_); rintro e w7 ⟨rfl, hb7⟩)
        | (go_at_call 15; (with_reducible refine (HC3.out _ (by assumption)).mono ?_); rintro e w8 ⟨rfl, hb8⟩)
        | (go_at_call 16; (with_reducible refine (HC4.out _ (by assumption)).mono ?_); rintro e w9 ⟨rfl, hb9⟩))
      go_wp2_with fail
      go_ret
      exact ⟨rfl, bthen hbwr hb9⟩
end Go.Proofs.YtchfmjociflgfaaGreatDoor
