/- Texts of this seat, merged. -/
import Derived.Test.YtlmenhjlgmejkaaGreatDoorBa14
set_option linter.unusedSimpArgs false
set_option linter.unusedVariables false
namespace Go.Proofs.YtlmenhjlgmejkaaGreatDoor
open Go.RowKit
set_option maxHeartbeats 400000 in
theorem truth_ref (b : Bool) (w : World) : Calls Tryz.prog 147 #[.bool b] w fun e w' => e = .returned (valV (truthV b)) ∧ Below w.heap.size w w' := by
  have hb := bone w (.cells #[.int .i64 0, .int .i64 0, .string ⟨#[]⟩] 63)
  have hB := Blk.new w 63 #[.int .i64 0, .int .i64 0, .string ⟨#[]⟩]
  obtain ⟨x0, x1, x2⟩ := hB.c3
  have k0 := hB.frozen 0
  have k1 := hB.frozen 1
  have k2 := hB.frozen 2
  cases b
  · go_enter Tryz.func147, Tryz.ntmps147
    go_upto_region 1 with fail
    generalize hw1 : w.alloc (.cells #[.int .i64 0, .int .i64 0, .string ⟨#[]⟩] 63) = w1 at *
    clear hw1
    go_wp2_with fail
    obtain ⟨t0, t1, t2⟩ := (hB.set3 (.int .i64 1) (.int .i64 0) (.string ⟨#[]⟩)).c3
    refine bodyPost_ret (v := .agg #[.int .i64 1, .int .i64 0, .string ⟨#[]⟩]) (by simp [results, Tryz.results147, go_sem, t0, t1, t2]) rfl ?_
    exact ⟨rfl, bset3 hb (Nat.le_refl _) _ _ _⟩
  · go_enter Tryz.func147, Tryz.ntmps147
    go_upto_region 1 with fail
    generalize hw1 : w.alloc (.cells #[.int .i64 0, .int .i64 0, .string ⟨#[]⟩] 63) = w1 at *
    clear hw1
    go_wp2_with fail
    obtain ⟨t0, t1, t2⟩ := (hB.set3 (.int .i64 1) (.int .i64 1) (.string ⟨#[]⟩)).c3
    refine bodyPost_ret (v := .agg #[.int .i64 1, .int .i64 1, .string ⟨#[]⟩]) (by simp [results, Tryz.results147, go_sem, t0, t1, t2]) rfl ?_
    exact ⟨rfl, bset3 hb (Nat.le_refl _) _ _ _⟩
set_option maxHeartbeats 400000 in
theorem enumber_ref (n : Int) (w : World) : Calls Tryz.prog 148 #[.int .i64 n] w (RetO (numV n) w) := by
  have hb := bone w (.cells #[.int .i64 0, .int .i64 0, .string ⟨#[]⟩] 63)
  have hB := Blk.new w 63 #[.int .i64 0, .int .i64 0, .string ⟨#[]⟩]
  obtain ⟨x0, x1, x2⟩ := hB.c3
  have k0 := hB.frozen 0
  have k1 := hB.frozen 1
  have k2 := hB.frozen 2
  have HCS : Hid (∀ Q : Prop, ((-4503599627370496 ≤ n ∧ n ≤ 4503599627370496) → Q) → (n < -4503599627370496 → Q) → (-4503599627370496 ≤ n → 4503599627370496 < n → Q) → Q) := by
    intro Q a1 a2 a3
    by_cases h1 : n < -4503599627370496
    · exact a2 h1
    · by_cases h2 : 4503599627370496 < n
      · exact a3 (by omega) h2
      · exact a1 ⟨by omega, by omega⟩
  refine HCS.out _ (fun h => ?_) (fun h => ?_) (fun h h' => ?_)
  · have HN := Lib.hid (num_yes (numB_yes h.1 h.2))
    obtain ⟨h1, h2⟩ := h
    generalize numV n = r at *
    clear HCS
    go_enter Tryz.func148, Tryz.ntmps148
    go_upto_region 1 with fail
    generalize hw1 : w.alloc (.cells #[.int .i64 0, .int .i64 0, .string ⟨#[]⟩] 63) = w1 at *
    clear hw1
    go_wp2_with fail
    obtain ⟨t0, t1, t2⟩ := (hB.set3 (.int .i64 2) (.int .i64 n) (.string ⟨#[]⟩)).c3
    refine bodyPost_ret (v := .tuple #[.agg #[.int .i64 2, .int .i64 n, .string ⟨#[]⟩], .bool true]) (by simp [results, Tryz.results148, go_sem, t0, t1, t2]) rfl ?_
    exact ⟨⟨2, n, ⟨#[]⟩⟩, by rw [HN.out]; rfl, fun a h => (by rw [HN.out] at h; injection h), bset3 hb (Nat.le_refl _) _ _ _⟩
  all_goals
    have HN := Lib.hid (num_no (numB_no (n := n) (fun h => by omega)))
    generalize numV n = r at *
    clear HCS
    go_enter Tryz.func148, Tryz.ntmps148
    go_upto_region 1 with fail
    generalize hw1 : w.alloc (.cells #[.int .i64 0, .int .i64 0, .string ⟨#[]⟩] 63) = w1 at *
    clear hw1
    go_wp2_with fail
    obtain ⟨t0, t1, t2⟩ := (hB.set3 (.int .i64 0) (.int .i64 0) (.string ⟨#[]⟩)).c3
    refine bodyPost_ret (v := .tuple #[.agg #[.int .i64 0, .int .i64 0, .string ⟨#[]⟩], .bool false]) (by simp [results, Tryz.results148, go_sem, t0, t1, t2]) rfl ?_
    exact ⟨⟨0, 0, ⟨#[]⟩⟩, by rw [HN.out]; rfl, fun a h => (by rw [HN.out] at h; cases h), bset3 hb (Nat.le_refl _) _ _ _⟩
theorem quo_gt {a b : Nat} (hb : 1 ≤ b) : 4503599627370496 / b < a ↔ 4503599627370496 < a * b := by
  rw [Nat.div_lt_iff_lt_mul hb]
theorem abs_mul (a b : Int) : (a * b).natAbs = a.natAbs * b.natAbs := Int.natAbs_mul a b
theorem abs_le {z : Int} : (-4503599627370496 ≤ z ∧ z ≤ 4503599627370496) ↔ z.natAbs ≤ 4503599627370496 := by omega
theorem big_test {a b X Y : Int} (hX : X = a.natAbs) (hY : Y = b.natAbs) (hb : b ≠ 0) : (Int.tdiv 4503599627370496 Y < X) ↔ 4503599627370496 < (a * b).natAbs := by
  have e : Int.tdiv 4503599627370496 Y = ((4503599627370496 / b.natAbs : Nat) : Int) := by
    rw [hY, Int.tdiv_eq_ediv_of_nonneg (by omega), Int.natCast_ediv]; rfl
  rw [e, abs_mul, ← quo_gt (by omega), hX]
  omega
theorem quo_in {Y : Int} (hY : 0 < Y) : 0 ≤ Int.tdiv 4503599627370496 Y ∧ Int.tdiv 4503599627370496 Y ≤ 4503599627370496 := by
  rw [Int.tdiv_eq_ediv_of_nonneg (by omega)]
  refine ⟨Int.ediv_nonneg (by omega) (by omega), ?_⟩
  exact Int.ediv_le_self _ (by omega)
set_option maxHeartbeats 2000000 in
theorem times_ref (a b : Int) (w : World) (ha : -4503599627370496 ≤ a ∧ a ≤ 4503599627370496) (hb0 : -4503599627370496 ≤ b ∧ b ≤ 4503599627370496) :
    Calls Tryz.prog 149 #[.int .i64 a, .int .i64 b] w (RetO (numV (a * b)) w) := by
  have hb := bone w (.cells #[.int .i64 0, .int .i64 0, .string ⟨#[]⟩] 63)
  have hB := Blk.new w 63 #[.int .i64 0, .int .i64 0, .string ⟨#[]⟩]
  go_enter Tryz.func149, Tryz.ntmps149
  go_upto_region 1 with fail
  generalize hw1 : w.alloc (.cells #[.int .i64 0, .int .i64 0, .string ⟨#[]⟩] 63) = w1 at *
  clear hw1
  have HST : Hid (∀ (W : World) (x y z : Value), Below w1.heap.size w1 W →
      (W.frozen? ⟨w.heap.size, 0, none⟩ = false ∧ W.frozen? ⟨w.heap.size, 1, none⟩ = false ∧ W.frozen? ⟨w.heap.size, 2, none⟩ = false) ∧
      Blk (((W.setCell ⟨w.heap.size, 0, none⟩ x).setCell ⟨w.heap.size, 1, none⟩ y).setCell ⟨w.heap.size, 2, none⟩ z) w.heap.size 63 #[x, y, z] ∧
      (W.cell? ⟨w.heap.size, 0, none⟩ = some (.int .i64 0) ∧ W.cell? ⟨w.heap.size, 1, none⟩ = some (.int .i64 0) ∧ W.cell? ⟨w.heap.size, 2, none⟩ = some (.string ⟨#[]⟩)) ∧
      Below w.heap.size w (((W.setCell ⟨w.heap.size, 0, none⟩ x).setCell ⟨w.heap.size, 1, none⟩ y).setCell ⟨w.heap.size, 2, none⟩ z)) :=
    fun W x y z hW => ⟨⟨(hB.now hW).frozen 0, (hB.now hW).frozen 1, (hB.now hW).frozen 2⟩, (hB.now hW).set3 _ _ _, (hB.now hW).c3, bset3 (bthen hb hW) (Nat.le_refl _) _ _ _⟩
  clear hb hB
  by_cases hz : a = 0 ∨ b = 0
  · have e0 : a * b = 0 := by rcases hz with h | h <;> simp [h]
    have HEE : Hid (numV (a * b) = numV 0) := by show _ = _; rw [e0]
    have HZ : Hid (∀ Q : Prop, ((a == 0) = true → Q) → ((a == 0) = false → (b == 0) = true → Q) → Q) := by
      intro Q h1 h2
      by_cases e : a = 0
      · exact h1 (by simp [e])
      · exact h2 (by simp [e]) (by rcases hz with h | h; exact absurd h e; simp [h])
    clear hz e0
    refine HZ.out _ (fun b1 => ?_) (fun b1 b2 => ?_)
    all_goals
      go_wp2_with fail
      refine (enumber_ref 0 _).mono ?_
      rintro e w2 ⟨v, rfl, hv, hb2⟩
      obtain ⟨⟨k0, k1, k2⟩, hS, ⟨y0, y1, y2⟩, hbS⟩ := HST.out _ (.int .i64 v.kind) (.int .i64 v.n) (.string v.s) hb2
      generalize numV 0 = r at *
      go_wp2_with fail
      obtain ⟨t0, t1, t2⟩ := hS.c3
      refine bodyPost_ret (v := .tuple #[.agg #[.int .i64 v.kind, .int .i64 v.n, .string v.s], .bool r.isSome]) (by simp [results, Tryz.results149, go_sem, t0, t1, t2]) rfl ?_
      exact RetO.cast HEE.out ⟨v, rfl, hv, hbS⟩
  · have ha0 : a ≠ 0 := fun h => hz (.inl h)
    have hb1 : b ≠ 0 := fun h => hz (.inr h)
    have b1 : (a == 0) = false := by simp [ha0]
    have b2 : (b == 0) = false := by simp [hb1]
    clear hz
    have HBT := Lib.hid (fun (X Y : Int) (hX : X = a.natAbs) (hY : Y = b.natAbs) => big_test hX hY hb1)
    have HNB : Hid (4503599627370496 < (a * b).natAbs → numV (a * b) = none) := fun h => num_no (numB_no (fun h' => by have := abs_le.1 h'; omega))
    have HWR : Hid (¬ 4503599627370496 < (a * b).natAbs → IntKind.i64.wrap (a * b) = a * b) := fun h => IntWalk.i64_in _ (by have := abs_le.2 (Nat.le_of_not_lt h); omega)
    rcases Int.lt_or_le a 0 with ha1 | ha1
    · rcases Int.lt_or_le b 0 with hb2 | hb2
      · have hqi := quo_in (Y := -b) (by omega)
        have wq : IntKind.i64.wrap (Int.tdiv 4503599627370496 (-b)) = Int.tdiv 4503599627370496 (-b) := IntWalk.i64_in _ (by omega)
        have ht := HBT.out (-a) (-b) (by omega) (by omega)
        have wa : IntKind.i64.wrap (-a) = -a := IntWalk.i64_in _ (by omega)
        have wb : IntKind.i64.wrap (-b) = -b := IntWalk.i64_in _ (by omega)
        have nb : ¬ -b = 0 := by omega
        by_cases hbig : 4503599627370496 < (a * b).natAbs
        · have HNO := Lib.hid (HNB.out hbig)
          have h1 : Int.tdiv 4503599627370496 (-b) < -a := ht.2 hbig
          rw [Int.tdiv_neg] at h1 wq
          clear ht hbig
          obtain ⟨⟨k0, k1, k2⟩, hS, ⟨y0, y1, y2⟩, hbS⟩ := HST.out _ (.int .i64 0) (.int .i64 0) (.string ⟨#[]⟩) (Below.refl _ _)
          go_wp2_with fail
          obtain ⟨t0, t1, t2⟩ := hS.c3
          refine bodyPost_ret (v := .tuple #[.agg #[.int .i64 0, .int .i64 0, .string ⟨#[]⟩], .bool false]) (by simp [results, Tryz.results149, go_sem, t0, t1, t2]) rfl ?_
          exact RetO.cast HNO.out ⟨⟨0, 0, ⟨#[]⟩⟩, rfl, fun x h => (by cases h), hbS⟩
        · have h1 : -a ≤ Int.tdiv 4503599627370496 (-b) := Int.not_lt.1 (fun h => hbig (ht.1 h))
          rw [Int.tdiv_neg] at h1 wq
          have wm := HWR.out hbig
          clear ht hbig
          go_wp2_with fail
          refine (enumber_ref (a * b) _).mono ?_
          rintro e w2 ⟨v, rfl, hv, hb2⟩
          obtain ⟨⟨k0, k1, k2⟩, hS, ⟨y0, y1, y2⟩, hbS⟩ := HST.out _ (.int .i64 v.kind) (.int .i64 v.n) (.string v.s) hb2
          go_wp2_with fail
          obtain ⟨t0, t1, t2⟩ := hS.c3
          refine bodyPost_ret (v := .tuple #[.agg #[.int .i64 v.kind, .int .i64 v.n, .string v.s], .bool (numV (a * b)).isSome]) (by simp [results, Tryz.results149, go_sem, t0, t1, t2]) rfl ?_
          exact ⟨v, rfl, hv, hbS⟩
      · have hb3 : 0 < b := by omega
        have hqi := quo_in (Y := b) (by omega)
        have wq : IntKind.i64.wrap (Int.tdiv 4503599627370496 (b)) = Int.tdiv 4503599627370496 (b) := IntWalk.i64_in _ (by omega)
        have ht := HBT.out (-a) (b) (by omega) (by omega)
        have wa : IntKind.i64.wrap (-a) = -a := IntWalk.i64_in _ (by omega)
        by_cases hbig : 4503599627370496 < (a * b).natAbs
        · have HNO := Lib.hid (HNB.out hbig)
          have h1 : Int.tdiv 4503599627370496 (b) < -a := ht.2 hbig
          clear ht hbig
          obtain ⟨⟨k0, k1, k2⟩, hS, ⟨y0, y1, y2⟩, hbS⟩ := HST.out _ (.int .i64 0) (.int .i64 0) (.string ⟨#[]⟩) (Below.refl _ _)
          go_wp2_with fail
          obtain ⟨t0, t1, t2⟩ := hS.c3
          refine bodyPost_ret (v := .tuple #[.agg #[.int .i64 0, .int .i64 0, .string ⟨#[]⟩], .bool false]) (by simp [results, Tryz.results149, go_sem, t0, t1, t2]) rfl ?_
          exact RetO.cast HNO.out ⟨⟨0, 0, ⟨#[]⟩⟩, rfl, fun x h => (by cases h), hbS⟩
        · have h1 : -a ≤ Int.tdiv 4503599627370496 (b) := Int.not_lt.1 (fun h => hbig (ht.1 h))
          have wm := HWR.out hbig
          clear ht hbig
          go_wp2_with fail
          refine (enumber_ref (a * b) _).mono ?_
          rintro e w2 ⟨v, rfl, hv, hb2⟩
          obtain ⟨⟨k0, k1, k2⟩, hS, ⟨y0, y1, y2⟩, hbS⟩ := HST.out _ (.int .i64 v.kind) (.int .i64 v.n) (.string v.s) hb2
          go_wp2_with fail
          obtain ⟨t0, t1, t2⟩ := hS.c3
          refine bodyPost_ret (v := .tuple #[.agg #[.int .i64 v.kind, .int .i64 v.n, .string v.s], .bool (numV (a * b)).isSome]) (by simp [results, Tryz.results149, go_sem, t0, t1, t2]) rfl ?_
          exact ⟨v, rfl, hv, hbS⟩
    · rcases Int.lt_or_le b 0 with hb2 | hb2
      · have hqi := quo_in (Y := -b) (by omega)
        have wq : IntKind.i64.wrap (Int.tdiv 4503599627370496 (-b)) = Int.tdiv 4503599627370496 (-b) := IntWalk.i64_in _ (by omega)
        have ht := HBT.out (a) (-b) (by omega) (by omega)
        have wb : IntKind.i64.wrap (-b) = -b := IntWalk.i64_in _ (by omega)
        have nb : ¬ -b = 0 := by omega
        by_cases hbig : 4503599627370496 < (a * b).natAbs
        · have HNO := Lib.hid (HNB.out hbig)
          have h1 : Int.tdiv 4503599627370496 (-b) < a := ht.2 hbig
          rw [Int.tdiv_neg] at h1 wq
          clear ht hbig
          obtain ⟨⟨k0, k1, k2⟩, hS, ⟨y0, y1, y2⟩, hbS⟩ := HST.out _ (.int .i64 0) (.int .i64 0) (.string ⟨#[]⟩) (Below.refl _ _)
          go_wp2_with fail
          obtain ⟨t0, t1, t2⟩ := hS.c3
          refine bodyPost_ret (v := .tuple #[.agg #[.int .i64 0, .int .i64 0, .string ⟨#[]⟩], .bool false]) (by simp [results, Tryz.results149, go_sem, t0, t1, t2]) rfl ?_
          exact RetO.cast HNO.out ⟨⟨0, 0, ⟨#[]⟩⟩, rfl, fun x h => (by cases h), hbS⟩
        · have h1 : a ≤ Int.tdiv 4503599627370496 (-b) := Int.not_lt.1 (fun h => hbig (ht.1 h))
          rw [Int.tdiv_neg] at h1 wq
          have wm := HWR.out hbig
          clear ht hbig
          go_wp2_with fail
          refine (enumber_ref (a * b) _).mono ?_
          rintro e w2 ⟨v, rfl, hv, hb2⟩
          obtain ⟨⟨k0, k1, k2⟩, hS, ⟨y0, y1, y2⟩, hbS⟩ := HST.out _ (.int .i64 v.kind) (.int .i64 v.n) (.string v.s) hb2
          go_wp2_with fail
          obtain ⟨t0, t1, t2⟩ := hS.c3
          refine bodyPost_ret (v := .tuple #[.agg #[.int .i64 v.kind, .int .i64 v.n, .string v.s], .bool (numV (a * b)).isSome]) (by simp [results, Tryz.results149, go_sem, t0, t1, t2]) rfl ?_
          exact ⟨v, rfl, hv, hbS⟩
      · have hb3 : 0 < b := by omega
        have hqi := quo_in (Y := b) (by omega)
        have wq : IntKind.i64.wrap (Int.tdiv 4503599627370496 (b)) = Int.tdiv 4503599627370496 (b) := IntWalk.i64_in _ (by omega)
        have ht := HBT.out (a) (b) (by omega) (by omega)
        by_cases hbig : 4503599627370496 < (a * b).natAbs
        · have HNO := Lib.hid (HNB.out hbig)
          have h1 : Int.tdiv 4503599627370496 (b) < a := ht.2 hbig
          clear ht hbig
          obtain ⟨⟨k0, k1, k2⟩, hS, ⟨y0, y1, y2⟩, hbS⟩ := HST.out _ (.int .i64 0) (.int .i64 0) (.string ⟨#[]⟩) (Below.refl _ _)
          go_wp2_with fail
          obtain ⟨t0, t1, t2⟩ := hS.c3
          refine bodyPost_ret (v := .tuple #[.agg #[.int .i64 0, .int .i64 0, .string ⟨#[]⟩], .bool false]) (by simp [results, Tryz.results149, go_sem, t0, t1, t2]) rfl ?_
          exact RetO.cast HNO.out ⟨⟨0, 0, ⟨#[]⟩⟩, rfl, fun x h => (by cases h), hbS⟩
        · have h1 : a ≤ Int.tdiv 4503599627370496 (b) := Int.not_lt.1 (fun h => hbig (ht.1 h))
          have wm := HWR.out hbig
          clear ht hbig
          go_wp2_with fail
          refine (enumber_ref (a * b) _).mono ?_
          rintro e w2 ⟨v, rfl, hv, hb2⟩
          obtain ⟨⟨k0, k1, k2⟩, hS, ⟨y0, y1, y2⟩, hbS⟩ := HST.out _ (.int .i64 v.kind) (.int .i64 v.n) (.string v.s) hb2
          go_wp2_with fail
          obtain ⟨t0, t1, t2⟩ := hS.c3
          refine bodyPost_ret (v := .tuple #[.agg #[.int .i64 v.kind, .int .i64 v.n, .string v.s], .bool (numV (a * b)).isSome]) (by simp [results, Tryz.results149, go_sem, t0, t1, t2]) rfl ?_
          exact ⟨v, rfl, hv, hbS⟩
end Go.Proofs.YtlmenhjlgmejkaaGreatDoor

namespace Go.Proofs.YtlmenhjlgmejkaaGreatDoor
open Go.RowKit
set_option maxHeartbeats 4000000 in
set_option maxRecDepth 100000 in
theorem value_const (n : Nat) (vs : List Var) (vals : List Val) (x : Ex) (w : World) (uv vv u : Value) (h : EvArgs n vs vals x w uv vv u) (ho : x.op = 1) : Calls Tryz.prog 110 #[uv, vv, u] w (RetO (evX vs vals x) w) := by
  have HO := Lib.hid ho
  clear ho
  have h0 := h
  obtain ⟨hvs, hvl, hx, _, _, hA⟩ := h
  obtain ⟨Av, cv, rfl, v1, v2, hvs⟩ := hvs.open_
  obtain ⟨Aw, cw, rfl, v3, v4, hvl⟩ := hvl.open_
  obtain ⟨lv, rfl, h1, h2, h3, h4⟩ := hx
  obtain ⟨A, c, rfl, l1, l2, h4⟩ := h4.open_
  have hb := bbox (bone w (.cells #[.int .i64 x.op, .int .i64 x.v.kind, .int .i64 x.v.n, .string x.v.s, .string x.s, .slice A x.l.length c] 65)) (.cells #[.int .i64 0, .int .i64 0, .string ⟨#[]⟩] 63)
  have hB := (Blk.new w 65 #[.int .i64 x.op, .int .i64 x.v.kind, .int .i64 x.v.n, .string x.v.s, .string x.s, .slice A x.l.length c]).alloc (.cells #[.int .i64 0, .int .i64 0, .string ⟨#[]⟩] 63)
  have hR := Blk.new_at (t := 63) (cs := #[.int .i64 0, .int .i64 0, .string ⟨#[]⟩]) (w := w.alloc (.cells #[.int .i64 x.op, .int .i64 x.v.kind, .int .i64 x.v.n, .string x.v.s, .string x.s, .slice A x.l.length c] 65)) (s := w.heap.size + 1) (by simp)
  have hl1 := SlE.now h4 hb
  have hv1 := hvs.now hb
  have hw1 := hvl.now hb
  clear h4 hvs hvl
  go_enter Tryz.func110, Tryz.ntmps110
  go_upto_region 1 with fail
  generalize hww : (w.alloc (.cells #[.int .i64 x.op, .int .i64 x.v.kind, .int .i64 x.v.n, .string x.v.s, .string x.s, .slice A x.l.length c] 65)).alloc (.cells #[.int .i64 0, .int .i64 0, .string ⟨#[]⟩] 63) = w1 at *
  clear hww
  have ho := HO.out
  have HST : Hid (∀ (W : World) (x y z : Value), Below w1.heap.size w1 W →
      (W.frozen? ⟨w.heap.size + 1, 0, none⟩ = false ∧ W.frozen? ⟨w.heap.size + 1, 1, none⟩ = false ∧ W.frozen? ⟨w.heap.size + 1, 2, none⟩ = false) ∧
      Blk (((W.setCell ⟨w.heap.size + 1, 0, none⟩ x).setCell ⟨w.heap.size + 1, 1, none⟩ y).setCell ⟨w.heap.size + 1, 2, none⟩ z) (w.heap.size + 1) 63 #[x, y, z] ∧
      (W.cell? ⟨w.heap.size + 1, 0, none⟩ = some (.int .i64 0) ∧ W.cell? ⟨w.heap.size + 1, 1, none⟩ = some (.int .i64 0) ∧ W.cell? ⟨w.heap.size + 1, 2, none⟩ = some (.string ⟨#[]⟩)) ∧
      Below w.heap.size w (((W.setCell ⟨w.heap.size + 1, 0, none⟩ x).setCell ⟨w.heap.size + 1, 1, none⟩ y).setCell ⟨w.heap.size + 1, 2, none⟩ z)) :=
    fun W x y z hW => ⟨⟨(hR.now hW).frozen 0, (hR.now hW).frozen 1, (hR.now hW).frozen 2⟩, (hR.now hW).set3 _ _ _, (hR.now hW).c3, bset3 (bthen hb hW) (by omega) _ _ _⟩
  obtain ⟨q0, q1, q2, q3, q4, q5⟩ := hB.c6
  have HKEY := Lib.hid (ev_key vs vals x)
  have HSL := Lib.hid (shape_len h0.shape)
  have HR : Hid (evX vs vals x = some x.v) := by show _ = _; rw [HKEY.out]; unfold evO; rw [if_pos ho]
  obtain ⟨⟨k0, k1, k2⟩, hS, ⟨y0, y1, y2⟩, hbS⟩ := HST.out w1 (.int .i64 x.v.kind) (.int .i64 x.v.n) (.string x.v.s) (Below.refl _ _)
  go_wp2_with fail
  obtain ⟨t0, t1, t2⟩ := hS.c3
  refine bodyPost_ret (v := .tuple #[.agg #[.int .i64 x.v.kind, .int .i64 x.v.n, .string x.v.s], .bool true]) (by simp [results, Tryz.results110, go_sem, t0, t1, t2]) rfl ?_
  exact RetO.cast HR.out ⟨x.v, rfl, fun a h => (by injection h), hbS⟩
set_option maxHeartbeats 4000000 in
set_option maxRecDepth 100000 in
theorem value_var (n : Nat) (vs : List Var) (vals : List Val) (x : Ex) (w : World) (uv vv u : Value) (h : EvArgs n vs vals x w uv vv u) (ho : x.op = 2) : Calls Tryz.prog 110 #[uv, vv, u] w (RetO (evX vs vals x) w) := by
  have HO := Lib.hid ho
  clear ho
  have h0 := h
  obtain ⟨hvs, hvl, hx, _, _, hA⟩ := h
  obtain ⟨Av, cv, rfl, v1, v2, hvs⟩ := hvs.open_
  obtain ⟨Aw, cw, rfl, v3, v4, hvl⟩ := hvl.open_
  obtain ⟨lv, rfl, h1, h2, h3, h4⟩ := hx
  obtain ⟨A, c, rfl, l1, l2, h4⟩ := h4.open_
  have hb := bbox (bone w (.cells #[.int .i64 x.op, .int .i64 x.v.kind, .int .i64 x.v.n, .string x.v.s, .string x.s, .slice A x.l.length c] 65)) (.cells #[.int .i64 0, .int .i64 0, .string ⟨#[]⟩] 63)
  have hB := (Blk.new w 65 #[.int .i64 x.op, .int .i64 x.v.kind, .int .i64 x.v.n, .string x.v.s, .string x.s, .slice A x.l.length c]).alloc (.cells #[.int .i64 0, .int .i64 0, .string ⟨#[]⟩] 63)
  have hR := Blk.new_at (t := 63) (cs := #[.int .i64 0, .int .i64 0, .string ⟨#[]⟩]) (w := w.alloc (.cells #[.int .i64 x.op, .int .i64 x.v.kind, .int .i64 x.v.n, .string x.v.s, .string x.s, .slice A x.l.length c] 65)) (s := w.heap.size + 1) (by simp)
  have hl1 := SlE.now h4 hb
  have hv1 := hvs.now hb
  have hw1 := hvl.now hb
  clear h4 hvs hvl
  go_enter Tryz.func110, Tryz.ntmps110
  go_upto_region 1 with fail
  generalize hww : (w.alloc (.cells #[.int .i64 x.op, .int .i64 x.v.kind, .int .i64 x.v.n, .string x.v.s, .string x.s, .slice A x.l.length c] 65)).alloc (.cells #[.int .i64 0, .int .i64 0, .string ⟨#[]⟩] 63) = w1 at *
  clear hww
  have ho := HO.out
  have HST : Hid (∀ (W : World) (x y z : Value), Below w1.heap.size w1 W →
      (W.frozen? ⟨w.heap.size + 1, 0, none⟩ = false ∧ W.frozen? ⟨w.heap.size + 1, 1, none⟩ = false ∧ W.frozen? ⟨w.heap.size + 1, 2, none⟩ = false) ∧
      Blk (((W.setCell ⟨w.heap.size + 1, 0, none⟩ x).setCell ⟨w.heap.size + 1, 1, none⟩ y).setCell ⟨w.heap.size + 1, 2, none⟩ z) (w.heap.size + 1) 63 #[x, y, z] ∧
      (W.cell? ⟨w.heap.size + 1, 0, none⟩ = some (.int .i64 0) ∧ W.cell? ⟨w.heap.size + 1, 1, none⟩ = some (.int .i64 0) ∧ W.cell? ⟨w.heap.size + 1, 2, none⟩ = some (.string ⟨#[]⟩)) ∧
      Below w.heap.size w (((W.setCell ⟨w.heap.size + 1, 0, none⟩ x).setCell ⟨w.heap.size + 1, 1, none⟩ y).setCell ⟨w.heap.size + 1, 2, none⟩ z)) :=
    fun W x y z hW => ⟨⟨(hR.now hW).frozen 0, (hR.now hW).frozen 1, (hR.now hW).frozen 2⟩, (hR.now hW).set3 _ _ _, (hR.now hW).c3, bset3 (bthen hb hW) (by omega) _ _ _⟩
  obtain ⟨q0, q1, q2, q3, q4, q5⟩ := hB.c6
  have HKEY := Lib.hid (ev_key vs vals x)
  have HSL := Lib.hid (shape_len h0.shape)
  have hf : ¬ findV vs x.s < 0 := by
    intro hf
    have ht := (types_of h0.hty).2
    unfold typO at ht
    rw [if_neg (by omega), if_pos ho, if_pos hf] at ht
    cases ht
  obtain ⟨i, z, hi, hz⟩ := find_at hf
  have hil : i < vals.length := by
    rw [hA.len]
    rcases Nat.lt_or_ge i vs.length with h | h
    · exact h
    · rw [List.getElem?_eq_none h] at hz; cases hz
  have HFI := Lib.hid hi
  clear hf hi hz
  go_wp2_with fail
  refine (find_ref vs x.s _ _ hv1).mono ?_
  rintro e w9 ⟨rfl, rfl⟩
  have hb2 : Below w1.heap.size w1 w1 := Below.refl _ _
  rw [HFI.out]
  obtain ⟨b, o, v, rfl, hD, hv, hfv, c0, c1, c2⟩ := (hw1.now hb2).at_ hil
  have HR : Hid (evX vs vals x = some v) := by
    show _ = _
    rw [HKEY.out]
    unfold evO
    rw [if_neg (by omega), if_pos ho]
    unfold varV
    rw [HFI.out, Int.toNat_natCast, List.getD_eq_getElem?_getD, hv]; rfl
  have i1 : (0 : Int) ≤ (i : Int) := by omega
  have i2 : (i : Int) < (vals.length : Int) := by omega
  clear hv q0 q1 q2 q3 q4 q5
  obtain ⟨⟨k0, k1, k2⟩, hS, ⟨y0, y1, y2⟩, hbS⟩ := HST.out w1 (.int .i64 v.kind) (.int .i64 v.n) (.string v.s) hb2
  go_wp2_with fail
  obtain ⟨t0, t1, t2⟩ := hS.c3
  refine bodyPost_ret (v := .tuple #[.agg #[.int .i64 v.kind, .int .i64 v.n, .string v.s], .bool true]) (by simp [results, Tryz.results110, go_sem, t0, t1, t2]) rfl ?_
  exact RetO.cast HR.out ⟨v, rfl, fun a h => (by injection h), hbS⟩
set_option maxHeartbeats 4000000 in
set_option maxRecDepth 100000 in
theorem value_not (n : Nat) (ih : ∀ m, m < n → EvalAt 110 m) (vs : List Var) (vals : List Val) (x : Ex) (w : World) (uv vv u : Value) (h : EvArgs n vs vals x w uv vv u) (ho : x.op = 3) : Calls Tryz.prog 110 #[uv, vv, u] w (RetO (evX vs vals x) w) := by
  have HO := Lib.hid ho
  clear ho
  have h0 := h
  obtain ⟨hvs, hvl, hx, _, _, hA⟩ := h
  obtain ⟨Av, cv, rfl, v1, v2, hvs⟩ := hvs.open_
  obtain ⟨Aw, cw, rfl, v3, v4, hvl⟩ := hvl.open_
  obtain ⟨lv, rfl, h1, h2, h3, h4⟩ := hx
  obtain ⟨A, c, rfl, l1, l2, h4⟩ := h4.open_
  have hb := bbox (bone w (.cells #[.int .i64 x.op, .int .i64 x.v.kind, .int .i64 x.v.n, .string x.v.s, .string x.s, .slice A x.l.length c] 65)) (.cells #[.int .i64 0, .int .i64 0, .string ⟨#[]⟩] 63)
  have hB := (Blk.new w 65 #[.int .i64 x.op, .int .i64 x.v.kind, .int .i64 x.v.n, .string x.v.s, .string x.s, .slice A x.l.length c]).alloc (.cells #[.int .i64 0, .int .i64 0, .string ⟨#[]⟩] 63)
  have hR := Blk.new_at (t := 63) (cs := #[.int .i64 0, .int .i64 0, .string ⟨#[]⟩]) (w := w.alloc (.cells #[.int .i64 x.op, .int .i64 x.v.kind, .int .i64 x.v.n, .string x.v.s, .string x.s, .slice A x.l.length c] 65)) (s := w.heap.size + 1) (by simp)
  have hl1 := SlE.now h4 hb
  have hv1 := hvs.now hb
  have hw1 := hvl.now hb
  clear h4 hvs hvl
  go_enter Tryz.func110, Tryz.ntmps110
  go_upto_region 1 with fail
  generalize hww : (w.alloc (.cells #[.int .i64 x.op, .int .i64 x.v.kind, .int .i64 x.v.n, .string x.v.s, .string x.s, .slice A x.l.length c] 65)).alloc (.cells #[.int .i64 0, .int .i64 0, .string ⟨#[]⟩] 63) = w1 at *
  clear hww
  have ho := HO.out
  have HST : Hid (∀ (W : World) (x y z : Value), Below w1.heap.size w1 W →
      (W.frozen? ⟨w.heap.size + 1, 0, none⟩ = false ∧ W.frozen? ⟨w.heap.size + 1, 1, none⟩ = false ∧ W.frozen? ⟨w.heap.size + 1, 2, none⟩ = false) ∧
      Blk (((W.setCell ⟨w.heap.size + 1, 0, none⟩ x).setCell ⟨w.heap.size + 1, 1, none⟩ y).setCell ⟨w.heap.size + 1, 2, none⟩ z) (w.heap.size + 1) 63 #[x, y, z] ∧
      (W.cell? ⟨w.heap.size + 1, 0, none⟩ = some (.int .i64 0) ∧ W.cell? ⟨w.heap.size + 1, 1, none⟩ = some (.int .i64 0) ∧ W.cell? ⟨w.heap.size + 1, 2, none⟩ = some (.string ⟨#[]⟩)) ∧
      Below w.heap.size w (((W.setCell ⟨w.heap.size + 1, 0, none⟩ x).setCell ⟨w.heap.size + 1, 1, none⟩ y).setCell ⟨w.heap.size + 1, 2, none⟩ z)) :=
    fun W x y z hW => ⟨⟨(hR.now hW).frozen 0, (hR.now hW).frozen 1, (hR.now hW).frozen 2⟩, (hR.now hW).set3 _ _ _, (hR.now hW).c3, bset3 (bthen hb hW) (by omega) _ _ _⟩
  obtain ⟨q0, q1, q2, q3, q4, q5⟩ := hB.c6
  have HKEY := Lib.hid (ev_key vs vals x)
  have HSL := Lib.hid (shape_len h0.shape)
  have hlen : 1 ≤ x.l.length := by have := HSL.out; omega
  obtain ⟨b, o, y, ylv, n', hn, rfl, hD, hy, hex, hfv, hsl, e0, e1, e2, e3, e4, e5⟩ := hl1.at_ (k := 0) (by omega)
  have HY := Lib.hid hy
  have hym := List.mem_of_getElem? hy
  obtain ⟨A2, c2', rfl, m1, m2, _⟩ := hsl.open_
  have hcall := Lib.hid (ih n' (by omega) vs vals y _ _ _ _ (h0.part hym hb hex))
  have HV0 := Lib.hid (fun (a : Val) (h : evX vs vals y = some a) => h0.val hym h)
  have i0 : (0 : Int) < (x.l.length : Int) := by omega
  have e0' : w1.cell? ⟨b, o, none⟩ = some (.int .i64 y.op) := by simpa using e0
  have e1' : w1.cell? ⟨b, o + 1, none⟩ = some (.int .i64 y.v.kind) := by simpa using e1
  have e2' : w1.cell? ⟨b, o + 2, none⟩ = some (.int .i64 y.v.n) := by simpa using e2
  have e3' : w1.cell? ⟨b, o + 3, none⟩ = some (.string y.v.s) := by simpa using e3
  have e4' : w1.cell? ⟨b, o + 4, none⟩ = some (.string y.s) := by simpa using e4
  have e5' : w1.cell? ⟨b, o + 5, none⟩ = some (.slice A2 y.l.length c2') := by simpa using e5
  clear hy hex hsl hfv e0 e1 e2 e3 e4 e5 hn
  go_wp2_with fail
  refine hcall.out.mono ?_
  clear hcall e0' e1' e2' e3' e4' e5'
  rintro e w2 ⟨v0, rfl, hv0, hb2⟩
  have HG0 := Lib.hid (getD_map (f := evX vs vals) HY.out)
  generalize hr0 : evX vs vals y = r0 at *
  have hb3 := bone w2 (.cells #[.int .i64 v0.kind, .int .i64 v0.n, .string v0.s] 63)
  have hF := Blk.new w2 63 #[.int .i64 v0.kind, .int .i64 v0.n, .string v0.s]
  have hb13 := bthen hb2 hb3
  have hB3 := hB.now hb13
  have hl3 := SlE.now hl1 hb13
  clear q0 q1 q2 q3 q4 q5
  have l2' := hF.lt
  go_upto_region 7 with fail
  generalize hw3 : w2.alloc (.cells #[.int .i64 v0.kind, .int .i64 v0.n, .string v0.s] 63) = w3 at *
  clear hw3
  obtain ⟨q0, q1, q2, q3, q4, q5⟩ := hB3.c6
  obtain ⟨f0, f1, f2⟩ := hF.c3
  cases r0 with
  | none =>
    have HR : Hid (evX vs vals x = none) := by
      show _ = _
      rw [HKEY.out]
      unfold evO
      rw [if_neg (by omega), if_neg (by omega), HG0.out]
    clear f0 f1 f2 q0 q1 q2 q3 q4 q5
    obtain ⟨⟨k0, k1, k2⟩, hS, ⟨y0, y1, y2⟩, hbS⟩ := HST.out w3 (.int .i64 0) (.int .i64 0) (.string ⟨#[]⟩) hb13
    go_wp2_with fail
    obtain ⟨t0, t1, t2⟩ := hS.c3
    refine bodyPost_ret (v := .tuple #[.agg #[.int .i64 0, .int .i64 0, .string ⟨#[]⟩], .bool false]) (by simp [results, Tryz.results110, go_sem, t0, t1, t2]) rfl ?_
    exact RetO.cast HR.out ⟨⟨0, 0, ⟨#[]⟩⟩, rfl, fun a h => (by cases h), hbS⟩

  | some a =>
    obtain rfl : v0 = a := hv0 a rfl
    have HVA := Lib.hid (HV0.out _ rfl)
    clear hv0
    have HR : Hid (evX vs vals x = some (truthV (decide (v0.n = 0)))) := by
      show _ = _
      rw [HKEY.out]
      unfold evO
      rw [if_neg (by omega), if_neg (by omega), HG0.out]
      exact if_pos ho
    generalize hd : decide (v0.n = 0) = d at *
    have hd' : (v0.n == 0) = d := hd
    clear hd
    go_wp2_with fail
    refine (truth_ref d _).mono ?_
    rintro e w4 ⟨rfl, hb4⟩
    clear f0 f1 f2 q0 q1 q2 q3 q4 q5
    have ev : valV (truthV d) = .agg #[.int .i64 (truthV d).kind, .int .i64 (truthV d).n, .string (truthV d).s] := rfl
    rw [ev]
    generalize truthV d = tv at *
    obtain ⟨⟨k0, k1, k2⟩, hS, ⟨y0, y1, y2⟩, hbS⟩ := HST.out w4 (.int .i64 tv.kind) (.int .i64 tv.n) (.string tv.s) (bthen hb13 hb4)
    go_wp2_with fail
    obtain ⟨t0, t1, t2⟩ := hS.c3
    refine bodyPost_ret (v := .tuple #[.agg #[.int .i64 tv.kind, .int .i64 tv.n, .string tv.s], .bool true]) (by simp [results, Tryz.results110, go_sem, t0, t1, t2]) rfl ?_
    exact RetO.cast HR.out ⟨tv, rfl, fun a h => (by injection h), hbS⟩
end Go.Proofs.YtlmenhjlgmejkaaGreatDoor

namespace Go.Proofs.YtlmenhjlgmejkaaGreatDoor
open Go.RowKit
def Fr (B : Nat) (w : World) (b : Nat) : Prop := B ≤ b ∧ b < w.heap.size
theorem SlI.weak {B : Nat} {w : World} {v : Value} {zs : List Int} (h : SlI (Fr B w) w v zs) : SlI (Lt w.heap.size) w v zs := Sl.keep h RInt.kept (fun _ hb => hb.2) (Same.refl _ _)
theorem SlI.nowF {B : Nat} {w w' : World} {v : Value} {zs : List Int} (h : SlI (Fr B w) w v zs) (hb : Below w.heap.size w w') : SlI (Fr B w') w' v zs :=
  Sl.keep h RInt.kept (fun _ hx => ⟨hx.1, Nat.lt_of_lt_of_le hx.2 hb.size⟩) (fun b hx => hb.block b hx.2)
theorem SlI.from_ {B B' : Nat} {w : World} {v : Value} {zs : List Int} (h : SlI (Fr B w) w v zs) (hb : B' ≤ B) : SlI (Fr B' w) w v zs :=
  Sl.keep h RInt.kept (fun _ hx => ⟨Nat.le_trans hb hx.1, hx.2⟩) (Same.refl _ _)
theorem fresh_own {w : World} {base B g cap : Nat} {zs : List Int} (h : OwnI w base 3 g cap zs) (hB : B ≤ base) (hf : ∀ z ∈ zs, Fit z) : SlI (Fr B w) w (.slice (some ⟨g, 0, none⟩) zs.length cap) zs :=
  Sl.of_own1 h.1 (by simp) (fun q hq => by have := h.1.lt q hq; exact ⟨by omega, this.2⟩) fun i x hx => ⟨.int .i64 x, by simp [hx], rfl, hf x (List.mem_of_getElem? hx)⟩
def RetIF (zs : List Int) (c : Int) (w : World) (e : Ending) (w' : World) : Prop := ∃ v, e = .returned (.tuple #[v, .int .i64 c]) ∧ SlI (Fr w.heap.size w') w' v zs ∧ Below w.heap.size w w'
set_option maxHeartbeats 1000000 in
theorem fireF_any (n : Net) (v mv : Value) (m : List Int) (t : Int) (w : World) (h : IsNet (Lt w.heap.size) w v n) (hm : SlI (Lt w.heap.size) w mv m) (hv : validB n = true) (hk : markingB n.places m = true) :
    Calls Tryz.prog 91 #[v, mv, .int .i64 t] w (RetIF (fireB n m t).1 (fireB n m t).2 w) := by
  obtain ⟨v1, v2, v3, v4⟩ := validOk hv
  obtain ⟨hml, hmw⟩ := markOk hk
  clear hv hk
  obtain ⟨tv, rfl, hp, hs, hkk, ht⟩ := h
  obtain ⟨A, c, rfl, h1, h2, ht⟩ := ht.open_
  by_cases h0 : t < 0
  · rw [fireB_none (.inl h0)]
    go_enter Tryz.func91, Tryz.ntmps91
    go_wp2_with fail
    go_ret2
    exact ⟨_, rfl, Sl.none_, bone _ _⟩
  obtain ⟨k, rfl⟩ := Int.eq_ofNat_of_zero_le (Int.not_lt.1 h0)
  by_cases h3 : n.trans.length ≤ k
  · rw [fireB_none (.inr (by omega))]
    go_enter Tryz.func91, Tryz.ntmps91
    go_wp2_with fail
    go_ret2
    exact ⟨_, rfl, Sl.none_, bone _ _⟩
  have hkl : k < n.trans.length := by omega
  have hb := bone w (Obj.cells #[Value.int IntKind.i64 n.places, Value.slice A n.trans.length c, Value.int IntKind.i64 n.source, Value.int IntKind.i64 n.sink] 24)
  obtain ⟨b, o, x, iv, ov, rfl, hD, hx, hl, hti, hto, c0, c1, c2⟩ := (ht.now hb).at_ hkl
  rw [fireB_some hx]
  obtain ⟨Ai, ci, rfl, i1, i2, hti⟩ := hti.open_
  obtain ⟨Ao, co, rfl, o1, o2, hto⟩ := hto.open_
  obtain ⟨pi, po⟩ := trPlaces (v4 x (List.mem_of_getElem? hx))
  have li := places_len pi
  have lo := places_len po
  have hin : Inside x.ins m := fun p hp => by have := places_mem pi p hp; omega
  have hout : Inside x.outs m := fun p hp => by have := places_mem po p hp; omega
  have hnn : NonNeg m := fun z hz => (hmw z hz).1
  have hm0 : 0 < m.length := by omega
  have HMW := Lib.hid hmw
  clear hx v4 pi po hmw h0 h3
  go_enter Tryz.func91, Tryz.ntmps91
  go_wp2_with fail
  have hm1 := hm.now (bbox hb (.cells #[.string x.label, .slice Ai x.ins.length ci, .slice Ao x.outs.length co] 112))
  have hti1 := hti.now (bone _ (.cells #[.string x.label, .slice Ai x.ins.length ci, .slice Ao x.outs.length co] 112))
  have hto1 := hto.now (bone _ (.cells #[.string x.label, .slice Ai x.ins.length ci, .slice Ao x.outs.length co] 112))
  have hT1 := Blk.new (w.alloc (.cells #[Value.int IntKind.i64 n.places, Value.slice (some ⟨b, o, none⟩) n.trans.length c, Value.int IntKind.i64 n.source, Value.int IntKind.i64 n.sink] 24)) 112 #[.string x.label, .slice Ai x.ins.length ci, .slice Ao x.outs.length co]
  refine (enabled_any x _ _ m _ ⟨_, _, rfl, hl, hti1, hto1⟩ hm1 hin hnn).mono ?_
  rintro e w1 ⟨rfl, hb1⟩
  have hm2 := hm1.now hb1
  have hti2 := hti1.now hb1
  have hto2 := hto1.now hb1
  have hT2 := hT1.now hb1
  have hbw1 := bthen (bbox hb (.cells #[.string x.label, .slice Ai x.ins.length ci, .slice Ao x.outs.length co] 112)) hb1
  simp only [World.size_alloc] at hT2
  clear hm1 hti1 hto1 hT1 hti hto hm hb hb1 c0 c1 c2
  generalize hc : canB x.ins m = q
  have HC := Lib.hid hc
  clear hc
  cases q
  · have HE : Hid (fireT x m = ([], 12)) := by show fireT x m = _; unfold fireT; rw [HC.out]; rfl
    go_wp2_with fail
    go_ret2
    rw [HE.out]
    exact ⟨_, rfl, Sl.none_, hbw1⟩
  · go_wp2_with fail
    refine (cloneI _ m _ hm2 (by omega)).mono ?_
    rintro e w2 ⟨vo, rfl, hown, hb2⟩
    obtain ⟨g, cap, rfl, hcap, hown⟩ := OwnI.of hown hm0
    clear hm2
    obtain ⟨r0, r1, r2⟩ := (hT2.now hb2).c3
    go_wp2_with fail
    clear r0 r1 r2
    go_loopw [37] (fun i wr => ∃ j : Nat, j ≤ x.ins.length ∧ i = .int .i64 j ∧ OwnI wr w1.heap.size 3 g cap (bump (-1) m (x.ins.take j)) ∧ Below w1.heap.size w1 wr) (fun i _ => x.ins.length - (intOf i).toNat)
    case atStart => exact ⟨0, Nat.zero_le _, rfl, hown, hb2⟩
    case round =>
      obtain ⟨j, hj, rfl, howr, hbr⟩ := hrel
      obtain ⟨r0, r1, r2⟩ := (hT2.now hbr).c3
      have hgb := howr.from_
      by_cases hlt : j < x.ins.length
      · obtain ⟨b1, o1', p, rfl, hD1, hx1, hf1, d1⟩ := (hti2.now hbr).at_ hlt
        obtain ⟨hp0, hp1⟩ := hin p (List.mem_of_getElem? hx1)
        obtain ⟨y, rfl⟩ := Int.eq_ofNat_of_zero_le hp0
        rw [Int.toNat_natCast] at hp1
        have hyl : y < (bump (-1) m (x.ins.take j)).length := by rw [bump_length]; exact hp1
        have hcell := howr.cell (get_of_within hyl)
        have hfro := howr.frozen y
        have hwi := within_get (within_bump (-1) (.inr rfl) (x.ins.take j) 0 100 _ HMW.out (by omega) (by omega) (fun q hq => (hin q (List.mem_of_mem_take hq)).2)) hyl
        rw [List.length_take, Nat.min_eq_left hj] at hwi
        have HS : Hid (bump (-1) m (x.ins.take (j + 1)) = (bump (-1) m (x.ins.take j)).set y ((bump (-1) m (x.ins.take j)).getD y 0 + (-1))) := by
          have := bump_snoc (-1) m x.ins j _ hx1
          unfold bump1 at this
          rwa [Int.toNat_natCast] at this
        generalize hz : (bump (-1) m (x.ins.take j)).getD y 0 = z at hcell hwi HS
        clear hz hx1 hf1 hD1
        go_wp2_with fail
        go_roundw
        case rel =>
          refine ⟨j + 1, by omega, by go_num, ?_, hbr.setCell hgb _⟩
          rw [HS.out]
          exact howr.set_ y _
        case measure => simp [intOf]; omega
      · obtain rfl : j = x.ins.length := by omega
        rw [List.take_of_length_le (Nat.le_refl _)] at howr
        have HW1 : Hid (Within (-40) 140 (bump (-1) m x.ins)) := within_mono (within_bump (-1) (.inr rfl) x.ins 0 100 m HMW.out (by omega) (by omega) (fun q hq => (hin q hq).2)) (by omega) (by omega)
        obtain ⟨wi, rfl⟩ : ∃ wi : World, wi = wr := ⟨_, rfl⟩
        have howi := howr
        have hbi := hbr
        clear howr
        go_wp2_with fail
        go_loopw [51] (fun i wr => ∃ j : Nat, j ≤ x.outs.length ∧ i = .int .i64 j ∧ OwnI wr w1.heap.size 3 g cap (bump 1 (bump (-1) m x.ins) (x.outs.take j)) ∧ Below w1.heap.size w1 wr) (fun i _ => x.outs.length - (intOf i).toNat)
        case atStart => exact ⟨0, Nat.zero_le _, rfl, howi, hbi⟩
        case round =>
          obtain ⟨j, hj, rfl, howr, hbr⟩ := hrel
          obtain ⟨r0, r1, r2⟩ := (hT2.now hbr).c3
          have hgb := howr.from_
          by_cases hlt : j < x.outs.length
          · obtain ⟨b1, o1', p, rfl, hD1, hx1, hf1, d1⟩ := (hto2.now hbr).at_ hlt
            obtain ⟨hp0, hp1⟩ := hout p (List.mem_of_getElem? hx1)
            obtain ⟨y, rfl⟩ := Int.eq_ofNat_of_zero_le hp0
            rw [Int.toNat_natCast] at hp1
            have hyl : y < (bump 1 (bump (-1) m x.ins) (x.outs.take j)).length := by rw [bump_length]; rw [bump_length]; exact hp1
            have hcell := howr.cell (get_of_within hyl)
            have hfro := howr.frozen y
            have hwi := within_get (within_bump 1 (.inl rfl) (x.outs.take j) (-40) 140 _ HW1.out (by omega) (by omega) (fun q hq => by rw [bump_length]; exact (hout q (List.mem_of_mem_take hq)).2)) hyl
            rw [List.length_take, Nat.min_eq_left hj] at hwi
            have HS : Hid (bump 1 (bump (-1) m x.ins) (x.outs.take (j + 1)) = (bump 1 (bump (-1) m x.ins) (x.outs.take j)).set y ((bump 1 (bump (-1) m x.ins) (x.outs.take j)).getD y 0 + 1)) := by
              have := bump_snoc 1 (bump (-1) m x.ins) x.outs j _ hx1
              unfold bump1 at this
              rwa [Int.toNat_natCast] at this
            generalize hz : (bump 1 (bump (-1) m x.ins) (x.outs.take j)).getD y 0 = z at hcell hwi HS
            clear hz hx1 hf1 hD1
            go_wp2_with fail
            go_roundw
            case rel =>
              refine ⟨j + 1, by omega, by go_num, ?_, hbr.setCell hgb _⟩
              rw [HS.out]
              exact howr.set_ y _
            case measure => simp [intOf]; omega
          · obtain rfl : j = x.outs.length := by omega
            rw [List.take_of_length_le (Nat.le_refl _)] at howr
            have hfin : OwnI wr w1.heap.size 3 g cap (outOf x m) := howr
            have hlen : (outOf x m).length = m.length := by unfold outOf; rw [bump_length, bump_length]
            have hfits := within_fit (within_bump 1 (.inl rfl) x.outs (-40) 140 _ HW1.out (by omega) (by omega) (fun q hq => by rw [bump_length]; exact (hout q hq).2)) (by omega) (by omega)
            have HSL := Lib.hid (hfin.sl hfits)
            have HSF : Hid (SlI (Fr w.heap.size wr) wr (.slice (some ⟨g, 0, none⟩) m.length cap) (outOf x m)) := by rw [← hlen]; exact fresh_own hfin hbw1.size hfits
            have HBW := Lib.hid (bthen hbw1 hbr)
            have HMX : Hid (Calls Tryz.prog 133 #[.slice (some ⟨g, 0, none⟩) m.length cap] wr fun e w' => e = .returned (.int .i64 (Lib.maxOf (outOf x m))) ∧ w' = wr) := by
              have := maxI _ _ wr HSL.out (by omega)
              rwa [hlen] at this
            rw [hlen] at HSL
            clear howr hfin hlen hfits hbr r0 r1 r2
            by_cases hmx : 100 < Lib.maxOf (outOf x m)
            · have HE : Hid (fireT x m = ([], 5)) := by show fireT x m = _; unfold fireT; rw [HC.out, if_pos hmx]; rfl
              generalize Lib.maxOf (outOf x m) = mx at HMX hmx
              go_wp2_with (go_at_call 133; refine HMX.out.mono ?_; rintro e w' ⟨rfl, rfl⟩)
              go_ret2
              rw [HE.out]
              exact ⟨_, rfl, Sl.none_, HBW.out⟩
            · have HE : Hid (fireT x m = (outOf x m, 0)) := by show fireT x m = _; unfold fireT; rw [HC.out, if_neg hmx]; rfl
              generalize Lib.maxOf (outOf x m) = mx at HMX hmx
              go_wp2_with (go_at_call 133; refine HMX.out.mono ?_; rintro e w' ⟨rfl, rfl⟩)
              go_ret2
              rw [HE.out]
              exact ⟨_, rfl, HSF.out, HBW.out⟩
set_option maxHeartbeats 1000000 in
theorem firePF_any (n : Net) (v mv : Value) (m : List Int) (t : Int) (w : World) (h : IsNet (Lt w.heap.size) w v n) (hm : SlI (Lt w.heap.size) w mv m) :
    Calls Tryz.prog 47 #[v, mv, .int .i64 t] w (RetIF (fireE n m t).1 (fireE n m t).2 w) := by
  have h0 := h
  obtain ⟨tv, rfl, hp, hs, hkk, ht⟩ := h
  obtain ⟨A, c, rfl, h1, h2, ht⟩ := ht.open_
  go_enter Tryz.func47, Tryz.ntmps47
  go_wp2_with fail
  have hb := bone w (Obj.cells #[Value.int IntKind.i64 n.places, Value.slice A n.trans.length c, Value.int IntKind.i64 n.source, Value.int IntKind.i64 n.sink] 24)
  refine (marking_any n _ _ m _ (h0.now hb) (hm.now hb)).mono ?_
  rintro e w1 ⟨rfl, hb1⟩
  have hbw := bthen hb hb1
  obtain ⟨q0, q1, q2, q3⟩ := ((Blk.new w 24 #[.int .i64 n.places, .slice A n.trans.length c, .int .i64 n.source, .int .i64 n.sink]).now hb1).c4
  generalize hq : (validB n && markingB n.places m) = q
  have HQ := Lib.hid hq
  clear hq
  cases q
  · have HE : Hid (fireE n m t = ([], 1)) := by show fireE n m t = _; unfold fireE; rw [HQ.out]; rfl
    go_wp2_with fail
    go_ret2
    rw [HE.out]
    exact ⟨_, rfl, Sl.none_, hbw⟩
  · have HE : Hid (fireE n m t = fireB n m t) := by show fireE n m t = _; unfold fireE; rw [HQ.out]; rfl
    have hvm := HQ.out
    rw [Bool.and_eq_true] at hvm
    have HF := Lib.hid (fireF_any n _ _ m t w1 (h0.now hbw) (hm.now hbw) hvm.1 hvm.2)
    clear hvm
    go_wp2_with fail
    refine HF.out.mono ?_
    rintro e w2 ⟨v', rfl, hsl, hb2⟩
    clear HF
    generalize fireB n m t = r at *
    go_wp2_with fail
    go_ret2
    rw [HE.out]
    exact ⟨_, rfl, Sl.keep hsl RInt.kept (fun b hb => ⟨Nat.le_trans hbw.size hb.1, hb.2⟩) (Same.refl _ _), bthen hbw hb2⟩
end Go.Proofs.YtlmenhjlgmejkaaGreatDoor
