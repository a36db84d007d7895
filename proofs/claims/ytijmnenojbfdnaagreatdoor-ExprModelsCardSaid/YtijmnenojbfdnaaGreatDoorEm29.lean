/- Texts of this seat, merged. -/
import Derived.BigQuiet
import Derived.Test.YtijmnenojbfdnaaGreatDoorEm01
import Derived.Test.YtijmnenojbfdnaaGreatDoorEm02
import Derived.Test.YtijmnenojbfdnaaGreatDoorEm03
import Derived.Test.YtijmnenojbfdnaaGreatDoorEm04
import Derived.Test.YtijmnenojbfdnaaGreatDoorEm05
import Derived.Test.YtijmnenojbfdnaaGreatDoorEm06
import Derived.Test.YtijmnenojbfdnaaGreatDoorEm07
import Derived.Test.YtijmnenojbfdnaaGreatDoorEm08
import Derived.Test.YtijmnenojbfdnaaGreatDoorEm09
import Derived.Test.YtijmnenojbfdnaaGreatDoorEm10
import Derived.Test.YtijmnenojbfdnaaGreatDoorEm11
import Derived.Test.YtijmnenojbfdnaaGreatDoorEm12
import Derived.Test.YtijmnenojbfdnaaGreatDoorEm13
import Derived.Test.YtijmnenojbfdnaaGreatDoorEm21
set_option linter.unusedSimpArgs false
set_option linter.unusedVariables false
namespace Go.Proofs.YtijmnenojbfdnaaGreatDoor
open Go.RowKit
set_option maxHeartbeats 400000 in
theorem truth_ref (b : Bool) (w : World) : Calls Tryz.prog 88 #[.bool b] w fun e w' => e = .returned (valV (truthV b)) ∧ Below w.heap.size w w' := by
  have hb := bone w (.cells #[.int .i64 0, .int .i64 0, .string ⟨#[]⟩] 25)
  have hB := Blk.new w 25 #[.int .i64 0, .int .i64 0, .string ⟨#[]⟩]
  obtain ⟨x0, x1, x2⟩ := hB.c3
  have k0 := hB.frozen 0
  have k1 := hB.frozen 1
  have k2 := hB.frozen 2
  cases b
  · go_enter Tryz.func88, Tryz.ntmps88
    go_upto_region 1 with fail
    generalize hw1 : w.alloc (.cells #[.int .i64 0, .int .i64 0, .string ⟨#[]⟩] 25) = w1 at *
    clear hw1
    go_wp2_with fail
    obtain ⟨t0, t1, t2⟩ := (hB.set3 (.int .i64 1) (.int .i64 0) (.string ⟨#[]⟩)).c3
    refine bodyPost_ret (v := .agg #[.int .i64 1, .int .i64 0, .string ⟨#[]⟩]) (by simp [results, Tryz.results88, go_sem, t0, t1, t2]) rfl ?_
    exact ⟨rfl, bset3 hb (Nat.le_refl _) _ _ _⟩
  · go_enter Tryz.func88, Tryz.ntmps88
    go_upto_region 1 with fail
    generalize hw1 : w.alloc (.cells #[.int .i64 0, .int .i64 0, .string ⟨#[]⟩] 25) = w1 at *
    clear hw1
    go_wp2_with fail
    obtain ⟨t0, t1, t2⟩ := (hB.set3 (.int .i64 1) (.int .i64 1) (.string ⟨#[]⟩)).c3
    refine bodyPost_ret (v := .agg #[.int .i64 1, .int .i64 1, .string ⟨#[]⟩]) (by simp [results, Tryz.results88, go_sem, t0, t1, t2]) rfl ?_
    exact ⟨rfl, bset3 hb (Nat.le_refl _) _ _ _⟩
set_option maxHeartbeats 400000 in
theorem enumber_ref (n : Int) (w : World) : Calls Tryz.prog 89 #[.int .i64 n] w (RetO (numV n) w) := by
  have hb := bone w (.cells #[.int .i64 0, .int .i64 0, .string ⟨#[]⟩] 25)
  have hB := Blk.new w 25 #[.int .i64 0, .int .i64 0, .string ⟨#[]⟩]
  obtain ⟨x0, x1, x2⟩ := hB.c3
  have k0 := hB.frozen 0
  have k1 := hB.frozen 1
  have k2 := hB.frozen 2
  have HCS : Hid (∀ Q : Prop, ((-4503599627370496 ≤ n ∧ n ≤ 4503599627370496) → Q) → (n < -4503599627370496 → Q) → (-4503599627370496 ≤ n → 4503599627370496 < n → Q) → Q) := by
    intro Q a1 a2 a3
    by_cases h1 : n < -4503599627370496
    · exact a2 h1
    · by_cases h2 : 4503599627370496 < n
      · exact a3 (by omega) h2
      · exact a1 ⟨by omega, by omega⟩
  refine HCS.out _ (fun h => ?_) (fun h => ?_) (fun h h' => ?_)
  · have HN := Lib.hid (num_yes (numB_yes h.1 h.2))
    obtain ⟨h1, h2⟩ := h
    generalize numV n = r at *
    clear HCS
    go_enter Tryz.func89, Tryz.ntmps89
    go_upto_region 1 with fail
    generalize hw1 : w.alloc (.cells #[.int .i64 0, .int .i64 0, .string ⟨#[]⟩] 25) = w1 at *
    clear hw1
    go_wp2_with fail
    obtain ⟨t0, t1, t2⟩ := (hB.set3 (.int .i64 2) (.int .i64 n) (.string ⟨#[]⟩)).c3
    refine bodyPost_ret (v := .tuple #[.agg #[.int .i64 2, .int .i64 n, .string ⟨#[]⟩], .bool true]) (by simp [results, Tryz.results89, go_sem, t0, t1, t2]) rfl ?_
    exact ⟨⟨2, n, ⟨#[]⟩⟩, by rw [HN.out]; rfl, fun a h => (by rw [HN.out] at h; injection h), bset3 hb (Nat.le_refl _) _ _ _⟩
  all_goals
    have HN := Lib.hid (num_no (numB_no (n := n) (fun h => by omega)))
    generalize numV n = r at *
    clear HCS
    go_enter Tryz.func89, Tryz.ntmps89
    go_upto_region 1 with fail
    generalize hw1 : w.alloc (.cells #[.int .i64 0, .int .i64 0, .string ⟨#[]⟩] 25) = w1 at *
    clear hw1
    go_wp2_with fail
    obtain ⟨t0, t1, t2⟩ := (hB.set3 (.int .i64 0) (.int .i64 0) (.string ⟨#[]⟩)).c3
    refine bodyPost_ret (v := .tuple #[.agg #[.int .i64 0, .int .i64 0, .string ⟨#[]⟩], .bool false]) (by simp [results, Tryz.results89, go_sem, t0, t1, t2]) rfl ?_
    exact ⟨⟨0, 0, ⟨#[]⟩⟩, by rw [HN.out]; rfl, fun a h => (by rw [HN.out] at h; cases h), bset3 hb (Nat.le_refl _) _ _ _⟩
theorem quo_gt {a b : Nat} (hb : 1 ≤ b) : 4503599627370496 / b < a ↔ 4503599627370496 < a * b := by
  rw [Nat.div_lt_iff_lt_mul hb]
theorem abs_mul (a b : Int) : (a * b).natAbs = a.natAbs * b.natAbs := Int.natAbs_mul a b
theorem abs_le {z : Int} : (-4503599627370496 ≤ z ∧ z ≤ 4503599627370496) ↔ z.natAbs ≤ 4503599627370496 := by omega
theorem big_test {a b X Y : Int} (hX : X = a.natAbs) (hY : Y = b.natAbs) (hb : b ≠ 0) : (Int.tdiv 4503599627370496 Y < X) ↔ 4503599627370496 < (a * b).natAbs := by
  have e : Int.tdiv 4503599627370496 Y = ((4503599627370496 / b.natAbs : Nat) : Int) := by
    rw [hY, Int.tdiv_eq_ediv_of_nonneg (by omega), Int.natCast_ediv]; rfl
  rw [e, abs_mul, ← quo_gt (by omega), hX]
  omega
theorem quo_in {Y : Int} (hY : 0 < Y) : 0 ≤ Int.tdiv 4503599627370496 Y ∧ Int.tdiv 4503599627370496 Y ≤ 4503599627370496 := by
  rw [Int.tdiv_eq_ediv_of_nonneg (by omega)]
  refine ⟨Int.ediv_nonneg (by omega) (by omega), ?_⟩
  exact Int.ediv_le_self _ (by omega)
set_option maxHeartbeats 2000000 in
theorem times_ref (a b : Int) (w : World) (ha : -4503599627370496 ≤ a ∧ a ≤ 4503599627370496) (hb0 : -4503599627370496 ≤ b ∧ b ≤ 4503599627370496) :
    Calls Tryz.prog 90 #[.int .i64 a, .int .i64 b] w (RetO (numV (a * b)) w) := by
  have hb := bone w (.cells #[.int .i64 0, .int .i64 0, .string ⟨#[]⟩] 25)
  have hB := Blk.new w 25 #[.int .i64 0, .int .i64 0, .string ⟨#[]⟩]
  go_enter Tryz.func90, Tryz.ntmps90
  go_upto_region 1 with fail
  generalize hw1 : w.alloc (.cells #[.int .i64 0, .int .i64 0, .string ⟨#[]⟩] 25) = w1 at *
  clear hw1
  have HST : Hid (∀ (W : World) (x y z : Value), Below w1.heap.size w1 W →
      (W.frozen? ⟨w.heap.size, 0, none⟩ = false ∧ W.frozen? ⟨w.heap.size, 1, none⟩ = false ∧ W.frozen? ⟨w.heap.size, 2, none⟩ = false) ∧
      Blk (((W.setCell ⟨w.heap.size, 0, none⟩ x).setCell ⟨w.heap.size, 1, none⟩ y).setCell ⟨w.heap.size, 2, none⟩ z) w.heap.size 25 #[x, y, z] ∧
      (W.cell? ⟨w.heap.size, 0, none⟩ = some (.int .i64 0) ∧ W.cell? ⟨w.heap.size, 1, none⟩ = some (.int .i64 0) ∧ W.cell? ⟨w.heap.size, 2, none⟩ = some (.string ⟨#[]⟩)) ∧
      Below w.heap.size w (((W.setCell ⟨w.heap.size, 0, none⟩ x).setCell ⟨w.heap.size, 1, none⟩ y).setCell ⟨w.heap.size, 2, none⟩ z)) :=
    fun W x y z hW => ⟨⟨(hB.now hW).frozen 0, (hB.now hW).frozen 1, (hB.now hW).frozen 2⟩, (hB.now hW).set3 _ _ _, (hB.now hW).c3, bset3 (bthen hb hW) (Nat.le_refl _) _ _ _⟩
  clear hb hB
  by_cases hz : a = 0 ∨ b = 0
  · have e0 : a * b = 0 := by rcases hz with h | h <;> simp [h]
    have HEE : Hid (numV (a * b) = numV 0) := by show _ = _; rw [e0]
    have HZ : Hid (∀ Q : Prop, ((a == 0) = true → Q) → ((a == 0) = false → (b == 0) = true → Q) → Q) := by
      intro Q h1 h2
      by_cases e : a = 0
      · exact h1 (by simp [e])
      · exact h2 (by simp [e]) (by rcases hz with h | h; exact absurd h e; simp [h])
    clear hz e0
    refine HZ.out _ (fun b1 => ?_) (fun b1 b2 => ?_)
    all_goals
      go_wp2_with fail
      refine (enumber_ref 0 _).mono ?_
      rintro e w2 ⟨v, rfl, hv, hb2⟩
      obtain ⟨⟨k0, k1, k2⟩, hS, ⟨y0, y1, y2⟩, hbS⟩ := HST.out _ (.int .i64 v.kind) (.int .i64 v.n) (.string v.s) hb2
      generalize numV 0 = r at *
      go_wp2_with fail
      obtain ⟨t0, t1, t2⟩ := hS.c3
      refine bodyPost_ret (v := .tuple #[.agg #[.int .i64 v.kind, .int .i64 v.n, .string v.s], .bool r.isSome]) (by simp [results, Tryz.results90, go_sem, t0, t1, t2]) rfl ?_
      exact RetO.cast HEE.out ⟨v, rfl, hv, hbS⟩
  · have ha0 : a ≠ 0 := fun h => hz (.inl h)
    have hb1 : b ≠ 0 := fun h => hz (.inr h)
    have b1 : (a == 0) = false := by simp [ha0]
    have b2 : (b == 0) = false := by simp [hb1]
    clear hz
    have HBT := Lib.hid (fun (X Y : Int) (hX : X = a.natAbs) (hY : Y = b.natAbs) => big_test hX hY hb1)
    have HNB : Hid (4503599627370496 < (a * b).natAbs → numV (a * b) = none) := fun h => num_no (numB_no (fun h' => by have := abs_le.1 h'; omega))
    have HWR : Hid (¬ 4503599627370496 < (a * b).natAbs → IntKind.i64.wrap (a * b) = a * b) := fun h => IntWalk.i64_in _ (by have := abs_le.2 (Nat.le_of_not_lt h); omega)
    rcases Int.lt_or_le a 0 with ha1 | ha1
    · rcases Int.lt_or_le b 0 with hb2 | hb2
      · have hqi := quo_in (Y := -b) (by omega)
        have wq : IntKind.i64.wrap (Int.tdiv 4503599627370496 (-b)) = Int.tdiv 4503599627370496 (-b) := IntWalk.i64_in _ (by omega)
        have ht := HBT.out (-a) (-b) (by omega) (by omega)
        have wa : IntKind.i64.wrap (-a) = -a := IntWalk.i64_in _ (by omega)
        have wb : IntKind.i64.wrap (-b) = -b := IntWalk.i64_in _ (by omega)
        have nb : ¬ -b = 0 := by omega
        by_cases hbig : 4503599627370496 < (a * b).natAbs
        · have HNO := Lib.hid (HNB.out hbig)
          have h1 : Int.tdiv 4503599627370496 (-b) < -a := ht.2 hbig
          rw [Int.tdiv_neg] at h1 wq
          clear ht hbig
          obtain ⟨⟨k0, k1, k2⟩, hS, ⟨y0, y1, y2⟩, hbS⟩ := HST.out _ (.int .i64 0) (.int .i64 0) (.string ⟨#[]⟩) (Below.refl _ _)
          go_wp2_with fail
          obtain ⟨t0, t1, t2⟩ := hS.c3
          refine bodyPost_ret (v := .tuple #[.agg #[.int .i64 0, .int .i64 0, .string ⟨#[]⟩], .bool false]) (by simp [results, Tryz.results90, go_sem, t0, t1, t2]) rfl ?_
          exact RetO.cast HNO.out ⟨⟨0, 0, ⟨#[]⟩⟩, rfl, fun x h => (by cases h), hbS⟩
        · have h1 : -a ≤ Int.tdiv 4503599627370496 (-b) := Int.not_lt.1 (fun h => hbig (ht.1 h))
          rw [Int.tdiv_neg] at h1 wq
          have wm := HWR.out hbig
          clear ht hbig
          go_wp2_with fail
          refine (enumber_ref (a * b) _).mono ?_
          rintro e w2 ⟨v, rfl, hv, hb2⟩
          obtain ⟨⟨k0, k1, k2⟩, hS, ⟨y0, y1, y2⟩, hbS⟩ := HST.out _ (.int .i64 v.kind) (.int .i64 v.n) (.string v.s) hb2
          go_wp2_with fail
          obtain ⟨t0, t1, t2⟩ := hS.c3
          refine bodyPost_ret (v := .tuple #[.agg #[.int .i64 v.kind, .int .i64 v.n, .string v.s], .bool (numV (a * b)).isSome]) (by simp [results, Tryz.results90, go_sem, t0, t1, t2]) rfl ?_
          exact ⟨v, rfl, hv, hbS⟩
      · have hb3 : 0 < b := by omega
        have hqi := quo_in (Y := b) (by omega)
        have wq : IntKind.i64.wrap (Int.tdiv 4503599627370496 (b)) = Int.tdiv 4503599627370496 (b) := IntWalk.i64_in _ (by omega)
        have ht := HBT.out (-a) (b) (by omega) (by omega)
        have wa : IntKind.i64.wrap (-a) = -a := IntWalk.i64_in _ (by omega)
        by_cases hbig : 4503599627370496 < (a * b).natAbs
        · have HNO := Lib.hid (HNB.out hbig)
          have h1 : Int.tdiv 4503599627370496 (b) < -a := ht.2 hbig
          clear ht hbig
          obtain ⟨⟨k0, k1, k2⟩, hS, ⟨y0, y1, y2⟩, hbS⟩ := HST.out _ (.int .i64 0) (.int .i64 0) (.string ⟨#[]⟩) (Below.refl _ _)
          go_wp2_with fail
          obtain ⟨t0, t1, t2⟩ := hS.c3
          refine bodyPost_ret (v := .tuple #[.agg #[.int .i64 0, .int .i64 0, .string ⟨#[]⟩], .bool false]) (by simp [results, Tryz.results90, go_sem, t0, t1, t2]) rfl ?_
          exact RetO.cast HNO.out ⟨⟨0, 0, ⟨#[]⟩⟩, rfl, fun x h => (by cases h), hbS⟩
        · have h1 : -a ≤ Int.tdiv 4503599627370496 (b) := Int.not_lt.1 (fun h => hbig (ht.1 h))
          have wm := HWR.out hbig
          clear ht hbig
          go_wp2_with fail
          refine (enumber_ref (a * b) _).mono ?_
          rintro e w2 ⟨v, rfl, hv, hb2⟩
          obtain ⟨⟨k0, k1, k2⟩, hS, ⟨y0, y1, y2⟩, hbS⟩ := HST.out _ (.int .i64 v.kind) (.int .i64 v.n) (.string v.s) hb2
          go_wp2_with fail
          obtain ⟨t0, t1, t2⟩ := hS.c3
          refine bodyPost_ret (v := .tuple #[.agg #[.int .i64 v.kind, .int .i64 v.n, .string v.s], .bool (numV (a * b)).isSome]) (by simp [results, Tryz.results90, go_sem, t0, t1, t2]) rfl ?_
          exact ⟨v, rfl, hv, hbS⟩
    · rcases Int.lt_or_le b 0 with hb2 | hb2
      · have hqi := quo_in (Y := -b) (by omega)
        have wq : IntKind.i64.wrap (Int.tdiv 4503599627370496 (-b)) = Int.tdiv 4503599627370496 (-b) := IntWalk.i64_in _ (by omega)
        have ht := HBT.out (a) (-b) (by omega) (by omega)
        have wb : IntKind.i64.wrap (-b) = -b := IntWalk.i64_in _ (by omega)
        have nb : ¬ -b = 0 := by omega
        by_cases hbig : 4503599627370496 < (a * b).natAbs
        · have HNO := Lib.hid (HNB.out hbig)
          have h1 : Int.tdiv 4503599627370496 (-b) < a := ht.2 hbig
          rw [Int.tdiv_neg] at h1 wq
          clear ht hbig
          obtain ⟨⟨k0, k1, k2⟩, hS, ⟨y0, y1, y2⟩, hbS⟩ := HST.out _ (.int .i64 0) (.int .i64 0) (.string ⟨#[]⟩) (Below.refl _ _)
          go_wp2_with fail
          obtain ⟨t0, t1, t2⟩ := hS.c3
          refine bodyPost_ret (v := .tuple #[.agg #[.int .i64 0, .int .i64 0, .string ⟨#[]⟩], .bool false]) (by simp [results, Tryz.results90, go_sem, t0, t1, t2]) rfl ?_
          exact RetO.cast HNO.out ⟨⟨0, 0, ⟨#[]⟩⟩, rfl, fun x h => (by cases h), hbS⟩
        · have h1 : a ≤ Int.tdiv 4503599627370496 (-b) := Int.not_lt.1 (fun h => hbig (ht.1 h))
          rw [Int.tdiv_neg] at h1 wq
          have wm := HWR.out hbig
          clear ht hbig
          go_wp2_with fail
          refine (enumber_ref (a * b) _).mono ?_
          rintro e w2 ⟨v, rfl, hv, hb2⟩
          obtain ⟨⟨k0, k1, k2⟩, hS, ⟨y0, y1, y2⟩, hbS⟩ := HST.out _ (.int .i64 v.kind) (.int .i64 v.n) (.string v.s) hb2
          go_wp2_with fail
          obtain ⟨t0, t1, t2⟩ := hS.c3
          refine bodyPost_ret (v := .tuple #[.agg #[.int .i64 v.kind, .int .i64 v.n, .string v.s], .bool (numV (a * b)).isSome]) (by simp [results, Tryz.results90, go_sem, t0, t1, t2]) rfl ?_
          exact ⟨v, rfl, hv, hbS⟩
      · have hb3 : 0 < b := by omega
        have hqi := quo_in (Y := b) (by omega)
        have wq : IntKind.i64.wrap (Int.tdiv 4503599627370496 (b)) = Int.tdiv 4503599627370496 (b) := IntWalk.i64_in _ (by omega)
        have ht := HBT.out (a) (b) (by omega) (by omega)
        by_cases hbig : 4503599627370496 < (a * b).natAbs
        · have HNO := Lib.hid (HNB.out hbig)
          have h1 : Int.tdiv 4503599627370496 (b) < a := ht.2 hbig
          clear ht hbig
          obtain ⟨⟨k0, k1, k2⟩, hS, ⟨y0, y1, y2⟩, hbS⟩ := HST.out _ (.int .i64 0) (.int .i64 0) (.string ⟨#[]⟩) (Below.refl _ _)
          go_wp2_with fail
          obtain ⟨t0, t1, t2⟩ := hS.c3
          refine bodyPost_ret (v := .tuple #[.agg #[.int .i64 0, .int .i64 0, .string ⟨#[]⟩], .bool false]) (by simp [results, Tryz.results90, go_sem, t0, t1, t2]) rfl ?_
          exact RetO.cast HNO.out ⟨⟨0, 0, ⟨#[]⟩⟩, rfl, fun x h => (by cases h), hbS⟩
        · have h1 : a ≤ Int.tdiv 4503599627370496 (b) := Int.not_lt.1 (fun h => hbig (ht.1 h))
          have wm := HWR.out hbig
          clear ht hbig
          go_wp2_with fail
          refine (enumber_ref (a * b) _).mono ?_
          rintro e w2 ⟨v, rfl, hv, hb2⟩
          obtain ⟨⟨k0, k1, k2⟩, hS, ⟨y0, y1, y2⟩, hbS⟩ := HST.out _ (.int .i64 v.kind) (.int .i64 v.n) (.string v.s) hb2
          go_wp2_with fail
          obtain ⟨t0, t1, t2⟩ := hS.c3
          refine bodyPost_ret (v := .tuple #[.agg #[.int .i64 v.kind, .int .i64 v.n, .string v.s], .bool (numV (a * b)).isSome]) (by simp [results, Tryz.results90, go_sem, t0, t1, t2]) rfl ?_
          exact ⟨v, rfl, hv, hbS⟩
end Go.Proofs.YtijmnenojbfdnaaGreatDoor
