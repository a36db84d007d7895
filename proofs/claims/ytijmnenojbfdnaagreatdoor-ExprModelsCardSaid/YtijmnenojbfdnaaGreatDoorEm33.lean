/- Texts of this seat, merged. -/
import Derived.Test.YtijmnenojbfdnaaGreatDoorEm01
import Derived.Test.YtijmnenojbfdnaaGreatDoorEm02
import Derived.Test.YtijmnenojbfdnaaGreatDoorEm03
import Derived.Test.YtijmnenojbfdnaaGreatDoorEm04
import Derived.Test.YtijmnenojbfdnaaGreatDoorEm05
import Derived.Test.YtijmnenojbfdnaaGreatDoorEm06
import Derived.Test.YtijmnenojbfdnaaGreatDoorEm07
import Derived.Test.YtijmnenojbfdnaaGreatDoorEm08
import Derived.Test.YtijmnenojbfdnaaGreatDoorEm09
import Derived.Test.YtijmnenojbfdnaaGreatDoorEm10
import Derived.Test.YtijmnenojbfdnaaGreatDoorEm11
import Derived.Test.YtijmnenojbfdnaaGreatDoorEm12
import Derived.Test.YtijmnenojbfdnaaGreatDoorEm13
import Derived.Test.YtijmnenojbfdnaaGreatDoorEm21
import Derived.Test.YtijmnenojbfdnaaGreatDoorEm22
import Derived.Test.YtijmnenojbfdnaaGreatDoorEm23
import Derived.Test.YtijmnenojbfdnaaGreatDoorEm24
import Derived.Test.YtijmnenojbfdnaaGreatDoorEm25
import Derived.Test.YtijmnenojbfdnaaGreatDoorEm26
import Derived.Test.YtijmnenojbfdnaaGreatDoorEm27
import Derived.Test.YtijmnenojbfdnaaGreatDoorEm29
import Derived.Test.YtijmnenojbfdnaaGreatDoorEm30
import Derived.Test.YtijmnenojbfdnaaGreatDoorEm31
import Derived.Test.YtijmnenojbfdnaaGreatDoorEm32
set_option linter.unusedSimpArgs false
set_option linter.unusedVariables false
namespace Go.Proofs.YtijmnenojbfdnaaGreatDoor
open Go.RowKit
def VZ (o : Option Val) (v : Val) : Prop := (∀ a, o = some a → v = a) ∧ (o = none → v = noV)
def RetZ (o : Option Val) (w : World) (e : Ending) (w' : World) : Prop :=
  ∃ v : Val, e = .returned (.tuple #[.agg #[.int .i64 v.kind, .int .i64 v.n, .string v.s], .bool o.isSome]) ∧ VZ o v ∧ Below w.heap.size w w'
theorem RetZ.cast {o o' : Option Val} {w w' : World} {e : Ending} (h : o' = o) (k : RetZ o w e w') : RetZ o' w e w' := by rw [h]; exact k
def EvalZ (f : FuncId) (n : Nat) : Prop := ∀ (vs : List Var) (vals : List Val) (x : Ex) (w : World) (uv vv u : Value), EvArgs n vs vals x w uv vv u → Calls Tryz.prog f #[uv, vv, u] w (RetZ (evX vs vals x) w)
set_option maxHeartbeats 400000 in
theorem enumberz_ref (n : Int) (w : World) : Calls Tryz.prog 89 #[.int .i64 n] w (RetZ (numV n) w) := by
  have hb := bone w (.cells #[.int .i64 0, .int .i64 0, .string ⟨#[]⟩] 25)
  have hB := Blk.new w 25 #[.int .i64 0, .int .i64 0, .string ⟨#[]⟩]
  obtain ⟨x0, x1, x2⟩ := hB.c3
  have k0 := hB.frozen 0
  have k1 := hB.frozen 1
  have k2 := hB.frozen 2
  have HCS : Hid (∀ Q : Prop, ((-4503599627370496 ≤ n ∧ n ≤ 4503599627370496) → Q) → (n < -4503599627370496 → Q) → (-4503599627370496 ≤ n → 4503599627370496 < n → Q) → Q) := by
    intro Q a1 a2 a3
    by_cases h1 : n < -4503599627370496
    · exact a2 h1
    · by_cases h2 : 4503599627370496 < n
      · exact a3 (by omega) h2
      · exact a1 ⟨by omega, by omega⟩
  refine HCS.out _ (fun h => ?_) (fun h => ?_) (fun h h' => ?_)
  · have HN := Lib.hid (num_yes (numB_yes h.1 h.2))
    obtain ⟨h1, h2⟩ := h
    generalize numV n = r at *
    clear HCS
    go_enter Tryz.func89, Tryz.ntmps89
    go_upto_region 1 with fail
    generalize hw1 : w.alloc (.cells #[.int .i64 0, .int .i64 0, .string ⟨#[]⟩] 25) = w1 at *
    clear hw1
    go_wp2_with fail
    obtain ⟨t0, t1, t2⟩ := (hB.set3 (.int .i64 2) (.int .i64 n) (.string ⟨#[]⟩)).c3
    refine bodyPost_ret (v := .tuple #[.agg #[.int .i64 2, .int .i64 n, .string ⟨#[]⟩], .bool true]) (by simp [results, Tryz.results89, go_sem, t0, t1, t2]) rfl ?_
    exact ⟨⟨2, n, ⟨#[]⟩⟩, by rw [HN.out]; rfl, ⟨fun a h => (by rw [HN.out] at h; injection h), fun h => (by rw [HN.out] at h; cases h)⟩, bset3 hb (Nat.le_refl _) _ _ _⟩
  all_goals
    have HN := Lib.hid (num_no (numB_no (n := n) (fun h => by omega)))
    generalize numV n = r at *
    clear HCS
    go_enter Tryz.func89, Tryz.ntmps89
    go_upto_region 1 with fail
    generalize hw1 : w.alloc (.cells #[.int .i64 0, .int .i64 0, .string ⟨#[]⟩] 25) = w1 at *
    clear hw1
    go_wp2_with fail
    obtain ⟨t0, t1, t2⟩ := (hB.set3 (.int .i64 0) (.int .i64 0) (.string ⟨#[]⟩)).c3
    refine bodyPost_ret (v := .tuple #[.agg #[.int .i64 0, .int .i64 0, .string ⟨#[]⟩], .bool false]) (by simp [results, Tryz.results89, go_sem, t0, t1, t2]) rfl ?_
    exact ⟨⟨0, 0, ⟨#[]⟩⟩, by rw [HN.out]; rfl, ⟨fun a h => (by rw [HN.out] at h; cases h), fun _ => rfl⟩, bset3 hb (Nat.le_refl _) _ _ _⟩
set_option maxHeartbeats 2000000 in
theorem timesz_ref (a b : Int) (w : World) (ha : -4503599627370496 ≤ a ∧ a ≤ 4503599627370496) (hb0 : -4503599627370496 ≤ b ∧ b ≤ 4503599627370496) :
    Calls Tryz.prog 90 #[.int .i64 a, .int .i64 b] w (RetZ (numV (a * b)) w) := by
  have hb := bone w (.cells #[.int .i64 0, .int .i64 0, .string ⟨#[]⟩] 25)
  have hB := Blk.new w 25 #[.int .i64 0, .int .i64 0, .string ⟨#[]⟩]
  go_enter Tryz.func90, Tryz.ntmps90
  go_upto_region 1 with fail
  generalize hw1 : w.alloc (.cells #[.int .i64 0, .int .i64 0, .string ⟨#[]⟩] 25) = w1 at *
  clear hw1
  have HST : Hid (∀ (W : World) (x y z : Value), Below w1.heap.size w1 W →
      (W.frozen? ⟨w.heap.size, 0, none⟩ = false ∧ W.frozen? ⟨w.heap.size, 1, none⟩ = false ∧ W.frozen? ⟨w.heap.size, 2, none⟩ = false) ∧
      Blk (((W.setCell ⟨w.heap.size, 0, none⟩ x).setCell ⟨w.heap.size, 1, none⟩ y).setCell ⟨w.heap.size, 2, none⟩ z) w.heap.size 25 #[x, y, z] ∧
      (W.cell? ⟨w.heap.size, 0, none⟩ = some (.int .i64 0) ∧ W.cell? ⟨w.heap.size, 1, none⟩ = some (.int .i64 0) ∧ W.cell? ⟨w.heap.size, 2, none⟩ = some (.string ⟨#[]⟩)) ∧
      Below w.heap.size w (((W.setCell ⟨w.heap.size, 0, none⟩ x).setCell ⟨w.heap.size, 1, none⟩ y).setCell ⟨w.heap.size, 2, none⟩ z)) :=
    fun W x y z hW => ⟨⟨(hB.now hW).frozen 0, (hB.now hW).frozen 1, (hB.now hW).frozen 2⟩, (hB.now hW).set3 _ _ _, (hB.now hW).c3, bset3 (bthen hb hW) (Nat.le_refl _) _ _ _⟩
  clear hb hB
  by_cases hz : a = 0 ∨ b = 0
  · have e0 : a * b = 0 := by rcases hz with h | h <;> simp [h]
    have HEE : Hid (numV (a * b) = numV 0) := by show _ = _; rw [e0]
    have HZ : Hid (∀ Q : Prop, ((a == 0) = true → Q) → ((a == 0) = false → (b == 0) = true → Q) → Q) := by
      intro Q h1 h2
      by_cases e : a = 0
      · exact h1 (by simp [e])
      · exact h2 (by simp [e]) (by rcases hz with h | h; exact absurd h e; simp [h])
    clear hz e0
    refine HZ.out _ (fun b1 => ?_) (fun b1 b2 => ?_)
    all_goals
      go_wp2_with fail
      refine (enumberz_ref 0 _).mono ?_
      rintro e w2 ⟨v, rfl, hv, hb2⟩
      obtain ⟨⟨k0, k1, k2⟩, hS, ⟨y0, y1, y2⟩, hbS⟩ := HST.out _ (.int .i64 v.kind) (.int .i64 v.n) (.string v.s) hb2
      generalize numV 0 = r at *
      go_wp2_with fail
      obtain ⟨t0, t1, t2⟩ := hS.c3
      refine bodyPost_ret (v := .tuple #[.agg #[.int .i64 v.kind, .int .i64 v.n, .string v.s], .bool r.isSome]) (by simp [results, Tryz.results90, go_sem, t0, t1, t2]) rfl ?_
      exact RetZ.cast HEE.out ⟨v, rfl, hv, hbS⟩
  · have ha0 : a ≠ 0 := fun h => hz (.inl h)
    have hb1 : b ≠ 0 := fun h => hz (.inr h)
    have b1 : (a == 0) = false := by simp [ha0]
    have b2 : (b == 0) = false := by simp [hb1]
    clear hz
    have HBT := Lib.hid (fun (X Y : Int) (hX : X = a.natAbs) (hY : Y = b.natAbs) => big_test hX hY hb1)
    have HNB : Hid (4503599627370496 < (a * b).natAbs → numV (a * b) = none) := fun h => num_no (numB_no (fun h' => by have := abs_le.1 h'; omega))
    have HWR : Hid (¬ 4503599627370496 < (a * b).natAbs → IntKind.i64.wrap (a * b) = a * b) := fun h => IntWalk.i64_in _ (by have := abs_le.2 (Nat.le_of_not_lt h); omega)
    rcases Int.lt_or_le a 0 with ha1 | ha1
    · rcases Int.lt_or_le b 0 with hb2 | hb2
      · have hqi := quo_in (Y := -b) (by omega)
        have wq : IntKind.i64.wrap (Int.tdiv 4503599627370496 (-b)) = Int.tdiv 4503599627370496 (-b) := IntWalk.i64_in _ (by omega)
        have ht := HBT.out (-a) (-b) (by omega) (by omega)
        have wa : IntKind.i64.wrap (-a) = -a := IntWalk.i64_in _ (by omega)
        have wb : IntKind.i64.wrap (-b) = -b := IntWalk.i64_in _ (by omega)
        have nb : ¬ -b = 0 := by omega
        by_cases hbig : 4503599627370496 < (a * b).natAbs
        · have HNO := Lib.hid (HNB.out hbig)
          have h1 : Int.tdiv 4503599627370496 (-b) < -a := ht.2 hbig
          rw [Int.tdiv_neg] at h1 wq
          clear ht hbig
          obtain ⟨⟨k0, k1, k2⟩, hS, ⟨y0, y1, y2⟩, hbS⟩ := HST.out _ (.int .i64 0) (.int .i64 0) (.string ⟨#[]⟩) (Below.refl _ _)
          go_wp2_with fail
          obtain ⟨t0, t1, t2⟩ := hS.c3
          refine bodyPost_ret (v := .tuple #[.agg #[.int .i64 0, .int .i64 0, .string ⟨#[]⟩], .bool false]) (by simp [results, Tryz.results90, go_sem, t0, t1, t2]) rfl ?_
          exact RetZ.cast HNO.out ⟨⟨0, 0, ⟨#[]⟩⟩, rfl, ⟨fun x h => (by cases h), fun _ => rfl⟩, hbS⟩
        · have h1 : -a ≤ Int.tdiv 4503599627370496 (-b) := Int.not_lt.1 (fun h => hbig (ht.1 h))
          rw [Int.tdiv_neg] at h1 wq
          have wm := HWR.out hbig
          clear ht hbig
          go_wp2_with fail
          refine (enumberz_ref (a * b) _).mono ?_
          rintro e w2 ⟨v, rfl, hv, hb2⟩
          obtain ⟨⟨k0, k1, k2⟩, hS, ⟨y0, y1, y2⟩, hbS⟩ := HST.out _ (.int .i64 v.kind) (.int .i64 v.n) (.string v.s) hb2
          go_wp2_with fail
          obtain ⟨t0, t1, t2⟩ := hS.c3
          refine bodyPost_ret (v := .tuple #[.agg #[.int .i64 v.kind, .int .i64 v.n, .string v.s], .bool (numV (a * b)).isSome]) (by simp [results, Tryz.results90, go_sem, t0, t1, t2]) rfl ?_
          exact ⟨v, rfl, hv, hbS⟩
      · have hb3 : 0 < b := by omega
        have hqi := quo_in (Y := b) (by omega)
        have wq : IntKind.i64.wrap (Int.tdiv 4503599627370496 (b)) = Int.tdiv 4503599627370496 (b) := IntWalk.i64_in _ (by omega)
        have ht := HBT.out (-a) (b) (by omega) (by omega)
        have wa : IntKind.i64.wrap (-a) = -a := IntWalk.i64_in _ (by omega)
        by_cases hbig : 4503599627370496 < (a * b).natAbs
        · have HNO := Lib.hid (HNB.out hbig)
          have h1 : Int.tdiv 4503599627370496 (b) < -a := ht.2 hbig
          clear ht hbig
          obtain ⟨⟨k0, k1, k2⟩, hS, ⟨y0, y1, y2⟩, hbS⟩ := HST.out _ (.int .i64 0) (.int .i64 0) (.string ⟨#[]⟩) (Below.refl _ _)
          go_wp2_with fail
          obtain ⟨t0, t1, t2⟩ := hS.c3
          refine bodyPost_ret (v := .tuple #[.agg #[.int .i64 0, .int .i64 0, .string ⟨#[]⟩], .bool false]) (by simp [results, Tryz.results90, go_sem, t0, t1, t2]) rfl ?_
          exact RetZ.cast HNO.out ⟨⟨0, 0, ⟨#[]⟩⟩, rfl, ⟨fun x h => (by cases h), fun _ => rfl⟩, hbS⟩
        · have h1 : -a ≤ Int.tdiv 4503599627370496 (b) := Int.not_lt.1 (fun h => hbig (ht.1 h))
          have wm := HWR.out hbig
          clear ht hbig
          go_wp2_with fail
          refine (enumberz_ref (a * b) _).mono ?_
          rintro e w2 ⟨v, rfl, hv, hb2⟩
          obtain ⟨⟨k0, k1, k2⟩, hS, ⟨y0, y1, y2⟩, hbS⟩ := HST.out _ (.int .i64 v.kind) (.int .i64 v.n) (.string v.s) hb2
          go_wp2_with fail
          obtain ⟨t0, t1, t2⟩ := hS.c3
          refine bodyPost_ret (v := .tuple #[.agg #[.int .i64 v.kind, .int .i64 v.n, .string v.s], .bool (numV (a * b)).isSome]) (by simp [results, Tryz.results90, go_sem, t0, t1, t2]) rfl ?_
          exact ⟨v, rfl, hv, hbS⟩
    · rcases Int.lt_or_le b 0 with hb2 | hb2
      · have hqi := quo_in (Y := -b) (by omega)
        have wq : IntKind.i64.wrap (Int.tdiv 4503599627370496 (-b)) = Int.tdiv 4503599627370496 (-b) := IntWalk.i64_in _ (by omega)
        have ht := HBT.out (a) (-b) (by omega) (by omega)
        have wb : IntKind.i64.wrap (-b) = -b := IntWalk.i64_in _ (by omega)
        have nb : ¬ -b = 0 := by omega
        by_cases hbig : 4503599627370496 < (a * b).natAbs
        · have HNO := Lib.hid (HNB.out hbig)
          have h1 : Int.tdiv 4503599627370496 (-b) < a := ht.2 hbig
          rw [Int.tdiv_neg] at h1 wq
          clear ht hbig
          obtain ⟨⟨k0, k1, k2⟩, hS, ⟨y0, y1, y2⟩, hbS⟩ := HST.out _ (.int .i64 0) (.int .i64 0) (.string ⟨#[]⟩) (Below.refl _ _)
          go_wp2_with fail
          obtain ⟨t0, t1, t2⟩ := hS.c3
          refine bodyPost_ret (v := .tuple #[.agg #[.int .i64 0, .int .i64 0, .string ⟨#[]⟩], .bool false]) (by simp [results, Tryz.results90, go_sem, t0, t1, t2]) rfl ?_
          exact RetZ.cast HNO.out ⟨⟨0, 0, ⟨#[]⟩⟩, rfl, ⟨fun x h => (by cases h), fun _ => rfl⟩, hbS⟩
        · have h1 : a ≤ Int.tdiv 4503599627370496 (-b) := Int.not_lt.1 (fun h => hbig (ht.1 h))
          rw [Int.tdiv_neg] at h1 wq
          have wm := HWR.out hbig
          clear ht hbig
          go_wp2_with fail
          refine (enumberz_ref (a * b) _).mono ?_
          rintro e w2 ⟨v, rfl, hv, hb2⟩
          obtain ⟨⟨k0, k1, k2⟩, hS, ⟨y0, y1, y2⟩, hbS⟩ := HST.out _ (.int .i64 v.kind) (.int .i64 v.n) (.string v.s) hb2
          go_wp2_with fail
          obtain ⟨t0, t1, t2⟩ := hS.c3
          refine bodyPost_ret (v := .tuple #[.agg #[.int .i64 v.kind, .int .i64 v.n, .string v.s], .bool (numV (a * b)).isSome]) (by simp [results, Tryz.results90, go_sem, t0, t1, t2]) rfl ?_
          exact ⟨v, rfl, hv, hbS⟩
      · have hb3 : 0 < b := by omega
        have hqi := quo_in (Y := b) (by omega)
        have wq : IntKind.i64.wrap (Int.tdiv 4503599627370496 (b)) = Int.tdiv 4503599627370496 (b) := IntWalk.i64_in _ (by omega)
        have ht := HBT.out (a) (b) (by omega) (by omega)
        by_cases hbig : 4503599627370496 < (a * b).natAbs
        · have HNO := Lib.hid (HNB.out hbig)
          have h1 : Int.tdiv 4503599627370496 (b) < a := ht.2 hbig
          clear ht hbig
          obtain ⟨⟨k0, k1, k2⟩, hS, ⟨y0, y1, y2⟩, hbS⟩ := HST.out _ (.int .i64 0) (.int .i64 0) (.string ⟨#[]⟩) (Below.refl _ _)
          go_wp2_with fail
          obtain ⟨t0, t1, t2⟩ := hS.c3
          refine bodyPost_ret (v := .tuple #[.agg #[.int .i64 0, .int .i64 0, .string ⟨#[]⟩], .bool false]) (by simp [results, Tryz.results90, go_sem, t0, t1, t2]) rfl ?_
          exact RetZ.cast HNO.out ⟨⟨0, 0, ⟨#[]⟩⟩, rfl, ⟨fun x h => (by cases h), fun _ => rfl⟩, hbS⟩
        · have h1 : a ≤ Int.tdiv 4503599627370496 (b) := Int.not_lt.1 (fun h => hbig (ht.1 h))
          have wm := HWR.out hbig
          clear ht hbig
          go_wp2_with fail
          refine (enumberz_ref (a * b) _).mono ?_
          rintro e w2 ⟨v, rfl, hv, hb2⟩
          obtain ⟨⟨k0, k1, k2⟩, hS, ⟨y0, y1, y2⟩, hbS⟩ := HST.out _ (.int .i64 v.kind) (.int .i64 v.n) (.string v.s) hb2
          go_wp2_with fail
          obtain ⟨t0, t1, t2⟩ := hS.c3
          refine bodyPost_ret (v := .tuple #[.agg #[.int .i64 v.kind, .int .i64 v.n, .string v.s], .bool (numV (a * b)).isSome]) (by simp [results, Tryz.results90, go_sem, t0, t1, t2]) rfl ?_
          exact ⟨v, rfl, hv, hbS⟩
set_option maxHeartbeats 4000000 in
set_option maxRecDepth 100000 in
theorem valz_const (n : Nat) (vs : List Var) (vals : List Val) (x : Ex) (w : World) (uv vv u : Value) (h : EvArgs n vs vals x w uv vv u) (ho : x.op = 1) : Calls Tryz.prog 49 #[uv, vv, u] w (RetZ (evX vs vals x) w) := by
  have HO := Lib.hid ho
  clear ho
  have h0 := h
  obtain ⟨hvs, hvl, hx, _, _, hA⟩ := h
  obtain ⟨Av, cv, rfl, v1, v2, hvs⟩ := hvs.open_
  obtain ⟨Aw, cw, rfl, v3, v4, hvl⟩ := hvl.open_
  obtain ⟨lv, rfl, h1, h2, h3, h4⟩ := hx
  obtain ⟨A, c, rfl, l1, l2, h4⟩ := h4.open_
  have hb := bbox (bone w (.cells #[.int .i64 x.op, .int .i64 x.v.kind, .int .i64 x.v.n, .string x.v.s, .string x.s, .slice A x.l.length c] 28)) (.cells #[.int .i64 0, .int .i64 0, .string ⟨#[]⟩] 25)
  have hB := (Blk.new w 28 #[.int .i64 x.op, .int .i64 x.v.kind, .int .i64 x.v.n, .string x.v.s, .string x.s, .slice A x.l.length c]).alloc (.cells #[.int .i64 0, .int .i64 0, .string ⟨#[]⟩] 25)
  have hR := Blk.new_at (t := 25) (cs := #[.int .i64 0, .int .i64 0, .string ⟨#[]⟩]) (w := w.alloc (.cells #[.int .i64 x.op, .int .i64 x.v.kind, .int .i64 x.v.n, .string x.v.s, .string x.s, .slice A x.l.length c] 28)) (s := w.heap.size + 1) (by simp)
  have hl1 := SlE.now h4 hb
  have hv1 := hvs.now hb
  have hw1 := hvl.now hb
  clear h4 hvs hvl
  go_enter Tryz.func49, Tryz.ntmps49
  go_upto_region 1 with fail
  generalize hww : (w.alloc (.cells #[.int .i64 x.op, .int .i64 x.v.kind, .int .i64 x.v.n, .string x.v.s, .string x.s, .slice A x.l.length c] 28)).alloc (.cells #[.int .i64 0, .int .i64 0, .string ⟨#[]⟩] 25) = w1 at *
  clear hww
  have ho := HO.out
  have HST : Hid (∀ (W : World) (x y z : Value), Below w1.heap.size w1 W →
      (W.frozen? ⟨w.heap.size + 1, 0, none⟩ = false ∧ W.frozen? ⟨w.heap.size + 1, 1, none⟩ = false ∧ W.frozen? ⟨w.heap.size + 1, 2, none⟩ = false) ∧
      Blk (((W.setCell ⟨w.heap.size + 1, 0, none⟩ x).setCell ⟨w.heap.size + 1, 1, none⟩ y).setCell ⟨w.heap.size + 1, 2, none⟩ z) (w.heap.size + 1) 25 #[x, y, z] ∧
      (W.cell? ⟨w.heap.size + 1, 0, none⟩ = some (.int .i64 0) ∧ W.cell? ⟨w.heap.size + 1, 1, none⟩ = some (.int .i64 0) ∧ W.cell? ⟨w.heap.size + 1, 2, none⟩ = some (.string ⟨#[]⟩)) ∧
      Below w.heap.size w (((W.setCell ⟨w.heap.size + 1, 0, none⟩ x).setCell ⟨w.heap.size + 1, 1, none⟩ y).setCell ⟨w.heap.size + 1, 2, none⟩ z)) :=
    fun W x y z hW => ⟨⟨(hR.now hW).frozen 0, (hR.now hW).frozen 1, (hR.now hW).frozen 2⟩, (hR.now hW).set3 _ _ _, (hR.now hW).c3, bset3 (bthen hb hW) (by omega) _ _ _⟩
  obtain ⟨q0, q1, q2, q3, q4, q5⟩ := hB.c6
  have HKEY := Lib.hid (ev_key vs vals x)
  have HSL := Lib.hid (shape_len h0.shape)
  have HR : Hid (evX vs vals x = some x.v) := by show _ = _; rw [HKEY.out]; unfold evO; rw [if_pos ho]
  obtain ⟨⟨k0, k1, k2⟩, hS, ⟨y0, y1, y2⟩, hbS⟩ := HST.out w1 (.int .i64 x.v.kind) (.int .i64 x.v.n) (.string x.v.s) (Below.refl _ _)
  go_wp2_with fail
  obtain ⟨t0, t1, t2⟩ := hS.c3
  refine bodyPost_ret (v := .tuple #[.agg #[.int .i64 x.v.kind, .int .i64 x.v.n, .string x.v.s], .bool true]) (by simp [results, Tryz.results49, go_sem, t0, t1, t2]) rfl ?_
  exact RetZ.cast HR.out ⟨x.v, rfl, ⟨fun a h => (by injection h), fun h => (by cases h)⟩, hbS⟩
set_option maxHeartbeats 4000000 in
set_option maxRecDepth 100000 in
theorem valz_var (n : Nat) (vs : List Var) (vals : List Val) (x : Ex) (w : World) (uv vv u : Value) (h : EvArgs n vs vals x w uv vv u) (ho : x.op = 2) : Calls Tryz.prog 49 #[uv, vv, u] w (RetZ (evX vs vals x) w) := by
  have HO := Lib.hid ho
  clear ho
  have h0 := h
  obtain ⟨hvs, hvl, hx, _, _, hA⟩ := h
  obtain ⟨Av, cv, rfl, v1, v2, hvs⟩ := hvs.open_
  obtain ⟨Aw, cw, rfl, v3, v4, hvl⟩ := hvl.open_
  obtain ⟨lv, rfl, h1, h2, h3, h4⟩ := hx
  obtain ⟨A, c, rfl, l1, l2, h4⟩ := h4.open_
  have hb := bbox (bone w (.cells #[.int .i64 x.op, .int .i64 x.v.kind, .int .i64 x.v.n, .string x.v.s, .string x.s, .slice A x.l.length c] 28)) (.cells #[.int .i64 0, .int .i64 0, .string ⟨#[]⟩] 25)
  have hB := (Blk.new w 28 #[.int .i64 x.op, .int .i64 x.v.kind, .int .i64 x.v.n, .string x.v.s, .string x.s, .slice A x.l.length c]).alloc (.cells #[.int .i64 0, .int .i64 0, .string ⟨#[]⟩] 25)
  have hR := Blk.new_at (t := 25) (cs := #[.int .i64 0, .int .i64 0, .string ⟨#[]⟩]) (w := w.alloc (.cells #[.int .i64 x.op, .int .i64 x.v.kind, .int .i64 x.v.n, .string x.v.s, .string x.s, .slice A x.l.length c] 28)) (s := w.heap.size + 1) (by simp)
  have hl1 := SlE.now h4 hb
  have hv1 := hvs.now hb
  have hw1 := hvl.now hb
  clear h4 hvs hvl
  go_enter Tryz.func49, Tryz.ntmps49
  go_upto_region 1 with fail
  generalize hww : (w.alloc (.cells #[.int .i64 x.op, .int .i64 x.v.kind, .int .i64 x.v.n, .string x.v.s, .string x.s, .slice A x.l.length c] 28)).alloc (.cells #[.int .i64 0, .int .i64 0, .string ⟨#[]⟩] 25) = w1 at *
  clear hww
  have ho := HO.out
  have HST : Hid (∀ (W : World) (x y z : Value), Below w1.heap.size w1 W →
      (W.frozen? ⟨w.heap.size + 1, 0, none⟩ = false ∧ W.frozen? ⟨w.heap.size + 1, 1, none⟩ = false ∧ W.frozen? ⟨w.heap.size + 1, 2, none⟩ = false) ∧
      Blk (((W.setCell ⟨w.heap.size + 1, 0, none⟩ x).setCell ⟨w.heap.size + 1, 1, none⟩ y).setCell ⟨w.heap.size + 1, 2, none⟩ z) (w.heap.size + 1) 25 #[x, y, z] ∧
      (W.cell? ⟨w.heap.size + 1, 0, none⟩ = some (.int .i64 0) ∧ W.cell? ⟨w.heap.size + 1, 1, none⟩ = some (.int .i64 0) ∧ W.cell? ⟨w.heap.size + 1, 2, none⟩ = some (.string ⟨#[]⟩)) ∧
      Below w.heap.size w (((W.setCell ⟨w.heap.size + 1, 0, none⟩ x).setCell ⟨w.heap.size + 1, 1, none⟩ y).setCell ⟨w.heap.size + 1, 2, none⟩ z)) :=
    fun W x y z hW => ⟨⟨(hR.now hW).frozen 0, (hR.now hW).frozen 1, (hR.now hW).frozen 2⟩, (hR.now hW).set3 _ _ _, (hR.now hW).c3, bset3 (bthen hb hW) (by omega) _ _ _⟩
  obtain ⟨q0, q1, q2, q3, q4, q5⟩ := hB.c6
  have HKEY := Lib.hid (ev_key vs vals x)
  have HSL := Lib.hid (shape_len h0.shape)
  have hf : ¬ findV vs x.s < 0 := by
    intro hf
    have ht := (types_of h0.hty).2
    unfold typO at ht
    rw [if_neg (by omega), if_pos ho, if_pos hf] at ht
    cases ht
  obtain ⟨i, z, hi, hz⟩ := find_at hf
  have hil : i < vals.length := by
    rw [hA.len]
    rcases Nat.lt_or_ge i vs.length with h | h
    · exact h
    · rw [List.getElem?_eq_none h] at hz; cases hz
  have HFI := Lib.hid hi
  clear hf hi hz
  go_wp2_with fail
  refine (find_ref vs x.s _ _ hv1).mono ?_
  rintro e w9 ⟨rfl, rfl⟩
  have hb2 : Below w1.heap.size w1 w1 := Below.refl _ _
  rw [HFI.out]
  obtain ⟨b, o, v, rfl, hD, hv, hfv, c0, c1, c2⟩ := (hw1.now hb2).at_ hil
  have HR : Hid (evX vs vals x = some v) := by
    show _ = _
    rw [HKEY.out]
    unfold evO
    rw [if_neg (by omega), if_pos ho]
    unfold varV
    rw [HFI.out, Int.toNat_natCast, List.getD_eq_getElem?_getD, hv]; rfl
  have i1 : (0 : Int) ≤ (i : Int) := by omega
  have i2 : (i : Int) < (vals.length : Int) := by omega
  clear hv q0 q1 q2 q3 q4 q5
  obtain ⟨⟨k0, k1, k2⟩, hS, ⟨y0, y1, y2⟩, hbS⟩ := HST.out w1 (.int .i64 v.kind) (.int .i64 v.n) (.string v.s) hb2
  go_wp2_with fail
  obtain ⟨t0, t1, t2⟩ := hS.c3
  refine bodyPost_ret (v := .tuple #[.agg #[.int .i64 v.kind, .int .i64 v.n, .string v.s], .bool true]) (by simp [results, Tryz.results49, go_sem, t0, t1, t2]) rfl ?_
  exact RetZ.cast HR.out ⟨v, rfl, ⟨fun a h => (by injection h), fun h => (by cases h)⟩, hbS⟩
set_option maxHeartbeats 4000000 in
set_option maxRecDepth 100000 in
theorem valz_not (n : Nat) (ih : ∀ m, m < n → EvalZ 49 m) (vs : List Var) (vals : List Val) (x : Ex) (w : World) (uv vv u : Value) (h : EvArgs n vs vals x w uv vv u) (ho : x.op = 3) : Calls Tryz.prog 49 #[uv, vv, u] w (RetZ (evX vs vals x) w) := by
  have HO := Lib.hid ho
  clear ho
  have h0 := h
  obtain ⟨hvs, hvl, hx, _, _, hA⟩ := h
  obtain ⟨Av, cv, rfl, v1, v2, hvs⟩ := hvs.open_
  obtain ⟨Aw, cw, rfl, v3, v4, hvl⟩ := hvl.open_
  obtain ⟨lv, rfl, h1, h2, h3, h4⟩ := hx
  obtain ⟨A, c, rfl, l1, l2, h4⟩ := h4.open_
  have hb := bbox (bone w (.cells #[.int .i64 x.op, .int .i64 x.v.kind, .int .i64 x.v.n, .string x.v.s, .string x.s, .slice A x.l.length c] 28)) (.cells #[.int .i64 0, .int .i64 0, .string ⟨#[]⟩] 25)
  have hB := (Blk.new w 28 #[.int .i64 x.op, .int .i64 x.v.kind, .int .i64 x.v.n, .string x.v.s, .string x.s, .slice A x.l.length c]).alloc (.cells #[.int .i64 0, .int .i64 0, .string ⟨#[]⟩] 25)
  have hR := Blk.new_at (t := 25) (cs := #[.int .i64 0, .int .i64 0, .string ⟨#[]⟩]) (w := w.alloc (.cells #[.int .i64 x.op, .int .i64 x.v.kind, .int .i64 x.v.n, .string x.v.s, .string x.s, .slice A x.l.length c] 28)) (s := w.heap.size + 1) (by simp)
  have hl1 := SlE.now h4 hb
  have hv1 := hvs.now hb
  have hw1 := hvl.now hb
  clear h4 hvs hvl
  go_enter Tryz.func49, Tryz.ntmps49
  go_upto_region 1 with fail
  generalize hww : (w.alloc (.cells #[.int .i64 x.op, .int .i64 x.v.kind, .int .i64 x.v.n, .string x.v.s, .string x.s, .slice A x.l.length c] 28)).alloc (.cells #[.int .i64 0, .int .i64 0, .string ⟨#[]⟩] 25) = w1 at *
  clear hww
  have ho := HO.out
  have HST : Hid (∀ (W : World) (x y z : Value), Below w1.heap.size w1 W →
      (W.frozen? ⟨w.heap.size + 1, 0, none⟩ = false ∧ W.frozen? ⟨w.heap.size + 1, 1, none⟩ = false ∧ W.frozen? ⟨w.heap.size + 1, 2, none⟩ = false) ∧
      Blk (((W.setCell ⟨w.heap.size + 1, 0, none⟩ x).setCell ⟨w.heap.size + 1, 1, none⟩ y).setCell ⟨w.heap.size + 1, 2, none⟩ z) (w.heap.size + 1) 25 #[x, y, z] ∧
      (W.cell? ⟨w.heap.size + 1, 0, none⟩ = some (.int .i64 0) ∧ W.cell? ⟨w.heap.size + 1, 1, none⟩ = some (.int .i64 0) ∧ W.cell? ⟨w.heap.size + 1, 2, none⟩ = some (.string ⟨#[]⟩)) ∧
      Below w.heap.size w (((W.setCell ⟨w.heap.size + 1, 0, none⟩ x).setCell ⟨w.heap.size + 1, 1, none⟩ y).setCell ⟨w.heap.size + 1, 2, none⟩ z)) :=
    fun W x y z hW => ⟨⟨(hR.now hW).frozen 0, (hR.now hW).frozen 1, (hR.now hW).frozen 2⟩, (hR.now hW).set3 _ _ _, (hR.now hW).c3, bset3 (bthen hb hW) (by omega) _ _ _⟩
  obtain ⟨q0, q1, q2, q3, q4, q5⟩ := hB.c6
  have HKEY := Lib.hid (ev_key vs vals x)
  have HSL := Lib.hid (shape_len h0.shape)
  have hlen : 1 ≤ x.l.length := by have := HSL.out; omega
  obtain ⟨b, o, y, ylv, n', hn, rfl, hD, hy, hex, hfv, hsl, e0, e1, e2, e3, e4, e5⟩ := hl1.at_ (k := 0) (by omega)
  have HY := Lib.hid hy
  have hym := List.mem_of_getElem? hy
  obtain ⟨A2, c2', rfl, m1, m2, _⟩ := hsl.open_
  have hcall := Lib.hid (ih n' (by omega) vs vals y _ _ _ _ (h0.part hym hb hex))
  have HV0 := Lib.hid (fun (a : Val) (h : evX vs vals y = some a) => h0.val hym h)
  have i0 : (0 : Int) < (x.l.length : Int) := by omega
  have e0' : w1.cell? ⟨b, o, none⟩ = some (.int .i64 y.op) := by simpa using e0
  have e1' : w1.cell? ⟨b, o + 1, none⟩ = some (.int .i64 y.v.kind) := by simpa using e1
  have e2' : w1.cell? ⟨b, o + 2, none⟩ = some (.int .i64 y.v.n) := by simpa using e2
  have e3' : w1.cell? ⟨b, o + 3, none⟩ = some (.string y.v.s) := by simpa using e3
  have e4' : w1.cell? ⟨b, o + 4, none⟩ = some (.string y.s) := by simpa using e4
  have e5' : w1.cell? ⟨b, o + 5, none⟩ = some (.slice A2 y.l.length c2') := by simpa using e5
  clear hy hex hsl hfv e0 e1 e2 e3 e4 e5 hn
  go_wp2_with fail
  refine hcall.out.mono ?_
  clear hcall e0' e1' e2' e3' e4' e5'
  rintro e w2 ⟨v0, rfl, hv0, hb2⟩
  have HG0 := Lib.hid (getD_map (f := evX vs vals) HY.out)
  generalize hr0 : evX vs vals y = r0 at *
  have hb3 := bone w2 (.cells #[.int .i64 v0.kind, .int .i64 v0.n, .string v0.s] 25)
  have hF := Blk.new w2 25 #[.int .i64 v0.kind, .int .i64 v0.n, .string v0.s]
  have hb13 := bthen hb2 hb3
  have hB3 := hB.now hb13
  have hl3 := SlE.now hl1 hb13
  clear q0 q1 q2 q3 q4 q5
  have l2' := hF.lt
  go_upto_region 7 with fail
  generalize hw3 : w2.alloc (.cells #[.int .i64 v0.kind, .int .i64 v0.n, .string v0.s] 25) = w3 at *
  clear hw3
  obtain ⟨q0, q1, q2, q3, q4, q5⟩ := hB3.c6
  obtain ⟨f0, f1, f2⟩ := hF.c3
  cases r0 with
  | none =>
    have HR : Hid (evX vs vals x = none) := by
      show _ = _
      rw [HKEY.out]
      unfold evO
      rw [if_neg (by omega), if_neg (by omega), HG0.out]
    clear f0 f1 f2 q0 q1 q2 q3 q4 q5
    obtain ⟨⟨k0, k1, k2⟩, hS, ⟨y0, y1, y2⟩, hbS⟩ := HST.out w3 (.int .i64 0) (.int .i64 0) (.string ⟨#[]⟩) hb13
    go_wp2_with fail
    obtain ⟨t0, t1, t2⟩ := hS.c3
    refine bodyPost_ret (v := .tuple #[.agg #[.int .i64 0, .int .i64 0, .string ⟨#[]⟩], .bool false]) (by simp [results, Tryz.results49, go_sem, t0, t1, t2]) rfl ?_
    exact RetZ.cast HR.out ⟨⟨0, 0, ⟨#[]⟩⟩, rfl, ⟨fun a h => (by cases h), fun _ => rfl⟩, hbS⟩

  | some a =>
    obtain rfl : v0 = a := hv0.1 a rfl
    have HVA := Lib.hid (HV0.out _ rfl)
    clear hv0
    have HR : Hid (evX vs vals x = some (truthV (decide (v0.n = 0)))) := by
      show _ = _
      rw [HKEY.out]
      unfold evO
      rw [if_neg (by omega), if_neg (by omega), HG0.out]
      exact if_pos ho
    generalize hd : decide (v0.n = 0) = d at *
    have hd' : (v0.n == 0) = d := hd
    clear hd
    go_wp2_with fail
    refine (truth_ref d _).mono ?_
    rintro e w4 ⟨rfl, hb4⟩
    clear f0 f1 f2 q0 q1 q2 q3 q4 q5
    have ev : valV (truthV d) = .agg #[.int .i64 (truthV d).kind, .int .i64 (truthV d).n, .string (truthV d).s] := rfl
    rw [ev]
    generalize truthV d = tv at *
    obtain ⟨⟨k0, k1, k2⟩, hS, ⟨y0, y1, y2⟩, hbS⟩ := HST.out w4 (.int .i64 tv.kind) (.int .i64 tv.n) (.string tv.s) (bthen hb13 hb4)
    go_wp2_with fail
    obtain ⟨t0, t1, t2⟩ := hS.c3
    refine bodyPost_ret (v := .tuple #[.agg #[.int .i64 tv.kind, .int .i64 tv.n, .string tv.s], .bool true]) (by simp [results, Tryz.results49, go_sem, t0, t1, t2]) rfl ?_
    exact RetZ.cast HR.out ⟨tv, rfl, ⟨fun a h => (by injection h), fun h => (by cases h)⟩, hbS⟩
set_option maxHeartbeats 8000000 in
set_option maxRecDepth 100000 in
theorem valz_and (n : Nat) (ih : ∀ m, m < n → EvalZ 49 m) (vs : List Var) (vals : List Val) (x : Ex) (w : World) (uv vv u : Value) (h : EvArgs n vs vals x w uv vv u) (ho : x.op = 4) : Calls Tryz.prog 49 #[uv, vv, u] w (RetZ (evX vs vals x) w) := by
  have HO := Lib.hid ho
  clear ho
  have h0 := h
  obtain ⟨hvs, hvl, hx, _, _, hA⟩ := h
  obtain ⟨Av, cv, rfl, v1, v2, hvs⟩ := hvs.open_
  obtain ⟨Aw, cw, rfl, v3, v4, hvl⟩ := hvl.open_
  obtain ⟨lv, rfl, h1, h2, h3, h4⟩ := hx
  obtain ⟨A, c, rfl, l1, l2, h4⟩ := h4.open_
  have hb := bbox (bone w (.cells #[.int .i64 x.op, .int .i64 x.v.kind, .int .i64 x.v.n, .string x.v.s, .string x.s, .slice A x.l.length c] 28)) (.cells #[.int .i64 0, .int .i64 0, .string ⟨#[]⟩] 25)
  have hB := (Blk.new w 28 #[.int .i64 x.op, .int .i64 x.v.kind, .int .i64 x.v.n, .string x.v.s, .string x.s, .slice A x.l.length c]).alloc (.cells #[.int .i64 0, .int .i64 0, .string ⟨#[]⟩] 25)
  have hR := Blk.new_at (t := 25) (cs := #[.int .i64 0, .int .i64 0, .string ⟨#[]⟩]) (w := w.alloc (.cells #[.int .i64 x.op, .int .i64 x.v.kind, .int .i64 x.v.n, .string x.v.s, .string x.s, .slice A x.l.length c] 28)) (s := w.heap.size + 1) (by simp)
  have hl1 := SlE.now h4 hb
  have hv1 := hvs.now hb
  have hw1 := hvl.now hb
  clear h4 hvs hvl
  go_enter Tryz.func49, Tryz.ntmps49
  go_upto_region 1 with fail
  generalize hww : (w.alloc (.cells #[.int .i64 x.op, .int .i64 x.v.kind, .int .i64 x.v.n, .string x.v.s, .string x.s, .slice A x.l.length c] 28)).alloc (.cells #[.int .i64 0, .int .i64 0, .string ⟨#[]⟩] 25) = w1 at *
  clear hww
  have ho := HO.out
  have HST : Hid (∀ (W : World) (x y z : Value), Below w1.heap.size w1 W →
      (W.frozen? ⟨w.heap.size + 1, 0, none⟩ = false ∧ W.frozen? ⟨w.heap.size + 1, 1, none⟩ = false ∧ W.frozen? ⟨w.heap.size + 1, 2, none⟩ = false) ∧
      Blk (((W.setCell ⟨w.heap.size + 1, 0, none⟩ x).setCell ⟨w.heap.size + 1, 1, none⟩ y).setCell ⟨w.heap.size + 1, 2, none⟩ z) (w.heap.size + 1) 25 #[x, y, z] ∧
      (W.cell? ⟨w.heap.size + 1, 0, none⟩ = some (.int .i64 0) ∧ W.cell? ⟨w.heap.size + 1, 1, none⟩ = some (.int .i64 0) ∧ W.cell? ⟨w.heap.size + 1, 2, none⟩ = some (.string ⟨#[]⟩)) ∧
      Below w.heap.size w (((W.setCell ⟨w.heap.size + 1, 0, none⟩ x).setCell ⟨w.heap.size + 1, 1, none⟩ y).setCell ⟨w.heap.size + 1, 2, none⟩ z)) :=
    fun W x y z hW => ⟨⟨(hR.now hW).frozen 0, (hR.now hW).frozen 1, (hR.now hW).frozen 2⟩, (hR.now hW).set3 _ _ _, (hR.now hW).c3, bset3 (bthen hb hW) (by omega) _ _ _⟩
  obtain ⟨q0, q1, q2, q3, q4, q5⟩ := hB.c6
  have HKEY := Lib.hid (ev_key vs vals x)
  have HSL := Lib.hid (shape_len h0.shape)
  have hlen : 1 ≤ x.l.length := by have := HSL.out; omega
  obtain ⟨b, o, y, ylv, n', hn, rfl, hD, hy, hex, hfv, hsl, e0, e1, e2, e3, e4, e5⟩ := hl1.at_ (k := 0) (by omega)
  have HY := Lib.hid hy
  have hym := List.mem_of_getElem? hy
  obtain ⟨A2, c2', rfl, m1, m2, _⟩ := hsl.open_
  have hcall := Lib.hid (ih n' (by omega) vs vals y _ _ _ _ (h0.part hym hb hex))
  have HV0 := Lib.hid (fun (a : Val) (h : evX vs vals y = some a) => h0.val hym h)
  have i0 : (0 : Int) < (x.l.length : Int) := by omega
  have e0' : w1.cell? ⟨b, o, none⟩ = some (.int .i64 y.op) := by simpa using e0
  have e1' : w1.cell? ⟨b, o + 1, none⟩ = some (.int .i64 y.v.kind) := by simpa using e1
  have e2' : w1.cell? ⟨b, o + 2, none⟩ = some (.int .i64 y.v.n) := by simpa using e2
  have e3' : w1.cell? ⟨b, o + 3, none⟩ = some (.string y.v.s) := by simpa using e3
  have e4' : w1.cell? ⟨b, o + 4, none⟩ = some (.string y.s) := by simpa using e4
  have e5' : w1.cell? ⟨b, o + 5, none⟩ = some (.slice A2 y.l.length c2') := by simpa using e5
  clear hy hex hsl hfv e0 e1 e2 e3 e4 e5 hn
  go_wp2_with fail
  refine hcall.out.mono ?_
  clear hcall e0' e1' e2' e3' e4' e5'
  rintro e w2 ⟨v0, rfl, hv0, hb2⟩
  have HG0 := Lib.hid (getD_map (f := evX vs vals) HY.out)
  generalize hr0 : evX vs vals y = r0 at *
  have hb3 := bone w2 (.cells #[.int .i64 v0.kind, .int .i64 v0.n, .string v0.s] 25)
  have hF := Blk.new w2 25 #[.int .i64 v0.kind, .int .i64 v0.n, .string v0.s]
  have hb13 := bthen hb2 hb3
  have hB3 := hB.now hb13
  have hl3 := SlE.now hl1 hb13
  clear q0 q1 q2 q3 q4 q5
  have l2' := hF.lt
  go_upto_region 7 with fail
  generalize hw3 : w2.alloc (.cells #[.int .i64 v0.kind, .int .i64 v0.n, .string v0.s] 25) = w3 at *
  clear hw3
  obtain ⟨q0, q1, q2, q3, q4, q5⟩ := hB3.c6
  obtain ⟨f0, f1, f2⟩ := hF.c3
  cases r0 with
  | none =>
    have HR : Hid (evX vs vals x = none) := by
      show _ = _
      rw [HKEY.out]
      unfold evO
      rw [if_neg (by omega), if_neg (by omega), HG0.out]
    clear f0 f1 f2 q0 q1 q2 q3 q4 q5
    obtain ⟨⟨k0, k1, k2⟩, hS, ⟨y0, y1, y2⟩, hbS⟩ := HST.out w3 (.int .i64 0) (.int .i64 0) (.string ⟨#[]⟩) hb13
    go_wp2_with fail
    obtain ⟨t0, t1, t2⟩ := hS.c3
    refine bodyPost_ret (v := .tuple #[.agg #[.int .i64 0, .int .i64 0, .string ⟨#[]⟩], .bool false]) (by simp [results, Tryz.results49, go_sem, t0, t1, t2]) rfl ?_
    exact RetZ.cast HR.out ⟨⟨0, 0, ⟨#[]⟩⟩, rfl, ⟨fun a h => (by cases h), fun _ => rfl⟩, hbS⟩

  | some a =>
    obtain rfl : v0 = a := hv0.1 a rfl
    have HVA := Lib.hid (HV0.out _ rfl)
    clear hv0
    have hk1 := HVA.out
    have htr : (typX vs y).1 = 1 := h0.truths (by omega) (List.mem_of_getElem? HY.out)
    have HTR := Lib.hid (truth_range hk1.2 (hk1.1.trans htr))
    clear hk1 htr
    by_cases hz : v0.n = 1
    · have b1 : (v0.n == 0) = false := by rw [hz]; rfl
      have HZ := Lib.hid hz
      clear hz
      have hli : 1 < x.l.length := by have := HSL.out; omega
      obtain ⟨b1, o1, y1, ylv, n1, hn, hA1, hD1, hy, hex, hfv, hsl, e0, e1, e2, e3, e4, e5⟩ := hl3.at_ hli
      injection hA1 with hA1
      injection hA1 with g1 g2 _
      subst g1 g2
      have HY1 := Lib.hid hy
      have hym1 := List.mem_of_getElem? hy
      obtain ⟨A2, c2', rfl, m1, m2, _⟩ := hsl.open_
      have hcall := Lib.hid (ih n1 (by omega) vs vals y1 _ _ _ _ (h0.part hym1 (bthen hb hb13) hex))
      have HV1 := Lib.hid (fun (a : Val) (h : evX vs vals y1 = some a) => h0.val hym1 h)
      have i1 : (1 : Int) < (x.l.length : Int) := by omega
      clear hy hex hsl hfv hn
      go_wp2_with fail
      refine hcall.out.mono ?_
      clear hcall e0 e1 e2 e3 e4 e5
      rintro e w4 ⟨v1, rfl, hv1', hb4⟩
      have HG1 := Lib.hid (getD_map (f := evX vs vals) HY1.out)
      generalize hr1 : evX vs vals y1 = r1 at *
      have HR : Hid (evX vs vals x = r1) := by
        show _ = _
        rw [HKEY.out]
        unfold evO
        rw [if_neg (by omega), if_neg (by omega), HG0.out]
        exact (if_neg (by omega)).trans ((if_pos ho).trans ((if_pos HZ.out).trans HG1.out))
      clear f0 f1 f2 q0 q1 q2 q3 q4 q5
      obtain ⟨⟨k0, k1, k2⟩, hS, ⟨y0, y1, y2⟩, hbS⟩ := HST.out w4 (.int .i64 v1.kind) (.int .i64 v1.n) (.string v1.s) (bthen hb13 hb4)
      go_wp2_with fail
      obtain ⟨t0, t1, t2⟩ := hS.c3
      refine bodyPost_ret (v := .tuple #[.agg #[.int .i64 v1.kind, .int .i64 v1.n, .string v1.s], .bool r1.isSome]) (by simp [results, Tryz.results49, go_sem, t0, t1, t2]) rfl ?_
      exact RetZ.cast HR.out ⟨v1, rfl, hv1', hbS⟩
    · have b1 : (v0.n == 0) = true := by have := HTR.out; simp; omega
      have HZ := Lib.hid hz
      clear hz
      have HR : Hid (evX vs vals x = some v0) := by
        show _ = _
        rw [HKEY.out]
        unfold evO
        rw [if_neg (by omega), if_neg (by omega), HG0.out]
        exact (if_neg (by omega)).trans ((if_pos ho).trans (if_neg HZ.out))
      obtain ⟨⟨k0, k1, k2⟩, hS, ⟨y0, y1, y2⟩, hbS⟩ := HST.out w3 (.int .i64 v0.kind) (.int .i64 v0.n) (.string v0.s) hb13
      go_wp2_with fail
      obtain ⟨t0, t1, t2⟩ := hS.c3
      refine bodyPost_ret (v := .tuple #[.agg #[.int .i64 v0.kind, .int .i64 v0.n, .string v0.s], .bool true]) (by simp [results, Tryz.results49, go_sem, t0, t1, t2]) rfl ?_
      exact RetZ.cast HR.out ⟨v0, rfl, ⟨fun a h => (by injection h), fun h => (by cases h)⟩, hbS⟩
set_option maxHeartbeats 8000000 in
set_option maxRecDepth 100000 in
theorem valz_or (n : Nat) (ih : ∀ m, m < n → EvalZ 49 m) (vs : List Var) (vals : List Val) (x : Ex) (w : World) (uv vv u : Value) (h : EvArgs n vs vals x w uv vv u) (ho : x.op = 5) : Calls Tryz.prog 49 #[uv, vv, u] w (RetZ (evX vs vals x) w) := by
  have HO := Lib.hid ho
  clear ho
  have h0 := h
  obtain ⟨hvs, hvl, hx, _, _, hA⟩ := h
  obtain ⟨Av, cv, rfl, v1, v2, hvs⟩ := hvs.open_
  obtain ⟨Aw, cw, rfl, v3, v4, hvl⟩ := hvl.open_
  obtain ⟨lv, rfl, h1, h2, h3, h4⟩ := hx
  obtain ⟨A, c, rfl, l1, l2, h4⟩ := h4.open_
  have hb := bbox (bone w (.cells #[.int .i64 x.op, .int .i64 x.v.kind, .int .i64 x.v.n, .string x.v.s, .string x.s, .slice A x.l.length c] 28)) (.cells #[.int .i64 0, .int .i64 0, .string ⟨#[]⟩] 25)
  have hB := (Blk.new w 28 #[.int .i64 x.op, .int .i64 x.v.kind, .int .i64 x.v.n, .string x.v.s, .string x.s, .slice A x.l.length c]).alloc (.cells #[.int .i64 0, .int .i64 0, .string ⟨#[]⟩] 25)
  have hR := Blk.new_at (t := 25) (cs := #[.int .i64 0, .int .i64 0, .string ⟨#[]⟩]) (w := w.alloc (.cells #[.int .i64 x.op, .int .i64 x.v.kind, .int .i64 x.v.n, .string x.v.s, .string x.s, .slice A x.l.length c] 28)) (s := w.heap.size + 1) (by simp)
  have hl1 := SlE.now h4 hb
  have hv1 := hvs.now hb
  have hw1 := hvl.now hb
  clear h4 hvs hvl
  go_enter Tryz.func49, Tryz.ntmps49
  go_upto_region 1 with fail
  generalize hww : (w.alloc (.cells #[.int .i64 x.op, .int .i64 x.v.kind, .int .i64 x.v.n, .string x.v.s, .string x.s, .slice A x.l.length c] 28)).alloc (.cells #[.int .i64 0, .int .i64 0, .string ⟨#[]⟩] 25) = w1 at *
  clear hww
  have ho := HO.out
  have HST : Hid (∀ (W : World) (x y z : Value), Below w1.heap.size w1 W →
      (W.frozen? ⟨w.heap.size + 1, 0, none⟩ = false ∧ W.frozen? ⟨w.heap.size + 1, 1, none⟩ = false ∧ W.frozen? ⟨w.heap.size + 1, 2, none⟩ = false) ∧
      Blk (((W.setCell ⟨w.heap.size + 1, 0, none⟩ x).setCell ⟨w.heap.size + 1, 1, none⟩ y).setCell ⟨w.heap.size + 1, 2, none⟩ z) (w.heap.size + 1) 25 #[x, y, z] ∧
      (W.cell? ⟨w.heap.size + 1, 0, none⟩ = some (.int .i64 0) ∧ W.cell? ⟨w.heap.size + 1, 1, none⟩ = some (.int .i64 0) ∧ W.cell? ⟨w.heap.size + 1, 2, none⟩ = some (.string ⟨#[]⟩)) ∧
      Below w.heap.size w (((W.setCell ⟨w.heap.size + 1, 0, none⟩ x).setCell ⟨w.heap.size + 1, 1, none⟩ y).setCell ⟨w.heap.size + 1, 2, none⟩ z)) :=
    fun W x y z hW => ⟨⟨(hR.now hW).frozen 0, (hR.now hW).frozen 1, (hR.now hW).frozen 2⟩, (hR.now hW).set3 _ _ _, (hR.now hW).c3, bset3 (bthen hb hW) (by omega) _ _ _⟩
  obtain ⟨q0, q1, q2, q3, q4, q5⟩ := hB.c6
  have HKEY := Lib.hid (ev_key vs vals x)
  have HSL := Lib.hid (shape_len h0.shape)
  have hlen : 1 ≤ x.l.length := by have := HSL.out; omega
  obtain ⟨b, o, y, ylv, n', hn, rfl, hD, hy, hex, hfv, hsl, e0, e1, e2, e3, e4, e5⟩ := hl1.at_ (k := 0) (by omega)
  have HY := Lib.hid hy
  have hym := List.mem_of_getElem? hy
  obtain ⟨A2, c2', rfl, m1, m2, _⟩ := hsl.open_
  have hcall := Lib.hid (ih n' (by omega) vs vals y _ _ _ _ (h0.part hym hb hex))
  have HV0 := Lib.hid (fun (a : Val) (h : evX vs vals y = some a) => h0.val hym h)
  have i0 : (0 : Int) < (x.l.length : Int) := by omega
  have e0' : w1.cell? ⟨b, o, none⟩ = some (.int .i64 y.op) := by simpa using e0
  have e1' : w1.cell? ⟨b, o + 1, none⟩ = some (.int .i64 y.v.kind) := by simpa using e1
  have e2' : w1.cell? ⟨b, o + 2, none⟩ = some (.int .i64 y.v.n) := by simpa using e2
  have e3' : w1.cell? ⟨b, o + 3, none⟩ = some (.string y.v.s) := by simpa using e3
  have e4' : w1.cell? ⟨b, o + 4, none⟩ = some (.string y.s) := by simpa using e4
  have e5' : w1.cell? ⟨b, o + 5, none⟩ = some (.slice A2 y.l.length c2') := by simpa using e5
  clear hy hex hsl hfv e0 e1 e2 e3 e4 e5 hn
  go_wp2_with fail
  refine hcall.out.mono ?_
  clear hcall e0' e1' e2' e3' e4' e5'
  rintro e w2 ⟨v0, rfl, hv0, hb2⟩
  have HG0 := Lib.hid (getD_map (f := evX vs vals) HY.out)
  generalize hr0 : evX vs vals y = r0 at *
  have hb3 := bone w2 (.cells #[.int .i64 v0.kind, .int .i64 v0.n, .string v0.s] 25)
  have hF := Blk.new w2 25 #[.int .i64 v0.kind, .int .i64 v0.n, .string v0.s]
  have hb13 := bthen hb2 hb3
  have hB3 := hB.now hb13
  have hl3 := SlE.now hl1 hb13
  clear q0 q1 q2 q3 q4 q5
  have l2' := hF.lt
  go_upto_region 7 with fail
  generalize hw3 : w2.alloc (.cells #[.int .i64 v0.kind, .int .i64 v0.n, .string v0.s] 25) = w3 at *
  clear hw3
  obtain ⟨q0, q1, q2, q3, q4, q5⟩ := hB3.c6
  obtain ⟨f0, f1, f2⟩ := hF.c3
  cases r0 with
  | none =>
    have HR : Hid (evX vs vals x = none) := by
      show _ = _
      rw [HKEY.out]
      unfold evO
      rw [if_neg (by omega), if_neg (by omega), HG0.out]
    clear f0 f1 f2 q0 q1 q2 q3 q4 q5
    obtain ⟨⟨k0, k1, k2⟩, hS, ⟨y0, y1, y2⟩, hbS⟩ := HST.out w3 (.int .i64 0) (.int .i64 0) (.string ⟨#[]⟩) hb13
    go_wp2_with fail
    obtain ⟨t0, t1, t2⟩ := hS.c3
    refine bodyPost_ret (v := .tuple #[.agg #[.int .i64 0, .int .i64 0, .string ⟨#[]⟩], .bool false]) (by simp [results, Tryz.results49, go_sem, t0, t1, t2]) rfl ?_
    exact RetZ.cast HR.out ⟨⟨0, 0, ⟨#[]⟩⟩, rfl, ⟨fun a h => (by cases h), fun _ => rfl⟩, hbS⟩

  | some a =>
    obtain rfl : v0 = a := hv0.1 a rfl
    have HVA := Lib.hid (HV0.out _ rfl)
    clear hv0
    have hk1 := HVA.out
    have htr : (typX vs y).1 = 1 := h0.truths (by omega) (List.mem_of_getElem? HY.out)
    have HTR := Lib.hid (truth_range hk1.2 (hk1.1.trans htr))
    clear hk1 htr
    by_cases hz : v0.n = 1
    · have b1 : (v0.n == 1) = true := by simp [hz]
      have HZ := Lib.hid hz
      clear hz
      have HR : Hid (evX vs vals x = some v0) := by
        show _ = _
        rw [HKEY.out]
        unfold evO
        rw [if_neg (by omega), if_neg (by omega), HG0.out]
        exact (if_neg (by omega)).trans ((if_neg (by omega)).trans ((if_pos ho).trans (if_pos HZ.out)))
      obtain ⟨⟨k0, k1, k2⟩, hS, ⟨y0, y1, y2⟩, hbS⟩ := HST.out w3 (.int .i64 v0.kind) (.int .i64 v0.n) (.string v0.s) hb13
      go_wp2_with fail
      obtain ⟨t0, t1, t2⟩ := hS.c3
      refine bodyPost_ret (v := .tuple #[.agg #[.int .i64 v0.kind, .int .i64 v0.n, .string v0.s], .bool true]) (by simp [results, Tryz.results49, go_sem, t0, t1, t2]) rfl ?_
      exact RetZ.cast HR.out ⟨v0, rfl, ⟨fun a h => (by injection h), fun h => (by cases h)⟩, hbS⟩
    · have b1 : (v0.n == 1) = false := by simpa using hz
      have HZ := Lib.hid hz
      clear hz
      have hli : 1 < x.l.length := by have := HSL.out; omega
      obtain ⟨b1, o1, y1, ylv, n1, hn, hA1, hD1, hy, hex, hfv, hsl, e0, e1, e2, e3, e4, e5⟩ := hl3.at_ hli
      injection hA1 with hA1
      injection hA1 with g1 g2 _
      subst g1 g2
      have HY1 := Lib.hid hy
      have hym1 := List.mem_of_getElem? hy
      obtain ⟨A2, c2', rfl, m1, m2, _⟩ := hsl.open_
      have hcall := Lib.hid (ih n1 (by omega) vs vals y1 _ _ _ _ (h0.part hym1 (bthen hb hb13) hex))
      have HV1 := Lib.hid (fun (a : Val) (h : evX vs vals y1 = some a) => h0.val hym1 h)
      have i1 : (1 : Int) < (x.l.length : Int) := by omega
      clear hy hex hsl hfv hn
      go_wp2_with fail
      refine hcall.out.mono ?_
      clear hcall e0 e1 e2 e3 e4 e5
      rintro e w4 ⟨v1, rfl, hv1', hb4⟩
      have HG1 := Lib.hid (getD_map (f := evX vs vals) HY1.out)
      generalize hr1 : evX vs vals y1 = r1 at *
      have HR : Hid (evX vs vals x = r1) := by
        show _ = _
        rw [HKEY.out]
        unfold evO
        rw [if_neg (by omega), if_neg (by omega), HG0.out]
        exact (if_neg (by omega)).trans ((if_neg (by omega)).trans ((if_pos ho).trans ((if_neg HZ.out).trans HG1.out)))
      clear f0 f1 f2 q0 q1 q2 q3 q4 q5
      obtain ⟨⟨k0, k1, k2⟩, hS, ⟨y0, y1, y2⟩, hbS⟩ := HST.out w4 (.int .i64 v1.kind) (.int .i64 v1.n) (.string v1.s) (bthen hb13 hb4)
      go_wp2_with fail
      obtain ⟨t0, t1, t2⟩ := hS.c3
      refine bodyPost_ret (v := .tuple #[.agg #[.int .i64 v1.kind, .int .i64 v1.n, .string v1.s], .bool r1.isSome]) (by simp [results, Tryz.results49, go_sem, t0, t1, t2]) rfl ?_
      exact RetZ.cast HR.out ⟨v1, rfl, hv1', hbS⟩
set_option maxHeartbeats 8000000 in
set_option maxRecDepth 100000 in
theorem valz_if (n : Nat) (ih : ∀ m, m < n → EvalZ 49 m) (vs : List Var) (vals : List Val) (x : Ex) (w : World) (uv vv u : Value) (h : EvArgs n vs vals x w uv vv u) (ho : x.op = 12) : Calls Tryz.prog 49 #[uv, vv, u] w (RetZ (evX vs vals x) w) := by
  have HO := Lib.hid ho
  clear ho
  have h0 := h
  obtain ⟨hvs, hvl, hx, _, _, hA⟩ := h
  obtain ⟨Av, cv, rfl, v1, v2, hvs⟩ := hvs.open_
  obtain ⟨Aw, cw, rfl, v3, v4, hvl⟩ := hvl.open_
  obtain ⟨lv, rfl, h1, h2, h3, h4⟩ := hx
  obtain ⟨A, c, rfl, l1, l2, h4⟩ := h4.open_
  have hb := bbox (bone w (.cells #[.int .i64 x.op, .int .i64 x.v.kind, .int .i64 x.v.n, .string x.v.s, .string x.s, .slice A x.l.length c] 28)) (.cells #[.int .i64 0, .int .i64 0, .string ⟨#[]⟩] 25)
  have hB := (Blk.new w 28 #[.int .i64 x.op, .int .i64 x.v.kind, .int .i64 x.v.n, .string x.v.s, .string x.s, .slice A x.l.length c]).alloc (.cells #[.int .i64 0, .int .i64 0, .string ⟨#[]⟩] 25)
  have hR := Blk.new_at (t := 25) (cs := #[.int .i64 0, .int .i64 0, .string ⟨#[]⟩]) (w := w.alloc (.cells #[.int .i64 x.op, .int .i64 x.v.kind, .int .i64 x.v.n, .string x.v.s, .string x.s, .slice A x.l.length c] 28)) (s := w.heap.size + 1) (by simp)
  have hl1 := SlE.now h4 hb
  have hv1 := hvs.now hb
  have hw1 := hvl.now hb
  clear h4 hvs hvl
  go_enter Tryz.func49, Tryz.ntmps49
  go_upto_region 1 with fail
  generalize hww : (w.alloc (.cells #[.int .i64 x.op, .int .i64 x.v.kind, .int .i64 x.v.n, .string x.v.s, .string x.s, .slice A x.l.length c] 28)).alloc (.cells #[.int .i64 0, .int .i64 0, .string ⟨#[]⟩] 25) = w1 at *
  clear hww
  have ho := HO.out
  have HST : Hid (∀ (W : World) (x y z : Value), Below w1.heap.size w1 W →
      (W.frozen? ⟨w.heap.size + 1, 0, none⟩ = false ∧ W.frozen? ⟨w.heap.size + 1, 1, none⟩ = false ∧ W.frozen? ⟨w.heap.size + 1, 2, none⟩ = false) ∧
      Blk (((W.setCell ⟨w.heap.size + 1, 0, none⟩ x).setCell ⟨w.heap.size + 1, 1, none⟩ y).setCell ⟨w.heap.size + 1, 2, none⟩ z) (w.heap.size + 1) 25 #[x, y, z] ∧
      (W.cell? ⟨w.heap.size + 1, 0, none⟩ = some (.int .i64 0) ∧ W.cell? ⟨w.heap.size + 1, 1, none⟩ = some (.int .i64 0) ∧ W.cell? ⟨w.heap.size + 1, 2, none⟩ = some (.string ⟨#[]⟩)) ∧
      Below w.heap.size w (((W.setCell ⟨w.heap.size + 1, 0, none⟩ x).setCell ⟨w.heap.size + 1, 1, none⟩ y).setCell ⟨w.heap.size + 1, 2, none⟩ z)) :=
    fun W x y z hW => ⟨⟨(hR.now hW).frozen 0, (hR.now hW).frozen 1, (hR.now hW).frozen 2⟩, (hR.now hW).set3 _ _ _, (hR.now hW).c3, bset3 (bthen hb hW) (by omega) _ _ _⟩
  obtain ⟨q0, q1, q2, q3, q4, q5⟩ := hB.c6
  have HKEY := Lib.hid (ev_key vs vals x)
  have HSL := Lib.hid (shape_len h0.shape)
  have hlen : 1 ≤ x.l.length := by have := HSL.out; omega
  obtain ⟨b, o, y, ylv, n', hn, rfl, hD, hy, hex, hfv, hsl, e0, e1, e2, e3, e4, e5⟩ := hl1.at_ (k := 0) (by omega)
  have HY := Lib.hid hy
  have hym := List.mem_of_getElem? hy
  obtain ⟨A2, c2', rfl, m1, m2, _⟩ := hsl.open_
  have hcall := Lib.hid (ih n' (by omega) vs vals y _ _ _ _ (h0.part hym hb hex))
  have HV0 := Lib.hid (fun (a : Val) (h : evX vs vals y = some a) => h0.val hym h)
  have i0 : (0 : Int) < (x.l.length : Int) := by omega
  have e0' : w1.cell? ⟨b, o, none⟩ = some (.int .i64 y.op) := by simpa using e0
  have e1' : w1.cell? ⟨b, o + 1, none⟩ = some (.int .i64 y.v.kind) := by simpa using e1
  have e2' : w1.cell? ⟨b, o + 2, none⟩ = some (.int .i64 y.v.n) := by simpa using e2
  have e3' : w1.cell? ⟨b, o + 3, none⟩ = some (.string y.v.s) := by simpa using e3
  have e4' : w1.cell? ⟨b, o + 4, none⟩ = some (.string y.s) := by simpa using e4
  have e5' : w1.cell? ⟨b, o + 5, none⟩ = some (.slice A2 y.l.length c2') := by simpa using e5
  clear hy hex hsl hfv e0 e1 e2 e3 e4 e5 hn
  go_wp2_with fail
  refine hcall.out.mono ?_
  clear hcall e0' e1' e2' e3' e4' e5'
  rintro e w2 ⟨v0, rfl, hv0, hb2⟩
  have HG0 := Lib.hid (getD_map (f := evX vs vals) HY.out)
  generalize hr0 : evX vs vals y = r0 at *
  have hb3 := bone w2 (.cells #[.int .i64 v0.kind, .int .i64 v0.n, .string v0.s] 25)
  have hF := Blk.new w2 25 #[.int .i64 v0.kind, .int .i64 v0.n, .string v0.s]
  have hb13 := bthen hb2 hb3
  have hB3 := hB.now hb13
  have hl3 := SlE.now hl1 hb13
  clear q0 q1 q2 q3 q4 q5
  have l2' := hF.lt
  go_upto_region 7 with fail
  generalize hw3 : w2.alloc (.cells #[.int .i64 v0.kind, .int .i64 v0.n, .string v0.s] 25) = w3 at *
  clear hw3
  obtain ⟨q0, q1, q2, q3, q4, q5⟩ := hB3.c6
  obtain ⟨f0, f1, f2⟩ := hF.c3
  cases r0 with
  | none =>
    have HR : Hid (evX vs vals x = none) := by
      show _ = _
      rw [HKEY.out]
      unfold evO
      rw [if_neg (by omega), if_neg (by omega), HG0.out]
    clear f0 f1 f2 q0 q1 q2 q3 q4 q5
    obtain ⟨⟨k0, k1, k2⟩, hS, ⟨y0, y1, y2⟩, hbS⟩ := HST.out w3 (.int .i64 0) (.int .i64 0) (.string ⟨#[]⟩) hb13
    go_wp2_with fail
    obtain ⟨t0, t1, t2⟩ := hS.c3
    refine bodyPost_ret (v := .tuple #[.agg #[.int .i64 0, .int .i64 0, .string ⟨#[]⟩], .bool false]) (by simp [results, Tryz.results49, go_sem, t0, t1, t2]) rfl ?_
    exact RetZ.cast HR.out ⟨⟨0, 0, ⟨#[]⟩⟩, rfl, ⟨fun a h => (by cases h), fun _ => rfl⟩, hbS⟩

  | some a =>
    obtain rfl : v0 = a := hv0.1 a rfl
    have HVA := Lib.hid (HV0.out _ rfl)
    clear hv0
    by_cases hz : v0.n = 1
    · have b1 : (v0.n == 1) = true := by simp [hz]
      have HZ := Lib.hid hz
      clear hz
      have hli : 1 < x.l.length := by have := HSL.out; omega
      obtain ⟨b1, o1, y1, ylv, n1, hn, hA1, hD1, hy, hex, hfv, hsl, e0, e1, e2, e3, e4, e5⟩ := hl3.at_ hli
      injection hA1 with hA1
      injection hA1 with g1 g2 _
      subst g1 g2
      have HY1 := Lib.hid hy
      have hym1 := List.mem_of_getElem? hy
      obtain ⟨A2, c2', rfl, m1, m2, _⟩ := hsl.open_
      have hcall := Lib.hid (ih n1 (by omega) vs vals y1 _ _ _ _ (h0.part hym1 (bthen hb hb13) hex))
      have HV1 := Lib.hid (fun (a : Val) (h : evX vs vals y1 = some a) => h0.val hym1 h)
      have i1 : (1 : Int) < (x.l.length : Int) := by omega
      clear hy hex hsl hfv hn
      go_wp2_with fail
      refine hcall.out.mono ?_
      clear hcall e0 e1 e2 e3 e4 e5
      rintro e w4 ⟨v1, rfl, hv1', hb4⟩
      have HG1 := Lib.hid (getD_map (f := evX vs vals) HY1.out)
      generalize hr1 : evX vs vals y1 = r1 at *
      have HR : Hid (evX vs vals x = r1) := by
        show _ = _
        rw [HKEY.out]
        unfold evO
        rw [if_neg (by omega), if_neg (by omega), HG0.out]
        exact (if_neg (by omega)).trans ((if_neg (by omega)).trans ((if_neg (by omega)).trans ((if_pos ho).trans ((if_pos HZ.out).trans HG1.out))))
      clear f0 f1 f2 q0 q1 q2 q3 q4 q5
      obtain ⟨⟨k0, k1, k2⟩, hS, ⟨y0, y1, y2⟩, hbS⟩ := HST.out w4 (.int .i64 v1.kind) (.int .i64 v1.n) (.string v1.s) (bthen hb13 hb4)
      go_wp2_with fail
      obtain ⟨t0, t1, t2⟩ := hS.c3
      refine bodyPost_ret (v := .tuple #[.agg #[.int .i64 v1.kind, .int .i64 v1.n, .string v1.s], .bool r1.isSome]) (by simp [results, Tryz.results49, go_sem, t0, t1, t2]) rfl ?_
      exact RetZ.cast HR.out ⟨v1, rfl, hv1', hbS⟩
    · have b1 : (v0.n == 1) = false := by simpa using hz
      have HZ := Lib.hid hz
      clear hz
      have hli : 2 < x.l.length := by have := HSL.out; omega
      obtain ⟨b1, o1, y1, ylv, n1, hn, hA1, hD1, hy, hex, hfv, hsl, e0, e1, e2, e3, e4, e5⟩ := hl3.at_ hli
      injection hA1 with hA1
      injection hA1 with g1 g2 _
      subst g1 g2
      have HY1 := Lib.hid hy
      have hym1 := List.mem_of_getElem? hy
      obtain ⟨A2, c2', rfl, m1, m2, _⟩ := hsl.open_
      have hcall := Lib.hid (ih n1 (by omega) vs vals y1 _ _ _ _ (h0.part hym1 (bthen hb hb13) hex))
      have HV1 := Lib.hid (fun (a : Val) (h : evX vs vals y1 = some a) => h0.val hym1 h)
      have i1 : (2 : Int) < (x.l.length : Int) := by omega
      clear hy hex hsl hfv hn
      go_wp2_with fail
      refine hcall.out.mono ?_
      clear hcall e0 e1 e2 e3 e4 e5
      rintro e w4 ⟨v1, rfl, hv1', hb4⟩
      have HG1 := Lib.hid (getD_map (f := evX vs vals) HY1.out)
      generalize hr1 : evX vs vals y1 = r1 at *
      have HR : Hid (evX vs vals x = r1) := by
        show _ = _
        rw [HKEY.out]
        unfold evO
        rw [if_neg (by omega), if_neg (by omega), HG0.out]
        exact (if_neg (by omega)).trans ((if_neg (by omega)).trans ((if_neg (by omega)).trans ((if_pos ho).trans ((if_neg HZ.out).trans HG1.out))))
      clear f0 f1 f2 q0 q1 q2 q3 q4 q5
      obtain ⟨⟨k0, k1, k2⟩, hS, ⟨y0, y1, y2⟩, hbS⟩ := HST.out w4 (.int .i64 v1.kind) (.int .i64 v1.n) (.string v1.s) (bthen hb13 hb4)
      go_wp2_with fail
      obtain ⟨t0, t1, t2⟩ := hS.c3
      refine bodyPost_ret (v := .tuple #[.agg #[.int .i64 v1.kind, .int .i64 v1.n, .string v1.s], .bool r1.isSome]) (by simp [results, Tryz.results49, go_sem, t0, t1, t2]) rfl ?_
      exact RetZ.cast HR.out ⟨v1, rfl, hv1', hbS⟩
set_option maxHeartbeats 8000000 in
set_option maxRecDepth 100000 in
theorem valz_in (n : Nat) (ih : ∀ m, m < n → EvalZ 49 m) (vs : List Var) (vals : List Val) (x : Ex) (w : World) (uv vv u : Value) (h : EvArgs n vs vals x w uv vv u) (ho : x.op = 13) : Calls Tryz.prog 49 #[uv, vv, u] w (RetZ (evX vs vals x) w) := by
  have HO := Lib.hid ho
  clear ho
  have h0 := h
  obtain ⟨hvs, hvl, hx, _, _, hA⟩ := h
  obtain ⟨Av, cv, rfl, v1, v2, hvs⟩ := hvs.open_
  obtain ⟨Aw, cw, rfl, v3, v4, hvl⟩ := hvl.open_
  obtain ⟨lv, rfl, h1, h2, h3, h4⟩ := hx
  obtain ⟨A, c, rfl, l1, l2, h4⟩ := h4.open_
  have hb := bbox (bone w (.cells #[.int .i64 x.op, .int .i64 x.v.kind, .int .i64 x.v.n, .string x.v.s, .string x.s, .slice A x.l.length c] 28)) (.cells #[.int .i64 0, .int .i64 0, .string ⟨#[]⟩] 25)
  have hB := (Blk.new w 28 #[.int .i64 x.op, .int .i64 x.v.kind, .int .i64 x.v.n, .string x.v.s, .string x.s, .slice A x.l.length c]).alloc (.cells #[.int .i64 0, .int .i64 0, .string ⟨#[]⟩] 25)
  have hR := Blk.new_at (t := 25) (cs := #[.int .i64 0, .int .i64 0, .string ⟨#[]⟩]) (w := w.alloc (.cells #[.int .i64 x.op, .int .i64 x.v.kind, .int .i64 x.v.n, .string x.v.s, .string x.s, .slice A x.l.length c] 28)) (s := w.heap.size + 1) (by simp)
  have hl1 := SlE.now h4 hb
  have hv1 := hvs.now hb
  have hw1 := hvl.now hb
  clear h4 hvs hvl
  go_enter Tryz.func49, Tryz.ntmps49
  go_upto_region 1 with fail
  generalize hww : (w.alloc (.cells #[.int .i64 x.op, .int .i64 x.v.kind, .int .i64 x.v.n, .string x.v.s, .string x.s, .slice A x.l.length c] 28)).alloc (.cells #[.int .i64 0, .int .i64 0, .string ⟨#[]⟩] 25) = w1 at *
  clear hww
  have ho := HO.out
  have HST : Hid (∀ (W : World) (x y z : Value), Below w1.heap.size w1 W →
      (W.frozen? ⟨w.heap.size + 1, 0, none⟩ = false ∧ W.frozen? ⟨w.heap.size + 1, 1, none⟩ = false ∧ W.frozen? ⟨w.heap.size + 1, 2, none⟩ = false) ∧
      Blk (((W.setCell ⟨w.heap.size + 1, 0, none⟩ x).setCell ⟨w.heap.size + 1, 1, none⟩ y).setCell ⟨w.heap.size + 1, 2, none⟩ z) (w.heap.size + 1) 25 #[x, y, z] ∧
      (W.cell? ⟨w.heap.size + 1, 0, none⟩ = some (.int .i64 0) ∧ W.cell? ⟨w.heap.size + 1, 1, none⟩ = some (.int .i64 0) ∧ W.cell? ⟨w.heap.size + 1, 2, none⟩ = some (.string ⟨#[]⟩)) ∧
      Below w.heap.size w (((W.setCell ⟨w.heap.size + 1, 0, none⟩ x).setCell ⟨w.heap.size + 1, 1, none⟩ y).setCell ⟨w.heap.size + 1, 2, none⟩ z)) :=
    fun W x y z hW => ⟨⟨(hR.now hW).frozen 0, (hR.now hW).frozen 1, (hR.now hW).frozen 2⟩, (hR.now hW).set3 _ _ _, (hR.now hW).c3, bset3 (bthen hb hW) (by omega) _ _ _⟩
  obtain ⟨q0, q1, q2, q3, q4, q5⟩ := hB.c6
  have HKEY := Lib.hid (ev_key vs vals x)
  have HSL := Lib.hid (shape_len h0.shape)
  have hlen : 1 ≤ x.l.length := by have := HSL.out; omega
  obtain ⟨b, o, y, ylv, n', hn, rfl, hD, hy, hex, hfv, hsl, e0, e1, e2, e3, e4, e5⟩ := hl1.at_ (k := 0) (by omega)
  have HY := Lib.hid hy
  have hym := List.mem_of_getElem? hy
  obtain ⟨A2, c2', rfl, m1, m2, _⟩ := hsl.open_
  have hcall := Lib.hid (ih n' (by omega) vs vals y _ _ _ _ (h0.part hym hb hex))
  have HV0 := Lib.hid (fun (a : Val) (h : evX vs vals y = some a) => h0.val hym h)
  have i0 : (0 : Int) < (x.l.length : Int) := by omega
  have e0' : w1.cell? ⟨b, o, none⟩ = some (.int .i64 y.op) := by simpa using e0
  have e1' : w1.cell? ⟨b, o + 1, none⟩ = some (.int .i64 y.v.kind) := by simpa using e1
  have e2' : w1.cell? ⟨b, o + 2, none⟩ = some (.int .i64 y.v.n) := by simpa using e2
  have e3' : w1.cell? ⟨b, o + 3, none⟩ = some (.string y.v.s) := by simpa using e3
  have e4' : w1.cell? ⟨b, o + 4, none⟩ = some (.string y.s) := by simpa using e4
  have e5' : w1.cell? ⟨b, o + 5, none⟩ = some (.slice A2 y.l.length c2') := by simpa using e5
  clear hy hex hsl hfv e0 e1 e2 e3 e4 e5 hn
  go_wp2_with fail
  refine hcall.out.mono ?_
  clear hcall e0' e1' e2' e3' e4' e5'
  rintro e w2 ⟨v0, rfl, hv0, hb2⟩
  have HG0 := Lib.hid (getD_map (f := evX vs vals) HY.out)
  generalize hr0 : evX vs vals y = r0 at *
  have hb3 := bone w2 (.cells #[.int .i64 v0.kind, .int .i64 v0.n, .string v0.s] 25)
  have hF := Blk.new w2 25 #[.int .i64 v0.kind, .int .i64 v0.n, .string v0.s]
  have hb13 := bthen hb2 hb3
  have hB3 := hB.now hb13
  have hl3 := SlE.now hl1 hb13
  clear q0 q1 q2 q3 q4 q5
  have l2' := hF.lt
  go_upto_region 7 with fail
  generalize hw3 : w2.alloc (.cells #[.int .i64 v0.kind, .int .i64 v0.n, .string v0.s] 25) = w3 at *
  clear hw3
  obtain ⟨q0, q1, q2, q3, q4, q5⟩ := hB3.c6
  obtain ⟨f0, f1, f2⟩ := hF.c3
  cases r0 with
  | none =>
    have HR : Hid (evX vs vals x = none) := by
      show _ = _
      rw [HKEY.out]
      unfold evO
      rw [if_neg (by omega), if_neg (by omega), HG0.out]
    clear f0 f1 f2 q0 q1 q2 q3 q4 q5
    obtain ⟨⟨k0, k1, k2⟩, hS, ⟨y0, y1, y2⟩, hbS⟩ := HST.out w3 (.int .i64 0) (.int .i64 0) (.string ⟨#[]⟩) hb13
    go_wp2_with fail
    obtain ⟨t0, t1, t2⟩ := hS.c3
    refine bodyPost_ret (v := .tuple #[.agg #[.int .i64 0, .int .i64 0, .string ⟨#[]⟩], .bool false]) (by simp [results, Tryz.results49, go_sem, t0, t1, t2]) rfl ?_
    exact RetZ.cast HR.out ⟨⟨0, 0, ⟨#[]⟩⟩, rfl, ⟨fun a h => (by cases h), fun _ => rfl⟩, hbS⟩

  | some a =>
    obtain rfl : v0 = a := hv0.1 a rfl
    have HVA := Lib.hid (HV0.out _ rfl)
    clear hv0
    have HR : Hid (evX vs vals x = some (truthV ((x.l.drop 1).any fun y => decide (y.v = v0)))) := by
      show _ = _
      rw [HKEY.out]
      unfold evO
      rw [if_neg (by omega), if_neg (by omega), HG0.out]
      exact (if_neg (by omega)).trans ((if_neg (by omega)).trans ((if_neg (by omega)).trans ((if_neg (by omega)).trans (if_pos ho))))
    have ev : ∀ d, valV (truthV d) = .agg #[.int .i64 (truthV d).kind, .int .i64 (truthV d).n, .string (truthV d).s] := fun d => rfl
    have EV := Lib.hid ev
    clear ev
    go_wp2_with fail
    go_loopw [10] (fun i wr => ∃ j : Nat, 1 ≤ j ∧ j ≤ x.l.length ∧ i = .int .i64 j ∧ (∀ k y, 1 ≤ k → k < j → x.l[k]? = some y → y.v ≠ v0) ∧ Below w3.heap.size w3 wr) (fun i _ => x.l.length - (intOf i).toNat)
    case atStart => exact ⟨1, Nat.le_refl _, hlen, rfl, fun k y h1 h2 _ => by omega, Below.refl _ _⟩
    case round =>
      obtain ⟨j, hj1, hj, rfl, hp, hbr⟩ := hrel
      have HP := Lib.hid hp
      have hb1r := bthen hb13 hbr
      have hBr := hB3.now hbr
      have hFr := hF.now hbr
      clear hp f0 f1 f2 q0 q1 q2 q3 q4 q5
      obtain ⟨q0, q1, q2, q3, q4, q5⟩ := hBr.c6
      obtain ⟨f0, f1, f2⟩ := hFr.c3
      by_cases hlt : j < x.l.length
      · obtain ⟨b1, o1, z, zlv, nz, hnz, hA1, hD1, hxz, hex, hfv, hsl, e0, e1, e2, e3, e4, e5⟩ := (SlE.now hl3 hbr).at_ hlt
        injection hA1 with hA1
        injection hA1 with g1 g2 _
        subst g1 g2
        have HXZ := Lib.hid hxz
        have i1 : (0 : Int) ≤ (j : Int) := by omega
        have i2 : (j : Int) < (x.l.length : Int) := by omega
        have heq := fun W => run_eqV W z.v v0
        clear hxz hex hfv hsl hnz
        by_cases hzv : z.v = v0
        · have HRR : Hid (evX vs vals x = some (truthV true)) := by show _ = _; rw [HR.out, any_drop hj1 HXZ.out hzv]
          rw [decide_eq_true hzv] at heq
          clear hzv
          go_upto_region 20 with fail
          go_quiet (fail)
          go_wp2_with fail
          refine (truth_ref true _).mono ?_
          rintro e w6 ⟨rfl, hb6⟩
          have hb16 := bthen (bdrawn hb1r _) hb6
          clear f0 f1 f2 q0 q1 q2 q3 q4 q5 e0 e1 e2 e3 e4 e5 heq
          rw [EV.out]
          generalize truthV true = tv at *
          obtain ⟨⟨k0, k1, k2⟩, hS, ⟨y0, y1, y2⟩, hbS⟩ := HST.out w6 (.int .i64 tv.kind) (.int .i64 tv.n) (.string tv.s) hb16
          go_wp2_with fail
          obtain ⟨t0, t1, t2⟩ := hS.c3
          refine bodyPost_ret (v := .tuple #[.agg #[.int .i64 tv.kind, .int .i64 tv.n, .string tv.s], .bool true]) (by simp [results, Tryz.results49, go_sem, t0, t1, t2]) rfl ?_
          exact RetZ.cast HRR.out ⟨tv, rfl, ⟨fun a h => (by injection h), fun h => (by cases h)⟩, hbS⟩

        · have HZ := Lib.hid hzv
          rw [decide_eq_false hzv] at heq
          clear hzv
          go_upto_region 20 with fail
          go_quiet (fail)
          go_wp2_with fail
          go_roundw
          case rel =>
            refine ⟨j + 1, by omega, by omega, by go_num, fun k y h1 hk hy => ?_, bdrawn hbr _⟩
            by_cases e : k = j
            · subst e; rw [HXZ.out] at hy; injection hy with hy; subst hy; exact HZ.out
            · exact HP.out k y h1 (by omega) hy
          case measure => simp [intOf]; omega
      · have i2 : (x.l.length : Int) ≤ (j : Int) := by omega
        have HRR : Hid (evX vs vals x = some (truthV false)) := by
          show _ = _
          rw [HR.out, any_drop_not (fun k y h1 hy => HP.out k y h1 (by
            have : k < x.l.length := by
              rcases Nat.lt_or_ge k x.l.length with h | h
              · exact h
              · rw [List.getElem?_eq_none h] at hy; cases hy
            omega) hy)]
        go_wp2_with fail
        refine (truth_ref false _).mono ?_
        rintro e w6 ⟨rfl, hb6⟩
        have hb16 := bthen hb1r hb6
        clear f0 f1 f2 q0 q1 q2 q3 q4 q5
        rw [EV.out]
        generalize truthV false = tv at *
        obtain ⟨⟨k0, k1, k2⟩, hS, ⟨y0, y1, y2⟩, hbS⟩ := HST.out w6 (.int .i64 tv.kind) (.int .i64 tv.n) (.string tv.s) hb16
        go_wp2_with fail
        obtain ⟨t0, t1, t2⟩ := hS.c3
        refine bodyPost_ret (v := .tuple #[.agg #[.int .i64 tv.kind, .int .i64 tv.n, .string tv.s], .bool true]) (by simp [results, Tryz.results49, go_sem, t0, t1, t2]) rfl ?_
        exact RetZ.cast HRR.out ⟨tv, rfl, ⟨fun a h => (by injection h), fun h => (by cases h)⟩, hbS⟩
end Go.Proofs.YtijmnenojbfdnaaGreatDoor
