/- value.Compare and the reference's. -/
import Derived.Test.YtchfmjociflgfaaGreatDoorValCmp
namespace Go.Proofs.YtchfmjociflgfaaGreatDoor
open Go.RowKit

set_option maxHeartbeats 4000000 in
set_option maxRecDepth 100000 in
theorem cmpE_any (a b : Val) (w : World) (hfa : FitV a) (hfb : FitV b) :
    Calls Tryz.prog 36 #[valV a, valV b] w fun e w' => e = .returned (.tuple #[.int .i64 (cmpE a b).1, .int .i64 (cmpE a b).2]) ∧ Below w.heap.size w w' := by
  have hb0 := bone w (.cells #[.int .i64 a.kind, .int .i64 a.n, .string a.s] 23)
  have hb := bbox hb0 (.cells #[.int .i64 b.kind, .int .i64 b.n, .string b.s] 23)
  have hB := (Blk.new w 23 #[.int .i64 a.kind, .int .i64 a.n, .string a.s]).alloc (.cells #[.int .i64 b.kind, .int .i64 b.n, .string b.s] 23)
  have hC := Blk.new_at (t := 23) (cs := #[.int .i64 b.kind, .int .i64 b.n, .string b.s]) (w := w.alloc (.cells #[.int .i64 a.kind, .int .i64 a.n, .string a.s] 23)) (s := w.heap.size + 1) (by simp)
  unfold valV
  go_enter Tryz.func36, Tryz.ntmps36
  go_wp2_with fail
  refine (validV_any a _ hfa).mono ?_
  rintro e w2 ⟨rfl, hb2⟩
  have hB2 := hB.now hb2
  have hC2 := hC.now hb2
  have hbw2 := bthen hb hb2
  obtain ⟨x0, x1, x2⟩ := hB2.c3
  obtain ⟨y0, y1, y2⟩ := hC2.c3
  generalize hq : validV a = q
  have HQ := Lib.hid hq
  clear hq
  cases q
  · have HE : Hid (cmpE a b = (0, 1)) := by show _ = _; unfold cmpE; rw [HQ.out]; rfl
    go_wp2_with fail
    go_ret2
    exact ⟨ret_ii (by rw [HE.out]), hbw2⟩
  go_wp2_with fail
  refine (validV_any b _ hfb).mono ?_
  rintro e w3 ⟨rfl, hb3⟩
  have hB3 := hB2.now hb3
  have hC3 := hC2.now hb3
  have hbw3 := bthen hbw2 hb3
  clear x0 x1 x2 y0 y1 y2
  obtain ⟨x0, x1, x2⟩ := hB3.c3
  obtain ⟨y0, y1, y2⟩ := hC3.c3
  generalize hp : validV b = p
  have HP := Lib.hid hp
  clear hp
  cases p
  · have HE : Hid (cmpE a b = (0, 1)) := by show _ = _; unfold cmpE; rw [HQ.out, HP.out]; rfl
    go_wp2_with fail
    go_ret2
    exact ⟨ret_ii (by rw [HE.out]), hbw3⟩
  have HE : Hid (cmpE a b = (orI (Lib.compareInt a.kind b.kind) (Lib.compareInt a.n b.n) (cmpS a.s b.s), 0)) := by show _ = _; unfold cmpE; rw [HQ.out, HP.out]; rfl
  go_upto_region 3 with fail
  have HS : Hid (∀ W, Below w3.heap.size w3 W → (W.cell? ⟨w.heap.size, 0, none⟩ = some (.int .i64 a.kind) ∧ W.cell? ⟨w.heap.size, 1, none⟩ = some (.int .i64 a.n) ∧ W.cell? ⟨w.heap.size, 2, none⟩ = some (.string a.s)) ∧ W.cell? ⟨w.heap.size + 1, 0, none⟩ = some (.int .i64 b.kind) ∧ W.cell? ⟨w.heap.size + 1, 1, none⟩ = some (.int .i64 b.n) ∧ W.cell? ⟨w.heap.size + 1, 2, none⟩ = some (.string b.s)) := fun W hW => ⟨(hB3.now hW).c3, (hC3.now hW).c3⟩
  have HC1 : Hid (∀ W, Below w3.heap.size w3 W → Calls Tryz.prog 70 #[.int .i64 a.kind, .int .i64 b.kind] W fun e w' => e = .returned (.int .i64 (Lib.compareInt a.kind b.kind)) ∧ Below w3.heap.size w3 w') :=
    fun W hW => (Tryz.cmp_Compare_int _ _ W).mono fun e w' ⟨he, hw⟩ => ⟨he, by rw [hw]; exact hW⟩
  have HC2 : Hid (∀ W, Below w3.heap.size w3 W → Calls Tryz.prog 70 #[.int .i64 a.n, .int .i64 b.n] W fun e w' => e = .returned (.int .i64 (Lib.compareInt a.n b.n)) ∧ Below w3.heap.size w3 w') :=
    fun W hW => (Tryz.cmp_Compare_int _ _ W).mono fun e w' ⟨he, hw⟩ => ⟨he, by rw [hw]; exact hW⟩
  have HC3 : Hid (∀ W, Below w3.heap.size w3 W → Calls Tryz.prog 71 #[.string a.s, .string b.s] W fun e w' => e = .returned (.int .i64 (cmpS a.s b.s)) ∧ Below w3.heap.size w3 w') :=
    fun W hW => (compare_string _ _ W).mono fun e w' ⟨he, hw⟩ => ⟨he, by rw [← hw]; exact hW⟩
  have HC4 : Hid (∀ W (x y z : Int), Below w3.heap.size w3 W → Calls Tryz.prog 69 #[.slice (some ⟨W.heap.size, 0, none⟩) 3 3] (W.alloc (.cells #[.int .i64 x, .int .i64 y, .int .i64 z] 3)) fun e w' => e = .returned (.int .i64 (orI x y z)) ∧ Below w3.heap.size w3 w') :=
    fun W x y z hW => (or_any x y z W.heap.size _ (Blk.new W 3 _)).mono fun e w' ⟨he, hw⟩ => ⟨he, by rw [← hw]; exact bbox hW _⟩
  have HBX : Hid (∀ W o, Below w3.heap.size w3 W → Below w3.heap.size w3 (W.alloc o)) := fun W o hW => bbox hW o
  have hbd : Below w3.heap.size w3 w3.drew := (Below.refl _ _).drew
  obtain ⟨⟨a0, a1, a2⟩, d0, d1, d2⟩ := HS.out _ hbd
  generalize Lib.compareInt a.kind b.kind = c1 at *
  generalize Lib.compareInt a.n b.n = c2 at *
  generalize cmpS a.s b.s = c3 at *
  go_region_held3 (fun W => (W.cell? ⟨w.heap.size, 0, none⟩ = some (.int .i64 a.kind) ∧ W.cell? ⟨w.heap.size, 1, none⟩ = some (.int .i64 a.n) ∧ W.cell? ⟨w.heap.size, 2, none⟩ = some (.string a.s)) ∧ W.cell? ⟨w.heap.size + 1, 0, none⟩ = some (.int .i64 b.kind) ∧ W.cell? ⟨w.heap.size + 1, 1, none⟩ = some (.int .i64 b.n) ∧ W.cell? ⟨w.heap.size + 1, 2, none⟩ = some (.string b.s)) (first | exact HS.out _ (by assumption) | exact HS.out _ (HBX.out _ _ (by assumption)))
    (first
    | (go_at_call 70; (with_reducible refine (HC1.out _ (by assumption)).mono ?_); rintro e w6 ⟨rfl, hb6⟩)
    | (go_at_call 70; (with_reducible refine (HC2.out _ (by assumption)).mono ?_); rintro e w7 ⟨rfl, hb7⟩)
    | (go_at_call 71; (with_reducible refine (HC3.out _ (by assumption)).mono ?_); rintro e w8 ⟨rfl, hb8⟩)
    | (go_at_call 69; (with_reducible refine (HC4.out _ _ _ _ (by assumption)).mono ?_); rintro e w9 ⟨rfl, hb9⟩))
  go_wp2_with fail
  go_ret2
  exact ⟨ret_ii (by rw [HE.out]), bthen hbw3 hb9⟩

set_option maxHeartbeats 4000000 in
theorem cmp_ref (a b : Val) (w : World) :
    Calls Tryz.prog 37 #[valV a, valV b] w fun e w' => e = .returned (.int .i64 (cmpV a b)) ∧ Below w.heap.size w w' := by
  obtain ⟨ak, an, sa⟩ := a
  obtain ⟨bk, bn, sb⟩ := b
  have hb0 := bone w (.cells #[.int .i64 ak, .int .i64 an, .string sa] 23)
  have hb := bbox hb0 (.cells #[.int .i64 bk, .int .i64 bn, .string sb] 23)
  have HV0 := cmpV_cases ⟨ak, an, sa⟩ ⟨bk, bn, sb⟩
  dsimp only at HV0
  have HV := Lib.hid HV0
  clear HV0
  have HS : Hid (cmpS sa sb = if Op.bytesLess sa.toList sb.toList then -1 else if sa.toList == sb.toList then 0 else 1) := rfl
  unfold valV
  dsimp only
  go_enter Tryz.func37, Tryz.ntmps37
  by_cases k1 : ak < bk
  · have HE : Hid (cmpV ⟨ak, an, sa⟩ ⟨bk, bn, sb⟩ = -1) := by have := HV.out; show _ = _; omega
    go_wp2_with fail
    go_ret
    exact ⟨ret_int HE.out.symm, hb⟩
  by_cases k2 : ak = bk
  rotate_left
  · have HE : Hid (cmpV ⟨ak, an, sa⟩ ⟨bk, bn, sb⟩ = 1) := by have := HV.out; show _ = _; omega
    have k2' : (ak == bk) = false := by simpa using k2
    go_wp2_with fail
    go_ret
    exact ⟨ret_int HE.out.symm, hb⟩
  subst k2
  have k2' : (ak == ak) = true := by simp
  by_cases n1 : an < bn
  · have HE : Hid (cmpV ⟨ak, an, sa⟩ ⟨ak, bn, sb⟩ = -1) := by have := HV.out; show _ = _; omega
    go_wp2_with fail
    go_ret
    exact ⟨ret_int HE.out.symm, hb⟩
  by_cases n2 : an = bn
  rotate_left
  · have HE : Hid (cmpV ⟨ak, an, sa⟩ ⟨ak, bn, sb⟩ = 1) := by have := HV.out; show _ = _; omega
    have n2' : (an == bn) = false := by simpa using n2
    go_wp2_with fail
    go_ret
    exact ⟨ret_int HE.out.symm, hb⟩
  subst n2
  have n2' : (an == an) = true := by simp
  cases s1 : Op.bytesLess sa.toList sb.toList with
  | true =>
    have HE : Hid (cmpV ⟨ak, an, sa⟩ ⟨ak, an, sb⟩ = -1) := by have := HV.out; have h2 := HS.out; rw [s1] at h2; simp only [if_true] at h2; show _ = _; omega
    go_wp2_with fail
    go_ret
    exact ⟨ret_int HE.out.symm, hb⟩
  | false =>
    cases s2 : (sa.toList == sb.toList) with
    | true =>
      have HE : Hid (cmpV ⟨ak, an, sa⟩ ⟨ak, an, sb⟩ = 0) := by have := HV.out; have h2 := HS.out; rw [s1, s2] at h2; simp only [if_true, Bool.false_eq_true, if_false] at h2; show _ = _; omega
      obtain rfl : sa = sb := bytes_inj (by simpa using s2)
      go_wp2_with fail
      go_ret
      exact ⟨ret_int HE.out.symm, hb⟩
    | false =>
      have HE : Hid (cmpV ⟨ak, an, sa⟩ ⟨ak, an, sb⟩ = 1) := by have := HV.out; have h2 := HS.out; rw [s1, s2] at h2; simp only [Bool.false_eq_true, if_false] at h2; show _ = _; omega
      have hs2 : ¬ sa.toList = sb.toList := by simpa using s2
      go_wp2_with fail
      go_ret
      exact ⟨ret_int HE.out.symm, hb⟩
end Go.Proofs.YtchfmjociflgfaaGreatDoor
