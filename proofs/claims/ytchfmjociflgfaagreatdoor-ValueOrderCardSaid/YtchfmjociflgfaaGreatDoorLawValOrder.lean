/- ValueOrder: the walk. -/
import Derived.Test.YtchfmjociflgfaaGreatDoorValCmp2
namespace Go.Proofs.YtchfmjociflgfaaGreatDoor
open Go.RowKit

/-- A list of three values, laid in a block. -/
theorem slThree (w : World) (a b c : Val) (ha : FitV a) (hb : FitV b) (hc : FitV c) : SlV (Lt (w.alloc (.cells #[.int .i64 a.kind, .int .i64 a.n, .string a.s, .int .i64 b.kind, .int .i64 b.n, .string b.s, .int .i64 c.kind, .int .i64 c.n, .string c.s] 23)).heap.size) (w.alloc (.cells #[.int .i64 a.kind, .int .i64 a.n, .string a.s, .int .i64 b.kind, .int .i64 b.n, .string b.s, .int .i64 c.kind, .int .i64 c.n, .string c.s] 23)) (.slice (some ⟨w.heap.size, 0, none⟩) 3 3) [a, b, c] := by
  refine Sl.ofBlk (xs := [a, b, c]) (size := 3) (cs := flat cellsV [a, b, c]) (Blk.new w 23 _) (by unfold maxLen; simp) ?_
  intro i x hx
  refine ⟨cellsV x, rfl, fun j u hu => ?_, rfl, ?_⟩
  · have hj : j < 3 := by
      rcases Nat.lt_or_ge j 3 with h | h
      · exact h
      · rw [List.getElem?_eq_none (by simpa [cellsV] using h)] at hu; cases hu
    rw [flat_get cellsV_len _ i j x hx hj]; exact hu
  · match i, hx with
    | 0, hx => injection hx with hx; subst hx; exact ha
    | 1, hx => injection hx with hx; subst hx; exact hb
    | 2, hx => injection hx with hx; subst hx; exact hc
    | i + 3, hx => simp at hx

set_option maxHeartbeats 8000000 in
set_option maxRecDepth 100000 in
theorem valueOrder_law (a b c : Val) (w : World) (hfa : FitV a) (hfb : FitV b) (hfc : FitV c) (ha : Amb w) :
    Calls Tryz.prog 8 #[valV a, valV b, valV c] w fun e w' => e = .returned (.bool true) ∧ Below w.heap.size w w' := by
  have hb0 := bone w (.cells #[.int .i64 a.kind, .int .i64 a.n, .string a.s] 23)
  have hb00 := bbox hb0 (.cells #[.int .i64 b.kind, .int .i64 b.n, .string b.s] 23)
  have hb := bbox hb00 (.cells #[.int .i64 c.kind, .int .i64 c.n, .string c.s] 23)
  have hA := ((Blk.new w 23 #[.int .i64 a.kind, .int .i64 a.n, .string a.s]).alloc (.cells #[.int .i64 b.kind, .int .i64 b.n, .string b.s] 23)).alloc (.cells #[.int .i64 c.kind, .int .i64 c.n, .string c.s] 23)
  have hB := (Blk.new_at (t := 23) (cs := #[.int .i64 b.kind, .int .i64 b.n, .string b.s]) (w := w.alloc (.cells #[.int .i64 a.kind, .int .i64 a.n, .string a.s] 23)) (s := w.heap.size + 1) (by simp)).alloc (.cells #[.int .i64 c.kind, .int .i64 c.n, .string c.s] 23)
  have hC := Blk.new_at (t := 23) (cs := #[.int .i64 c.kind, .int .i64 c.n, .string c.s]) (w := (w.alloc (.cells #[.int .i64 a.kind, .int .i64 a.n, .string a.s] 23)).alloc (.cells #[.int .i64 b.kind, .int .i64 b.n, .string b.s] 23)) (s := w.heap.size + 1 + 1) (by simp)
  unfold valV
  go_enter Tryz.func8, Tryz.ntmps8
  go_wp2_with fail
  refine (awake_any _ (ha.now hb)).mono ?_
  rintro e w1 ⟨rfl, hb1⟩
  have hbw1 := bthen hb hb1
  have hA1 := hA.now hb1
  have hB1 := hB.now hb1
  have hC1 := hC.now hb1
  obtain ⟨x0, x1, x2⟩ := hA1.c3
  obtain ⟨y0, y1, y2⟩ := hB1.c3
  obtain ⟨z0, z1, z2⟩ := hC1.c3
  have hb2 := bone w1 (.cells #[.int .i64 a.kind, .int .i64 a.n, .string a.s, .int .i64 b.kind, .int .i64 b.n, .string b.s, .int .i64 c.kind, .int .i64 c.n, .string c.s] 23)
  have hs2 := slThree w1 a b c hfa hfb hfc
  have hbw2 := bthen hbw1 hb2
  go_wp2_with fail
  refine (long_any [] [a, b, c] _ _ _ Sl.none_ hs2).mono ?_
  rintro e w3 ⟨q, rfl, hq, hb3⟩
  clear hq
  have hbw3 := bthen hbw2 hb3
  have hA3 := (hA1.now hb2).now hb3
  have hB3 := (hB1.now hb2).now hb3
  have hC3 := (hC1.now hb2).now hb3
  clear x0 x1 x2 y0 y1 y2 z0 z1 z2 hA hB hC hA1 hB1 hC1 hb2 hb3 hb00 hs2
  obtain ⟨x0, x1, x2⟩ := hA3.c3
  obtain ⟨y0, y1, y2⟩ := hB3.c3
  obtain ⟨z0, z1, z2⟩ := hC3.c3
  cases q
  rotate_left
  · go_wp2_with fail
    go_ret
    exact ⟨rfl, hbw3⟩
  go_wp2_with fail
  refine (cmpE_any a b _ hfa hfb).mono ?_
  rintro e w4 ⟨rfl, hb4⟩
  have hbw4 := bthen hbw3 hb4
  have hA4 := hA3.now hb4
  have hB4 := hB3.now hb4
  have hC4 := hC3.now hb4
  clear x0 x1 x2 y0 y1 y2 z0 z1 z2 hA3 hB3 hC3
  obtain ⟨x0, x1, x2⟩ := hA4.c3
  obtain ⟨y0, y1, y2⟩ := hB4.c3
  obtain ⟨z0, z1, z2⟩ := hC4.c3
  go_wp2_with fail
  refine (cmpE_any b a _ hfb hfa).mono ?_
  rintro e w5 ⟨rfl, hb5⟩
  have hbw5 := bthen hbw4 hb5
  have hA5 := hA4.now hb5
  have hB5 := hB4.now hb5
  have hC5 := hC4.now hb5
  clear x0 x1 x2 y0 y1 y2 z0 z1 z2 hA4 hB4 hC4
  obtain ⟨x0, x1, x2⟩ := hA5.c3
  obtain ⟨y0, y1, y2⟩ := hB5.c3
  obtain ⟨z0, z1, z2⟩ := hC5.c3
  go_wp2_with fail
  refine (cmpE_any b c _ hfb hfc).mono ?_
  rintro e w6 ⟨rfl, hb6⟩
  have hbw6 := bthen hbw5 hb6
  have hA6 := hA5.now hb6
  have hB6 := hB5.now hb6
  have hC6 := hC5.now hb6
  clear x0 x1 x2 y0 y1 y2 z0 z1 z2 hA5 hB5 hC5
  obtain ⟨x0, x1, x2⟩ := hA6.c3
  obtain ⟨y0, y1, y2⟩ := hB6.c3
  obtain ⟨z0, z1, z2⟩ := hC6.c3
  go_wp2_with fail
  refine (cmpE_any a c _ hfa hfc).mono ?_
  rintro e w7 ⟨rfl, hb7⟩
  have hbw7 := bthen hbw6 hb7
  have hA7 := hA6.now hb7
  have hB7 := hB6.now hb7
  have hC7 := hC6.now hb7
  clear x0 x1 x2 y0 y1 y2 z0 z1 z2 hA6 hB6 hC6
  obtain ⟨x0, x1, x2⟩ := hA7.c3
  obtain ⟨y0, y1, y2⟩ := hB7.c3
  obtain ⟨z0, z1, z2⟩ := hC7.c3
  have HEQ : Hid (∀ p q : Val, cmpE p q = if validV p && validV q then (cmpV p q, 0) else (0, 1)) := fun _ _ => rfl
  go_wp2_with fail
  refine (validV_ref a _ hfa).mono ?_
  rintro e w8 ⟨rfl, hb8⟩
  have hbw8 := bthen hbw7 hb8
  have hA8 := hA7.now hb8
  have hB8 := hB7.now hb8
  have hC8 := hC7.now hb8
  clear x0 x1 x2 y0 y1 y2 z0 z1 z2 hA7 hB7 hC7
  obtain ⟨x0, x1, x2⟩ := hA8.c3
  obtain ⟨y0, y1, y2⟩ := hB8.c3
  obtain ⟨z0, z1, z2⟩ := hC8.c3
  generalize hqa : validV a = qa
  have HA := Lib.hid hqa
  clear hqa
  cases qa
  · have e1 : cmpE a b = (0, 1) := by rw [HEQ.out, HA.out]; rfl
    have e2 : cmpE b a = (0, 1) := by rw [HEQ.out, HA.out, Bool.and_false]; rfl
    rw [e1, e2]
    clear e1 e2
    go_wp2_with fail
    go_ret
    exact ⟨rfl, hbw8⟩
  go_wp2_with fail
  refine (validV_ref b _ hfb).mono ?_
  rintro e w9 ⟨rfl, hb9⟩
  have hbw9 := bthen hbw8 hb9
  have hA9 := hA8.now hb9
  have hB9 := hB8.now hb9
  have hC9 := hC8.now hb9
  clear x0 x1 x2 y0 y1 y2 z0 z1 z2 hA8 hB8 hC8
  obtain ⟨x0, x1, x2⟩ := hA9.c3
  obtain ⟨y0, y1, y2⟩ := hB9.c3
  obtain ⟨z0, z1, z2⟩ := hC9.c3
  generalize hqb : validV b = qb
  have HB := Lib.hid hqb
  clear hqb
  cases qb
  · have e1 : cmpE a b = (0, 1) := by rw [HEQ.out, HB.out, Bool.and_false]; rfl
    have e2 : cmpE b a = (0, 1) := by rw [HEQ.out, HB.out]; rfl
    rw [e1, e2]
    clear e1 e2
    go_wp2_with fail
    go_ret
    exact ⟨rfl, hbw9⟩
  have e1 : cmpE a b = (cmpV a b, 0) := by rw [HEQ.out, HA.out, HB.out]; rfl
  have e2 : cmpE b a = (cmpV b a, 0) := by rw [HEQ.out, HA.out, HB.out]; rfl
  rw [e1, e2]
  clear e1 e2
  dsimp only
  have HNG := Lib.hid (cmpV_neg a b)
  have HZR := Lib.hid (cmpV_zero a b)
  have HTR := Lib.hid (cmpV_trans a b c)
  have hrg : cmpV a b = -1 ∨ cmpV a b = 0 ∨ cmpV a b = 1 := by have := cmpV_cases a b; omega
  have hcr := cmp_ref a b w9
  unfold valV at hcr
  rcases hrg with hab | hab | hab
  · have hba : cmpV b a = 1 := by have := HNG.out; omega
    have hne : decide (a = b) = false := decide_eq_false (fun e => by have := HZR.out.2 e; omega)
    have heqV := fun W => run_eqV W a b
    rw [hne] at heqV
    rw [hab] at HTR hcr
    rw [hab, hba]
    have HCR := Lib.hid hcr
    clear hcr hne hab hba HZR HNG
    go_wp2_with fail
    refine HCR.out.mono ?_
    rintro e w10 ⟨rfl, hb10⟩
    have hbw10 := bthen hbw9 hb10
    obtain ⟨z0', z1', z2'⟩ := (hC9.now hb10).c3
    clear x0 x1 x2 y0 y1 y2 z0 z1 z2 heqV
    go_wp2_with fail
    refine (validV_ref c _ hfc).mono ?_
    rintro e w11 ⟨rfl, hb11⟩
    have hbw11 := bthen hbw10 hb11
    generalize hqc : validV c = qc
    have HC := Lib.hid hqc
    clear hqc z0' z1' z2'
    cases qc
    · have e1 : cmpE b c = (0, 1) := by rw [HEQ.out, HC.out, Bool.and_false]; rfl
      have e2 : cmpE a c = (0, 1) := by rw [HEQ.out, HC.out, Bool.and_false]; rfl
      rw [e1, e2]
      clear e1 e2
      go_wp2_with fail
      go_ret
      exact ⟨rfl, hbw11⟩
    have e1 : cmpE b c = (cmpV b c, 0) := by rw [HEQ.out, HC.out, HB.out]; rfl
    have e2 : cmpE a c = (cmpV a c, 0) := by rw [HEQ.out, HC.out, HA.out]; rfl
    rw [e1, e2]
    clear e1 e2
    dsimp only
    generalize cmpV b c = bc at *
    generalize cmpV a c = ac at *
    by_cases g1 : 0 < bc
    · go_wp2_with fail
      go_ret
      exact ⟨rfl, hbw11⟩
    have g2 : ac < 0 := by have := HTR.out; omega
    go_wp2_with fail
    go_ret
    exact ⟨rfl, hbw11⟩
  · obtain rfl : a = b := HZR.out.1 hab
    have heqV := fun W => run_eqV W a a
    rw [decide_eq_true rfl] at heqV
    rw [hab] at HTR hcr
    rw [hab]
    have HCR := Lib.hid hcr
    clear hcr hab HZR HNG
    go_wp2_with fail
    refine HCR.out.mono ?_
    rintro e w10 ⟨rfl, hb10⟩
    have hbw10 := bthen hbw9 hb10
    obtain ⟨z0', z1', z2'⟩ := (hC9.now hb10).c3
    clear x0 x1 x2 y0 y1 y2 z0 z1 z2 heqV
    go_wp2_with fail
    refine (validV_ref c _ hfc).mono ?_
    rintro e w11 ⟨rfl, hb11⟩
    have hbw11 := bthen hbw10 hb11
    generalize hqc : validV c = qc
    have HC := Lib.hid hqc
    clear hqc z0' z1' z2'
    cases qc
    · have e1 : cmpE a c = (0, 1) := by rw [HEQ.out, HC.out, Bool.and_false]; rfl
      rw [e1]
      clear e1
      go_wp2_with fail
      go_ret
      exact ⟨rfl, hbw11⟩
    have e1 : cmpE a c = (cmpV a c, 0) := by rw [HEQ.out, HC.out, HB.out]; rfl
    rw [e1]
    clear e1
    dsimp only
    generalize cmpV a c = bc at *
    by_cases g1 : 0 < bc
    · go_wp2_with fail
      go_ret
      exact ⟨rfl, hbw11⟩
    by_cases g2 : bc < 0
    · go_wp2_with fail
      go_ret
      exact ⟨rfl, hbw11⟩
    obtain rfl : bc = 0 := by omega
    go_wp2_with fail
    go_ret
    exact ⟨rfl, hbw11⟩
  · have hba : cmpV b a = -1 := by have := HNG.out; omega
    have hne : decide (a = b) = false := decide_eq_false (fun e => by have := HZR.out.2 e; omega)
    have heqV := fun W => run_eqV W a b
    rw [hne] at heqV
    rw [hab] at HTR hcr
    rw [hab, hba]
    have HCR := Lib.hid hcr
    clear hcr hne hab hba HZR HNG
    go_wp2_with fail
    refine HCR.out.mono ?_
    rintro e w10 ⟨rfl, hb10⟩
    have hbw10 := bthen hbw9 hb10
    obtain ⟨z0', z1', z2'⟩ := (hC9.now hb10).c3
    clear x0 x1 x2 y0 y1 y2 z0 z1 z2 heqV
    go_wp2_with fail
    refine (validV_ref c _ hfc).mono ?_
    rintro e w11 ⟨rfl, hb11⟩
    have hbw11 := bthen hbw10 hb11
    generalize hqc : validV c = qc
    have HC := Lib.hid hqc
    clear hqc z0' z1' z2'
    cases qc
    · have e1 : cmpE b c = (0, 1) := by rw [HEQ.out, HC.out, Bool.and_false]; rfl
      have e2 : cmpE a c = (0, 1) := by rw [HEQ.out, HC.out, Bool.and_false]; rfl
      rw [e1, e2]
      clear e1 e2
      go_wp2_with fail
      go_ret
      exact ⟨rfl, hbw11⟩
    have e1 : cmpE b c = (cmpV b c, 0) := by rw [HEQ.out, HC.out, HB.out]; rfl
    have e2 : cmpE a c = (cmpV a c, 0) := by rw [HEQ.out, HC.out, HA.out]; rfl
    rw [e1, e2]
    clear e1 e2
    dsimp only
    go_wp2_with fail
    go_ret
    exact ⟨rfl, hbw11⟩
end Go.Proofs.YtchfmjociflgfaaGreatDoor
