/- frac.gcd, Valid, valid, Cmp, abs, fit, Add, Sub. -/
import Derived.Test.YtilmdlkfmkbfmaaPvFrac
import Derived.Test.YtilmdlkfmkbfmaaGrowV
import Derived.Test.YtilmdlkfmkbfmaaShelf
import Derived.BigQuiet
import Derived.Deep.QuietTactic
set_option linter.all false
namespace Go.Proofs.Ytilmdlkfmkbfmaa
open Go.RowKit

theorem gcd_step (p q : Nat) : Nat.gcd q (p % q) = Nat.gcd p q := by
  rw [Nat.gcd_comm q, ← Nat.gcd_rec, Nat.gcd_comm]
set_option maxHeartbeats 400000 in
theorem gcd_any (a b : Nat) (w : World) (ha : a < 9223372036854775808) (hb : b < 9223372036854775808) : Calls Try.prog 34 #[.int .i64 (a : Int), .int .i64 (b : Int)] w fun e w' => e = .returned (.int .i64 ((Nat.gcd a b : Nat) : Int)) ∧ ∃ n, w' = w.drewN n := by
  go_enter Try.func34, Try.ntmps34
  go_wp2_with fail
  go_loopw [0, 1] (fun av bv wr => ∃ p q n : Nat, av = .int .i64 (p : Int) ∧ bv = .int .i64 (q : Int) ∧ p < 9223372036854775808 ∧ q < 9223372036854775808 ∧ Hid (Nat.gcd p q = Nat.gcd a b) ∧ wr = w.drewN n) (fun _ bv _ => (intOf bv).toNat)
  case atStart => exact ⟨a, b, 0, rfl, rfl, ha, hb, Lib.hid rfl, rfl⟩
  case round =>
    obtain ⟨p, q, n, rfl, rfl, hp, hq, HG, rfl⟩ := hrel
    by_cases h0 : q = 0
    · subst h0
      have HE : Hid (p = Nat.gcd a b) := Lib.hid (by rw [← HG.out]; simp)
      go_wp2_with fail
      go_ret
      exact ⟨by rw [← HE.out]; rfl, n, rfl⟩
    · have z1 : ((q : Int) != 0) = true := by simp [h0]
      have z2 : (q : Int) ≠ 0 := by omega
      have z3 : ¬ (q : Int) = 0 := by omega
      have hm : IntKind.i64.wrap ((p : Int).tmod (q : Int)) = ((p % q : Nat) : Int) := by
        rw [← Int.ofNat_tmod]
        exact i64wrap (by have := Nat.mod_lt p (Nat.pos_of_ne_zero h0); omega)
      have hm2 : (p : Int).tmod (q : Int) = ((p % q : Nat) : Int) := (Int.ofNat_tmod p q).symm
      have hlt := Nat.mod_lt p (Nat.pos_of_ne_zero h0)
      have HN : Hid (Nat.gcd q (p % q) = Nat.gcd a b) := Lib.hid ((gcd_step p q).trans HG.out)
      go_wp2_with fail
      go_quiet (fail)
      go_wp2_with fail
      go_roundw
      case rel => exact ⟨q, p % q, n + nq, rfl, by first | rfl | go_num, hq, by omega, HN, by simp⟩
      case measure => simp [intOf]; omega
def frV (a : Fr) : Value := .agg #[.int .i64 a.num, .int .i64 a.den]
structure FitF (a : Fr) : Prop where
  num : Fit a.num
  den : Fit a.den
theorem FitF.of {a : Fr} (h : frB a = true) : FitF a := by
  obtain ⟨h1, h2, h3, h4, _⟩ := frB_iff.1 h
  exact ⟨⟨by omega, by omega⟩, ⟨by omega, by omega⟩⟩
theorem frB_no {a : Fr} (h : ¬ (-1073741824 ≤ a.num ∧ a.num ≤ 1073741824 ∧ 1 ≤ a.den ∧ a.den ≤ 1073741824)) : frB a = false := by
  cases hb : frB a
  · rfl
  · obtain ⟨h1, h2, h3, h4, _⟩ := frB_iff.1 hb
    exact absurd ⟨h1, h2, h3, h4⟩ h
set_option maxHeartbeats 1000000 in
theorem frValid_any (a : Fr) (w : World) : Calls Try.prog 18 #[frV a] w fun e w' => e = .returned (.bool (frB a)) ∧ Below w.heap.size w w' := by
  have hb1 := bone w (.cells #[.int .i64 a.num, .int .i64 a.den] 24)
  obtain ⟨c0, c1⟩ := (Blk.new w 24 #[.int .i64 a.num, .int .i64 a.den]).c2
  unfold frV
  by_cases h1 : -1073741824 ≤ a.num
  · by_cases h2 : a.num ≤ 1073741824
    · by_cases h3 : 1 ≤ a.den
      · by_cases h4 : a.den ≤ 1073741824
        · have HG := Lib.hid (gcd_any a.num.natAbs a.den.toNat (w.alloc (.cells #[.int .i64 a.num, .int .i64 a.den] 24)) (by omega) (by omega))
          have e1 : ((a.num.natAbs : Nat) : Int) = max a.num (-a.num) := by omega
          have e2 : ((a.den.toNat : Nat) : Int) = a.den := by omega
          rw [e1, e2] at HG
          have hneg : IntKind.i64.wrap (-a.num) = -a.num := i64wrap (by omega)
          have HE : Hid (frB a = (Nat.gcd a.num.natAbs a.den.toNat == 1)) := Lib.hid (by unfold frB; rw [decide_eq_true h1, decide_eq_true h2, decide_eq_true h3, decide_eq_true h4]; rfl)
          obtain ⟨g, hgg⟩ : ∃ g, Nat.gcd a.num.natAbs a.den.toNat = g := ⟨_, rfl⟩
          rw [hgg] at HG HE
          clear hgg
          clear e1 e2
          by_cases hg : g = 1
          · subst hg
            go_enter Try.func18, Try.ntmps18
            go_wp2_with (go_at_call 34; refine HG.out.mono ?_; rintro e w' ⟨rfl, n, rfl⟩)
            go_ret
            exact ⟨by rw [HE.out]; rfl, below_drewN hb1 n⟩
          · have z1 : ((g : Int) == 1) = false := by simp; omega
            have z2 : (g == 1) = false := by simp [hg]
            rw [z2] at HE
            clear z2
            go_enter Try.func18, Try.ntmps18
            go_wp2_with (go_at_call 34; refine HG.out.mono ?_; rintro e w' ⟨rfl, n, rfl⟩)
            go_ret
            exact ⟨by rw [HE.out]; first | rfl | simp [hg], below_drewN hb1 n⟩
        · have HE := Lib.hid (frB_no (a := a) (fun h => h4 h.2.2.2))
          go_enter Try.func18, Try.ntmps18
          go_wp2_with fail
          go_ret
          exact ⟨by rw [HE.out]; rfl, hb1⟩
      · have HE := Lib.hid (frB_no (a := a) (fun h => h3 h.2.2.1))
        go_enter Try.func18, Try.ntmps18
        go_wp2_with fail
        go_ret
        exact ⟨by rw [HE.out]; rfl, hb1⟩
    · have HE := Lib.hid (frB_no (a := a) (fun h => h2 h.2.1))
      go_enter Try.func18, Try.ntmps18
      go_wp2_with fail
      go_ret
      exact ⟨by rw [HE.out]; rfl, hb1⟩
  · have HE := Lib.hid (frB_no (a := a) (fun h => h1 h.1))
    go_enter Try.func18, Try.ntmps18
    go_wp2_with fail
    go_ret
    exact ⟨by rw [HE.out]; rfl, hb1⟩
theorem frValid1_any (a : Fr) (w : World) : Calls Try.prog 37 #[frV a] w fun e w' => e = .returned (.bool (!frB a)) ∧ Below w.heap.size w w' := by
  have hb1 := bone w (.cells #[.int .i64 a.num, .int .i64 a.den] 24)
  obtain ⟨c0, c1⟩ := (Blk.new w 24 #[.int .i64 a.num, .int .i64 a.den]).c2
  have hc := frValid_any a (w.alloc (.cells #[.int .i64 a.num, .int .i64 a.den] 24))
  unfold frV at hc ⊢
  have HC := Lib.hid hc
  generalize frB a = q at *
  clear hc
  go_enter Try.func37, Try.ntmps37
  go_wp2_with (go_at_call 18; refine HC.out.mono ?_; rintro e w' ⟨rfl, hb2⟩)
  go_ret
  exact ⟨rfl, hb1.trans (hb2.mono hb1.size)⟩
/-! ### a list of fractions -/
def RFr : ElemR Fr := fun _ _ a cs => cs = [.int .i64 a.num, .int .i64 a.den] ∧ FitF a
theorem RFr.kept : ElemR.Kept RFr := fun _ _ _ _ _ _ _ _ h => h
def SlF := Sl 2 RFr
theorem SlF.now {w w' : World} {u : Value} {zs : List Fr} (h : SlF (Lt w.heap.size) w u zs) (hb : Below w.heap.size w w') : SlF (Lt w'.heap.size) w' u zs := Sl.below h RFr.kept hb hb.size
theorem SlF.open_ {D : Nat → Prop} {w : World} {u : Value} {zs : List Fr} (h : SlF D w u zs) : ∃ A c, u = .slice A zs.length c ∧ zs.length ≤ c ∧ c ≤ 9223372036854775807 ∧ SlF D w (.slice A zs.length c) zs := Sl.open_ h
theorem SlF.at_ {D : Nat → Prop} {w : World} {zs : List Fr} {A : Option Addr} {n c k : Nat} (h : SlF D w (.slice A n c) zs) (hk : k < n) :
    ∃ b o a, A = some ⟨b, o, none⟩ ∧ D b ∧ zs[k]? = some a ∧ FitF a ∧ w.cell? ⟨b, o + k * 2, none⟩ = some (.int .i64 a.num) ∧ w.cell? ⟨b, o + k * 2 + 1, none⟩ = some (.int .i64 a.den) := by
  obtain ⟨b, o, x, u0, u1, hA, hD, hx, ⟨hu, hf⟩, h0, h1⟩ := Sl.at2 h hk
  injection hu with e0 hu; injection hu with e1 hu
  subst e0 e1
  exact ⟨b, o, x, hA, hD, hx, hf, h0, h1⟩
theorem any_idx {α : Type} (p : α → Bool) (l : List α) (h : ∀ q y, q < l.length → l[q]? = some y → p y = false) : l.any p = false := by
  rw [List.any_eq_false]
  intro y hy
  obtain ⟨q, hq, rfl⟩ := List.mem_iff_getElem.1 hy
  rw [h q _ hq (List.getElem?_eq_getElem hq)]; decide
/-- What a closure that is asked says of each. -/
def AsksF (k : FuncId) (p : Fr → Bool) : Prop := ∀ a W, FitF a → Calls Try.prog k #[frV a] W fun e w' => e = .returned (.bool (p a)) ∧ Below W.heap.size W w'
set_option maxHeartbeats 1000000 in
theorem indexFuncF (k : FuncId) (eg : ∀ args w, (callFunc k args).run Try.prog w = .ok (.enter k args) w) (tv : Value) (ts : List Fr) (p : Fr → Bool) (w : World) (ht : SlF (Lt w.heap.size) w tv ts) (hf : AsksF k p) :
    Calls Try.prog 35 #[tv, .func (.func k) #[] #[]] w fun e w' => ∃ z : Int, e = .returned (.int .i64 z) ∧ decide (0 ≤ z) = ts.any p ∧ Below w.heap.size w w' := by
  obtain ⟨A, c, rfl, h1, h2, ht⟩ := ht.open_
  have HF := Lib.hid hf
  clear hf
  go_enter Try.func35, Try.ntmps35
  go_wp2_with fail
  go_loopw [8] (fun i wr => ∃ j : Nat, j ≤ ts.length ∧ i = .int .i64 j ∧ Hid (∀ q t, q < j → ts[q]? = some t → p t = false) ∧ Below w.heap.size w wr) (fun i _ => ts.length - (intOf i).toNat)
  case atStart => exact ⟨0, Nat.zero_le _, rfl, Lib.hid (fun q _ h => absurd h (by omega)), Below.refl _ _⟩
  case round =>
    obtain ⟨j, hj, rfl, HP, hb⟩ := hrel
    by_cases hlt : j < ts.length
    · obtain ⟨b, o, t, rfl, hD, hx, hf, c0, c1⟩ := (ht.now hb).at_ hlt
      have hcall := HF.out t wr hf
      unfold frV at hcall
      have HX := Lib.hid hx
      clear hx
      generalize hq : p t = q at *
      have HQ := Lib.hid hq
      have HC := Lib.hid hcall
      clear hcall hq
      cases q
      · go_wp2_with (go_at_fn k; refine HC.out.mono ?_; rintro e w' ⟨rfl, hb'⟩)
        go_roundw
        case rel =>
          refine ⟨j + 1, by omega, by go_num, Lib.hid (fun q y hq hy => ?_), bthen hb hb'⟩
          by_cases e : q = j
          · subst e; rw [HX.out] at hy; injection hy with hy; subst hy; exact HQ.out
          · exact HP.out q y (by omega) hy
        case measure => simp [intOf]; omega
      · go_wp2_with (go_at_fn k; refine HC.out.mono ?_; rintro e w' ⟨rfl, hb'⟩)
        go_ret
        refine ⟨_, rfl, ?_, bthen hb hb'⟩
        rw [List.any_eq_true.2 ⟨t, List.mem_of_getElem? HX.out, HQ.out⟩]
        simp
    · go_wp2_with fail
      go_ret
      refine ⟨_, rfl, ?_, hb⟩
      rw [any_idx _ ts (fun q y hq hy => HP.out q y (by omega) hy)]
      simp
theorem containsFuncF (k : FuncId) (eg : ∀ args w, (callFunc k args).run Try.prog w = .ok (.enter k args) w) (tv : Value) (ts : List Fr) (p : Fr → Bool) (w : World) (ht : SlF (Lt w.heap.size) w tv ts) (hf : AsksF k p) :
    Calls Try.prog 19 #[tv, .func (.func k) #[] #[]] w fun e w' => e = .returned (.bool (ts.any p)) ∧ Below w.heap.size w w' := by
  have HC := Lib.hid (indexFuncF k eg tv ts p w ht hf)
  clear hf ht
  go_enter Try.func19, Try.ntmps19
  go_wp2_with (go_at_call 35; refine HC.out.mono ?_; rintro e w' ⟨z, rfl, hz, hb'⟩)
  go_ret
  exact ⟨by rw [← hz]; rfl, hb'⟩
theorem slF_two (w : World) (a b : Fr) (ha : FitF a) (hb : FitF b) : SlF (Lt (w.alloc (.cells #[.int .i64 a.num, .int .i64 a.den, .int .i64 b.num, .int .i64 b.den] 24)).heap.size) (w.alloc (.cells #[.int .i64 a.num, .int .i64 a.den, .int .i64 b.num, .int .i64 b.den] 24)) (.slice (some ⟨w.heap.size, 0, none⟩) 2 2) [a, b] := by
  have hB := Blk.new w 24 #[.int .i64 a.num, .int .i64 a.den, .int .i64 b.num, .int .i64 b.den]
  refine ⟨_, 2, rfl, Nat.le_refl _, by unfold maxLen; omega, fun i x hx => ⟨w.heap.size, 0, _, rfl, hB.lt, ?_, ⟨rfl, ?_⟩, fun j u hj => ?_⟩⟩
  · rfl
  · match i, hx with
    | 0, hx => injection hx with hx; subst hx; exact ha
    | 1, hx => injection hx with hx; subst hx; exact hb
    | i + 2, hx => simp at hx
  · rw [hB.cell]
    match i, hx with
    | 0, hx =>
      injection hx with hx; subst hx
      match j, hj with
      | 0, hj => injection hj with hj; subst hj; rfl
      | 1, hj => injection hj with hj; subst hj; rfl
      | j + 2, hj => simp at hj
    | 1, hx =>
      injection hx with hx; subst hx
      match j, hj with
      | 0, hj => injection hj with hj; subst hj; rfl
      | 1, hj => injection hj with hj; subst hj; rfl
      | j + 2, hj => simp at hj
    | i + 2, hx => simp at hx
theorem enters_frV : ∀ args w, (callFunc 37 args).run Try.prog w = .ok (.enter 37 args) w := enters_of Try.func37 (by kernel_rfl) rfl
theorem valid_any (tv : Value) (ts : List Fr) (w : World) (ht : SlF (Lt w.heap.size) w tv ts) : Calls Try.prog 21 #[tv] w fun e w' => e = .returned (.bool (ts.all frB)) ∧ Below w.heap.size w w' := by
  have HC := Lib.hid (containsFuncF 37 enters_frV tv ts (fun a => !frB a) w ht (fun a W _ => frValid1_any a W))
  have HE : Hid (ts.all frB = !ts.any (fun a => !frB a)) := Lib.hid List.all_eq_not_any_not
  obtain ⟨A, c, rfl, _, _, _⟩ := ht.open_
  clear ht
  generalize ts.any (fun a => !frB a) = q at *
  go_enter Try.func21, Try.ntmps21
  go_wp2_with (go_at_call 19; refine HC.out.mono ?_; rintro e w' ⟨rfl, hb⟩)
  go_ret
  exact ⟨by rw [HE.out]; rfl, hb⟩
end Go.Proofs.Ytilmdlkfmkbfmaa
