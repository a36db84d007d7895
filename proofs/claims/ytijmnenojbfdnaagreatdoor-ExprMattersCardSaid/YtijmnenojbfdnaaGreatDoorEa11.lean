/- Texts of this seat, merged. -/
import Derived.Test.YtijmnenojbfdnaaGreatDoorEa01
import Derived.Test.YtijmnenojbfdnaaGreatDoorEa02
import Derived.Test.YtijmnenojbfdnaaGreatDoorEa03
import Derived.Test.YtijmnenojbfdnaaGreatDoorEa04
import Derived.Test.YtijmnenojbfdnaaGreatDoorEa05
import Derived.Test.YtijmnenojbfdnaaGreatDoorEa06
import Derived.Test.YtijmnenojbfdnaaGreatDoorEa07
import Derived.Test.YtijmnenojbfdnaaGreatDoorEa08
import Derived.Test.YtijmnenojbfdnaaGreatDoorEa09
import Derived.Test.YtijmnenojbfdnaaGreatDoorEa10
set_option linter.unusedSimpArgs false
set_option linter.unusedVariables false
namespace Go.Proofs.YtijmnenojbfdnaaGreatDoor
open Go.RowKit
theorem cntL_nil (a d : Int) : cntL [] a d = a := by rw [cntL]
theorem cntL_cons (x : Ex) (l : List Ex) (a d : Int) : cntL (x :: l) a d = if cntX x a d < 0 then -1 else cntL l (cntX x a d) d := by rw [cntL]
theorem cnt_range : (∀ (x : Ex) (a d : Int), a ≤ 400 → cntX x a d < 0 ∨ cntX x a d ≤ 400) := fun x a d ha => by
  rcases Int.lt_or_le (cntX x a d) 0 with h | h
  · exact .inl h
  · have := (cntX_ok x a d ha h).2; exact .inr (by omega)
theorem cnt_low (x : Ex) (a d : Int) : cntX x a d < 0 → cntX x a d = -1 := by
  have key : (∀ x : Ex, ∀ a d, cntX x a d < 0 → cntX x a d = -1) := by
    intro x
    induction x using Ex.rec (motive_2 := fun l => ∀ a d, 0 ≤ a → cntL l a d < 0 → cntL l a d = -1) with
    | mk o v s l ih =>
      intro a d h
      rw [cntX] at h ⊢
      split
      · rfl
      · rename_i hc
        rw [if_neg hc] at h
        exact ih _ _ (by have : ¬ a ≤ 0 := fun e => hc (.inl e); omega) h
    | nil => rename_i a d ha h; rw [cntL_nil] at h ⊢; omega
    | cons x l ih1 ih2 =>
      rename_i a d ha h
      rw [cntL_cons] at h ⊢
      split
      · rfl
      · rename_i hc
        rw [if_neg hc] at h
        exact ih2 _ _ (by omega) h
  exact key x a d
theorem cntL_drop {l : List Ex} {k : Nat} {x : Ex} (hx : l[k]? = some x) (a d : Int) : cntL (l.drop k) a d = if cntX x a d < 0 then -1 else cntL (l.drop (k + 1)) (cntX x a d) d := by
  have hk : k < l.length := by
    rcases Nat.lt_or_ge k l.length with h | h
    · exact h
    · rw [List.getElem?_eq_none h] at hx; cases hx
  rw [List.getElem?_eq_getElem hk] at hx
  injection hx with hx
  rw [List.drop_eq_getElem_cons hk, hx, cntL_cons]
set_option maxHeartbeats 2000000 in
theorem count_any : ∀ (n : Nat) (x : Ex) (u : Value) (w : World) (a d : Int), IsEx n (Lt w.heap.size) w u x → -1 ≤ a → a ≤ 400 → -1 ≤ d → d ≤ 60 →
    Calls Tryz.prog 57 #[u, .int .i64 a, .int .i64 d] w fun e w' => e = .returned (.int .i64 (cntX x a d)) ∧ Below w.heap.size w w' := by
  intro n
  induction n using Nat.strongRecOn with
  | _ n ih =>
    intro x u w a d h ha1 ha2 hd1 hd2
    have h0 := h
    obtain ⟨lv, rfl, h1, h2, h3, h4⟩ := h
    obtain ⟨A, c, rfl, l1, l2, h4⟩ := h4.open_
    have HE := Lib.hid (cntX_eq x a d)
    have hb := bone w (.cells #[.int .i64 x.op, .int .i64 x.v.kind, .int .i64 x.v.n, .string x.v.s, .string x.s, .slice A x.l.length c] 28)
    have hB := Blk.new w 28 #[.int .i64 x.op, .int .i64 x.v.kind, .int .i64 x.v.n, .string x.v.s, .string x.s, .slice A x.l.length c]
    have hx1 := h0.now hb
    have hl1 := SlE.now h4 hb
    clear h0 h4
    generalize hw1 : w.alloc (.cells #[.int .i64 x.op, .int .i64 x.v.kind, .int .i64 x.v.n, .string x.v.s, .string x.s, .slice A x.l.length c] 28) = w1 at *
    obtain ⟨q0, q1, q2, q3, q4, q5⟩ := hB.c6
    by_cases c1 : a ≤ 0
    · have HR : Hid (cntX x a d = -1) := by show _ = _; rw [HE.out, if_pos (.inl c1)]
      go_enter Tryz.func57, Tryz.ntmps57
      go_wp2_with fail
      go_ret
      exact ⟨by rw [HR.out]; rfl, hb⟩
    by_cases c2 : d ≤ 0
    · have HR : Hid (cntX x a d = -1) := by show _ = _; rw [HE.out, if_pos (.inr (.inl c2))]
      go_enter Tryz.func57, Tryz.ntmps57
      go_wp2_with fail
      go_ret
      exact ⟨by rw [HR.out]; rfl, hb⟩
    go_enter Tryz.func57, Tryz.ntmps57
    go_wp2_with fail
    refine (formed_any _ x _ _ hx1).mono ?_
    rintro e w2 ⟨rfl, hb2⟩
    have hbw2 := bthen hb hb2
    have hl2 := SlE.now hl1 hb2
    have hB2 := hB.now hb2
    clear q0 q1 q2 q3 q4 q5 hB hl1 hx1
    obtain ⟨q0, q1, q2, q3, q4, q5⟩ := hB2.c6
    generalize hs : shapeX x = sh at *
    cases sh
    · have HR : Hid (cntX x a d = -1) := by show _ = _; rw [HE.out, if_pos (.inr (.inr rfl))]
      go_wp2_with fail
      go_ret
      exact ⟨by rw [HR.out]; rfl, hbw2⟩
    have HR : Hid (cntX x a d = cntL (x.l.drop 0) (a - 1) (d - 1)) := by show _ = _; rw [HE.out, if_neg (by simp [c1, c2]), List.drop_zero]
    clear HE hs
    have wa : IntKind.i64.wrap (a - 1) = a - 1 := IntWalk.i64_in _ (by omega)
    have wd : IntKind.i64.wrap (d - 1) = d - 1 := IntWalk.i64_in _ (by omega)
    go_wp2_with fail
    go_loopw [1, 25] (fun av i wr => ∃ (k : Nat) (a' : Int), k ≤ x.l.length ∧ i = .int .i64 k ∧ av = .int .i64 a' ∧ 0 ≤ a' ∧ a' ≤ 400 ∧ cntX x a d = cntL (x.l.drop k) a' (d - 1) ∧ Below w.heap.size w wr ∧ Below w2.heap.size w2 wr) (fun _ i _ => x.l.length - (intOf i).toNat)
    case atStart => exact ⟨0, a - 1, Nat.zero_le _, rfl, rfl, by omega, by omega, HR.out, hbw2, Below.refl _ _⟩
    case round =>
      obtain ⟨k, a', hk, rfl, rfl, a1, a2, hc, hbr, hbr2⟩ := hrel
      have HC := Lib.hid hc
      clear hc HR
      by_cases hlt : k < x.l.length
      · obtain ⟨b, o, y, lv, n', hn, rfl, hD, hx, hex, hfv, hsl, e0, e1, e2, e3, e4, e5⟩ := (SlE.now hl2 hbr2).at_ hlt
        have HX := Lib.hid (cntL_drop hx a' (d - 1))
        have HLO := Lib.hid (cnt_low y a' (d - 1))
        have HRG := Lib.hid (cnt_range y a' (d - 1) a2)
        obtain ⟨A2, c2', rfl, m1, m2, _⟩ := hsl.open_
        have hb3 := bone wr (.cells #[.int .i64 y.op, .int .i64 y.v.kind, .int .i64 y.v.n, .string y.v.s, .string y.s, .slice A2 y.l.length c2'] 28)
        have hcall := Lib.hid (ih n' (by omega) y _ _ a' (d - 1) (hex.now hb3) (by omega) a2 (by omega) (by omega))
        clear hx hex hfv hsl hn
        generalize cntX y a' (d - 1) = z at *
        go_wp2_with fail
        refine hcall.out.mono ?_
        rintro e w4 ⟨rfl, hb4⟩
        have hbw4 : Below w.heap.size w w4 := bthen hbr (bthen hb3 hb4)
        have hbw4' : Below w2.heap.size w2 w4 := bthen hbr2 (bthen hb3 hb4)
        by_cases hz : z < 0
        · have HRR : Hid (cntX x a d = -1) := by show _ = _; rw [HC.out, HX.out, if_pos hz]
          go_wp2_with fail
          go_ret
          exact ⟨by rw [HRR.out]; rfl, hbw4⟩
        · have HRR : Hid (cntX x a d = cntL (x.l.drop (k + 1)) z (d - 1)) := by show _ = _; rw [HC.out, HX.out, if_neg hz]
          go_wp2_with fail
          go_roundw
          case rel => exact ⟨k + 1, z, by omega, by go_num, rfl, by omega, by have := HRG.out; omega, HRR.out, hbw4, hbw4'⟩
          case measure => simp [intOf]; omega
      · have HRR : Hid (cntX x a d = a') := by show _ = _; rw [HC.out, List.drop_eq_nil_of_le (by omega), cntL_nil]
        go_wp2_with fail
        go_ret
        exact ⟨by rw [HRR.out]; rfl, hbr⟩
theorem validX_any (n : Nat) (x : Ex) (u : Value) (w : World) (h : IsEx n (Lt w.heap.size) w u x) :
    Calls Tryz.prog 20 #[u] w fun e w' => e = .returned (.bool (validX x)) ∧ Below w.heap.size w w' := by
  have h0 := h
  obtain ⟨lv, rfl, h1, h2, h3, h4⟩ := h
  have hb := bone w (.cells #[.int .i64 x.op, .int .i64 x.v.kind, .int .i64 x.v.n, .string x.v.s, .string x.s, lv] 28)
  have hc := count_any n x _ _ 400 60 (h0.now hb) (by omega) (by omega) (by omega) (by omega)
  have HC := Lib.hid hc
  have HV : Hid (validX x = decide (0 ≤ cntX x 400 60)) := rfl
  clear hc h4 h0
  generalize cntX x 400 60 = z at *
  go_enter Tryz.func20, Tryz.ntmps20
  go_wp2_with fail
  refine HC.out.mono ?_
  rintro e w2 ⟨rfl, hb2⟩
  have hbw := bthen hb hb2
  clear hb hb2 HC
  go_wp2_with fail
  go_ret
  exact ⟨ret_bool HV.out.symm, hbw⟩
end Go.Proofs.YtijmnenojbfdnaaGreatDoor
