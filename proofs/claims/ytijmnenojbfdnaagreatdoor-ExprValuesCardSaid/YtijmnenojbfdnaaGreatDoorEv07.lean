/- Texts of this seat, merged. -/
import Derived.BigQuiet
import Derived.Deep.LoopGhost
import Derived.StillTailTactics
import Derived.RegionTactic
import Derived.Deep.CutRange
import Derived.Deep.CutBlock
import Derived.Lib.ItoaNum
import Derived.Lib.ItoaMem
import Derived.Lib.AtoiTie
import Derived.Deep.RegionHeld3
import Derived.Test.YtijmnenojbfdnaaGreatDoorEv01
import Derived.Test.YtijmnenojbfdnaaGreatDoorEv02
import Derived.Test.YtijmnenojbfdnaaGreatDoorEv03
import Derived.Test.YtijmnenojbfdnaaGreatDoorEv04
import Derived.Test.YtijmnenojbfdnaaGreatDoorEv05
import Derived.Test.YtijmnenojbfdnaaGreatDoorEv06
set_option linter.unusedSimpArgs false
set_option linter.unusedVariables false
namespace Go.Proofs.YtijmnenojbfdnaaGreatDoor
open Go.RowKit
theorem cntL_nil (a d : Int) : cntL [] a d = a := by rw [cntL]
theorem cntL_cons (x : Ex) (l : List Ex) (a d : Int) : cntL (x :: l) a d = if cntX x a d < 0 then -1 else cntL l (cntX x a d) d := by rw [cntL]
theorem cnt_range : (∀ (x : Ex) (a d : Int), a ≤ 400 → cntX x a d < 0 ∨ cntX x a d ≤ 400) := fun x a d ha => by
  rcases Int.lt_or_le (cntX x a d) 0 with h | h
  · exact .inl h
  · have := (cntX_ok x a d ha h).2; exact .inr (by omega)
theorem cnt_low (x : Ex) (a d : Int) : cntX x a d < 0 → cntX x a d = -1 := by
  have key : (∀ x : Ex, ∀ a d, cntX x a d < 0 → cntX x a d = -1) := by
    intro x
    induction x using Ex.rec (motive_2 := fun l => ∀ a d, 0 ≤ a → cntL l a d < 0 → cntL l a d = -1) with
    | mk o v s l ih =>
      intro a d h
      rw [cntX] at h ⊢
      split
      · rfl
      · rename_i hc
        rw [if_neg hc] at h
        exact ih _ _ (by have : ¬ a ≤ 0 := fun e => hc (.inl e); omega) h
    | nil => rename_i a d ha h; rw [cntL_nil] at h ⊢; omega
    | cons x l ih1 ih2 =>
      rename_i a d ha h
      rw [cntL_cons] at h ⊢
      split
      · rfl
      · rename_i hc
        rw [if_neg hc] at h
        exact ih2 _ _ (by omega) h
  exact key x a d
theorem cntL_drop {l : List Ex} {k : Nat} {x : Ex} (hx : l[k]? = some x) (a d : Int) : cntL (l.drop k) a d = if cntX x a d < 0 then -1 else cntL (l.drop (k + 1)) (cntX x a d) d := by
  have hk : k < l.length := by
    rcases Nat.lt_or_ge k l.length with h | h
    · exact h
    · rw [List.getElem?_eq_none h] at hx; cases hx
  rw [List.getElem?_eq_getElem hk] at hx
  injection hx with hx
  rw [List.drop_eq_getElem_cons hk, hx, cntL_cons]
set_option maxHeartbeats 2000000 in
theorem count_any : ∀ (n : Nat) (x : Ex) (u : Value) (w : World) (a d : Int), IsEx n (Lt w.heap.size) w u x → -1 ≤ a → a ≤ 400 → -1 ≤ d → d ≤ 60 →
    Calls Tryz.prog 57 #[u, .int .i64 a, .int .i64 d] w fun e w' => e = .returned (.int .i64 (cntX x a d)) ∧ Below w.heap.size w w' := by
  intro n
  induction n using Nat.strongRecOn with
  | _ n ih =>
    intro x u w a d h ha1 ha2 hd1 hd2
    have h0 := h
    obtain ⟨lv, rfl, h1, h2, h3, h4⟩ := h
    obtain ⟨A, c, rfl, l1, l2, h4⟩ := h4.open_
    have HE := Lib.hid (cntX_eq x a d)
    have hb := bone w (.cells #[.int .i64 x.op, .int .i64 x.v.kind, .int .i64 x.v.n, .string x.v.s, .string x.s, .slice A x.l.length c] 28)
    have hB := Blk.new w 28 #[.int .i64 x.op, .int .i64 x.v.kind, .int .i64 x.v.n, .string x.v.s, .string x.s, .slice A x.l.length c]
    have hx1 := h0.now hb
    have hl1 := SlE.now h4 hb
    clear h0 h4
    generalize hw1 : w.alloc (.cells #[.int .i64 x.op, .int .i64 x.v.kind, .int .i64 x.v.n, .string x.v.s, .string x.s, .slice A x.l.length c] 28) = w1 at *
    obtain ⟨q0, q1, q2, q3, q4, q5⟩ := hB.c6
    by_cases c1 : a ≤ 0
    · have HR : Hid (cntX x a d = -1) := by show _ = _; rw [HE.out, if_pos (.inl c1)]
      go_enter Tryz.func57, Tryz.ntmps57
      go_wp2_with fail
      go_ret
      exact ⟨by rw [HR.out]; rfl, hb⟩
    by_cases c2 : d ≤ 0
    · have HR : Hid (cntX x a d = -1) := by show _ = _; rw [HE.out, if_pos (.inr (.inl c2))]
      go_enter Tryz.func57, Tryz.ntmps57
      go_wp2_with fail
      go_ret
      exact ⟨by rw [HR.out]; rfl, hb⟩
    go_enter Tryz.func57, Tryz.ntmps57
    go_wp2_with fail
    refine (formed_any _ x _ _ hx1).mono ?_
    rintro e w2 ⟨rfl, hb2⟩
    have hbw2 := bthen hb hb2
    have hl2 := SlE.now hl1 hb2
    have hB2 := hB.now hb2
    clear q0 q1 q2 q3 q4 q5 hB hl1 hx1
    obtain ⟨q0, q1, q2, q3, q4, q5⟩ := hB2.c6
    generalize hs : shapeX x = sh at *
    cases sh
    · have HR : Hid (cntX x a d = -1) := by show _ = _; rw [HE.out, if_pos (.inr (.inr rfl))]
      go_wp2_with fail
      go_ret
      exact ⟨by rw [HR.out]; rfl, hbw2⟩
    have HR : Hid (cntX x a d = cntL (x.l.drop 0) (a - 1) (d - 1)) := by show _ = _; rw [HE.out, if_neg (by simp [c1, c2]), List.drop_zero]
    clear HE hs
    have wa : IntKind.i64.wrap (a - 1) = a - 1 := IntWalk.i64_in _ (by omega)
    have wd : IntKind.i64.wrap (d - 1) = d - 1 := IntWalk.i64_in _ (by omega)
    go_wp2_with fail
    go_loopw [1, 25] (fun av i wr => ∃ (k : Nat) (a' : Int), k ≤ x.l.length ∧ i = .int .i64 k ∧ av = .int .i64 a' ∧ 0 ≤ a' ∧ a' ≤ 400 ∧ cntX x a d = cntL (x.l.drop k) a' (d - 1) ∧ Below w.heap.size w wr ∧ Below w2.heap.size w2 wr) (fun _ i _ => x.l.length - (intOf i).toNat)
    case atStart => exact ⟨0, a - 1, Nat.zero_le _, rfl, rfl, by omega, by omega, HR.out, hbw2, Below.refl _ _⟩
    case round =>
      obtain ⟨k, a', hk, rfl, rfl, a1, a2, hc, hbr, hbr2⟩ := hrel
      have HC := Lib.hid hc
      clear hc HR
      by_cases hlt : k < x.l.length
      · obtain ⟨b, o, y, lv, n', hn, rfl, hD, hx, hex, hfv, hsl, e0, e1, e2, e3, e4, e5⟩ := (SlE.now hl2 hbr2).at_ hlt
        have HX := Lib.hid (cntL_drop hx a' (d - 1))
        have HLO := Lib.hid (cnt_low y a' (d - 1))
        have HRG := Lib.hid (cnt_range y a' (d - 1) a2)
        obtain ⟨A2, c2', rfl, m1, m2, _⟩ := hsl.open_
        have hb3 := bone wr (.cells #[.int .i64 y.op, .int .i64 y.v.kind, .int .i64 y.v.n, .string y.v.s, .string y.s, .slice A2 y.l.length c2'] 28)
        have hcall := Lib.hid (ih n' (by omega) y _ _ a' (d - 1) (hex.now hb3) (by omega) a2 (by omega) (by omega))
        clear hx hex hfv hsl hn
        generalize cntX y a' (d - 1) = z at *
        go_wp2_with fail
        refine hcall.out.mono ?_
        rintro e w4 ⟨rfl, hb4⟩
        have hbw4 : Below w.heap.size w w4 := bthen hbr (bthen hb3 hb4)
        have hbw4' : Below w2.heap.size w2 w4 := bthen hbr2 (bthen hb3 hb4)
        by_cases hz : z < 0
        · have HRR : Hid (cntX x a d = -1) := by show _ = _; rw [HC.out, HX.out, if_pos hz]
          go_wp2_with fail
          go_ret
          exact ⟨by rw [HRR.out]; rfl, hbw4⟩
        · have HRR : Hid (cntX x a d = cntL (x.l.drop (k + 1)) z (d - 1)) := by show _ = _; rw [HC.out, HX.out, if_neg hz]
          go_wp2_with fail
          go_roundw
          case rel => exact ⟨k + 1, z, by omega, by go_num, rfl, by omega, by have := HRG.out; omega, HRR.out, hbw4, hbw4'⟩
          case measure => simp [intOf]; omega
      · have HRR : Hid (cntX x a d = a') := by show _ = _; rw [HC.out, List.drop_eq_nil_of_le (by omega), cntL_nil]
        go_wp2_with fail
        go_ret
        exact ⟨by rw [HRR.out]; rfl, hbr⟩
theorem validX_any (n : Nat) (x : Ex) (u : Value) (w : World) (h : IsEx n (Lt w.heap.size) w u x) :
    Calls Tryz.prog 20 #[u] w fun e w' => e = .returned (.bool (validX x)) ∧ Below w.heap.size w w' := by
  have h0 := h
  obtain ⟨lv, rfl, h1, h2, h3, h4⟩ := h
  have hb := bone w (.cells #[.int .i64 x.op, .int .i64 x.v.kind, .int .i64 x.v.n, .string x.v.s, .string x.s, lv] 28)
  have hc := count_any n x _ _ 400 60 (h0.now hb) (by omega) (by omega) (by omega) (by omega)
  have HC := Lib.hid hc
  have HV : Hid (validX x = decide (0 ≤ cntX x 400 60)) := rfl
  clear hc h4 h0
  generalize cntX x 400 60 = z at *
  go_enter Tryz.func20, Tryz.ntmps20
  go_wp2_with fail
  refine HC.out.mono ?_
  rintro e w2 ⟨rfl, hb2⟩
  have hbw := bthen hb hb2
  clear hb hb2 HC
  go_wp2_with fail
  go_ret
  exact ⟨ret_bool HV.out.symm, hbw⟩
end Go.Proofs.YtijmnenojbfdnaaGreatDoor

namespace Go.Proofs.YtijmnenojbfdnaaGreatDoor
open Go.RowKit
set_option maxHeartbeats 400000 in
theorem tokLetter_any (c : UInt8) (w : World) : Calls Tryz.prog 158 #[.int .u8 (c.toNat : Int)] w fun e w' => e = .returned (.bool (letB c)) ∧ w = w' := by
  have HL : Hid (letB c = ((decide (97 ≤ c.toNat) && decide (c.toNat ≤ 122)) || (decide (65 ≤ c.toNat) && decide (c.toNat ≤ 90)))) := rfl
  generalize letB c = lb at *
  generalize c.toNat = k at *
  by_cases h1 : 65 ≤ k <;> by_cases h2 : k ≤ 90 <;> by_cases h3 : 97 ≤ k <;> by_cases h4 : k ≤ 122
  all_goals first
    | (exfalso; omega)
    | (have i1 : ((65 : Int) ≤ (k : Int)) = (65 ≤ k) := propext (by omega)
       have i2 : ((k : Int) ≤ 90) = (k ≤ 90) := propext (by omega)
       have i3 : ((97 : Int) ≤ (k : Int)) = (97 ≤ k) := propext (by omega)
       have i4 : ((k : Int) ≤ 122) = (k ≤ 122) := propext (by omega)
       go_enter Tryz.func158, Tryz.ntmps158
       go_wp2
       go_ret
       exact ⟨ret_bool (by rw [HL.out]; simp [h1, h2, h3, h4]), rfl⟩)
set_option maxHeartbeats 400000 in
theorem tokDigit_any (c : UInt8) (w : World) : Calls Tryz.prog 161 #[.int .u8 (c.toNat : Int)] w fun e w' => e = .returned (.bool (digB c)) ∧ w = w' := by
  have HL : Hid (digB c = (decide (48 ≤ c.toNat) && decide (c.toNat ≤ 57))) := rfl
  generalize digB c = lb at *
  generalize c.toNat = k at *
  by_cases h1 : 48 ≤ k <;> by_cases h2 : k ≤ 57
  all_goals first
    | (exfalso; omega)
    | (have i1 : ((48 : Int) ≤ (k : Int)) = (48 ≤ k) := propext (by omega)
       have i2 : ((k : Int) ≤ 57) = (k ≤ 57) := propext (by omega)
       go_enter Tryz.func161, Tryz.ntmps161
       go_wp2
       go_ret
       exact ⟨ret_bool (by rw [HL.out]; simp [h1, h2]), rfl⟩)
theorem u8_eq (c : UInt8) (k : Nat) (hk : k < 256) : ((c.toNat : Int) == (k : Int)) = (c == UInt8.ofNat k) := by
  have hm : (UInt8.ofNat k).toNat = k := by rw [UInt8.toNat_ofNat']; exact Nat.mod_eq_of_lt hk
  rw [Bool.eq_iff_iff, beq_iff_eq, beq_iff_eq]
  constructor
  · intro h
    have h : c.toNat = k := by omega
    rw [← UInt8.toNat_inj, h, hm]
  · rintro rfl
    rw [hm]
set_option maxHeartbeats 1000000 in
theorem tokWord_any (c : UInt8) (w : World) : Calls Tryz.prog 160 #[.int .u8 (c.toNat : Int)] w fun e w' => e = .returned (.bool (wordC c)) ∧ w = w' := by
  have HL : Hid (wordC c = (letB c || digB c || c == 95 || c == 45 || c == 46)) := rfl
  have H1 := Lib.hid (tokLetter_any c)
  have H2 := Lib.hid (tokDigit_any c)
  have e1 := u8_eq c 95 (by omega)
  have e2 := u8_eq c 45 (by omega)
  have e3 := u8_eq c 46 (by omega)
  have e1 : ((c.toNat : Int) == 95) = (c == 95) := e1
  have e2 : ((c.toNat : Int) == 45) = (c == 45) := e2
  have e3 : ((c.toNat : Int) == 46) = (c == 46) := e3
  generalize letB c = l at *
  generalize digB c = d at *
  generalize (c == 95) = q1 at *
  generalize (c == 45) = q2 at *
  generalize (c == 46) = q3 at *
  generalize wordC c = wc at *
  go_enter Tryz.func160, Tryz.ntmps160
  go_wp2_with fail
  refine (H1.out _).mono ?_
  rintro e w1 ⟨rfl, rfl⟩
  cases l
  rotate_left
  · go_wp2_with fail
    go_ret
    exact ⟨ret_bool (by rw [HL.out]; simp), rfl⟩
  go_wp2_with fail
  refine (H2.out _).mono ?_
  rintro e w1 ⟨rfl, rfl⟩
  cases d
  rotate_left
  · go_wp2_with fail
    go_ret
    exact ⟨ret_bool (by rw [HL.out]; simp), rfl⟩
  cases q1
  rotate_left
  · go_wp2_with fail
    go_ret
    exact ⟨ret_bool (by rw [HL.out]; simp), rfl⟩
  cases q2
  rotate_left
  · go_wp2_with fail
    go_ret
    exact ⟨ret_bool (by rw [HL.out]; simp), rfl⟩
  cases q3
  · go_wp2_with fail
    go_ret
    exact ⟨ret_bool (by rw [HL.out]; simp), rfl⟩
  · go_wp2_with fail
    go_ret
    exact ⟨ret_bool (by rw [HL.out]; simp), rfl⟩
set_option maxHeartbeats 2000000 in
theorem length_any (k : FuncId) (eg : ∀ args w, (callFunc k args).run Tryz.prog w = .ok (.enter k args) w) (p : UInt8 → Bool) (hp : ∀ (c : UInt8) (w : World), Calls Tryz.prog k #[.int .u8 (c.toNat : Int)] w fun e w' => e = .returned (.bool (p c)) ∧ w = w') (s : ByteArray) (w : World) (hs : s.size ≤ 100000) :
    Calls Tryz.prog 159 #[.string s, .func (.func k) #[] #[]] w fun e w' => e = .returned (.int .i64 (lenP p s.data.toList : Int)) ∧ w = w' := by
  have HP := Lib.hid hp
  clear hp
  go_enter Tryz.func159, Tryz.ntmps159
  go_wp2_with fail
  go_loopw [8] (fun iv wr => ∃ j : Nat, j ≤ s.size ∧ iv = .int .i64 j ∧ Hid (lenP p s.data.toList = j + lenP p (s.data.toList.drop j)) ∧ w = wr) (fun iv _ => s.size - (intOf iv).toNat)
  case atStart => exact ⟨0, Nat.zero_le _, rfl, (by show _ = _; simp), rfl⟩
  case round =>
    obtain ⟨j, hj, rfl, HE, rfl⟩ := hrel
    by_cases hlt : j < s.size
    · have i1 : (0 : Int) ≤ (j : Int) := by omega
      have i2 : (j : Int) < (s.size : Int) := by omega
      have HD := Lib.hid (lexDrop hlt)
      obtain ⟨q, hq⟩ : ∃ q, p s[j] = q := ⟨_, rfl⟩
      have HC : Hid (Calls Tryz.prog k #[.int .u8 (s[j].toNat : Int)] w fun e w' => e = .returned (.bool q) ∧ w = w') := by have := HP.out s[j] w; rw [hq] at this; exact this
      have HQ := Lib.hid hq
      clear hq
      cases q
      · go_wp2_with (go_at_fn k; refine HC.out.mono ?_; rintro e w2 ⟨rfl, rfl⟩)
        go_ret
        refine ⟨ret_int ?_, rfl⟩
        rw [HE.out, HD.out]
        simp [lenP, HQ.out]
      · go_wp2_with (go_at_fn k; refine HC.out.mono ?_; rintro e w2 ⟨rfl, rfl⟩)
        go_roundw
        case rel =>
          refine ⟨j + 1, by omega, by go_num, ?_, by simp⟩
          show _ = _
          rw [HE.out, HD.out]
          simp [lenP, HQ.out]
          omega
        case measure => simp [intOf]; omega
    · have hjs : s.size = j := by omega
      subst hjs
      go_wp2_with fail
      go_ret
      refine ⟨ret_int ?_, by simp⟩
      rw [HE.out, List.drop_eq_nil_of_le (by rw [lexSize]; exact Nat.le_refl _)]
      simp [lenP]
theorem SlS.lit {w : World} {t : TypeId} (xs : List ByteArray) (h : ∀ x ∈ xs, x.size ≤ maxLen) (hl : xs.length ≤ maxLen) : SlS (Lt (w.alloc (.cells (xs.map Value.string).toArray t)).heap.size) (w.alloc (.cells (xs.map Value.string).toArray t)) (.slice (some ⟨w.heap.size, 0, none⟩) xs.length xs.length) xs := by
  refine ⟨_, xs.length, rfl, Nat.le_refl _, hl, fun i x hx => ⟨w.heap.size, 0, [.string x], rfl, by simp [Lt], rfl, ⟨rfl, h x (List.mem_of_getElem? hx)⟩, fun j u hj => ?_⟩⟩
  match j, hj with
  | 0, hj =>
    injection hj with hj; subst hj
    rw [(Blk.new w t _).cell]
    simp [hx]
  | j + 1, hj => simp at hj
theorem syms_any (w : World) : Calls Tryz.prog 194 #[] w fun e w' => (∃ A, e = .returned (.slice A 33 33) ∧ SlS (Lt w'.heap.size) w' (.slice A 33 33) symL) ∧ Below w.heap.size w w' := by
  have h := SlS.lit (w := w) (t := 9) symL (by decide) (by unfold maxLen; decide)
  have HS := Lib.hid h
  have HB := Lib.hid (bone w (.cells (symL.map Value.string).toArray 9))
  clear h
  go_enter Tryz.func194, Tryz.ntmps194
  go_wp2_with fail
  go_ret
  exact ⟨⟨_, rfl, HS.out⟩, HB.out⟩
def RetSym (r : Option ByteArray) (w : World) (e : Ending) (w' : World) : Prop :=
  e = .returned (match r with | some x => .tuple #[.string x, .bool true] | none => .tuple #[.string ⟨#[]⟩, .bool false]) ∧ Below w.heap.size w w'
theorem symFind_at {p : ByteArray → Bool} : ∀ (l : List ByteArray) (j : Nat) (x : ByteArray), l[j]? = some x → (∀ i y, i < j → l[i]? = some y → p y = false) → p x = true → l.find? p = some x
  | [], j, x, h, _, _ => by simp at h
  | a :: l, 0, x, h, _, hp => by
    have h : a = x := by simpa using h
    subst h
    rw [List.find?_cons, hp]
  | a :: l, j + 1, x, h, hn, hp => by
    rw [List.find?_cons, hn 0 a (by omega) rfl]
    exact symFind_at l j x (by simpa using h) (fun i y hi hy => hn (i + 1) y (by omega) (by simpa using hy)) hp
set_option maxHeartbeats 1000000 in
theorem symbol_any (s : ByteArray) (w : World) : Calls Tryz.prog 165 #[.string s] w (RetSym (symB s.data.toList) w) := by
  go_enter Tryz.func165, Tryz.ntmps165
  go_wp2_with fail
  refine (syms_any _).mono ?_
  rintro e w1 ⟨⟨A, rfl, hs1⟩, hb1⟩
  go_wp2_with fail
  go_loopw [8] (fun iv wr => ∃ j : Nat, j ≤ 33 ∧ iv = .int .i64 j ∧ Hid (∀ i y, i < j → symL[i]? = some y → Lib.hasPrefix s.data.toList y.data.toList = false) ∧ w1 = wr) (fun iv _ => 33 - (intOf iv).toNat)
  case atStart => exact ⟨0, Nat.zero_le _, rfl, (by show ∀ _ _, _; intro i y hi; omega), rfl⟩
  case round =>
    obtain ⟨j, hj, rfl, HN, rfl⟩ := hrel
    by_cases hlt : j < 33
    · obtain ⟨b, o, x, rfl, _, hx, _, c0⟩ := SlS.at_ hs1 hlt
      have a1 : (0 : Int) ≤ (j : Int) := by omega
      have a2 : (j : Int) < 33 := by omega
      have HX := Lib.hid hx
      clear hx
      go_wp2_with fail
      refine (Tryz.strings_HasPrefix s x _).mono ?_
      rintro e w2 ⟨rfl, rfl⟩
      cases hq : Lib.hasPrefix s.data.toList x.data.toList
      · have HQ := Lib.hid hq
        clear hq
        go_wp2_with fail
        go_roundw
        case rel =>
          refine ⟨j + 1, by omega, by go_num, ?_, by simp⟩
          show ∀ _ _, _
          intro i y hi hy
          by_cases e : i = j
          · subst e
            rw [HX.out] at hy
            injection hy with hy
            subst hy
            exact HQ.out
          · exact HN.out i y (by omega) hy
        case measure => simp [intOf]; omega
      · have HF : Hid (symB s.data.toList = some x) := symFind_at symL j x HX.out HN.out hq
        clear hq
        go_wp2_with fail
        go_ret2
        refine ⟨?_, hb1⟩
        rw [HF.out]
        rfl
    · have hj33 : j = 33 := by omega
      subst hj33
      have HF : Hid (symB s.data.toList = none) := by
        show _ = _
        unfold symB
        rw [List.find?_eq_none]
        intro x hx
        obtain ⟨i, hi, rfl⟩ := List.mem_iff_getElem.1 hx
        have := HN.out i _ (show i < 33 from hi) (List.getElem?_eq_getElem hi)
        simpa using this
      go_wp2_with fail
      go_ret2
      refine ⟨?_, hb1⟩
      rw [HF.out]
      rfl
def IsRd (w : World) (g : Nat) (s : ByteArray) (col : Int) : Prop := Blk w g 152 #[.string s, .int .i64 1, .int .i64 col]
theorem lexGrownT {a b c : World} {row : Option Nat} (h : a.grownBy b row) (k : b.grownBy c row) : a.grownBy c row :=
  ⟨k.os.trans h.os, k.tape.trans h.tape, k.output.trans h.output, Nat.le_trans h.size k.size, fun i hi hr => (k.block i (Nat.lt_of_lt_of_le hi h.size) hr).trans (h.block i hi hr)⟩
theorem lexGrownS (w : World) (g k : Nat) (u : Value) : w.grownBy (w.setCell ⟨g, k, none⟩ u) (some g) := ⟨rfl, rfl, rfl, by simp, fun i _ hne => Below.heap_setCell w ⟨g, k, none⟩ u i (fun e => hne (by rw [e]))⟩
set_option maxHeartbeats 2000000 in
theorem skip_any (g n : Nat) (s : ByteArray) (col : Int) (w : World) (hn : n ≤ s.size) (hs : s.size ≤ 16384) (hnl : (s.data.toList.take n).all (· != 10) = true) (hc : 0 ≤ col ∧ col ≤ 100000) (h : IsRd w g s col) :
    Calls Tryz.prog 118 #[.pointer (some ⟨g, 0, none⟩), .int .i64 (n : Int)] w fun e w' => e = .returned (.tuple #[]) ∧ IsRd w' g (s.extract n s.size) (col + n) ∧ w.grownBy w' (some g) := by
  have HNL := Lib.hid hnl
  clear hnl
  go_enter Tryz.func118, Tryz.ntmps118
  go_wp2_with fail
  go_loopw [6] (fun iv wr => ∃ j : Nat, j ≤ n ∧ iv = .int .i64 j ∧ IsRd wr g s (col + j) ∧ w.grownBy wr (some g)) (fun iv _ => n - (intOf iv).toNat)
  case atStart => exact ⟨0, Nat.zero_le _, rfl, by simpa using h, World.grownBy.refl w _⟩
  case round =>
    obtain ⟨j, hj, rfl, hr, hg⟩ := hrel
    have hr' : Blk wr g 152 #[.string s, .int .i64 1, .int .i64 (col + j)] := hr
    by_cases hlt : j < n
    · have i1 : (0 : Int) ≤ (j : Int) := by omega
      have i2 : (j : Int) < (s.size : Int) := by omega
      have hjs : j < s.size := by omega
      have hne : ((s[j].toNat : Int) == 10) = false := by
        have h1 := List.all_eq_true.1 HNL.out s[j] (List.mem_of_getElem? (i := j) (by rw [List.getElem?_take, if_pos hlt, List.getElem?_eq_getElem (by rw [lexSize]; exact hjs)]; rfl))
        have h2 := u8_eq s[j] 10 (by omega)
        have h3 : (s[j] == (10 : UInt8)) = false := by simpa using h1
        exact h2.trans h3
      obtain ⟨c0, c1, c2⟩ := hr'.c3
      have f2 := hr'.frozen 2
      have hset := hr'.set_ 2 (.int .i64 (col + j + 1))
      have hgs := lexGrownT hg (lexGrownS wr g 2 (.int .i64 (col + j + 1)))
      go_upto_region 4 with fail
      generalize hw2 : wr.setCell ⟨g, 2, none⟩ (.int .i64 (col + j + 1)) = w2 at *
      clear hw2 c0 c1 c2 f2 hr hr' hg
      have hset' : Blk w2 g 152 #[.string s, .int .i64 1, .int .i64 (col + j + 1)] := hset
      obtain ⟨c0, c1, c2⟩ := hset'.c3
      go_wp2_with fail
      go_roundw
      case rel =>
        refine ⟨j + 1, by omega, by go_num, ?_, hgs⟩
        have e : col + ((j + 1 : Nat) : Int) = col + j + 1 := by omega
        rw [e]
        exact hset'
      case measure => simp [intOf]; omega
    · have hjn : j = n := by omega
      subst hjn
      obtain ⟨c0, c1, c2⟩ := hr'.c3
      have f0 := hr'.frozen 0
      have i2 : (j : Int) ≤ (s.size : Int) := by omega
      have hset := hr'.set_ 0 (.string (s.extract j s.size))
      go_wp2_with fail
      go_end0
      refine ⟨rfl, hset, lexGrownT hg (lexGrownS _ _ _ _)⟩
theorem lexExtSize (s : ByteArray) {j : Nat} (h : j ≤ s.size) : (s.extract j s.size).size = s.size - j := by
  rw [ByteArray.size_extract]; omega
theorem lexExtList (s : ByteArray) (j : Nat) : (s.extract j s.size).data.toList = s.data.toList.drop j := by
  rw [lexExt, List.take_of_length_le (by rw [List.length_drop, lexSize]; exact Nat.le_refl _)]
theorem lexExtExt (s : ByteArray) {j k : Nat} (h : j + k ≤ s.size) : (s.extract j s.size).extract k (s.extract j s.size).size = s.extract (j + k) s.size := by
  rw [lexExtSize s (by omega)]
  apply ByteArray.ext
  apply Array.ext'
  rw [lexExt, lexExtList, lexExtList, List.drop_drop, List.take_of_length_le (by rw [List.length_drop, lexSize]; omega)]
theorem lexHead {s : ByteArray} {c : UInt8} {l : List UInt8} (h : s.data.toList = c :: l) : ∃ h0 : 0 < s.size, s[0] = c := by
  have h0 : 0 < s.size := by rw [← lexSize, h]; simp
  refine ⟨h0, ?_⟩
  have := lexDrop h0
  rw [List.drop_zero, h] at this
  injection this with this _
  exact this.symm
theorem lexEmpty (s : ByteArray) : s.toList = s.data.toList := ByteArray.toList_eq s
set_option maxHeartbeats 2000000 in
theorem blanks_any (g : Nat) (s : ByteArray) (col : Int) (w : World) (hs : s.size ≤ 16384) (hc : 0 ≤ col ∧ col ≤ 50000) (hp : plainBlank s.data.toList = true) (h : IsRd w g s col) :
    Calls Tryz.prog 116 #[.pointer (some ⟨g, 0, none⟩)] w fun e w' => e = .returned (.tuple #[]) ∧ IsRd w' g (s.extract (lenP (· == 32) s.data.toList) s.size) (col + (lenP (· == 32) s.data.toList : Nat)) ∧ w.grownBy w' (some g) := by
  obtain ⟨nb, hnb⟩ : ∃ nb, lenP (· == 32) s.data.toList = nb := ⟨_, rfl⟩
  have hnle : nb ≤ s.size := by rw [← hnb, ← lexSize]; exact lenP_le _ _
  have HTW : Hid (∀ j, j < nb → ∃ l, s.data.toList.drop j = 32 :: l) := by
    show ∀ _, _
    intro j hj
    rw [← hnb] at hj
    obtain ⟨c, r, h1, h2⟩ := lenP_in _ _ _ hj
    have h3 : c = 32 := by simpa using h2
    exact ⟨r, by rw [h1, h3]⟩
  have HNE : Hid (∀ c l, s.data.toList.drop nb = c :: l → (c == 32) = false ∧ (c == 9) = false ∧ (c == 10) = false ∧ (c == 13) = false ∧ (c == 35) = false) := by
    show ∀ _ _, _
    intro c l hl
    have h1 := lenP_out (· == 32) s.data.toList c l (by rw [hnb]; exact hl)
    unfold plainBlank at hp
    rw [hnb, hl] at hp
    have hp : (!(c == 9 || c == 10 || c == 13 || c == 35)) = true := hp
    rw [Bool.not_eq_true', Bool.or_eq_false_iff, Bool.or_eq_false_iff, Bool.or_eq_false_iff] at hp
    exact ⟨h1, hp.1.1.1, hp.1.1.2, hp.1.2, hp.2⟩
  rw [hnb]
  have HNB := Lib.hid hnb
  clear hp hnb
  go_enter Tryz.func116, Tryz.ntmps116
  go_wp2_with fail
  go_loopg [] (s.size) (fun gg wr => ∃ j : Nat, j ≤ nb ∧ s.size - j ≤ gg ∧ IsRd wr g (s.extract j s.size) (col + j) ∧ w.grownBy wr (some g))
  case atStart => exact ⟨0, Nat.zero_le _, by omega, (by rw [ByteArray.extract_zero_size]; simpa using h), World.grownBy.refl w _⟩
  case round =>
    obtain ⟨j, hj, hgg, hr, hg⟩ := hrel
    have hr' : Blk wr g 152 #[.string (s.extract j s.size), .int .i64 1, .int .i64 (col + j)] := hr
    have hes := lexExtSize s (show j ≤ s.size by omega)
    have hel := lexExtList s j
    have HX := Lib.hid (fun k (hk : j + k ≤ s.size) => lexExtExt s hk)
    obtain ⟨s', hs'⟩ : ∃ s', s.extract j s.size = s' := ⟨_, rfl⟩
    rw [hs'] at hr' hes hel HX
    have HS' := Lib.hid hs'
    clear hr hs'
    obtain ⟨c0, c1, c2⟩ := hr'.c3
    cases hd : s.data.toList.drop j with
    | nil =>
      have hj2 : s.size ≤ j := by have := congrArg List.length hd; rw [List.length_drop, lexSize] at this; simp at this; omega
      have hnb2 : j = nb := by omega
      have e0 : s'.toList = [] := by rw [lexEmpty, hel, hd]
      have e1 : s'.toList.isEmpty = true := by rw [e0]; rfl
      subst hnb2
      have HHS : Hid (s.extract j s.size = s') := HS'.out
      clear hel hd hes
      go_wp2_with fail
      go_end0
      exact ⟨rfl, by rw [HHS.out]; exact hr', hg⟩
    | cons c l =>
      have e1 : s'.toList.isEmpty = false := by rw [lexEmpty, hel, hd]; rfl
      have e0 : ¬ s'.toList = [] := by rw [lexEmpty, hel, hd]; simp
      obtain ⟨h0, hc0⟩ := lexHead (s := s') (by rw [hel, hd])
      have i2 : (0 : Int) < (s'.size : Int) := by omega
      have HD := Lib.hid hd
      have HEL := Lib.hid hel
      clear hel hd
      by_cases hlt : j < nb
      · obtain ⟨l', hl'⟩ := HTW.out j hlt
        have hc32 : c = 32 := by have := HD.out; rw [hl'] at this; injection this with this _; exact this.symm
        have d1 : ((c.toNat : Int) == 32) = true := by rw [hc32]; rfl
        have hsk := skip_any g 1 s' (col + j) wr (by omega) (by omega) (by rw [HEL.out, HD.out, hc32]; rfl) (by omega) hr'
        have HSK := Lib.hid hsk
        have HE2 : Hid (s'.extract 1 s'.size = s.extract (j + 1) s.size) := HX.out 1 (by omega)
        clear hsk hc32 hl'
        go_wp2_with fail
        refine HSK.out.mono ?_
        rintro e w2 ⟨rfl, hr2, hg2⟩
        rw [HE2.out] at hr2
        go_wp2_with fail
        go_roundg (s.size - (j + 1))
        case rel =>
          refine ⟨j + 1, by omega, Nat.le_refl _, ?_, lexGrownT hg hg2⟩
          have e : col + ((j + 1 : Nat) : Int) = col + j + ((1 : Nat) : Int) := by omega
          rw [e]
          exact hr2
        case measure => omega
      · have hnb2 : j = nb := by omega
        subst hnb2
        obtain ⟨n1, n2, n3, n4, n5⟩ := HNE.out c l HD.out
        have d1 : ((c.toNat : Int) == 32) = false := (u8_eq c 32 (by omega)).trans n1
        have d2 : ((c.toNat : Int) == 9) = false := (u8_eq c 9 (by omega)).trans n2
        have d3 : ((c.toNat : Int) == 10) = false := (u8_eq c 10 (by omega)).trans n3
        have d4 : ((c.toNat : Int) == 13) = false := (u8_eq c 13 (by omega)).trans n4
        have d5 : ((c.toNat : Int) == 35) = false := (u8_eq c 35 (by omega)).trans n5
        clear n1 n2 n3 n4 n5
        go_wp2_with fail
        refine bodyPost_ret (v := .tuple #[]) (by simp [results, Tryz.results116]) rfl ?_
        exact ⟨rfl, by rw [HS'.out]; exact hr', hg⟩
end Go.Proofs.YtijmnenojbfdnaaGreatDoor

namespace Go.Proofs.YtijmnenojbfdnaaGreatDoor
open Go.RowKit
theorem Blk.set5' {w : World} {g : Nat} {t : TypeId} {a b c d e : Value} (h : Blk w g t #[a, b, c, d, e]) (a' b' c' d' e' : Value) : Blk (((((w.setCell ⟨g, 0, none⟩ a').setCell ⟨g, 1, none⟩ b').setCell ⟨g, 2, none⟩ c').setCell ⟨g, 3, none⟩ d').setCell ⟨g, 4, none⟩ e') g t #[a', b', c', d', e'] :=
  ((((h.set_ 0 a').set_ 1 b').set_ 2 c').set_ 3 d').set_ 4 e'
theorem lexBytes {w w2 : World} {e : TypeId} (h : w2 = w ∨ ∃ t, w2 = Lib.bytesWorld w e t) : Below w.heap.size w w2 := by
  rcases h with rfl | ⟨t, rfl⟩
  · exact Below.refl _ _
  · exact Lib.bytesWorld_below _ _ _
theorem bset5' {w w1 : World} {B g : Nat} (h : Below B w w1) (hg : B ≤ g) (a b c d e : Value) : Below B w (((((w1.setCell ⟨g, 0, none⟩ a).setCell ⟨g, 1, none⟩ b).setCell ⟨g, 2, none⟩ c).setCell ⟨g, 3, none⟩ d).setCell ⟨g, 4, none⟩ e) :=
  ((((h.setCell (p := ⟨g, 0, none⟩) hg a).setCell (p := ⟨g, 1, none⟩) hg b).setCell (p := ⟨g, 2, none⟩) hg c).setCell (p := ⟨g, 3, none⟩) hg d).setCell (p := ⟨g, 4, none⟩) hg e
set_option maxHeartbeats 8000000 in
set_option maxRecDepth 100000 in
theorem next_any (g : Nat) (s : ByteArray) (col : Int) (w : World) (hs : s.size ≤ 16384) (k n : Int) (t : ByteArray) (len : Nat) (hx : nextB s = some (k, t, n, len)) (h : IsRd w g s col) :
    Calls Tryz.prog 117 #[.pointer (some ⟨g, 0, none⟩)] w fun e w' => e = .returned (.tuple #[.agg #[.int .i64 k, .string t, .int .i64 n, .int .i64 1, .int .i64 col], .int .i64 (len : Int), .int .i64 0]) ∧ Below w.heap.size w w' := by
  have hb1 := bbox (bone w (.cells #[.int .i64 0, .string ⟨#[]⟩, .int .i64 0, .int .i64 0, .int .i64 0] 117)) (.cells #[.int .i64 0, .string ⟨#[]⟩, .int .i64 0, .int .i64 1, .int .i64 col] 117)
  have hR1 := (Blk.new w 117 #[.int .i64 0, .string ⟨#[]⟩, .int .i64 0, .int .i64 0, .int .i64 0]).alloc (.cells #[.int .i64 0, .string ⟨#[]⟩, .int .i64 0, .int .i64 1, .int .i64 col] 117)
  have hT1 := Blk.new_at (t := 117) (cs := #[.int .i64 0, .string ⟨#[]⟩, .int .i64 0, .int .i64 1, .int .i64 col]) (w := w.alloc (.cells #[.int .i64 0, .string ⟨#[]⟩, .int .i64 0, .int .i64 0, .int .i64 0] 117)) (s := w.heap.size + 1) (World.size_alloc _ _)
  have h' : Blk w g 152 #[.string s, .int .i64 1, .int .i64 col] := h
  obtain ⟨c0, c1, c2⟩ := h'.c3
  have hg := h'.lt
  have hr1 := h'.now hb1
  have hsz1 : ((w.alloc (.cells #[.int .i64 0, .string ⟨#[]⟩, .int .i64 0, .int .i64 0, .int .i64 0] 117)).alloc (.cells #[.int .i64 0, .string ⟨#[]⟩, .int .i64 0, .int .i64 1, .int .i64 col] 117)).heap.size = w.heap.size + 2 := by rw [World.size_alloc, World.size_alloc]
  go_enter Tryz.func117, Tryz.ntmps117
  go_upto_region 2 with fail
  generalize hw1 : ((w.alloc (.cells #[.int .i64 0, .string ⟨#[]⟩, .int .i64 0, .int .i64 0, .int .i64 0] 117)).alloc (.cells #[.int .i64 0, .string ⟨#[]⟩, .int .i64 0, .int .i64 1, .int .i64 col] 117)) = w1 at *
  clear hw1 c0 c1 c2 h h'
  have HSZ1 := Lib.hid hsz1
  clear hsz1
  obtain ⟨c0, c1, c2⟩ := hr1.c3
  cases hd : s.data.toList with
  | nil =>
    unfold nextB at hx
    rw [hd] at hx
    injection hx with hx
    injection hx with x1 hx
    injection hx with x2 hx
    injection hx with x3 x4
    subst x1 x2 x3 x4
    have e0 : s.toList = [] := by rw [lexEmpty, hd]
    have e1 : s.toList.isEmpty = true := by rw [e0]; rfl
    clear hd
    obtain ⟨t0, t1, t2, t3, t4⟩ := hT1.c5
    have ft0 := hT1.frozen 0
    have ft1 := hT1.frozen 1
    have ft2 := hT1.frozen 2
    go_upto_region 4 with fail
    have hT2 : Blk (w1.setCell ⟨w.heap.size + 1, 0, none⟩ (.int .i64 5)) (w.heap.size + 1) 117 #[.int .i64 5, .string ⟨#[]⟩, .int .i64 0, .int .i64 1, .int .i64 col] := (hT1.set_ 0 (.int .i64 5))
    have hR2 := (hR1.far (p := ⟨w.heap.size + 1, 0, none⟩) (show w.heap.size ≠ w.heap.size + 1 by omega) (.int .i64 5))
    have hb2 := (hb1.setCell (p := ⟨w.heap.size + 1, 0, none⟩) (show w.heap.size ≤ w.heap.size + 1 by omega) (.int .i64 5))
    generalize hw2 : (w1.setCell ⟨w.heap.size + 1, 0, none⟩ (.int .i64 5)) = w2 at *
    clear hw2 t0 t1 t2 t3 t4 ft0 ft1 ft2 hT1 hR1 hb1
    obtain ⟨t0, t1, t2, t3, t4⟩ := hT2.c5
    obtain ⟨z0, z1, z2, z3, z4⟩ := hR2.c5
    have fr0 := hR2.frozen 0
    have fr1 := hR2.frozen 1
    have fr2 := hR2.frozen 2
    have fr3 := hR2.frozen 3
    have fr4 := hR2.frozen 4
    go_wp2_with fail
    obtain ⟨r0, r1, r2, r3, r4⟩ := (hR2.set5' (.int .i64 5) (.string ⟨#[]⟩) (.int .i64 0) (.int .i64 1) (.int .i64 col)).c5
    refine bodyPost_ret (v := .tuple #[.agg #[.int .i64 5, .string ⟨#[]⟩, .int .i64 0, .int .i64 1, .int .i64 col], .int .i64 0, .int .i64 0]) (by simp [results, Tryz.results117, go_sem, r0, r1, r2, r3, r4]) rfl ?_
    exact ⟨rfl, bset5' hb2 (Nat.le_refl _) _ _ _ _ _⟩
  | cons c l =>
    have e0 : ¬ s.toList = [] := by rw [lexEmpty, hd]; simp
    have e1 : s.toList.isEmpty = false := by rw [lexEmpty, hd]; rfl
    obtain ⟨h0, hc0⟩ := lexHead hd
    have i0 : (0 : Int) < (s.size : Int) := by omega
    have HD := Lib.hid hd
    unfold nextB at hx
    rw [hd] at hx
    dsimp only at hx
    clear hd
    cases hl : letB c with
    | true =>
      rw [hl, if_pos rfl] at hx
      obtain ⟨ln, hln⟩ : ∃ ln, lenP wordC (c :: l) = ln := ⟨_, rfl⟩
      rw [hln] at hx
      by_cases hl40 : ln ≤ 40
      rotate_left
      · rw [if_neg hl40] at hx; cases hx
      rw [if_pos hl40] at hx
      injection hx with hx
      injection hx with x1 hx
      injection hx with x2 hx
      injection hx with x3 x4
      subst x1 x2 x3 x4
      have hls : ln ≤ s.size := by have := lenP_le wordC (c :: l); rw [hln, ← HD.out, lexSize] at this; exact this
      have eg : ∀ args w, (callFunc 160 args).run Tryz.prog w = .ok (.enter 160 args) w := enters_of Tryz.func160 (by kernel_rfl) rfl
      have HLEN := Lib.hid (length_any 160 eg wordC tokWord_any s w1 (by omega))
      rw [HD.out, hln] at HLEN
      have HC := Lib.hid (tokLetter_any c w1)
      rw [hl] at HC
      clear hl hln eg
      have i1 : (0 : Int) ≤ (ln : Int) := by omega
      have i2 : (ln : Int) ≤ (s.size : Int) := by omega
      have i3 : ¬ (40 : Int) < (ln : Int) := by omega
      go_wp2_with fail
      refine HC.out.mono ?_
      rintro e w2 ⟨rfl, rfl⟩
      go_wp2_with fail
      refine HLEN.out.mono ?_
      rintro e w2 ⟨rfl, rfl⟩
      obtain ⟨t0, t1, t2, t3, t4⟩ := hT1.c5
      have ft0 := hT1.frozen 0
      have ft1 := hT1.frozen 1
      have ft2 := hT1.frozen 2
      go_upto_region 10 with fail
      go_region
      go_upto_region 11 with fail
      have hT2 : Blk ((w1.setCell ⟨w.heap.size + 1, 0, none⟩ (.int .i64 1)).setCell ⟨w.heap.size + 1, 1, none⟩ (.string (s.extract 0 ln))).drew (w.heap.size + 1) 117 #[.int .i64 1, .string (s.extract 0 ln), .int .i64 0, .int .i64 1, .int .i64 col] := ((hT1.set_ 0 (.int .i64 1)).set_ 1 (.string (s.extract 0 ln))).drew
      have hR2 := ((hR1.far (p := ⟨w.heap.size + 1, 0, none⟩) (show w.heap.size ≠ w.heap.size + 1 by omega) (.int .i64 1)).far (p := ⟨w.heap.size + 1, 1, none⟩) (show w.heap.size ≠ w.heap.size + 1 by omega) (.string (s.extract 0 ln))).drew
      have hb2 := ((hb1.setCell (p := ⟨w.heap.size + 1, 0, none⟩) (show w.heap.size ≤ w.heap.size + 1 by omega) (.int .i64 1)).setCell (p := ⟨w.heap.size + 1, 1, none⟩) (show w.heap.size ≤ w.heap.size + 1 by omega) (.string (s.extract 0 ln))).drew
      generalize hw2 : ((w1.setCell ⟨w.heap.size + 1, 0, none⟩ (.int .i64 1)).setCell ⟨w.heap.size + 1, 1, none⟩ (.string (s.extract 0 ln))).drew = w2 at *
      clear hw2 t0 t1 t2 t3 t4 ft0 ft1 ft2 hT1 hR1 hb1
      obtain ⟨t0, t1, t2, t3, t4⟩ := hT2.c5
      obtain ⟨z0, z1, z2, z3, z4⟩ := hR2.c5
      have fr0 := hR2.frozen 0
      have fr1 := hR2.frozen 1
      have fr2 := hR2.frozen 2
      have fr3 := hR2.frozen 3
      have fr4 := hR2.frozen 4
      go_wp2_with fail
      obtain ⟨r0, r1, r2, r3, r4⟩ := (hR2.set5' (.int .i64 1) (.string (s.extract 0 ln)) (.int .i64 0) (.int .i64 1) (.int .i64 col)).c5
      refine bodyPost_ret (v := .tuple #[.agg #[.int .i64 1, .string (s.extract 0 ln), .int .i64 0, .int .i64 1, .int .i64 col], .int .i64 (ln : Int), .int .i64 0]) (by simp [results, Tryz.results117, go_sem, r0, r1, r2, r3, r4]) rfl ?_
      exact ⟨rfl, bset5' hb2 (Nat.le_refl _) _ _ _ _ _⟩
    | false =>
      rw [hl, if_neg (by simp)] at hx
      cases hdg : digB c with
      | true =>
        rw [hdg, if_pos rfl] at hx
        obtain ⟨dn, hdn⟩ : ∃ dn, lenP digB (c :: l) = dn := ⟨_, rfl⟩
        rw [hdn] at hx
        have hdl : dn ≤ s.size := by have := lenP_le digB (c :: l); rw [hdn, ← HD.out, lexSize] at this; exact this
        obtain ⟨hmap, hnext⟩ : (digV ((c :: l).take dn)).map (fun v => ((2 : Int), (⟨#[]⟩ : ByteArray), v, dn)) = some (k, t, n, len) ∧ (∀ h : dn < s.size, letB s[dn] = false ∧ (s[dn] == 95) = false) := by
          by_cases he : dn = s.size
          · rw [if_pos he] at hx
            exact ⟨hx, fun h => by omega⟩
          · rw [if_neg he] at hx
            have hlt : dn < s.size := by omega
            have h1 := lexDrop hlt
            rw [HD.out] at h1
            by_cases hq : badNext ((c :: l).drop dn) = true
            · rw [if_pos hq] at hx; cases hx
            · rw [if_neg hq] at hx
              rw [h1] at hq
              have hq : ¬ (letB s[dn] || s[dn] == 95) = true := hq
              rw [Bool.not_eq_true, Bool.or_eq_false_iff] at hq
              exact ⟨hx, fun _ => hq⟩
        obtain ⟨v, hv, hx2⟩ := Option.map_eq_some_iff.1 hmap
        injection hx2 with x1 hx2
        injection hx2 with x2 hx2
        injection hx2 with x3 x4
        subst x1 x2 x3 x4
        obtain ⟨hat, hv0, hv4⟩ := digV_ok hv
        have eg : ∀ args w, (callFunc 161 args).run Tryz.prog w = .ok (.enter 161 args) w := enters_of Tryz.func161 (by kernel_rfl) rfl
        have HLEN := Lib.hid (length_any 161 eg digB tokDigit_any s w1 (by omega))
        rw [HD.out, hdn] at HLEN
        have HC := Lib.hid (tokLetter_any c w1)
        rw [hl] at HC
        have HC2 := Lib.hid (tokDigit_any c w1)
        rw [hdg] at HC2
        have HNX := Lib.hid hnext
        have hsl : (s.extract 0 dn).data.toList = (c :: l).take dn := by rw [lexExt, HD.out]; rfl
        have hss : (s.extract 0 dn).size ≤ 16384 := by rw [ByteArray.size_extract]; omega
        have HAT := Lib.hid (Tryz.strconv_Atoi_ok (s.extract 0 dn) (by omega) v (by rw [hsl]; exact hat) w1)
        clear hl hdn eg hdg hx hmap hv hat hsl hnext
        have i1 : (0 : Int) ≤ (dn : Int) := by omega
        have i2 : (dn : Int) ≤ (s.size : Int) := by omega
        have i3 : ¬ (4503599627370496 : Int) < v := by omega
        go_wp2_with fail
        refine HC.out.mono ?_
        rintro e w2 ⟨rfl, rfl⟩
        go_wp2_with fail
        refine HC2.out.mono ?_
        rintro e w2 ⟨rfl, rfl⟩
        go_wp2_with fail
        refine HLEN.out.mono ?_
        rintro e w2 ⟨rfl, rfl⟩
        go_upto_region 14 with fail
        go_cut [86] from 62 to 86 (fun u W => u = .bool false ∧ w1 = W)
        case first =>
          by_cases he : dn < s.size
          · obtain ⟨b1, b2⟩ := HNX.out he
            have j1 : (dn : Int) < (s.size : Int) := by omega
            have HL2 := Lib.hid (tokLetter_any s[dn] w1)
            rw [b1] at HL2
            have b3 : ((s[dn].toNat : Int) == 95) = false := (u8_eq s[dn] 95 (by omega)).trans b2
            clear b1 b2
            go_wp2_with fail
            refine HL2.out.mono ?_
            rintro e w2 ⟨rfl, rfl⟩
            go_wp2_with fail
            go_meet
            exact ⟨rfl, rfl⟩
          · have j1 : ¬ (dn : Int) < (s.size : Int) := by omega
            go_wp2_with fail
            go_meet
            exact ⟨rfl, rfl⟩
        case rest =>
          obtain ⟨rfl, rfl⟩ := hcut
          go_wp2_with fail
          refine HAT.out.mono ?_
          rintro e w2 ⟨rfl, hw2⟩
          have hbA := lexBytes hw2
          have hb2 := hb1.trans (hbA.mono hb1.size)
          have hT2 := hT1.now hbA
          have hR2 := hR1.now hbA
          have hr2 := hr1.now hbA
          clear hw2 hbA hb1 hT1 hR1 hr1 c0 c1 c2
          obtain ⟨c0, c1, c2⟩ := hr2.c3
          obtain ⟨t0, t1, t2, t3, t4⟩ := hT2.c5
          have ft0 := hT2.frozen 0
          have ft1 := hT2.frozen 1
          have ft2 := hT2.frozen 2
          go_upto_region 20 with fail
          have hT3 : Blk ((w2.setCell ⟨w.heap.size + 1, 0, none⟩ (.int .i64 2)).setCell ⟨w.heap.size + 1, 2, none⟩ (.int .i64 v)) (w.heap.size + 1) 117 #[.int .i64 2, .string ⟨#[]⟩, .int .i64 v, .int .i64 1, .int .i64 col] := ((hT2.set_ 0 (.int .i64 2)).set_ 2 (.int .i64 v))
          have hR3 := ((hR2.far (p := ⟨w.heap.size + 1, 0, none⟩) (show w.heap.size ≠ w.heap.size + 1 by omega) (.int .i64 2)).far (p := ⟨w.heap.size + 1, 2, none⟩) (show w.heap.size ≠ w.heap.size + 1 by omega) (.int .i64 v))
          have hb3 := ((hb2.setCell (p := ⟨w.heap.size + 1, 0, none⟩) (show w.heap.size ≤ w.heap.size + 1 by omega) (.int .i64 2)).setCell (p := ⟨w.heap.size + 1, 2, none⟩) (show w.heap.size ≤ w.heap.size + 1 by omega) (.int .i64 v))
          generalize hw3 : ((w2.setCell ⟨w.heap.size + 1, 0, none⟩ (.int .i64 2)).setCell ⟨w.heap.size + 1, 2, none⟩ (.int .i64 v)) = w3 at *
          clear hw3 t0 t1 t2 t3 t4 ft0 ft1 ft2 hT2 hR2 hb2
          obtain ⟨t0, t1, t2, t3, t4⟩ := hT3.c5
          obtain ⟨z0, z1, z2, z3, z4⟩ := hR3.c5
          have fr0 := hR3.frozen 0
          have fr1 := hR3.frozen 1
          have fr2 := hR3.frozen 2
          have fr3 := hR3.frozen 3
          have fr4 := hR3.frozen 4
          go_wp2_with fail
          obtain ⟨r0, r1, r2, r3, r4⟩ := (hR3.set5' (.int .i64 2) (.string ⟨#[]⟩) (.int .i64 v) (.int .i64 1) (.int .i64 col)).c5
          refine bodyPost_ret (v := .tuple #[.agg #[.int .i64 2, .string ⟨#[]⟩, .int .i64 v, .int .i64 1, .int .i64 col], .int .i64 (dn : Int), .int .i64 0]) (by simp [results, Tryz.results117, go_sem, r0, r1, r2, r3, r4]) rfl ?_
          exact ⟨rfl, bset5' hb3 (Nat.le_refl _) _ _ _ _ _⟩
      | false =>
        rw [hdg, if_neg (by simp)] at hx
        by_cases h34 : c = 34
        · rw [if_pos h34] at hx; cases hx
        rw [if_neg h34] at hx
        obtain ⟨x, hsy, hx2⟩ := Option.map_eq_some_iff.1 hx
        injection hx2 with x1 hx2
        injection hx2 with x2 hx2
        injection hx2 with x3 x4
        subst x1 x2 x3 x4
        have HC := Lib.hid (tokLetter_any c w1)
        rw [hl] at HC
        have HC2 := Lib.hid (tokDigit_any c w1)
        rw [hdg] at HC2
        have hsb := symbol_any s w1
        rw [HD.out, hsy] at hsb
        have HSB := Lib.hid hsb
        have b3 : ((c.toNat : Int) == 34) = false := (u8_eq c 34 (by omega)).trans (by simpa using h34)
        have hxs : x.size ≤ 2 := by
          have h1 := List.mem_of_find?_eq_some hsy
          have h2 : ∀ y ∈ symL, y.size ≤ 2 := by decide
          exact h2 x h1
        clear hl hdg hx h34 hsy hsb
        go_wp2_with fail
        refine HC.out.mono ?_
        rintro e w2 ⟨rfl, rfl⟩
        go_wp2_with fail
        refine HC2.out.mono ?_
        rintro e w2 ⟨rfl, rfl⟩
        go_wp2_with fail
        refine HSB.out.mono ?_
        rintro e w2 ⟨rfl, hbA⟩
        have hb2 := hb1.trans (hbA.mono hb1.size)
        have hT2 := hT1.now hbA
        have hR2 := hR1.now hbA
        have hr2 := hr1.now hbA
        clear hbA hb1 hT1 hR1 hr1 c0 c1 c2
        obtain ⟨c0, c1, c2⟩ := hr2.c3
        obtain ⟨t0, t1, t2, t3, t4⟩ := hT2.c5
        have ft0 := hT2.frozen 0
        have ft1 := hT2.frozen 1
        have ft2 := hT2.frozen 2
        go_upto_region 32 with fail
        have hT3 : Blk ((w2.setCell ⟨w.heap.size + 1, 0, none⟩ (.int .i64 4)).setCell ⟨w.heap.size + 1, 1, none⟩ (.string x)) (w.heap.size + 1) 117 #[.int .i64 4, .string x, .int .i64 0, .int .i64 1, .int .i64 col] := ((hT2.set_ 0 (.int .i64 4)).set_ 1 (.string x))
        have hR3 := ((hR2.far (p := ⟨w.heap.size + 1, 0, none⟩) (show w.heap.size ≠ w.heap.size + 1 by omega) (.int .i64 4)).far (p := ⟨w.heap.size + 1, 1, none⟩) (show w.heap.size ≠ w.heap.size + 1 by omega) (.string x))
        have hb3 := ((hb2.setCell (p := ⟨w.heap.size + 1, 0, none⟩) (show w.heap.size ≤ w.heap.size + 1 by omega) (.int .i64 4)).setCell (p := ⟨w.heap.size + 1, 1, none⟩) (show w.heap.size ≤ w.heap.size + 1 by omega) (.string x))
        generalize hw3 : ((w2.setCell ⟨w.heap.size + 1, 0, none⟩ (.int .i64 4)).setCell ⟨w.heap.size + 1, 1, none⟩ (.string x)) = w3 at *
        clear hw3 t0 t1 t2 t3 t4 ft0 ft1 ft2 hT2 hR2 hb2
        obtain ⟨t0, t1, t2, t3, t4⟩ := hT3.c5
        obtain ⟨z0, z1, z2, z3, z4⟩ := hR3.c5
        have fr0 := hR3.frozen 0
        have fr1 := hR3.frozen 1
        have fr2 := hR3.frozen 2
        have fr3 := hR3.frozen 3
        have fr4 := hR3.frozen 4
        go_wp2_with fail
        obtain ⟨r0, r1, r2, r3, r4⟩ := (hR3.set5' (.int .i64 4) (.string x) (.int .i64 0) (.int .i64 1) (.int .i64 col)).c5
        refine bodyPost_ret (v := .tuple #[.agg #[.int .i64 4, .string x, .int .i64 0, .int .i64 1, .int .i64 col], .int .i64 (x.size : Int), .int .i64 0]) (by simp [results, Tryz.results117, go_sem, r0, r1, r2, r3, r4]) rfl ?_
        exact ⟨rfl, bset5' hb3 (Nat.le_refl _) _ _ _ _ _⟩
end Go.Proofs.YtijmnenojbfdnaaGreatDoor

namespace Go.Proofs.YtijmnenojbfdnaaGreatDoor
open Go.RowKit
def tokV (x : Tok) : List Value := [.int .i64 x.kind, .string x.text, .int .i64 x.n, .int .i64 1, .int .i64 x.col]
theorem tokV_len (x : Tok) : (tokV x).length = 5 := rfl
theorem tokV_one (x : Tok) : ∀ u ∈ tokV x, u.oneCell' = true := by
  intro u hu
  unfold tokV at hu
  simp only [List.mem_cons, List.not_mem_nil, or_false] at hu
  rcases hu with rfl | rfl | rfl | rfl | rfl <;> rfl
def RTok : ElemR Tok := fun _ _ x cs => cs = tokV x
theorem RTok.kept : ElemR.Kept RTok := fun _ _ _ _ _ _ _ _ h => h
def SlTk := Sl 5 RTok
theorem appTok : AppInfo Tryz.prog 107 117 5 := AppInfo.mk' (z := .agg #[.int .i64 0, .string ⟨#[]⟩, .int .i64 0, .int .i64 0, .int .i64 0]) (bytes := 48) Tryz.underlying107 (by kernel_rfl) (by omega) rfl (by omega)
theorem lexB_step {f : Nat} {s : ByteArray} {col : Int} {toks : List Tok} (h : lexB f s col = some toks) : ∃ f' k t n len, f = f' + 1 ∧ plainBlank s.data.toList = true ∧ nextB (s.extract (lenP (· == 32) s.data.toList) s.size) = some (k, t, n, len) ∧
    ((k = 5 ∧ toks = [⟨k, t, n, col + (lenP (· == 32) s.data.toList : Nat)⟩]) ∨ (k ≠ 5 ∧ len ≤ s.size - lenP (· == 32) s.data.toList ∧ ((s.data.toList.drop (lenP (· == 32) s.data.toList)).take len).all (· != 10) = true ∧
      ∃ rest, toks = ⟨k, t, n, col + (lenP (· == 32) s.data.toList : Nat)⟩ :: rest ∧ lexB f' (s.extract (lenP (· == 32) s.data.toList + len) s.size) (col + (lenP (· == 32) s.data.toList : Nat) + len) = some rest)) := by
  cases f with
  | zero => cases h
  | succ f =>
    unfold lexB at h
    by_cases hp : plainBlank s.data.toList = true
    rotate_left
    · rw [if_neg hp] at h; cases h
    rw [if_pos hp] at h
    generalize lenP (· == 32) s.data.toList = nb at *
    cases hn : nextB (s.extract nb s.size) with
    | none => rw [hn] at h; cases h
    | some r =>
      obtain ⟨k, t, n, len⟩ := r
      rw [hn] at h
      dsimp only at h
      refine ⟨f, k, t, n, len, rfl, hp, rfl, ?_⟩
      by_cases hk : k = 5
      · rw [if_pos hk] at h
        injection h with h
        exact .inl ⟨hk, h.symm⟩
      · rw [if_neg hk] at h
        by_cases hc : len ≤ s.size - nb ∧ ((s.data.toList.drop nb).take len).all (· != 10) = true
        · rw [if_pos hc] at h
          obtain ⟨rest, h1, h2⟩ := Option.map_eq_some_iff.1 h
          exact .inr ⟨hk, hc.1, hc.2, rest, h2.symm, h1⟩
        · rw [if_neg hc] at h; cases h
set_option maxHeartbeats 8000000 in
set_option maxRecDepth 100000 in
theorem tokens_any (s : ByteArray) (w : World) (hs : s.size ≤ 16384) (F : Nat) (toks : List Tok) (hF : F ≤ 100) (hx : lexB F s 1 = some toks) :
    Calls Tryz.prog 73 #[.string s] w fun e w' => ∃ A c, e = .returned (.tuple #[.slice A toks.length c, .agg #[.int .i64 0, .int .i64 0], .int .i64 0]) ∧ SlTk (Lt w'.heap.size) w' (.slice A toks.length c) toks ∧ Below w.heap.size w w' := by
  have HX := Lib.hid hx
  clear hx
  have hb1 := bbox (bone w (.cells #[.int .i64 0, .int .i64 0] 74)) (.cells #[.string s, .int .i64 1, .int .i64 1] 152)
  have hP1 := (Blk.new w 74 #[.int .i64 0, .int .i64 0]).alloc (.cells #[.string s, .int .i64 1, .int .i64 1] 152)
  have hr1 : IsRd ((w.alloc (.cells #[.int .i64 0, .int .i64 0] 74)).alloc (.cells #[.string s, .int .i64 1, .int .i64 1] 152)) (w.heap.size + 1) s 1 := Blk.new_at (t := 152) (cs := #[.string s, .int .i64 1, .int .i64 1]) (w := w.alloc (.cells #[.int .i64 0, .int .i64 0] 74)) (s := w.heap.size + 1) (World.size_alloc _ _)
  have hsz1 : w.heap.size + 2 ≤ ((w.alloc (.cells #[.int .i64 0, .int .i64 0] 74)).alloc (.cells #[.string s, .int .i64 1, .int .i64 1] 152)).heap.size := by rw [World.size_alloc, World.size_alloc]; omega
  go_enter Tryz.func73, Tryz.ntmps73
  go_upto_region 4 with fail
  generalize hw1 : ((w.alloc (.cells #[.int .i64 0, .int .i64 0] 74)).alloc (.cells #[.string s, .int .i64 1, .int .i64 1] 152)) = w1 at *
  clear hw1
  go_wp2_with fail
  go_loopg [6] F (fun gg ov wr => ∃ (f : Nat) (done rest : List Tok) (s' : ByteArray) (col : Int) (sv : Value), sv = ov ∧ f ≤ gg ∧ done.length + f ≤ F ∧ Hid (lexB f s' col = some rest) ∧ Hid (toks = done ++ rest) ∧ s'.size ≤ s.size ∧ 0 ≤ col ∧ col + s'.size = 1 + s.size ∧
    OwnW 5 tokV wr (w.heap.size + 2) 117 sv done ∧ IsRd wr (w.heap.size + 1) s' col ∧ Blk wr w.heap.size 74 #[.int .i64 0, .int .i64 0] ∧ Below w.heap.size w wr ∧ w.heap.size + 2 ≤ wr.heap.size)
  case atStart => exact ⟨F, [], toks, s, 1, _, rfl, Nat.le_refl _, by simp, HX.out, rfl, Nat.le_refl _, by omega, by omega, OwnW.nil, hr1, hP1, hb1, hsz1⟩
  case round =>
    obtain ⟨f, done, rest, s', col, sv, rfl, hfg, hdf, HL, HT, hss, hc0, hcs, hown, hrd, hP, hbr, hszr⟩ := hrel
    clear hr1 hP1 hb1 hsz1
    have hnb : ∀ g, sv.ownBlock = some g → w.heap.size + 2 ≤ g := fun g e => (World.ownsRow.lt hown g e).1
    obtain ⟨f', k, t, n, len, rfl, hpb, hnx, hcase⟩ := lexB_step HL.out
    have hnl : lenP (· == 32) s'.data.toList ≤ s'.size := by rw [← lexSize]; exact lenP_le _ _
    have hbl := blanks_any (w.heap.size + 1) s' col wr (by omega) (by omega) hpb hrd
    have HSK := Lib.hid (fun k (hk : lenP (· == 32) s'.data.toList + k ≤ s'.size) => lexExtExt s' hk)
    have HEL := Lib.hid (lexExtList s' (lenP (· == 32) s'.data.toList))
    have hes := lexExtSize s' hnl
    have HCS := Lib.hid hcase
    have HNX := Lib.hid hnx
    clear hcase hnx hpb HL
    generalize lenP (· == 32) s'.data.toList = nb at *
    have HBL := Lib.hid hbl
    clear hbl
    go_wp2_with fail
    refine HBL.out.mono ?_
    rintro e w2 ⟨rfl, hr2, hg2⟩
    have hown2 : OwnW 5 tokV w2 (w.heap.size + 2) 117 sv done := hown.kept hg2 (by
      cases e : sv.ownBlock with
      | none => exact .inl rfl
      | some g => exact .inr (fun e2 => by injection e2 with e2; have := hnb g e; omega))
    have hP2 := hP.grown hg2 (fun e => by injection e with e; omega)
    have hbr2 := hbr.trans (below_of_grown hg2 (Nat.le_trans (by omega) hszr) (fun g e => by injection e with e; omega))
    have hsz2 := Nat.le_trans hszr hg2.size
    have hnx := next_any (w.heap.size + 1) (s'.extract nb s'.size) (col + nb) w2 (by rw [hes]; omega) k n t len HNX.out hr2
    have HN := Lib.hid hnx
    clear hnx HNX HBL hown hP hbr hszr hrd hg2
    go_wp2_with fail
    refine HN.out.mono ?_
    rintro e w3 ⟨rfl, hb3⟩
    have hown3 := OwnW.now hown2 (hb3)
    have hnk : ∀ g, sv.ownBlock = some g → g < w3.heap.size := fun g e => (World.ownsRow.lt hown3 g e).2
    have hP3 := hP2.now hb3
    have hr3 : IsRd w3 (w.heap.size + 1) (s'.extract nb s'.size) (col + nb) := Blk.now hr2 hb3
    have hbr3 := hbr2.trans (hb3.mono hbr2.size)
    have hsz3 := Nat.le_trans hsz2 hb3.size
    clear HN hown2 hP2 hbr2 hsz2 hr2 hb3
    have hb4 := bone w3 (.cells #[.int .i64 k, .string t, .int .i64 n, .int .i64 1, .int .i64 (col + nb)] 117)
    have hK4 := Blk.new w3 117 #[.int .i64 k, .string t, .int .i64 n, .int .i64 1, .int .i64 (col + nb)]
    have hown4 := OwnW.now hown3 hb4
    have hP4 := hP3.now hb4
    have hr4 : IsRd (w3.alloc (.cells #[.int .i64 k, .string t, .int .i64 n, .int .i64 1, .int .i64 (col + nb)] 117)) (w.heap.size + 1) (s'.extract nb s'.size) (col + nb) := Blk.now hr3 hb4
    have hbr4 := hbr3.trans (hb4.mono hbr3.size)
    have hsz4 := Nat.le_trans hsz3 hb4.size
    go_upto_region 7 with fail
    generalize hw4 : w3.alloc (.cells #[.int .i64 k, .string t, .int .i64 n, .int .i64 1, .int .i64 (col + nb)] 117) = w4 at *
    clear hw4 hown3 hP3 hr3 hbr3 hb4
    have hKlt : w3.heap.size < w4.heap.size := hK4.lt
    obtain ⟨k0, k1, k2, k3, k4⟩ := hK4.c5
    generalize hkb : w3.heap.size = kb at *
    clear hkb
    have f0 := hP4.frozen 0
    have f1 := hP4.frozen 1
    obtain ⟨p0, p1⟩ := hP4.c2
    rcases HCS.out with ⟨hk5, hrest⟩ | ⟨hk5, hlen, hall, rest', hrest, hrec⟩
    · subst hk5
      have HTK : Hid (toks = done ++ [⟨5, t, n, col + nb⟩]) := by show _ = _; rw [HT.out, hrest]
      clear hrest HCS HT HSK
      go_wp2_with (at_builtin; refine wpList_pushW (fc := tokV) appTok rfl (.tmp 45) (.tmp 47) rfl w4 ⟨5, t, n, col + nb⟩ done (tokV_len _) (tokV_one _) _ rfl hown4 rfl (by omega) hsz4 ?_; intro v' w' hown' hgr hat; generalize hW : @wpList = WL)
      subst hW
      have hKg := hK4.grown hgr (fun e => by have := hnk kb e.symm; omega)
      have hP5 := hP4.grown hgr (fun e => by have := hnb _ e.symm; omega)
      have hr5 : IsRd w' (w.heap.size + 1) (s'.extract nb s'.size) (col + nb) := Blk.grown hr4 hgr (fun e => by have := hnb _ e.symm; omega)
      have hbr5 : Below w.heap.size w w' := hbr4.trans (below_of_grown hgr (by omega) (fun g e => by have := hnb g e; omega))
      have hsz5 := Nat.le_trans hsz4 hgr.size
      obtain ⟨g', cap', rfl, _, hgf, _⟩ := OwnW.form hown' (by simp)
      clear k0 k1 k2 k3 k4 p0 p1 f0 f1 hK4 hown4 hP4 hr4 hbr4 hsz4 hgr hat
      obtain ⟨k0, k1, k2, k3, k4⟩ := hKg.c5
      rw [← HTK.out] at hown' ⊢
      obtain ⟨p0, p1⟩ := hP5.c2
      have f0 := hP5.frozen 0
      have f1 := hP5.frozen 1
      go_wp2_with fail
      obtain ⟨r0, r1⟩ := ((hP5.set_ 0 (.int .i64 0)).set_ 1 (.int .i64 0)).c2
      refine bodyPost_ret (v := .tuple #[.slice (some ⟨g', 0, none⟩) toks.length cap', .agg #[.int .i64 0, .int .i64 0], .int .i64 0]) (by simp [results, Tryz.results73, go_sem, r0, r1]) rfl ?_
      have ho1 : OwnW 5 tokV (w'.setCell ⟨w.heap.size, 0, none⟩ (.int .i64 0)) (w.heap.size + 2) 117 _ toks := ownsRow_setCell_other (a := ⟨w.heap.size, 0, none⟩) hown' (fun e => by injection e with e; have : w.heap.size = g' := e.symm; omega) _
      have ho2 : OwnW 5 tokV ((w'.setCell ⟨w.heap.size, 0, none⟩ (.int .i64 0)).setCell ⟨w.heap.size, 1, none⟩ (.int .i64 0)) (w.heap.size + 2) 117 _ toks := ownsRow_setCell_other (a := ⟨w.heap.size, 1, none⟩) ho1 (fun e => by injection e with e; have : w.heap.size = g' := e.symm; omega) _
      exact ⟨_, _, rfl, OwnW.sl ho2 tokV_len (fun _ _ _ _ => rfl), (hbr5.setCell (p := ⟨w.heap.size, 0, none⟩) (Nat.le_refl _) _).setCell (p := ⟨w.heap.size, 1, none⟩) (Nat.le_refl _) _⟩
    · have HTK : Hid (toks = (done ++ [⟨k, t, n, col + nb⟩]) ++ rest') := by show _ = _; rw [HT.out, hrest, List.append_assoc]; rfl
      have HREC : Hid (lexB f' ((s'.extract nb s'.size).extract len (s'.extract nb s'.size).size) (col + nb + len) = some rest') := by show _ = _; rw [HSK.out len (by omega)]; exact hrec
      have hall2 : ((s'.extract nb s'.size).data.toList.take len).all (· != 10) = true := by rw [HEL.out]; exact hall
      have HALL := Lib.hid hall2
      have b1 : (k != 5) = true := by simpa using hk5
      have b2 : (k == 5) = false := by simpa using hk5
      have b3 : ((done.length : Int) == 4000) = false := by rw [beq_eq_false_iff_ne]; omega
      have hes2 : ((s'.extract nb s'.size).extract len (s'.extract nb s'.size).size).size = s'.size - nb - len := by rw [lexExtSize _ (by rw [hes]; omega), hes]
      clear hrest HCS HT hrec hall hall2 hk5 HSK HEL
      obtain ⟨se, hse⟩ : ∃ se, s'.extract nb s'.size = se := ⟨_, rfl⟩
      rw [hse] at hr4 HREC HALL hes hes2
      clear hse
      have hsvf : ∃ A c, sv = .slice A done.length c := by
        rcases hown4.2 with ⟨e, e0⟩ | ⟨g, c, cur, e, _⟩
        · exact ⟨none, 0, by rw [e, e0]⟩
        · exact ⟨_, _, e⟩
      obtain ⟨Asv, csv, rfl⟩ := hsvf
      go_wp2_with (at_builtin; refine wpList_pushW (fc := tokV) appTok rfl (.tmp 45) (.tmp 47) rfl w4 ⟨k, t, n, col + nb⟩ done (tokV_len _) (tokV_one _) _ rfl hown4 rfl (by omega) hsz4 ?_; intro v' w' hown' hgr hat; generalize hW : @wpList = WL)
      subst hW
      have hKg := hK4.grown hgr (fun e => by have := hnk kb e.symm; omega)
      have hP5 := hP4.grown hgr (fun e => by have := hnb _ e.symm; omega)
      have hr5 : IsRd w' (w.heap.size + 1) se (col + nb) := Blk.grown hr4 hgr (fun e => by have := hnb _ e.symm; omega)
      have hbr5 : Below w.heap.size w w' := hbr4.trans (below_of_grown hgr (by omega) (fun g e => by have := hnb g e; omega))
      have hsz5 := Nat.le_trans hsz4 hgr.size
      obtain ⟨g', cap', rfl, _, hgf, _⟩ := OwnW.form hown' (by simp)
      clear k0 k1 k2 k3 k4 p0 p1 f0 f1 hK4 hown4 hP4 hr4 hbr4 hsz4 hgr hat
      obtain ⟨k0, k1, k2, k3, k4⟩ := hKg.c5
      have hsk := skip_any (w.heap.size + 1) len se (col + nb) w' (by omega) (by omega) HALL.out (by omega) hr5
      have HSKP := Lib.hid hsk
      clear hsk
      go_wp2_with fail
      refine HSKP.out.mono ?_
      rintro e w6 ⟨rfl, hr6, hg6⟩
      have hown6 : OwnW 5 tokV w6 (w.heap.size + 2) 117 _ (done ++ [⟨k, t, n, col + nb⟩]) := hown'.kept hg6 (.inr (fun e => by injection e with e; have : g' = w.heap.size + 1 := e; omega))
      have hP6 := hP5.grown hg6 (fun e => by injection e with e; omega)
      have hbr6 := hbr5.trans (below_of_grown hg6 (by omega) (fun g e => by injection e with e; omega))
      have hsz6 := Nat.le_trans hsz5 hg6.size
      clear hown' hP5 hbr5 hsz5 hr5 hg6 HSKP k0 k1 k2 k3 k4 hKg
      go_wp2_with fail
      go_roundg f'
      case rel =>
        have hl1 : (done ++ [(⟨k, t, n, col + nb⟩ : Tok)]).length = done.length + 1 := by simp
        rw [hl1] at hown6
        exact ⟨f', done ++ [(⟨k, t, n, col + nb⟩ : Tok)], rest', _, _, _, rfl, Nat.le_refl _, by simp; omega, HREC.out, HTK.out, by omega, by omega, by omega, hown6, hr6, hP6, hbr6, hsz6⟩
      case measure => omega
end Go.Proofs.YtijmnenojbfdnaaGreatDoor

namespace Go.Proofs.YtijmnenojbfdnaaGreatDoor
open Go.RowKit
theorem SlTk.at_ {D : Nat → Prop} {w : World} {A : Option Addr} {n c k : Nat} {L : List Tok} (h : SlTk D w (.slice A n c) L) (hk : k < n) :
    ∃ b o x, A = some ⟨b, o, none⟩ ∧ D b ∧ L[k]? = some x ∧ w.cell? ⟨b, o + k * 5, none⟩ = some (.int .i64 x.kind) ∧ w.cell? ⟨b, o + k * 5 + 1, none⟩ = some (.string x.text) ∧ w.cell? ⟨b, o + k * 5 + 2, none⟩ = some (.int .i64 x.n) ∧ w.cell? ⟨b, o + k * 5 + 3, none⟩ = some (.int .i64 1) ∧ w.cell? ⟨b, o + k * 5 + 4, none⟩ = some (.int .i64 x.col) := by
  obtain ⟨A', c', hv, h1, h2, h3⟩ := h
  injection hv with hA hn hc
  subst hA hn hc
  obtain ⟨b, o, cs, hA, hD, hl, hr, hcell⟩ := h3 k L[k] (List.getElem?_eq_getElem hk)
  have hr : cs = tokV L[k] := hr
  subst hr
  exact ⟨b, o, L[k], hA, hD, List.getElem?_eq_getElem hk, hcell 0 _ rfl, hcell 1 _ rfl, hcell 2 _ rfl, hcell 3 _ rfl, hcell 4 _ rfl⟩
def IsPs (w : World) (g : Nat) (A : Option Addr) (c : Nat) (L : List Tok) (i : Nat) : Prop := Blk w g 114 #[.slice A L.length c, .int .i64 (i : Int), .bool false]
set_option maxHeartbeats 2000000 in
set_option maxRecDepth 100000 in
theorem is_any (g : Nat) (A : Option Addr) (c : Nat) (L : List Tok) (i : Nat) (s : ByteArray) (w : World) (hi : i < L.length) (D : Nat → Prop) (hl : SlTk D w (.slice A L.length c) L) (h : IsPs w g A c L i) :
    Calls Tryz.prog 166 #[.pointer (some ⟨g, 0, none⟩), .string s] w fun e w' => e = .returned (.bool (isB L i s)) ∧ Below w.heap.size w w' := by
  have h' : Blk w g 114 #[.slice A L.length c, .int .i64 (i : Int), .bool false] := h
  obtain ⟨c0, c1, c2⟩ := h'.c3
  obtain ⟨b, o, t, rfl, _, hx, t0, t1, t2, t3, t4⟩ := SlTk.at_ hl hi
  have HB : Hid (isB L i s = (decide (t.text = s) && (decide (t.kind = 4) || decide (t.kind = 1)))) := by show _ = _; unfold isB; rw [hx]
  have i1 : (0 : Int) ≤ (i : Int) := by omega
  have i2 : (i : Int) < (L.length : Int) := by omega
  have hb := bone w (.cells #[.int .i64 t.kind, .string t.text, .int .i64 t.n, .int .i64 1, .int .i64 t.col] 117)
  have hK := Blk.new w 117 #[.int .i64 t.kind, .string t.text, .int .i64 t.n, .int .i64 1, .int .i64 t.col]
  have hP := h'.now hb
  have hb0 := bone w (.cells #[.int .i64 0, .string ⟨#[]⟩, .int .i64 0, .int .i64 0, .int .i64 0] 117)
  obtain ⟨z0, z1, z2⟩ := (h'.now hb0).c3
  have hbl : b < w.heap.size := World.block_lt_of_cell? _ _ t0
  have y0 := (hb0.cell (p := ⟨b, o + i * 5, none⟩) hbl).trans t0
  have y1 := (hb0.cell (p := ⟨b, o + i * 5 + 1, none⟩) hbl).trans t1
  have y2 := (hb0.cell (p := ⟨b, o + i * 5 + 2, none⟩) hbl).trans t2
  have y3 := (hb0.cell (p := ⟨b, o + i * 5 + 3, none⟩) hbl).trans t3
  have y4 := (hb0.cell (p := ⟨b, o + i * 5 + 4, none⟩) hbl).trans t4
  clear hx hl h
  go_enter Tryz.func166, Tryz.ntmps166
  go_upto_region 1 with fail
  go_region
  have hbd := hb.drew
  obtain ⟨k0, k1, k2, k3, k4⟩ := hK.drew.c5
  obtain ⟨p0, p1, p2⟩ := hP.drew.c3
  generalize hw1 : (w.alloc (.cells #[.int .i64 t.kind, .string t.text, .int .i64 t.n, .int .i64 1, .int .i64 t.col] 117)).drew = w1 at *
  clear hw1 c0 c1 c2 t0 t1 t2 t3 t4 z0 z1 z2 y0 y1 y2 y3 y4 hK hP hb hb0
  by_cases he : t.text = s
  · subst he
    by_cases h4 : t.kind = 4
    · have d4 : (t.kind == 4) = true := by simpa using h4
      have HR : Hid (isB L i t.text = true) := by show _ = _; rw [HB.out]; simp [h4]
      clear h4
      go_wp2_with fail
      go_ret
      exact ⟨ret_bool HR.out.symm, hbd⟩
    · have d4 : (t.kind == 4) = false := by simpa using h4
      by_cases h1 : t.kind = 1
      · have d1 : (t.kind == 1) = true := by simpa using h1
        have HR : Hid (isB L i t.text = true) := by show _ = _; rw [HB.out]; simp [h1]
        clear h4 h1
        go_wp2_with fail
        go_ret
        exact ⟨ret_bool HR.out.symm, hbd⟩
      · have d1 : (t.kind == 1) = false := by simpa using h1
        have HR : Hid (isB L i t.text = false) := by show _ = _; rw [HB.out]; simp [h1, h4]
        clear h4 h1
        go_wp2_with fail
        go_ret
        exact ⟨ret_bool HR.out.symm, hbd⟩
  · have HR : Hid (isB L i s = false) := by show _ = _; rw [HB.out]; simp [he]
    have he2 : ¬ t.text.toList = s.toList := fun h => he (by
      apply ByteArray.ext
      apply Array.ext'
      rw [← lexEmpty, ← lexEmpty, h])
    go_wp2_with fail
    go_ret
    exact ⟨ret_bool HR.out.symm, hbd⟩
theorem IsPs.now {w w' : World} {g c i : Nat} {A : Option Addr} {L : List Tok} (h : IsPs w g A c L i) (hb : Below w.heap.size w w') : IsPs w' g A c L i := Blk.now h hb
set_option maxHeartbeats 2000000 in
set_option maxRecDepth 100000 in
theorem take_any (g : Nat) (A : Option Addr) (c : Nat) (L : List Tok) (i : Nat) (s : ByteArray) (w : World) (hi : i < L.length) (D : Nat → Prop) (hl : SlTk D w (.slice A L.length c) L) (hL : L.length ≤ 1000) (h : IsPs w g A c L i) :
    Calls Tryz.prog 119 #[.pointer (some ⟨g, 0, none⟩), .string s] w fun e w' => e = .returned (.bool (isB L i s)) ∧ IsPs w' g A c L (if isB L i s then i + 1 else i) ∧ w.grownBy w' (some g) := by
  have HI := Lib.hid (is_any g A c L i s w hi D hl h)
  obtain ⟨q, hq⟩ : ∃ q, isB L i s = q := ⟨_, rfl⟩
  rw [hq] at HI
  rw [hq]
  clear hq hl
  go_enter Tryz.func119, Tryz.ntmps119
  go_wp2_with fail
  refine HI.out.mono ?_
  rintro e w1 ⟨rfl, hb⟩
  have h1 : Blk w1 g 114 #[.slice A L.length c, .int .i64 (i : Int), .bool false] := IsPs.now h hb
  have hg1 := grown_of_below hb (some g)
  obtain ⟨c0, c1, c2⟩ := h1.c3
  have f1 := h1.frozen 1
  cases q
  · go_wp2_with fail
    go_ret
    exact ⟨rfl, h1, hg1⟩
  · go_wp2_with fail
    go_ret
    refine ⟨rfl, ?_, lexGrownT hg1 (lexGrownS _ _ _ _)⟩
    have e : ((i + 1 : Nat) : Int) = (i : Int) + 1 := by omega
    unfold IsPs
    rw [e]
    exact h1.set_ 1 _
set_option maxHeartbeats 2000000 in
theorem need_any (g : Nat) (A : Option Addr) (c : Nat) (L : List Tok) (i : Nat) (s : ByteArray) (w : World) (hi : i < L.length) (D : Nat → Prop) (hl : SlTk D w (.slice A L.length c) L) (hL : L.length ≤ 1000) (h : IsPs w g A c L i) (hq : isB L i s = true) :
    Calls Tryz.prog 120 #[.pointer (some ⟨g, 0, none⟩), .string s] w fun e w' => e = .returned (.tuple #[]) ∧ IsPs w' g A c L (i + 1) ∧ w.grownBy w' (some g) := by
  have ht := take_any g A c L i s w hi D hl hL h
  rw [hq] at ht
  have HT := Lib.hid ht
  clear ht hq hl
  go_enter Tryz.func120, Tryz.ntmps120
  go_wp2_with fail
  refine HT.out.mono ?_
  rintro e w1 ⟨rfl, h1, hg1⟩
  go_wp2_with fail
  go_end0
  exact ⟨rfl, h1, hg1⟩
theorem sign_any (k : Nat) (s : ByteArray) (w : World) (h : signL[k]? = some s) :
    Calls Tryz.prog 95 #[.int .i64 ((k + 4 : Nat) : Int)] w fun e w' => e = .returned (.string s) ∧ w = w' := by
  match k, h with
  | 0, h => injection h with h; subst h; go_enter Tryz.func95, Tryz.ntmps95; go_wp2_with fail; go_ret; exact ⟨rfl, rfl⟩
  | 1, h => injection h with h; subst h; go_enter Tryz.func95, Tryz.ntmps95; go_wp2_with fail; go_ret; exact ⟨rfl, rfl⟩
  | 2, h => injection h with h; subst h; go_enter Tryz.func95, Tryz.ntmps95; go_wp2_with fail; go_ret; exact ⟨rfl, rfl⟩
  | 3, h => injection h with h; subst h; go_enter Tryz.func95, Tryz.ntmps95; go_wp2_with fail; go_ret; exact ⟨rfl, rfl⟩
  | 4, h => injection h with h; subst h; go_enter Tryz.func95, Tryz.ntmps95; go_wp2_with fail; go_ret; exact ⟨rfl, rfl⟩
  | 5, h => injection h with h; subst h; go_enter Tryz.func95, Tryz.ntmps95; go_wp2_with fail; go_ret; exact ⟨rfl, rfl⟩
  | 6, h => injection h with h; subst h; go_enter Tryz.func95, Tryz.ntmps95; go_wp2_with fail; go_ret; exact ⟨rfl, rfl⟩
  | 7, h => injection h with h; subst h; go_enter Tryz.func95, Tryz.ntmps95; go_wp2_with fail; go_ret; exact ⟨rfl, rfl⟩
  | k + 8, h => simp [signL] at h
set_option maxHeartbeats 2000000 in
theorem level_any (k : Nat) (w : World) (h : k ≤ 13) :
    Calls Tryz.prog 91 #[.int .i64 (k : Int)] w fun e w' => e = .returned (.int .i64 (levB k : Int)) ∧ w = w' := by
  match k, h with
  | 0, _ | 1, _ | 2, _ | 3, _ | 4, _ | 5, _ | 6, _ | 7, _ | 8, _ | 9, _ | 10, _ | 11, _ | 12, _ | 13, _ =>
    go_enter Tryz.func91, Tryz.ntmps91
    go_wp2_with fail
    go_ret
    exact ⟨rfl, rfl⟩
  | k + 14, h => omega
theorem opB_at {L : List Tok} {i k : Nat} {s : ByteArray} (h0 : isB L i kIn = false) (hs : signL[k]? = some s) (hn : ∀ j y, j < k → signL[j]? = some y → isB L i y = false) (hq : isB L i s = true) : opB L i = k + 4 := by
  have hf : signL.findIdx? (isB L i) = some k := by
    rw [List.findIdx?_eq_some_iff_getElem]
    have hk : k < signL.length := (List.getElem?_eq_some_iff.1 hs).1
    refine ⟨hk, ?_, fun j hj => ?_⟩
    · have : signL[k] = s := (List.getElem?_eq_some_iff.1 hs).2
      rw [this]; exact hq
    · have := hn j _ hj (List.getElem?_eq_getElem (by omega))
      simpa using this
  unfold opB
  rw [h0, hf]
  rfl
theorem opB_none {L : List Tok} {i : Nat} (h0 : isB L i kIn = false) (hn : ∀ j y, j < 8 → signL[j]? = some y → isB L i y = false) : opB L i = 0 := by
  have hf : signL.findIdx? (isB L i) = none := by
    rw [List.findIdx?_eq_none_iff]
    intro x hx
    obtain ⟨j, hj, rfl⟩ := List.mem_iff_getElem.1 hx
    exact hn j _ hj (List.getElem?_eq_getElem hj)
  unfold opB
  rw [h0, hf]
  rfl
set_option maxHeartbeats 2000000 in
set_option maxRecDepth 100000 in
theorem operator_any (g : Nat) (A : Option Addr) (c : Nat) (L : List Tok) (i : Nat) (w : World) (hi : i < L.length) (B : Nat) (hB : B ≤ w.heap.size) (hl : SlTk (Lt B) w (.slice A L.length c) L) (h : IsPs w g A c L i) :
    Calls Tryz.prog 123 #[.pointer (some ⟨g, 0, none⟩)] w fun e w' => e = .returned (.int .i64 (opB L i : Int)) ∧ Below w.heap.size w w' := by
  have HIS := Lib.hid (fun s W (hb : Below w.heap.size w W) => is_any g A c L i s W hi (Lt B) (Sl.below hl RTok.kept (hb.mono hB) (Nat.le_refl _)) (IsPs.now h hb))
  obtain ⟨q, hq⟩ : ∃ q, isB L i kIn = q := ⟨_, rfl⟩
  have HQ := Lib.hid hq
  have h0 := HIS.out kIn w (Below.refl _ _)
  rw [hq] at h0
  have H0 := Lib.hid h0
  clear hq h0 hl h
  unfold kIn at H0
  go_enter Tryz.func123, Tryz.ntmps123
  go_wp2_with fail
  refine H0.out.mono ?_
  rintro e w1 ⟨rfl, hb1⟩
  cases q
  rotate_left
  · have HR : Hid (opB L i = 13) := by show _ = _; unfold opB; rw [HQ.out]; rfl
    go_wp2_with fail
    go_ret
    exact ⟨ret_int (by rw [HR.out]; rfl), hb1⟩
  go_wp2_with fail
  go_loopw [3] (fun ov wr => ∃ k : Nat, k ≤ 8 ∧ ov = .int .i64 ((k + 4 : Nat) : Int) ∧ Hid (∀ j y, j < k → signL[j]? = some y → isB L i y = false) ∧ Below w.heap.size w wr) (fun ov _ => 12 - (intOf ov).toNat)
  case atStart => exact ⟨0, Nat.zero_le _, rfl, (by show ∀ _ _, _; intro j y hj; omega), hb1⟩
  case round =>
    obtain ⟨k, hk, rfl, HN, hb⟩ := hrel
    by_cases hlt : k < 8
    · have hs : ∃ s, signL[k]? = some s := ⟨_, List.getElem?_eq_getElem (show k < signL.length from hlt)⟩
      obtain ⟨s, hs⟩ := hs
      have a1 : ((k + 4 : Nat) : Int) ≤ 11 := by omega
      have HS := Lib.hid (sign_any k s wr hs)
      have hss := HIS.out s wr hb
      obtain ⟨q, hq⟩ : ∃ q, isB L i s = q := ⟨_, rfl⟩
      rw [hq] at hss
      have HSS := Lib.hid hss
      have HQ2 := Lib.hid hq
      have HSG := Lib.hid hs
      clear hq hss hs
      obtain ⟨v, hv⟩ : ∃ v : Int, ((k + 4 : Nat) : Int) = v := ⟨_, rfl⟩
      rw [hv] at HS a1 ⊢
      have HV := Lib.hid hv
      have a3 : v + 1 = ((k + 1 + 4 : Nat) : Int) := by omega
      have HV3 := Lib.hid a3
      have a2 : 0 ≤ v := by omega
      clear hv a3
      go_wp2_with fail
      refine HS.out.mono ?_
      rintro e w2 ⟨rfl, rfl⟩
      go_wp2_with fail
      refine HSS.out.mono ?_
      rintro e w3 ⟨rfl, hb3⟩
      cases q
      · go_wp2_with fail
        go_roundw
        case rel =>
          refine ⟨k + 1, by omega, by rw [HV3.out], ?_, hb.trans (hb3.mono hb.size)⟩
          show ∀ _ _, _
          intro j y hj hy
          by_cases e : j = k
          · subst e
            rw [HSG.out] at hy
            injection hy with hy
            subst hy
            exact HQ2.out
          · exact HN.out j y (by omega) hy
        case measure => simp [intOf]; omega
      · have HR := Lib.hid (opB_at HQ.out HSG.out HN.out HQ2.out)
        go_wp2_with fail
        go_ret
        exact ⟨ret_int (by rw [HR.out]; exact HV.out.symm), hb.trans (hb3.mono hb.size)⟩
    · have hk8 : k = 8 := by omega
      subst hk8
      have HR := Lib.hid (opB_none HQ.out HN.out)
      go_wp2_with fail
      go_ret
      exact ⟨ret_int (by rw [HR.out]; rfl), hb⟩
end Go.Proofs.YtijmnenojbfdnaaGreatDoor
