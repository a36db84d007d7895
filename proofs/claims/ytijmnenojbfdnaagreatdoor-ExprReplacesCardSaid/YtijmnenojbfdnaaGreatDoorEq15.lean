/- Texts of this seat, merged. -/
import Derived.BigQuiet
import Derived.Deep.LoopGhost
import Derived.Test.YtijmnenojbfdnaaGreatDoorEq01
import Derived.Test.YtijmnenojbfdnaaGreatDoorEq02
import Derived.Test.YtijmnenojbfdnaaGreatDoorEq03
import Derived.Test.YtijmnenojbfdnaaGreatDoorEq04
import Derived.Test.YtijmnenojbfdnaaGreatDoorEq05
import Derived.Test.YtijmnenojbfdnaaGreatDoorEq06
import Derived.Test.YtijmnenojbfdnaaGreatDoorEq07
import Derived.Test.YtijmnenojbfdnaaGreatDoorEq08
import Derived.Test.YtijmnenojbfdnaaGreatDoorEq09
import Derived.Test.YtijmnenojbfdnaaGreatDoorEq10
import Derived.Test.YtijmnenojbfdnaaGreatDoorEq11
import Derived.Test.YtijmnenojbfdnaaGreatDoorEq12
import Derived.Test.YtijmnenojbfdnaaGreatDoorEq13
import Derived.Test.YtijmnenojbfdnaaGreatDoorEq14
set_option linter.unusedSimpArgs false
set_option linter.unusedVariables false
namespace Go.Proofs.YtijmnenojbfdnaaGreatDoor
open Go.RowKit
theorem cntL_nil (a d : Int) : cntL [] a d = a := by rw [cntL]
theorem cntL_cons (x : Ex) (l : List Ex) (a d : Int) : cntL (x :: l) a d = if cntX x a d < 0 then -1 else cntL l (cntX x a d) d := by rw [cntL]
theorem cnt_range : (∀ (x : Ex) (a d : Int), a ≤ 400 → cntX x a d < 0 ∨ cntX x a d ≤ 400) := fun x a d ha => by
  rcases Int.lt_or_le (cntX x a d) 0 with h | h
  · exact .inl h
  · have := (cntX_ok x a d ha h).2; exact .inr (by omega)
theorem cnt_low (x : Ex) (a d : Int) : cntX x a d < 0 → cntX x a d = -1 := by
  have key : (∀ x : Ex, ∀ a d, cntX x a d < 0 → cntX x a d = -1) := by
    intro x
    induction x using Ex.rec (motive_2 := fun l => ∀ a d, 0 ≤ a → cntL l a d < 0 → cntL l a d = -1) with
    | mk o v s l ih =>
      intro a d h
      rw [cntX] at h ⊢
      split
      · rfl
      · rename_i hc
        rw [if_neg hc] at h
        exact ih _ _ (by have : ¬ a ≤ 0 := fun e => hc (.inl e); omega) h
    | nil => rename_i a d ha h; rw [cntL_nil] at h ⊢; omega
    | cons x l ih1 ih2 =>
      rename_i a d ha h
      rw [cntL_cons] at h ⊢
      split
      · rfl
      · rename_i hc
        rw [if_neg hc] at h
        exact ih2 _ _ (by omega) h
  exact key x a d
theorem cntL_drop {l : List Ex} {k : Nat} {x : Ex} (hx : l[k]? = some x) (a d : Int) : cntL (l.drop k) a d = if cntX x a d < 0 then -1 else cntL (l.drop (k + 1)) (cntX x a d) d := by
  have hk : k < l.length := by
    rcases Nat.lt_or_ge k l.length with h | h
    · exact h
    · rw [List.getElem?_eq_none h] at hx; cases hx
  rw [List.getElem?_eq_getElem hk] at hx
  injection hx with hx
  rw [List.drop_eq_getElem_cons hk, hx, cntL_cons]
set_option maxHeartbeats 2000000 in
theorem count_any : ∀ (n : Nat) (x : Ex) (u : Value) (w : World) (a d : Int), IsEx n (Lt w.heap.size) w u x → -1 ≤ a → a ≤ 400 → -1 ≤ d → d ≤ 60 →
    Calls Tryz.prog 57 #[u, .int .i64 a, .int .i64 d] w fun e w' => e = .returned (.int .i64 (cntX x a d)) ∧ Below w.heap.size w w' := by
  intro n
  induction n using Nat.strongRecOn with
  | _ n ih =>
    intro x u w a d h ha1 ha2 hd1 hd2
    have h0 := h
    obtain ⟨lv, rfl, h1, h2, h3, h4⟩ := h
    obtain ⟨A, c, rfl, l1, l2, h4⟩ := h4.open_
    have HE := Lib.hid (cntX_eq x a d)
    have hb := bone w (.cells #[.int .i64 x.op, .int .i64 x.v.kind, .int .i64 x.v.n, .string x.v.s, .string x.s, .slice A x.l.length c] 28)
    have hB := Blk.new w 28 #[.int .i64 x.op, .int .i64 x.v.kind, .int .i64 x.v.n, .string x.v.s, .string x.s, .slice A x.l.length c]
    have hx1 := h0.now hb
    have hl1 := SlE.now h4 hb
    clear h0 h4
    generalize hw1 : w.alloc (.cells #[.int .i64 x.op, .int .i64 x.v.kind, .int .i64 x.v.n, .string x.v.s, .string x.s, .slice A x.l.length c] 28) = w1 at *
    obtain ⟨q0, q1, q2, q3, q4, q5⟩ := hB.c6
    by_cases c1 : a ≤ 0
    · have HR : Hid (cntX x a d = -1) := by show _ = _; rw [HE.out, if_pos (.inl c1)]
      go_enter Tryz.func57, Tryz.ntmps57
      go_wp2_with fail
      go_ret
      exact ⟨by rw [HR.out]; rfl, hb⟩
    by_cases c2 : d ≤ 0
    · have HR : Hid (cntX x a d = -1) := by show _ = _; rw [HE.out, if_pos (.inr (.inl c2))]
      go_enter Tryz.func57, Tryz.ntmps57
      go_wp2_with fail
      go_ret
      exact ⟨by rw [HR.out]; rfl, hb⟩
    go_enter Tryz.func57, Tryz.ntmps57
    go_wp2_with fail
    refine (formed_any _ x _ _ hx1).mono ?_
    rintro e w2 ⟨rfl, hb2⟩
    have hbw2 := bthen hb hb2
    have hl2 := SlE.now hl1 hb2
    have hB2 := hB.now hb2
    clear q0 q1 q2 q3 q4 q5 hB hl1 hx1
    obtain ⟨q0, q1, q2, q3, q4, q5⟩ := hB2.c6
    generalize hs : shapeX x = sh at *
    cases sh
    · have HR : Hid (cntX x a d = -1) := by show _ = _; rw [HE.out, if_pos (.inr (.inr rfl))]
      go_wp2_with fail
      go_ret
      exact ⟨by rw [HR.out]; rfl, hbw2⟩
    have HR : Hid (cntX x a d = cntL (x.l.drop 0) (a - 1) (d - 1)) := by show _ = _; rw [HE.out, if_neg (by simp [c1, c2]), List.drop_zero]
    clear HE hs
    have wa : IntKind.i64.wrap (a - 1) = a - 1 := IntWalk.i64_in _ (by omega)
    have wd : IntKind.i64.wrap (d - 1) = d - 1 := IntWalk.i64_in _ (by omega)
    go_wp2_with fail
    go_loopw [1, 25] (fun av i wr => ∃ (k : Nat) (a' : Int), k ≤ x.l.length ∧ i = .int .i64 k ∧ av = .int .i64 a' ∧ 0 ≤ a' ∧ a' ≤ 400 ∧ cntX x a d = cntL (x.l.drop k) a' (d - 1) ∧ Below w.heap.size w wr ∧ Below w2.heap.size w2 wr) (fun _ i _ => x.l.length - (intOf i).toNat)
    case atStart => exact ⟨0, a - 1, Nat.zero_le _, rfl, rfl, by omega, by omega, HR.out, hbw2, Below.refl _ _⟩
    case round =>
      obtain ⟨k, a', hk, rfl, rfl, a1, a2, hc, hbr, hbr2⟩ := hrel
      have HC := Lib.hid hc
      clear hc HR
      by_cases hlt : k < x.l.length
      · obtain ⟨b, o, y, lv, n', hn, rfl, hD, hx, hex, hfv, hsl, e0, e1, e2, e3, e4, e5⟩ := (SlE.now hl2 hbr2).at_ hlt
        have HX := Lib.hid (cntL_drop hx a' (d - 1))
        have HLO := Lib.hid (cnt_low y a' (d - 1))
        have HRG := Lib.hid (cnt_range y a' (d - 1) a2)
        obtain ⟨A2, c2', rfl, m1, m2, _⟩ := hsl.open_
        have hb3 := bone wr (.cells #[.int .i64 y.op, .int .i64 y.v.kind, .int .i64 y.v.n, .string y.v.s, .string y.s, .slice A2 y.l.length c2'] 28)
        have hcall := Lib.hid (ih n' (by omega) y _ _ a' (d - 1) (hex.now hb3) (by omega) a2 (by omega) (by omega))
        clear hx hex hfv hsl hn
        generalize cntX y a' (d - 1) = z at *
        go_wp2_with fail
        refine hcall.out.mono ?_
        rintro e w4 ⟨rfl, hb4⟩
        have hbw4 : Below w.heap.size w w4 := bthen hbr (bthen hb3 hb4)
        have hbw4' : Below w2.heap.size w2 w4 := bthen hbr2 (bthen hb3 hb4)
        by_cases hz : z < 0
        · have HRR : Hid (cntX x a d = -1) := by show _ = _; rw [HC.out, HX.out, if_pos hz]
          go_wp2_with fail
          go_ret
          exact ⟨by rw [HRR.out]; rfl, hbw4⟩
        · have HRR : Hid (cntX x a d = cntL (x.l.drop (k + 1)) z (d - 1)) := by show _ = _; rw [HC.out, HX.out, if_neg hz]
          go_wp2_with fail
          go_roundw
          case rel => exact ⟨k + 1, z, by omega, by go_num, rfl, by omega, by have := HRG.out; omega, HRR.out, hbw4, hbw4'⟩
          case measure => simp [intOf]; omega
      · have HRR : Hid (cntX x a d = a') := by show _ = _; rw [HC.out, List.drop_eq_nil_of_le (by omega), cntL_nil]
        go_wp2_with fail
        go_ret
        exact ⟨by rw [HRR.out]; rfl, hbr⟩
theorem validX_any (n : Nat) (x : Ex) (u : Value) (w : World) (h : IsEx n (Lt w.heap.size) w u x) :
    Calls Tryz.prog 20 #[u] w fun e w' => e = .returned (.bool (validX x)) ∧ Below w.heap.size w w' := by
  have h0 := h
  obtain ⟨lv, rfl, h1, h2, h3, h4⟩ := h
  have hb := bone w (.cells #[.int .i64 x.op, .int .i64 x.v.kind, .int .i64 x.v.n, .string x.v.s, .string x.s, lv] 28)
  have hc := count_any n x _ _ 400 60 (h0.now hb) (by omega) (by omega) (by omega) (by omega)
  have HC := Lib.hid hc
  have HV : Hid (validX x = decide (0 ≤ cntX x 400 60)) := rfl
  clear hc h4 h0
  generalize cntX x 400 60 = z at *
  go_enter Tryz.func20, Tryz.ntmps20
  go_wp2_with fail
  refine HC.out.mono ?_
  rintro e w2 ⟨rfl, hb2⟩
  have hbw := bthen hb hb2
  clear hb hb2 HC
  go_wp2_with fail
  go_ret
  exact ⟨ret_bool HV.out.symm, hbw⟩
end Go.Proofs.YtijmnenojbfdnaaGreatDoor

namespace Go.Proofs.YtijmnenojbfdnaaGreatDoor
open Go.RowKit
set_option maxHeartbeats 400000 in
theorem tokLetter_any (c : UInt8) (w : World) : Calls Tryz.prog 158 #[.int .u8 (c.toNat : Int)] w fun e w' => e = .returned (.bool (letB c)) ∧ w = w' := by
  have HL : Hid (letB c = ((decide (97 ≤ c.toNat) && decide (c.toNat ≤ 122)) || (decide (65 ≤ c.toNat) && decide (c.toNat ≤ 90)))) := rfl
  generalize letB c = lb at *
  generalize c.toNat = k at *
  by_cases h1 : 65 ≤ k <;> by_cases h2 : k ≤ 90 <;> by_cases h3 : 97 ≤ k <;> by_cases h4 : k ≤ 122
  all_goals first
    | (exfalso; omega)
    | (have i1 : ((65 : Int) ≤ (k : Int)) = (65 ≤ k) := propext (by omega)
       have i2 : ((k : Int) ≤ 90) = (k ≤ 90) := propext (by omega)
       have i3 : ((97 : Int) ≤ (k : Int)) = (97 ≤ k) := propext (by omega)
       have i4 : ((k : Int) ≤ 122) = (k ≤ 122) := propext (by omega)
       go_enter Tryz.func158, Tryz.ntmps158
       go_wp2
       go_ret
       exact ⟨ret_bool (by rw [HL.out]; simp [h1, h2, h3, h4]), rfl⟩)
set_option maxHeartbeats 400000 in
theorem tokDigit_any (c : UInt8) (w : World) : Calls Tryz.prog 161 #[.int .u8 (c.toNat : Int)] w fun e w' => e = .returned (.bool (digB c)) ∧ w = w' := by
  have HL : Hid (digB c = (decide (48 ≤ c.toNat) && decide (c.toNat ≤ 57))) := rfl
  generalize digB c = lb at *
  generalize c.toNat = k at *
  by_cases h1 : 48 ≤ k <;> by_cases h2 : k ≤ 57
  all_goals first
    | (exfalso; omega)
    | (have i1 : ((48 : Int) ≤ (k : Int)) = (48 ≤ k) := propext (by omega)
       have i2 : ((k : Int) ≤ 57) = (k ≤ 57) := propext (by omega)
       go_enter Tryz.func161, Tryz.ntmps161
       go_wp2
       go_ret
       exact ⟨ret_bool (by rw [HL.out]; simp [h1, h2]), rfl⟩)
theorem u8_eq (c : UInt8) (k : Nat) (hk : k < 256) : ((c.toNat : Int) == (k : Int)) = (c == UInt8.ofNat k) := by
  have hm : (UInt8.ofNat k).toNat = k := by rw [UInt8.toNat_ofNat']; exact Nat.mod_eq_of_lt hk
  rw [Bool.eq_iff_iff, beq_iff_eq, beq_iff_eq]
  constructor
  · intro h
    have h : c.toNat = k := by omega
    rw [← UInt8.toNat_inj, h, hm]
  · rintro rfl
    rw [hm]
set_option maxHeartbeats 1000000 in
theorem tokWord_any (c : UInt8) (w : World) : Calls Tryz.prog 160 #[.int .u8 (c.toNat : Int)] w fun e w' => e = .returned (.bool (wordC c)) ∧ w = w' := by
  have HL : Hid (wordC c = (letB c || digB c || c == 95 || c == 45 || c == 46)) := rfl
  have H1 := Lib.hid (tokLetter_any c)
  have H2 := Lib.hid (tokDigit_any c)
  have e1 := u8_eq c 95 (by omega)
  have e2 := u8_eq c 45 (by omega)
  have e3 := u8_eq c 46 (by omega)
  have e1 : ((c.toNat : Int) == 95) = (c == 95) := e1
  have e2 : ((c.toNat : Int) == 45) = (c == 45) := e2
  have e3 : ((c.toNat : Int) == 46) = (c == 46) := e3
  generalize letB c = l at *
  generalize digB c = d at *
  generalize (c == 95) = q1 at *
  generalize (c == 45) = q2 at *
  generalize (c == 46) = q3 at *
  generalize wordC c = wc at *
  go_enter Tryz.func160, Tryz.ntmps160
  go_wp2_with fail
  refine (H1.out _).mono ?_
  rintro e w1 ⟨rfl, rfl⟩
  cases l
  rotate_left
  · go_wp2_with fail
    go_ret
    exact ⟨ret_bool (by rw [HL.out]; simp), rfl⟩
  go_wp2_with fail
  refine (H2.out _).mono ?_
  rintro e w1 ⟨rfl, rfl⟩
  cases d
  rotate_left
  · go_wp2_with fail
    go_ret
    exact ⟨ret_bool (by rw [HL.out]; simp), rfl⟩
  cases q1
  rotate_left
  · go_wp2_with fail
    go_ret
    exact ⟨ret_bool (by rw [HL.out]; simp), rfl⟩
  cases q2
  rotate_left
  · go_wp2_with fail
    go_ret
    exact ⟨ret_bool (by rw [HL.out]; simp), rfl⟩
  cases q3
  · go_wp2_with fail
    go_ret
    exact ⟨ret_bool (by rw [HL.out]; simp), rfl⟩
  · go_wp2_with fail
    go_ret
    exact ⟨ret_bool (by rw [HL.out]; simp), rfl⟩
set_option maxHeartbeats 2000000 in
theorem length_any (k : FuncId) (eg : ∀ args w, (callFunc k args).run Tryz.prog w = .ok (.enter k args) w) (p : UInt8 → Bool) (hp : ∀ (c : UInt8) (w : World), Calls Tryz.prog k #[.int .u8 (c.toNat : Int)] w fun e w' => e = .returned (.bool (p c)) ∧ w = w') (s : ByteArray) (w : World) (hs : s.size ≤ 100000) :
    Calls Tryz.prog 159 #[.string s, .func (.func k) #[] #[]] w fun e w' => e = .returned (.int .i64 (lenP p s.data.toList : Int)) ∧ w = w' := by
  have HP := Lib.hid hp
  clear hp
  go_enter Tryz.func159, Tryz.ntmps159
  go_wp2_with fail
  go_loopw [8] (fun iv wr => ∃ j : Nat, j ≤ s.size ∧ iv = .int .i64 j ∧ Hid (lenP p s.data.toList = j + lenP p (s.data.toList.drop j)) ∧ w = wr) (fun iv _ => s.size - (intOf iv).toNat)
  case atStart => exact ⟨0, Nat.zero_le _, rfl, (by show _ = _; simp), rfl⟩
  case round =>
    obtain ⟨j, hj, rfl, HE, rfl⟩ := hrel
    by_cases hlt : j < s.size
    · have i1 : (0 : Int) ≤ (j : Int) := by omega
      have i2 : (j : Int) < (s.size : Int) := by omega
      have HD := Lib.hid (lexDrop hlt)
      obtain ⟨q, hq⟩ : ∃ q, p s[j] = q := ⟨_, rfl⟩
      have HC : Hid (Calls Tryz.prog k #[.int .u8 (s[j].toNat : Int)] w fun e w' => e = .returned (.bool q) ∧ w = w') := by have := HP.out s[j] w; rw [hq] at this; exact this
      have HQ := Lib.hid hq
      clear hq
      cases q
      · go_wp2_with (go_at_fn k; refine HC.out.mono ?_; rintro e w2 ⟨rfl, rfl⟩)
        go_ret
        refine ⟨ret_int ?_, rfl⟩
        rw [HE.out, HD.out]
        simp [lenP, HQ.out]
      · go_wp2_with (go_at_fn k; refine HC.out.mono ?_; rintro e w2 ⟨rfl, rfl⟩)
        go_roundw
        case rel =>
          refine ⟨j + 1, by omega, by go_num, ?_, by simp⟩
          show _ = _
          rw [HE.out, HD.out]
          simp [lenP, HQ.out]
          omega
        case measure => simp [intOf]; omega
    · have hjs : s.size = j := by omega
      subst hjs
      go_wp2_with fail
      go_ret
      refine ⟨ret_int ?_, by simp⟩
      rw [HE.out, List.drop_eq_nil_of_le (by rw [lexSize]; exact Nat.le_refl _)]
      simp [lenP]
theorem SlS.lit {w : World} {t : TypeId} (xs : List ByteArray) (h : ∀ x ∈ xs, x.size ≤ maxLen) (hl : xs.length ≤ maxLen) : SlS (Lt (w.alloc (.cells (xs.map Value.string).toArray t)).heap.size) (w.alloc (.cells (xs.map Value.string).toArray t)) (.slice (some ⟨w.heap.size, 0, none⟩) xs.length xs.length) xs := by
  refine ⟨_, xs.length, rfl, Nat.le_refl _, hl, fun i x hx => ⟨w.heap.size, 0, [.string x], rfl, by simp [Lt], rfl, ⟨rfl, h x (List.mem_of_getElem? hx)⟩, fun j u hj => ?_⟩⟩
  match j, hj with
  | 0, hj =>
    injection hj with hj; subst hj
    rw [(Blk.new w t _).cell]
    simp [hx]
  | j + 1, hj => simp at hj
theorem syms_any (w : World) : Calls Tryz.prog 194 #[] w fun e w' => (∃ A, e = .returned (.slice A 33 33) ∧ SlS (Lt w'.heap.size) w' (.slice A 33 33) symL) ∧ Below w.heap.size w w' := by
  have h := SlS.lit (w := w) (t := 9) symL (by decide) (by unfold maxLen; decide)
  have HS := Lib.hid h
  have HB := Lib.hid (bone w (.cells (symL.map Value.string).toArray 9))
  clear h
  go_enter Tryz.func194, Tryz.ntmps194
  go_wp2_with fail
  go_ret
  exact ⟨⟨_, rfl, HS.out⟩, HB.out⟩
def RetSym (r : Option ByteArray) (w : World) (e : Ending) (w' : World) : Prop :=
  e = .returned (match r with | some x => .tuple #[.string x, .bool true] | none => .tuple #[.string ⟨#[]⟩, .bool false]) ∧ Below w.heap.size w w'
theorem symFind_at {p : ByteArray → Bool} : ∀ (l : List ByteArray) (j : Nat) (x : ByteArray), l[j]? = some x → (∀ i y, i < j → l[i]? = some y → p y = false) → p x = true → l.find? p = some x
  | [], j, x, h, _, _ => by simp at h
  | a :: l, 0, x, h, _, hp => by
    have h : a = x := by simpa using h
    subst h
    rw [List.find?_cons, hp]
  | a :: l, j + 1, x, h, hn, hp => by
    rw [List.find?_cons, hn 0 a (by omega) rfl]
    exact symFind_at l j x (by simpa using h) (fun i y hi hy => hn (i + 1) y (by omega) (by simpa using hy)) hp
set_option maxHeartbeats 1000000 in
theorem symbol_any (s : ByteArray) (w : World) : Calls Tryz.prog 165 #[.string s] w (RetSym (symB s.data.toList) w) := by
  go_enter Tryz.func165, Tryz.ntmps165
  go_wp2_with fail
  refine (syms_any _).mono ?_
  rintro e w1 ⟨⟨A, rfl, hs1⟩, hb1⟩
  go_wp2_with fail
  go_loopw [8] (fun iv wr => ∃ j : Nat, j ≤ 33 ∧ iv = .int .i64 j ∧ Hid (∀ i y, i < j → symL[i]? = some y → Lib.hasPrefix s.data.toList y.data.toList = false) ∧ w1 = wr) (fun iv _ => 33 - (intOf iv).toNat)
  case atStart => exact ⟨0, Nat.zero_le _, rfl, (by show ∀ _ _, _; intro i y hi; omega), rfl⟩
  case round =>
    obtain ⟨j, hj, rfl, HN, rfl⟩ := hrel
    by_cases hlt : j < 33
    · obtain ⟨b, o, x, rfl, _, hx, _, c0⟩ := SlS.at_ hs1 hlt
      have a1 : (0 : Int) ≤ (j : Int) := by omega
      have a2 : (j : Int) < 33 := by omega
      have HX := Lib.hid hx
      clear hx
      go_wp2_with fail
      refine (Tryz.strings_HasPrefix s x _).mono ?_
      rintro e w2 ⟨rfl, rfl⟩
      cases hq : Lib.hasPrefix s.data.toList x.data.toList
      · have HQ := Lib.hid hq
        clear hq
        go_wp2_with fail
        go_roundw
        case rel =>
          refine ⟨j + 1, by omega, by go_num, ?_, by simp⟩
          show ∀ _ _, _
          intro i y hi hy
          by_cases e : i = j
          · subst e
            rw [HX.out] at hy
            injection hy with hy
            subst hy
            exact HQ.out
          · exact HN.out i y (by omega) hy
        case measure => simp [intOf]; omega
      · have HF : Hid (symB s.data.toList = some x) := symFind_at symL j x HX.out HN.out hq
        clear hq
        go_wp2_with fail
        go_ret2
        refine ⟨?_, hb1⟩
        rw [HF.out]
        rfl
    · have hj33 : j = 33 := by omega
      subst hj33
      have HF : Hid (symB s.data.toList = none) := by
        show _ = _
        unfold symB
        rw [List.find?_eq_none]
        intro x hx
        obtain ⟨i, hi, rfl⟩ := List.mem_iff_getElem.1 hx
        have := HN.out i _ (show i < 33 from hi) (List.getElem?_eq_getElem hi)
        simpa using this
      go_wp2_with fail
      go_ret2
      refine ⟨?_, hb1⟩
      rw [HF.out]
      rfl
def IsRd (w : World) (g : Nat) (s : ByteArray) (col : Int) : Prop := Blk w g 152 #[.string s, .int .i64 1, .int .i64 col]
theorem lexGrownT {a b c : World} {row : Option Nat} (h : a.grownBy b row) (k : b.grownBy c row) : a.grownBy c row :=
  ⟨k.os.trans h.os, k.tape.trans h.tape, k.output.trans h.output, Nat.le_trans h.size k.size, fun i hi hr => (k.block i (Nat.lt_of_lt_of_le hi h.size) hr).trans (h.block i hi hr)⟩
theorem lexGrownS (w : World) (g k : Nat) (u : Value) : w.grownBy (w.setCell ⟨g, k, none⟩ u) (some g) := ⟨rfl, rfl, rfl, by simp, fun i _ hne => Below.heap_setCell w ⟨g, k, none⟩ u i (fun e => hne (by rw [e]))⟩
set_option maxHeartbeats 2000000 in
theorem skip_any (g n : Nat) (s : ByteArray) (col : Int) (w : World) (hn : n ≤ s.size) (hs : s.size ≤ 16384) (hnl : (s.data.toList.take n).all (· != 10) = true) (hc : 0 ≤ col ∧ col ≤ 100000) (h : IsRd w g s col) :
    Calls Tryz.prog 118 #[.pointer (some ⟨g, 0, none⟩), .int .i64 (n : Int)] w fun e w' => e = .returned (.tuple #[]) ∧ IsRd w' g (s.extract n s.size) (col + n) ∧ w.grownBy w' (some g) := by
  have HNL := Lib.hid hnl
  clear hnl
  go_enter Tryz.func118, Tryz.ntmps118
  go_wp2_with fail
  go_loopw [6] (fun iv wr => ∃ j : Nat, j ≤ n ∧ iv = .int .i64 j ∧ IsRd wr g s (col + j) ∧ w.grownBy wr (some g)) (fun iv _ => n - (intOf iv).toNat)
  case atStart => exact ⟨0, Nat.zero_le _, rfl, by simpa using h, World.grownBy.refl w _⟩
  case round =>
    obtain ⟨j, hj, rfl, hr, hg⟩ := hrel
    have hr' : Blk wr g 152 #[.string s, .int .i64 1, .int .i64 (col + j)] := hr
    by_cases hlt : j < n
    · have i1 : (0 : Int) ≤ (j : Int) := by omega
      have i2 : (j : Int) < (s.size : Int) := by omega
      have hjs : j < s.size := by omega
      have hne : ((s[j].toNat : Int) == 10) = false := by
        have h1 := List.all_eq_true.1 HNL.out s[j] (List.mem_of_getElem? (i := j) (by rw [List.getElem?_take, if_pos hlt, List.getElem?_eq_getElem (by rw [lexSize]; exact hjs)]; rfl))
        have h2 := u8_eq s[j] 10 (by omega)
        have h3 : (s[j] == (10 : UInt8)) = false := by simpa using h1
        exact h2.trans h3
      obtain ⟨c0, c1, c2⟩ := hr'.c3
      have f2 := hr'.frozen 2
      have hset := hr'.set_ 2 (.int .i64 (col + j + 1))
      have hgs := lexGrownT hg (lexGrownS wr g 2 (.int .i64 (col + j + 1)))
      go_upto_region 4 with fail
      generalize hw2 : wr.setCell ⟨g, 2, none⟩ (.int .i64 (col + j + 1)) = w2 at *
      clear hw2 c0 c1 c2 f2 hr hr' hg
      have hset' : Blk w2 g 152 #[.string s, .int .i64 1, .int .i64 (col + j + 1)] := hset
      obtain ⟨c0, c1, c2⟩ := hset'.c3
      go_wp2_with fail
      go_roundw
      case rel =>
        refine ⟨j + 1, by omega, by go_num, ?_, hgs⟩
        have e : col + ((j + 1 : Nat) : Int) = col + j + 1 := by omega
        rw [e]
        exact hset'
      case measure => simp [intOf]; omega
    · have hjn : j = n := by omega
      subst hjn
      obtain ⟨c0, c1, c2⟩ := hr'.c3
      have f0 := hr'.frozen 0
      have i2 : (j : Int) ≤ (s.size : Int) := by omega
      have hset := hr'.set_ 0 (.string (s.extract j s.size))
      go_wp2_with fail
      go_end0
      refine ⟨rfl, hset, lexGrownT hg (lexGrownS _ _ _ _)⟩
theorem lexExtSize (s : ByteArray) {j : Nat} (h : j ≤ s.size) : (s.extract j s.size).size = s.size - j := by
  rw [ByteArray.size_extract]; omega
theorem lexExtList (s : ByteArray) (j : Nat) : (s.extract j s.size).data.toList = s.data.toList.drop j := by
  rw [lexExt, List.take_of_length_le (by rw [List.length_drop, lexSize]; exact Nat.le_refl _)]
theorem lexExtExt (s : ByteArray) {j k : Nat} (h : j + k ≤ s.size) : (s.extract j s.size).extract k (s.extract j s.size).size = s.extract (j + k) s.size := by
  rw [lexExtSize s (by omega)]
  apply ByteArray.ext
  apply Array.ext'
  rw [lexExt, lexExtList, lexExtList, List.drop_drop, List.take_of_length_le (by rw [List.length_drop, lexSize]; omega)]
theorem lexHead {s : ByteArray} {c : UInt8} {l : List UInt8} (h : s.data.toList = c :: l) : ∃ h0 : 0 < s.size, s[0] = c := by
  have h0 : 0 < s.size := by rw [← lexSize, h]; simp
  refine ⟨h0, ?_⟩
  have := lexDrop h0
  rw [List.drop_zero, h] at this
  injection this with this _
  exact this.symm
theorem lexEmpty (s : ByteArray) : s.toList = s.data.toList := ByteArray.toList_eq s
set_option maxHeartbeats 2000000 in
theorem blanks_any (g : Nat) (s : ByteArray) (col : Int) (w : World) (hs : s.size ≤ 16384) (hc : 0 ≤ col ∧ col ≤ 50000) (hp : plainBlank s.data.toList = true) (h : IsRd w g s col) :
    Calls Tryz.prog 116 #[.pointer (some ⟨g, 0, none⟩)] w fun e w' => e = .returned (.tuple #[]) ∧ IsRd w' g (s.extract (lenP (· == 32) s.data.toList) s.size) (col + (lenP (· == 32) s.data.toList : Nat)) ∧ w.grownBy w' (some g) := by
  obtain ⟨nb, hnb⟩ : ∃ nb, lenP (· == 32) s.data.toList = nb := ⟨_, rfl⟩
  have hnle : nb ≤ s.size := by rw [← hnb, ← lexSize]; exact lenP_le _ _
  have HTW : Hid (∀ j, j < nb → ∃ l, s.data.toList.drop j = 32 :: l) := by
    show ∀ _, _
    intro j hj
    rw [← hnb] at hj
    obtain ⟨c, r, h1, h2⟩ := lenP_in _ _ _ hj
    have h3 : c = 32 := by simpa using h2
    exact ⟨r, by rw [h1, h3]⟩
  have HNE : Hid (∀ c l, s.data.toList.drop nb = c :: l → (c == 32) = false ∧ (c == 9) = false ∧ (c == 10) = false ∧ (c == 13) = false ∧ (c == 35) = false) := by
    show ∀ _ _, _
    intro c l hl
    have h1 := lenP_out (· == 32) s.data.toList c l (by rw [hnb]; exact hl)
    unfold plainBlank at hp
    rw [hnb, hl] at hp
    have hp : (!(c == 9 || c == 10 || c == 13 || c == 35)) = true := hp
    rw [Bool.not_eq_true', Bool.or_eq_false_iff, Bool.or_eq_false_iff, Bool.or_eq_false_iff] at hp
    exact ⟨h1, hp.1.1.1, hp.1.1.2, hp.1.2, hp.2⟩
  rw [hnb]
  have HNB := Lib.hid hnb
  clear hp hnb
  go_enter Tryz.func116, Tryz.ntmps116
  go_wp2_with fail
  go_loopg [] (s.size) (fun gg wr => ∃ j : Nat, j ≤ nb ∧ s.size - j ≤ gg ∧ IsRd wr g (s.extract j s.size) (col + j) ∧ w.grownBy wr (some g))
  case atStart => exact ⟨0, Nat.zero_le _, by omega, (by rw [ByteArray.extract_zero_size]; simpa using h), World.grownBy.refl w _⟩
  case round =>
    obtain ⟨j, hj, hgg, hr, hg⟩ := hrel
    have hr' : Blk wr g 152 #[.string (s.extract j s.size), .int .i64 1, .int .i64 (col + j)] := hr
    have hes := lexExtSize s (show j ≤ s.size by omega)
    have hel := lexExtList s j
    have HX := Lib.hid (fun k (hk : j + k ≤ s.size) => lexExtExt s hk)
    obtain ⟨s', hs'⟩ : ∃ s', s.extract j s.size = s' := ⟨_, rfl⟩
    rw [hs'] at hr' hes hel HX
    have HS' := Lib.hid hs'
    clear hr hs'
    obtain ⟨c0, c1, c2⟩ := hr'.c3
    cases hd : s.data.toList.drop j with
    | nil =>
      have hj2 : s.size ≤ j := by have := congrArg List.length hd; rw [List.length_drop, lexSize] at this; simp at this; omega
      have hnb2 : j = nb := by omega
      have e0 : s'.toList = [] := by rw [lexEmpty, hel, hd]
      have e1 : s'.toList.isEmpty = true := by rw [e0]; rfl
      subst hnb2
      have HHS : Hid (s.extract j s.size = s') := HS'.out
      clear hel hd hes
      go_wp2_with fail
      go_end0
      exact ⟨rfl, by rw [HHS.out]; exact hr', hg⟩
    | cons c l =>
      have e1 : s'.toList.isEmpty = false := by rw [lexEmpty, hel, hd]; rfl
      have e0 : ¬ s'.toList = [] := by rw [lexEmpty, hel, hd]; simp
      obtain ⟨h0, hc0⟩ := lexHead (s := s') (by rw [hel, hd])
      have i2 : (0 : Int) < (s'.size : Int) := by omega
      have HD := Lib.hid hd
      have HEL := Lib.hid hel
      clear hel hd
      by_cases hlt : j < nb
      · obtain ⟨l', hl'⟩ := HTW.out j hlt
        have hc32 : c = 32 := by have := HD.out; rw [hl'] at this; injection this with this _; exact this.symm
        have d1 : ((c.toNat : Int) == 32) = true := by rw [hc32]; rfl
        have hsk := skip_any g 1 s' (col + j) wr (by omega) (by omega) (by rw [HEL.out, HD.out, hc32]; rfl) (by omega) hr'
        have HSK := Lib.hid hsk
        have HE2 : Hid (s'.extract 1 s'.size = s.extract (j + 1) s.size) := HX.out 1 (by omega)
        clear hsk hc32 hl'
        go_wp2_with fail
        refine HSK.out.mono ?_
        rintro e w2 ⟨rfl, hr2, hg2⟩
        rw [HE2.out] at hr2
        go_wp2_with fail
        go_roundg (s.size - (j + 1))
        case rel =>
          refine ⟨j + 1, by omega, Nat.le_refl _, ?_, lexGrownT hg hg2⟩
          have e : col + ((j + 1 : Nat) : Int) = col + j + ((1 : Nat) : Int) := by omega
          rw [e]
          exact hr2
        case measure => omega
      · have hnb2 : j = nb := by omega
        subst hnb2
        obtain ⟨n1, n2, n3, n4, n5⟩ := HNE.out c l HD.out
        have d1 : ((c.toNat : Int) == 32) = false := (u8_eq c 32 (by omega)).trans n1
        have d2 : ((c.toNat : Int) == 9) = false := (u8_eq c 9 (by omega)).trans n2
        have d3 : ((c.toNat : Int) == 10) = false := (u8_eq c 10 (by omega)).trans n3
        have d4 : ((c.toNat : Int) == 13) = false := (u8_eq c 13 (by omega)).trans n4
        have d5 : ((c.toNat : Int) == 35) = false := (u8_eq c 35 (by omega)).trans n5
        clear n1 n2 n3 n4 n5
        go_wp2_with fail
        refine bodyPost_ret (v := .tuple #[]) (by simp [results, Tryz.results116]) rfl ?_
        exact ⟨rfl, by rw [HS'.out]; exact hr', hg⟩
end Go.Proofs.YtijmnenojbfdnaaGreatDoor
