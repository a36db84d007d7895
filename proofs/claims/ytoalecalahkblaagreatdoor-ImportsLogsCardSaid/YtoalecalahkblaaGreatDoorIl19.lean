/- Texts of this seat, merged. -/
import Derived.Test.YtoalecalahkblaaGreatDoorIl01
import Derived.Test.YtoalecalahkblaaGreatDoorIl02
import Derived.Test.YtoalecalahkblaaGreatDoorIl03
import Derived.Test.YtoalecalahkblaaGreatDoorIl04
import Derived.Test.YtoalecalahkblaaGreatDoorIl05
import Derived.Test.YtoalecalahkblaaGreatDoorIl18
set_option linter.all false
set_option linter.all false
namespace Go.Proofs.YtoalecalahkblaaGreatDoor
open Go.RowKit
set_option maxHeartbeats 1000000 in
theorem unquote_ref (s : ByteArray) (w : World) (hs : s.size ≤ maxLen) : Calls Tryz.prog 181 #[.string s] w fun e w' => e = .returned (.tuple #[.string (unquoteE s).1, .int .i64 (unquoteE s).2]) ∧ Below w.heap.size w w' := by
  have hs0 := hs
  unfold maxLen at hs
  go_enter Tryz.func181, Tryz.ntmps181
  by_cases h1 : 32770 < s.size
  · have HE := Lib.hid (unquote_full h1)
    go_wp2_with fail
    go_ret2
    exact ⟨ret_si (by rw [HE.out]), Below.refl _ _⟩
  generalize hh : headB s.data.toList = hd
  have HH := Lib.hid hh
  clear hh
  cases hd
  · have HE := Lib.hid (unquote_form h1 (by rw [HH.out]; rfl))
    rcases head_no HH.out with s3 | ⟨s3, s4, s5⟩
    · go_wp2_with fail
      go_ret2
      exact ⟨ret_si (by rw [HE.out]), Below.refl _ _⟩
    · have s4' : (0 : Int) < (s.size : Int) := by omega
      have s6 : ((s[0].toNat : Int) != 34) = true := by rw [bne, s5]; rfl
      go_wp2_with fail
      go_ret2
      exact ⟨ret_si (by rw [HE.out]), Below.refl _ _⟩
  obtain ⟨s3, s4, s5⟩ := head_yes HH.out
  have s4' : (0 : Int) < (s.size : Int) := by omega
  have s6 : ((s[0].toNat : Int) != 34) = false := by rw [bne, s5]; rfl
  go_wp2_with fail
  refine (printable_ref s _ hs0).mono ?_
  rintro e w2 ⟨rfl, rfl⟩
  generalize hq : plainS s = q
  have HQ := Lib.hid hq
  clear hq s3 s5 s6
  cases q
  · have HE := Lib.hid (unquote_form h1 (by rw [HH.out, HQ.out]; rfl))
    go_wp2_with fail
    go_ret2
    exact ⟨ret_si (by rw [HE.out]), Below.refl _ _⟩
  have HE := Lib.hid (unquote_read h1 (by rw [HH.out, HQ.out]; rfl))
  go_wp2_with fail
  refine (read_ref s _ (by omega) s4).mono ?_
  rintro e w3 ⟨n, rfl, hn, hb3⟩
  have hrl := read_len _ (s.data.toList.drop 1) [] (Nat.le_refl _)
  have hrl2 : (s.data.toList.drop 1).length ≤ s.size := by rw [List.length_drop, size_list]; omega
  generalize readB [] (s.data.toList.drop 1) = R at *
  obtain ⟨z, t, rest⟩ := R
  dsimp only at *
  by_cases hz : z = 0
  · subst hz
    have hn := hn rfl
    subst hn
    cases rest with
    | cons a l =>
      have HR : Hid (unquoteE s = (⟨#[]⟩, 3)) := HE.out
      have b1 : (((s.size - (a :: l).length : Nat) : Int) != (s.size : Int)) = true := by
        rw [List.length_cons] at *
        simp only [bne_iff_ne, ne_eq]
        omega
      clear hrl hrl2
      go_wp2_with fail
      go_ret2
      exact ⟨ret_si (by rw [HR.out]), hb3⟩
    | nil =>
      have b1 : (((s.size - ([] : List UInt8).length : Nat) : Int) != (s.size : Int)) = false := by simp
      clear hrl hrl2
      by_cases hl : 16384 < t.length
      · have HR : Hid (unquoteE s = (⟨#[]⟩, 5)) := by show _ = _; rw [HE.out]; exact if_pos hl
        have hsz : 16384 < (⟨t.toArray⟩ : ByteArray).size := by rw [size_arr]; exact hl
        go_wp2_with fail
        go_ret2
        exact ⟨ret_si (by rw [HR.out]), hb3⟩
      · have HR : Hid (unquoteE s = (⟨t.toArray⟩, 0)) := by show _ = _; rw [HE.out]; exact if_neg hl
        have hsz : (⟨t.toArray⟩ : ByteArray).size ≤ 16384 := by rw [size_arr]; omega
        go_wp2_with fail
        go_ret2
        exact ⟨ret_si (by rw [HR.out]), hb3⟩
  · have HR : Hid (unquoteE s = (⟨#[]⟩, z)) := by
      show _ = _
      rw [HE.out]
      unfold endE
      split
      · rename_i h1; injection h1 with h1 _; exact absurd h1 hz
      · rename_i h1; injection h1 with h1 _; exact absurd h1 hz
      · rename_i h1; injection h1 with h1 _; rw [h1]
    have b1 : (z != 0) = true := by simpa using hz
    clear hn hz hrl hrl2
    go_wp2_with fail
    go_ret2
    exact ⟨ret_si (by rw [HR.out]), hb3⟩
def negB (s : ByteArray) : Bool := match s.data.toList with
  | [] => false
  | c :: _ => decide (c.toNat = 45)
def offB (s : ByteArray) : Nat := if negB s then 1 else 0
def digsB (s : ByteArray) : List UInt8 := s.data.toList.drop (offB s)
def sgnB (s : ByteArray) (n : Nat) : Int := if negB s then -(n : Int) else n
theorem neg_no {s : ByteArray} (h : ¬ 0 < s.size) : negB s = false := by
  have e0 : s.data.toList = [] := List.eq_nil_of_length_eq_zero (by rw [size_list]; omega)
  unfold negB; rw [e0]
theorem neg_lit {s : ByteArray} (h2 : 0 < s.size) : negB s = ((s[0].toNat : Int) == 45) := by
  have e := drop_at (s := s) (k := 0) h2
  rw [List.drop_zero] at e
  unfold negB
  rw [e]
  show decide (s[0].toNat = 45) = _
  rw [Bool.eq_iff_iff]
  simp only [beq_iff_eq, decide_eq_true_eq]
  omega
theorem num_digs {s : ByteArray} {m : Int} (h : numOf s = some m) : Lib.decFrom 0 (digsB s) = some m.natAbs ∧ (digsB s).length ≤ 16 ∧ (∀ b ∈ digsB s, 48 ≤ b.toNat ∧ b.toNat ≤ 57) ∧ sgnB s m.natAbs = m := by
  obtain ⟨h1, h2⟩ := num_some.1 h
  have hb : -4503599627370496 ≤ m ∧ m ≤ 4503599627370496 := by unfold numB at h1; simpa using h1
  have hl : s.data.toList = Lib.itoa m := by rw [← h2]; rfl
  have hlen : (Lib.decDigits m.natAbs).length ≤ 16 := by
    rw [Lib.decDigits_length]
    exact nDigits_le (by omega) (by omega)
  rcases Int.lt_or_le m 0 with h0 | h0
  · have hi : Lib.itoa m = 45 :: Lib.decDigits m.natAbs := by
      unfold Lib.itoa; rw [if_pos h0]
    have hn : negB s = true := by unfold negB; rw [hl, hi]; rfl
    have hd : digsB s = Lib.decDigits m.natAbs := by unfold digsB offB; rw [hn, hl, hi]; rfl
    rw [hd]
    refine ⟨decFrom_digits _, hlen, decDigits_digit _, ?_⟩
    unfold sgnB; rw [hn, if_pos rfl]; omega
  · have hi : Lib.itoa m = Lib.decDigits m.natAbs := by
      unfold Lib.itoa; rw [if_neg (by omega)]; congr 1; omega
    obtain ⟨c, r, hc, hc1, hc2⟩ := decDigits_head m.natAbs
    have hn : negB s = false := by
      unfold negB; rw [hl, hi, hc]
      show decide (c.toNat = 45) = false
      rw [decide_eq_false_iff_not]; omega
    have hd : digsB s = Lib.decDigits m.natAbs := by unfold digsB offB; rw [hn, hl, hi]; rfl
    rw [hd]
    refine ⟨decFrom_digits _, hlen, decDigits_digit _, ?_⟩
    unfold sgnB; rw [hn]
    show ((m.natAbs : Nat) : Int) = m
    omega
def DecPost (s : ByteArray) (w : World) (e : Ending) (w' : World) : Prop :=
  ∃ (n : Int) (ok : Bool), e = .returned (.tuple #[.int .i64 n, .bool ok]) ∧ numOf s = (if ok then some n else none) ∧ Fit n ∧ w = w'
theorem digs_at {s : ByteArray} {k : Nat} (h : offB s ≤ k) (hk : k < s.size) : (digsB s)[k - offB s]? = some s[k] := by
  unfold digsB
  rw [List.getElem?_drop, Nat.add_sub_cancel' h]
  rw [List.getElem?_eq_getElem (by rw [size_list]; exact hk)]
  rfl
theorem num_bad {s : ByteArray} {k : Nat} (h : offB s ≤ k) (hk : k < s.size) (hb : ¬ (48 ≤ s[k].toNat ∧ s[k].toNat ≤ 57) ∨ offB s + 17 < k) : numOf s = none := by
  cases hn : numOf s with
  | none => rfl
  | some m =>
    exfalso
    obtain ⟨_, h2, h3, _⟩ := num_digs hn
    have ha := digs_at h hk
    rcases hb with hb | hb
    · exact hb (h3 _ (List.mem_of_getElem? ha))
    · have : k - offB s < (digsB s).length := by
        rcases Nat.lt_or_ge (k - offB s) (digsB s).length with h' | h'
        · exact h'
        · rw [List.getElem?_eq_none h'] at ha; cases ha
      omega
theorem digit_sub {c : UInt8} (h : 48 ≤ c.toNat ∧ c.toNat ≤ 57) : Lib.digitVal c = some (c.toNat - 48) := if_pos h
theorem dec_next {s : ByteArray} {k n : Nat} (h : offB s ≤ k) (hk : k < s.size) (hd : 48 ≤ s[k].toNat ∧ s[k].toNat ≤ 57) (hn : Lib.decFrom 0 ((digsB s).take (k - offB s)) = some n) :
    Lib.decFrom 0 ((digsB s).take (k + 1 - offB s)) = some (n * 10 + (s[k].toNat - 48)) := by
  have e : k + 1 - offB s = (k - offB s) + 1 := by omega
  rw [e]
  exact Lib.decFrom_take _ _ _ _ _ _ hn (digs_at h hk) (digit_sub hd)
theorem num_end {s : ByteArray} {n : Nat} (h : Lib.decFrom 0 (digsB s) = some n) : numOf s = if numB (sgnB s n) && decide (itoaS (sgnB s n) = s) then some (sgnB s n) else none := by
  by_cases hc : numB (sgnB s n) = true ∧ itoaS (sgnB s n) = s
  · rw [num_some.2 hc, if_pos (by simp [hc.1, hc.2])]
  · rw [if_neg (by simpa using hc)]
    cases hn : numOf s with
    | none => rfl
    | some m =>
      exfalso
      obtain ⟨h1, _, _, h4⟩ := num_digs hn
      rw [h] at h1
      injection h1 with h1
      rw [← h1] at h4
      rw [h4] at hc
      exact hc (num_some.1 hn)
theorem dec_same (n : Int) (s : ByteArray) : ((decS n).toList == s.toList) = decide (itoaS n = s) := by
  rw [Bool.eq_iff_iff, decide_eq_true_eq]
  constructor
  · intro h; exact eq_of_beq' h
  · rintro rfl; exact beq_self_eq_true _
theorem digs_all (s : ByteArray) : (digsB s).take (s.size - offB s) = digsB s := by
  refine List.take_of_length_le ?_
  unfold digsB
  rw [List.length_drop, size_list]; exact Nat.le_refl _
theorem pow18 {k : Nat} (h : k ≤ 17) : 10 ^ k ≤ 100000000000000000 := Nat.pow_le_pow_right (n := 10) (by omega) h
theorem pow19 {k : Nat} (h : k ≤ 18) : 10 ^ k ≤ 1000000000000000000 := Nat.pow_le_pow_right (n := 10) (by omega) h
set_option maxHeartbeats 2000000 in
theorem decimal_ref (s : ByteArray) (w : World) (hs : s.size ≤ 1000000) : Calls Tryz.prog 180 #[.string s] w (DecPost s w) := by
  have ho : offB s ≤ 1 := by unfold offB; split <;> omega
  have hos : offB s ≤ s.size := by
    by_cases h : 0 < s.size
    · omega
    · unfold offB; rw [neg_no h]; exact Nat.zero_le _
  have HOT : Hid (negB s = true → offB s = 1) := fun h => by unfold offB; rw [h]; rfl
  have HOF : Hid (negB s = false → offB s = 0) := fun h => by unfold offB; rw [h]; rfl
  go_enter Tryz.func180, Tryz.ntmps180
  go_upto_region 2 with fail
  go_cut [14] from 7 to 14 (fun b wc => b = .bool (negB s) ∧ w = wc)
  case first =>
    by_cases h0 : 0 < s.size
    · have hn := neg_lit h0
      have HN := Lib.hid hn
      have s4' : (0 : Int) < (s.size : Int) := by omega
      clear hn
      generalize hq : ((s[0].toNat : Int) == 45) = q at *
      cases q
      all_goals
        go_wp2_with fail
        go_meet
        exact ⟨by rw [HN.out], rfl⟩
    · have HN := Lib.hid (neg_no h0)
      have s4' : (s.size : Int) ≤ 0 := by omega
      go_wp2_with fail
      go_meet
      exact ⟨by rw [HN.out], rfl⟩
  case rest =>
    obtain ⟨rfl, rfl⟩ := hcut
    generalize hq : negB s = q
    have HQ := Lib.hid hq
    clear hq
    go_upto_if 14 with fail
    go_cut [4] from 7 to 14 (fun iv wc => iv = .int .i64 (offB s) ∧ w = wc)
    case first =>
      cases q
      · go_wp2_with fail
        go_meet
        exact ⟨by rw [HOF.out HQ.out]; rfl, rfl⟩
      · go_wp2_with fail
        go_meet
        exact ⟨by rw [HOT.out HQ.out]; rfl, rfl⟩
    case rest =>
      obtain ⟨rfl, rfl⟩ := hcut
      have HDN := Lib.hid (fun (k n : Nat) (h : offB s ≤ k) (hk : k < s.size) (hd : 48 ≤ s[k].toNat ∧ s[k].toNat ≤ 57) (hn : Lib.decFrom 0 ((digsB s).take (k - offB s)) = some n) => dec_next h hk hd hn)
      have HBD := Lib.hid (fun (k : Nat) (h : offB s ≤ k) (hk : k < s.size) (hb : ¬ (48 ≤ s[k].toNat ∧ s[k].toNat ≤ 57) ∨ offB s + 17 < k) => num_bad h hk hb)
      have HAL := Lib.hid (digs_all s)
      have HEN := Lib.hid (fun (n : Nat) (h : Lib.decFrom 0 (digsB s) = some n) => num_end h)
      have HOF' : Hid (negB s = false → ∀ n : Nat, sgnB s n = (n : Int)) := fun h n => by unfold sgnB; rw [h]; rfl
      have HOT' : Hid (negB s = true → ∀ n : Nat, sgnB s n = -(n : Int)) := fun h n => by unfold sgnB; rw [h]; rfl
      generalize offB s = o at *
      generalize digsB s = D at *
      go_wp2_with fail
      go_loopw [5, 6] (fun nv kv wr => ∃ k n : Nat, o ≤ k ∧ k ≤ s.size ∧ kv = .int .i64 k ∧ nv = .int .i64 n ∧ Lib.decFrom 0 (D.take (k - o)) = some n ∧ n < 10 ^ (k - o) ∧ k - o ≤ 18 ∧ w = wr) (fun _ kv _ => s.size - (intOf kv).toNat)
      case atStart => exact ⟨o, 0, Nat.le_refl _, hos, rfl, rfl, by rw [Nat.sub_self]; rfl, by rw [Nat.sub_self]; omega, by omega, rfl⟩
      case round =>
        obtain ⟨k, n, hok, hk, rfl, rfl, hdec, hlt10, h18, rfl⟩ := hrel
        have HD := Lib.hid (And.intro hdec hlt10)
        have hn18 := Nat.lt_of_lt_of_le hlt10 (pow19 h18)
        clear hdec hlt10
        have w1 : IntKind.i64.wrap ((o : Int) + 17) = (o : Int) + 17 := IntWalk.i64_in _ (by omega)
        by_cases hlt : k < s.size
        · have i1 : (0 : Int) ≤ (k : Int) := by omega
          have i2 : (k : Int) < (s.size : Int) := by omega
          by_cases h1 : (s[k].toNat : Int) < 48
          · have HB := Lib.hid (HBD.out k hok hlt (.inl (by omega)))
            go_wp2_with fail
            go_ret2
            exact ⟨0, false, rfl, HB.out, by unfold Fit; omega, rfl⟩
          by_cases h2 : 57 < (s[k].toNat : Int)
          · have HB := Lib.hid (HBD.out k hok hlt (.inl (by omega)))
            go_wp2_with fail
            go_ret2
            exact ⟨0, false, rfl, HB.out, by unfold Fit; omega, rfl⟩
          by_cases h3 : o + 17 < k
          · have HB := Lib.hid (HBD.out k hok hlt (.inr h3))
            have h3' : (o : Int) + 17 < (k : Int) := by omega
            go_wp2_with fail
            go_ret2
            exact ⟨0, false, rfl, HB.out, by unfold Fit; omega, rfl⟩
          · have h3' : (k : Int) ≤ (o : Int) + 17 := by omega
            have h17 : k - o ≤ 17 := by omega
            have hn17 := Nat.lt_of_lt_of_le HD.out.2 (pow18 h17)
            have HX := Lib.hid (HDN.out k n hok hlt (by omega) HD.out.1)
            have hc : (s[k].toNat : Int) ≤ 57 := by omega
            have hc' : (48 : Int) ≤ (s[k].toNat : Int) := by omega
            have HC : Hid (((s[k].toNat - 48 : Nat) : Int) = (s[k].toNat : Int) - 48) := by show _ = _; omega
            have HCL : Hid (s[k].toNat - 48 ≤ 9) := by show _ ≤ _; omega
            have w2 : IntKind.u8.wrap ((s[k].toNat : Int) - 48) = (s[k].toNat : Int) - 48 := IntWalk.u8_in _ (by omega)
            have w3 : IntKind.i64.wrap (10 * (n : Int)) = 10 * (n : Int) := IntWalk.i64_in _ (by omega)
            have w4 : IntKind.i64.wrap (10 * (n : Int) + ((s[k].toNat : Int) - 48)) = 10 * (n : Int) + ((s[k].toNat : Int) - 48) := IntWalk.i64_in _ (by omega)
            go_wp2_with fail
            go_roundw
            case rel =>
              refine ⟨k + 1, n * 10 + (s[k].toNat - 48), by omega, by omega, by go_num, ?_, HX.out, ?_, by omega, trivial⟩
              · congr 1
                have := HC.out
                rw [Int.natCast_add, this]
                omega
              · have := HD.out.2
                have e : k + 1 - o = (k - o) + 1 := by omega
                rw [e, Nat.pow_succ]
                have := HCL.out
                omega
            case measure => simp [intOf]; omega
        · obtain rfl : k = s.size := by omega
          have hdec := HD.out.1
          rw [HAL.out] at hdec
          have HE := Lib.hid (HEN.out n hdec)
          clear hdec
          cases q
          · have e1 := HOF'.out HQ.out n
            have e2 := HOF.out HQ.out
            rw [e1] at HE
            subst e2
            have HZ := Lib.hid (dec_same (n : Int) s)
            have HF : Hid (Fit (n : Int)) := by show Fit _; unfold Fit; omega
            clear e1
            generalize hnb : numB (n : Int) = nb at *
            go_wp2_with fail
            refine (number_ref (n : Int) _).mono ?_
            rintro e w2 ⟨rfl, rfl⟩
            rw [hnb]
            cases nb
            · go_wp2_with fail
              go_ret2
              exact ⟨n, false, rfl, HE.out, HF.out, rfl⟩
            · go_wp2_with fail
              refine (decimal_any (n : Int) _ HF.out).mono ?_
              rintro e w3 ⟨rfl, rfl⟩
              generalize hz : ((decS (n : Int)).toList == s.toList) = z
              have HZZ := Lib.hid hz
              go_wp2_with fail
              go_ret2
              refine ⟨n, z, rfl, ?_, HF.out, rfl⟩
              rw [HE.out, ← HZ.out, HZZ.out, Bool.true_and]
          · have e1 := HOT'.out HQ.out n
            have e2 := HOT.out HQ.out
            rw [e1] at HE
            subst e2
            have HZ := Lib.hid (dec_same (-(n : Int)) s)
            have HF : Hid (Fit (-(n : Int))) := by show Fit _; unfold Fit; omega
            have w5 : IntKind.i64.wrap (0 - (n : Int)) = -(n : Int) := by rw [IntWalk.i64_in _ (by omega)]; omega
            have w6 : IntKind.i64.wrap (-(n : Int)) = -(n : Int) := IntWalk.i64_in _ (by omega)
            clear e1
            generalize hnb : numB (-(n : Int)) = nb at *
            go_wp2_with fail
            refine (number_ref (-(n : Int)) _).mono ?_
            rintro e w2 ⟨rfl, rfl⟩
            rw [hnb]
            cases nb
            · go_wp2_with fail
              go_ret2
              exact ⟨-(n : Int), false, rfl, HE.out, HF.out, rfl⟩
            · go_wp2_with fail
              refine (decimal_any (-(n : Int)) _ HF.out).mono ?_
              rintro e w3 ⟨rfl, rfl⟩
              generalize hz : ((decS (-(n : Int))).toList == s.toList) = z
              have HZZ := Lib.hid hz
              go_wp2_with fail
              go_ret2
              refine ⟨-(n : Int), z, rfl, ?_, HF.out, rfl⟩
              rw [HE.out, ← HZ.out, HZZ.out, Bool.true_and]
def ParseRPost (s : ByteArray) (w : World) (e : Ending) (w' : World) : Prop := e = .returned (.tuple #[valV (parseE s).1, .bool (decide ((parseE s).2 = 0))]) ∧ Below w.heap.size w w'
set_option maxHeartbeats 2000000 in
theorem parse_ref (s : ByteArray) (w : World) (hs : s.size ≤ 1000000) : Calls Tryz.prog 151 #[.string s] w (ParseRPost s w) := by
  have hb := bone w (.cells #[.int .i64 0, .int .i64 0, .string ⟨#[]⟩] 121)
  have hB := Blk.new w 121 #[.int .i64 0, .int .i64 0, .string ⟨#[]⟩]
  go_enter Tryz.func151, Tryz.ntmps151
  go_upto_region 1 with fail
  generalize hw1 : w.alloc (.cells #[.int .i64 0, .int .i64 0, .string ⟨#[]⟩] 121) = w1 at *
  clear hw1
  generalize q1 : (s.toList == [116, 114, 117, 101]) = r1
  obtain ⟨x0, x1, x2⟩ := hB.c3
  have k0 := hB.frozen 0
  have k1 := hB.frozen 1
  have k2 := hB.frozen 2
  cases r1
  rotate_left
  · have e1 : s = trueS := eq_of_beq' (t := trueS) (by rw [t_true]; exact q1)
    have HP := Lib.hid (parse_true e1)
    clear e1
    go_wp2_with fail
    obtain ⟨t0, t1, t2⟩ := (hB.set3 (.int .i64 1) (.int .i64 1) (.string ⟨#[]⟩)).c3
    refine bodyPost_ret (v := .tuple #[.agg #[.int .i64 1, .int .i64 1, .string ⟨#[]⟩], .bool true]) (by simp [results, Tryz.results151, go_sem, t0, t1, t2]) rfl ?_
    exact ⟨by rw [HP.out]; rfl, bset3 hb (Nat.le_refl _) _ _ _⟩
  have n1 : s ≠ trueS := ne_of_beq (t := trueS) (by rw [t_true]; exact q1)
  generalize q2 : (s.toList == [102, 97, 108, 115, 101]) = r2
  cases r2
  rotate_left
  · have e1 : s = falseS := eq_of_beq' (t := falseS) (by rw [t_false]; exact q2)
    have HP := Lib.hid (parse_false e1)
    clear e1 n1
    go_wp2_with fail
    obtain ⟨t0, t1, t2⟩ := (hB.set3 (.int .i64 1) (.int .i64 0) (.string ⟨#[]⟩)).c3
    refine bodyPost_ret (v := .tuple #[.agg #[.int .i64 1, .int .i64 0, .string ⟨#[]⟩], .bool true]) (by simp [results, Tryz.results151, go_sem, t0, t1, t2]) rfl ?_
    exact ⟨by rw [HP.out]; rfl, bset3 hb (Nat.le_refl _) _ _ _⟩
  have n2 : s ≠ falseS := ne_of_beq (t := falseS) (by rw [t_false]; exact q2)
  have N := Lib.hid (And.intro n1 n2)
  clear n1 n2
  go_wp2_with fail
  refine (decimal_ref s _ hs).mono ?_
  rintro e w2 ⟨n, ok, rfl, hn, hf, rfl⟩
  have HN := Lib.hid hn
  clear hn
  cases ok
  rotate_left
  · have HP := Lib.hid (parse_num N.out.1 N.out.2 HN.out)
    go_wp2_with fail
    obtain ⟨t0, t1, t2⟩ := (hB.set3 (.int .i64 2) (.int .i64 n) (.string ⟨#[]⟩)).c3
    refine bodyPost_ret (v := .tuple #[.agg #[.int .i64 2, .int .i64 n, .string ⟨#[]⟩], .bool true]) (by simp [results, Tryz.results151, go_sem, t0, t1, t2]) rfl ?_
    exact ⟨by rw [HP.out]; rfl, bset3 hb (Nat.le_refl _) _ _ _⟩
  clear x0 x1 x2 k0 k1 k2
  go_wp2_with fail
  refine (unquote_ref s _ (by unfold maxLen; omega)).mono ?_
  rintro e w3 ⟨rfl, hb3⟩
  have hB3 := hB.now hb3
  have hbw3 := bthen hb hb3
  clear hB hb
  have hus := unq_size s
  generalize hu : unquoteE s = u at *
  obtain ⟨t, z⟩ := u
  dsimp only at *
  have HU := Lib.hid hu
  clear hu
  have hb4 := bone w3 (.cells #[.int .i64 3, .int .i64 0, .string t] 121)
  have hC4 := Blk.new w3 121 #[.int .i64 3, .int .i64 0, .string t]
  have hB4 := hB3.now hb4
  have hbw4 := bthen hbw3 hb4
  clear hB3
  have hft : FitV ⟨3, 0, t⟩ := ⟨by simp [Fit], by simp [Fit], by unfold maxLen; show t.size ≤ _; omega⟩
  have HB4 := Lib.hid (And.intro hB4 hbw4)
  obtain ⟨y0, y1, y2⟩ := hC4.c3
  obtain ⟨x0, x1, x2⟩ := hB4.c3
  have k0 := hB4.frozen 0
  have k1 := hB4.frozen 1
  have k2 := hB4.frozen 2
  clear hB4 hbw4 hC4
  have HNO : Hid ((z ≠ 0 ∨ textB t = false) → parseE s = (noV, 3)) := by
    intro h
    have hx : txtOf s = none := by
      cases hx : txtOf s with
      | none => rfl
      | some t' =>
        exfalso
        obtain ⟨e1, e2⟩ := txt_some.1 hx
        rw [HU.out] at e1
        injection e1 with e1 e3
        subst e1 e3
        rcases h with h | h
        · exact h rfl
        · rw [h] at e2; cases e2
    rw [parse_none N.out.1 N.out.2 HN.out hx]; rfl
  by_cases hz : z = 0
  · subst hz
    go_upto_region 10 with fail
    have hvv : validV ⟨3, 0, t⟩ = textB t := by show (decide ((0 : Int) = 0) && textB t) = textB t; rw [decide_eq_true rfl, Bool.true_and]
    go_wp2_with fail
    have hcl := validV_ref ⟨3, 0, t⟩ (w3.alloc (.cells #[.int .i64 3, .int .i64 0, .string t] 121)) hft
    unfold valV at hcl
    refine hcl.mono ?_
    clear hcl
    rintro e w5 ⟨rfl, hb5⟩
    rw [hvv]
    clear hvv x0 x1 x2 k0 k1 k2
    obtain ⟨hB4, hbw4⟩ := HB4.out
    have hB5 := hB4.now hb5
    have hbw5 := bthen hbw4 hb5
    have hC5 := (Blk.new w3 121 #[.int .i64 3, .int .i64 0, .string t]).now hb5
    clear y0 y1 y2 hB4 hbw4
    obtain ⟨y0, y1, y2⟩ := hC5.c3
    obtain ⟨x0, x1, x2⟩ := hB5.c3
    have k0 := hB5.frozen 0
    have k1 := hB5.frozen 1
    have k2 := hB5.frozen 2
    generalize htb : textB t = tb
    have HTB := Lib.hid htb
    clear htb
    cases tb
    · have HP := Lib.hid (HNO.out (.inr HTB.out))
      go_wp2_with fail
      obtain ⟨t0, t1, t2⟩ := (hB5.set3 (.int .i64 0) (.int .i64 0) (.string ⟨#[]⟩)).c3
      refine bodyPost_ret (v := .tuple #[.agg #[.int .i64 0, .int .i64 0, .string ⟨#[]⟩], .bool false]) (by simp [results, Tryz.results151, go_sem, t0, t1, t2]) rfl ?_
      exact ⟨by rw [HP.out]; rfl, bset3 hbw5 (Nat.le_refl _) _ _ _⟩
    · have HP := Lib.hid (parse_txt N.out.1 N.out.2 HN.out (txt_some.2 ⟨HU.out, HTB.out⟩))
      go_wp2_with fail
      obtain ⟨t0, t1, t2⟩ := (hB5.set3 (.int .i64 3) (.int .i64 0) (.string t)).c3
      refine bodyPost_ret (v := .tuple #[.agg #[.int .i64 3, .int .i64 0, .string t], .bool true]) (by simp [results, Tryz.results151, go_sem, t0, t1, t2]) rfl ?_
      exact ⟨by rw [HP.out]; rfl, bset3 hbw5 (Nat.le_refl _) _ _ _⟩
  · have HP := Lib.hid (HNO.out (.inl hz))
    have b1 : (z != 0) = true := by simpa using hz
    clear hz
    go_wp2_with fail
    obtain ⟨t0, t1, t2⟩ := (HB4.out.1.set3 (.int .i64 0) (.int .i64 0) (.string ⟨#[]⟩)).c3
    refine bodyPost_ret (v := .tuple #[.agg #[.int .i64 0, .int .i64 0, .string ⟨#[]⟩], .bool false]) (by simp [results, Tryz.results151, go_sem, t0, t1, t2]) rfl ?_
    exact ⟨by rw [HP.out]; rfl, bset3 HB4.out.2 (Nat.le_refl _) _ _ _⟩
end Go.Proofs.YtoalecalahkblaaGreatDoor
