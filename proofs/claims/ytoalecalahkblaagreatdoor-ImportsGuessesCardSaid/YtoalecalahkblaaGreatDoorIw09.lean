/- Texts of this seat, merged. -/
import Derived.ProofKit
import Derived.Deep.Slices
import Derived.Deep.Fields
import Derived.Deep.Strs
import Derived.ChangeSame
import Derived.Lib.SmallJoins
import Derived.LaidMore
import Derived.OpenShut
import Derived.Stop.Joined
import Derived.Test.YtoalecalahkblaaGreatDoorRows
import Derived.Test.YtoalecalahkblaaGreatDoorTie
import Derived.Test.YtoalecalahkblaaGreatDoorCards
import Derived.SevenTiedAt
import Derived.LaidLaws
import Derived.Lib.LaidTab
import Derived.Lay
import Derived.MakeChecks
import Derived.Shelf.Vars
import Derived.Test.YtoalecalahkblaaGreatDoorIw01
import Derived.Test.YtoalecalahkblaaGreatDoorIw02
import Derived.Test.YtoalecalahkblaaGreatDoorIw03
import Derived.Test.YtoalecalahkblaaGreatDoorIw04
import Derived.Test.YtoalecalahkblaaGreatDoorIw05
import Derived.Test.YtoalecalahkblaaGreatDoorIw06
import Derived.Test.YtoalecalahkblaaGreatDoorIw07
import Derived.Test.YtoalecalahkblaaGreatDoorIw08
set_option linter.all false
set_option linter.all false
namespace Go.Proofs.YtoalecalahkblaaGreatDoor
open Go.RowKit
theorem bs_append (a b : Bt) : bsOf a ++ bsOf b = bsOf (a ++ b) := by
  have : (bsOf a ++ bsOf b).data = (bsOf (a ++ b)).data := by
    rw [ByteArray.data_append]
    apply Array.toList_inj.1
    simp [bsOf]
  have h : ∀ x y : ByteArray, x.data = y.data → x = y := fun x y h => by cases x; cases y; congr
  exact h _ _ this
theorem tailT_take (sep : UInt8) : ∀ (f : Bool) (r : List Bt) (j : Nat), (tailT sep f (r.take j)).length ≤ (tailT sep f r).length
  | _, [], j => by simp
  | f, b :: r, 0 => Nat.zero_le _
  | f, b :: r, j + 1 => by
    have := tailT_take sep false r j
    show ((if f then [] else [sep]) ++ cellT sep b ++ tailT sep false (r.take j)).length ≤ ((if f then [] else [sep]) ++ cellT sep b ++ tailT sep false r).length
    simp only [List.length_append]
    omega
theorem mid_le {sep : UInt8} {rows : List (List Bt)} {k : Nat} {r : List Bt} (h : rows[k]? = some r) (j : Nat) : (tableT sep (rows.take k) ++ tailT sep true (r.take j)).length ≤ (tableT sep rows).length := by
  have h1 := tableT_take (sep := sep) rows (k + 1)
  have h2 := tailT_take sep true r j
  rw [tableT_step h] at h1
  rw [tailT_true r] at h2
  simp only [List.length_append, List.length_singleton] at h1 ⊢
  omega
set_option maxHeartbeats 8000000 in
set_option maxRecDepth 100000 in
theorem write_ref (rows : List (List Bt)) (v : Value) (sep : UInt8) (w : World) (h : SlSS (Lt w.heap.size) w v rows) (hs : SmallT rows) :
    Calls Tryz.prog 13 #[v, .int .u8 (sep.toNat : Int)] w (RetSE (writeE sep rows) w) := by
  have HSEP := Lib.hid (separator_ref sep)
  have HTAB := Lib.hid (table_ref rows v w h)
  have HH := Lib.hid h
  have HS := Lib.hid hs
  obtain ⟨A, c, rfl, _, _, _⟩ := h.open_
  clear h hs
  obtain ⟨q, hq⟩ : ∃ q, isSep sep = q := ⟨_, rfl⟩
  rw [hq] at HSEP
  have HQ := Lib.hid hq
  have HCV := Lib.hid (fun W : World => (OwnC.one W sep).conv)
  have HCR := Lib.hid (fun (t : Bt) (W : World) (ht : t.length ≤ 1000000) => cell_ref t sep W ht)
  obtain ⟨z, hz⟩ : ∃ z, (sep.toNat : Int) = z := ⟨_, rfl⟩
  rw [hz] at HSEP HCV HCR ⊢
  have HZ := Lib.hid hz
  clear hq hz
  cases q with
  | false =>
    have HE : Hid (writeE sep rows = ([], 1)) := by show _ = _; unfold writeE; rw [if_pos (.inl HQ.out)]
    go_enter Tryz.func13, Tryz.ntmps13
    go_wp2_with fail
    (with_reducible refine (HSEP.out _).mono ?_)
    rintro _ w1 ⟨rfl, rfl⟩
    go_wp2_with fail
    go_ret2
    show RetSE _ _ _ _
    rw [HE.out]
    exact ⟨rfl, Below.refl _ _⟩
  | true =>
    obtain ⟨qt, hqt⟩ : ∃ qt, tableB rows = qt := ⟨_, rfl⟩
    rw [hqt] at HTAB
    have HT := Lib.hid hqt
    clear hqt
    cases qt with
    | false =>
      have HE : Hid (writeE sep rows = ([], 1)) := by show _ = _; unfold writeE; rw [if_pos (.inr HT.out)]
      go_enter Tryz.func13, Tryz.ntmps13
      go_wp2_with fail
      (with_reducible refine (HSEP.out _).mono ?_)
      rintro _ w1 ⟨rfl, rfl⟩
      go_wp2_with fail
      (with_reducible refine HTAB.out.mono ?_)
      rintro _ w1 ⟨rfl, rfl⟩
      go_wp2_with fail
      go_ret2
      show RetSE _ _ _ _
      rw [HE.out]
      exact ⟨rfl, Below.refl _ _⟩
    | true =>
      by_cases h5 : 2001 < rows.length
      · have i5 : (2001 : Int) < (rows.length : Int) := by omega
        have HE : Hid (writeE sep rows = ([], 5)) := by
          show _ = _
          unfold writeE
          rw [if_neg (by rw [HQ.out, HT.out]; decide), if_pos h5]
        go_enter Tryz.func13, Tryz.ntmps13
        go_wp2_with fail
        (with_reducible refine (HSEP.out _).mono ?_)
        rintro _ w1 ⟨rfl, rfl⟩
        go_wp2_with fail
        (with_reducible refine HTAB.out.mono ?_)
        rintro _ w1 ⟨rfl, rfl⟩
        go_wp2_with fail
        go_ret2
        show RetSE _ _ _ _
        rw [HE.out]
        exact ⟨rfl, Below.refl _ _⟩
      · have i5 : ¬ (2001 : Int) < (rows.length : Int) := by omega
        have HE : Hid (writeE sep rows = if 16384 < (tableT sep rows).length then ([], 5) else (tableT sep rows, 0)) := by
          show _ = _
          unfold writeE
          rw [if_neg (by rw [HQ.out, HT.out]; decide), if_neg h5]
        go_enter Tryz.func13, Tryz.ntmps13
        go_wp2_with fail
        (with_reducible refine (HSEP.out _).mono ?_)
        rintro _ w1 ⟨rfl, rfl⟩
        go_wp2_with fail
        (with_reducible refine HTAB.out.mono ?_)
        rintro _ w1 ⟨rfl, rfl⟩
        go_wp2_with fail
        go_loopw [6, 7] (fun sv iv wr => ∃ k : Nat, iv = .int .i64 (k : Int) ∧ k ≤ rows.length ∧ sv = .string (bsOf (tableT sep (rows.take k))) ∧ Hid ((tableT sep (rows.take k)).length ≤ 16384 + k) ∧ Hid (Below w.heap.size w wr)) (fun _ iv _ => rows.length - (intOf iv).toNat)
        case atStart => exact ⟨0, rfl, Nat.zero_le _, rfl, Nat.zero_le _, Lib.hid (Below.refl _ _)⟩
        case round =>
          obtain ⟨k, rfl, hk, rfl, HL, HB⟩ := hrel
          by_cases hlt : k < rows.length
          · obtain ⟨b, o, r, u, rfl, hD, hx, hr, hc⟩ := SlSS.at_ HH.out hlt
            obtain ⟨Ar, cr, rfl, _, _, hr⟩ := hr.open_
            have HX := Lib.hid hx
            have HRR := Lib.hid hr
            have HCC := Lib.hid hc
            have HSR := Lib.hid (HS.out.2 r (List.mem_of_getElem? hx))
            have HLT0 := Lib.hid hD
            clear hx hr hc
            obtain ⟨T0, hT0⟩ : ∃ T0, tableT sep (rows.take k) = T0 := ⟨_, rfl⟩
            rw [hT0] at HL ⊢
            have HT0 := Lib.hid hT0
            clear hT0
            go_wp2_with fail
            go_loopw [6, 8] (fun sv iv wr => ∃ j : Nat, iv = .int .i64 (j : Int) ∧ j ≤ r.length ∧ sv = .string (bsOf (T0 ++ tailT sep true (r.take j))) ∧ Hid ((T0 ++ tailT sep true (r.take j)).length ≤ 16384 + k) ∧ Hid (Below w.heap.size w wr)) (fun _ iv _ => r.length - (intOf iv).toNat)
            case atStart => exact ⟨0, rfl, Nat.zero_le _, by show _ = Value.string (bsOf (T0 ++ [])); rw [List.append_nil], by show (T0 ++ []).length ≤ _; rw [List.append_nil]; have := HL.out; omega, HB⟩
            case round =>
              obtain ⟨j, rfl, hj, rfl, HL3, HB3⟩ := hrel
              have c0 := (HB3.out.cell (p := ⟨b, o + k, none⟩) HLT0.out).trans HCC.out
              by_cases hjl : j < r.length
              · obtain ⟨b2, o2, t, rfl, hD2, ht, htm, hc2⟩ := SlP.at_ HRR.out hjl
                have HD2 := Lib.hid hD2
                have HC2 := Lib.hid hc2
                have HTL := Lib.hid (HSR.out.2 t (List.mem_of_getElem? ht))
                have HST : Hid (tailT sep true (r.take (j + 1)) = tailT sep true (r.take j) ++ ((if j = 0 then [] else [sep]) ++ cellT sep t)) := by
                  show _ = _
                  have e : r.take (j + 1) = r.take j ++ [t] := by rw [List.take_add_one, ht]; rfl
                  rw [e, tailT_snoc]
                  congr 2
                  cases j with
                  | zero => rfl
                  | succ j =>
                    have : (r.take (j + 1)).isEmpty = false := by
                      cases r with
                      | nil => simp at hjl
                      | cons _ _ => rfl
                    rw [this]; simp
                have HMID := Lib.hid (mid_le (sep := sep) HX.out (j + 1))
                rw [HT0.out] at HMID
                obtain ⟨T, hT⟩ : ∃ T, T0 ++ tailT sep true (r.take j) = T := ⟨_, rfl⟩
                rw [hT] at HL3 ⊢
                have HTT := Lib.hid hT
                clear ht hc2 hT htm
                obtain ⟨q0, e0⟩ : ∃ q0, decide (0 < j) = q0 := ⟨_, rfl⟩
                go_upto_if 36 with fail
                have HQ0 := Lib.hid e0
                clear e0 c0
                go_cut [6] from 37 to 41 (fun sv W => sv = .string (bsOf (T ++ (if q0 = false then [] else [sep]))) ∧ Below w.heap.size w W)
                case first =>
                  cases q0 with
                  | false =>
                    go_wp2_with fail
                    go_meet
                    rw [if_pos (by first | rfl | trivial), List.append_nil]
                    exact ⟨rfl, HB3.out⟩
                  | true =>
                    have hcv := HCV.out
                    have hsz := bs_size T
                    have hl3 := HL3.out
                    obtain ⟨x1, hx1⟩ : ∃ x1, bsOf T = x1 := ⟨_, rfl⟩
                    rw [hx1] at hsz ⊢
                    have hn : ¬ 9223372036854775807 < x1.size + 1 := by omega
                    have HX1 := Lib.hid hx1
                    clear hx1 hsz hl3
                    have HBA := Lib.hid (HB3.out.trans ((bone _ (.cells #[.int .u8 z] 5)).mono HB3.out.size))
                    go_wp2_with fail
                    go_meet
                    rw [if_neg (by first | decide | exact id)]
                    refine ⟨?_, HBA.out⟩
                    rw [← HX1.out]
                    exact congrArg Value.string (bs_append T [sep])
                obtain ⟨rfl, hb4⟩ := hcut
                have HSJ : Hid ((if q0 = false then ([] : Bt) else [sep]) = if j = 0 then [] else [sep]) := by
                  show _ = _
                  have := HQ0.out
                  cases q0 with
                  | false => rw [if_pos rfl, if_pos (by have := of_decide_eq_false this; omega)]
                  | true => rw [if_neg (by decide), if_neg (by have := of_decide_eq_true this; omega)]
                rw [HSJ.out]
                have HB4 := Lib.hid hb4
                clear hb4 HSJ HQ0 HB3
                obtain ⟨T2, hT2⟩ : ∃ T2, T ++ (if j = 0 then [] else [sep]) = T2 := ⟨_, rfl⟩
                have hL2 : T2.length ≤ 20001 := by
                  rw [← hT2, List.length_append]
                  have := HL3.out
                  by_cases e : j = 0
                  · rw [if_pos e]; simp; omega
                  · rw [if_neg e]; simp; omega
                rw [hT2]
                have HTX : Hid (T0 ++ tailT sep true (r.take (j + 1)) = T2 ++ cellT sep t) := by
                  show _ = _
                  rw [HST.out, ← List.append_assoc, HTT.out, ← List.append_assoc, hT2]
                have c0 := (HB4.out.cell (p := ⟨b, o + k, none⟩) HLT0.out).trans HCC.out
                have d0 := (HB4.out.cell (p := ⟨b2, o2 + j, none⟩) HD2.out).trans HC2.out
                have hcl := cellT_len sep t
                have hsa := bs_size T2
                have hsb := bs_size (cellT sep t)
                have HCT := Lib.hid (HCR.out t wc HTL.out)
                have htl := HTL.out
                have HBS := Lib.hid (bs_append T2 (cellT sep t))
                obtain ⟨x1, hx1⟩ : ∃ x1, bsOf T2 = x1 := ⟨_, rfl⟩
                obtain ⟨x2, hx2⟩ : ∃ x2, bsOf (cellT sep t) = x2 := ⟨_, rfl⟩
                rw [hx1] at hsa HBS ⊢
                rw [hx2] at hsb HCT HBS
                have hn : ¬ 9223372036854775807 < x1.size + x2.size := by omega
                have HLN : Hid ((T2 ++ cellT sep t).length = x1.size + x2.size) := by show _ = _; rw [List.length_append]; omega
                clear hT2 hx1 hx2 hsa hsb hcl htl hL2
                go_wp2_with fail
                (with_reducible refine HCT.out.mono ?_)
                rintro _ w5 ⟨rfl, hb5⟩
                have HB5 := Lib.hid (HB4.out.trans (hb5.mono HB4.out.size))
                clear hb5 c0 d0
                by_cases hlen : 16384 < x1.size + x2.size
                · have i6 : (16384 : Int) < ((x1.size : Int) + (x2.size : Int)) := by omega
                  have HF : Hid (writeE sep rows = ([], 5)) := by
                    show _ = _
                    have := HMID.out
                    rw [HTX.out, HLN.out] at this
                    rw [HE.out, if_pos (by omega)]
                  clear hlen
                  go_wp2_with fail
                  go_ret2
                  show RetSE _ _ _ _
                  rw [HF.out]
                  exact ⟨rfl, HB5.out⟩
                · have i6 : ¬ (16384 : Int) < ((x1.size : Int) + (x2.size : Int)) := by omega
                  have HLL : Hid ((T2 ++ cellT sep t).length ≤ 16384) := by show _ ≤ _; rw [HLN.out]; omega
                  clear hlen
                  go_wp2_with fail
                  go_roundw
                  case rel => exact ⟨j + 1, by go_num, by omega, by rw [HTX.out, ← HBS.out], by show List.length _ ≤ _; rw [HTX.out]; have := HLL.out; omega, HB5⟩
                  case measure => simp [intOf]; omega
              · have hrj : r.take j = r := List.take_of_length_le (by omega)
                have HRT : Hid (tableT sep (rows.take (k + 1)) = (T0 ++ tailT sep true (r.take j)) ++ [10]) := by
                  show _ = _
                  rw [tableT_step HX.out, hrj, tailT_true, HT0.out, List.append_assoc]
                clear hrj
                obtain ⟨T, hT⟩ : ∃ T, T0 ++ tailT sep true (r.take j) = T := ⟨_, rfl⟩
                rw [hT] at HL3 HRT ⊢
                clear hT
                have hsa := bs_size T
                have hl3 := HL3.out
                have HBS := Lib.hid (bs_append T [10])
                obtain ⟨x1, hx1⟩ : ∃ x1, bsOf T = x1 := ⟨_, rfl⟩
                rw [hx1] at hsa HBS ⊢
                have hn : ¬ 9223372036854775807 < x1.size + 1 := by omega
                clear hx1 hsa hl3
                go_wp2_with fail
                go_roundw
                case rel => exact ⟨k + 1, by go_num, by omega, by rw [HRT.out, ← HBS.out]; rfl, by show _ ≤ _; rw [HRT.out, List.length_append, List.length_singleton]; have := HL3.out; omega, HB3⟩
                case measure => simp [intOf]; omega
          · have hrt : rows.take k = rows := List.take_of_length_le (by omega)
            rw [hrt] at HL ⊢
            have hsa := bs_size (tableT sep rows)
            by_cases hlen : 16384 < (tableT sep rows).length
            · have HF : Hid (writeE sep rows = ([], 5)) := by show _ = _; rw [HE.out, if_pos hlen]
              obtain ⟨x1, hx1⟩ : ∃ x1, bsOf (tableT sep rows) = x1 := ⟨_, rfl⟩
              rw [hx1] at hsa ⊢
              have i6 : (16384 : Int) < (x1.size : Int) := by omega
              clear hlen hsa hrt hx1
              go_wp2_with fail
              go_ret2
              show RetSE _ _ _ _
              rw [HF.out]
              exact ⟨rfl, HB.out⟩
            · have HF : Hid (writeE sep rows = (tableT sep rows, 0)) := by show _ = _; rw [HE.out, if_neg hlen]
              obtain ⟨x1, hx1⟩ : ∃ x1, bsOf (tableT sep rows) = x1 := ⟨_, rfl⟩
              rw [hx1] at hsa ⊢
              have i6 : ¬ (16384 : Int) < (x1.size : Int) := by omega
              have HX1 := Lib.hid hx1
              clear hlen hsa hrt hx1
              go_wp2_with fail
              go_ret2
              show RetSE _ _ _ _
              rw [HF.out, ← HX1.out]
              exact ⟨rfl, HB.out⟩
end Go.Proofs.YtoalecalahkblaaGreatDoor

set_option linter.all false
namespace Go.Proofs.YtoalecalahkblaaGreatDoor
open Go.RowKit
theorem small_of {rows : List (List Bt)} (h : wideB rows = false) : SmallT rows := by
  unfold wideB at h
  rw [Bool.or_eq_false_iff] at h
  obtain ⟨h1, h2⟩ := h
  constructor
  · unfold manyB at h1
    rw [Bool.or_eq_false_iff] at h1
    have := of_decide_eq_false h1.2
    omega
  · intro r hr
    have h3 := List.any_eq_false.1 h2 r hr
    have h3 : fatR r = false := by simpa using h3
    unfold fatR at h3
    rw [Bool.or_eq_false_iff] at h3
    constructor
    · have := of_decide_eq_false h3.1
      omega
    · intro b hb
      have h4 := List.any_eq_false.1 h3.2 b hb
      have h4 : fatB b = false := by simpa using h4
      have := of_decide_eq_false h4
      omega
set_option maxHeartbeats 4000000 in
set_option maxRecDepth 100000 in
theorem importsWrites_law (rows : List (List Bt)) (v : Value) (sep : UInt8) (w : World) (h : SlSS (Lt w.heap.size) w v rows) (ha : AmbP w) :
    Calls Tryz.prog 3 #[v, .int .u8 (sep.toNat : Int)] w fun e w' => e = .returned (.bool true) ∧ Below w.heap.size w w' := by
  have HAW := Lib.hid (awake_any w ha)
  have HH := Lib.hid h
  have HAM := Lib.hid ha
  have HWD := Lib.hid (fun W hW => wide_any v rows W hW)
  have HWP := Lib.hid (fun W hW hs hA => write_any rows v sep W hW hs hA)
  have HWR := Lib.hid (fun W hW hs => write_ref rows v sep W hW hs)
  obtain ⟨A, c, rfl, _, _, _⟩ := h.open_
  obtain ⟨z, hz⟩ : ∃ z, (sep.toNat : Int) = z := ⟨_, rfl⟩
  rw [hz] at HWP HWR ⊢
  obtain ⟨q, hq⟩ : ∃ q, wideB rows = q := ⟨_, rfl⟩
  rw [hq] at HWD
  have HQ := Lib.hid hq
  clear h ha hz hq
  go_enter Tryz.func3, Tryz.ntmps3
  go_wp2_with fail
  (with_reducible refine HAW.out.mono ?_)
  rintro _ w1 ⟨rfl, hb1⟩
  have HB1 := Lib.hid hb1
  have HW1 := Lib.hid (HWD.out w1 (HH.out.now hb1))
  clear hb1 HAW
  go_wp2_with fail
  (with_reducible refine HW1.out.mono ?_)
  rintro _ w2 ⟨rfl, hb2⟩
  have HB2 := Lib.hid (bthen HB1.out hb2)
  clear hb2 HW1 HB1
  cases q with
  | true =>
    go_wp2_with fail
    go_ret
    exact ⟨rfl, HB2.out⟩
  | false =>
    have HS := Lib.hid (small_of HQ.out)
    have HP2 := Lib.hid (HWP.out w2 (HH.out.now HB2.out) HS.out (HAM.out.now HB2.out))
    go_wp2_with fail
    (with_reducible refine HP2.out.mono ?_)
    rintro _ w3 ⟨rfl, hb3⟩
    have HB3 := Lib.hid (bthen HB2.out hb3)
    have HR3 := Lib.hid (HWR.out w3 (HH.out.now HB3.out) HS.out)
    clear hb3 HP2 HB2
    have HR4 : Hid (Calls Tryz.prog 13 #[.slice A rows.length c, .int .u8 z] w3 fun e w' => e = .returned (.tuple #[.string (bsOf (writeE sep rows).1), .int .i64 (writeE sep rows).2]) ∧ Below w3.heap.size w3 w') := HR3.out
    clear HR3
    generalize bsOf (writeE sep rows).1 = x at *
    generalize (writeE sep rows).2 = k at *
    go_wp2_with fail
    (with_reducible refine HR4.out.mono ?_)
    rintro _ w4 ⟨rfl, hb4⟩
    have HB4 := Lib.hid (bthen HB3.out hb4)
    clear hb4
    have e1 : (k == k) = true := beq_self_eq_true k
    go_wp2_with fail
    go_ret
    exact ⟨rfl, HB4.out⟩
end Go.Proofs.YtoalecalahkblaaGreatDoor

set_option linter.all false
namespace Go.Proofs.YtoalecalahkblaaGreatDoor
open Go.ChangeShapes Go.WideShapes Go.RowKit Go.Deep
theorem add_lit' (b o n j : Nat) : ((⟨b, o, none⟩ : Addr).add n).add j = ⟨b, o + n + j, none⟩ := by
  rw [add_add']; unfold Addr.add
  by_cases h : n + j = 0
  · have h1 : n = 0 := by omega
    have h2 : j = 0 := by omega
    subst h1 h2; rfl
  · rw [if_neg h]; simp [Nat.add_assoc]
theorem cell_spot {w : World} {a : Addr} {u : Value} (h : w.cell? a = some u) : a = ⟨a.block, a.off, none⟩ ∧ a.block < w.heap.size := by
  obtain ⟨b, o, s⟩ := a
  unfold World.cell? at h
  cases s with
  | none =>
    refine ⟨rfl, ?_⟩
    rcases Nat.lt_or_ge b w.heap.size with h' | h'
    · exact h'
    · simp [Array.getElem?_eq_none h'] at h
  | some s => split at h <;> simp at h
section
variable {H : Type} {enc : TypeId × Value → H} {P : Program} {w : World} {base : Nat} {spare : Nat → Bool} {held : Bool}
theorem post_of_below {f : Func} {s : ChangeSpec} {apart fresh handsOn again : Bool} {W W' : World} {args : Array Value} {v : Value} {ds gs : List (DataW H)} {before pa pv : List MemPlace}
    (hW : DataW.Whole enc P f.params.toList s.vars apart W args.toList ds gs before)
    (hres : ∀ (b : Nat) (sp : Nat → Bool) (hd : Bool), DataW.TrodAll enc P W' b sp hd f.resultTypes.toList (v.resultList f.resultTypes.size) (s.fn H (ds ++ gs)).results [])
    (hargs : ∀ sp : Nat → Bool, (∀ p ∈ before, sp p.block = true) → DataW.TrodAll enc P W' 0 sp true f.params.toList args.toList (s.fn H (ds ++ gs)).args pa)
    (hvars : ∀ sp : Nat → Bool, (∀ p ∈ before, sp p.block = true) → DataW.TrodVars enc P W' sp s.vars (s.fn H (ds ++ gs)).vars pv)
    (hps : before = pa ++ pv) (hb : Below W.heap.size W W')
    (hok : ∀ (j : Nat) (t : TypeId) (r : Value), f.resultTypes[j]? = some t → (v.resultList f.resultTypes.size)[j]? = some r → Value.okWide P W' .any 0 t r) :
    s.post enc P f apart fresh handsOn again W args v W' := by
  have hlt : ∀ p ∈ before, p.block < W.heap.size := fun p hp => hW.lt p hp
  have hold : ∀ p ∈ before, (fun b => decide (b < W.heap.size)) p.block = true := fun p hp => by simpa using hlt p hp
  refine ⟨ds, gs, before, [], pa, pv, hW, hres _ _ _, hargs _ hold, hvars _ hold, World.keptBut_mono (fun p hp => ⟨hp, ?_⟩) (hb.frame (· ∈ before)), fun _ => ?_⟩
  · rw [hps, List.mem_append] at hp
    exact Or.inr hp
  · obtain ⟨_, _, _, _, _, hz, hn⟩ := hW
    refine ⟨hok, _, _, ([] ++ pa) ++ pv, ⟨[] ++ pa, pv, trodAll_append (hargs _ (fun _ _ => rfl)) (hres _ _ _), hvars _ (fun _ _ => rfl), rfl, ?_, ?_⟩, ?_⟩
    · intro b off hp
      have hin : MemPlace.cell b off ∈ before := by rw [hps]; simpa using hp
      rw [hb.frozen (hlt _ hin)]
      exact hz b off hin
    · intro ha
      have := hn ha
      rw [hps] at this
      simpa using this
    · intro p hp _
      rw [hps]
      simpa using hp
end
end Go.Proofs.YtoalecalahkblaaGreatDoor

set_option linter.all false
namespace Go.Proofs.YtoalecalahkblaaGreatDoor
open Go.ChangeShapes Go.WideShapes Go.ChangeAt Go.RowKit Go.Deep
section
variable {H : Type} {enc : TypeId × Value → H} {P : Program} {w : World} {base : Nat} {spare : Nat → Bool} {held : Bool}
theorem Sl.of_trodN {α : Type} [Inhabited α] {size : Nat} {R : ElemR α} {t e : TypeId} {fuel : Nat} {v : Value} {x : DataW H × List MemPlace} (ht : P.underlying t = some (.slice e)) (hsz : P.cellsOf e = size) (hs0 : 0 < size)
    (hR : ∀ (fuel' : Nat), fuel' < fuel → ∀ (cs : List Value) (y : DataW H × List MemPlace), DataW.trod enc P w base spare held fuel' e cs = some y → ∃ z, R (Lt w.heap.size) w z cs)
    (h : DataW.trod enc P w base spare held fuel t [v] = some x) : ∃ xs, Sl size R (Lt w.heap.size) w v xs := by
  rcases DataW.trod_slice ht h with ⟨hv, _⟩ | ⟨a, len, cap, elems, rest, n, hfu, hv, _, _, hl, hm, hlen, hi, _, _⟩
  · injection hv with hv; subst hv; exact ⟨[], Sl.none_⟩
  · injection hv with hv
    subst hv
    have key : ∀ i, ∃ z : α, i < len → ∃ cs : List Value, cs.length = size ∧ R (Lt w.heap.size) w z cs ∧ ∀ j, j < size → w.cell? ((a.add (i * size)).add j) = cs[j]? := by
      intro i
      by_cases hlt : i < len
      · have hh := hi i hlt
        rw [List.getElem?_eq_getElem (by omega)] at hh
        obtain ⟨cs', hc, htr⟩ := Option.bind_eq_some_iff.1 hh
        rw [hsz] at hc
        obtain ⟨z, hz⟩ := hR n (by omega) _ _ htr
        obtain ⟨_, hcl, hat⟩ := World.cells?_some hc
        exact ⟨z, fun _ => ⟨cs', hcl, hz, hat⟩⟩
      · exact ⟨default, fun h' => absurd h' hlt⟩
    refine ⟨(List.range len).map fun i => Classical.choose (key i), some a, cap, by simp, by simpa using hl, hm, fun i z hz => ?_⟩
    rw [List.getElem?_map] at hz
    have hlt : i < len := by
      rcases Nat.lt_or_ge i len with h' | h'
      · exact h'
      · rw [List.getElem?_eq_none (by simpa using h')] at hz; simp at hz
    rw [List.getElem?_range hlt] at hz
    injection hz with hz
    obtain ⟨cs, hcl, hr, hat⟩ := Classical.choose_spec (key i) hlt
    obtain ⟨cs0, hcl0, _, hat0⟩ := Classical.choose_spec (key 0) (by omega)
    have h00 := hat0 0 hs0
    have hc0 : cs0[0]? = some (cs0[0]'(by omega)) := List.getElem?_eq_getElem (by omega)
    rw [hc0] at h00
    have ha0 : (a.add (0 * size)).add 0 = a := by simp [Addr.add]
    rw [ha0] at h00
    obtain ⟨ha, hblk⟩ := cell_spot h00
    replace hz : Classical.choose (key i) = z := hz
    rw [hz] at hr
    refine ⟨a.block, a.off, cs, by rw [← ha], hblk, hcl, hr, fun j u hu => ?_⟩
    have hj : j < size := by
      rcases Nat.lt_or_ge j cs.length with h' | h'
      · omega
      · rw [List.getElem?_eq_none h'] at hu; cases hu
    have := hat j hj
    rw [ha, add_lit'] at this
    rw [this, hu]
end
theorem own : ownKnob Tryz.prog.godebug = none := by kernel_rfl
theorem laidOut : laidOutB Tryz.prog = true := by kernel_rfl
theorem door_met (os : Os) (args : Array Value) : laidMetH Tryz.prog Rows.importsWritesRow.laid ((World.laidAll Tryz.prog os Rows.importsWritesRow.laid).forCall (fun _ _ => 0) ⟨#[], args, []⟩).memory := by
  rw [MakeChecks.laidMetH_plain _ _ _ (by kernel_rfl)]
  exact laidMet_laidAll _ (by kernel_rfl) (by kernel_rfl)
theorem stays {H : Type} {enc : TypeId × Value → H} {t : TypeId} (hr : Tryz.prog.readableRec t = true) (hrow : t < Tryz.prog.types.size) {W W' : World} {v : Value} {d : DataW H} {ps : List MemPlace} {sp : Nat → Bool}
    (h : DataW.Trod enc Tryz.prog W 0 (fun _ => true) true t v d ps) (hb : Below W.heap.size W W') (hlt : ∀ x ∈ ps, x.block < W.heap.size) (hsp : ∀ x ∈ ps, sp x.block = true) : DataW.Trod enc Tryz.prog W' 0 sp true t v d ps :=
  WideElems.Trod_stays laidOut hr hrow h (fun x hx => hb.same (hlt x hx)) hsp
theorem readRows : Tryz.prog.readableRec 22 = true := by kernel_rfl
theorem rowRows : 22 < Tryz.prog.types.size := of_decide_eq_true (by kernel_rfl)
theorem cellsStrs : Tryz.prog.cellsOf 51 = 1 := by kernel_rfl
theorem cellsStr1 : Tryz.prog.cellsOf 9 = 1 := by kernel_rfl
theorem laid_at {P : Program} {w : World} {n : String} {d : DataW Unit} : ∀ {l : List (String × DataW Unit)} {ps : List MemPlace}, DataW.LaidVars P w l ps → (n, d) ∈ l →
    ∃ g t cs fuel p, P.globalNamed n = some g ∧ (P.globals[g]?).map (·.type) = some t ∧ w.var? P n = some cs ∧ DataW.trod (fun _ => ()) P w 0 (fun _ => true) false fuel t cs.toList = some (d, p) := by
  intro l
  induction l with
  | nil => intro ps _ h; cases h
  | cons a l ih =>
    intro ps h hm
    obtain ⟨n', d'⟩ := a
    obtain ⟨g, t, cs, fuel, p, q, h1, h2, h3, h4, h5, _⟩ := h
    rcases List.mem_cons.1 hm with e | hm
    · injection e with e1 e2
      subst e1 e2
      exact ⟨g, t, cs, fuel, p, h1, h2, h3, h4⟩
    · exact ih h5 hm
theorem tab_same : (Rows.laid_internal_strconv_uint64pow10 : DataW Unit) = Lib.tabData .u64 Lib.pow10Tab := by rfl
theorem gPow : Tryz.prog.globalNamed "internal/strconv.uint64pow10" = some 5 := by kernel_rfl
theorem gSyn : Tryz.prog.globalNamed "strconv.ErrSyntax" = some 3 := by kernel_rfl
theorem gRng : Tryz.prog.globalNamed "strconv.ErrRange" = some 4 := by kernel_rfl
theorem tPow : (Tryz.prog.globals[5]?).map (·.type) = some 240 := by kernel_rfl
theorem tSyn : (Tryz.prog.globals[3]?).map (·.type) = some 77 := by kernel_rfl
theorem tRng : (Tryz.prog.globals[4]?).map (·.type) = some 77 := by kernel_rfl
theorem err_of {P : Program} {w : World} {n : String} {g : Nat} {t : TypeId} {ms : Array (String × TypeId)} {name : String} {d : DataW Unit} {l : List (String × DataW Unit)} {ps : List MemPlace} (hl : DataW.LaidVars P w l ps) (hm : (n, .iface name d) ∈ l)
    (hg : P.globalNamed n = some g) (ht : (P.globals[g]?).map (·.type) = some t) (hi : P.underlying t = some (.interface ms)) : ∃ tp p, w.var? P n = some #[.iface tp p] := by
  obtain ⟨g', t', cs, fuel, p, h1, h2, h3, h4⟩ := laid_at hl hm
  obtain rfl := Option.some.inj (hg.symm.trans h1)
  obtain rfl := Option.some.inj (ht.symm.trans h2)
  obtain ⟨_, u, v, hcs, _⟩ := iface_of_trod hi h4
  refine ⟨u, v, ?_⟩
  rw [h3]
  cases cs
  simp_all
theorem tab_of {P : Program} {w : World} {n : String} {g : Nat} {t e : TypeId} {m : Nat} {k : IntKind} {zs : List Int} {l : List (String × DataW Unit)} {ps : List MemPlace} (hl : DataW.LaidVars P w l ps) (hm : (n, Lib.tabData k zs) ∈ l)
    (hg : P.globalNamed n = some g) (hty : (P.globals[g]?).map (·.type) = some t) (ht : P.underlying t = some (.array m e)) (he : P.underlying e = some (.int k)) (hce : P.cellsOf e = 1) (hct : P.cellsOf t = m) : Lib.TabIs P w n k zs := by
  obtain ⟨g', t', cs, fuel, p, h1, h2, h3, h4⟩ := laid_at hl hm
  obtain rfl := Option.some.inj (hg.symm.trans h1)
  obtain rfl := Option.some.inj (hty.symm.trans h2)
  unfold Lib.TabIs
  rw [h3, ← Lib.cells_of_tab ht he hce hct h4]
theorem laid_list : Rows.importsWritesRow.laid = [("math/bits.deBruijn32tab", Rows.laid_math_bits_deBruijn32tab), ("math/bits.deBruijn64tab", Rows.laid_math_bits_deBruijn64tab), ("internal/strconv.uint64pow10", Rows.laid_internal_strconv_uint64pow10), ("unicode/utf8.acceptRanges", Rows.laid_unicode_utf8_acceptRanges), ("strconv.ErrRange", Rows.laid_strconv_ErrRange), ("strconv.ErrSyntax", Rows.laid_strconv_ErrSyntax), ("unicode/utf8.first", Rows.laid_unicode_utf8_first)] := rfl
theorem cellsU64 : Tryz.prog.cellsOf 192 = 1 := by kernel_rfl
theorem cellsTab : Tryz.prog.cellsOf 240 = 20 := by kernel_rfl
theorem uTab : Tryz.prog.underlying 240 = some (.array 20 192) := by kernel_rfl
theorem uU64 : Tryz.prog.underlying 192 = some (.int .u64) := by kernel_rfl
theorem met_plain {w : World} (h : laidMetH Tryz.prog Rows.importsWritesRow.laid w) : laidMet Tryz.prog Rows.importsWritesRow.laid w := by
  rw [MakeChecks.laidMetH_plain _ _ _ (by kernel_rfl)] at h
  exact h
theorem amb_of {w : World} (h : laidMetH Tryz.prog Rows.importsWritesRow.laid w) (hsh : w.ShapedOpen Tryz.prog) : AmbP w := by
  obtain ⟨ps, hl, _⟩ := met_plain h
  rw [laid_list] at hl
  refine ⟨tab_of hl (by rw [← tab_same]; simp only [List.mem_cons, true_or, or_true]) gPow tPow uTab uU64 cellsU64 cellsTab, ?_, ?_, ?_⟩
  · exact err_of (name := "*errors.errorString") hl (.tail _ (.tail _ (.tail _ (.tail _ (.tail _ (.head _)))))) gSyn tSyn Tryz.underlying77
  · exact err_of (name := "*errors.errorString") hl (.tail _ (.tail _ (.tail _ (.tail _ (.head _))))) gRng tRng Tryz.underlying77
  · exact cell_of_shapedOpen_int (zero := #[.int .i64 0]) (t := 3) hsh (of_decide_eq_true (by kernel_rfl)) (by kernel_rfl) rfl (by kernel_rfl) (by kernel_rfl) Tryz.underlying3
theorem handed_shaped {H : Type} {enc : TypeId × Value → H} {a : Assume} {C : Checked} {os : Os} {f : FuncId} {fn : Func} {s : ChangeSpec} {conds : List PathCond} {apart fresh handsOn again : Bool} {X : World → Array Value → Prop}
    (hX : ∀ (w w' : World) (args : Array Value), w.heap = w'.heap → X w args → X w' args)
    (own : ownKnob C.prog.godebug = none) (started : os.Started) (noInit : C.prog.inits.idxOf? f = none) (hfn : C.prog.funcs[f]? = some fn)
    (witness : ∃ (w : World) (tape : Tape) (i : Input), w.os = os ∧ (w.forCall tape i).Shaped C.prog ∧ i.vars = [] ∧ Input.okWide C.prog (w.forCall tape i) .any w.heap.size f i ∧
      ((s.pre enc C.prog fn conds apart (w.forCall tape i).memory i.args ∧ X (w.forCall tape i).memory i.args) ∧ sizedMet enc C.prog fn (OpenSpec.ofChange s) apart (w.forCall tape i).memory i.args) ∧ a.holds C.prog (lone (Frame.enter C.prog f i.args .normal) [] (w.forCall tape i)))
    (contract : ∀ (W : World) (base : Nat) (args : Array Value) (ds gs : List (DataW H)) (before : List MemPlace),
      (∀ (j : Nat) t v, fn.params[j]? = some t → args[j]? = some v → Value.okWide C.prog W .any base t v) →
      DataW.Whole enc C.prog fn.params.toList s.vars apart W args.toList ds gs before → W.ShapedOpen C.prog → X W args →
      Calls C.prog f args W fun e W' => ∃ v, e = .returned v ∧ s.post enc C.prog fn apart fresh handsOn again W args v W') :
    ReturnsInHanded a C os f .any (fun w args => (s.pre enc C.prog fn conds apart w args ∧ X w args) ∧ sizedMet enc C.prog fn (OpenSpec.ofChange s) apart w args) (s.post enc C.prog fn apart fresh handsOn again) := by
  refine returnsInHanded_of_calls own started noInit witness ?_
  intro w tape i _ hsh _ hok hpre hholds
  obtain ⟨_, _, _, fn', hfn', _, _, _, _, hval⟩ := hok
  have e : fn' = fn := Option.some.inj (hfn'.symm.trans hfn)
  subst e
  obtain ⟨⟨⟨ds, gs, before, hw, hc⟩, hx⟩, hz⟩ := hpre
  have hw' := DataW.Whole.of_heap (w' := w.forCall tape i) (by rfl) hw
  refine (contract (w.forCall tape i) w.heap.size i.args ds gs before hval hw' hsh (hX _ _ _ (by rfl) hx)).mono fun e W' ⟨v, he, hp⟩ => ?_
  subst he
  exact ChangeSpec.post_blind hp
section
variable {H : Type} {enc : TypeId × Value → H} {w : World} {base : Nat} {spare : Nat → Bool} {held : Bool}
set_option maxRecDepth 100000 in
theorem slice_of {r : Go.Reach} {b0 : Nat} {v : Value} {d : DataW H} {p : List MemPlace} {t e : TypeId} (hs : Tryz.prog.underlying t = some (.slice e)) (hv : Value.okWide Tryz.prog w r b0 t v) (h : DataW.Trod enc Tryz.prog w base spare held t v d p) : ∃ fuel x, DataW.trod enc Tryz.prog w base spare held fuel t [v] = some x := by
  obtain ⟨a, len, cap, rfl⟩ := okWide_slice hs hv
  obtain ⟨fuel, hf⟩ := h
  exact ⟨fuel, (d, p), hf⟩
set_option maxRecDepth 100000 in
theorem strsI_of {fuel : Nat} {v : Value} {x : DataW H × List MemPlace} (h : DataW.trod enc Tryz.prog w base spare held fuel 51 [v] = some x) : ∃ ls : List Bt, SlP (Lt w.heap.size) w v ls := by
  obtain ⟨ss, hs⟩ := Sl.of_trodN (R := RStr) (size := 1) Tryz.underlying51 cellsStr1 (by omega) (fun f _ cs y hh => by
    obtain ⟨s, e0, _, hs⟩ := DataW.trod_string Tryz.underlying9 hh
    exact ⟨s, e0, hs⟩) h
  refine ⟨ss.map fun s => s.data.toList, ?_⟩
  have e : (ss.map fun s => s.data.toList).map bsOf = ss := by
    rw [List.map_map]
    conv => rhs; rw [← List.map_id ss]
    exact List.map_congr_left fun s _ => bs_of s
  show SlS _ _ _ _
  rw [e]
  exact hs
set_option maxRecDepth 100000 in
theorem rows_of {r : Go.Reach} {b0 : Nat} {v : Value} {d : DataW H} {p : List MemPlace} (hv : Value.okWide Tryz.prog w r b0 22 v) (h : DataW.Trod enc Tryz.prog w base spare held 22 v d p) : ∃ rows : List (List Bt), SlSS (Lt w.heap.size) w v rows := by
  obtain ⟨_, _, hy⟩ := slice_of Tryz.underlying22 hv h
  exact Sl.of_trodN (R := RStrs) (size := 1) Tryz.underlying22 cellsStrs (by omega) (fun f _ cs y hh => by
    have hone : ∃ v, cs = [v] := by
      rcases DataW.trod_slice Tryz.underlying51 hh with ⟨hv, _⟩ | ⟨_, _, _, _, _, _, _, hv, _⟩
      · exact ⟨_, hv⟩
      · exact ⟨_, hv⟩
    obtain ⟨v, rfl⟩ := hone
    obtain ⟨rs, hr⟩ := strsI_of hh
    exact ⟨rs, v, rfl, hr⟩) hy
end
theorem byte_of_wf {n : Int} (h : (Lit.int .u8 n).wf = true) : ∃ c : UInt8, n = (c.toNat : Int) := by
  have h' : decide ((0 : Int) ≤ n) = true ∧ decide (n ≤ (255 : Int)) = true := by
    rw [← Bool.and_eq_true]; exact h
  obtain ⟨h1, h2⟩ := h'
  have h1 := of_decide_eq_true h1
  have h2 := of_decide_eq_true h2
  exact ⟨UInt8.ofNat n.toNat, by rw [UInt8.toNat_ofNat']; omega⟩
end Go.Proofs.YtoalecalahkblaaGreatDoor

set_option linter.all false
namespace Go.Proofs.YtoalecalahkblaaGreatDoor
open Go.RowKit
theorem importsWrites_row (rows : List (List Bt)) (n : Int) (v : Value) (w : World) (h : SlSS (Lt w.heap.size) w v rows) (hn : (Lit.int .u8 n).wf = true) (ha : AmbP w) :
    Calls Tryz.prog 3 #[v, .int .u8 n] w fun e w' => e = .returned (.bool true) ∧ Below w.heap.size w w' := by
  obtain ⟨c, rfl⟩ := byte_of_wf hn
  exact importsWrites_law rows v c w h ha
end Go.Proofs.YtoalecalahkblaaGreatDoor
