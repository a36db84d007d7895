/- Texts of this seat, merged. -/
import Derived.StillTailTactics
import Derived.RegionTactic
import Derived.Deep.CutRange
import Derived.Deep.CutBlock
import Derived.Laws.StructEq
import Derived.BigQuiet
import Derived.Deep.QuietTactic
import Derived.Test.YtoalecalahkblaaGreatDoorIw01
import Derived.Test.YtoalecalahkblaaGreatDoorIw02
import Derived.Test.YtoalecalahkblaaGreatDoorIw03
import Derived.Test.YtoalecalahkblaaGreatDoorIw04
import Derived.Test.YtoalecalahkblaaGreatDoorIw05
import Derived.Test.YtoalecalahkblaaGreatDoorIw06
import Derived.Test.YtoalecalahkblaaGreatDoorIw07
set_option linter.all false
set_option linter.all false
namespace Go.Proofs.YtoalecalahkblaaGreatDoor
open Go.RowKit
def SmallT (rows : List (List Bt)) : Prop := rows.length ≤ 1000000 ∧ ∀ r ∈ rows, r.length ≤ 1000000 ∧ ∀ b ∈ r, b.length ≤ 1000000
def rowOk (r : List Bt) : Bool := !r.isEmpty && r.all fun b => b.all printB
def RetSE (p : Bt × Int) (w : World) (e : Ending) (w' : World) : Prop := e = .returned (.tuple #[.string (bsOf p.1), .int .i64 p.2]) ∧ Below w.heap.size w w'
theorem tableB_rowOk (rows : List (List Bt)) : tableB rows = rows.all rowOk := rfl
theorem all_take_step {α : Type} {p : α → Bool} {xs : List α} {j : Nat} {x : α} (hx : xs[j]? = some x) (hp : p x = true) (h : (xs.take j).all p = true) : (xs.take (j + 1)).all p = true := by
  rw [List.take_add_one, hx, List.all_append, h]
  simp [hp]
theorem all_take_bad {α : Type} {p : α → Bool} {xs : List α} {j : Nat} {x : α} (hx : xs[j]? = some x) (hp : p x = false) : xs.all p = false := by
  rw [List.all_eq_false]
  exact ⟨x, List.mem_of_getElem? hx, by rw [hp]; decide⟩
theorem cellT_yes {sep : UInt8} {b : Bt} (h : special sep b = true) : cellT sep b = 34 :: (quoteB b ++ [34]) := by unfold cellT; rw [if_pos h]
theorem cellT_no {sep : UInt8} {b : Bt} (h : special sep b = false) : cellT sep b = b := by unfold cellT; rw [if_neg (by rw [h]; decide)]
theorem tailT_snoc {sep : UInt8} (b : Bt) : ∀ (f : Bool) (a : List Bt), tailT sep f (a ++ [b]) = tailT sep f a ++ ((if f && a.isEmpty then [] else [sep]) ++ cellT sep b)
  | f, [] => by simp [tailT]
  | f, x :: a => by
    have ih := tailT_snoc (sep := sep) b false a
    show (if f then [] else [sep]) ++ cellT sep x ++ tailT sep false (a ++ [b]) = ((if f then [] else [sep]) ++ cellT sep x ++ tailT sep false a) ++ _
    rw [ih]
    simp
theorem tailT_len {sep : UInt8} : ∀ (f : Bool) (a : List Bt), (∀ b ∈ a, b.length ≤ 1000000) → (tailT sep f a).length ≤ a.length * 2000003
  | _, [], _ => Nat.zero_le _
  | f, b :: a, h => by
    have ih := tailT_len (sep := sep) false a fun x hx => h x (List.mem_cons_of_mem _ hx)
    have h1 := cellT_len sep b
    have h2 := h b List.mem_cons_self
    show ((if f then [] else [sep]) ++ cellT sep b ++ tailT sep false a).length ≤ _
    rw [List.length_append, List.length_append, List.length_cons, Nat.succ_mul]
    cases f <;> simp <;> omega
theorem tableT_step {sep : UInt8} {rows : List (List Bt)} {k : Nat} {r : List Bt} (h : rows[k]? = some r) : tableT sep (rows.take (k + 1)) = tableT sep (rows.take k) ++ (cellsT sep r ++ [10]) := by
  have e : rows.take (k + 1) = rows.take k ++ [r] := by rw [List.take_add_one, h]; rfl
  rw [e, tableT_append]
  show _ ++ (rowT sep r ++ []) = _
  rw [List.append_nil]; rfl
set_option maxHeartbeats 8000000 in
set_option maxRecDepth 100000 in
theorem write_any (rows : List (List Bt)) (v : Value) (sep : UInt8) (w : World) (h : SlSS (Lt w.heap.size) w v rows) (hs : SmallT rows) (ha : AmbP w) :
    Calls Tryz.prog 12 #[v, .int .u8 (sep.toNat : Int)] w (RetSE (writeE sep rows) w) := by
  have HSEP := Lib.hid (separates_any sep)
  have HH := Lib.hid h
  have HS := Lib.hid hs
  have HA := Lib.hid ha
  obtain ⟨A, c, rfl, _, _, _⟩ := h.open_
  clear h hs ha
  obtain ⟨q, hq⟩ : ∃ q, isSep sep = q := ⟨_, rfl⟩
  rw [hq] at HSEP
  have HQ := Lib.hid hq
  obtain ⟨z, hz⟩ : ∃ z, (sep.toNat : Int) = z := ⟨_, rfl⟩
  rw [hz] at HSEP ⊢
  have HZ := Lib.hid hz
  clear hq hz
  cases q with
  | false =>
    have HE : Hid (writeE sep rows = ([], 1)) := by show _ = _; unfold writeE; rw [if_pos (.inl HQ.out)]
    go_enter Tryz.func12, Tryz.ntmps12
    go_wp2_with fail
    (with_reducible refine (HSEP.out _).mono ?_)
    rintro _ w1 ⟨rfl, rfl⟩
    go_wp2_with fail
    go_ret2
    show RetSE _ _ _ _
    rw [HE.out]
    exact ⟨rfl, Below.refl _ _⟩
  | true =>
    go_enter Tryz.func12, Tryz.ntmps12
    go_wp2_with fail
    (with_reducible refine (HSEP.out _).mono ?_)
    rintro _ w1 ⟨rfl, rfl⟩
    go_wp2_with fail
    go_loopw [18] (fun iv wr => ∃ k : Nat, iv = .int .i64 (k : Int) ∧ k ≤ rows.length ∧ Hid ((rows.take k).all rowOk = true) ∧ Hid (Below w.heap.size w wr)) (fun iv _ => rows.length - (intOf iv).toNat)
    case atStart => exact ⟨0, rfl, Nat.zero_le _, rfl, Lib.hid (Below.refl _ _)⟩
    case round =>
      obtain ⟨k, rfl, hk, HP, HB⟩ := hrel
      by_cases hlt : k < rows.length
      · obtain ⟨b, o, r, u, rfl, hD, hx, hr, hc⟩ := SlSS.at_ HH.out hlt
        have c0 := (HB.out.cell (p := ⟨b, o + k, none⟩) hD).trans hc
        have hr2 : SlP (Lt wr.heap.size) wr u r := SlS.below hr HB.out HB.out.size
        have HRB := Lib.hid (rowBad_any u r wr hr2 (HS.out.2 r (List.mem_of_getElem? hx)).2)
        obtain ⟨Ar, cr, rfl, _, _, _⟩ := hr2.open_
        have HX := Lib.hid hx
        obtain ⟨q, hq⟩ : ∃ q, (r.all fun b => b.all printB) = q := ⟨_, rfl⟩
        rw [hq] at HRB
        have HQR := Lib.hid hq
        clear hx hr hc hr2 hq
        by_cases hn : r.length = 0
        · have e1 : ((r.length : Int) == 0) = true := by rw [hn]; rfl
          have HE : Hid (writeE sep rows = ([], 1)) := by
            show _ = _
            unfold writeE
            rw [if_pos (.inr (by rw [tableB_rowOk]; exact all_take_bad HX.out (by unfold rowOk; rw [List.eq_nil_of_length_eq_zero hn]; rfl)))]
          clear hn
          go_wp2_with fail
          go_ret2
          show RetSE _ _ _ _
          rw [HE.out]
          exact ⟨rfl, HB.out⟩
        · have e1 : ((r.length : Int) == 0) = false := beq_false_of_ne (by omega)
          have HNE : Hid (r.isEmpty = false) := by
            show _ = _
            cases r with
            | nil => exact absurd rfl hn
            | cons _ _ => rfl
          cases q with
          | false =>
            have HE : Hid (writeE sep rows = ([], 1)) := by
              show _ = _
              unfold writeE
              rw [if_pos (.inr (by rw [tableB_rowOk]; exact all_take_bad HX.out (by unfold rowOk; rw [HQR.out, Bool.and_false])))]
            clear hn
            go_wp2_with fail
            (with_reducible refine HRB.out.mono ?_)
            rintro _ w2 ⟨rfl, hb2⟩
            have HB2 := Lib.hid (bthen HB.out hb2)
            clear hb2
            go_wp2_with fail
            go_ret2
            show RetSE _ _ _ _
            rw [HE.out]
            exact ⟨rfl, HB2.out⟩
          | true =>
            have HOK : Hid (rowOk r = true) := by show _ = _; unfold rowOk; rw [HQR.out, HNE.out]; rfl
            clear hn
            go_wp2_with fail
            (with_reducible refine HRB.out.mono ?_)
            rintro _ w2 ⟨rfl, hb2⟩
            have HB2 := Lib.hid (bthen HB.out hb2)
            clear hb2
            go_wp2_with fail
            go_roundw
            case rel => exact ⟨k + 1, by go_num, by omega, all_take_step HX.out HOK.out HP.out, HB2⟩
            case measure => simp [intOf]; omega
      · have HT : Hid (tableB rows = true) := by
          show _ = _
          have := HP.out
          rw [List.take_of_length_le (by omega)] at this
          exact this
        by_cases h5 : 2001 < rows.length
        · have i5 : (2001 : Int) < (rows.length : Int) := by omega
          have HE : Hid (writeE sep rows = ([], 5)) := by
            show _ = _
            unfold writeE
            rw [if_neg (by rw [HQ.out, HT.out]; decide), if_pos h5]
          go_wp2_with fail
          go_ret2
          show RetSE _ _ _ _
          rw [HE.out]
          exact ⟨rfl, HB.out⟩
        · have i5 : ¬ (2001 : Int) < (rows.length : Int) := by omega
          have HE : Hid (writeE sep rows = if 16384 < (tableT sep rows).length then ([], 5) else (tableT sep rows, 0)) := by
            show _ = _
            unfold writeE
            rw [if_neg (by rw [HQ.out, HT.out]; decide), if_neg h5]
          go_upto_region 12 with fail
          have hK := Blk.new wr 75 #[.pointer none, .slice none 0 0]
          have HK := Lib.hid (Bld.new (B := wr.heap.size) hK (Nat.le_refl _))
          have HBK := Lib.hid (bone wr (.cells #[.pointer none, .slice none 0 0] 75))
          obtain ⟨w0, hw0⟩ : ∃ w0, wr = w0 := ⟨_, rfl⟩
          rw [hw0] at HK HBK HB ⊢
          obtain ⟨w2, hw2⟩ : ∃ w2, w0.alloc (.cells #[.pointer none, .slice none 0 0] 75) = w2 := ⟨_, rfl⟩
          rw [hw2] at HK HBK ⊢
          clear hw0 hw2 hK HP hlt
          go_wp2_with fail
          go_loopw [35] (fun iv wr => ∃ k : Nat, iv = .int .i64 (k : Int) ∧ k ≤ rows.length ∧ Hid (Bld wr w0.heap.size w0.heap.size (tableT sep (rows.take k))) ∧ Hid ((tableT sep (rows.take k)).length ≤ 16384) ∧ Hid (Below w0.heap.size w0 wr)) (fun iv _ => rows.length - (intOf iv).toNat)
          case atStart => exact ⟨0, rfl, Nat.zero_le _, HK, Nat.zero_le _, HBK⟩
          case round =>
            obtain ⟨k, rfl, hk, HK, HL, HR⟩ := hrel
            have HBR := Lib.hid (HB.out.trans (HR.out.mono HB.out.size))
            by_cases hlt : k < rows.length
            · obtain ⟨b, o, r, u, rfl, hD, hx, hr, hc⟩ := SlSS.at_ HH.out hlt
              have c0 := (HBR.out.cell (p := ⟨b, o + k, none⟩) hD).trans hc
              obtain ⟨Ar, cr, rfl, _, _, hr⟩ := hr.open_
              have HX := Lib.hid hx
              have HRR := Lib.hid hr
              have HSR := Lib.hid (HS.out.2 r (List.mem_of_getElem? hx))
              obtain ⟨wk, hwk⟩ : ∃ wk, wr = wk := ⟨_, rfl⟩
              rw [hwk] at HK HR HBR c0 ⊢
              clear hx hr hc hwk
              go_wp2_with fail
              go_loopw [41] (fun iv wr => ∃ j : Nat, iv = .int .i64 (j : Int) ∧ j ≤ r.length ∧ Hid (Bld wr w0.heap.size w0.heap.size (tableT sep (rows.take k) ++ tailT sep true (r.take j))) ∧ Hid (Below w0.heap.size w0 wr)) (fun iv _ => r.length - (intOf iv).toNat)
              case atStart => exact ⟨0, rfl, Nat.zero_le _, by rw [List.take_zero]; show Hid (Bld _ _ _ (_ ++ [])); rw [List.append_nil]; exact HK, HR⟩
              case round =>
                obtain ⟨j, rfl, hj, HK3, HR3⟩ := hrel
                have HB3 := Lib.hid (HB.out.trans (HR3.out.mono HB.out.size))
                by_cases hjl : j < r.length
                · obtain ⟨b2, o2, t, rfl, hD2, ht, htm, hc2⟩ := SlP.at_ HRR.out hjl
                  have d0 := (HB3.out.cell (p := ⟨b2, o2 + j, none⟩) hD2).trans hc2
                  have HTJ := Lib.hid ht
                  have HTL := Lib.hid (HSR.out.2 t (List.mem_of_getElem? ht))
                  have HLJ : Hid ((tableT sep (rows.take k) ++ tailT sep true (r.take j)).length ≤ 2100000000000) := by
                    show _ ≤ _
                    have h1 := tailT_len (sep := sep) true (r.take j) fun x hx => HSR.out.2 x (List.mem_of_mem_take hx)
                    have h2 := HSR.out.1
                    have h3 := HL.out
                    rw [List.length_append]
                    rw [List.length_take] at h1
                    omega
                  have HST : Hid (tailT sep true (r.take (j + 1)) = tailT sep true (r.take j) ++ ((if j = 0 then [] else [sep]) ++ cellT sep t)) := by
                    show _ = _
                    have e : r.take (j + 1) = r.take j ++ [t] := by rw [List.take_add_one, ht]; rfl
                    rw [e, tailT_snoc]
                    congr 2
                    cases j with
                    | zero => rfl
                    | succ j =>
                      have : (r.take (j + 1)).isEmpty = false := by
                        cases r with
                        | nil => simp at hjl
                        | cons _ _ => rfl
                      rw [this]; simp
                  obtain ⟨T, hT⟩ : ∃ T, tableT sep (rows.take k) ++ tailT sep true (r.take j) = T := ⟨_, rfl⟩
                  rw [hT] at HK3 HLJ
                  have HTT := Lib.hid hT
                  obtain ⟨w3, hw3⟩ : ∃ w3, wr = w3 := ⟨_, rfl⟩
                  rw [hw3] at HK3 HR3 HB3 d0 ⊢
                  clear ht hc2 hT hw3 htm
                  obtain ⟨q0, e0⟩ : ∃ q0, decide (0 < j) = q0 := ⟨_, rfl⟩
                  go_upto_if 47 with fail
                  have HQ0 := Lib.hid e0
                  clear e0
                  go_cut [] from 48 to 49 (fun W => Bld W w0.heap.size w0.heap.size (T ++ (if q0 = false then [] else [sep])) ∧ Below w0.heap.size w0 W)
                  case first =>
                    cases q0 with
                    | false =>
                      go_wp2_with fail
                      go_meet
                      rw [if_pos (by first | rfl | trivial), List.append_nil]
                      exact ⟨HK3.out, HR3.out⟩
                    | true =>
                      have HWB := Lib.hid (writeByte_any w0.heap.size w0.heap.size T sep w3 HK3.out (by have := HLJ.out; omega) HR3.out.size)
                      rw [HZ.out] at HWB
                      go_wp2_with fail
                      (with_reducible refine HWB.out.mono ?_)
                      rintro _ w4 ⟨rfl, hK4, hB4, _⟩
                      have HK4 := Lib.hid hK4
                      have HB4 := Lib.hid (HR3.out.trans hB4)
                      clear hK4 hB4
                      go_wp2_with fail
                      go_meet
                      rw [if_neg (by first | decide | exact id)]
                      exact ⟨HK4.out, HB4.out⟩
                  have HK4 := Lib.hid hcut.1
                  have HB4 := Lib.hid hcut.2
                  have HSJ : Hid ((if q0 = false then ([] : Bt) else [sep]) = if j = 0 then [] else [sep]) := by
                    show _ = _
                    have := HQ0.out
                    cases q0 with
                    | false => rw [if_pos rfl, if_pos (by have := of_decide_eq_false this; omega)]
                    | true => rw [if_neg (by decide), if_neg (by have := of_decide_eq_true this; omega)]
                  rw [HSJ.out] at HK4
                  clear hcut HK3 HR3 d0 HSJ HQ0
                  obtain ⟨T2, hT2⟩ : ∃ T2, T ++ (if j = 0 then [] else [sep]) = T2 := ⟨_, rfl⟩
                  have HL2 : Hid (T2.length ≤ 2100000000001) := by
                    show _ ≤ _
                    rw [← hT2, List.length_append]
                    have := HLJ.out
                    by_cases e : j = 0
                    · rw [if_pos e]; simp; omega
                    · rw [if_neg e]; simp; omega
                  rw [hT2] at HK4
                  have HT2 := Lib.hid hT2
                  clear hT2
                  have HI1 : Hid (∀ W, Calls Tryz.prog 45 #[.string (bsOf t), .int .u8 34] W fun e w' => e = .returned (.int .i64 (Lib.indexByte t 34)) ∧ w' = W) := fun W => Tryz.strings_IndexByte (bsOf t) 34 W
                  have HI2 : Hid (∀ W, Calls Tryz.prog 45 #[.string (bsOf t), .int .u8 z] W fun e w' => e = .returned (.int .i64 (Lib.indexByte t sep)) ∧ w' = W) := fun W => by
                    have := Tryz.strings_IndexByte (bsOf t) z W
                    have hz : z.toNat.toUInt8 = sep := by rw [← HZ.out]; simp
                    rw [hz] at this
                    exact this
                  have HSPC := Lib.hid (special_index sep t)
                  generalize Lib.indexByte t 34 = x1 at *
                  generalize Lib.indexByte t sep = x2 at *
                  obtain ⟨q1, e1⟩ : ∃ q1, decide (0 ≤ x1) = q1 := ⟨_, rfl⟩
                  obtain ⟨q2, e2⟩ : ∃ q2, decide (0 ≤ x2) = q2 := ⟨_, rfl⟩
                  have HSP : Hid (special sep t = (q1 || q2)) := by show _ = _; rw [HSPC.out, e1, e2]
                  clear HSPC
                  go_upto_region 20 with fail
                  go_cut [58] from 50 to 58 (fun x W => x = .bool (q1 || q2) ∧ wc = W)
                  case first =>
                    cases q1 <;> cases q2
                    all_goals
                      go_wp2_with (first
                        | (go_at_call 45; (with_reducible refine (HI1.out _).mono ?_); rintro _ w' ⟨rfl, rfl⟩)
                        | (go_at_call 45; (with_reducible refine (HI2.out _).mono ?_); rintro _ w' ⟨rfl, rfl⟩))
                      go_meet
                      exact ⟨rfl, rfl⟩
                  obtain ⟨rfl, rfl⟩ := hcut
                  clear HI1 HI2 e1 e2
                  generalize (q1 || q2) = q at *
                  have HFIN : Hid (∀ wz, Bld wz w0.heap.size w0.heap.size (T2 ++ cellT sep t) → Bld wz w0.heap.size w0.heap.size (tableT sep (rows.take k) ++ tailT sep true (r.take (j + 1)))) := by
                    intro wz hz
                    rw [HST.out, ← List.append_assoc, HTT.out, ← List.append_assoc, HT2.out]
                    exact hz
                  cases q with
                  | false =>
                    have HCT := Lib.hid (cellT_no HSP.out)
                    have HWS := Lib.hid (writeString_any w0.heap.size w0.heap.size T2 (bsOf t) wc HK4.out (by have := HL2.out; have := HTL.out; rw [bs_size]; omega) HB4.out.size)
                    go_wp2_with fail
                    (with_reducible refine HWS.out.mono ?_)
                    rintro _ w5 ⟨rfl, hK5, hB5, _⟩
                    have HK5 : Hid (Bld w5 w0.heap.size w0.heap.size (T2 ++ cellT sep t)) := by show Bld _ _ _ _; rw [HCT.out]; exact hK5
                    have HB5 := Lib.hid (HB4.out.trans hB5)
                    clear hK5 hB5
                    go_wp2_with fail
                    go_roundw
                    case rel => exact ⟨j + 1, by go_num, by omega, HFIN.out _ HK5.out, HB5⟩
                    case measure => simp [intOf]; omega
                  | true =>
                    have HCT := Lib.hid (cellT_yes HSP.out)
                    obtain ⟨mx, hmx⟩ := (HA.out.now (HB.out.trans (HB4.out.mono HB.out.size))).mx
                    have HRA := Lib.hid (Tryz.strings_ReplaceAll (bsOf t) ⟨#[34]⟩ ⟨#[34, 34]⟩ mx wc (by have := HTL.out; rw [bs_size]; omega) hmx (by decide) (by
                      have h1 := Lib.countB_mul_le ⟨#[34]⟩ (by decide) (bsOf t).size (bsOf t) (Nat.le_refl _)
                      have h2 := HTL.out
                      rw [bs_size] at h1 ⊢
                      have h3 : (⟨#[34]⟩ : ByteArray).size = 1 := rfl
                      have h4 : (⟨#[34, 34]⟩ : ByteArray).size = 2 := rfl
                      rw [h3] at h1
                      rw [h4]
                      omega))
                    have hrq : Lib.replaceAll (bsOf t).data.toList (⟨#[34]⟩ : ByteArray).data.toList (⟨#[34, 34]⟩ : ByteArray).data.toList = quoteB t := replaceAll_quote t
                    rw [hrq] at HRA
                    have hnl : (quoteB t).length ≤ 2000000 := by
                      have h1 := quoteB_len t
                      have h2 := HTL.out
                      omega
                    have hn1 : ¬ 9223372036854775807 < 1 + (quoteB t).length := by omega
                    have hn2 : ¬ 9223372036854775807 < 1 + (quoteB t).length + 1 := by omega
                    clear hmx hrq hnl
                    go_wp2_with fail
                    (with_reducible refine HRA.out.mono ?_)
                    rintro _ w5 ⟨rfl, hb5⟩
                    have HK5 := Lib.hid (HK4.out.now hb5)
                    have HB5 := Lib.hid (HB4.out.trans (hb5.mono HB4.out.size))
                    clear hb5 HRA
                    go_wp2_with fail
                    have hqd : ((⟨#[34]⟩ : ByteArray) ++ ⟨(quoteB t).toArray⟩ ++ ⟨#[34]⟩).data.toList = cellT sep t := by rw [HCT.out]; simp [ByteArray.data_append]
                    have hql : ((⟨#[34]⟩ : ByteArray) ++ ⟨(quoteB t).toArray⟩ ++ ⟨#[34]⟩).size ≤ 2000002 := by
                      have h1 : ((⟨#[34]⟩ : ByteArray) ++ ⟨(quoteB t).toArray⟩ ++ ⟨#[34]⟩).size = ((⟨#[34]⟩ : ByteArray) ++ ⟨(quoteB t).toArray⟩ ++ ⟨#[34]⟩).data.toList.length := by rw [Array.length_toList]; rfl
                      rw [h1, hqd]
                      have h2 := cellT_len sep t
                      have h3 := HTL.out
                      omega
                    have HWS := Lib.hid (writeString_any w0.heap.size w0.heap.size T2 ((⟨#[34]⟩ : ByteArray) ++ ⟨(quoteB t).toArray⟩ ++ ⟨#[34]⟩) w5 HK5.out (by have := HL2.out; omega) HB5.out.size)
                    rw [hqd] at HWS
                    clear hqd hql
                    (with_reducible refine HWS.out.mono ?_)
                    rintro _ w6 ⟨rfl, hK6, hB6, _⟩
                    have HK6 := Lib.hid hK6
                    have HB6 := Lib.hid (HB5.out.trans hB6)
                    clear hK6 hB6
                    go_wp2_with fail
                    go_roundw
                    case rel => exact ⟨j + 1, by go_num, by omega, HFIN.out _ HK6.out, HB6⟩
                    case measure => simp [intOf]; omega
                · have HRT : Hid (tableT sep (rows.take (k + 1)) = (tableT sep (rows.take k) ++ tailT sep true (r.take j)) ++ [10]) := by
                    show _ = _
                    have hrj : r.take j = r := List.take_of_length_le (by omega)
                    rw [tableT_step HX.out, hrj, tailT_true, List.append_assoc]
                  have HLJ : Hid ((tableT sep (rows.take k) ++ tailT sep true (r.take j)).length ≤ 2100000000000) := by
                    show _ ≤ _
                    have h1 := tailT_len (sep := sep) true (r.take j) fun x hx => HSR.out.2 x (List.mem_of_mem_take hx)
                    have h2 := HSR.out.1
                    have h3 := HL.out
                    rw [List.length_append]
                    rw [List.length_take] at h1
                    omega
                  have HWB := Lib.hid (writeByte_any w0.heap.size w0.heap.size _ 10 wr HK3.out (by have := HLJ.out; omega) HR3.out.size)
                  rw [← HRT.out] at HWB
                  rw [show (((10 : UInt8).toNat : Nat) : Int) = 10 from rfl] at HWB
                  obtain ⟨w3, hw3⟩ : ∃ w3, wr = w3 := ⟨_, rfl⟩
                  rw [hw3] at HWB HR3 HK3 ⊢
                  clear hw3 HLJ HRT
                  go_wp2_with fail
                  (with_reducible refine HWB.out.mono ?_)
                  rintro _ w4 ⟨rfl, hK4, hB4, _⟩
                  have HK4 := Lib.hid hK4
                  have HB4 := Lib.hid (HR3.out.trans hB4)
                  have HBL := Lib.hid (Tryz.Builder_Len_f w0.heap.size w0.heap.size _ w4 HK4.out)
                  rw [Lib.byteCells_length] at HBL
                  clear hK4 hB4 HWB
                  by_cases hlen : 16384 < (tableT sep (rows.take (k + 1))).length
                  · have HF : Hid (writeE sep rows = ([], 5)) := by
                      show _ = _
                      rw [HE.out, if_pos (by have := tableT_take (sep := sep) rows (k + 1); omega)]
                    generalize (tableT sep (rows.take (k + 1))).length = N at *
                    have i6 : (16384 : Int) < (N : Int) := by omega
                    clear hlen
                    go_wp2_with fail
                    (with_reducible refine HBL.out.mono ?_)
                    rintro _ w5 ⟨rfl, rfl⟩
                    go_wp2_with fail
                    go_ret2
                    show RetSE _ _ _ _
                    rw [HF.out]
                    exact ⟨rfl, HB.out.trans (HB4.out.mono HB.out.size)⟩
                  · have HLL : Hid ((tableT sep (rows.take (k + 1))).length ≤ 16384) := by show _ ≤ _; omega
                    obtain ⟨N, hN⟩ : ∃ N, (tableT sep (rows.take (k + 1))).length = N := ⟨_, rfl⟩
                    rw [hN] at HBL
                    have i6 : ¬ (16384 : Int) < (N : Int) := by omega
                    clear hlen hN
                    go_wp2_with fail
                    (with_reducible refine HBL.out.mono ?_)
                    rintro _ w5 ⟨rfl, rfl⟩
                    go_wp2_with fail
                    go_roundw
                    case rel => exact ⟨k + 1, by go_num, by omega, HK4, HLL, HB4⟩
                    case measure => simp [intOf]; omega
            · have hrt : rows.take k = rows := List.take_of_length_le (by omega)
              rw [hrt] at HK HL
              have HF : Hid (writeE sep rows = (tableT sep rows, 0)) := by
                show _ = _
                rw [HE.out, if_neg (by have := HL.out; omega)]
              have HSTR := Lib.hid (string_any w0.heap.size w0.heap.size _ wr HK.out HR.out.size)
              clear hrt
              go_wp2_with fail
              (with_reducible refine HSTR.out.mono ?_)
              rintro _ w5 ⟨rfl, _, hb5, _⟩
              have HB5 := Lib.hid (HR.out.trans hb5)
              clear hb5
              go_wp2_with fail
              go_ret2
              show RetSE _ _ _ _
              rw [HF.out]
              exact ⟨rfl, HB.out.trans (HB5.out.mono HB.out.size)⟩
end Go.Proofs.YtoalecalahkblaaGreatDoor

set_option linter.all false
namespace Go.Proofs.YtoalecalahkblaaGreatDoor
open Go.RowKit
theorem eqF_same {P : Program} {d t o : Nat} {xs : Array Value} {f : Go.Field} {l : List Go.Field} {v : Value} {W : World} (hf : (f.name == "_", f.type, f.offset) = (false, t, o)) (hp : (Go.part t xs o).run P W = .ok v W) (he : (Op.equalIn d t v v).run P W = .ok true W) :
    (Op.eqFields d xs xs (f :: l)).run P W = (Op.eqFields d xs xs l).run P W := by
  simp only [Prod.mk.injEq, beq_eq_false_iff_ne] at hf
  obtain ⟨h1, h2, h3⟩ := hf
  simp only [Op.eqFields, h1, h2, h3, ne_eq, not_false_eq_true, if_true]
  simp only [Sem.run_bind, hp, he, Result.andThen_ok]
  simp
theorem part_int {P : Program} {t o : Nat} {xs : Array Value} {v : Value} {W : World} (ht : P.underlying t = some (.int .i64)) (hx : xs[o]? = some v) : (Go.part t xs o).run P W = .ok v W := by
  simp only [Sem.run_bind, Go.part, isAgg, run_underlying ht, Result.andThen_ok, Sem.run_pure, Bool.false_eq_true, if_false, hx]
theorem part_str {P : Program} {t o : Nat} {xs : Array Value} {v : Value} {W : World} (ht : P.underlying t = some .string) (hx : xs[o]? = some v) : (Go.part t xs o).run P W = .ok v W := by
  simp only [Sem.run_bind, Go.part, isAgg, run_underlying ht, Result.andThen_ok, Sem.run_pure, Bool.false_eq_true, if_false, hx]
theorem fieldsFld : ((Program.fieldsOf Tryz.prog 123).toList.map fun f => (f.name == "_", f.type, f.offset)) = [(false, 9, 0), (false, 121, 1)] := by kernel_rfl
theorem fieldsVal : ((Program.fieldsOf Tryz.prog 121).toList.map fun f => (f.name == "_", f.type, f.offset)) = [(false, 3, 0), (false, 3, 1), (false, 9, 2)] := by kernel_rfl
theorem valInfoSize : (Tryz.prog.info? 121).map (fun i => i.size) = some 3 := by kernel_rfl
theorem list2 {α β : Type} {g : α → β} {L : List α} {a b : β} (h : L.map g = [a, b]) : ∃ x y, L = [x, y] ∧ g x = a ∧ g y = b := by
  match L, h with
  | [x, y], h => injection h with h1 h; injection h with h2 _; exact ⟨x, y, rfl, h1, h2⟩
theorem list3 {α β : Type} {g : α → β} {L : List α} {a b c : β} (h : L.map g = [a, b, c]) : ∃ x y z, L = [x, y, z] ∧ g x = a ∧ g y = b ∧ g z = c := by
  match L, h with
  | [x, y, z], h => injection h with h1 h; injection h with h2 h; injection h with h3 _; exact ⟨x, y, z, rfl, h1, h2, h3⟩
theorem valEq (a b : Int) (s : ByteArray) (W : World) (d : Nat) : (Op.equalIn (d + 1 + 1) 121 (.agg #[.int .i64 a, .int .i64 b, .string s]) (.agg #[.int .i64 a, .int .i64 b, .string s])).run Tryz.prog W = .ok true W := by
  rw [run_equalIn_agg (ht := by kernel_rfl) (hp := by kernel_rfl)]
  obtain ⟨x, y, z, hl, h1, h2, h3⟩ := list3 fieldsVal
  rw [hl]
  have hi : Program.underlying Tryz.prog 3 = some (.int .i64) := by kernel_rfl
  have hs : Program.underlying Tryz.prog 9 = some .string := by kernel_rfl
  rw [eqF_same (v := .int .i64 a) h1 (part_int hi rfl) (by rw [run_equalIn_int (h := hi)]; simp), eqF_same (v := .int .i64 b) h2 (part_int hi rfl) (by rw [run_equalIn_int (h := hi)]; simp), eqF_same (v := .string s) h3 (part_str hs rfl) (by rw [run_equalIn_string (h := hs)]; simp)]
  simp [Op.eqFields]
theorem part_val (nm : ByteArray) (a b : Int) (s : ByteArray) (W : World) : (Go.part 121 #[.string nm, .int .i64 a, .int .i64 b, .string s] 1).run Tryz.prog W = .ok (.agg #[.int .i64 a, .int .i64 b, .string s]) W := by
  obtain ⟨i, hi, hs⟩ := Option.map_eq_some_iff.1 valInfoSize
  have ht : Program.underlying Tryz.prog 121 = some (.struct (Program.fieldsOf Tryz.prog 121)) := by kernel_rfl
  simp [Go.part, isAgg, run_underlying ht, sizeOf, typeInfo, hi, hs]
theorem fldNeq (f : Fld) (W : World) : (binOp .neq 123 (.agg #[.string f.nm, .int .i64 f.v.kind, .int .i64 f.v.n, .string f.v.s]) (.agg #[.string f.nm, .int .i64 f.v.kind, .int .i64 f.v.n, .string f.v.s])).run Tryz.prog W = .ok (.bool false) W := by
  rw [run_neq_struct, show (10000 : Nat) = 9996 + 1 + 1 + 1 + 1 from rfl, run_equalIn_agg (ht := by kernel_rfl) (hp := by kernel_rfl)]
  obtain ⟨x, y, hl, h1, h2⟩ := list2 fieldsFld
  rw [hl]
  have hs : Program.underlying Tryz.prog 9 = some .string := by kernel_rfl
  rw [eqF_same (v := .string f.nm) h1 (part_str hs rfl) (by rw [run_equalIn_string (h := hs)]; simp), eqF_same h2 (part_val _ _ _ _ W) (valEq _ _ _ W _)]
  simp [Op.eqFields]
set_option maxHeartbeats 1000000 in
set_option maxRecDepth 100000 in
theorem evSame_ref (e : Ev) (d1 d2 : Value) (w : World) (h1 : SlFl (Lt w.heap.size) w d1 e.data) (h2 : SlFl (Lt w.heap.size) w d2 e.data) :
    Calls Tryz.prog 66 #[.agg #[.string e.cas, .string e.act, .string e.res, .int .i64 e.life, .int .i64 e.time, d1], .agg #[.string e.cas, .string e.act, .string e.res, .int .i64 e.life, .int .i64 e.time, d2]] w fun x w' => x = .returned (.bool true) ∧ Below w.heap.size w w' := by
  obtain ⟨A, c, rfl, _, _, h1⟩ := h1.open_
  obtain ⟨A2, c2, rfl, _, _, h2⟩ := h2.open_
  have HA := Lib.hid h1
  have HB := Lib.hid h2
  have hb1 := bone w (.cells #[.string e.cas, .string e.act, .string e.res, .int .i64 e.life, .int .i64 e.time, .slice A e.data.length c] 69)
  have hb12 := bbox hb1 (.cells #[.string e.cas, .string e.act, .string e.res, .int .i64 e.life, .int .i64 e.time, .slice A2 e.data.length c2] 69)
  have HB12 := Lib.hid hb12
  clear h1 h2
  go_enter Tryz.func66, Tryz.ntmps66
  go_wp2_with fail
  go_loopw [5] (fun iv wr => ∃ k q : Nat, iv = .int .i64 (k : Int) ∧ k ≤ e.data.length ∧ wr = ((w.alloc (.cells #[.string e.cas, .string e.act, .string e.res, .int .i64 e.life, .int .i64 e.time, .slice A e.data.length c] 69)).alloc (.cells #[.string e.cas, .string e.act, .string e.res, .int .i64 e.life, .int .i64 e.time, .slice A2 e.data.length c2] 69)).drewN q) (fun iv _ => e.data.length - (intOf iv).toNat)
  case atStart => exact ⟨0, 0, rfl, Nat.zero_le _, rfl⟩
  case round =>
    obtain ⟨k, q, rfl, hk, hwr⟩ := hrel
    by_cases hlt : k < e.data.length
    · obtain ⟨b, o, f, rfl, hDb, hx, _, f0, f1, f2, f3⟩ := SlFl.at_ HA.out hlt
      obtain ⟨b', o', f', rfl, hDb', hx', _, g0, g1, g2, g3⟩ := SlFl.at_ HB.out hlt
      rw [hx] at hx'
      injection hx' with hx'
      subst hx'
      have p0 := (hb12.cell (p := ⟨b, o + k * 4, none⟩) hDb).trans f0
      have p1 := (hb12.cell (p := ⟨b, o + k * 4 + 1, none⟩) hDb).trans f1
      have p2 := (hb12.cell (p := ⟨b, o + k * 4 + 2, none⟩) hDb).trans f2
      have p3 := (hb12.cell (p := ⟨b, o + k * 4 + 3, none⟩) hDb).trans f3
      have q0 := (hb12.cell (p := ⟨b', o' + k * 4, none⟩) hDb').trans g0
      have q1 := (hb12.cell (p := ⟨b', o' + k * 4 + 1, none⟩) hDb').trans g1
      have q2 := (hb12.cell (p := ⟨b', o' + k * 4 + 2, none⟩) hDb').trans g2
      have q3 := (hb12.cell (p := ⟨b', o' + k * 4 + 3, none⟩) hDb').trans g3
      have hne := fldNeq f
      have i1 : (0 : Int) ≤ (k : Int) := by omega
      have i2 : (k : Int) < (e.data.length : Int) := by omega
      clear hx f0 f1 f2 f3 g0 g1 g2 g3
      go_wp2_with fail
      go_quiet (fail)
      go_wp2_with fail
      go_roundw
      case rel => exact ⟨k + 1, q + nq, by go_num, by omega, by first | rfl | (rw [hwr]; simp) | simp⟩
      case measure => simp [intOf]; omega
    · obtain rfl : k = e.data.length := by omega
      have z1 : ¬ (e.data.length : Int) < (e.data.length : Int) := by omega
      go_wp2_with fail
      go_ret
      exact ⟨rfl, below_drewN HB12.out q⟩
end Go.Proofs.YtoalecalahkblaaGreatDoor

set_option linter.all false
namespace Go.Proofs.YtoalecalahkblaaGreatDoor
open Go.RowKit
set_option maxHeartbeats 1000000 in
set_option maxRecDepth 100000 in
theorem logSame_ref (l : List Ev) (u v : Value) (w : World) (hu : IsLog (Lt w.heap.size) w u l) (hv : IsLog (Lt w.heap.size) w v l) :
    Calls Tryz.prog 20 #[u, v] w fun x w' => x = .returned (.bool true) ∧ Below w.heap.size w w' := by
  obtain ⟨_, rfl, hu⟩ := hu
  obtain ⟨_, rfl, hv⟩ := hv
  obtain ⟨A, c, rfl, _, _, hu⟩ := hu.open_
  obtain ⟨A2, c2, rfl, _, _, hv⟩ := hv.open_
  have HU := Lib.hid hu
  have HV := Lib.hid hv
  have hb1 := bone w (.cells #[.slice A l.length c] 38)
  have hb12 := bbox hb1 (.cells #[.slice A2 l.length c2] 38)
  have hB1 := (Blk.new w 38 #[.slice A l.length c]).now (bone _ (.cells #[.slice A2 l.length c2] 38))
  have hB2 := Blk.new (w.alloc (.cells #[.slice A l.length c] 38)) 38 #[.slice A2 l.length c2]
  rw [World.size_alloc] at hB2
  clear hu hv hb1
  go_enter Tryz.func20, Tryz.ntmps20
  go_wp2_with fail
  obtain ⟨w2, hw2⟩ : ∃ w2, (w.alloc (.cells #[.slice A l.length c] 38)).alloc (.cells #[.slice A2 l.length c2] 38) = w2 := ⟨_, rfl⟩
  rw [hw2] at hb12 hB1 hB2 ⊢
  clear hw2
  have HB12 := Lib.hid hb12
  have HB1 := Lib.hid hB1
  have HB2 := Lib.hid hB2
  clear hb12 hB1 hB2
  go_loopw [5] (fun iv wr => ∃ k : Nat, iv = .int .i64 (k : Int) ∧ k ≤ l.length ∧ Hid (Below w2.heap.size w2 wr)) (fun iv _ => l.length - (intOf iv).toNat)
  case atStart => exact ⟨0, rfl, Nat.zero_le _, Lib.hid (Below.refl _ _)⟩
  case round =>
    obtain ⟨k, rfl, hk, HR⟩ := hrel
    have hw12 := HB12.out.size
    have hB1r := HB1.out.now HR.out
    have hB2r := HB2.out.now HR.out
    have r1 := hB1r.c1
    have r2 := hB2r.c1
    by_cases hlt : k < l.length
    · have HBR := Lib.hid (HB12.out.trans (HR.out.mono hw12))
      obtain ⟨b, o, e, dv, rfl, hD, hx, _, hdv, f0, f1, f2, f3, f4, f5⟩ := SlEv.at_ HU.out hlt
      obtain ⟨b', o', e', dv', rfl, hD', hx', _, hdv', g0, g1, g2, g3, g4, g5⟩ := SlEv.at_ HV.out hlt
      rw [hx] at hx'
      injection hx' with hx'
      subst hx'
      have hE := fun W => HBR.out.trans ((ext_below wr W).mono HBR.out.size)
      have hES := fun W => (hE W).size
      have p0 := fun W => ((hE W).cell (p := ⟨b, o + k * 6, none⟩) hD).trans f0
      have p1 := fun W => ((hE W).cell (p := ⟨b, o + k * 6 + 1, none⟩) hD).trans f1
      have p2 := fun W => ((hE W).cell (p := ⟨b, o + k * 6 + 2, none⟩) hD).trans f2
      have p3 := fun W => ((hE W).cell (p := ⟨b, o + k * 6 + 3, none⟩) hD).trans f3
      have p4 := fun W => ((hE W).cell (p := ⟨b, o + k * 6 + 4, none⟩) hD).trans f4
      have p5 := fun W => ((hE W).cell (p := ⟨b, o + k * 6 + 5, none⟩) hD).trans f5
      have q0 := fun W => ((hE W).cell (p := ⟨b', o' + k * 6, none⟩) hD').trans g0
      have q1 := fun W => ((hE W).cell (p := ⟨b', o' + k * 6 + 1, none⟩) hD').trans g1
      have q2 := fun W => ((hE W).cell (p := ⟨b', o' + k * 6 + 2, none⟩) hD').trans g2
      have q3 := fun W => ((hE W).cell (p := ⟨b', o' + k * 6 + 3, none⟩) hD').trans g3
      have q4 := fun W => ((hE W).cell (p := ⟨b', o' + k * 6 + 4, none⟩) hD').trans g4
      have q5 := fun W => ((hE W).cell (p := ⟨b', o' + k * 6 + 5, none⟩) hD').trans g5
      have t1 : ∀ W, (ext wr W).cell? ⟨w.heap.size, 0, none⟩ = some (.slice (some ⟨b, o, none⟩) l.length c) := fun W => (hB1r.now (ext_below wr W)).c1
      have t2 : ∀ W, (ext wr W).cell? ⟨w.heap.size + 1, 0, none⟩ = some (.slice (some ⟨b', o', none⟩) l.length c2) := fun W => (hB2r.now (ext_below wr W)).c1
      have HS : Hid (∀ W, Calls Tryz.prog 66 #[.agg #[.string e.cas, .string e.act, .string e.res, .int .i64 e.life, .int .i64 e.time, dv], .agg #[.string e.cas, .string e.act, .string e.res, .int .i64 e.life, .int .i64 e.time, dv']] (ext wr W) fun x w' => x = .returned (.bool true) ∧ Below (ext wr W).heap.size (ext wr W) w') :=
        Lib.hid fun W => evSame_ref e dv dv' (ext wr W) (SlFl.below hdv (hE W) (hES W)) (SlFl.below hdv' (hE W) (hES W))
      have i1 : (0 : Int) ≤ (k : Int) := by omega
      have i2 : (k : Int) < (l.length : Int) := by omega
      have HR' := HR
      clear hx f0 f1 f2 f3 f4 f5 g0 g1 g2 g3 g4 g5 hdv hdv' hE hES hB1r hB2r
      go_upto_region 6 with fail
      refine wp_region_growV (by kernel_rfl) (by kernel_rfl) ?_
      repeat (refine veil_step (fun K hK => ?_); go_simp; first | (refine hK _ ?_; clear hK K) | (apply Exists.intro; refine ⟨fun Wq => ?_, hK _ ?_⟩; ((go_at_call 66; exact grow_of (HS.out Wq))); clear hK K))
      refine veil_nil ?_
      intro _ hw'
      obtain ⟨W, rfl⟩ := hw'
      go_wp2_with fail
      go_roundw
      case rel => exact ⟨k + 1, by go_num, by omega, Lib.hid (HR'.out.trans ((ext_below wr W).mono HR'.out.size))⟩
      case measure => simp [intOf]; omega
    · obtain rfl : k = l.length := by omega
      have z1 : ¬ (l.length : Int) < (l.length : Int) := by omega
      have HF := Lib.hid (HB12.out.trans (HR.out.mono hw12))
      clear hB1r hB2r
      go_wp2_with fail
      go_ret
      exact ⟨rfl, HF.out⟩
end Go.Proofs.YtoalecalahkblaaGreatDoor

set_option linter.all false
namespace Go.Proofs.YtoalecalahkblaaGreatDoor
open Go.RowKit
def awText : ByteArray := ⟨#[119, 104, 111, 44, 119, 104, 97, 116, 44, 119, 104, 101, 110, 10, 99, 49, 44, 97, 44, 53, 10, 99, 49, 44, 34, 98, 34, 44, 51, 10]⟩
def awHead : List Bt := [[119, 104, 111], [119, 104, 97, 116], [119, 104, 101, 110]]
def awRows : List (List Bt) := [[[99, 49], [97], [53]], [[99, 49], [98], [51]]]
def awEvs : List Ev := [⟨bsOf [99, 49], bsOf [97], ⟨#[]⟩, 5, 5, []⟩, ⟨bsOf [99, 49], bsOf [98], ⟨#[]⟩, 5, 3, []⟩]
theorem aw_cells : cellsE 44 awText.data.toList = (awHead :: awRows, (0, 0), 0) := by rfl
theorem aw_sorted : sortS tlt awEvs = [⟨bsOf [99, 49], bsOf [98], ⟨#[]⟩, 5, 3, []⟩, ⟨bsOf [99, 49], bsOf [97], ⟨#[]⟩, 5, 5, []⟩] := by simp [sortS, awEvs, insL, mg, tlt]
theorem aw_nat5 : natE [53] = (5, 0) := by
  unfold natE
  rw [if_neg (by decide)]
  have h : Lib.atoiAll [53] = .ok 5 := by rfl
  have h2 : Lib.itoa 5 = [53] := by first | rfl | kernel_rfl | (simp [Lib.itoa, Lib.decDigits]; done)
  rw [h]
  show (if ((5 : Int) < 0 ∨ Lib.itoa 5 ≠ [53]) then ((0 : Int), (3 : Int)) else if (1099511627776 : Int) < 5 then (0, 2) else (5, 0)) = (5, 0)
  rw [if_neg (by rintro (h | h); omega; exact h h2), if_neg (by omega)]
theorem aw_nat3 : natE [51] = (3, 0) := by
  unfold natE
  rw [if_neg (by decide)]
  have h : Lib.atoiAll [51] = .ok 3 := by rfl
  have h2 : Lib.itoa 3 = [51] := by first | rfl | kernel_rfl | (simp [Lib.itoa, Lib.decDigits]; done)
  rw [h]
  show (if ((3 : Int) < 0 ∨ Lib.itoa 3 ≠ [51]) then ((0 : Int), (3 : Int)) else if (1099511627776 : Int) < 3 then (0, 2) else (3, 0)) = (3, 0)
  rw [if_neg (by rintro (h | h); omega; exact h h2), if_neg (by omega)]
theorem aw_good : ∀ (i : Nat) r e, awRows[i]? = some r → awEvs[i]? = some e → GoodR r e := by
  intro i r e hr he
  match i, hr, he with
  | 0, hr, he =>
    injection hr with hr
    injection he with he
    subst hr he
    exact ⟨⟨[99, 49], [97], [53], 5, rfl, rfl, rfl, by decide, by decide, aw_nat5, by decide, rfl⟩⟩
  | 1, hr, he =>
    injection hr with hr
    injection he with he
    subst hr he
    exact ⟨⟨[99, 49], [98], [51], 3, rfl, rfl, rfl, by decide, by decide, aw_nat3, by decide, rfl⟩⟩
  | i + 2, hr, _ => simp [awRows] at hr
def awS : List Ev := [⟨bsOf [99, 49], bsOf [98], ⟨#[]⟩, 5, 3, []⟩, ⟨bsOf [99, 49], bsOf [97], ⟨#[]⟩, 5, 5, []⟩]
theorem plain_any (w : World) : Calls Tryz.prog 36 #[] w fun e w' => e = .returned (.agg #[.int .i64 0, .int .i64 1, .int .i64 (-1), .int .i64 (-1), .int .i64 2, .slice none 0 0, .slice none 0 0, .int .u8 44]) ∧ Below w.heap.size w w' := by
  have hb := bone w (.cells #[.int .i64 0, .int .i64 0, .int .i64 0, .int .i64 0, .int .i64 0, .slice none 0 0, .slice none 0 0, .int .u8 0] 33)
  have hB := Blk.new w 33 #[.int .i64 0, .int .i64 0, .int .i64 0, .int .i64 0, .int .i64 0, .slice none 0 0, .slice none 0 0, .int .u8 0]
  go_enter Tryz.func36, Tryz.ntmps36
  go_upto_region 1 with fail
  go_wp2_with fail
  have hz : Blk (w.alloc (.cells #[.int .i64 0, .int .i64 1, .int .i64 (-1), .int .i64 (-1), .int .i64 2, .slice none 0 0, .slice none 0 0, .int .u8 44] 33)) w.heap.size 33 #[.int .i64 0, .int .i64 1, .int .i64 (-1), .int .i64 (-1), .int .i64 2, .slice none 0 0, .slice none 0 0, .int .u8 44] := Blk.new _ _ _
  obtain ⟨q0, q1, q2, q3, q4, q5, q6, q7⟩ := hz.c8m
  have hbz := bone w (.cells #[.int .i64 0, .int .i64 1, .int .i64 (-1), .int .i64 (-1), .int .i64 2, .slice none 0 0, .slice none 0 0, .int .u8 44] 33)
  generalize w.alloc (.cells #[.int .i64 0, .int .i64 1, .int .i64 (-1), .int .i64 (-1), .int .i64 2, .slice none 0 0, .slice none 0 0, .int .u8 44] 33) = wz at *
  refine bodyPost_ret (v := .agg #[.int .i64 0, .int .i64 1, .int .i64 (-1), .int .i64 (-1), .int .i64 2, .slice none 0 0, .slice none 0 0, .int .u8 44]) (by simp [results, Tryz.results36, go_sem, q0, q1, q2, q3, q4, q5, q6, q7]) rfl ?_
  exact ⟨rfl, hbz⟩
theorem log_lit (w : World) : IsLog (Lt (w.alloc (.cells #[.string (bsOf [99, 49]), .string (bsOf [98]), .string ⟨#[]⟩, .int .i64 5, .int .i64 3, .slice none 0 0, .string (bsOf [99, 49]), .string (bsOf [97]), .string ⟨#[]⟩, .int .i64 5, .int .i64 5, .slice none 0 0] 69)).heap.size) (w.alloc (.cells #[.string (bsOf [99, 49]), .string (bsOf [98]), .string ⟨#[]⟩, .int .i64 5, .int .i64 3, .slice none 0 0, .string (bsOf [99, 49]), .string (bsOf [97]), .string ⟨#[]⟩, .int .i64 5, .int .i64 5, .slice none 0 0] 69)) (.agg #[.slice (some ⟨w.heap.size, 0, none⟩) 2 2]) awS := by
  refine ⟨_, rfl, ?_⟩
  have hB := Blk.new w 69 #[.string (bsOf [99, 49]), .string (bsOf [98]), .string ⟨#[]⟩, .int .i64 5, .int .i64 3, .slice none 0 0, .string (bsOf [99, 49]), .string (bsOf [97]), .string ⟨#[]⟩, .int .i64 5, .int .i64 5, .slice none 0 0]
  have hfit : ∀ e ∈ awS, FitEv e := by
    intro e he
    simp only [awS, List.mem_cons, List.not_mem_nil, or_false] at he
    rcases he with rfl | rfl <;> exact ⟨by unfold maxLen; decide, by unfold maxLen; decide, by unfold maxLen; decide, by unfold Fit; simp, by unfold Fit; simp⟩
  refine Sl.ofBlk (size := 6) (cs := [.string (bsOf [99, 49]), .string (bsOf [98]), .string ⟨#[]⟩, .int .i64 5, .int .i64 3, .slice none 0 0, .string (bsOf [99, 49]), .string (bsOf [97]), .string ⟨#[]⟩, .int .i64 5, .int .i64 5, .slice none 0 0]) (xs := awS) hB (by unfold maxLen; decide) fun i x hx => ?_
  have hm := hfit x (List.mem_of_getElem? hx)
  match i, hx with
  | 0, hx =>
    injection hx with hx
    subst hx
    exact ⟨[.string (bsOf [99, 49]), .string (bsOf [98]), .string ⟨#[]⟩, .int .i64 5, .int .i64 3, .slice none 0 0], rfl, fun j u hu => by
      match j, hu with
      | 0, hu => exact hu
      | 1, hu => exact hu
      | 2, hu => exact hu
      | 3, hu => exact hu
      | 4, hu => exact hu
      | 5, hu => exact hu
      | j + 6, hu => simp at hu, _, rfl, hm, Sl.none_⟩
  | 1, hx =>
    injection hx with hx
    subst hx
    exact ⟨[.string (bsOf [99, 49]), .string (bsOf [97]), .string ⟨#[]⟩, .int .i64 5, .int .i64 5, .slice none 0 0], rfl, fun j u hu => by
      match j, hu with
      | 0, hu => exact hu
      | 1, hu => exact hu
      | 2, hu => exact hu
      | 3, hu => exact hu
      | 4, hu => exact hu
      | 5, hu => exact hu
      | j + 6, hu => simp at hu, _, rfl, hm, Sl.none_⟩
  | i + 2, hx => simp [awS] at hx
theorem rows_lit (w : World) : SlSS (Lt ((w.alloc (.cells #[.string ⟨#[120, 34, 121]⟩] 9)).alloc (.cells #[.slice (some ⟨w.heap.size, 0, none⟩) 1 1] 51)).heap.size) ((w.alloc (.cells #[.string ⟨#[120, 34, 121]⟩] 9)).alloc (.cells #[.slice (some ⟨w.heap.size, 0, none⟩) 1 1] 51)) (.slice (some ⟨w.heap.size + 1, 0, none⟩) 1 1) [[[120, 34, 121]]] := by
  have h1 := Blk.new w 9 #[.string ⟨#[120, 34, 121]⟩]
  have hs1 : (w.alloc (.cells #[.string ⟨#[120, 34, 121]⟩] 9)).heap.size = w.heap.size + 1 := by simp
  obtain ⟨w1, hw1⟩ : ∃ w1, w.alloc (.cells #[.string ⟨#[120, 34, 121]⟩] 9) = w1 := ⟨_, rfl⟩
  rw [hw1] at h1 hs1 ⊢
  have h2 := Blk.new w1 51 #[.slice (some ⟨w.heap.size, 0, none⟩) 1 1]
  have h12 := h1.now (bone w1 (.cells #[.slice (some ⟨w.heap.size, 0, none⟩) 1 1] 51))
  obtain ⟨w2, hw2⟩ : ∃ w2, w1.alloc (.cells #[.slice (some ⟨w.heap.size, 0, none⟩) 1 1] 51) = w2 := ⟨_, rfl⟩
  rw [hw2] at h2 h12 ⊢
  rw [hs1] at h2
  have hrow : SlP (Lt w2.heap.size) w2 (.slice (some ⟨w.heap.size, 0, none⟩) 1 1) [[120, 34, 121]] := SlS.ofBlk (zs := [⟨#[120, 34, 121]⟩]) h12 (by unfold maxLen; decide) (fun z hz => by
    rw [List.mem_singleton] at hz
    subst hz
    unfold maxLen
    decide)
  refine Sl.ofBlk (size := 1) (cs := [.slice (some ⟨w.heap.size, 0, none⟩) 1 1]) (xs := [[[120, 34, 121]]]) h2 (by unfold maxLen; decide) fun i x hx => ?_
  match i, hx with
  | 0, hx =>
    injection hx with hx
    subst hx
    exact ⟨[.slice (some ⟨w.heap.size, 0, none⟩) 1 1], rfl, fun j u hu => by
      match j, hu with
      | 0, hu => exact hu
      | j + 1, hu => simp at hu, _, rfl, hrow⟩
  | i + 1, hx => simp at hx
theorem aw_write : writeE 44 [[[120, 34, 121]]] = ([34, 120, 34, 34, 121, 34, 10], 0) := by rfl
set_option maxHeartbeats 8000000 in
set_option maxRecDepth 100000 in
theorem awake_any (w : World) (ha : AmbP w) : Calls Tryz.prog 10 #[] w fun e w' => e = .returned (.bool true) ∧ Below w.heap.size w w' := by
  have HP := Lib.hid plain_any
  have HI : Hid (∀ W, AmbP W → Calls Tryz.prog 16 #[.string awText, .agg #[.int .i64 0, .int .i64 1, .int .i64 (-1), .int .i64 (-1), .int .i64 2, .slice none 0 0, .slice none 0 0, .int .u8 44]] W (RetLog awS W)) := fun W hW => by
    have := import_few awText awHead awRows awEvs W (by decide) aw_cells rfl rfl (by decide) aw_good (by decide) (by decide) hW
    rwa [aw_sorted] at this
  unfold awText at HI
  have HWR : Hid (∀ W (v : Value), SlSS (Lt W.heap.size) W v [[[120, 34, 121]]] → AmbP W → Calls Tryz.prog 12 #[v, .int .u8 44] W fun e w' => e = .returned (.tuple #[.string ⟨#[34, 120, 34, 34, 121, 34, 10]⟩, .int .i64 0]) ∧ Below W.heap.size W w') := fun W v hv hW => by
    have := write_any [[[120, 34, 121]]] v 44 W hv ⟨by decide, by
      intro r hr
      rw [List.mem_singleton] at hr
      subst hr
      exact ⟨by decide, by
        intro b hb
        rw [List.mem_singleton] at hb
        subst hb
        decide⟩⟩ hW
    rw [aw_write] at this
    exact this
  have HAM := Lib.hid ha
  have HLL := Lib.hid log_lit
  have HRL := Lib.hid rows_lit
  clear ha
  go_enter Tryz.func10, Tryz.ntmps10
  go_wp2_with fail
  (with_reducible refine (HP.out _).mono ?_)
  rintro _ w1 ⟨rfl, hb1⟩
  have HB1 := Lib.hid hb1
  clear hb1
  go_wp2_with fail
  (with_reducible refine (HI.out _ (HAM.out.now HB1.out)).mono ?_)
  rintro _ w2 ⟨u, rfl, hlog, hb2⟩
  obtain ⟨ev, rfl, hsl⟩ := hlog
  obtain ⟨Ae, ce, rfl, _, _, hsl⟩ := hsl.open_
  have HSL := Lib.hid hsl
  have HB2 := Lib.hid (bthen HB1.out hb2)
  clear hsl hb2 HB1
  have hlen : awS.length = 2 := rfl
  rw [hlen] at HSL ⊢
  go_upto_region 2 with fail
  have hg1 := Blk.new w2 38 #[.slice Ae 2 ce]
  have hb3a := bone w2 (.cells #[.slice Ae 2 ce] 38)
  have hb3b := bone (w2.alloc (.cells #[.slice Ae 2 ce] 38)) (.cells #[.int .i64 0, .int .i64 0] 40)
  have HG3 := Lib.hid (hg1.now hb3b)
  have HB23 := Lib.hid (bthen hb3a hb3b)
  obtain ⟨w3, hw3⟩ : ∃ w3, (w2.alloc (.cells #[.slice Ae 2 ce] 38)).alloc (.cells #[.int .i64 0, .int .i64 0] 40) = w3 := ⟨_, rfl⟩
  rw [hw3] at HG3 HB23 ⊢
  clear hg1 hb3a hb3b hw3
  have HB3 := Lib.hid (bthen HB2.out HB23.out)
  have HSL3 : Hid (SlEv (Lt w3.heap.size) w3 (.slice Ae 2 ce) awS) := SlEv.now HSL.out HB23.out
  have HR4 := Lib.hid (HRL.out w3)
  have HB34 := Lib.hid (bthen (bone w3 (.cells #[.string ⟨#[120, 34, 121]⟩] 9)) (bone (w3.alloc (.cells #[.string ⟨#[120, 34, 121]⟩] 9)) (.cells #[.slice (some ⟨w3.heap.size, 0, none⟩) 1 1] 51)))
  have HW4 := Lib.hid (HWR.out _ _ HR4.out ((HAM.out.now HB3.out).now HB34.out))
  go_wp2_with fail
  (with_reducible refine HW4.out.mono ?_)
  rintro _ w5 ⟨rfl, hb5⟩
  have HB35 := Lib.hid (bthen HB34.out hb5)
  have HG5 := Lib.hid (HG3.out.now HB35.out)
  have HB5 := Lib.hid (bthen HB3.out HB35.out)
  have HSL5 : Hid (SlEv (Lt w5.heap.size) w5 (.slice Ae 2 ce) awS) := SlEv.now HSL3.out HB35.out
  clear hb5 HW4 HB34 HR4 HB35 HG3 HB3 HSL3
  have HLL5 := Lib.hid (HLL.out w5)
  have HB56 := Lib.hid (bone w5 (.cells #[.string (bsOf [99, 49]), .string (bsOf [98]), .string ⟨#[]⟩, .int .i64 5, .int .i64 3, .slice none 0 0, .string (bsOf [99, 49]), .string (bsOf [97]), .string ⟨#[]⟩, .int .i64 5, .int .i64 5, .slice none 0 0] 69))
  have HSM : Hid (Calls Tryz.prog 20 #[.agg #[.slice Ae 2 ce], .agg #[.slice (some ⟨w5.heap.size, 0, none⟩) 2 2]] (w5.alloc (.cells #[.string (bsOf [99, 49]), .string (bsOf [98]), .string ⟨#[]⟩, .int .i64 5, .int .i64 3, .slice none 0 0, .string (bsOf [99, 49]), .string (bsOf [97]), .string ⟨#[]⟩, .int .i64 5, .int .i64 5, .slice none 0 0] 69)) fun x w' => x = .returned (.bool true) ∧ Below (w5.alloc (.cells #[.string (bsOf [99, 49]), .string (bsOf [98]), .string ⟨#[]⟩, .int .i64 5, .int .i64 3, .slice none 0 0, .string (bsOf [99, 49]), .string (bsOf [97]), .string ⟨#[]⟩, .int .i64 5, .int .i64 5, .slice none 0 0] 69)).heap.size (w5.alloc (.cells #[.string (bsOf [99, 49]), .string (bsOf [98]), .string ⟨#[]⟩, .int .i64 5, .int .i64 3, .slice none 0 0, .string (bsOf [99, 49]), .string (bsOf [97]), .string ⟨#[]⟩, .int .i64 5, .int .i64 5, .slice none 0 0] 69)) w') :=
    logSame_ref awS _ _ _ ⟨_, rfl, SlEv.now HSL5.out HB56.out⟩ HLL5.out
  have g0 := HG5.out.c1
  have hbs1 : bsOf [99, 49] = ⟨#[99, 49]⟩ := rfl
  have hbs2 : bsOf [98] = ⟨#[98]⟩ := rfl
  have hbs3 : bsOf [97] = ⟨#[97]⟩ := rfl
  rw [hbs1, hbs2, hbs3] at HSM HB56
  clear hbs1 hbs2 hbs3 HLL HRL HWR HI HP HLL5 HAM HSL HB23
  go_wp2_with fail
  (with_reducible refine HSM.out.mono ?_)
  rintro _ w6 ⟨rfl, hb6⟩
  have HB6 := Lib.hid (bthen HB5.out (bthen HB56.out hb6))
  clear hb6
  go_wp2_with fail
  go_ret
  exact ⟨rfl, HB6.out⟩
end Go.Proofs.YtoalecalahkblaaGreatDoor

set_option linter.all false
namespace Go.Proofs.YtoalecalahkblaaGreatDoor
open Go.RowKit
def fatB (b : Bt) : Bool := decide (300 < b.length)
def fatR (r : List Bt) : Bool := decide (40 < r.length) || r.any fatB
def manyB (n : Nat) : Bool := (decide (60 < n) && decide (n ≤ 2001)) || decide (3000 < n)
def wideB (rows : List (List Bt)) : Bool := manyB rows.length || rows.any fatR
theorem fat_any (s : ByteArray) (w : World) : Calls Tryz.prog 38 #[.string s] w fun e w' => e = .returned (.bool (fatB s.data.toList)) ∧ w = w' := by
  have HE : Hid (fatB s.data.toList = decide ((300 : Int) < (s.size : Int))) := by
    show _ = _
    unfold fatB
    have : s.data.toList.length = s.size := by simp
    exact decide_eq_decide.2 (by omega)
  obtain ⟨q, hq⟩ : ∃ q, decide ((300 : Int) < (s.size : Int)) = q := ⟨_, rfl⟩
  rw [hq] at HE
  go_enter Tryz.func38, Tryz.ntmps38
  go_wp2_with fail
  go_ret
  exact ⟨ret_bool HE.out.symm, rfl⟩
theorem enters_fat : ∀ args w, (callFunc 38 args).run Tryz.prog w = .ok (.enter 38 args) w := enters_of Tryz.func38 (by kernel_rfl) rfl
theorem enters_fatR : ∀ args w, (callFunc 37 args).run Tryz.prog w = .ok (.enter 37 args) w := enters_of Tryz.func37 (by kernel_rfl) rfl
theorem fats_any (v : Value) (r : List Bt) (w : World) (h : SlP (Lt w.heap.size) w v r) :
    Calls Tryz.prog 28 #[v, .func (.func 38) #[] #[]] w fun e w' => e = .returned (.bool (r.any fatB)) ∧ Below w.heap.size w w' := by
  have hf : AsksF 38 #[] RStr w (r.map bsOf) (fun s => fatB s.data.toList) := by
    intro x u W hx hr _
    obtain ⟨h1, _⟩ := hr
    injection h1 with h1
    subst h1
    exact (fat_any x W).mono fun e w' ⟨h1, h2⟩ => ⟨h1, h2 ▸ Below.refl _ _⟩
  have hc := contFS 38 #[] enters_fat v (r.map bsOf) _ w h hf
  rw [List.any_map] at hc
  exact hc
theorem fatR_any (v : Value) (r : List Bt) (w : World) (h : SlP (Lt w.heap.size) w v r) :
    Calls Tryz.prog 37 #[v] w fun e w' => e = .returned (.bool (fatR r)) ∧ Below w.heap.size w w' := by
  have HF := Lib.hid (fats_any v r w h)
  obtain ⟨A, c, rfl, _, _, _⟩ := h.open_
  obtain ⟨q1, hq1⟩ : ∃ q1, decide ((40 : Int) < (r.length : Int)) = q1 := ⟨_, rfl⟩
  obtain ⟨q2, hq2⟩ : ∃ q2, r.any fatB = q2 := ⟨_, rfl⟩
  have HE : Hid (fatR r = (q1 || q2)) := by
    show _ = _
    unfold fatR
    rw [← hq1, hq2]
    congr 1
    exact decide_eq_decide.2 (by omega)
  rw [hq2] at HF
  clear h hq2
  cases q1
  · go_enter Tryz.func37, Tryz.ntmps37
    go_wp2_with fail
    (with_reducible refine HF.out.mono ?_)
    rintro _ w1 ⟨rfl, hb⟩
    have HB := Lib.hid hb
    clear hb
    go_wp2_with fail
    go_ret
    exact ⟨ret_bool (by rw [HE.out]; rfl), HB.out⟩
  · go_enter Tryz.func37, Tryz.ntmps37
    go_wp2_with fail
    go_ret
    exact ⟨ret_bool (by rw [HE.out]; rfl), Below.refl _ _⟩
set_option maxHeartbeats 1000000 in
theorem wide_any (v : Value) (rows : List (List Bt)) (w : World) (h : SlSS (Lt w.heap.size) w v rows) :
    Calls Tryz.prog 11 #[v] w fun e w' => e = .returned (.bool (wideB rows)) ∧ Below w.heap.size w w' := by
  have hf : AsksF 37 #[] RStrs w rows fatR := by
    intro x u W hx hr hb
    obtain ⟨v', h1, h2⟩ := hr
    injection h1 with h1
    subst h1
    exact fatR_any u x W (h2.now hb)
  have HC := Lib.hid (contFR 37 #[] enters_fatR v rows fatR w h hf)
  obtain ⟨A, c, rfl, _, _, _⟩ := h.open_
  obtain ⟨q1, hq1⟩ : ∃ q1, decide ((60 : Int) < (rows.length : Int)) = q1 := ⟨_, rfl⟩
  obtain ⟨q2, hq2⟩ : ∃ q2, decide ((rows.length : Int) ≤ 2001) = q2 := ⟨_, rfl⟩
  obtain ⟨q3, hq3⟩ : ∃ q3, decide ((3000 : Int) < (rows.length : Int)) = q3 := ⟨_, rfl⟩
  obtain ⟨q4, hq4⟩ : ∃ q4, rows.any fatR = q4 := ⟨_, rfl⟩
  have HE : Hid (wideB rows = (((q1 && q2) || q3) || q4)) := by
    show _ = _
    unfold wideB manyB
    rw [← hq1, ← hq2, ← hq3, hq4]
    congr 2
    · congr 1
      · exact decide_eq_decide.2 (by omega)
      · exact decide_eq_decide.2 (by omega)
    · exact decide_eq_decide.2 (by omega)
  rw [hq4] at HC
  clear h hf hq4
  cases q1 <;> cases q2 <;> cases q3
  all_goals
    go_enter Tryz.func11, Tryz.ntmps11
    go_wp2_with fail
    first
      | (go_ret
         exact ⟨ret_bool (by rw [HE.out]; rfl), Below.refl _ _⟩)
      | ((with_reducible refine HC.out.mono ?_)
         rintro _ w1 ⟨rfl, hb⟩
         have HB := Lib.hid hb
         clear hb
         go_wp2_with fail
         go_ret
         exact ⟨ret_bool (by rw [HE.out]; rfl), HB.out⟩)
end Go.Proofs.YtoalecalahkblaaGreatDoor

set_option linter.all false
namespace Go.Proofs.YtoalecalahkblaaGreatDoor
open Go.RowKit
theorem printC {s : ByteArray} {k : Nat} (h : k < s.size) : printB (s.data.toList[k]'(by simpa using h)) = true ↔ 32 ≤ (s[k].toNat : Int) ∧ (s[k].toNat : Int) ≤ 126 := by
  have e : (s.data.toList[k]'(by simpa using h)) = s[k] := rfl
  rw [e, printI, Bool.and_eq_true, decide_eq_true_eq, decide_eq_true_eq]
set_option maxHeartbeats 400000 in
theorem printable_refI (s : ByteArray) (w : World) (hs : s.size ≤ maxLen) : Calls Tryz.prog 95 #[.string s] w fun e w' => e = .returned (.bool (s.data.toList.all printB)) ∧ w = w' := by
  unfold maxLen at hs
  obtain ⟨p, hp⟩ : ∃ p, s.data.toList.all printB = p := ⟨_, rfl⟩
  rw [hp]
  have HPP := Lib.hid hp
  clear hp
  go_enter Tryz.func95, Tryz.ntmps95
  go_wp2_with fail
  go_loop [3] (fun i => ∃ k : Nat, k ≤ s.size ∧ i = .int .i64 k ∧ ∀ j (hj : j < s.size), j < k → printB (s.data.toList[j]'(by simpa using hj)) = true) (fun i => s.size - (intOf i).toNat)
  case atStart => exact ⟨0, Nat.zero_le _, rfl, fun j _ hj => absurd hj (by omega)⟩
  case round =>
    obtain ⟨k, hk, rfl, hp⟩ := hrel
    have HP := Lib.hid hp
    clear hp
    by_cases hlt : k < s.size
    · have HY := Lib.hid (printC hlt)
      have HNO : Hid (¬ printB (s.data.toList[k]'(by simpa using hlt)) = true → p = false) := fun h => by
        rw [← HPP.out, Bool.eq_false_iff]
        intro h'
        exact h (List.all_eq_true.1 h' _ (List.getElem_mem _))
      by_cases h1 : (s[k].toNat : Int) < 32
      · have HE := Lib.hid (HNO.out (fun h => by have := HY.out.1 h; omega))
        go_wp2_with fail
        go_ret
        exact ⟨ret_bool HE.out.symm, rfl⟩
      by_cases h2 : 126 < (s[k].toNat : Int)
      · have HE := Lib.hid (HNO.out (fun h => by have := HY.out.1 h; omega))
        go_wp2_with fail
        go_ret
        exact ⟨ret_bool HE.out.symm, rfl⟩
      have HQ := Lib.hid (HY.out.2 ⟨by omega, by omega⟩)
      go_wp2_with fail
      go_round
      case rel => exact ⟨k + 1, by omega, by go_num, fun j hj hjk => by
        by_cases e : j = k
        · subst e; exact HQ.out
        · exact HP.out j hj (by omega)⟩
      case measure => simp [intOf]; omega
    · have HE : Hid (p = true) := by
        show _ = _
        rw [← HPP.out, List.all_eq_true]
        intro c hc
        obtain ⟨j, hj, rfl⟩ := List.mem_iff_getElem.1 hc
        have hj' : j < s.size := by simpa using hj
        exact HP.out j hj' (by omega)
      go_wp2_with fail
      go_ret
      exact ⟨ret_bool HE.out.symm, rfl⟩
set_option maxHeartbeats 2000000 in
set_option maxRecDepth 100000 in
theorem table_ref (rows : List (List Bt)) (v : Value) (w : World) (h : SlSS (Lt w.heap.size) w v rows) :
    Calls Tryz.prog 51 #[v] w fun e w' => e = .returned (.bool (tableB rows)) ∧ w = w' := by
  have HH := Lib.hid h
  obtain ⟨A, c, rfl, _, _, _⟩ := h.open_
  clear h
  go_enter Tryz.func51, Tryz.ntmps51
  go_wp2_with fail
  go_loopw [3] (fun iv wr => ∃ k : Nat, iv = .int .i64 (k : Int) ∧ k ≤ rows.length ∧ Hid ((rows.take k).all rowOk = true) ∧ w = wr) (fun iv _ => rows.length - (intOf iv).toNat)
  case atStart => exact ⟨0, rfl, Nat.zero_le _, rfl, rfl⟩
  case round =>
    obtain ⟨k, rfl, hk, HP, rfl⟩ := hrel
    by_cases hlt : k < rows.length
    · obtain ⟨b, o, r, u, rfl, hD, hx, hr, c0⟩ := SlSS.at_ HH.out hlt
      obtain ⟨Ar, cr, rfl, _, _, hr⟩ := hr.open_
      have HX := Lib.hid hx
      have HRR := Lib.hid hr
      clear hx hr
      by_cases hn : r.length = 0
      · have e1 : ((r.length : Int) == 0) = true := by rw [hn]; rfl
        have HE : Hid (tableB rows = false) := by
          show _ = _
          rw [tableB_rowOk]; exact all_take_bad HX.out (by unfold rowOk; rw [List.eq_nil_of_length_eq_zero hn]; rfl)
        clear hn
        go_wp2_with fail
        go_ret
        exact ⟨ret_bool HE.out.symm, rfl⟩
      · have e1 : ((r.length : Int) == 0) = false := beq_false_of_ne (by omega)
        have HNE : Hid (r.isEmpty = false) := by
          show _ = _
          cases r with
          | nil => exact absurd rfl hn
          | cons _ _ => rfl
        clear hn
        go_wp2_with fail
        go_loopw [4] (fun iv wr => ∃ j : Nat, iv = .int .i64 (j : Int) ∧ j ≤ r.length ∧ Hid ((r.take j).all (fun b => b.all printB) = true) ∧ w = wr) (fun iv _ => r.length - (intOf iv).toNat)
        case atStart => exact ⟨0, rfl, Nat.zero_le _, rfl, rfl⟩
        case round =>
          obtain ⟨j, rfl, hj, HJ, rfl⟩ := hrel
          by_cases hjl : j < r.length
          · obtain ⟨b2, o2, t, rfl, hD2, ht, htm, d0⟩ := SlP.at_ HRR.out hjl
            have HTJ := Lib.hid ht
            have HPR := Lib.hid (fun W => printable_refI (bsOf t) W (by rw [bs_size]; exact htm))
            obtain ⟨q, hq⟩ : ∃ q, t.all printB = q := ⟨_, rfl⟩
            have HPR2 : Hid (∀ W, Calls Tryz.prog 95 #[.string (bsOf t)] W fun e w' => e = .returned (.bool q) ∧ W = w') := by rw [← hq]; exact HPR.out
            have HQ := Lib.hid hq
            clear ht htm hq HPR
            cases q with
            | false =>
              have HE : Hid (tableB rows = false) := by
                show _ = _
                rw [tableB_rowOk]; exact all_take_bad HX.out (by unfold rowOk; rw [all_take_bad (p := fun b : Bt => b.all printB) HTJ.out HQ.out, Bool.and_false])
              go_wp2_with fail
              (with_reducible refine (HPR2.out _).mono ?_)
              rintro _ w2 ⟨rfl, rfl⟩
              go_wp2_with fail
              go_ret
              exact ⟨ret_bool HE.out.symm, rfl⟩
            | true =>
              go_wp2_with fail
              (with_reducible refine (HPR2.out _).mono ?_)
              rintro _ w2 ⟨rfl, rfl⟩
              go_wp2_with fail
              go_roundw
              case rel => exact ⟨j + 1, by go_num, by omega, all_take_step (p := fun b : Bt => b.all printB) HTJ.out HQ.out HJ.out, trivial⟩
              case measure => simp [intOf]; omega
          · have HOK : Hid (rowOk r = true) := by
              show _ = _
              have := HJ.out
              rw [List.take_of_length_le (by omega)] at this
              unfold rowOk; rw [this, HNE.out]; rfl
            go_wp2_with fail
            go_roundw
            case rel => exact ⟨k + 1, by go_num, by omega, all_take_step HX.out HOK.out HP.out, trivial⟩
            case measure => simp [intOf]; omega
    · have HT : Hid (tableB rows = true) := by
        show _ = _
        have := HP.out
        rw [List.take_of_length_le (by omega)] at this
        exact this
      go_wp2_with fail
      go_ret
      exact ⟨ret_bool HT.out.symm, rfl⟩
theorem quoteB_snoc (b : Bt) (c : UInt8) : quoteB (b ++ [c]) = quoteB b ++ (if c = 34 then [34, 34] else [c]) := by
  rw [quoteB_append]
  congr 1
theorem special_snoc (sep : UInt8) (b : Bt) (c : UInt8) : special sep (b ++ [c]) = (special sep b || (c == 34 || c == sep)) := by
  unfold special; rw [List.any_append]; simp
set_option maxHeartbeats 4000000 in
set_option maxRecDepth 100000 in
theorem cell_ref' (s : ByteArray) (sep : UInt8) (w : World) (hs : s.size ≤ 1000000) :
    Calls Tryz.prog 52 #[.string s, .int .u8 (sep.toNat : Int)] w fun e w' => e = .returned (.string (bsOf (cellT sep s.data.toList))) ∧ Below w.heap.size w w' := by
  have HBY : Hid (∀ (k : Nat) (h : k < s.size), s.data.toList[k]? = some s[k]) := fun k h => by rw [List.getElem?_eq_getElem (rdByte h).1]; rfl
  have hsz : s.size = s.data.toList.length := by simp
  have HBS : Hid (bsOf s.data.toList = s) := bs_of s
  obtain ⟨t, ht⟩ : ∃ t, s.data.toList = t := ⟨_, rfl⟩
  rw [ht] at HBY hsz HBS ⊢
  clear ht
  have HSZ := Lib.hid hsz
  obtain ⟨z, hz⟩ : ∃ z, (sep.toNat : Int) = z := ⟨_, rfl⟩
  rw [hz]
  have HZ := Lib.hid hz
  clear hsz hz
  have HO1 : Hid (OwnC (w.alloc (.cells #[.int .u8 34] 5)) w.heap.size (.slice (some ⟨w.heap.size, 0, none⟩) 1 1) [34]) := OwnC.one w 34
  have HB1 := Lib.hid (bone w (.cells #[.int .u8 34] 5))
  go_enter Tryz.func52, Tryz.ntmps52
  go_upto_region 3 with fail
  obtain ⟨w1, hw1⟩ : ∃ w1, w.alloc (.cells #[.int .u8 34] 5) = w1 := ⟨_, rfl⟩
  rw [hw1] at HO1 HB1 ⊢
  clear hw1
  go_wp2_with fail
  go_loopw [5, 6, 7] (fun sv bv iv wr => ∃ (k : Nat), iv = .int .i64 (k : Int) ∧ k ≤ s.size ∧ sv = .bool (special sep (t.take k)) ∧ Hid (OwnC wr w.heap.size bv (34 :: quoteB (t.take k))) ∧ Hid (Below w.heap.size w wr)) (fun _ _ iv _ => s.size - (intOf iv).toNat)
  case atStart => exact ⟨0, rfl, Nat.zero_le _, rfl, HO1, HB1⟩
  case round =>
    obtain ⟨k, rfl, hk, rfl, HO, HB⟩ := hrel
    obtain ⟨A, cb, hA⟩ := HO.out.open_
    subst hA
    have HLQ : Hid ((34 :: quoteB (t.take k)).length ≤ 2000001) := by
      show _ ≤ _
      have h1 := quoteB_len (t.take k)
      have h2 : (t.take k).length ≤ t.length := by rw [List.length_take]; omega
      have h3 := HSZ.out
      rw [List.length_cons]; omega
    by_cases hlt : k < s.size
    · obtain ⟨hkt, hby⟩ := List.getElem?_eq_some_iff.1 (HBY.out k hlt)
      have hby := hby.symm
      have HTK : Hid (t.take (k + 1) = t.take k ++ [t[k]]) := by show _ = _; rw [List.take_add_one, List.getElem?_eq_getElem hkt]; rfl
      have e1 := beqI s[k] 34 34 rfl
      have e2 := beqI s[k] sep z HZ.out
      rw [show (s[k] == 34) = (t[k] == 34) by rw [hby]] at e1
      rw [show (s[k] == sep) = (t[k] == sep) by rw [hby]] at e2
      have HNX : Hid (special sep (t.take (k + 1)) = (special sep (t.take k) || (t[k] == 34 || t[k] == sep))) := by show _ = _; rw [HTK.out, special_snoc]
      have HNQ : Hid (quoteB (t.take (k + 1)) = quoteB (t.take k) ++ (if t[k] = 34 then [34, 34] else [t[k]])) := by show _ = _; rw [HTK.out, quoteB_snoc]
      generalize special sep (t.take k) = q0 at *
      have HT34 : Hid ((t[k] == 34) = true → t[k] = 34) := fun h => beq_iff_eq.1 h
      have HF34 : Hid ((t[k] == 34) = false → ¬ t[k] = 34) := fun h e => by rw [e] at h; cases h
      generalize t[k] = c at *
      obtain ⟨q1, hq1⟩ : ∃ q1, (c == 34) = q1 := ⟨_, rfl⟩
      obtain ⟨q2, hq2⟩ : ∃ q2, (c == sep) = q2 := ⟨_, rfl⟩
      rw [hq1] at e1 HNX HT34 HF34
      rw [hq2] at e2 HNX
      have HBYK : Hid (s[k] = c) := hby
      clear hq1 hq2 hby
      have HWS := Lib.hid HB.out.size
      go_upto_region 6 with fail
      go_cut [5] from 15 to 28 (fun x W => x = .bool (q0 || (q1 || q2)) ∧ wr = W)
      case first =>
        cases q0 <;> cases q1 <;> cases q2
        all_goals
          go_wp2_with fail
          go_meet
          exact ⟨rfl, rfl⟩
      obtain ⟨rfl, rfl⟩ := hcut
      cases q1 with
      | false =>
        have HNQ2 : Hid (34 :: quoteB (t.take (k + 1)) = (34 :: quoteB (t.take k)) ++ [c]) := by show _ = _; rw [HNQ.out, if_neg (HF34.out rfl)]; rfl
        have HZC : Hid ((s[k].toNat : Int) = (c.toNat : Int)) := by show _ = _; rw [HBYK.out]
        go_wp2_with (at_builtin; refine wpList_pushC rfl (.tmp 36) (.tmp 40) rfl c _ HZC.out rfl HO.out rfl (by have := HLQ.out; omega) HWS.out ?_; intro v' w7 hA)
        have HA := Lib.hid hA
        clear hA
        go_roundw
        case rel => exact ⟨k + 1, by go_num, by omega, by rw [HNX.out]; first | rfl | simp, (by rw [HNQ2.out]; exact HA.out.own), HB.out.grown HA.out.grown HWS.out (fun g hg => (World.ownsRow.lt HO.out g hg).1)⟩
        case measure => simp [intOf]; omega
      | true =>
        have hc34 := HT34.out rfl
        have HNQ2 : Hid (34 :: quoteB (t.take (k + 1)) = ((34 :: quoteB (t.take k)) ++ [34]) ++ [c]) := by show _ = _; rw [HNQ.out, if_pos hc34, hc34]; simp
        have HZC : Hid ((s[k].toNat : Int) = (c.toNat : Int)) := by show _ = _; rw [HBYK.out]
        go_upto_region 9 with (at_builtin; refine wpList_pushC rfl (.tmp 33) (.tmp 34) rfl 34 34 rfl rfl HO.out rfl (by have := HLQ.out; omega) HWS.out ?_; intro v6 w6 hA6)
        have HA6 := Lib.hid hA6
        have HS6 := Lib.hid (Nat.le_trans HWS.out hA6.grown.size)
        have HL6 : Hid ((34 :: quoteB (t.take k) ++ [34]).length < 10000000) := by show _ < _; rw [List.length_append, List.length_singleton]; have := HLQ.out; omega
        obtain ⟨A6, c6, hv6⟩ := hA6.own.open_
        clear hA6 hc34
        go_wp2_with (at_builtin; refine wpList_pushC rfl (.tmp 36) (.tmp 40) rfl c _ HZC.out rfl HA6.out.own rfl HL6.out HS6.out ?_; intro v' w7 hA)
        have HA := Lib.hid (HA6.out.trans hA)
        clear hA
        go_roundw
        case rel => exact ⟨k + 1, by go_num, by omega, by rw [HNX.out]; first | rfl | simp, (by rw [HNQ2.out]; exact HA.out.own), HB.out.grown HA.out.grown HWS.out (fun g hg => (World.ownsRow.lt HO.out g hg).1)⟩
        case measure => simp [intOf]; omega
    · have htk : t.take k = t := List.take_of_length_le (by have := HSZ.out; omega)
      rw [htk] at HO HLQ
      rw [htk]
      have HWS := Lib.hid HB.out.size
      obtain ⟨q, hq⟩ : ∃ q, special sep t = q := ⟨_, rfl⟩
      rw [hq]
      cases q with
      | false =>
        have HC := Lib.hid (cellT_no hq)
        clear hq htk
        go_wp2_with fail
        go_ret
        rw [HC.out, HBS.out]
        exact ⟨rfl, HB.out⟩
      | true =>
        have HC := Lib.hid (cellT_yes hq)
        clear hq htk
        go_wp2_with (at_builtin; refine wpList_pushC rfl (.tmp 43) (.tmp 44) rfl 34 34 rfl rfl HO.out rfl (by have := HLQ.out; omega) HWS.out ?_; intro v' w7 hA; have hcv := hA.own.conv; have HA := Lib.hid hA; clear hA)
        go_ret
        rw [HC.out]
        exact ⟨rfl, HB.out.grown HA.out.grown HWS.out (fun g hg => (World.ownsRow.lt HO.out g hg).1)⟩
theorem cell_ref (t : Bt) (sep : UInt8) (w : World) (hs : t.length ≤ 1000000) :
    Calls Tryz.prog 52 #[.string (bsOf t), .int .u8 (sep.toNat : Int)] w fun e w' => e = .returned (.string (bsOf (cellT sep t))) ∧ Below w.heap.size w w' :=
  cell_ref' (bsOf t) sep w (by rw [bs_size]; exact hs)
end Go.Proofs.YtoalecalahkblaaGreatDoor
