/- Texts of this seat, merged. -/
import Derived.Test.YtijmnenojbfdnaaGreatDoorEa01
import Derived.Test.YtijmnenojbfdnaaGreatDoorEa02
import Derived.Test.YtijmnenojbfdnaaGreatDoorEa03
import Derived.Test.YtijmnenojbfdnaaGreatDoorEa04
import Derived.Test.YtijmnenojbfdnaaGreatDoorEa05
import Derived.Test.YtijmnenojbfdnaaGreatDoorEa06
import Derived.Test.YtijmnenojbfdnaaGreatDoorEa07
import Derived.Test.YtijmnenojbfdnaaGreatDoorEa08
import Derived.Test.YtijmnenojbfdnaaGreatDoorEa09
import Derived.Test.YtijmnenojbfdnaaGreatDoorEa10
import Derived.Test.YtijmnenojbfdnaaGreatDoorEa11
import Derived.Test.YtijmnenojbfdnaaGreatDoorEa12
import Derived.Test.YtijmnenojbfdnaaGreatDoorEa13
import Derived.Test.YtijmnenojbfdnaaGreatDoorEa14
import Derived.Test.YtijmnenojbfdnaaGreatDoorEa15
import Derived.Test.YtijmnenojbfdnaaGreatDoorEa16
import Derived.Test.YtijmnenojbfdnaaGreatDoorEa17
import Derived.Test.YtijmnenojbfdnaaGreatDoorEa18
import Derived.Test.YtijmnenojbfdnaaGreatDoorEa19
set_option linter.unusedSimpArgs false
set_option linter.unusedVariables false
namespace Go.Proofs.YtijmnenojbfdnaaGreatDoor
open Go.RowKit
def sepC : List UInt8 := [44, 32]
def inP (n : Nat) (ys : List Ex) (k : Nat) : List UInt8 := joinB sepC ((ys.take k).map fun y => txB n y 0)
theorem joinB_snoc (sep : List UInt8) : ∀ (l : List (List UInt8)) (a : List UInt8), l ≠ [] → joinB sep (l ++ [a]) = joinB sep l ++ sep ++ a
  | [], a, h => absurd rfl h
  | [b], a, _ => rfl
  | b :: c :: l, a, _ => by
    have := joinB_snoc sep (c :: l) a (by simp)
    show b ++ sep ++ joinB sep (c :: l ++ [a]) = b ++ sep ++ joinB sep (c :: l) ++ sep ++ a
    rw [this]; simp
theorem inP_step {n k : Nat} {ys : List Ex} (hk : k < ys.length) : inP n ys (k + 1) = (if k = 0 then [] else inP n ys k ++ sepC) ++ txB n (kAt ys k) 0 := by
  have hg : kAt ys k = ys[k] := by unfold kAt; rw [List.getD_eq_getElem?_getD, List.getElem?_eq_getElem hk]; rfl
  unfold inP
  rw [List.take_succ_eq_append_getElem hk, List.map_append, hg]
  by_cases h : k = 0
  · subst h; rfl
  · rw [if_neg h]
    show joinB sepC (_ ++ [txB n ys[k] 0]) = _
    rw [joinB_snoc]
    intro e
    have := congrArg List.length e
    rw [List.length_map, List.length_take] at this
    simp at this
    rcases this with h' | h'
    · exact h h'
    · rw [h'] at hk; simp at hk
theorem inP_pre {n k : Nat} {ys : List Ex} (hk : k < ys.length) : (inP n ys k).length ≤ (inP n ys (k + 1)).length := by
  rw [inP_step hk]
  by_cases h : k = 0
  · subst h; simp [inP, joinB]
  · rw [if_neg h, List.length_append, List.length_append]; omega
theorem inP_le (n : Nat) (ys : List Ex) {j k : Nat} (h : j ≤ k) : k ≤ ys.length → (inP n ys j).length ≤ (inP n ys k).length := by
  induction h with
  | refl => intro _; exact Nat.le_refl _
  | step h ih => intro hk; exact Nat.le_trans (ih (by omega)) (inP_pre (by omega))
theorem inP_zero (n : Nat) (ys : List Ex) : inP n ys 0 = [] := rfl
theorem txB_in {n : Nat} {x : Ex} {asks : Nat} (h2 : x.op = 13) (hlt : ¬ levB x.op.toNat < asks) : txB (n + 1) x asks = txB n (kAt x.l 0) 6 ++ [32, 105, 110, 32, 123] ++ inP n (x.l.drop 1) (x.l.drop 1).length ++ [125] := by
  unfold txB
  dsimp only
  rw [if_neg hlt, if_neg (by omega), if_neg (by omega), if_neg (by omega), if_neg (by omega), if_pos h2]
  unfold inP
  rw [List.take_length]
  cases n <;> rfl
set_option maxHeartbeats 2000000 in
set_option maxRecDepth 100000 in
theorem write_in (n : Nat) (hIH : ∀ k, k < n → WriteC k) (u : Value) (x : Ex) (asks : Nat) (w : World) (B b : Nat) (l : List UInt8) (h2 : x.op = 13) (hlt : ¬ levB x.op.toNat < asks) (hok : okX x = true) (h1 : 2 ≤ x.l.length) (hbd : Bld w B b l) (hBw : B ≤ w.heap.size) (hx : IsEx n (Lt B) w u x) (hA : ∀ W, Below B w W → Amb W)
    (hlen : l.length + (txB (n + 1) x asks).length ≤ 100000000) :
    Calls Tryz.prog 50 #[.pointer (some ⟨b, 0, none⟩), u, .int .i64 (asks : Int)] w fun e w' => e = .returned (.tuple #[]) ∧ Bld w' B b (l ++ txB (n + 1) x asks) ∧ Below B w w' ∧ Lib.OthersKept 5 (some b) w w' := by
  rw [txB_in h2 hlt] at hlen ⊢
  obtain ⟨lv, rfl, _, Ax, cx, rfl⟩ := hx.cells
  rw [h2] at hlt ⊢
  have hlv : ¬ (levB 13 : Int) < (asks : Int) := by have : levB (13 : Int).toNat = levB 13 := rfl; omega
  have dlv : decide (levB 13 < asks) = false := decide_eq_false (by have : levB (13 : Int).toNat = levB 13 := rfl; omega)
  have HL2 := Lib.hid (fun W => level_any 13 W (by omega))
  have hb1 := bone w (.cells #[.int .i64 13, .int .i64 x.v.kind, .int .i64 x.v.n, .string x.v.s, .string x.s, .slice Ax x.l.length cx] 28)
  have hN1 := Blk.new w 28 #[.int .i64 13, .int .i64 x.v.kind, .int .i64 x.v.n, .string x.v.s, .string x.s, .slice Ax x.l.length cx]
  have hbd1 := hbd.now hb1
  have hBb1 : Below B w _ := hb1.mono hBw
  have hBw1 := Nat.le_trans hBw hb1.size
  have hblt := Bld.lt hbd
  have hsx := ex_slice hx
  obtain ⟨Ax', cx', hAx, hc1, hc2, _⟩ := hsx.open_
  injection hAx with e1 _ e2
  subst e1 e2
  obtain ⟨bb, oo, y, Ay, cy, rfl, hbb, hky, y0, y1, y2, y3, y4, y5, hcy⟩ := part_at hIH (okX_l hok) hsx (k := 0) (by omega)
  have hst := hsx.tail (by omega)
  have hdl : (x.l.drop 1).length = x.l.length - 1 := List.length_drop
  have hokt : okL (x.l.drop 1) = true := by
    have := okX_l hok
    cases hh : x.l with
    | nil => rfl
    | cons a r => rw [hh, okL, Bool.and_eq_true] at this; exact this.2
  rw [← hdl] at hst
  generalize hys : x.l.drop 1 = ys at *
  have HP := Lib.hid (fun k (hk : k < ys.length) => part_at hIH hokt hst hk)
  have HD := Lib.hid hdl
  rw [hky] at hlen ⊢
  have q0 := (bcell hb1).1 bb (oo + 0 * 6) (by omega)
  have q1 := (bcell hb1).1 bb (oo + 0 * 6 + 1) (by omega)
  have q2 := (bcell hb1).1 bb (oo + 0 * 6 + 2) (by omega)
  have q3 := (bcell hb1).1 bb (oo + 0 * 6 + 3) (by omega)
  have q4 := (bcell hb1).1 bb (oo + 0 * 6 + 4) (by omega)
  have q5 := (bcell hb1).1 bb (oo + 0 * 6 + 5) (by omega)
  rw [y0, Nat.zero_mul, Nat.add_zero] at q0
  rw [y1, Nat.zero_mul, Nat.add_zero] at q1
  rw [y2, Nat.zero_mul, Nat.add_zero] at q2
  rw [y3, Nat.zero_mul, Nat.add_zero] at q3
  rw [y4, Nat.zero_mul, Nat.add_zero] at q4
  rw [y5, Nat.zero_mul, Nat.add_zero] at q5
  have HA := Lib.hid hA
  have hln : l.length + (txB n y 6).length + (inP n ys ys.length).length + 6 ≤ 100000000 := by simp at hlen ⊢; omega
  have HLN := Lib.hid hln
  have HY := Lib.hid (hcy 6 b l _ (by omega) hBb1 hbd1 hBw1 (fun W h => HA.out W (hBb1.trans h)) (by omega))
  have hok1 := (Lib.OthersKept.refl 5 (some b) w).alloc (.cells #[.int .i64 13, .int .i64 x.v.kind, .int .i64 x.v.n, .string x.v.s, .string x.s, .slice (some ⟨bb, oo, none⟩) x.l.length cx] 28)
  have i0 : (0 : Int) < (x.l.length : Int) := by omega
  have i1 : (1 : Int) ≤ (x.l.length : Int) := by omega
  have i2 : (2 : Int) ≤ (x.l.length : Int) := by omega
  have i3 : (x.l.length : Int) ≤ (cx : Int) := by omega
  have i4 : 2 ≤ cx := by omega
  clear hA hlen hln hx hsx h2 hlt hcy hst hdl hky y0 y1 y2 y3 y4 y5 hys
  go_enter Tryz.func50, Tryz.ntmps50
  obtain ⟨n0, n1, n2, n3, n4, n5⟩ := hN1.c6
  go_wp2_with fail
  refine (HL2.out _).mono ?_
  rintro e w2 ⟨rfl, rfl⟩
  clear HL2
  generalize hw1 : (w.alloc (.cells #[.int .i64 13, .int .i64 x.v.kind, .int .i64 x.v.n, .string x.v.s, .string x.s, .slice (some ⟨bb, oo, none⟩) x.l.length cx] 28)) = w1 at *
  clear hw1
  go_wp2_with fail
  refine HY.out.mono ?_
  rintro e w3 ⟨rfl, hbd3, hb3, hk3⟩
  have hBw3 := Nat.le_trans hBw1 hb3.size
  have HW := Lib.hid (writeString_any B b _ ⟨#[32, 105, 110, 32, 123]⟩ w3 hbd3 (by have := HLN.out; rw [List.length_append]; show _ + 5 ≤ _; omega) hBw3)
  go_wp2_with fail
  refine HW.out.mono ?_
  rintro e w4 ⟨rfl, hbd4, hb4, hk4⟩
  have hN3 := Blk.others hN1 hk3 (fun e => by injection e with e; omega) (by decide)
  have hN4 := Blk.others hN3 hk4 (fun e => by injection e with e; omega) (by decide)
  have hBb4 := (hBb1.trans hb3).trans hb4
  have hBw4 := Nat.le_trans hBw3 hb4.size
  have hko4 := (hok1.trans hk3).trans hk4
  have hg4 := hN4.lt
  generalize hg0 : w.heap.size = g0 at *
  clear hg0 n0 n1 n2 n3 n4 n5 HY HW hN1 hN3 hk3 hk4 hb3 hb4 hbd3 hbd1 q0 q1 q2 q3 q4 q5
  obtain ⟨n0, n1, n2, n3, n4, n5⟩ := hN4.c6
  generalize hpre : l ++ txB n y 6 ++ [32, 105, 110, 32, 123] = pre at *
  have HPR := Lib.hid hpre
  clear hpre
  go_wp2_with fail
  go_loopw [115] (fun i wr => ∃ k : Nat, k ≤ ys.length ∧ i = .int .i64 (k : Int) ∧ Bld wr B b (pre ++ inP n ys k) ∧ Below B w wr ∧ w4.heap.size ≤ wr.heap.size ∧ Lib.OthersKept 5 (some b) w4 wr) (fun i _ => ys.length - (intOf i).toNat)
  case atStart => exact ⟨0, Nat.zero_le _, rfl, by rw [inP_zero, List.append_nil]; exact hbd4, hBb4, Nat.le_refl _, Lib.OthersKept.refl _ _ _⟩
  case round =>
    obtain ⟨k, hk, rfl, hbdr, hBr, hsr, hkr⟩ := hrel
    have hNr := Blk.others hN4 hkr (fun e => by injection e with e; omega) (by decide)
    clear n0 n1 n2 n3 n4 n5
    have hBwr := Nat.le_trans hBw4 hsr
    by_cases hlt : k < ys.length
    · obtain ⟨bb', oo', z, Az, cz, e, hbb', hkz, z0, z1, z2, z3, z4, z5, hcz⟩ := HP.out k hlt
      injection e with e
      injection e with e1 e2 _
      subst e1 e2
      have hcell : ∀ o, wr.cell? ⟨bb, o, none⟩ = w.cell? ⟨bb, o, none⟩ := fun o => hBr.cell (p := ⟨bb, o, none⟩) hbb
      rw [← hcell] at z0 z1 z2 z3 z4 z5
      have i5 : (k : Int) < ((x.l.length - 1 : Nat) : Int) := by have := HD.out; omega
      have i6 : (0 : Int) ≤ (k : Int) := by omega
      have hS := Blk.new wr 28 #[.int .i64 z.op, .int .i64 z.v.kind, .int .i64 z.v.n, .string z.v.s, .string z.s, .slice Az z.l.length cz]
      have hbS := bone wr (.cells #[.int .i64 z.op, .int .i64 z.v.kind, .int .i64 z.v.n, .string z.v.s, .string z.s, .slice Az z.l.length cz] 28)
      have HKZ := Lib.hid hkz
      have hle := inP_le n ys (show k + 1 ≤ ys.length by omega) (Nat.le_refl _)
      have HSTEP := Lib.hid (inP_step (n := n) hlt)
      have hln : (pre ++ inP n ys (k + 1)).length ≤ 100000000 := by have := HLN.out; rw [← HPR.out, List.length_append, List.length_append, List.length_append]; show _ + _ + 5 + _ ≤ _; omega
      have HLK := Lib.hid hln
      clear hkz hle hln hcell
      go_upto_region 34 with fail
      generalize hwS : wr.alloc (.cells #[.int .i64 z.op, .int .i64 z.v.kind, .int .i64 z.v.n, .string z.v.s, .string z.s, .slice Az z.l.length cz] 28) = wS at *
      have hbdS := hbdr.now hbS
      have hBS := hBr.trans (hbS.mono hBwr)
      have hkS := othBelow hkr hbS
      have hsS := Nat.le_trans hsr hbS.size
      have hBwS := Nat.le_trans hBwr hbS.size
      have hgr := hS.lt
      have hgb : b < wr.heap.size := hbdr.lt
      generalize hgg : wr.heap.size = gg at *
      clear hgg hwS z0 z1 z2 z3 z4 z5 hbS hNr
      by_cases hk0 : k = 0
      · subst hk0
        have hz := hcz 0 b _ wS (by omega) hBS hbdS hBwS (fun W h => HA.out W (hBS.trans h)) (by have := HLK.out; rw [HSTEP.out, if_pos rfl, HKZ.out, inP_zero] at *; simp at *; omega)
        rw [show ((0 : Nat) : Int) = 0 from rfl] at hz
        have HZ := Lib.hid hz
        clear hz hcz
        obtain ⟨d0, d1, d2, d3, d4, d5⟩ := hS.c6
        go_wp2_with fail
        (with_reducible refine HZ.out.mono ?_)
        rintro e w6 ⟨rfl, hbd6, hb6, hk6⟩
        clear d0 d1 d2 d3 d4 d5 HZ
        go_wp2_with fail
        go_roundw
        case rel => exact ⟨1, by omega, by go_num, by rw [HSTEP.out, HKZ.out]; simpa [inP_zero] using hbd6, hBS.trans hb6, Nat.le_trans hsS hb6.size, hkS.trans hk6⟩
        case measure => simp [intOf]; omega
      · have i7 : (0 : Int) < (k : Int) := by omega
        have HW := Lib.hid (writeString_any B b _ ⟨#[44, 32]⟩ wS hbdS (by have := HLK.out; rw [HSTEP.out, if_neg hk0] at this; simp [sepC] at this ⊢; show _ + 2 ≤ _; omega) hBwS)
        go_wp2_with fail
        (with_reducible refine HW.out.mono ?_)
        rintro e w5 ⟨rfl, hbd5, hb5, hk5⟩
        have hS5 := Blk.others hS hk5 (fun e => by injection e with e; omega) (by decide)
        have hB5 := hBS.trans hb5
        have hBw5 := Nat.le_trans hBwS hb5.size
        have hz := hcz 0 b _ w5 (by omega) hB5 hbd5 hBw5 (fun W h => HA.out W (hB5.trans h)) (by have := HLK.out; rw [HSTEP.out, if_neg hk0, HKZ.out] at this; simp [sepC] at this ⊢; omega)
        rw [show ((0 : Nat) : Int) = 0 from rfl] at hz
        have HZ := Lib.hid hz
        clear hz hcz HW
        obtain ⟨d0, d1, d2, d3, d4, d5⟩ := hS5.c6
        go_wp2_with fail
        (with_reducible refine HZ.out.mono ?_)
        rintro e w6 ⟨rfl, hbd6, hb6, hk6⟩
        clear d0 d1 d2 d3 d4 d5 HZ
        go_wp2_with fail
        go_roundw
        case rel => exact ⟨k + 1, by omega, by go_num, by rw [HSTEP.out, if_neg hk0, HKZ.out]; simpa [sepC] using hbd6, hB5.trans hb6, Nat.le_trans (Nat.le_trans hsS hb5.size) hb6.size, (hkS.trans hk5).trans hk6⟩
        case measure => simp [intOf]; omega
    · have hke : k = ys.length := by omega
      subst hke
      have i5 : ¬ ((ys.length : Nat) : Int) < ((x.l.length - 1 : Nat) : Int) := by have := HD.out; omega
      have HW := Lib.hid (writeByte_any B b _ 125 wr hbdr (by have := HLN.out; rw [← HPR.out]; simp; omega) hBwr)
      rw [show ((UInt8.toNat 125 : Nat) : Int) = 125 from rfl] at HW
      go_wp2_with fail
      (with_reducible refine HW.out.mono ?_)
      rintro e w5 ⟨rfl, hbd5, hb5, hk5⟩
      go_wp2_with fail
      go_end0
      exact ⟨rfl, by rw [← HPR.out] at hbd5; simpa using hbd5, hBr.trans hb5, (hko4.trans hkr).trans hk5⟩
end Go.Proofs.YtijmnenojbfdnaaGreatDoor

namespace Go.Proofs.YtijmnenojbfdnaaGreatDoor
open Go.RowKit
theorem write_any : ∀ n, WriteC n := by
  intro n
  induction n using Nat.strongRecOn with
  | _ n ih =>
    refine write_br n ?_
    intro u x asks w B b l hlt ha hok hbd hBw hx hA hlen
    have hs : shapeX x = true := by
      have := hok
      rw [okX_eq, Bool.and_eq_true, Bool.and_eq_true] at this
      exact this.1.1
    obtain ⟨s1, s2, s3, s4, s5, s6, s7, s8⟩ := shape_len hs
    by_cases h1 : x.op = 1
    · have hv : validV x.v = true := by
        unfold shapeX at hs
        rw [if_pos h1, Bool.and_eq_true] at hs
        exact hs.2
      exact write_const n u x asks w B b l h1 hlt hbd hBw hx hA hv hlen
    by_cases h2 : x.op = 2
    · exact write_var n u x asks w B b l h2 hlt hbd hBw hx hlen
    by_cases h3 : x.op = 3
    · exact write_not n ih u x asks w B b l h3 hlt hok (s3 h3) hbd hBw hx hA hlen
    by_cases h4 : 4 ≤ x.op ∧ x.op ≤ 11
    · exact write_bin n ih u x asks w B b l h4 hlt hok (s4 h4) hbd hBw hx hA hlen
    by_cases h12 : x.op = 12
    · exact write_if n ih u x asks w B b l h12 hlt hok (s5 h12) hbd hBw hx hA hlen
    · have h13 : x.op = 13 := by omega
      exact write_in n ih u x asks w B b l h13 hlt hok (s6 h13) hbd hBw hx hA hlen
def txE (n : Nat) (x : Ex) : ByteArray × Int := if validX x then (if 16384 < (txB (n + 1) x 0).length then (⟨#[]⟩, 5) else (⟨(txB (n + 1) x 0).toArray⟩, 0)) else (⟨#[]⟩, 1)
set_option maxHeartbeats 2000000 in
set_option maxRecDepth 100000 in
theorem exText_any (n : Nat) (x : Ex) (u : Value) (w : World) (h : IsEx n (Lt w.heap.size) w u x) (hA : Amb w) :
    Calls Tryz.prog 17 #[u] w fun e w' => e = .returned (.tuple #[.string (txE n x).1, .int .i64 (txE n x).2]) ∧ Below w.heap.size w w' := by
  have h0 := h
  obtain ⟨lv, rfl, _, Ax, cx, rfl⟩ := h.cells
  have hb1 := bone w (.cells #[.int .i64 x.op, .int .i64 x.v.kind, .int .i64 x.v.n, .string x.v.s, .string x.s, .slice Ax x.l.length cx] 28)
  have hN1 := Blk.new w 28 #[.int .i64 x.op, .int .i64 x.v.kind, .int .i64 x.v.n, .string x.v.s, .string x.s, .slice Ax x.l.length cx]
  have hx1 := h0.now hb1
  have HV := Lib.hid (validX_any n x _ _ hx1)
  clear h h0
  go_enter Tryz.func17, Tryz.ntmps17
  obtain ⟨n0, n1, n2, n3, n4, n5⟩ := hN1.c6
  go_wp2_with fail
  refine HV.out.mono ?_
  rintro e w2 ⟨rfl, hb2⟩
  have hbw2 := bthen hb1 hb2
  have hN2 := hN1.now hb2
  have hx2 := hx1.now hb2
  clear HV
  generalize hq : validX x = q at *
  have HQ := Lib.hid hq
  clear hq
  cases q
  · have HE : Hid (txE n x = (⟨#[]⟩, 1)) := by show _ = _; unfold txE; rw [if_neg (by rw [HQ.out]; exact Bool.false_ne_true)]
    go_wp2_with fail
    go_ret2
    exact ⟨by rw [HE.out]; rfl, hbw2⟩
  · have hv : validX x = true := HQ.out
    have hlen := valid_txB hv (n + 1) 0
    have HLN := Lib.hid hlen
    have HE1 : Hid (16384 < (txB (n + 1) x 0).length → txE n x = (⟨#[]⟩, 5)) := by show _ → _; intro h; unfold txE; rw [if_pos HQ.out, if_pos h]
    have HE2 : Hid (¬ 16384 < (txB (n + 1) x 0).length → txE n x = (⟨(txB (n + 1) x 0).toArray⟩, 0)) := by show _ → _; intro h; unfold txE; rw [if_pos HQ.out, if_neg h]
    have hb3 := bone w2 (.cells #[.pointer none, .slice none 0 0] 92)
    have hbl := Blk.new w2 92 #[.pointer none, .slice none 0 0]
    have hN3 := hN2.now hb3
    have hbd := Bld.new (B := w2.heap.size) hbl (Nat.le_refl _)
    have hx3 := hx2.below hb3 (Nat.le_refl _)
    have hbw3 := bthen hbw2 hb3
    have HA := Lib.hid hA
    have hwr := write_any n _ x 0 _ w2.heap.size w2.heap.size [] (by omega) (valid_ok hv) hbd hb3.size hx3 (fun W h => HA.out.now (hbw3.trans (h.mono hbw2.size))) (by show 0 + _ ≤ _; omega)
    rw [show ((0 : Nat) : Int) = 0 from rfl] at hwr
    have HW := Lib.hid hwr
    have hne : w.heap.size ≠ w2.heap.size := by have := hN2.lt; omega
    clear hwr hv hlen hx2 hx3 hx1 n0 n1 n2 n3 n4 n5 hbl hbd HQ
    obtain ⟨n0, n1, n2, n3, n4, n5⟩ := hN3.c6
    go_wp2_with fail
    (with_reducible refine HW.out.mono ?_)
    rintro e w4 ⟨rfl, hbd4, hb4, hk4⟩
    have hbw4 := hbw3.trans (hb4.mono hbw2.size)
    have hbL : w2.heap.size < w4.heap.size := hbd4.lt
    rw [List.nil_append] at hbd4
    have HLE := Lib.hid (Tryz.Builder_Len_f _ _ _ _ hbd4)
    have HBL : Hid ((Lib.byteCells (txB (n + 1) x 0)).length = (txB (n + 1) x 0).length) := Lib.byteCells_length _
    have HST := Lib.hid (string_any _ _ _ _ hbd4 (Nat.le_of_lt hbL))
    clear HW n0 n1 n2 n3 n4 n5
    go_wp2_with fail
    (with_reducible refine HLE.out.mono ?_)
    rintro e w5 ⟨rfl, rfl⟩
    rw [HBL.out]
    clear HLE
    by_cases hbig : 16384 < (txB (n + 1) x 0).length
    · have HE := Lib.hid (HE1.out hbig)
      clear HE1 HE2
      have hbi : (16384 : Int) < ((txB (n + 1) x 0).length : Int) := by omega
      go_wp2_with fail
      go_ret2
      exact ⟨by rw [HE.out]; rfl, hbw4⟩
    · have HE := Lib.hid (HE2.out hbig)
      clear HE1 HE2
      have hbi : ¬ (16384 : Int) < ((txB (n + 1) x 0).length : Int) := by omega
      go_wp2_with fail
      (with_reducible refine HST.out.mono ?_)
      rintro e w6 ⟨rfl, _, hb6, _⟩
      go_wp2_with fail
      go_ret2
      exact ⟨by rw [HE.out]; rfl, hbw4.trans (hb6.mono hbw2.size)⟩
end Go.Proofs.YtijmnenojbfdnaaGreatDoor

namespace Go.Proofs.YtijmnenojbfdnaaGreatDoor
open Go.RowKit
theorem prod_append (a b : List Var) : prodL (a ++ b) = prodL a * prodL b := by
  induction a with
  | nil => show prodL b = 1 * prodL b; omega
  | cons x a ih => show (sizeV x).toNat * prodL (a ++ b) = (sizeV x).toNat * prodL a * prodL b; rw [ih, Nat.mul_assoc]
theorem prod_take {l : List Var} {k : Nat} {x : Var} (h : l[k]? = some x) : prodL (l.take (k + 1)) = prodL (l.take k) * (sizeV x).toNat := by
  rw [List.take_add_one, h, prod_append]
  show _ * ((sizeV x).toNat * 1) = _
  rw [Nat.mul_one]
theorem prod_le {l : List Var} (h : ∀ x ∈ l, varB x = true) (k : Nat) : prodL (l.take k) ≤ prodL l := by
  have e : prodL l = prodL (l.take k) * prodL (l.drop k) := by rw [← prod_append, List.take_append_drop]
  rw [e]
  exact Nat.le_mul_of_pos_right _ (prod_pos fun y hy => h y (List.mem_of_mem_drop hy))
theorem size_nat {x : Var} (h : varB x = true) : sizeV x = ((sizeV x).toNat : Int) ∧ 1 ≤ (sizeV x).toNat ∧ (sizeV x).toNat ≤ 1000 := by
  have := size_pos (tame_of h)
  have := sizeV_le (tame_of h)
  omega
theorem sizeE_of {x : Var} (h : varB x = true) : sizeE x = (((sizeV x).toNat : Int), 0) := by
  unfold sizeE
  rw [h, if_pos rfl]
  exact Prod.ext (size_nat h).1 rfl
set_option maxHeartbeats 1000000 in
set_option maxRecDepth 100000 in
theorem plenty_any (l : List Var) (u : Value) (w : World) (h : SlX (Lt w.heap.size) w u l) (hv : varsB l = true) :
    Calls Tryz.prog 61 #[u] w fun e w' => e = .returned (.bool (plentyB l)) ∧ Below w.heap.size w w' := by
  obtain ⟨A, c, rfl, h1, h2, ht⟩ := h.open_
  have HV := Lib.hid hv
  have HP : Hid (plentyB l = decide (10000 < prodL l)) := rfl
  have h8 := vars_len hv
  clear hv
  go_enter Tryz.func61, Tryz.ntmps61
  go_wp2_with fail
  go_loopw [3, 10] (fun n i wr => ∃ j m : Nat, j ≤ l.length ∧ i = .int .i64 (j : Int) ∧ n = .int .i64 (m : Int) ∧ m = prodL (l.take j) ∧ m ≤ 10000 ∧ Below w.heap.size w wr) (fun _ i _ => l.length - (intOf i).toNat)
  case atStart => exact ⟨0, 1, Nat.zero_le _, rfl, rfl, rfl, by omega, Below.refl _ _⟩
  case round =>
    obtain ⟨j, m, hj, rfl, rfl, hm, hm2, hb⟩ := hrel
    have HM := Lib.hid hm
    clear hm
    by_cases hlt : j < l.length
    · obtain ⟨b, o, x, iv, rfl, hD, hx, hvar, hiv, c0, c1, c2, c3, c4⟩ := (ht.now hb).at_ hlt
      have hvx := vars_each HV.out hx
      have HT := Lib.hid (prod_take hx)
      have HL := Lib.hid (prod_le (fun y hy => varB_of HV.out hy) (j + 1))
      have HE := Lib.hid (sizeE_of hvx)
      obtain ⟨_, s1, s2⟩ := size_nat hvx
      generalize (sizeV x).toNat = z at *
      clear hx hvx
      obtain ⟨A2, k2, rfl, g1, g2, hiv⟩ := hiv.open_
      have hb1 := bone wr (.cells #[.string x.name, .int .i64 x.kind, .int .i64 x.low, .int .i64 x.high, .slice A2 x.items.length k2] 68)
      have hB1 := Blk.new wr 68 #[.string x.name, .int .i64 x.kind, .int .i64 x.low, .int .i64 x.high, .slice A2 x.items.length k2]
      have hS := sizeE_any x _ _ (hvar.now hb1)
      rw [HE.out] at hS
      have HS := Lib.hid hS
      clear hS hvar hiv
      have hmz : m * z ≤ 10000000 := Nat.mul_le_mul hm2 s2
      have hmi : ((m * z : Nat) : Int) = (m : Int) * (z : Int) := Int.natCast_mul m z
      have hmul : IntKind.i64.wrap ((m : Int) * (z : Int)) = (m : Int) * (z : Int) := IntWalk.i64_in _ (by omega)
      have hmb : (m : Int) * (z : Int) ≤ 10000000 := by omega
      have hm0 : 0 ≤ (m : Int) * (z : Int) := by omega
      have HMI := Lib.hid hmi
      clear hmi
      obtain ⟨q0, q1, q2, q3, q4⟩ := hB1.c5
      go_wp2_with fail
      (with_reducible refine HS.out.mono ?_)
      rintro e w2 ⟨rfl, hb2⟩
      have hbw2 : Below w.heap.size w w2 := hb.trans ((bthen hb1 hb2).mono hb.size)
      clear HS q0 q1 q2 q3 q4 c0 c1 c2 c3 c4
      by_cases hbig : 10000 < m * z
      · have HR : Hid (plentyB l = true) := by
          show _ = _
          rw [HP.out]
          have := HL.out; rw [HT.out, ← HM.out] at this
          exact decide_eq_true (by omega)
        have hbi : (10000 : Int) < (m : Int) * (z : Int) := by have := HMI.out; omega
        go_wp2_with fail
        go_ret
        exact ⟨ret_bool HR.out.symm, hbw2⟩
      · have hbi : ¬ (10000 : Int) < (m : Int) * (z : Int) := by have := HMI.out; omega
        go_wp2_with fail
        go_roundw
        case rel => exact ⟨j + 1, m * z, by omega, by go_num, by rw [HMI.out], by rw [HT.out, HM.out], by omega, hbw2⟩
        case measure => simp [intOf]; omega
    · have HR : Hid (plentyB l = false) := by
        show _ = _
        have := HM.out
        rw [List.take_of_length_le (by omega)] at this
        rw [HP.out]
        exact decide_eq_false (by omega)
      go_wp2_with fail
      go_ret
      exact ⟨ret_bool HR.out.symm, hb⟩
end Go.Proofs.YtijmnenojbfdnaaGreatDoor

namespace Go.Proofs.YtijmnenojbfdnaaGreatDoor
open Go.RowKit
structure Two (g h : Nat) (w w' : World) : Prop where
  os : w'.os = w.os
  tape : w'.tape = w.tape
  output : w'.output = w.output
  size : w.heap.size ≤ w'.heap.size
  block : ∀ k, k < w.heap.size → k ≠ g → k ≠ h → w'.heap[k]? = w.heap[k]?
section
variable {g h : Nat} {a b c w : World}
theorem Two.refl (g h : Nat) (w : World) : Two g h w w := ⟨rfl, rfl, rfl, Nat.le_refl _, fun _ _ _ _ => rfl⟩
theorem Two.trans (x : Two g h a b) (y : Two g h b c) : Two g h a c :=
  ⟨y.os.trans x.os, y.tape.trans x.tape, y.output.trans x.output, Nat.le_trans x.size y.size, fun k hk h1 h2 => (y.block k (Nat.lt_of_lt_of_le hk x.size) h1 h2).trans (x.block k hk h1 h2)⟩
theorem Two.of_below (x : Below a.heap.size a b) : Two g h a b := ⟨x.os, x.tape, x.output, x.size, fun k hk _ _ => x.block k hk⟩
theorem Two.set_g (x : Two g h a b) (i : Nat) (u : Value) : Two g h a (b.setCell ⟨g, i, none⟩ u) :=
  ⟨x.os, x.tape, x.output, by simpa using x.size, fun k hk h1 h2 => (Below.heap_setCell b ⟨g, i, none⟩ u k h1).trans (x.block k hk h1 h2)⟩
theorem Two.set_h (x : Two g h a b) (i : Nat) (u : Value) : Two g h a (b.setCell ⟨h, i, none⟩ u) :=
  ⟨x.os, x.tape, x.output, by simpa using x.size, fun k hk h1 h2 => (Below.heap_setCell b ⟨h, i, none⟩ u k h2).trans (x.block k hk h1 h2)⟩
theorem Two.below {B : Nat} (x : Two g h a b) (hB : B ≤ a.heap.size) (hg : B ≤ g) (hh : B ≤ h) : Below B a b := ⟨x.os, x.tape, x.output, x.size, fun k hk => x.block k (by omega) (by omega) (by omega)⟩
def DT (g h : Nat) (w : World) (b : Nat) : Prop := b < w.heap.size ∧ b ≠ g ∧ b ≠ h
theorem Two.same (x : Two g h a b) : Same (DT g h a) a b := fun k hk => x.block k hk.1 hk.2.1 hk.2.2
theorem DT.up (x : a.heap.size ≤ b.heap.size) : ∀ k, DT g h a k → DT g h b k := fun k hk => ⟨by have := hk.1; omega, hk.2.1, hk.2.2⟩
theorem Sl.notOne {α : Type} {size : Nat} {R : ElemR α} {D : Nat → Prop} {v : Value} {xs : List α} {t : TypeId} {u : Value} (x : Sl size R D w v xs) (hs : 2 ≤ size) (hb : Blk w g t #[u]) (hR : ∀ (D D' : Nat → Prop) x cs, R D w x cs → R D' w x cs) : Sl size R (fun b => D b ∧ b ≠ g) w v xs := by
  obtain ⟨A, c, hv, h1, h2, h3⟩ := x
  refine ⟨A, c, hv, h1, h2, fun i y hy => ?_⟩
  obtain ⟨b, o, cs, hA, hD, hl, hr, hc⟩ := h3 i y hy
  refine ⟨b, o, cs, hA, ⟨hD, ?_⟩, hl, hR _ _ _ _ hr, hc⟩
  intro e
  subst e
  have e1 := hc 1 cs[1] (List.getElem?_eq_getElem (by omega))
  have e2 := hb.cell (o + i * size + 1)
  rw [e1] at e2
  have := (Array.getElem?_eq_some_iff.1 e2.symm).1
  simp at this
end
theorem SlV.two {g h : Nat} {w : World} {v : Value} {xs : List Val} {t t' : TypeId} {u u' : Value} (x : SlV (Lt w.heap.size) w v xs) (hg : Blk w g t #[u]) (hh : Blk w h t' #[u']) : SlV (DT g h w) w v xs := by
  have h1 := Sl.notOne x (by omega) hg (fun _ _ _ _ h => h)
  have h2 := Sl.notOne h1 (by omega) hh (fun _ _ _ _ h => h)
  exact Sl.keep h2 (fun _ _ _ _ _ _ _ _ h => h) (fun b hb => ⟨hb.1.1, hb.1.2, hb.2⟩) (Same.refl _ _)
theorem SlV.lt {g h : Nat} {w : World} {v : Value} {xs : List Val} (x : SlV (DT g h w) w v xs) : SlV (Lt w.heap.size) w v xs := Sl.keep x (fun _ _ _ _ _ _ _ _ h => h) (fun _ hb => hb.1) (Same.refl _ _)
structure Visits (l : List Var) (k : FuncId) (caps : Array Value) (g h : Nat) (q : List Val → Bool) (I : List (List Val) → World → Prop) : Prop where
  enter : ∀ z w, (callFunc k (#[z] ++ caps)).run Tryz.prog w = .ok (.enter k (#[z] ++ caps)) w
  now : ∀ d W W', I d W → Below W.heap.size W W' → I d W'
  one : ∀ d W, I d W → (∃ t a, Blk W g t #[a]) ∧ (∃ t a, Blk W h t #[a])
  step : ∀ d v vv W, I d W → d.length < prodL l → Good l v → SlV (DT g h W) W vv v → Calls Tryz.prog k (#[vv] ++ caps) W fun e W' => e = .returned (.bool (q v)) ∧ I (d ++ [v]) W' ∧ Two g h W W'
theorem each_len (l : List Var) (q : List Val → Bool) : ∀ (f : Nat) (v : List Val), (eachL l q f v).length ≤ f
  | 0, _ => Nat.le_refl _
  | f + 1, v => by
    rw [eachL, List.length_cons]
    split
    · have := each_len l q f (nextV l v).1; omega
    · show 0 + 1 ≤ _; omega
def EachSt (l : List Var) (g h : Nat) (q : List Val → Bool) (I : List (List Val) → World → Prop) (w : World) (R : List (List Val)) (f : Nat) (sv : Value) (m : Bool) (wr : World) : Prop :=
  Two g h w wr ∧ ∃ d, I d wr ∧ (m = true → ∃ v, Good l v ∧ SlV (DT g h wr) wr sv v ∧ prodL l ≤ f + numL l v ∧ d ++ eachL l q f v = R) ∧ (m = false → d = R)
set_option maxHeartbeats 1000000 in
set_option maxRecDepth 100000 in
theorem each_any (l : List Var) (k : FuncId) (caps : Array Value) (g h : Nat) (q : List Val → Bool) (I : List (List Val) → World → Prop) (hV : Visits l k caps g h q I) (uv : Value) (w : World) (B : Nat)
    (hv : varsB l = true) (hB : B ≤ w.heap.size) (hBg : B ≤ g) (hBh : B ≤ h) (hl : SlX (Lt B) w uv l) (hI : I [] w) :
    Calls Tryz.prog 62 #[uv, .func (.func k) #[] caps] w fun e w' => e = .returned (.tuple #[]) ∧ I (eachL l q (prodL l) (firstV l)) w' ∧ Two g h w w' := by
  have h8 := vars_len hv
  have HV := Lib.hid hv
  have HFE : Hid (firstE l = (firstV l, 0)) := by show _ = _; unfold firstE; rw [hv, if_pos rfl]
  have hfe := firstE_any l uv w (Sl.below hl RVar.kept (Below.refl _ _) hB) (by omega)
  rw [HFE.out] at hfe
  have HF := Lib.hid hfe
  have HVI := Lib.hid hV
  have hR : ∃ R, R = eachL l q (prodL l) (firstV l) := ⟨_, rfl⟩
  obtain ⟨R, hR⟩ := hR
  rw [← hR]
  have HR := Lib.hid hR
  clear hfe hR hv hV
  go_enter Tryz.func62, Tryz.ntmps62
  go_wp2_with fail
  (with_reducible refine HF.out.mono ?_)
  rintro e w2 ⟨fv, rfl, hfv, hb2⟩
  have hI2 := HVI.out.now _ _ _ hI hb2
  obtain ⟨⟨t1, a1, hg2⟩, ⟨t2, a2, hh2⟩⟩ := HVI.out.one _ _ hI2
  have hfv2 := hfv.two hg2 hh2
  have hT2 : Two g h w w2 := Two.of_below hb2
  clear hg2 hh2 hfv HF HFE
  go_wp2_with fail
  go_loopg [4, 6] (prodL l) (fun gg vv mv wr => ∃ (f : Nat) (m : Bool) (sv : Value), sv = vv ∧ mv = .bool m ∧ f ≤ gg ∧ f ≤ prodL l ∧ EachSt l g h q I w R f sv m wr)
  case atStart => exact ⟨prodL l, true, _, rfl, rfl, Nat.le_refl _, Nat.le_refl _, hT2, [], hI2, fun _ => ⟨firstV l, first_good HV.out, hfv2, by omega, HR.out.symm⟩, fun e => by cases e⟩
  case round =>
    obtain ⟨f, m, sv, rfl, rfl, hfg, hfp, hT, d, hId, hm1, hm2⟩ := hrel
    clear hfv2 hT2 hI2 hb2
    cases m
    · have hd := hm2 rfl
      subst hd
      go_wp2_with fail
      go_end0
      exact ⟨rfl, hId, hT⟩
    · obtain ⟨v, hgood, hsl, hfu, hdR⟩ := hm1 rfl
      have hlt := hgood.lt
      obtain ⟨f', rfl⟩ : ∃ f', f = f' + 1 := ⟨f - 1, by omega⟩
      have hdl : d.length < prodL l := by
        have h1 := each_len l q (prodL l) (firstV l)
        rw [← HR.out, ← hdR, List.length_append] at h1
        have h2 : 1 ≤ (eachL l q (f' + 1) v).length := by rw [eachL, List.length_cons]; omega
        omega
      have HST := Lib.hid (HVI.out.step d v sv wr hId hdl hgood hsl)
      have HDR : Hid (d ++ (v :: if q v && (nextV l v).2 then eachL l q f' (nextV l v).1 else []) = R) := hdR
      have HNG := Lib.hid (fun hn => next_good hgood hn)
      have HGN := Lib.hid hgood.next
      have eg := HVI.out.enter
      clear hm1 hm2 hdR
      cases hqv : q v
      · rw [hqv] at HST HDR
        have HD2 : Hid (d ++ [v] = R) := HDR.out
        go_wp2_with (go_at_fn k; (with_reducible refine HST.out.mono ?_))
        rintro e w3 ⟨rfl, hI3, hT3⟩
        go_wp2_with fail
        go_end0
        rw [HD2.out] at hI3
        exact ⟨rfl, hI3, hT.trans hT3⟩
      · rw [hqv] at HST HDR
        go_wp2_with (go_at_fn k; (with_reducible refine HST.out.mono ?_))
        rintro e w3 ⟨rfl, hI3, hT3⟩
        have hTw3 := hT.trans hT3
        have hsl3 : SlV (DT g h w3) w3 sv v := Sl.keep hsl (fun _ _ _ _ _ _ _ _ h => h) (DT.up hT3.size) hT3.same
        have hux := Sl.below (Sl.below hl RVar.kept (hTw3.below hB hBg hBh) (Nat.le_refl _)) RVar.kept (Below.refl _ _) (Nat.le_trans hB hTw3.size)
        have hne := nextE_any l v uv sv w3 hux hsl3.lt (by omega)
        rw [HGN.out] at hne
        have HN := Lib.hid hne
        clear hne HGN
        go_wp2_with fail
        (with_reducible refine HN.out.mono ?_)
        rintro e w4 ⟨nv, rfl, hnv, hb4⟩
        have hI4 := HVI.out.now _ _ _ hI3 hb4
        obtain ⟨⟨t1, a1, hg4⟩, ⟨t2, a2, hh4⟩⟩ := HVI.out.one _ _ hI4
        have hnv4 := hnv.two hg4 hh4
        have hTw4 : Two g h w w4 := hTw3.trans (Two.of_below hb4)
        clear hg4 hh4 hnv HN HST
        cases hnx : (nextV l v).2
        · rw [hnx] at HDR
          have HD2 : Hid (d ++ [v] = R) := HDR.out
          go_wp2_with fail
          go_roundg (f')
          case rel => exact ⟨f', false, _, rfl, rfl, Nat.le_refl _, by omega, hTw4, d ++ [v], hI4, fun e => (by cases e), fun _ => HD2.out⟩
          case measure => omega
        · rw [hnx] at HDR
          obtain ⟨hg5, hn5⟩ := HNG.out hnx
          have HD2 : Hid (d ++ [v] ++ eachL l q f' (nextV l v).1 = R) := by show _ = _; rw [List.append_assoc]; exact HDR.out
          have hfu5 : prodL l ≤ f' + numL l (nextV l v).1 := by omega
          have H5 := Lib.hid (And.intro hg5 hfu5)
          clear hg5 hn5 hfu5 hnx
          generalize (nextV l v).1 = v' at *
          go_wp2_with fail
          go_roundg (f')
          case rel => exact ⟨f', true, _, rfl, rfl, Nat.le_refl _, by omega, hTw4, d ++ [v], hI4, fun _ => ⟨v', H5.out.1, hnv4, H5.out.2, HD2.out⟩, fun e => (by cases e)⟩
          case measure => omega
end Go.Proofs.YtijmnenojbfdnaaGreatDoor

namespace Go.Proofs.YtijmnenojbfdnaaGreatDoor
open Go.RowKit
theorem num_yes {n : Int} (h : numB n = true) : numV n = some ⟨2, n, emptyS⟩ := by unfold numV; rw [if_pos h]
theorem num_no {n : Int} (h : numB n = false) : numV n = none := by unfold numV; rw [h]; rfl
set_option maxHeartbeats 400000 in
theorem truth_any (b : Bool) (w : World) : Calls Tryz.prog 81 #[.bool b] w fun e w' => e = .returned (valV (truthV b)) ∧ Below w.heap.size w w' := by
  have hb := bone w (.cells #[.int .i64 0, .int .i64 0, .string ⟨#[]⟩] 25)
  have hB := Blk.new w 25 #[.int .i64 0, .int .i64 0, .string ⟨#[]⟩]
  obtain ⟨x0, x1, x2⟩ := hB.c3
  have k0 := hB.frozen 0
  have k1 := hB.frozen 1
  have k2 := hB.frozen 2
  cases b
  · go_enter Tryz.func81, Tryz.ntmps81
    go_upto_region 1 with fail
    generalize hw1 : w.alloc (.cells #[.int .i64 0, .int .i64 0, .string ⟨#[]⟩] 25) = w1 at *
    clear hw1
    go_wp2_with fail
    obtain ⟨t0, t1, t2⟩ := (hB.set3 (.int .i64 1) (.int .i64 0) (.string ⟨#[]⟩)).c3
    refine bodyPost_ret (v := .agg #[.int .i64 1, .int .i64 0, .string ⟨#[]⟩]) (by simp [results, Tryz.results81, go_sem, t0, t1, t2]) rfl ?_
    exact ⟨rfl, bset3 hb (Nat.le_refl _) _ _ _⟩
  · go_enter Tryz.func81, Tryz.ntmps81
    go_upto_region 1 with fail
    generalize hw1 : w.alloc (.cells #[.int .i64 0, .int .i64 0, .string ⟨#[]⟩] 25) = w1 at *
    clear hw1
    go_wp2_with fail
    obtain ⟨t0, t1, t2⟩ := (hB.set3 (.int .i64 1) (.int .i64 1) (.string ⟨#[]⟩)).c3
    refine bodyPost_ret (v := .agg #[.int .i64 1, .int .i64 1, .string ⟨#[]⟩]) (by simp [results, Tryz.results81, go_sem, t0, t1, t2]) rfl ?_
    exact ⟨rfl, bset3 hb (Nat.le_refl _) _ _ _⟩
def RetO (o : Option Val) (w : World) (e : Ending) (w' : World) : Prop :=
  ∃ v : Val, e = .returned (.tuple #[.agg #[.int .i64 v.kind, .int .i64 v.n, .string v.s], .bool o.isSome]) ∧ (∀ a, o = some a → v = a) ∧ Below w.heap.size w w'
set_option maxHeartbeats 400000 in
theorem enumber_any (n : Int) (w : World) (hn : Fit n) : Calls Tryz.prog 83 #[.int .i64 n] w (RetO (numV n) w) := by
  unfold Fit at hn
  have hb := bone w (.cells #[.int .i64 0, .int .i64 0, .string ⟨#[]⟩] 25)
  have hB := Blk.new w 25 #[.int .i64 0, .int .i64 0, .string ⟨#[]⟩]
  obtain ⟨x0, x1, x2⟩ := hB.c3
  have k0 := hB.frozen 0
  have k1 := hB.frozen 1
  have k2 := hB.frozen 2
  by_cases h1 : -4503599627370496 ≤ n <;> by_cases h2 : n ≤ 4503599627370496
  · have HN := Lib.hid (num_yes (numB_yes h1 h2))
    generalize numV n = r at *
    go_enter Tryz.func83, Tryz.ntmps83
    go_upto_region 1 with fail
    generalize hw1 : w.alloc (.cells #[.int .i64 0, .int .i64 0, .string ⟨#[]⟩] 25) = w1 at *
    clear hw1
    go_wp2_with fail
    obtain ⟨t0, t1, t2⟩ := (hB.set3 (.int .i64 2) (.int .i64 n) (.string ⟨#[]⟩)).c3
    refine bodyPost_ret (v := .tuple #[.agg #[.int .i64 2, .int .i64 n, .string ⟨#[]⟩], .bool true]) (by simp [results, Tryz.results83, go_sem, t0, t1, t2]) rfl ?_
    exact ⟨⟨2, n, ⟨#[]⟩⟩, by rw [HN.out]; rfl, fun a h => (by rw [HN.out] at h; injection h), bset3 hb (Nat.le_refl _) _ _ _⟩
  rotate_left 2
  · exfalso; omega
  all_goals
    have HN := Lib.hid (num_no (numB_no (n := n) (fun h => by omega)))
    generalize numV n = r at *
    try (have h1' : n < -4503599627370496 := by omega)
    try (have h2' : 4503599627370496 < n := by omega)
    try (have d2 : decide (n ≤ 4503599627370496) = false := decide_eq_false (by omega))
    clear h1 h2
    try (have h1 : -4503599627370496 ≤ n := by omega)
    go_enter Tryz.func83, Tryz.ntmps83
    go_upto_region 1 with fail
    generalize hw1 : w.alloc (.cells #[.int .i64 0, .int .i64 0, .string ⟨#[]⟩] 25) = w1 at *
    clear hw1
    go_wp2_with fail
    obtain ⟨t0, t1, t2⟩ := (hB.set3 (.int .i64 2) (.int .i64 n) (.string ⟨#[]⟩)).c3
    refine bodyPost_ret (v := .tuple #[.agg #[.int .i64 2, .int .i64 n, .string ⟨#[]⟩], .bool false]) (by simp [results, Tryz.results83, go_sem, t0, t1, t2]) rfl ?_
    exact ⟨⟨2, n, ⟨#[]⟩⟩, by rw [HN.out]; rfl, fun a h => (by rw [HN.out] at h; cases h), bset3 hb (Nat.le_refl _) _ _ _⟩
theorem RetO.cast {o o' : Option Val} {w w' : World} {e : Ending} (h : o' = o) (k : RetO o w e w') : RetO o' w e w' := by rw [h]; exact k
set_option maxHeartbeats 1000000 in
theorem product_any (a b : Int) (w : World) (ha : -4503599627370496 ≤ a ∧ a ≤ 4503599627370496) (hb0 : -4503599627370496 ≤ b ∧ b ≤ 4503599627370496) :
    Calls Tryz.prog 84 #[.int .i64 a, .int .i64 b] w (RetO (numV (a * b)) w) := by
  have hb := bone w (.cells #[.int .i64 0, .int .i64 0, .string ⟨#[]⟩] 25)
  have hB := Blk.new w 25 #[.int .i64 0, .int .i64 0, .string ⟨#[]⟩]
  go_enter Tryz.func84, Tryz.ntmps84
  go_upto_region 1 with fail
  generalize hw1 : w.alloc (.cells #[.int .i64 0, .int .i64 0, .string ⟨#[]⟩] 25) = w1 at *
  clear hw1
  have HST : Hid (∀ (W : World) (x y z : Value), Below w1.heap.size w1 W →
      (W.frozen? ⟨w.heap.size, 0, none⟩ = false ∧ W.frozen? ⟨w.heap.size, 1, none⟩ = false ∧ W.frozen? ⟨w.heap.size, 2, none⟩ = false) ∧
      Blk (((W.setCell ⟨w.heap.size, 0, none⟩ x).setCell ⟨w.heap.size, 1, none⟩ y).setCell ⟨w.heap.size, 2, none⟩ z) w.heap.size 25 #[x, y, z] ∧
      (W.cell? ⟨w.heap.size, 0, none⟩ = some (.int .i64 0) ∧ W.cell? ⟨w.heap.size, 1, none⟩ = some (.int .i64 0) ∧ W.cell? ⟨w.heap.size, 2, none⟩ = some (.string ⟨#[]⟩)) ∧
      Below w.heap.size w (((W.setCell ⟨w.heap.size, 0, none⟩ x).setCell ⟨w.heap.size, 1, none⟩ y).setCell ⟨w.heap.size, 2, none⟩ z)) :=
    fun W x y z hW => ⟨⟨(hB.now hW).frozen 0, (hB.now hW).frozen 1, (hB.now hW).frozen 2⟩, (hB.now hW).set3 _ _ _, (hB.now hW).c3, bset3 (bthen hb hW) (Nat.le_refl _) _ _ _⟩
  clear hb hB
  by_cases hz : a = 0 ∨ b = 0
  · have e0 : a * b = 0 := by rcases hz with h | h <;> simp [h]
    have HEE : Hid (numV (a * b) = numV 0) := by show _ = _; rw [e0]
    have HZ : Hid (∀ Q : Prop, ((a == 0) = true → Q) → ((a == 0) = false → (b == 0) = true → Q) → Q) := by
      intro Q h1 h2
      by_cases e : a = 0
      · exact h1 (by simp [e])
      · exact h2 (by simp [e]) (by rcases hz with h | h; exact absurd h e; simp [h])
    clear hz e0
    refine HZ.out _ (fun b1 => ?_) (fun b1 b2 => ?_)
    all_goals
      go_wp2_with fail
      refine (enumber_any 0 _ (by unfold Fit; omega)).mono ?_
      rintro e w2 ⟨v, rfl, hv, hb2⟩
      obtain ⟨⟨k0, k1, k2⟩, hS, ⟨y0, y1, y2⟩, hbS⟩ := HST.out _ (.int .i64 v.kind) (.int .i64 v.n) (.string v.s) hb2
      generalize numV 0 = r at *
      go_wp2_with fail
      obtain ⟨t0, t1, t2⟩ := hS.c3
      refine bodyPost_ret (v := .tuple #[.agg #[.int .i64 v.kind, .int .i64 v.n, .string v.s], .bool r.isSome]) (by simp [results, Tryz.results84, go_sem, t0, t1, t2]) rfl ?_
      exact RetO.cast HEE.out ⟨v, rfl, hv, hbS⟩
  · have ha0 : a ≠ 0 := fun h => hz (.inl h)
    have hb1 : b ≠ 0 := fun h => hz (.inr h)
    have b1 : (a == 0) = false := by simp [ha0]
    have b2 : (b == 0) = false := by simp [hb1]
    have hMQ := fun hq => mul_quo (a := a) (b := b) (n := IntKind.i64.wrap (a * b)) hb0 hb1 rfl hq
    have hMF := fun h => mul_fits (a := a) (b := b) hb1 h
    have hwf : -9223372036854775808 ≤ IntKind.i64.wrap (a * b) ∧ IntKind.i64.wrap (a * b) ≤ 9223372036854775807 := by rw [IntKind.wrap_i64]; omega
    generalize hw : IntKind.i64.wrap (a * b) = n at *
    clear hz
    have hbn : ¬ b = -1 ∨ ¬ n = -9223372036854775808 := by
      rcases Classical.em (b = -1) with e | e
      · right
        rw [e, IntWalk.i64_in _ (by omega)] at hw
        omega
      · exact .inl e
    by_cases hq : Int.tdiv n b = a
    · have e := hMQ hq
      have b3 : (Int.tdiv n b != a) = false := by simp [hq]
      have wq : IntKind.i64.wrap (Int.tdiv n b) = Int.tdiv n b := by rw [hq]; exact IntWalk.i64_in _ (by omega)
      have HEE : Hid (numV (a * b) = numV n) := by show _ = _; rw [← e]
      clear hMQ hMF hq e
      go_wp2_with fail
      refine (enumber_any n _ (by unfold Fit; omega)).mono ?_
      rintro e' w2 ⟨v, rfl, hv, hb2⟩
      obtain ⟨⟨k0, k1, k2⟩, hS, ⟨y0, y1, y2⟩, hbS⟩ := HST.out _ (.int .i64 v.kind) (.int .i64 v.n) (.string v.s) hb2
      generalize numV n = r at *
      go_wp2_with fail
      obtain ⟨t0, t1, t2⟩ := hS.c3
      refine bodyPost_ret (v := .tuple #[.agg #[.int .i64 v.kind, .int .i64 v.n, .string v.s], .bool r.isSome]) (by simp [results, Tryz.results84, go_sem, t0, t1, t2]) rfl ?_
      exact RetO.cast HEE.out ⟨v, rfl, hv, hbS⟩
    · have HNO : Hid (numV (a * b) = none) := by
        refine num_no (numB_no (fun h => ?_))
        obtain ⟨e1, e2⟩ := hMF h
        rw [← e1] at e2
        exact hq e2
      have b3 : (Int.tdiv n b != a) = true := by simp [hq]
      have wq : IntKind.i64.wrap (Int.tdiv n b) = Int.tdiv n b := by
        have h1 := Int.natAbs_tdiv_le_natAbs n b
        refine IntWalk.i64_in _ ?_
        rcases hbn with h | h
        · rcases Classical.em (n = -9223372036854775808) with e | e
          · rcases Classical.em (b = 1) with e2 | e2
            · rw [e2, Int.tdiv_one]; omega
            · have h2 : (Int.tdiv n b).natAbs ≤ 4611686018427387904 := by
                rw [Int.natAbs_tdiv]
                exact Nat.le_trans (Nat.div_le_div_left (c := 2) (by omega) (by omega)) (by omega)
              omega
          · omega
        · omega
      clear hMQ hMF hq hbn
      obtain ⟨⟨k0, k1, k2⟩, hS, ⟨y0, y1, y2⟩, hbS⟩ := HST.out _ (.int .i64 0) (.int .i64 0) (.string ⟨#[]⟩) (Below.refl _ _)
      go_wp2_with fail
      obtain ⟨t0, t1, t2⟩ := hS.c3
      refine bodyPost_ret (v := .tuple #[.agg #[.int .i64 0, .int .i64 0, .string ⟨#[]⟩], .bool false]) (by simp [results, Tryz.results84, go_sem, t0, t1, t2]) rfl ?_
      exact ⟨⟨0, 0, ⟨#[]⟩⟩, by rw [HNO.out]; rfl, fun x h => (by rw [HNO.out] at h; cases h), hbS⟩
end Go.Proofs.YtijmnenojbfdnaaGreatDoor
