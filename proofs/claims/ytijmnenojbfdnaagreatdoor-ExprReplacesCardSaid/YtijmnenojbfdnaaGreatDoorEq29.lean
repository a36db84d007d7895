/- Texts of this seat, merged. -/
import Derived.Test.YtijmnenojbfdnaaGreatDoorEq01
import Derived.Test.YtijmnenojbfdnaaGreatDoorEq02
import Derived.Test.YtijmnenojbfdnaaGreatDoorEq03
import Derived.Test.YtijmnenojbfdnaaGreatDoorEq04
import Derived.Test.YtijmnenojbfdnaaGreatDoorEq05
import Derived.Test.YtijmnenojbfdnaaGreatDoorEq06
import Derived.Test.YtijmnenojbfdnaaGreatDoorEq07
import Derived.Test.YtijmnenojbfdnaaGreatDoorEq08
import Derived.Test.YtijmnenojbfdnaaGreatDoorEq09
import Derived.Test.YtijmnenojbfdnaaGreatDoorEq10
import Derived.Test.YtijmnenojbfdnaaGreatDoorEq11
import Derived.Test.YtijmnenojbfdnaaGreatDoorEq12
import Derived.Test.YtijmnenojbfdnaaGreatDoorEq13
import Derived.Test.YtijmnenojbfdnaaGreatDoorEq14
import Derived.Test.YtijmnenojbfdnaaGreatDoorEq15
import Derived.Test.YtijmnenojbfdnaaGreatDoorEq16
import Derived.Test.YtijmnenojbfdnaaGreatDoorEq17
import Derived.Test.YtijmnenojbfdnaaGreatDoorEq18
import Derived.Test.YtijmnenojbfdnaaGreatDoorEq19
import Derived.Test.YtijmnenojbfdnaaGreatDoorEq20
import Derived.Test.YtijmnenojbfdnaaGreatDoorEq21
import Derived.Test.YtijmnenojbfdnaaGreatDoorEq22
import Derived.Test.YtijmnenojbfdnaaGreatDoorEq23
import Derived.Test.YtijmnenojbfdnaaGreatDoorEq24
import Derived.Test.YtijmnenojbfdnaaGreatDoorEq25
import Derived.Test.YtijmnenojbfdnaaGreatDoorEq26
import Derived.Test.YtijmnenojbfdnaaGreatDoorEq27
import Derived.Test.YtijmnenojbfdnaaGreatDoorEq28
set_option linter.unusedSimpArgs false
set_option linter.unusedVariables false
namespace Go.Proofs.YtijmnenojbfdnaaGreatDoor
open Go.RowKit
def ifW (k : Nat) : ByteArray := if k = 0 then ⟨#[105, 102, 32]⟩ else if k = 1 then ⟨#[32, 116, 104, 101, 110, 32]⟩ else ⟨#[32, 101, 108, 115, 101, 32]⟩
def ifP (n : Nat) (x : Ex) : Nat → List UInt8
  | 0 => []
  | k + 1 => ifP n x k ++ (ifW k).data.toList ++ txB n (kAt x.l k) 1
theorem ifP_le (n : Nat) (x : Ex) : ∀ {j k : Nat}, j ≤ k → (ifP n x j).length ≤ (ifP n x k).length := by
  intro j k h
  induction h with
  | refl => exact Nat.le_refl _
  | step _ ih => refine Nat.le_trans ih ?_; rw [ifP, List.length_append, List.length_append]; omega
theorem ifW_run (k : Nat) (hk : k < 3) (W : World) : (Instr.index 133 (.agg #[.string ⟨#[105, 102, 32]⟩, .string ⟨#[32, 116, 104, 101, 110, 32]⟩, .string ⟨#[32, 101, 108, 115, 101, 32]⟩]) (.int .i64 (k : Int))).run Tryz.prog W = .ok (.string (ifW k)) W := by
  match k, hk with
  | 0, _ => show _ = _; kernel_rfl
  | 1, _ => show _ = _; kernel_rfl
  | 2, _ => show _ = _; kernel_rfl
set_option maxHeartbeats 2000000 in
set_option maxRecDepth 100000 in
theorem write_if (n : Nat) (hIH : ∀ k, k < n → WriteC k) (u : Value) (x : Ex) (asks : Nat) (w : World) (B b : Nat) (l : List UInt8) (h2 : x.op = 12) (hlt : ¬ levB x.op.toNat < asks) (hok : okX x = true) (h1 : x.l.length = 3) (hbd : Bld w B b l) (hBw : B ≤ w.heap.size) (hx : IsEx n (Lt B) w u x) (hA : ∀ W, Below B w W → Amb W)
    (hlen : l.length + (txB (n + 1) x asks).length ≤ 100000000) :
    Calls Tryz.prog 50 #[.pointer (some ⟨b, 0, none⟩), u, .int .i64 (asks : Int)] w fun e w' => e = .returned (.tuple #[]) ∧ Bld w' B b (l ++ txB (n + 1) x asks) ∧ Below B w w' ∧ Lib.OthersKept 5 (some b) w w' := by
  have ht : txB (n + 1) x asks = ifP n x 3 := by
    unfold txB
    dsimp only
    rw [if_neg hlt, if_neg (by omega), if_neg (by omega), if_neg (by omega), if_pos h2]
    cases n <;> simp [ifP, ifW, txB]
  rw [ht] at hlen ⊢
  obtain ⟨lv, rfl, _, Ax, cx, rfl⟩ := hx.cells
  rw [h2] at hlt ⊢
  have hlv : ¬ (levB 12 : Int) < (asks : Int) := by have : levB (12 : Int).toNat = levB 12 := rfl; omega
  have dlv : decide (levB 12 < asks) = false := decide_eq_false (by have : levB (12 : Int).toNat = levB 12 := rfl; omega)
  have HL2 := Lib.hid (fun W => level_any 12 W (by omega))
  have hb1 := bone w (.cells #[.int .i64 12, .int .i64 x.v.kind, .int .i64 x.v.n, .string x.v.s, .string x.s, .slice Ax x.l.length cx] 28)
  have hN1 := Blk.new w 28 #[.int .i64 12, .int .i64 x.v.kind, .int .i64 x.v.n, .string x.v.s, .string x.s, .slice Ax x.l.length cx]
  have hbd1 := hbd.now hb1
  have hBb1 : Below B w _ := hb1.mono hBw
  have hBw1 := Nat.le_trans hBw hb1.size
  have HP := Lib.hid (fun k (hk : k < x.l.length) => part_at hIH (okX_l hok) (ex_slice hx) hk)
  have hblt := Bld.lt hbd
  have HA := Lib.hid hA
  have HLN := Lib.hid hlen
  have HH1 := Lib.hid h1
  have hok1 := (Lib.OthersKept.refl 5 (some b) w).alloc (.cells #[.int .i64 12, .int .i64 x.v.kind, .int .i64 x.v.n, .string x.v.s, .string x.s, .slice Ax x.l.length cx] 28)
  clear hA hlen hx h1 ht h2 hlt
  go_enter Tryz.func50, Tryz.ntmps50
  obtain ⟨n0, n1, n2, n3, n4, n5⟩ := hN1.c6
  go_wp2_with fail
  refine (HL2.out _).mono ?_
  rintro e w2 ⟨rfl, rfl⟩
  clear HL2
  generalize hw1 : (w.alloc (.cells #[.int .i64 12, .int .i64 x.v.kind, .int .i64 x.v.n, .string x.v.s, .string x.s, .slice Ax x.l.length cx] 28)) = w1 at *
  clear hw1
  go_wp2_with fail
  go_loopw [86] (fun i wr => ∃ k : Nat, k ≤ 3 ∧ i = .int .i64 (k : Int) ∧ Bld wr B b (l ++ ifP n x k) ∧ Below B w wr ∧ w1.heap.size ≤ wr.heap.size ∧ Lib.OthersKept 5 (some b) w1 wr) (fun i _ => 3 - (intOf i).toNat)
  case atStart => exact ⟨0, by omega, rfl, by rw [ifP, List.append_nil]; exact hbd1, hBb1, Nat.le_refl _, Lib.OthersKept.refl _ _ _⟩
  case round =>
    obtain ⟨k, hk, rfl, hbdr, hBr, hsr, hkr⟩ := hrel
    have hNr := Blk.others hN1 hkr (fun e => by injection e with e; omega) (by decide)
    clear n0 n1 n2 n3 n4 n5
    obtain ⟨n0, n1, n2, n3, n4, n5⟩ := hNr.c6
    have hBwr := Nat.le_trans hBw1 hsr
    by_cases hlt : k < 3
    · obtain ⟨bb, oo, y, Ay, cy, rfl, hbb, hky, y0, y1, y2, y3, y4, y5, hcy⟩ := HP.out k (by rw [HH1.out]; exact hlt)
      have hle := ifP_le n x (show k + 1 ≤ 3 by omega)
      have hln : l.length + (ifP n x (k + 1)).length ≤ 100000000 := by have := HLN.out; omega
      rw [ifP, hky, List.length_append, List.length_append] at hln
      have HLK := Lib.hid hln
      have HW := Lib.hid (writeString_any B b (l ++ ifP n x k) (ifW k) _ hbdr (by rw [List.length_append]; have : (ifW k).data.toList.length = (ifW k).size := Array.length_toList; omega) hBwr)
      have HI := ifW_run k hlt
      have HKY := Lib.hid hky
      clear hln hle hky
      have i2 : (k : Int) < (x.l.length : Int) := by rw [HH1.out]; omega
      go_wp2_with fail
      (with_reducible refine HW.out.mono ?_)
      rintro e w3 ⟨rfl, hbd3, hb3, hk3⟩
      have hN3 := Blk.others hNr hk3 (fun e => by injection e with e; omega) (by decide)
      have hBb3 := hBr.trans hb3
      have hBw3 := Nat.le_trans hBwr hb3.size
      have hcell : ∀ o, w3.cell? ⟨bb, o, none⟩ = w.cell? ⟨bb, o, none⟩ := fun o => hBb3.cell (p := ⟨bb, o, none⟩) hbb
      rw [← hcell] at y0 y1 y2 y3 y4 y5
      have hz := hcy 1 b _ w3 (by omega) hBb3 hbd3 hBw3 (fun W h => HA.out W (hBb3.trans h)) (by have := HLK.out; rw [List.length_append, List.length_append]; omega)
      rw [show ((1 : Nat) : Int) = 1 from rfl] at hz
      have HZ := Lib.hid hz
      clear hz hcy hcell n0 n1 n2 n3 n4 n5 HW HI
      obtain ⟨n0, n1, n2, n3, n4, n5⟩ := hN3.c6
      go_wp2_with fail
      (with_reducible refine HZ.out.mono ?_)
      rintro e w5 ⟨rfl, hbd5, hb5, hk5⟩
      have hBb5 := hBb3.trans hb5
      clear y0 y1 y2 y3 y4 y5 n0 n1 n2 n3 n4 n5 HZ
      go_wp2_with fail
      go_roundw
      case rel => exact ⟨k + 1, by omega, by go_num, by rw [ifP, HKY.out]; simpa using hbd5, hBb5, Nat.le_trans (Nat.le_trans hsr hb3.size) hb5.size, (hkr.trans hk3).trans hk5⟩
      case measure => simp [intOf]; omega
    · have hk3 : k = 3 := by omega
      subst hk3
      go_wp2_with fail
      go_end0
      exact ⟨rfl, hbdr, hBr, hok1.trans hkr⟩
end Go.Proofs.YtijmnenojbfdnaaGreatDoor

namespace Go.Proofs.YtijmnenojbfdnaaGreatDoor
open Go.RowKit
def sepC : List UInt8 := [44, 32]
def inP (n : Nat) (ys : List Ex) (k : Nat) : List UInt8 := joinB sepC ((ys.take k).map fun y => txB n y 0)
theorem joinB_snoc (sep : List UInt8) : ∀ (l : List (List UInt8)) (a : List UInt8), l ≠ [] → joinB sep (l ++ [a]) = joinB sep l ++ sep ++ a
  | [], a, h => absurd rfl h
  | [b], a, _ => rfl
  | b :: c :: l, a, _ => by
    have := joinB_snoc sep (c :: l) a (by simp)
    show b ++ sep ++ joinB sep (c :: l ++ [a]) = b ++ sep ++ joinB sep (c :: l) ++ sep ++ a
    rw [this]; simp
theorem inP_step {n k : Nat} {ys : List Ex} (hk : k < ys.length) : inP n ys (k + 1) = (if k = 0 then [] else inP n ys k ++ sepC) ++ txB n (kAt ys k) 0 := by
  have hg : kAt ys k = ys[k] := by unfold kAt; rw [List.getD_eq_getElem?_getD, List.getElem?_eq_getElem hk]; rfl
  unfold inP
  rw [List.take_succ_eq_append_getElem hk, List.map_append, hg]
  by_cases h : k = 0
  · subst h; rfl
  · rw [if_neg h]
    show joinB sepC (_ ++ [txB n ys[k] 0]) = _
    rw [joinB_snoc]
    intro e
    have := congrArg List.length e
    rw [List.length_map, List.length_take] at this
    simp at this
    rcases this with h' | h'
    · exact h h'
    · rw [h'] at hk; simp at hk
theorem inP_pre {n k : Nat} {ys : List Ex} (hk : k < ys.length) : (inP n ys k).length ≤ (inP n ys (k + 1)).length := by
  rw [inP_step hk]
  by_cases h : k = 0
  · subst h; simp [inP, joinB]
  · rw [if_neg h, List.length_append, List.length_append]; omega
theorem inP_le (n : Nat) (ys : List Ex) {j k : Nat} (h : j ≤ k) : k ≤ ys.length → (inP n ys j).length ≤ (inP n ys k).length := by
  induction h with
  | refl => intro _; exact Nat.le_refl _
  | step h ih => intro hk; exact Nat.le_trans (ih (by omega)) (inP_pre (by omega))
theorem inP_zero (n : Nat) (ys : List Ex) : inP n ys 0 = [] := rfl
theorem txB_in {n : Nat} {x : Ex} {asks : Nat} (h2 : x.op = 13) (hlt : ¬ levB x.op.toNat < asks) : txB (n + 1) x asks = txB n (kAt x.l 0) 6 ++ [32, 105, 110, 32, 123] ++ inP n (x.l.drop 1) (x.l.drop 1).length ++ [125] := by
  unfold txB
  dsimp only
  rw [if_neg hlt, if_neg (by omega), if_neg (by omega), if_neg (by omega), if_neg (by omega), if_pos h2]
  unfold inP
  rw [List.take_length]
  cases n <;> rfl
set_option maxHeartbeats 2000000 in
set_option maxRecDepth 100000 in
theorem write_in (n : Nat) (hIH : ∀ k, k < n → WriteC k) (u : Value) (x : Ex) (asks : Nat) (w : World) (B b : Nat) (l : List UInt8) (h2 : x.op = 13) (hlt : ¬ levB x.op.toNat < asks) (hok : okX x = true) (h1 : 2 ≤ x.l.length) (hbd : Bld w B b l) (hBw : B ≤ w.heap.size) (hx : IsEx n (Lt B) w u x) (hA : ∀ W, Below B w W → Amb W)
    (hlen : l.length + (txB (n + 1) x asks).length ≤ 100000000) :
    Calls Tryz.prog 50 #[.pointer (some ⟨b, 0, none⟩), u, .int .i64 (asks : Int)] w fun e w' => e = .returned (.tuple #[]) ∧ Bld w' B b (l ++ txB (n + 1) x asks) ∧ Below B w w' ∧ Lib.OthersKept 5 (some b) w w' := by
  rw [txB_in h2 hlt] at hlen ⊢
  obtain ⟨lv, rfl, _, Ax, cx, rfl⟩ := hx.cells
  rw [h2] at hlt ⊢
  have hlv : ¬ (levB 13 : Int) < (asks : Int) := by have : levB (13 : Int).toNat = levB 13 := rfl; omega
  have dlv : decide (levB 13 < asks) = false := decide_eq_false (by have : levB (13 : Int).toNat = levB 13 := rfl; omega)
  have HL2 := Lib.hid (fun W => level_any 13 W (by omega))
  have hb1 := bone w (.cells #[.int .i64 13, .int .i64 x.v.kind, .int .i64 x.v.n, .string x.v.s, .string x.s, .slice Ax x.l.length cx] 28)
  have hN1 := Blk.new w 28 #[.int .i64 13, .int .i64 x.v.kind, .int .i64 x.v.n, .string x.v.s, .string x.s, .slice Ax x.l.length cx]
  have hbd1 := hbd.now hb1
  have hBb1 : Below B w _ := hb1.mono hBw
  have hBw1 := Nat.le_trans hBw hb1.size
  have hblt := Bld.lt hbd
  have hsx := ex_slice hx
  obtain ⟨Ax', cx', hAx, hc1, hc2, _⟩ := hsx.open_
  injection hAx with e1 _ e2
  subst e1 e2
  obtain ⟨bb, oo, y, Ay, cy, rfl, hbb, hky, y0, y1, y2, y3, y4, y5, hcy⟩ := part_at hIH (okX_l hok) hsx (k := 0) (by omega)
  have hst := hsx.tail (by omega)
  have hdl : (x.l.drop 1).length = x.l.length - 1 := List.length_drop
  have hokt : okL (x.l.drop 1) = true := by
    have := okX_l hok
    cases hh : x.l with
    | nil => rfl
    | cons a r => rw [hh, okL, Bool.and_eq_true] at this; exact this.2
  rw [← hdl] at hst
  generalize hys : x.l.drop 1 = ys at *
  have HP := Lib.hid (fun k (hk : k < ys.length) => part_at hIH hokt hst hk)
  have HD := Lib.hid hdl
  rw [hky] at hlen ⊢
  have q0 := (bcell hb1).1 bb (oo + 0 * 6) (by omega)
  have q1 := (bcell hb1).1 bb (oo + 0 * 6 + 1) (by omega)
  have q2 := (bcell hb1).1 bb (oo + 0 * 6 + 2) (by omega)
  have q3 := (bcell hb1).1 bb (oo + 0 * 6 + 3) (by omega)
  have q4 := (bcell hb1).1 bb (oo + 0 * 6 + 4) (by omega)
  have q5 := (bcell hb1).1 bb (oo + 0 * 6 + 5) (by omega)
  rw [y0, Nat.zero_mul, Nat.add_zero] at q0
  rw [y1, Nat.zero_mul, Nat.add_zero] at q1
  rw [y2, Nat.zero_mul, Nat.add_zero] at q2
  rw [y3, Nat.zero_mul, Nat.add_zero] at q3
  rw [y4, Nat.zero_mul, Nat.add_zero] at q4
  rw [y5, Nat.zero_mul, Nat.add_zero] at q5
  have HA := Lib.hid hA
  have hln : l.length + (txB n y 6).length + (inP n ys ys.length).length + 6 ≤ 100000000 := by simp at hlen ⊢; omega
  have HLN := Lib.hid hln
  have HY := Lib.hid (hcy 6 b l _ (by omega) hBb1 hbd1 hBw1 (fun W h => HA.out W (hBb1.trans h)) (by omega))
  have hok1 := (Lib.OthersKept.refl 5 (some b) w).alloc (.cells #[.int .i64 13, .int .i64 x.v.kind, .int .i64 x.v.n, .string x.v.s, .string x.s, .slice (some ⟨bb, oo, none⟩) x.l.length cx] 28)
  have i0 : (0 : Int) < (x.l.length : Int) := by omega
  have i1 : (1 : Int) ≤ (x.l.length : Int) := by omega
  have i2 : (2 : Int) ≤ (x.l.length : Int) := by omega
  have i3 : (x.l.length : Int) ≤ (cx : Int) := by omega
  have i4 : 2 ≤ cx := by omega
  clear hA hlen hln hx hsx h2 hlt hcy hst hdl hky y0 y1 y2 y3 y4 y5 hys
  go_enter Tryz.func50, Tryz.ntmps50
  obtain ⟨n0, n1, n2, n3, n4, n5⟩ := hN1.c6
  go_wp2_with fail
  refine (HL2.out _).mono ?_
  rintro e w2 ⟨rfl, rfl⟩
  clear HL2
  generalize hw1 : (w.alloc (.cells #[.int .i64 13, .int .i64 x.v.kind, .int .i64 x.v.n, .string x.v.s, .string x.s, .slice (some ⟨bb, oo, none⟩) x.l.length cx] 28)) = w1 at *
  clear hw1
  go_wp2_with fail
  refine HY.out.mono ?_
  rintro e w3 ⟨rfl, hbd3, hb3, hk3⟩
  have hBw3 := Nat.le_trans hBw1 hb3.size
  have HW := Lib.hid (writeString_any B b _ ⟨#[32, 105, 110, 32, 123]⟩ w3 hbd3 (by have := HLN.out; rw [List.length_append]; show _ + 5 ≤ _; omega) hBw3)
  go_wp2_with fail
  refine HW.out.mono ?_
  rintro e w4 ⟨rfl, hbd4, hb4, hk4⟩
  have hN3 := Blk.others hN1 hk3 (fun e => by injection e with e; omega) (by decide)
  have hN4 := Blk.others hN3 hk4 (fun e => by injection e with e; omega) (by decide)
  have hBb4 := (hBb1.trans hb3).trans hb4
  have hBw4 := Nat.le_trans hBw3 hb4.size
  have hko4 := (hok1.trans hk3).trans hk4
  have hg4 := hN4.lt
  generalize hg0 : w.heap.size = g0 at *
  clear hg0 n0 n1 n2 n3 n4 n5 HY HW hN1 hN3 hk3 hk4 hb3 hb4 hbd3 hbd1 q0 q1 q2 q3 q4 q5
  obtain ⟨n0, n1, n2, n3, n4, n5⟩ := hN4.c6
  generalize hpre : l ++ txB n y 6 ++ [32, 105, 110, 32, 123] = pre at *
  have HPR := Lib.hid hpre
  clear hpre
  go_wp2_with fail
  go_loopw [115] (fun i wr => ∃ k : Nat, k ≤ ys.length ∧ i = .int .i64 (k : Int) ∧ Bld wr B b (pre ++ inP n ys k) ∧ Below B w wr ∧ w4.heap.size ≤ wr.heap.size ∧ Lib.OthersKept 5 (some b) w4 wr) (fun i _ => ys.length - (intOf i).toNat)
  case atStart => exact ⟨0, Nat.zero_le _, rfl, by rw [inP_zero, List.append_nil]; exact hbd4, hBb4, Nat.le_refl _, Lib.OthersKept.refl _ _ _⟩
  case round =>
    obtain ⟨k, hk, rfl, hbdr, hBr, hsr, hkr⟩ := hrel
    have hNr := Blk.others hN4 hkr (fun e => by injection e with e; omega) (by decide)
    clear n0 n1 n2 n3 n4 n5
    have hBwr := Nat.le_trans hBw4 hsr
    by_cases hlt : k < ys.length
    · obtain ⟨bb', oo', z, Az, cz, e, hbb', hkz, z0, z1, z2, z3, z4, z5, hcz⟩ := HP.out k hlt
      injection e with e
      injection e with e1 e2 _
      subst e1 e2
      have hcell : ∀ o, wr.cell? ⟨bb, o, none⟩ = w.cell? ⟨bb, o, none⟩ := fun o => hBr.cell (p := ⟨bb, o, none⟩) hbb
      rw [← hcell] at z0 z1 z2 z3 z4 z5
      have i5 : (k : Int) < ((x.l.length - 1 : Nat) : Int) := by have := HD.out; omega
      have i6 : (0 : Int) ≤ (k : Int) := by omega
      have hS := Blk.new wr 28 #[.int .i64 z.op, .int .i64 z.v.kind, .int .i64 z.v.n, .string z.v.s, .string z.s, .slice Az z.l.length cz]
      have hbS := bone wr (.cells #[.int .i64 z.op, .int .i64 z.v.kind, .int .i64 z.v.n, .string z.v.s, .string z.s, .slice Az z.l.length cz] 28)
      have HKZ := Lib.hid hkz
      have hle := inP_le n ys (show k + 1 ≤ ys.length by omega) (Nat.le_refl _)
      have HSTEP := Lib.hid (inP_step (n := n) hlt)
      have hln : (pre ++ inP n ys (k + 1)).length ≤ 100000000 := by have := HLN.out; rw [← HPR.out, List.length_append, List.length_append, List.length_append]; show _ + _ + 5 + _ ≤ _; omega
      have HLK := Lib.hid hln
      clear hkz hle hln hcell
      go_upto_region 34 with fail
      generalize hwS : wr.alloc (.cells #[.int .i64 z.op, .int .i64 z.v.kind, .int .i64 z.v.n, .string z.v.s, .string z.s, .slice Az z.l.length cz] 28) = wS at *
      have hbdS := hbdr.now hbS
      have hBS := hBr.trans (hbS.mono hBwr)
      have hkS := othBelow hkr hbS
      have hsS := Nat.le_trans hsr hbS.size
      have hBwS := Nat.le_trans hBwr hbS.size
      have hgr := hS.lt
      have hgb : b < wr.heap.size := hbdr.lt
      generalize hgg : wr.heap.size = gg at *
      clear hgg hwS z0 z1 z2 z3 z4 z5 hbS hNr
      by_cases hk0 : k = 0
      · subst hk0
        have hz := hcz 0 b _ wS (by omega) hBS hbdS hBwS (fun W h => HA.out W (hBS.trans h)) (by have := HLK.out; rw [HSTEP.out, if_pos rfl, HKZ.out, inP_zero] at *; simp at *; omega)
        rw [show ((0 : Nat) : Int) = 0 from rfl] at hz
        have HZ := Lib.hid hz
        clear hz hcz
        obtain ⟨d0, d1, d2, d3, d4, d5⟩ := hS.c6
        go_wp2_with fail
        (with_reducible refine HZ.out.mono ?_)
        rintro e w6 ⟨rfl, hbd6, hb6, hk6⟩
        clear d0 d1 d2 d3 d4 d5 HZ
        go_wp2_with fail
        go_roundw
        case rel => exact ⟨1, by omega, by go_num, by rw [HSTEP.out, HKZ.out]; simpa [inP_zero] using hbd6, hBS.trans hb6, Nat.le_trans hsS hb6.size, hkS.trans hk6⟩
        case measure => simp [intOf]; omega
      · have i7 : (0 : Int) < (k : Int) := by omega
        have HW := Lib.hid (writeString_any B b _ ⟨#[44, 32]⟩ wS hbdS (by have := HLK.out; rw [HSTEP.out, if_neg hk0] at this; simp [sepC] at this ⊢; show _ + 2 ≤ _; omega) hBwS)
        go_wp2_with fail
        (with_reducible refine HW.out.mono ?_)
        rintro e w5 ⟨rfl, hbd5, hb5, hk5⟩
        have hS5 := Blk.others hS hk5 (fun e => by injection e with e; omega) (by decide)
        have hB5 := hBS.trans hb5
        have hBw5 := Nat.le_trans hBwS hb5.size
        have hz := hcz 0 b _ w5 (by omega) hB5 hbd5 hBw5 (fun W h => HA.out W (hB5.trans h)) (by have := HLK.out; rw [HSTEP.out, if_neg hk0, HKZ.out] at this; simp [sepC] at this ⊢; omega)
        rw [show ((0 : Nat) : Int) = 0 from rfl] at hz
        have HZ := Lib.hid hz
        clear hz hcz HW
        obtain ⟨d0, d1, d2, d3, d4, d5⟩ := hS5.c6
        go_wp2_with fail
        (with_reducible refine HZ.out.mono ?_)
        rintro e w6 ⟨rfl, hbd6, hb6, hk6⟩
        clear d0 d1 d2 d3 d4 d5 HZ
        go_wp2_with fail
        go_roundw
        case rel => exact ⟨k + 1, by omega, by go_num, by rw [HSTEP.out, if_neg hk0, HKZ.out]; simpa [sepC] using hbd6, hB5.trans hb6, Nat.le_trans (Nat.le_trans hsS hb5.size) hb6.size, (hkS.trans hk5).trans hk6⟩
        case measure => simp [intOf]; omega
    · have hke : k = ys.length := by omega
      subst hke
      have i5 : ¬ ((ys.length : Nat) : Int) < ((x.l.length - 1 : Nat) : Int) := by have := HD.out; omega
      have HW := Lib.hid (writeByte_any B b _ 125 wr hbdr (by have := HLN.out; rw [← HPR.out]; simp; omega) hBwr)
      rw [show ((UInt8.toNat 125 : Nat) : Int) = 125 from rfl] at HW
      go_wp2_with fail
      (with_reducible refine HW.out.mono ?_)
      rintro e w5 ⟨rfl, hbd5, hb5, hk5⟩
      go_wp2_with fail
      go_end0
      exact ⟨rfl, by rw [← HPR.out] at hbd5; simpa using hbd5, hBr.trans hb5, (hko4.trans hkr).trans hk5⟩
end Go.Proofs.YtijmnenojbfdnaaGreatDoor

namespace Go.Proofs.YtijmnenojbfdnaaGreatDoor
open Go.RowKit
theorem write_any : ∀ n, WriteC n := by
  intro n
  induction n using Nat.strongRecOn with
  | _ n ih =>
    refine write_br n ?_
    intro u x asks w B b l hlt ha hok hbd hBw hx hA hlen
    have hs : shapeX x = true := by
      have := hok
      rw [okX_eq, Bool.and_eq_true, Bool.and_eq_true] at this
      exact this.1.1
    obtain ⟨s1, s2, s3, s4, s5, s6, s7, s8⟩ := shape_len hs
    by_cases h1 : x.op = 1
    · have hv : validV x.v = true := by
        unfold shapeX at hs
        rw [if_pos h1, Bool.and_eq_true] at hs
        exact hs.2
      exact write_const n u x asks w B b l h1 hlt hbd hBw hx hA hv hlen
    by_cases h2 : x.op = 2
    · exact write_var n u x asks w B b l h2 hlt hbd hBw hx hlen
    by_cases h3 : x.op = 3
    · exact write_not n ih u x asks w B b l h3 hlt hok (s3 h3) hbd hBw hx hA hlen
    by_cases h4 : 4 ≤ x.op ∧ x.op ≤ 11
    · exact write_bin n ih u x asks w B b l h4 hlt hok (s4 h4) hbd hBw hx hA hlen
    by_cases h12 : x.op = 12
    · exact write_if n ih u x asks w B b l h12 hlt hok (s5 h12) hbd hBw hx hA hlen
    · have h13 : x.op = 13 := by omega
      exact write_in n ih u x asks w B b l h13 hlt hok (s6 h13) hbd hBw hx hA hlen
def txE (n : Nat) (x : Ex) : ByteArray × Int := if validX x then (if 16384 < (txB (n + 1) x 0).length then (⟨#[]⟩, 5) else (⟨(txB (n + 1) x 0).toArray⟩, 0)) else (⟨#[]⟩, 1)
set_option maxHeartbeats 2000000 in
set_option maxRecDepth 100000 in
theorem exText_any (n : Nat) (x : Ex) (u : Value) (w : World) (h : IsEx n (Lt w.heap.size) w u x) (hA : Amb w) :
    Calls Tryz.prog 17 #[u] w fun e w' => e = .returned (.tuple #[.string (txE n x).1, .int .i64 (txE n x).2]) ∧ Below w.heap.size w w' := by
  have h0 := h
  obtain ⟨lv, rfl, _, Ax, cx, rfl⟩ := h.cells
  have hb1 := bone w (.cells #[.int .i64 x.op, .int .i64 x.v.kind, .int .i64 x.v.n, .string x.v.s, .string x.s, .slice Ax x.l.length cx] 28)
  have hN1 := Blk.new w 28 #[.int .i64 x.op, .int .i64 x.v.kind, .int .i64 x.v.n, .string x.v.s, .string x.s, .slice Ax x.l.length cx]
  have hx1 := h0.now hb1
  have HV := Lib.hid (validX_any n x _ _ hx1)
  clear h h0
  go_enter Tryz.func17, Tryz.ntmps17
  obtain ⟨n0, n1, n2, n3, n4, n5⟩ := hN1.c6
  go_wp2_with fail
  refine HV.out.mono ?_
  rintro e w2 ⟨rfl, hb2⟩
  have hbw2 := bthen hb1 hb2
  have hN2 := hN1.now hb2
  have hx2 := hx1.now hb2
  clear HV
  generalize hq : validX x = q at *
  have HQ := Lib.hid hq
  clear hq
  cases q
  · have HE : Hid (txE n x = (⟨#[]⟩, 1)) := by show _ = _; unfold txE; rw [if_neg (by rw [HQ.out]; exact Bool.false_ne_true)]
    go_wp2_with fail
    go_ret2
    exact ⟨by rw [HE.out]; rfl, hbw2⟩
  · have hv : validX x = true := HQ.out
    have hlen := valid_txB hv (n + 1) 0
    have HLN := Lib.hid hlen
    have HE1 : Hid (16384 < (txB (n + 1) x 0).length → txE n x = (⟨#[]⟩, 5)) := by show _ → _; intro h; unfold txE; rw [if_pos HQ.out, if_pos h]
    have HE2 : Hid (¬ 16384 < (txB (n + 1) x 0).length → txE n x = (⟨(txB (n + 1) x 0).toArray⟩, 0)) := by show _ → _; intro h; unfold txE; rw [if_pos HQ.out, if_neg h]
    have hb3 := bone w2 (.cells #[.pointer none, .slice none 0 0] 92)
    have hbl := Blk.new w2 92 #[.pointer none, .slice none 0 0]
    have hN3 := hN2.now hb3
    have hbd := Bld.new (B := w2.heap.size) hbl (Nat.le_refl _)
    have hx3 := hx2.below hb3 (Nat.le_refl _)
    have hbw3 := bthen hbw2 hb3
    have HA := Lib.hid hA
    have hwr := write_any n _ x 0 _ w2.heap.size w2.heap.size [] (by omega) (valid_ok hv) hbd hb3.size hx3 (fun W h => HA.out.now (hbw3.trans (h.mono hbw2.size))) (by show 0 + _ ≤ _; omega)
    rw [show ((0 : Nat) : Int) = 0 from rfl] at hwr
    have HW := Lib.hid hwr
    have hne : w.heap.size ≠ w2.heap.size := by have := hN2.lt; omega
    clear hwr hv hlen hx2 hx3 hx1 n0 n1 n2 n3 n4 n5 hbl hbd HQ
    obtain ⟨n0, n1, n2, n3, n4, n5⟩ := hN3.c6
    go_wp2_with fail
    (with_reducible refine HW.out.mono ?_)
    rintro e w4 ⟨rfl, hbd4, hb4, hk4⟩
    have hbw4 := hbw3.trans (hb4.mono hbw2.size)
    have hbL : w2.heap.size < w4.heap.size := hbd4.lt
    rw [List.nil_append] at hbd4
    have HLE := Lib.hid (Tryz.Builder_Len_f _ _ _ _ hbd4)
    have HBL : Hid ((Lib.byteCells (txB (n + 1) x 0)).length = (txB (n + 1) x 0).length) := Lib.byteCells_length _
    have HST := Lib.hid (string_any _ _ _ _ hbd4 (Nat.le_of_lt hbL))
    clear HW n0 n1 n2 n3 n4 n5
    go_wp2_with fail
    (with_reducible refine HLE.out.mono ?_)
    rintro e w5 ⟨rfl, rfl⟩
    rw [HBL.out]
    clear HLE
    by_cases hbig : 16384 < (txB (n + 1) x 0).length
    · have HE := Lib.hid (HE1.out hbig)
      clear HE1 HE2
      have hbi : (16384 : Int) < ((txB (n + 1) x 0).length : Int) := by omega
      go_wp2_with fail
      go_ret2
      exact ⟨by rw [HE.out]; rfl, hbw4⟩
    · have HE := Lib.hid (HE2.out hbig)
      clear HE1 HE2
      have hbi : ¬ (16384 : Int) < ((txB (n + 1) x 0).length : Int) := by omega
      go_wp2_with fail
      (with_reducible refine HST.out.mono ?_)
      rintro e w6 ⟨rfl, _, hb6, _⟩
      go_wp2_with fail
      go_ret2
      exact ⟨by rw [HE.out]; rfl, hbw4.trans (hb6.mono hbw2.size)⟩
end Go.Proofs.YtijmnenojbfdnaaGreatDoor

namespace Go.Proofs.YtijmnenojbfdnaaGreatDoor
open Go.RowKit
theorem txA (m : Nat) (h : 20 ≤ m) : txE m exA = (⟨#[110, 111, 116, 32, 110, 32, 43, 32, 49, 32, 61, 32, 51]⟩, 0) := by
  show _ = (ex1, 0)
  unfold txE
  have e : txB (m + 1) exA 0 = ex1.data.toList := by
    rw [txB_fuel (m + 1) 10 exA 0 okA (by have := depA; omega) depA]; exact tx1
  rw [validA, if_pos rfl, e, if_neg (by decide)]
theorem exVars_sl (w : World) : SlX (Lt (w.alloc (.cells #[.string ⟨#[110]⟩, .int .i64 2, .int .i64 0, .int .i64 3, .slice none 0 0] 68)).heap.size) (w.alloc (.cells #[.string ⟨#[110]⟩, .int .i64 2, .int .i64 0, .int .i64 3, .slice none 0 0] 68)) (.slice (some ⟨w.heap.size, 0, none⟩) 1 1) [exVar] :=
  Sl.ofBlk (R := RVar) (size := 5) (xs := [exVar]) (cs := [.string ⟨#[110]⟩, .int .i64 2, .int .i64 0, .int .i64 3, .slice none 0 0]) (Blk.new w 68 _) (by unfold maxLen; decide) (fun i x hx => by
    match i, hx with
    | 0, hx =>
      injection hx with hx; subst hx
      exact ⟨[.string ⟨#[110]⟩, .int .i64 2, .int .i64 0, .int .i64 3, .slice none 0 0], rfl, fun j u hu => by simpa using hu, _, rfl, by unfold maxLen; decide, by unfold Fit; decide, by unfold Fit; decide, by unfold Fit; decide, Sl.none_⟩
    | i + 1, hx => simp at hx)
set_option maxHeartbeats 2000000 in
set_option maxRecDepth 100000 in
theorem exAwake_any (w : World) (hA : Amb w) : Calls Tryz.prog 8 #[] w fun e w' => e = .returned (.bool true) ∧ Below w.heap.size w w' := by
  have HP1 := Lib.hid (parse_any ex1 w (by decide) 20 20 toks1 exA 6 _ (by omega) lex1 tokOk1 (by decide) (by omega) pars1 rfl rfl validA)
  have HP2 := Lib.hid (fun W => parse_any ex2 W (by decide) 20 20 toks2 exC 14 _ (by omega) lex2 tokOk2 (by decide) (by omega) pars2 rfl rfl validC)
  have HA := Lib.hid hA
  clear hA
  go_enter Tryz.func8, Tryz.ntmps8
  go_wp2_with fail
  refine HP1.out.mono ?_
  rintro e w2 ⟨m, v, rfl, hx2, hb2⟩
  have hx2 := hx2.up (show m ≤ max m 20 by omega)
  have hm20 : 20 ≤ max m 20 := by omega
  generalize max m 20 = n at *
  obtain ⟨lv, rfl, _, Ax, cx, rfl⟩ := hx2.cells
  clear HP1
  have hA2 := HA.out.now hb2
  have hb3 := bbox (bone w2 (.cells #[.int .i64 exA.op, .int .i64 exA.v.kind, .int .i64 exA.v.n, .string exA.v.s, .string exA.s, .slice Ax exA.l.length cx] 28)) (.cells #[.int .i64 0, .int .i64 0] 74)
  have hN3 := (Blk.new w2 28 #[.int .i64 exA.op, .int .i64 exA.v.kind, .int .i64 exA.v.n, .string exA.v.s, .string exA.s, .slice Ax exA.l.length cx]).alloc (.cells #[.int .i64 0, .int .i64 0] 74)
  go_upto_region 2 with fail
  generalize hw3 : (w2.alloc (.cells #[.int .i64 exA.op, .int .i64 exA.v.kind, .int .i64 exA.v.n, .string exA.v.s, .string exA.s, .slice Ax exA.l.length cx] 28)).alloc (.cells #[.int .i64 0, .int .i64 0] 74) = w3 at *
  clear hw3
  have hx3 := hx2.now hb3
  have hb3w := bthen hb2 hb3
  have hT := exText_any n exA _ w3 hx3 (hA2.now hb3)
  rw [txA n hm20] at hT
  have HT := Lib.hid hT
  clear hT hx2 hx3 hA2 hb2 hb3 hm20
  obtain ⟨n0, n1, n2, n3, n4, n5⟩ := hN3.c6
  go_wp2_with fail
  (with_reducible refine HT.out.mono ?_)
  rintro e w4 ⟨rfl, hb4⟩
  have hN4 := hN3.now hb4
  have hb4w := bthen hb3w hb4
  clear HT n0 n1 n2 n3 n4 n5 hN3 hb3w hb4
  go_wp2_with fail
  refine (HP2.out _).mono ?_
  rintro e w5 ⟨m2, v2, rfl, hx5, hb5⟩
  obtain ⟨lv, rfl, _, Ay, cy, rfl⟩ := hx5.cells
  have hN5 := hN4.now hb5
  have hb5w := bthen hb4w hb5
  have hb6 := bbox (bone w5 (.cells #[.int .i64 exC.op, .int .i64 exC.v.kind, .int .i64 exC.v.n, .string exC.v.s, .string exC.s, .slice Ay exC.l.length cy] 28)) (.cells #[.int .i64 0, .int .i64 0] 74)
  have hY6 := (Blk.new w5 28 #[.int .i64 exC.op, .int .i64 exC.v.kind, .int .i64 exC.v.n, .string exC.v.s, .string exC.s, .slice Ay exC.l.length cy]).alloc (.cells #[.int .i64 0, .int .i64 0] 74)
  clear HP2 hN4 hb4w hb5
  go_upto_region 4 with fail
  generalize hw6 : (w5.alloc (.cells #[.int .i64 exC.op, .int .i64 exC.v.kind, .int .i64 exC.v.n, .string exC.v.s, .string exC.s, .slice Ay exC.l.length cy] 28)).alloc (.cells #[.int .i64 0, .int .i64 0] 74) = w6 at *
  clear hw6
  have hN6 := hN5.now hb6
  have hx6 := hx5.now hb6
  have hb6w := bthen hb5w hb6
  clear hN5 hx5 hb5w hb6
  have hb7 := bone w6 (.cells #[.string ⟨#[110]⟩, .int .i64 2, .int .i64 0, .int .i64 3, .slice none 0 0] 68)
  have hV7 := Blk.new w6 68 #[.string ⟨#[110]⟩, .int .i64 2, .int .i64 0, .int .i64 3, .slice none 0 0]
  have hsl := exVars_sl w6
  have hM := models_any m2 [exVar] exC _ _ _ hsl (hx6.now hb7) (by decide)
  rw [md1] at hM
  have HM := Lib.hid hM
  have hY7 := hY6.now hb7
  have hN7 := hN6.now hb7
  have hb7w := bthen hb6w hb7
  clear hM hsl hV7 hb7 hx6
  obtain ⟨n0, n1, n2, n3, n4, n5⟩ := hY6.c6
  obtain ⟨k0, k1, k2, k3, k4, k5⟩ := hY7.c6
  go_wp2_with fail
  (with_reducible refine HM.out.mono ?_)
  rintro e w8 ⟨fv, rfl, hfv, hb8⟩
  have hN8 := hN7.now hb8
  have hb8w := bthen hb7w hb8
  obtain ⟨Af, cf, rfl, _, _, hfl⟩ := hfv.open_
  obtain ⟨bf, of, z, rfl, _, hz, _, f0, f1, f2⟩ := SlV.at_ hfl (k := 0) (by decide)
  have hz' : z = ⟨2, 0, ⟨#[]⟩⟩ := by injection hz with hz; exact hz.symm
  subst hz'
  have k0' : w8.cell? ⟨w2.heap.size, 0, none⟩ = some (.int .i64 3) := hN8.c6.1
  have f1' : w8.cell? ⟨bf, of + 1, none⟩ = some (.int .i64 0) := by simpa using f1
  clear HM n0 n1 n2 n3 n4 n5 k0 k1 k2 k3 k4 k5 f0 f1 f2 hfl hfv hz hN7 hN8 hY7 hY6 hN6
  go_wp2_with fail
  go_ret
  exact ⟨rfl, hb8w⟩
end Go.Proofs.YtijmnenojbfdnaaGreatDoor
