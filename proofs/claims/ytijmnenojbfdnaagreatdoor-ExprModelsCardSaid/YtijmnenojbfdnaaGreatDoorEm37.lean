/- Texts of this seat, merged. -/
import Derived.BigQuiet
import Derived.WalkKit
import Derived.WalkSpells
import Derived.WalkLawsBesides
import Derived.Lib.Hide
import Derived.Deep.Draws
import Derived.Deep.OwnRows
import Derived.Test.YtijmnenojbfdnaaGreatDoorProg
import Derived.Outline
import Derived.Deep.Light
import Derived.Lib.SlicesCompact
import Derived.Deep.RegionWith
import Derived.Deep.QuietTactic
import Derived.Deep.RegionHeld3
import Derived.Shelf.Abstract
import Derived.Laws.IdiomStrings
import Derived.Maps.AppendAt
import Derived.Deep.AppendLies
import Derived.RegionTactic
import Derived.OwnWalk
import Derived.Sort.OwnSorted
import Derived.Lib.Bytes
import Derived.Shelf.Strings.Builder1
import Derived.Shelf.Small.Bits
import Derived.Shelf.Small.Wraps
import Derived.Shelf.Strings.BuilderF
import Derived.Shelf.Strings.BuilderK
import Derived.Shelf.Strconv.Atoi
import Derived.Shelf.Strconv.Itoa0
import Derived.Shelf.Strconv.Itoa1
import Derived.Shelf.LaysM
import Derived.Shelf.Strconv.Itoa2
import Derived.Shelf.Strconv.Itoa3
import Derived.Shelf.Strconv.AtoiErrFast
import Derived.Shelf.Strconv.ParseIntEmpty
import Derived.Shelf.Strconv.AtoiFail
import Derived.Shelf.Strconv.Clone
import Derived.Shelf.Strconv.SyntaxError
import Derived.Shelf.LaysC
import Derived.Shelf.Strconv.ToError
import Derived.Shelf.Strconv.Lower
import Derived.Shelf.Strconv.ParseUint10
import Derived.Shelf.Strconv.ParseUint10Empty
import Derived.Shelf.Strconv.ParseUint10Any
import Derived.Shelf.Strconv.ParseInt10
import Derived.Shelf.Strconv.AtoiLong
import Derived.Shelf.Strconv.AtoiInnerAll
import Derived.Shelf.Strconv.RangeError
import Derived.Shelf.Strconv.ToErrorRange
import Derived.Shelf.Strconv.AtoiAll
import Derived.Shelf.Strconv.ErrVarAll
import Derived.Shelf.Strings.Search1
import Derived.Shelf.Strings.Search2
import Derived.Shelf.Strings.Search3
import Derived.Shelf.Strings.Shaped
import Derived.Shelf.Sort.Plain
import Derived.Shelf.Strings.Prefix
import Derived.Shelf.Strings.BuilderCap
import Derived.Shelf.Slices.Turned
import Derived.Shelf.Slices.Equal
import Derived.Ground.Names2Prog
import Derived.Shelf.Slices.Clone
import Derived.Shelf.Slices.CompactS
import Derived.Shelf.Slices.Cells
import Derived.Shelf.Slices.In.SortNone
import Derived.Shelf.Slices.Empties2
import Derived.Maps.OwnOps
import Derived.Maps.OwnSet
import Derived.Maps.Views
import Derived.StringKeys
import Derived.Lib.Builder
import Derived.Lib.AppendStr
import Derived.Lib.UnsafeStr
import Derived.Lib.FrozenHead2
import Derived.Lib.OthersKept
import Derived.Laws.Externs
import Derived.Test.YtijmnenojbfdnaaGreatDoorChecked
import Derived.Laws.MakeOwn
import Derived.Laws.Entries
import Derived.Test.YtijmnenojbfdnaaGreatDoorEm01
import Derived.Test.YtijmnenojbfdnaaGreatDoorEm02
import Derived.Test.YtijmnenojbfdnaaGreatDoorEm03
import Derived.Test.YtijmnenojbfdnaaGreatDoorEm04
import Derived.Test.YtijmnenojbfdnaaGreatDoorEm05
import Derived.Test.YtijmnenojbfdnaaGreatDoorEm06
import Derived.Test.YtijmnenojbfdnaaGreatDoorEm07
import Derived.Test.YtijmnenojbfdnaaGreatDoorEm08
import Derived.Test.YtijmnenojbfdnaaGreatDoorEm09
import Derived.Test.YtijmnenojbfdnaaGreatDoorEm10
import Derived.Test.YtijmnenojbfdnaaGreatDoorEm11
import Derived.Test.YtijmnenojbfdnaaGreatDoorEm12
import Derived.Test.YtijmnenojbfdnaaGreatDoorEm13
import Derived.Test.YtijmnenojbfdnaaGreatDoorEm14
import Derived.Test.YtijmnenojbfdnaaGreatDoorEm15
import Derived.Test.YtijmnenojbfdnaaGreatDoorEm16
import Derived.Test.YtijmnenojbfdnaaGreatDoorEm17
import Derived.Test.YtijmnenojbfdnaaGreatDoorEm18
import Derived.Test.YtijmnenojbfdnaaGreatDoorEm19
import Derived.Test.YtijmnenojbfdnaaGreatDoorEm20
import Derived.Test.YtijmnenojbfdnaaGreatDoorEm21
import Derived.Test.YtijmnenojbfdnaaGreatDoorEm22
import Derived.Test.YtijmnenojbfdnaaGreatDoorEm23
import Derived.Test.YtijmnenojbfdnaaGreatDoorEm24
import Derived.Test.YtijmnenojbfdnaaGreatDoorEm25
import Derived.Test.YtijmnenojbfdnaaGreatDoorEm26
import Derived.Test.YtijmnenojbfdnaaGreatDoorEm27
import Derived.Test.YtijmnenojbfdnaaGreatDoorEm28
import Derived.Test.YtijmnenojbfdnaaGreatDoorEm29
import Derived.Test.YtijmnenojbfdnaaGreatDoorEm30
import Derived.Test.YtijmnenojbfdnaaGreatDoorEm31
import Derived.Test.YtijmnenojbfdnaaGreatDoorEm32
import Derived.Test.YtijmnenojbfdnaaGreatDoorEm33
import Derived.Test.YtijmnenojbfdnaaGreatDoorEm34
import Derived.Test.YtijmnenojbfdnaaGreatDoorEm35
import Derived.Test.YtijmnenojbfdnaaGreatDoorEm36
set_option linter.unusedSimpArgs false
set_option linter.unusedVariables false
namespace Go.Proofs.YtijmnenojbfdnaaGreatDoor
open Go.RowKit
set_option maxHeartbeats 4000000 in
theorem count_ref : ∀ (n : Nat) (x : Ex) (u : Value) (w : World) (a d : Int), IsEx n (Lt w.heap.size) w u x → -1 ≤ a → a ≤ 400 → -1 ≤ d → d ≤ 60 →
    Calls Tryz.prog 56 #[u, .int .i64 a, .int .i64 d] w fun e w' => e = .returned (.int .i64 (cntX x a d)) ∧ Below w.heap.size w w' := by
  intro n
  induction n using Nat.strongRecOn with
  | _ n ih =>
    intro x u w a d h ha1 ha2 hd1 hd2
    have h0 := h
    obtain ⟨lv, rfl, h1, h2, h3, h4⟩ := h
    obtain ⟨A, c, rfl, l1, l2, h4⟩ := h4.open_
    have HE := Lib.hid (cntX_eq x a d)
    have hb := bone w (.cells #[.int .i64 x.op, .int .i64 x.v.kind, .int .i64 x.v.n, .string x.v.s, .string x.s, .slice A x.l.length c] 28)
    have hB := Blk.new w 28 #[.int .i64 x.op, .int .i64 x.v.kind, .int .i64 x.v.n, .string x.v.s, .string x.s, .slice A x.l.length c]
    have hx1 := h0.now hb
    have hl1 := SlE.now h4 hb
    clear h0 h4
    have wa : IntKind.i64.wrap (a - 1) = a - 1 := IntWalk.i64_in _ (by omega)
    have wd : IntKind.i64.wrap (d - 1) = d - 1 := IntWalk.i64_in _ (by omega)
    generalize hw1 : w.alloc (.cells #[.int .i64 x.op, .int .i64 x.v.kind, .int .i64 x.v.n, .string x.v.s, .string x.s, .slice A x.l.length c] 28) = w1 at *
    obtain ⟨q0, q1, q2, q3, q4, q5⟩ := hB.c6
    by_cases c1 : a ≤ 0
    · have HR : Hid (cntX x a d = -1) := by show _ = _; rw [HE.out, if_pos (.inl c1)]
      have c1' : a - 1 < 0 := by omega
      clear c1
      go_enter Tryz.func56, Tryz.ntmps56
      go_wp2_with fail
      go_ret
      exact ⟨by rw [HR.out]; rfl, hb⟩
    have c1' : 0 ≤ a - 1 := by omega
    by_cases c2 : d ≤ 0
    · have HR : Hid (cntX x a d = -1) := by show _ = _; rw [HE.out, if_pos (.inr (.inl c2))]
      have c2' : d < 1 := by omega
      clear c1 c2
      go_enter Tryz.func56, Tryz.ntmps56
      go_wp2_with fail
      go_ret
      exact ⟨by rw [HR.out]; rfl, hb⟩
    have c2' : 1 ≤ d := by omega
    go_enter Tryz.func56, Tryz.ntmps56
    go_wp2_with fail
    refine (shape_ref _ x _ _ hx1).mono ?_
    rintro e w2 ⟨rfl, hb2⟩
    have hbw2 := bthen hb hb2
    have hl2 := SlE.now hl1 hb2
    have hB2 := hB.now hb2
    clear q0 q1 q2 q3 q4 q5 hB hl1 hx1
    obtain ⟨q0, q1, q2, q3, q4, q5⟩ := hB2.c6
    generalize hs : shapeX x = sh at *
    cases sh
    · have HR : Hid (cntX x a d = -1) := by show _ = _; rw [HE.out, if_pos (.inr (.inr rfl))]
      go_wp2_with fail
      go_ret
      exact ⟨by rw [HR.out]; rfl, hbw2⟩
    have HR : Hid (cntX x a d = cntL (x.l.drop 0) (a - 1) (d - 1)) := by show _ = _; rw [HE.out, if_neg (by simp [c1, c2]), List.drop_zero]
    clear HE hs
    go_wp2_with fail
    go_loopw [1, 7] (fun av i wr => ∃ (k : Nat) (a' : Int), k ≤ x.l.length ∧ i = .int .i64 k ∧ av = .int .i64 a' ∧ -1 ≤ a' ∧ a' ≤ 400 ∧ (0 ≤ a' → cntX x a d = cntL (x.l.drop k) a' (d - 1)) ∧ (a' < 0 → cntX x a d = a') ∧ Below w2.heap.size w2 wr) (fun _ i _ => x.l.length - (intOf i).toNat)
    case atStart => exact ⟨0, a - 1, Nat.zero_le _, rfl, rfl, by omega, by omega, fun _ => HR.out, fun h => by omega, Below.refl _ _⟩
    case round =>
      obtain ⟨k, a', hk, rfl, rfl, a1, a2, hc, hn, hbr2⟩ := hrel
      have HC := Lib.hid hc
      have HN := Lib.hid hn
      have hbr := bthen hbw2 hbr2
      have hBr := hB2.now hbr2
      clear hc hn HR q0 q1 q2 q3 q4 q5
      obtain ⟨q0, q1, q2, q3, q4, q5⟩ := hBr.c6
      by_cases hlt : k < x.l.length
      · have i1 : (0 : Int) ≤ (k : Int) := by omega
        have i2 : (k : Int) < (x.l.length : Int) := by omega
        by_cases hz0 : a' < 0
        · have HRR := Lib.hid (HN.out hz0)
          go_wp2_with fail
          go_ret
          exact ⟨by rw [HRR.out]; rfl, hbr⟩
        have hz0' : 0 ≤ a' := by omega
        obtain ⟨b, o, y, lv, n', hn, rfl, hD, hx, hex, hfv, hsl, e0, e1, e2, e3, e4, e5⟩ := (SlE.now hl2 hbr2).at_ hlt
        have HX := Lib.hid (cntL_drop hx a' (d - 1))
        have HLO := Lib.hid (cnt_low y a' (d - 1))
        have HRG := Lib.hid (cnt_range y a' (d - 1) a2)
        obtain ⟨A2, c2', rfl, m1, m2, _⟩ := hsl.open_
        have hcall := Lib.hid (ih n' (by omega) y _ _ a' (d - 1) hex (by omega) a2 (by omega) (by omega))
        clear hx hex hfv hsl hn
        generalize cntX y a' (d - 1) = z at *
        go_wp2_with fail
        refine hcall.out.mono ?_
        rintro e w4 ⟨rfl, hb4⟩
        have hbw4' : Below w2.heap.size w2 w4 := bthen hbr2 hb4
        have HRR : Hid (cntX x a d = if z < 0 then -1 else cntL (x.l.drop (k + 1)) z (d - 1)) := by show _ = _; rw [HC.out hz0', HX.out]
        clear hz0 q0 q1 q2 q3 q4 q5
        go_wp2_with fail
        go_roundw
        case rel =>
          refine ⟨k + 1, z, by omega, by go_num, rfl, ?_, ?_, fun h => by rw [HRR.out, if_neg (by omega)], fun h => by rw [HRR.out, if_pos h, HLO.out h], hbw4'⟩
          · rcases Int.lt_or_le z 0 with h | h
            · have := HLO.out h; omega
            · omega
          · have := HRG.out; omega
        case measure => simp [intOf]; omega
      · have i2 : (x.l.length : Int) ≤ (k : Int) := by omega
        have HRR : Hid (cntX x a d = a') := by
          show _ = _
          rcases Int.lt_or_le a' 0 with h | h
          · exact HN.out h
          · rw [HC.out h, List.drop_eq_nil_of_le (by omega), cntL_nil]
        go_wp2_with fail
        go_ret
        exact ⟨by rw [HRR.out]; rfl, hbr⟩
theorem validX_ref (n : Nat) (x : Ex) (u : Value) (w : World) (h : IsEx n (Lt w.heap.size) w u x) :
    Calls Tryz.prog 19 #[u] w fun e w' => e = .returned (.bool (validX x)) ∧ Below w.heap.size w w' := by
  have h0 := h
  obtain ⟨lv, rfl, h1, h2, h3, h4⟩ := h
  have hb := bone w (.cells #[.int .i64 x.op, .int .i64 x.v.kind, .int .i64 x.v.n, .string x.v.s, .string x.s, lv] 28)
  have hc := count_ref n x _ _ 400 60 (h0.now hb) (by omega) (by omega) (by omega) (by omega)
  have HC := Lib.hid hc
  have HV : Hid (validX x = decide (0 ≤ cntX x 400 60)) := rfl
  clear hc h4 h0
  generalize cntX x 400 60 = z at *
  go_enter Tryz.func19, Tryz.ntmps19
  go_wp2_with fail
  refine HC.out.mono ?_
  rintro e w2 ⟨rfl, hb2⟩
  have hbw := bthen hb hb2
  clear hb hb2 HC
  go_wp2_with fail
  go_ret
  exact ⟨ret_bool HV.out.symm, hbw⟩
set_option maxHeartbeats 1000000 in
theorem fault_ref (n : Nat) (vs : List Var) (x : Ex) (uv u : Value) (w : World) (hv : SlX (Lt w.heap.size) w uv vs) (h : IsEx n (Lt w.heap.size) w u x) :
    Calls Tryz.prog 45 #[uv, u] w fun e w' => e = .returned (.tuple #[.int .i64 (givenE vs x).1, .int .i64 (givenE vs x).2]) ∧ Fit (givenE vs x).1 ∧ Below w.heap.size w w' := by
  have h0 := h
  obtain ⟨lv, rfl, h1, h2, h3, h4⟩ := h
  have hb := bone w (.cells #[.int .i64 x.op, .int .i64 x.v.kind, .int .i64 x.v.n, .string x.v.s, .string x.s, lv] 28)
  have hB := Blk.new w 28 #[.int .i64 x.op, .int .i64 x.v.kind, .int .i64 x.v.n, .string x.v.s, .string x.s, lv]
  have hx1 := h0.now hb
  have hv1 := hv.now hb
  have HE : Hid (givenE vs x = if validX x && varsB vs then typX vs x else (0, 1)) := rfl
  clear h0 hv h4
  go_enter Tryz.func45, Tryz.ntmps45
  go_upto_region 1 with fail
  generalize hw1 : w.alloc (.cells #[.int .i64 x.op, .int .i64 x.v.kind, .int .i64 x.v.n, .string x.v.s, .string x.s, lv] 28) = w1 at *
  clear hw1
  go_wp2_with fail
  refine (validVars_ref vs _ _ hv1).mono ?_
  rintro e w2 ⟨rfl, hb2⟩
  have hbw2 := bthen hb hb2
  have hB2 := hB.now hb2
  have hx2 := hx1.now hb2
  have hv2 := hv1.now hb2
  generalize hq2 : varsB vs = q at *
  obtain ⟨q0, q1, q2, q3, q4, q5⟩ := hB2.c6
  cases q
  · have HR : Hid (givenE vs x = (0, 1)) := by show _ = _; rw [HE.out, Bool.and_false]; rfl
    clear hx1 hv1 hx2 hv2
    go_wp2_with fail
    go_ret2
    rw [HR.out]
    exact ⟨rfl, by unfold Fit; omega, hbw2⟩
  clear hx1 hv1
  go_wp2_with fail
  refine (validX_ref n x _ _ hx2).mono ?_
  rintro e w3 ⟨rfl, hb3⟩
  have hbw3 := bthen hbw2 hb3
  have hB3 := hB2.now hb3
  have hx3 := hx2.now hb3
  have hv3 := hv2.now hb3
  generalize hq : validX x = q at *
  clear q0 q1 q2 q3 q4 q5
  obtain ⟨q0, q1, q2, q3, q4, q5⟩ := hB3.c6
  cases q
  · have HR : Hid (givenE vs x = (0, 1)) := HE.out
    clear hx2 hv2 hx3 hv3
    go_wp2_with fail
    go_ret2
    rw [HR.out]
    exact ⟨rfl, by unfold Fit; omega, hbw3⟩
  have HR : Hid (givenE vs x = typX vs x) := HE.out
  have HC := Lib.hid (type_ref n vs x _ _ _ hv3 hx3 (valid_ok hq))
  clear hx2 hv2 hx3 hv3 hq
  go_wp2_with fail
  refine HC.out.mono ?_
  rintro e w4 ⟨rfl, hf, hb4⟩
  go_wp2_with fail
  go_ret2
  rw [HR.out]
  exact ⟨rfl, hf, bthen hbw3 hb4⟩
end Go.Proofs.YtijmnenojbfdnaaGreatDoor

namespace Go.Proofs.YtijmnenojbfdnaaGreatDoor
open Go.RowKit
def LoopSt (l : List Var) (q : List Val → Bool) (R d : List (List Val)) (f : Nat) (vv : Value) (m : Bool) (w : World) : Prop :=
  (m = true → ∃ v, Good l v ∧ SlV (Lt w.heap.size) w vv v ∧ prodL l ≤ f + numL l v ∧ d ++ eachL l q f v = R) ∧ (m = false → d = R)
theorem LoopSt.start {l : List Var} {q : List Val → Bool} {vv : Value} {w : World} (hv : varsB l = true) (h : SlV (Lt w.heap.size) w vv (firstV l)) : LoopSt l q (eachL l q (prodL l) (firstV l)) [] (prodL l) vv true w :=
  ⟨fun _ => ⟨firstV l, first_good hv, h, by omega, rfl⟩, fun e => (by cases e)⟩
set_option maxHeartbeats 4000000 in
set_option maxRecDepth 100000 in
theorem models_ref (n : Nat) (l : List Var) (x : Ex) (uv u : Value) (w : World) (hvs : SlX (Lt w.heap.size) w uv l) (hx : IsEx n (Lt w.heap.size) w u x) :
    Calls Tryz.prog 26 #[uv, u] w (RetIVE (modelsE l x) w) := by
  have hxx := hx
  obtain ⟨Av, cv, rfl, v1, v2, hvs⟩ := hvs.open_
  obtain ⟨lv, rfl, _, Ax, cx, rfl⟩ := hx.cells
  have hb := bone w (.cells #[.int .i64 x.op, .int .i64 x.v.kind, .int .i64 x.v.n, .string x.v.s, .string x.s, .slice Ax x.l.length cx] 28)
  have hBx := Blk.new w 28 #[.int .i64 x.op, .int .i64 x.v.kind, .int .i64 x.v.n, .string x.v.s, .string x.s, .slice Ax x.l.length cx]
  have hx1 := hxx.now hb
  have hv1 := hvs.now hb
  have HG := Lib.hid (fault_ref n l x _ _ _ hv1 hx1)
  have HE : Hid (modelsE l x = if (givenE l x).2 ≠ 0 then (0, [], (givenE l x).2) else if (givenE l x).1 ≠ 1 then (0, [], 11) else if plentyB l then (0, [], 13) else (((((asgL l).filter (isM l x)).length : Nat) : Int), ((asgL l).filter (isM l x)).head?.getD [], 0)) := rfl
  have HGO := Lib.hid (fun h => given_ok (vs := l) (x := x) h)
  clear hx hvs hxx
  go_enter Tryz.func26, Tryz.ntmps26
  go_upto_region 1 with fail
  generalize hww : w.alloc (.cells #[.int .i64 x.op, .int .i64 x.v.kind, .int .i64 x.v.n, .string x.v.s, .string x.s, .slice Ax x.l.length cx] 28) = w1 at *
  clear hww
  obtain ⟨q0, q1, q2, q3, q4, q5⟩ := hBx.c6
  go_wp2_with fail
  (with_reducible refine HG.out.mono ?_)
  rintro e w2 ⟨rfl, hfit, hb2⟩
  have hbw2 := bthen hb hb2
  have hv2 := hv1.now hb2
  have hx2 := hx1.now hb2
  have hBx2 := hBx.now hb2
  clear HG q0 q1 q2 q3 q4 q5 hv1 hx1 hBx
  by_cases hg : (givenE l x).2 = 0
  · obtain ⟨hvx, hvv, hty⟩ := HGO.out hg
    have HG0 := Lib.hid hg
    rw [hg]
    clear hg
    by_cases hk : (givenE l x).1 = 1
    · have HK := Lib.hid hk
      rw [hk]
      clear hk hfit
      have HPL := Lib.hid (assignments_ref l _ w2 hv2 hvv)
      have HVV := Lib.hid hvv
      have h8 := vars_len hvv
      have HTY := Lib.hid hty
      have HOK := Lib.hid (valid_ok hvx)
      clear hvv hty hvx
      go_wp2_with fail
      (with_reducible refine HPL.out.mono ?_)
      rintro e w3 ⟨rfl, hb3⟩
      have hbw3 := bthen hbw2 hb3
      by_cases hpl : prodL l ≤ 10000
      · have HR : Hid (modelsE l x = ((((ms l x (asgL l)).length : Nat) : Int), (ms l x (asgL l)).head?.getD [], 0)) := by
          show _ = _
          rw [HE.out, if_neg (by rw [HG0.out]; simp), if_neg (by rw [HK.out]; simp), if_neg (by unfold plentyB; simp; omega)]; rfl
        have hbi : ¬ (10000 : Int) < ((min 10001 (prodL l) : Nat) : Int) := by omega
        have HP1 := Lib.hid hpl
        have HF := Lib.hid (first_ref l _ w3 (hv2.now hb3) HVV.out)
        have hv3 := hv2.now hb3
        have hx3 := hx2.now hb3
        have hBx3 := hBx2.now hb3
        clear HPL hv2 hx2 hBx2 hpl
        generalize ((min 10001 (prodL l) : Nat) : Int) = pz at *
        go_wp2_with fail
        (with_reducible refine HF.out.mono ?_)
        rintro e w4 ⟨fv, rfl, hfv, hb4⟩
        have hbw4 := bthen hbw3 hb4
        have hv4 := hv3.now hb4
        have hx4 := hx3.now hb4
        have hBx4 := hBx3.now hb4
        have HRR : Hid (asgL l = eachL l (fun _ => true) (prodL l) (firstV l)) := rfl
        have hst := LoopSt.start (q := fun _ => true) HVV.out hfv
        rw [← HRR.out] at hst
        have HST := Lib.hid hst
        have HEL := Lib.hid (each_len l (fun _ => true) (prodL l) (firstV l))
        clear HF hv3 hx3 hBx3 hfv hst hb3 hb4
        go_wp2_with fail
        go_loopg [9, 10, 11, 12] (prodL l) (fun gg nv fs vv mv wr => ∃ (f : Nat) (d : List (List Val)) (m : Bool) (sn sf sv : Value), sn = nv ∧ sf = fs ∧ sv = vv ∧ mv = .bool m ∧ f ≤ gg ∧ f ≤ prodL l ∧ nv = .int .i64 ((ms l x d).length : Int) ∧ SlV (Lt wr.heap.size) wr fs ((ms l x d).head?.getD []) ∧ LoopSt l (fun _ => true) (asgL l) d f vv m wr ∧ Below w4.heap.size w4 wr)
        case atStart => exact ⟨prodL l, [], true, _, _, _, rfl, rfl, rfl, rfl, Nat.le_refl _, Nat.le_refl _, rfl, Sl.none_, HST.out, Below.refl _ _⟩
        case round =>
          obtain ⟨f, d, m, sn, sf, sv, rfl, rfl, rfl, rfl, hfg, hfp, rfl, hsf, hlst, hbr⟩ := hrel
          have hbwr := bthen hbw4 hbr
          have hm1 := Lib.hid hlst.1
          have hm2 := Lib.hid hlst.2
          clear hlst
          cases m
          · have hd := hm2.out rfl
            subst hd
            obtain ⟨Af, cf, rfl, _, _, hsf⟩ := hsf.open_
            go_wp2_with fail
            go_ret3
            rw [HR.out]
            exact ⟨_, rfl, hsf, hbwr⟩
          · obtain ⟨v, hgood, hsl, hfu, hdR⟩ := hm1.out rfl
            have hlt := hgood.lt
            obtain ⟨f', rfl⟩ : ∃ f', f = f' + 1 := ⟨f - 1, by omega⟩
            have hdl : d.length < prodL l := by
              have h1 := HEL.out
              rw [← HRR.out, ← hdR, List.length_append] at h1
              have h2 : 1 ≤ (eachL l (fun _ => true) (f' + 1) v).length := by rw [eachL, List.length_cons]; omega
              omega
            have HDR : Hid (d ++ (v :: if (nextV l v).2 then eachL l (fun _ => true) f' (nextV l v).1 else []) = asgL l) := hdR
            have hcl := ms_len l x d
            have hml : (ms l x d).length ≤ 10000 := by have := HP1.out; omega
            have HNG := Lib.hid (fun hn => next_good hgood hn)
            obtain ⟨Asv, csv, rfl, _, _, hsl⟩ := hsl.open_
            have hBr := hBx4.now hbr
            have hxr := hx4.now hbr
            have hvr := hv4.now hbr
            obtain ⟨q0, q1, q2, q3, q4, q5⟩ := hBr.c6
            have HVA := Lib.hid (value_ref n l v x wr _ _ _ ⟨hvr, hsl, hxr, HOK.out, HTY.out, hgood.asg⟩)
            have HGV := Lib.hid hgood
            have HIS : Hid (isM l x v = match evX l v x with | some a => decide (a.n = 1) | none => false) := rfl
            clear hm1 hm2 hdR hgood hcl hdl
            go_wp2_with fail
            (with_reducible refine HVA.out.mono ?_)
            rintro e w6 ⟨a, rfl, haa, hb6⟩
            have hb7 := bone w6 (.cells #[.int .i64 a.kind, .int .i64 a.n, .string a.s] 25)
            have hA7 := Blk.new w6 25 #[.int .i64 a.kind, .int .i64 a.n, .string a.s]
            have hsl7 := (hsl.now hb6).now hb7
            have hsf7 := (hsf.now hb6).now hb7
            have hvr7 := (hvr.now hb6).now hb7
            have hbr7 := bthen (bthen hbr hb6) hb7
            clear q0 q1 q2 q3 q4 q5 HVA hsl hsf hxr hvr hBr hbr hbwr hb6
            go_upto_region 13 with fail
            generalize hw7 : w6.alloc (.cells #[.int .i64 a.kind, .int .i64 a.n, .string a.s] 25) = w7 at *
            clear hw7 hb7
            obtain ⟨f0, f1, f2⟩ := hA7.c3
            have HN := Lib.hid (next_ref l v _ _ w7 hvr7 hsl7 HVV.out (fun z hz => by
              obtain ⟨i, hi, rfl⟩ := List.mem_iff_getElem.1 hz
              have hil : i < l.length := by rw [← HGV.out.len]; exact hi
              exact (HGV.out.each i l[i] _ (List.getElem?_eq_getElem hil) (List.getElem?_eq_getElem hi)).1) HGV.out.assigned)
            have HFU := Lib.hid (show prodL l ≤ f' + 1 + numL l v from hfu)
            have HNO : Hid (isM l x v = false → (ms l x (d ++ [v])).length = (ms l x d).length ∧ (ms l x (d ++ [v])).head?.getD [] = (ms l x d).head?.getD []) := by
              show _ → _; intro h; rw [ms_no h]; exact ⟨rfl, rfl⟩
            have HYES : Hid (isM l x v = true → (ms l x (d ++ [v])).length = (ms l x d).length + 1 ∧ (ms l x (d ++ [v])).head?.getD [] = if (ms l x d).length = 0 then v else (ms l x d).head?.getD []) := by
              show _ → _
              intro h
              rw [ms_yes h]
              refine ⟨by rw [List.length_append]; rfl, ?_⟩
              cases hm : ms l x d with
              | nil => rfl
              | cons a b => rw [if_neg (by simp)]; rfl
            have hml0 : 0 ≤ (ms l x d).length := Nat.zero_le _
            generalize hM : (ms l x d).length = M at *
            generalize hFS : (ms l x d).head?.getD [] = F at *
            have HM := Lib.hid hM
            clear hM hFS hlt hfu
            cases hr : evX l v x with
            | none =>
              rw [hr] at HIS
              have HD := Lib.hid (HNO.out HIS.out)
              clear hr HIS HNO HYES
              go_wp2_with fail
              (with_reducible refine HN.out.mono ?_)
              rintro e w8 ⟨nv, rfl, hnv, hb8⟩
              have hbr8 := bthen hbr7 hb8
              have hsf8 := hsf7.now hb8
              clear HN
              have HNC : Hid (((nextV l v).2 = true → Good l (nextV l v).1 ∧ prodL l ≤ f' + numL l (nextV l v).1 ∧ d ++ [v] ++ eachL l (fun _ => true) f' (nextV l v).1 = asgL l) ∧ ((nextV l v).2 = false → d ++ [v] = asgL l)) := by
                refine ⟨fun h => ?_, fun h => ?_⟩
                · obtain ⟨g1, g2⟩ := HNG.out h
                  have := HDR.out
                  rw [h, if_pos rfl] at this
                  exact ⟨g1, by have := HFU.out; omega, by rw [List.append_assoc]; exact this⟩
                · have := HDR.out
                  rw [h, if_neg Bool.false_ne_true] at this
                  exact this
              generalize (nextV l v).1 = v' at *
              generalize (nextV l v).2 = m' at *
              go_wp2_with fail
              go_roundg (f')
              case rel => exact ⟨f', d ++ [v], m', _, _, _, rfl, rfl, rfl, rfl, Nat.le_refl _, by omega, by rw [HD.out.1], by rw [HD.out.2]; exact hsf8, ⟨fun h => ⟨v', (HNC.out.1 h).1, hnv, (HNC.out.1 h).2.1, (HNC.out.1 h).2.2⟩, HNC.out.2⟩, hbr8⟩
              case measure => omega
            | some a' =>
              obtain rfl : a = a' := haa a' hr
              rw [hr] at HIS
              by_cases h1 : a.n = 1
              · have h1' : (a.n == 1) = true := by rw [h1]; rfl
                have HD := Lib.hid (HYES.out (HIS.out.trans (decide_eq_true h1)))
                clear hr HIS HNO HYES h1
                by_cases hm0 : M = 0
                · have hmb : ((M : Int) == 0) = true := by rw [hm0]; rfl
                  have hd2 : (ms l x (d ++ [v])).head?.getD [] = v := by rw [HD.out.2, if_pos hm0]
                  have HD2 := Lib.hid hd2
                  subst hm0
                  clear hd2 hmb
                  go_wp2_with fail
                  (with_reducible refine HN.out.mono ?_)
                  rintro e w8 ⟨nv, rfl, hnv, hb8⟩
                  have hbr8 := bthen hbr7 hb8
                  have hsf8 := hsl7.now hb8
                  clear HN
                  have HNC : Hid (((nextV l v).2 = true → Good l (nextV l v).1 ∧ prodL l ≤ f' + numL l (nextV l v).1 ∧ d ++ [v] ++ eachL l (fun _ => true) f' (nextV l v).1 = asgL l) ∧ ((nextV l v).2 = false → d ++ [v] = asgL l)) := by
                    refine ⟨fun h => ?_, fun h => ?_⟩
                    · obtain ⟨g1, g2⟩ := HNG.out h
                      have := HDR.out
                      rw [h, if_pos rfl] at this
                      exact ⟨g1, by have := HFU.out; omega, by rw [List.append_assoc]; exact this⟩
                    · have := HDR.out
                      rw [h, if_neg Bool.false_ne_true] at this
                      exact this
                  generalize (nextV l v).1 = v' at *
                  generalize (nextV l v).2 = m' at *
                  go_wp2_with fail
                  go_roundg (f')
                  case rel => exact ⟨f', d ++ [v], m', _, _, _, rfl, rfl, rfl, rfl, Nat.le_refl _, by omega, by rw [HD.out.1]; rfl, by rw [HD2.out]; exact hsf8, ⟨fun h => ⟨v', (HNC.out.1 h).1, hnv, (HNC.out.1 h).2.1, (HNC.out.1 h).2.2⟩, HNC.out.2⟩, hbr8⟩
                  case measure => omega
                · have hmb : ((M : Int) == 0) = false := by simp; omega
                  have hd2 : (ms l x (d ++ [v])).head?.getD [] = F := by rw [HD.out.2, if_neg hm0]
                  have HD2 := Lib.hid hd2
                  clear hd2 hm0
                  go_wp2_with fail
                  (with_reducible refine HN.out.mono ?_)
                  rintro e w8 ⟨nv, rfl, hnv, hb8⟩
                  have hbr8 := bthen hbr7 hb8
                  have hsf8 := hsf7.now hb8
                  clear HN
                  have HNC : Hid (((nextV l v).2 = true → Good l (nextV l v).1 ∧ prodL l ≤ f' + numL l (nextV l v).1 ∧ d ++ [v] ++ eachL l (fun _ => true) f' (nextV l v).1 = asgL l) ∧ ((nextV l v).2 = false → d ++ [v] = asgL l)) := by
                    refine ⟨fun h => ?_, fun h => ?_⟩
                    · obtain ⟨g1, g2⟩ := HNG.out h
                      have := HDR.out
                      rw [h, if_pos rfl] at this
                      exact ⟨g1, by have := HFU.out; omega, by rw [List.append_assoc]; exact this⟩
                    · have := HDR.out
                      rw [h, if_neg Bool.false_ne_true] at this
                      exact this
                  generalize (nextV l v).1 = v' at *
                  generalize (nextV l v).2 = m' at *
                  go_wp2_with fail
                  go_roundg (f')
                  case rel => exact ⟨f', d ++ [v], m', _, _, _, rfl, rfl, rfl, rfl, Nat.le_refl _, by omega, by rw [HD.out.1]; rfl, by rw [HD2.out]; exact hsf8, ⟨fun h => ⟨v', (HNC.out.1 h).1, hnv, (HNC.out.1 h).2.1, (HNC.out.1 h).2.2⟩, HNC.out.2⟩, hbr8⟩
                  case measure => omega
              · have h1' : (a.n == 1) = false := by simpa using h1
                have HD := Lib.hid (HNO.out (HIS.out.trans (decide_eq_false h1)))
                clear hr HIS HNO HYES h1
                go_wp2_with fail
                (with_reducible refine HN.out.mono ?_)
                rintro e w8 ⟨nv, rfl, hnv, hb8⟩
                have hbr8 := bthen hbr7 hb8
                have hsf8 := hsf7.now hb8
                clear HN
                have HNC : Hid (((nextV l v).2 = true → Good l (nextV l v).1 ∧ prodL l ≤ f' + numL l (nextV l v).1 ∧ d ++ [v] ++ eachL l (fun _ => true) f' (nextV l v).1 = asgL l) ∧ ((nextV l v).2 = false → d ++ [v] = asgL l)) := by
                  refine ⟨fun h => ?_, fun h => ?_⟩
                  · obtain ⟨g1, g2⟩ := HNG.out h
                    have := HDR.out
                    rw [h, if_pos rfl] at this
                    exact ⟨g1, by have := HFU.out; omega, by rw [List.append_assoc]; exact this⟩
                  · have := HDR.out
                    rw [h, if_neg Bool.false_ne_true] at this
                    exact this
                generalize (nextV l v).1 = v' at *
                generalize (nextV l v).2 = m' at *
                go_wp2_with fail
                go_roundg (f')
                case rel => exact ⟨f', d ++ [v], m', _, _, _, rfl, rfl, rfl, rfl, Nat.le_refl _, by omega, by rw [HD.out.1], by rw [HD.out.2]; exact hsf8, ⟨fun h => ⟨v', (HNC.out.1 h).1, hnv, (HNC.out.1 h).2.1, (HNC.out.1 h).2.2⟩, HNC.out.2⟩, hbr8⟩
                case measure => omega
      · have HR : Hid (modelsE l x = (0, [], 13)) := by show _ = _; rw [HE.out, if_neg (by rw [HG0.out]; simp), if_neg (by rw [HK.out]; simp), if_pos (by unfold plentyB; simp; omega)]
        have hbi : (10000 : Int) < ((min 10001 (prodL l) : Nat) : Int) := by omega
        generalize ((min 10001 (prodL l) : Nat) : Int) = pz at *
        clear hpl
        go_wp2_with fail
        go_ret3
        exact RetIVE.none_ HR.out hbw3
    · have HR : Hid (modelsE l x = (0, [], 11)) := by show _ = _; rw [HE.out, if_neg (by rw [HG0.out]; simp), if_pos hk]
      have hk' : ((givenE l x).1 != 1) = true := by simpa using hk
      clear hk
      generalize (givenE l x).1 = gk at *
      go_wp2_with fail
      go_ret3
      exact RetIVE.none_ HR.out hbw2
  · have HR : Hid (modelsE l x = (0, [], (givenE l x).2)) := by show _ = _; rw [HE.out, if_pos hg]
    have hk' : ((givenE l x).2 != 0) = true := by simpa using hg
    clear hg HE
    generalize (givenE l x).2 = ge at *
    generalize (givenE l x).1 = gk at *
    go_wp2_with fail
    go_ret3
    exact RetIVE.none_ HR.out hbw2
end Go.Proofs.YtijmnenojbfdnaaGreatDoor

namespace Go.Proofs.YtijmnenojbfdnaaGreatDoor
open Go.RowKit
theorem given_of {l : List Var} {x : Ex} (hv : varsB l = true) (hx : validX x = true) : givenE l x = typX l x := by unfold givenE; rw [hv, hx]; rfl
theorem find_all {q : List Val → Bool} {d : List (List Val)} (h : ∀ z ∈ d, q z = true) : d.find? (fun v => !q v) = none := by
  rw [List.find?_eq_none]
  intro z hz
  rw [h z hz]; simp
theorem find_at_ {q : List Val → Bool} {d r : List (List Val)} {v : List Val} (h : ∀ z ∈ d, q z = true) (hv : q v = false) : (d ++ v :: r).find? (fun v => !q v) = some v := by
  rw [List.find?_append, find_all h, Option.none_or, List.find?_cons, hv]; rfl
set_option maxHeartbeats 8000000 in
set_option maxRecDepth 100000 in
theorem equiv_ref (n : Nat) (l : List Var) (x y : Ex) (uv u u' : Value) (w : World) (hvs : SlX (Lt w.heap.size) w uv l) (hx : IsEx n (Lt w.heap.size) w u x) (hy : IsEx n (Lt w.heap.size) w u' y) :
    Calls Tryz.prog 28 #[uv, u, u'] w (RetBVE (equivE l x y) w) := by
  have hxx := hx
  have hyy := hy
  obtain ⟨Av, cv, rfl, v1, v2, hvs⟩ := hvs.open_
  obtain ⟨lv, rfl, _, Ax, cx, rfl⟩ := hx.cells
  obtain ⟨lw, rfl, _, Ay, cy, rfl⟩ := hy.cells
  have hb1 := bbox (bone w (.cells #[.int .i64 x.op, .int .i64 x.v.kind, .int .i64 x.v.n, .string x.v.s, .string x.s, .slice Ax x.l.length cx] 28)) (.cells #[.int .i64 y.op, .int .i64 y.v.kind, .int .i64 y.v.n, .string y.v.s, .string y.s, .slice Ay y.l.length cy] 28)
  have hBx1 := (Blk.new w 28 #[.int .i64 x.op, .int .i64 x.v.kind, .int .i64 x.v.n, .string x.v.s, .string x.s, .slice Ax x.l.length cx]).alloc (.cells #[.int .i64 y.op, .int .i64 y.v.kind, .int .i64 y.v.n, .string y.v.s, .string y.s, .slice Ay y.l.length cy] 28)
  have hBy1 := Blk.new_at (t := 28) (cs := #[.int .i64 y.op, .int .i64 y.v.kind, .int .i64 y.v.n, .string y.v.s, .string y.s, .slice Ay y.l.length cy]) (w := w.alloc (.cells #[.int .i64 x.op, .int .i64 x.v.kind, .int .i64 x.v.n, .string x.v.s, .string x.s, .slice Ax x.l.length cx] 28)) (s := w.heap.size + 1) (World.size_alloc _ _)
  have hx1 := hxx.now hb1
  have hy1 := hyy.now hb1
  have hv1 := hvs.now hb1
  have hbw1 := hb1
  have HE : Hid (equivE l x y = if validX y = false then (false, [], 1) else if (givenE l x).2 ≠ 0 then (false, [], (givenE l x).2) else if (givenE l y).2 ≠ 0 then (false, [], (givenE l y).2) else if (givenE l x).1 ≠ (givenE l y).1 then (false, [], 11) else if plentyB l then (false, [], 13) else (((asgL l).find? fun v => !likeB l x y v).isNone, ((asgL l).find? fun v => !likeB l x y v).getD [], 0)) := rfl
  have HBAD : Hid ((varsB l = false ∨ validX x = false ∨ validX y = false) → equivE l x y = (false, [], 1)) := by
    show _ → _
    intro h
    rw [HE.out]
    cases hy : validX y
    · rw [if_pos rfl]
    · rw [if_neg (by simp), if_pos]
      · rcases h with h | h | h
        · unfold givenE; rw [h, Bool.and_false]; rfl
        · unfold givenE; rw [h]; rfl
        · rw [hy] at h; cases h
      · rcases h with h | h | h
        · unfold givenE; rw [h, Bool.and_false]; simp
        · unfold givenE; rw [h]; simp
        · rw [hy] at h; cases h
  clear hx hy hvs hxx hyy hb1
  go_enter Tryz.func28, Tryz.ntmps28
  go_upto_region 1 with fail
  generalize hww : (w.alloc (.cells #[.int .i64 x.op, .int .i64 x.v.kind, .int .i64 x.v.n, .string x.v.s, .string x.s, .slice Ax x.l.length cx] 28)).alloc (.cells #[.int .i64 y.op, .int .i64 y.v.kind, .int .i64 y.v.n, .string y.v.s, .string y.s, .slice Ay y.l.length cy] 28) = w1 at *
  clear hww
  have HC := Lib.hid (validVars_ref l _ w1 hv1)
  go_wp2_with fail
  (with_reducible refine HC.out.mono ?_)
  rintro e w2 ⟨rfl, hb2⟩
  have hv2 := hv1.now hb2
  have hx2 := hx1.now hb2
  have hy2 := hy1.now hb2
  have hBx2 := hBx1.now hb2
  have hBy2 := hBy1.now hb2
  have hbw2 := bthen hbw1 hb2
  clear hv1 hx1 hy1 hBx1 hBy1 hbw1 hb2
  clear HC
  cases hvv : varsB l
  · have HR := Lib.hid (HBAD.out (.inl hvv))
    go_wp2_with fail
    go_ret3
    exact RetBVE.none_ HR.out hbw2
  obtain ⟨q0, q1, q2, q3, q4, q5⟩ := hBx2.c6
  have HC := Lib.hid (validX_ref n x _ w2 hx2)
  have HVV := Lib.hid hvv
  clear hvv
  go_wp2_with fail
  (with_reducible refine HC.out.mono ?_)
  rintro e w3 ⟨rfl, hb3⟩
  have hv3 := hv2.now hb3
  have hx3 := hx2.now hb3
  have hy3 := hy2.now hb3
  have hBx3 := hBx2.now hb3
  have hBy3 := hBy2.now hb3
  have hbw3 := bthen hbw2 hb3
  clear hv2 hx2 hy2 hBx2 hBy2 hbw2 hb3
  clear HC q0 q1 q2 q3 q4 q5
  cases hvx : validX x
  · have HR := Lib.hid (HBAD.out (.inr (.inl hvx)))
    go_wp2_with fail
    go_ret3
    exact RetBVE.none_ HR.out hbw3
  have HVX := Lib.hid hvx
  clear hvx
  obtain ⟨r0, r1, r2, r3, r4, r5⟩ := hBy3.c6
  have HC := Lib.hid (validX_ref n y _ w3 hy3)
  go_wp2_with fail
  (with_reducible refine HC.out.mono ?_)
  rintro e w4 ⟨rfl, hb4⟩
  have hv4 := hv3.now hb4
  have hx4 := hx3.now hb4
  have hy4 := hy3.now hb4
  have hBx4 := hBx3.now hb4
  have hBy4 := hBy3.now hb4
  have hbw4 := bthen hbw3 hb4
  clear hv3 hx3 hy3 hBx3 hBy3 hbw3 hb4
  clear HC r0 r1 r2 r3 r4 r5
  cases hvy : validX y
  · have HR := Lib.hid (HBAD.out (.inr (.inr hvy)))
    go_wp2_with fail
    go_ret3
    exact RetBVE.none_ HR.out hbw4
  have HVY := Lib.hid hvy
  clear hvy
  have HE2 : Hid (equivE l x y = if (typX l x).2 ≠ 0 then (false, [], (typX l x).2) else if (typX l y).2 ≠ 0 then (false, [], (typX l y).2) else if (typX l x).1 ≠ (typX l y).1 then (false, [], 11) else if plentyB l then (false, [], 13) else (((asgL l).find? fun v => !likeB l x y v).isNone, ((asgL l).find? fun v => !likeB l x y v).getD [], 0)) := by
    show _ = _
    rw [HE.out, given_of HVV.out HVX.out, given_of HVV.out HVY.out, HVY.out, if_neg (by simp)]
  clear HE HBAD
  obtain ⟨q0, q1, q2, q3, q4, q5⟩ := hBx4.c6
  have HC := Lib.hid (type_ref n l x _ _ w4 hv4 hx4 (valid_ok HVX.out))
  go_wp2_with fail
  (with_reducible refine HC.out.mono ?_)
  rintro e w5 ⟨rfl, hf1, hb5⟩
  have hv5 := hv4.now hb5
  have hx5 := hx4.now hb5
  have hy5 := hy4.now hb5
  have hBx5 := hBx4.now hb5
  have hBy5 := hBy4.now hb5
  have hbw5 := bthen hbw4 hb5
  clear hv4 hx4 hy4 hBx4 hBy4 hbw4 hb5
  clear HC q0 q1 q2 q3 q4 q5
  by_cases hg : (typX l x).2 = 0
  rotate_left
  · have HR : Hid (equivE l x y = (false, [], (typX l x).2)) := by show _ = _; rw [HE2.out, if_pos hg]
    have hk' : ((typX l x).2 != 0) = true := by simpa using hg
    clear hg HE2
    generalize (typX l x).2 = ge at *
    generalize (typX l x).1 = gk at *
    go_wp2_with fail
    go_ret3
    exact RetBVE.none_ HR.out hbw5
  have HG0 := Lib.hid hg
  rw [hg]
  clear hg
  have HKX : Hid (∃ k, k = (typX l x).1) := ⟨_, rfl⟩
  obtain ⟨kx, hkx⟩ := HKX.out
  rw [← hkx] at hf1 ⊢
  have HKX := Lib.hid hkx
  clear hkx
  obtain ⟨r0, r1, r2, r3, r4, r5⟩ := hBy5.c6
  have HC := Lib.hid (type_ref n l y _ _ w5 hv5 hy5 (valid_ok HVY.out))
  go_wp2_with fail
  (with_reducible refine HC.out.mono ?_)
  rintro e w6 ⟨rfl, hf2, hb6⟩
  have hv6 := hv5.now hb6
  have hx6 := hx5.now hb6
  have hy6 := hy5.now hb6
  have hBx6 := hBx5.now hb6
  have hBy6 := hBy5.now hb6
  have hbw6 := bthen hbw5 hb6
  clear hv5 hx5 hy5 hBx5 hBy5 hbw5 hb6
  clear HC r0 r1 r2 r3 r4 r5
  by_cases hg : (typX l y).2 = 0
  rotate_left
  · have HR : Hid (equivE l x y = (false, [], (typX l y).2)) := by show _ = _; rw [HE2.out, if_neg (by rw [HG0.out]; simp), if_pos hg]
    have hk' : ((typX l y).2 != 0) = true := by simpa using hg
    clear hg HE2
    generalize (typX l y).2 = ge at *
    generalize (typX l y).1 = gk at *
    go_wp2_with fail
    go_ret3
    exact RetBVE.none_ HR.out hbw6
  have HG1 := Lib.hid hg
  rw [hg]
  clear hg
  have HKY : Hid (∃ k, k = (typX l y).1) := ⟨_, rfl⟩
  obtain ⟨ky, hky⟩ := HKY.out
  rw [← hky] at hf2 ⊢
  have HKY := Lib.hid hky
  clear hky
  by_cases hkk : kx = ky
  rotate_left
  · have HR : Hid (equivE l x y = (false, [], 11)) := by show _ = _; rw [HE2.out, if_neg (by rw [HG0.out]; simp), if_neg (by rw [HG1.out]; simp), ← HKX.out, ← HKY.out, if_pos hkk]
    have hk' : (kx != ky) = true := by simpa using hkk
    clear hkk
    go_wp2_with fail
    go_ret3
    exact RetBVE.none_ HR.out hbw6
  subst hkk
  have hk' : (kx != kx) = false := by simp
  have HPL := Lib.hid (assignments_ref l _ w6 hv6 HVV.out)
  have h8 := vars_len HVV.out
  go_wp2_with fail
  (with_reducible refine HPL.out.mono ?_)
  rintro e w7 ⟨rfl, hb7⟩
  have hv7 := hv6.now hb7
  have hx7 := hx6.now hb7
  have hy7 := hy6.now hb7
  have hBx7 := hBx6.now hb7
  have hBy7 := hBy6.now hb7
  have hbw7 := bthen hbw6 hb7
  clear hv6 hx6 hy6 hBx6 hBy6 hbw6 hb7
  clear HPL
  by_cases hpl : prodL l ≤ 10000
  rotate_left
  · have HR : Hid (equivE l x y = (false, [], 13)) := by show _ = _; rw [HE2.out, if_neg (by rw [HG0.out]; simp), if_neg (by rw [HG1.out]; simp), if_neg (by rw [← HKX.out, ← HKY.out]; simp), if_pos (by unfold plentyB; simp; omega)]
    have hbi : (10000 : Int) < ((min 10001 (prodL l) : Nat) : Int) := by omega
    generalize ((min 10001 (prodL l) : Nat) : Int) = pz at *
    clear hpl
    go_wp2_with fail
    go_ret3
    exact RetBVE.none_ HR.out hbw7
  have HR : Hid (equivE l x y = (((asgL l).find? fun v => !likeB l x y v).isNone, ((asgL l).find? fun v => !likeB l x y v).getD [], 0)) := by show _ = _; rw [HE2.out, if_neg (by rw [HG0.out]; simp), if_neg (by rw [HG1.out]; simp), if_neg (by rw [← HKX.out, ← HKY.out]; simp), if_neg (by unfold plentyB; simp; omega)]
  have hbi : ¬ (10000 : Int) < ((min 10001 (prodL l) : Nat) : Int) := by omega
  have HP1 := Lib.hid hpl
  have HF := Lib.hid (first_ref l _ w7 hv7 HVV.out)
  clear hpl HE2
  generalize ((min 10001 (prodL l) : Nat) : Int) = pz at *
  go_wp2_with fail
  (with_reducible refine HF.out.mono ?_)
  rintro e w8 ⟨fv, rfl, hfv, hb8⟩
  have hv8 := hv7.now hb8
  have hx8 := hx7.now hb8
  have hy8 := hy7.now hb8
  have hBx8 := hBx7.now hb8
  have hBy8 := hBy7.now hb8
  have hbw8 := bthen hbw7 hb8
  clear hv7 hx7 hy7 hBx7 hBy7 hbw7 hb8
  have HRR : Hid (asgL l = eachL l (fun _ => true) (prodL l) (firstV l)) := rfl
  have hst := LoopSt.start (q := fun _ => true) HVV.out hfv
  rw [← HRR.out] at hst
  have HST := Lib.hid hst
  clear HF hfv hst
  go_wp2_with fail
  go_loopg [13, 14] (prodL l) (fun gg vv mv wr => ∃ (f : Nat) (d : List (List Val)) (m : Bool) (sv : Value), sv = vv ∧ mv = .bool m ∧ f ≤ gg ∧ f ≤ prodL l ∧ Hid (∀ z ∈ d, likeB l x y z = true) ∧ LoopSt l (fun _ => true) (asgL l) d f vv m wr ∧ Below w8.heap.size w8 wr)
  case atStart => exact ⟨prodL l, [], true, _, rfl, rfl, Nat.le_refl _, Nat.le_refl _, Lib.hid (fun z hz => by cases hz), HST.out, Below.refl _ _⟩
  case round =>
    obtain ⟨f, d, m, sv, rfl, rfl, hfg, hfp, hall, hlst, hbr⟩ := hrel
    have hbwr := bthen hbw8 hbr
    have hm1 := Lib.hid hlst.1
    have hm2 := Lib.hid hlst.2
    clear hlst
    cases m
    · have hd := hm2.out rfl
      have HR2 : Hid (equivE l x y = (true, [], 0)) := by show _ = _; rw [HR.out, ← hd, find_all hall.out]; rfl
      clear hd
      go_wp2_with fail
      go_ret3
      rw [HR2.out]
      exact ⟨_, rfl, Sl.none_, hbwr⟩
    · obtain ⟨v, hgood, hsl, hfu, hdR⟩ := hm1.out rfl
      have hlt := hgood.lt
      obtain ⟨f', rfl⟩ : ∃ f', f = f' + 1 := ⟨f - 1, by omega⟩
      have HDR : Hid (d ++ (v :: if (nextV l v).2 then eachL l (fun _ => true) f' (nextV l v).1 else []) = asgL l) := hdR
      have HNG := Lib.hid (fun hn => next_good hgood hn)
      obtain ⟨Asv, csv, rfl, _, _, hsl⟩ := hsl.open_
      have hBxr := hBx8.now hbr
      have hByr := hBy8.now hbr
      have hxr := hx8.now hbr
      have hyr := hy8.now hbr
      have hvr := hv8.now hbr
      obtain ⟨q0, q1, q2, q3, q4, q5⟩ := hBxr.c6
      have HVA := Lib.hid (valz_ref n l v x wr _ _ _ ⟨hvr, hsl, hxr, valid_ok HVX.out, HG0.out, hgood.asg⟩)
      have HGV := Lib.hid hgood
      have HFU := Lib.hid (show prodL l ≤ f' + 1 + numL l v from hfu)
      clear hm1 hm2 hdR hgood hfu hlt
      go_wp2_with fail
      (with_reducible refine HVA.out.mono ?_)
      rintro e wa ⟨a, rfl, haa, hba⟩
      have hbb := bone wa (.cells #[.int .i64 a.kind, .int .i64 a.n, .string a.s] 25)
      have hAb := Blk.new wa 25 #[.int .i64 a.kind, .int .i64 a.n, .string a.s]
      have hbab := bthen hba hbb
      have hslb := hsl.now hbab
      have hyb := hyr.now hbab
      have hvb := hvr.now hbab
      have hByb := hByr.now hbab
      have hbrb := bthen hbr hbab
      have HAA := Lib.hid haa
      clear q0 q1 q2 q3 q4 q5 HVA hsl hxr hyr hvr hBxr hByr hbr hbwr hba haa
      go_upto_region 16 with fail
      generalize hwb : wa.alloc (.cells #[.int .i64 a.kind, .int .i64 a.n, .string a.s] 25) = wb at *
      clear hwb hbb hbab
      obtain ⟨r0, r1, r2, r3, r4, r5⟩ := hByb.c6
      have HVB := Lib.hid (valz_ref n l v y wb _ _ _ ⟨hvb, hslb, hyb, valid_ok HVY.out, HG1.out, HGV.out.asg⟩)
      go_wp2_with fail
      (with_reducible refine HVB.out.mono ?_)
      rintro e wc ⟨b, rfl, hbb', hbc⟩
      have hbd := bone wc (.cells #[.int .i64 b.kind, .int .i64 b.n, .string b.s] 25)
      have hBd := Blk.new wc 25 #[.int .i64 b.kind, .int .i64 b.n, .string b.s]
      have hbcd := bthen hbc hbd
      have hAd := hAb.now hbcd
      have hsld := hslb.now hbcd
      have hvd := hvb.now hbcd
      have hbrd := bthen hbrb hbcd
      have HBB := Lib.hid hbb'
      clear r0 r1 r2 r3 r4 r5 HVB hslb hyb hvb hByb hbrb hbc hbb' hAb
      go_upto_region 17 with fail
      generalize hwd : wc.alloc (.cells #[.int .i64 b.kind, .int .i64 b.n, .string b.s] 25) = wd at *
      clear hwd hbd hbcd
      obtain ⟨a0, a1, a2⟩ := hAd.c3
      obtain ⟨b0, b1, b2⟩ := hBd.c3
      have hne := fun W => run_neV W a b
      have HQ : Hid (likeB l x y v = decide (evX l v x = evX l v y)) := rfl
      have HVZ : Hid ((evX l v x).isSome = (evX l v y).isSome → decide (a = b) = likeB l x y v) := by
        show _ → _
        intro h
        rw [HQ.out]
        cases h1 : evX l v x with
        | none =>
          rw [h1] at h
          cases h2 : evX l v y with
          | none => rw [HAA.out.2 h1, HBB.out.2 h2]; simp
          | some c => rw [h2] at h; cases h
        | some c =>
          rw [h1] at h
          cases h2 : evX l v y with
          | none => rw [h2] at h; cases h
          | some c' => rw [HAA.out.1 c h1, HBB.out.1 c' h2]; simp
      have HVN : Hid ((evX l v x).isSome ≠ (evX l v y).isSome → likeB l x y v = false) := by
        show _ → _
        intro h
        rw [HQ.out]
        exact decide_eq_false (fun e => h (by rw [e]))
      have HN := Lib.hid (next_ref l v _ _ wd hvd hsld HVV.out (fun z hz => by
        obtain ⟨i, hi, rfl⟩ := List.mem_iff_getElem.1 hz
        have hil : i < l.length := by rw [← HGV.out.len]; exact hi
        exact (HGV.out.each i l[i] _ (List.getElem?_eq_getElem hil) (List.getElem?_eq_getElem hi)).1) HGV.out.assigned)
      generalize (evX l v x).isSome = o1 at *
      generalize (evX l v y).isSome = o2 at *
      by_cases ho : o1 = o2
      · subst ho
        have hoo : (o1 != o1) = false := by simp
        have HL := Lib.hid (HVZ.out rfl)
        cases hq : likeB l x y v
        · rw [hq] at HL
          have HR2 : Hid (equivE l x y = (false, v, 0)) := by show _ = _; rw [HR.out, ← HDR.out, find_at_ hall.out hq]; rfl
          rw [HL.out] at hne
          clear hq
          go_wp2_with fail
          go_ret3
          rw [HR2.out]
          exact ⟨_, rfl, hsld, bthen hbw8 hbrd⟩
        · rw [hq] at HL
          rw [HL.out] at hne
          have HA2 : Hid (∀ z ∈ d ++ [v], likeB l x y z = true) := fun z hz => by
            rcases List.mem_append.1 hz with h | h
            · exact hall.out z h
            · rw [List.mem_singleton] at h; subst h; exact hq
          clear hq
          go_wp2_with fail
          (with_reducible refine HN.out.mono ?_)
          rintro e we ⟨nv, rfl, hnv, hbe⟩
          have hbre := bthen hbrd hbe
          clear HN
          have HNC : Hid (((nextV l v).2 = true → Good l (nextV l v).1 ∧ prodL l ≤ f' + numL l (nextV l v).1 ∧ d ++ [v] ++ eachL l (fun _ => true) f' (nextV l v).1 = asgL l) ∧ ((nextV l v).2 = false → d ++ [v] = asgL l)) := by
            refine ⟨fun h => ?_, fun h => ?_⟩
            · obtain ⟨g1, g2⟩ := HNG.out h
              have := HDR.out
              rw [h, if_pos rfl] at this
              exact ⟨g1, by have := HFU.out; omega, by rw [List.append_assoc]; exact this⟩
            · have := HDR.out
              rw [h, if_neg Bool.false_ne_true] at this
              exact this
          generalize (nextV l v).1 = v' at *
          generalize (nextV l v).2 = m' at *
          go_wp2_with fail
          go_roundg (f')
          case rel => exact ⟨f', d ++ [v], m', _, rfl, rfl, Nat.le_refl _, by omega, HA2, ⟨fun h => ⟨v', (HNC.out.1 h).1, hnv, (HNC.out.1 h).2.1, (HNC.out.1 h).2.2⟩, HNC.out.2⟩, hbre⟩
          case measure => omega
      · have hq := HVN.out ho
        have HR2 : Hid (equivE l x y = (false, v, 0)) := by show _ = _; rw [HR.out, ← HDR.out, find_at_ hall.out hq]; rfl
        clear hq
        have hbrf := bthen hbw8 hbrd
        cases o1 <;> cases o2 <;> first
          | exact absurd rfl ho
          | (clear ho
             go_wp2_with fail
             go_ret3
             rw [HR2.out]
             exact ⟨_, rfl, hsld, hbrf⟩)
end Go.Proofs.YtijmnenojbfdnaaGreatDoor

namespace Go.Proofs.YtijmnenojbfdnaaGreatDoor
open Go.RowKit
def RetTr (w : World) (e : Ending) (w' : World) : Prop := e = .returned (.bool true) ∧ Below w.heap.size w w'
abbrev exC6 (x : Ex) (Ax : Option Addr) (cx : Nat) : Array Value := #[.int .i64 x.op, .int .i64 x.v.kind, .int .i64 x.v.n, .string x.v.s, .string x.s, .slice Ax x.l.length cx]
end Go.Proofs.YtijmnenojbfdnaaGreatDoor

namespace Go.Proofs.YtijmnenojbfdnaaGreatDoor
open Go.RowKit
theorem ex_two {n : Nat} {x y : Ex} {Ax Ay : Option Addr} {cx cy : Nat} {w : World} (hx : IsEx n (Lt w.heap.size) w (exV x (.slice Ax x.l.length cx)) x) (hy : IsEx n (Lt w.heap.size) w (exV y (.slice Ay y.l.length cy)) y) :
    SlE (n + 1) (Lt (w.alloc (.cells ((exC6 x Ax cx) ++ (exC6 y Ay cy)) 28)).heap.size) (w.alloc (.cells ((exC6 x Ax cx) ++ (exC6 y Ay cy)) 28)) (.slice (some ⟨w.heap.size, 0, none⟩) 2 2) [x, y] := by
  have hb := bone w (.cells ((exC6 x Ax cx) ++ (exC6 y Ay cy)) 28)
  have hx1 := hx.now hb
  have hy1 := hy.now hb
  refine Sl.ofBlk (R := RExN (n + 1)) (size := 6) (xs := [x, y]) (cs := (exC6 x Ax cx).toList ++ (exC6 y Ay cy).toList) (Blk.new w 28 _) (by unfold maxLen; show 2 ≤ _; decide) (fun i z hz => ?_)
  match i, hz with
  | 0, hz =>
    injection hz with hz; subst hz
    refine ⟨(exC6 x Ax cx).toList, rfl, fun j u hu => ?_, isEx_cells hx1⟩
    rw [Nat.zero_mul, Nat.zero_add, List.getElem?_append_left]
    · exact hu
    · exact (List.getElem?_eq_some_iff.1 hu).1
  | 1, hz =>
    injection hz with hz; subst hz
    refine ⟨(exC6 y Ay cy).toList, rfl, fun j u hu => ?_, isEx_cells hy1⟩
    rw [List.getElem?_append_right (by show 6 ≤ _; omega)]
    have e : 1 * 6 + j - (exC6 x Ax cx).toList.length = j := by show 1 * 6 + j - 6 = j; omega
    rw [e]
    exact hu
  | i + 2, hz => simp at hz
set_option maxHeartbeats 8000000 in
set_option maxRecDepth 100000 in
theorem exprModels_law {n1 n2 : Nat} (l : List Var) (x y : Ex) (u ux uy : Value) (w : World) (hl : SlX (Lt w.heap.size) w u l) (hx : IsEx n1 (Lt w.heap.size) w ux x) (hy : IsEx n2 (Lt w.heap.size) w uy y) (ha : Amb w) :
    Calls Tryz.prog 5 #[u, ux, uy] w (RetTr w) := by
  have hx := hx.up (show n1 ≤ max n1 n2 by omega)
  have hy := hy.up (show n2 ≤ max n1 n2 by omega)
  generalize max n1 n2 = n at *
  have hxx := hx
  have hyy := hy
  obtain ⟨A, c, rfl, h1, h2, hl⟩ := hl.open_
  obtain ⟨lv, rfl, _, Ax, cx, rfl⟩ := hx.cells
  obtain ⟨lw, rfl, _, Ay, cy, rfl⟩ := hy.cells
  have hb1 := bbox (bone w (.cells (exC6 x Ax cx) 28)) (.cells (exC6 y Ay cy) 28)
  have hBx1 := (Blk.new w 28 (exC6 x Ax cx)).alloc (.cells (exC6 y Ay cy) 28)
  have hBy1 := Blk.new_at (t := 28) (cs := (exC6 y Ay cy)) (w := w.alloc (.cells (exC6 x Ax cx) 28)) (s := w.heap.size + 1) (World.size_alloc _ _)
  have hx1 := hxx.now hb1
  have hy1 := hyy.now hb1
  have hv1 := hl.now hb1
  have hbw1 := hb1
  have HC := Lib.hid (exAwake_any _ (ha.now hb1))
  clear hx hy hl hxx hyy hb1
  go_enter Tryz.func5, Tryz.ntmps5
  go_wp2_with fail
  (with_reducible refine HC.out.mono ?_)
  rintro e w2 ⟨rfl, hb2⟩
  have hv2 := hv1.now hb2
  have hx2 := hx1.now hb2
  have hy2 := hy1.now hb2
  have hBx2 := hBx1.now hb2
  have hBy2 := hBy1.now hb2
  have hbw2 := bthen hbw1 hb2
  clear hv1 hx1 hy1 hBx1 hBy1 hbw1 hb2
  clear HC
  obtain ⟨q0, q1, q2, q3, q4, q5⟩ := hBx2.c6
  obtain ⟨r0, r1, r2, r3, r4, r5⟩ := hBy2.c6
  have hb3 := bone w2 (.cells ((exC6 x Ax cx) ++ (exC6 y Ay cy)) 28)
  have HC := Lib.hid (small_any _ _ _ _ (ex_two hx2 hy2))
  have hv3 := hv2.now hb3
  have hx3 := hx2.now hb3
  have hy3 := hy2.now hb3
  have hBx3 := hBx2.now hb3
  have hBy3 := hBy2.now hb3
  have hbw3 := bthen hbw2 hb3
  clear hv2 hx2 hy2 hBx2 hBy2 hbw2 hb3
  go_wp2_with fail
  refine HC.out.mono ?_
  rintro e w4 ⟨q, rfl, hb4⟩
  have hv4 := hv3.now hb4
  have hx4 := hx3.now hb4
  have hy4 := hy3.now hb4
  have hBx4 := hBx3.now hb4
  have hBy4 := hBy3.now hb4
  have hbw4 := bthen hbw3 hb4
  clear hv3 hx3 hy3 hBx3 hBy3 hbw3 hb4
  clear HC q0 q1 q2 q3 q4 q5 r0 r1 r2 r3 r4 r5
  cases q
  · go_wp2_with fail
    go_ret
    exact ⟨rfl, hbw4⟩
  have HC := Lib.hid (narrow_any l _ w4 hv4)
  go_wp2_with fail
  (with_reducible refine HC.out.mono ?_)
  rintro e w5 ⟨q, rfl, hq, hb5⟩
  have hv5 := hv4.now hb5
  have hx5 := hx4.now hb5
  have hy5 := hy4.now hb5
  have hBx5 := hBx4.now hb5
  have hBy5 := hBy4.now hb5
  have hbw5 := bthen hbw4 hb5
  clear hv4 hx4 hy4 hBx4 hBy4 hbw4 hb5
  clear HC
  cases q
  · go_wp2_with fail
    go_ret
    exact ⟨rfl, hbw5⟩
  have h10 := hq rfl
  clear hq
  obtain ⟨q0, q1, q2, q3, q4, q5⟩ := hBx5.c6
  obtain ⟨r0, r1, r2, r3, r4, r5⟩ := hBy5.c6
  have HC := Lib.hid (models_any n l x _ _ w5 hv5 hx5 (by omega))
  go_wp2_with fail
  (with_reducible refine HC.out.mono ?_)
  rintro e w6 ⟨va, rfl, hva, hb6⟩
  have hv6 := hv5.now hb6
  have hx6 := hx5.now hb6
  have hy6 := hy5.now hb6
  have hBx6 := hBx5.now hb6
  have hBy6 := hBy5.now hb6
  have hbw6 := bthen hbw5 hb6
  clear hv5 hx5 hy5 hBx5 hBy5 hbw5 hb6
  clear HC q0 q1 q2 q3 q4 q5 r0 r1 r2 r3 r4 r5
  obtain ⟨Aa, ca, rfl, _, _, hva⟩ := hva.open_
  obtain ⟨q0, q1, q2, q3, q4, q5⟩ := hBx6.c6
  obtain ⟨r0, r1, r2, r3, r4, r5⟩ := hBy6.c6
  have HC := Lib.hid (models_ref n l x _ _ w6 hv6 hx6)
  go_wp2_with fail
  (with_reducible refine HC.out.mono ?_)
  rintro e w7 ⟨vb, rfl, hvb, hb7⟩
  have hva := hva.now hb7
  have hv7 := hv6.now hb7
  have hx7 := hx6.now hb7
  have hy7 := hy6.now hb7
  have hBx7 := hBx6.now hb7
  have hBy7 := hBy6.now hb7
  have hbw7 := bthen hbw6 hb7
  clear hv6 hx6 hy6 hBx6 hBy6 hbw6 hb7
  clear HC q0 q1 q2 q3 q4 q5 r0 r1 r2 r3 r4 r5
  obtain ⟨Ab, cb, rfl, _, _, hvb⟩ := hvb.open_
  obtain ⟨q0, q1, q2, q3, q4, q5⟩ := hBx7.c6
  obtain ⟨r0, r1, r2, r3, r4, r5⟩ := hBy7.c6
  have HC := Lib.hid (equiv_any n l x y _ _ _ w7 hv7 hx7 hy7 (by omega))
  generalize modelsE l x = me at *
  obtain ⟨mn, mv, mz⟩ := me
  go_wp2_with fail
  (with_reducible refine HC.out.mono ?_)
  rintro e w8 ⟨vc, rfl, hvc, hb8⟩
  have hva := hva.now hb8
  have hvb := hvb.now hb8
  have hv8 := hv7.now hb8
  have hx8 := hx7.now hb8
  have hy8 := hy7.now hb8
  have hBx8 := hBx7.now hb8
  have hBy8 := hBy7.now hb8
  have hbw8 := bthen hbw7 hb8
  clear hv7 hx7 hy7 hBx7 hBy7 hbw7 hb8
  clear HC q0 q1 q2 q3 q4 q5 r0 r1 r2 r3 r4 r5
  obtain ⟨Ac, cc, rfl, _, _, hvc⟩ := hvc.open_
  obtain ⟨q0, q1, q2, q3, q4, q5⟩ := hBx8.c6
  obtain ⟨r0, r1, r2, r3, r4, r5⟩ := hBy8.c6
  have HC := Lib.hid (equiv_ref n l x y _ _ _ w8 hv8 hx8 hy8)
  generalize equivE l x y = ee at *
  obtain ⟨en, ev, ez⟩ := ee
  go_wp2_with fail
  (with_reducible refine HC.out.mono ?_)
  rintro e w9 ⟨vd, rfl, hvd, hb9⟩
  have hva := hva.now hb9
  have hvb := hvb.now hb9
  have hvc := hvc.now hb9
  have hbw9 := bthen hbw8 hb9
  clear hv8 hx8 hy8 hBx8 hBy8 hbw8 hb9 HC q0 q1 q2 q3 q4 q5 r0 r1 r2 r3 r4 r5
  obtain ⟨Ad, cd, rfl, _, _, hvd⟩ := hvd.open_
  have HC := Lib.hid (sameV_any _ _ _ w9 hva hvb)
  go_wp2_with fail
  (with_reducible refine HC.out.mono ?_)
  rintro e wa ⟨rfl, hba⟩
  have hvc := hvc.now hba
  have hvd := hvd.now hba
  have hbwa := bthen hbw9 hba
  clear HC hbw9 hba hva hvb
  have HC := Lib.hid (sameV_any _ _ _ wa hvc hvd)
  go_wp2_with fail
  (with_reducible refine HC.out.mono ?_)
  rintro e wb ⟨rfl, hbb⟩
  have hbwb := bthen hbwa hbb
  go_wp2_with fail
  go_ret
  exact ⟨rfl, hbwb⟩
end Go.Proofs.YtijmnenojbfdnaaGreatDoor
