/- Texts of this seat, merged. -/
import Derived.Test.YtoalecalahkblaaGreatDoorProg
import Derived.Outline
import Derived.Shelf.Abstract
import Derived.Test.YtoalecalahkblaaGreatDoorIy06
import Derived.Test.YtoalecalahkblaaGreatDoorIy03
import Derived.Test.YtoalecalahkblaaGreatDoorIy02
import Derived.Maps.AppendAt
import Derived.Deep.AppendLies
import Derived.RegionTactic
import Derived.OwnWalk
import Derived.Test.YtoalecalahkblaaGreatDoorIy01
import Derived.WalkKit
import Derived.WalkSpells
import Derived.WalkLawsBesides
import Derived.Lib.Hide
import Derived.Deep.Draws
import Derived.Deep.OwnRows
import Derived.Deep.Light
import Derived.Shelf.Strings.Builder1
import Derived.Shelf.Strings.Builder2
import Derived.Shelf.Small.Bits
import Derived.Shelf.Small.Strs
import Derived.Shelf.Small.Wraps
import Derived.Shelf.Strings.BuilderF
import Derived.Shelf.Strings.BuilderK
import Derived.Shelf.Strings.Builder2Cap
import Derived.Shelf.Strconv.Atoi
import Derived.Shelf.Strconv.Itoa0
import Derived.Shelf.Strconv.Itoa1
import Derived.Shelf.LaysM
import Derived.Shelf.Strconv.Itoa2
import Derived.Shelf.Strconv.Itoa3
import Derived.Shelf.Strconv.AtoiErrFast
import Derived.Shelf.Strconv.ParseIntEmpty
import Derived.Shelf.Strconv.AtoiFail
import Derived.Shelf.Strconv.Clone
import Derived.Shelf.Strconv.SyntaxError
import Derived.Shelf.LaysC
import Derived.Shelf.Strconv.ToError
import Derived.Shelf.Strconv.Lower
import Derived.Shelf.Strconv.ParseUint10
import Derived.Shelf.Strconv.ParseUint10Empty
import Derived.Shelf.Strconv.ParseUint10Any
import Derived.Shelf.Strconv.ParseInt10
import Derived.Shelf.Strconv.AtoiLong
import Derived.Shelf.Strconv.AtoiInnerAll
import Derived.Shelf.Strconv.RangeError
import Derived.Shelf.Strconv.ToErrorRange
import Derived.Shelf.Strconv.AtoiAll
import Derived.Shelf.Strconv.ErrVarAll
import Derived.Shelf.Strings.Search1
import Derived.Shelf.Strings.Search2
import Derived.Shelf.Strings.Search3
import Derived.Shelf.Strings.Count
import Derived.Shelf.Strings.Shaped
import Derived.Shelf.Sort.Plain
import Derived.Shelf.Strings.Prefix
import Derived.Shelf.Strings.Split
import Derived.Shelf.Strings.Replace
import Derived.Shelf.Strings.SplitShaped
import Derived.Shelf.Unicode.DecodeSlow
import Derived.Shelf.Strings.BuilderCap
import Derived.Shelf.Slices.Turned
import Derived.Ground.Names2Prog
import Derived.Shelf.Slices.Clone
import Derived.Shelf.Slices.CompactS
import Derived.Shelf.Slices.SearchI
import Derived.Shelf.Slices.Cells
import Derived.Shelf.Slices.In.SortNone
import Derived.Ground.SlgnProg
import Derived.Shelf.SlicesE.Compact
import Derived.Shelf.SlicesE.Clone
import Derived.Ground.SlgfProg
import Derived.Shelf.SlicesE.IndexFunc
import Derived.Shelf.SlicesE.DeleteFunc
import Derived.StillTailTactics
import Derived.Deep.CutRange
import Derived.Deep.CutBlock
import Derived.Test.YtoalecalahkblaaGreatDoorIy16
import Derived.Laws.IdiomStrings
import Derived.Test.YtoalecalahkblaaGreatDoorIy07
import Derived.Lib.Replace
import Derived.Lib.IndexLaws
import Derived.Lib.AtoiErrMem
import Derived.Test.YtoalecalahkblaaGreatDoorIy05
import Derived.Lib.Builder
import Derived.Lib.AppendStr
import Derived.Lib.UnsafeStr
import Derived.Lib.FrozenHead2
import Derived.Lib.OthersKept
import Derived.Laws.Externs
import Derived.Lib.OwnKind
import Derived.Laws.BytesString
import Derived.Test.YtoalecalahkblaaGreatDoorIy04
import Derived.Deep.QuietTactic
import Derived.BigQuiet
set_option linter.all false
namespace Go.Proofs.YtoalecalahkblaaGreatDoor
open Go.RowKit
set_option maxHeartbeats 1000000 in
theorem idxFR (k : FuncId) (cb : Array Value) (eg : ∀ args w, (callFunc k args).run Tryz.prog w = .ok (.enter k args) w) (tv : Value) (ts : List (List Bt)) (p : List Bt → Bool) (w : World) (ht : Sl 1 RStrs (Lt w.heap.size) w tv ts) (hf : AsksF k cb RStrs w ts p) :
    Calls Tryz.prog 72 #[tv, .func (.func k) #[] cb] w fun e w' => e = .returned (.int .i64 (firstF p ts)) ∧ Below w.heap.size w w' := by
  obtain ⟨A, c, rfl, h1, h2, ht⟩ := ht.open_
  have HF := Lib.hid hf
  have HT := Lib.hid ht
  clear hf ht
  go_enter Tryz.func72, Tryz.ntmps72
  go_wp2_with fail
  go_loopw [8] (fun i wr => ∃ j : Nat, j ≤ ts.length ∧ i = .int .i64 j ∧ Hid (∀ (q : Nat) t, q < j → ts[q]? = some t → p t = false) ∧ Hid (Below w.heap.size w wr)) (fun i _ => ts.length - (intOf i).toNat)
  case atStart => exact ⟨0, Nat.zero_le _, rfl, Lib.hid (fun q _ h => absurd h (by omega)), Lib.hid (Below.refl _ _)⟩
  case round =>
    obtain ⟨j, hj, rfl, HP, HB⟩ := hrel
    by_cases hlt : j < ts.length
    · obtain ⟨b, o, t, u, rfl, hD, hx, hr, hc⟩ := HT.out.at1 hlt
      have c0 := (HB.out.cell (p := ⟨b, o + j, none⟩) hD).trans hc
      have hcall := HF.out t u wr (List.mem_of_getElem? hx) hr HB.out
      have HX := Lib.hid hx
      clear hx hr hc
      generalize hq : p t = q' at *
      have HQ := Lib.hid hq
      have HC := Lib.hid hcall
      clear hcall hq
      cases q'
      · go_wp2_with (go_at_fn k; (with_reducible refine HC.out.mono ?_); rintro e w' ⟨rfl, hb'⟩; have HB' := Lib.hid (bthen HB.out hb'); clear hb')
        go_roundw
        case rel =>
          refine ⟨j + 1, by omega, by go_num, Lib.hid (fun q y hq hy => ?_), HB'⟩
          by_cases e : q = j
          · subst e; rw [HX.out] at hy; injection hy with hy; subst hy; exact HQ.out
          · exact HP.out q y (by omega) hy
        case measure => simp [intOf]; omega
      · go_wp2_with (go_at_fn k; (with_reducible refine HC.out.mono ?_); rintro e w' ⟨rfl, hb'⟩; have HB' := Lib.hid (bthen HB.out hb'); clear hb')
        go_ret
        exact ⟨ret_int (firstF_hit HX.out HQ.out HP.out).symm, HB'.out⟩
    · go_wp2_with fail
      go_ret
      exact ⟨ret_int (firstF_miss (fun q y hq hy => HP.out q y (by omega) hy)).symm, HB.out⟩
theorem contFR (k : FuncId) (cb : Array Value) (eg : ∀ args w, (callFunc k args).run Tryz.prog w = .ok (.enter k args) w) (tv : Value) (ts : List (List Bt)) (p : List Bt → Bool) (w : World) (ht : Sl 1 RStrs (Lt w.heap.size) w tv ts) (hf : AsksF k cb RStrs w ts p) :
    Calls Tryz.prog 24 #[tv, .func (.func k) #[] cb] w fun e w' => e = .returned (.bool (ts.any p)) ∧ Below w.heap.size w w' := by
  have HC := Lib.hid (idxFR k cb eg tv ts p w ht hf)
  have HZ := Lib.hid (firstF_any p ts)
  generalize firstF p ts = z at *
  obtain ⟨A, c, rfl, h1, h2, _⟩ := ht.open_
  clear hf ht
  go_enter Tryz.func24, Tryz.ntmps24
  go_wp2_with fail
  (with_reducible refine HC.out.mono ?_)
  rintro e w' ⟨rfl, hb'⟩
  go_wp2_with fail
  go_ret
  exact ⟨by rw [← HZ.out]; rfl, hb'⟩
end Go.Proofs.YtoalecalahkblaaGreatDoor

namespace Go.Proofs.YtoalecalahkblaaGreatDoor
open Go.RowKit
theorem separator_ref (c : UInt8) (w : World) : Calls Tryz.prog 50 #[.int .u8 (c.toNat : Int)] w fun e w' => e = .returned (.bool (isSep c)) ∧ w = w' := by
  have hs := sepI c
  generalize isSep c = q at *
  generalize (c.toNat : Int) = z at *
  have HS := Lib.hid hs
  clear hs
  by_cases h1 : z = 44
  · have HQ := Lib.hid (HS.out.trans (by rw [decide_eq_true h1]; rfl : _ = true))
    have e1 : (z == 44) = true := by rw [h1]; rfl
    clear HS h1
    go_enter Tryz.func50, Tryz.ntmps50
    go_wp2_with fail
    go_ret
    exact ⟨ret_bool HQ.out.symm, rfl⟩
  by_cases h2 : z = 59
  · have HQ := Lib.hid (HS.out.trans (by rw [decide_eq_true h2, Bool.or_true]; rfl : _ = true))
    have e1 : (z == 44) = false := by rw [h2]; rfl
    have e2 : (z == 59) = true := by rw [h2]; rfl
    clear HS h1 h2
    go_enter Tryz.func50, Tryz.ntmps50
    go_wp2_with fail
    go_ret
    exact ⟨ret_bool HQ.out.symm, rfl⟩
  by_cases h3 : z = 124
  · have HQ := Lib.hid (HS.out.trans (by rw [decide_eq_true h3, Bool.or_true]; rfl : _ = true))
    have e1 : (z == 44) = false := by rw [h3]; rfl
    have e2 : (z == 59) = false := by rw [h3]; rfl
    have e3 : (z == 124) = true := by rw [h3]; rfl
    clear HS h1 h2 h3
    go_enter Tryz.func50, Tryz.ntmps50
    go_wp2_with fail
    go_ret
    exact ⟨ret_bool HQ.out.symm, rfl⟩
  have e1 : (z == 44) = false := beq_false_of_ne h1
  have e2 : (z == 59) = false := beq_false_of_ne h2
  have e3 : (z == 124) = false := beq_false_of_ne h3
  have HQ := Lib.hid (HS.out.trans (by rw [decide_eq_false h1, decide_eq_false h2, decide_eq_false h3]; rfl : _ = decide (z = 9)))
  clear HS h1 h2 h3
  go_enter Tryz.func50, Tryz.ntmps50
  go_wp2_with fail
  go_ret
  exact ⟨ret_bool (by rw [HQ.out]; rfl), rfl⟩
end Go.Proofs.YtoalecalahkblaaGreatDoor

namespace Go.Proofs
open Go.Shelf
theorem Tryz.laysNm216 : Go.Proofs.Lays2.n16 Tryz.prog Tryz.laysNm216_ren := {
  mixed := by kernel_rfl
  f16 := Tryz.func26.trans (congrArg some (by kernel_rfl))
  t4 := Tryz.underlying4
  a4 := Tryz.isAgg4
  z4 := Tryz.sizeOf4
  v4 := Tryz.zeroValue4
  t9 := Tryz.underlying9
  a9 := Tryz.isAgg9
  z9 := Tryz.sizeOf9
  v9 := Tryz.zeroValue9
  t24 := Tryz.underlying51
  a24 := Tryz.isAgg51
  z24 := Tryz.sizeOf51
  v24 := Tryz.zeroValue51
  i9 := by kernel_rfl }
open Go.RowKit Go.Lib in
theorem Tryz.slices_Clone_string (b off n c : Nat) (zs : List ByteArray) (w : World) (hz : n ≤ zs.length) (hbig : n * 16 ≤ 140737488355328) (hc : ∀ j, j < zs.length → w.cell? ⟨b, off + j, none⟩ = some (.string (zs.getD j ByteArray.empty))) :
    Calls Tryz.prog 26 #[.slice (some ⟨b, off, none⟩) n c] w fun e w' => ∃ v', e = .returned v' ∧ w'.ownsRow w.heap.size 9 1 v' n ((zs.take n).map (Value.string)) ∧ v' ≠ .slice none 0 0 ∧ Below w.heap.size w w' := Any.slices_Clone_string Tryz.laysNm216 b off n c zs w hz hbig hc
end Go.Proofs

set_option linter.all false
namespace Go.Proofs.YtoalecalahkblaaGreatDoor
open Go.RowKit
def fatB (b : Bt) : Bool := decide (300 < b.length)
def fatR (r : List Bt) : Bool := decide (40 < r.length) || r.any fatB
def manyB (n : Nat) : Bool := (decide (60 < n) && decide (n ≤ 2001)) || decide (3000 < n)
def wideB (rows : List (List Bt)) : Bool := manyB rows.length || rows.any fatR
theorem fat_any (s : ByteArray) (w : World) : Calls Tryz.prog 38 #[.string s] w fun e w' => e = .returned (.bool (fatB s.data.toList)) ∧ w = w' := by
  have HE : Hid (fatB s.data.toList = decide ((300 : Int) < (s.size : Int))) := by
    show _ = _
    unfold fatB
    have : s.data.toList.length = s.size := by simp
    exact decide_eq_decide.2 (by omega)
  obtain ⟨q, hq⟩ : ∃ q, decide ((300 : Int) < (s.size : Int)) = q := ⟨_, rfl⟩
  rw [hq] at HE
  go_enter Tryz.func38, Tryz.ntmps38
  go_wp2_with fail
  go_ret
  exact ⟨ret_bool HE.out.symm, rfl⟩
theorem enters_fat : ∀ args w, (callFunc 38 args).run Tryz.prog w = .ok (.enter 38 args) w := enters_of Tryz.func38 (by kernel_rfl) rfl
theorem enters_fatR : ∀ args w, (callFunc 37 args).run Tryz.prog w = .ok (.enter 37 args) w := enters_of Tryz.func37 (by kernel_rfl) rfl
theorem fats_any (v : Value) (r : List Bt) (w : World) (h : SlP (Lt w.heap.size) w v r) :
    Calls Tryz.prog 28 #[v, .func (.func 38) #[] #[]] w fun e w' => e = .returned (.bool (r.any fatB)) ∧ Below w.heap.size w w' := by
  have hf : AsksF 38 #[] RStr w (r.map bsOf) (fun s => fatB s.data.toList) := by
    intro x u W hx hr _
    obtain ⟨h1, _⟩ := hr
    injection h1 with h1
    subst h1
    exact (fat_any x W).mono fun e w' ⟨h1, h2⟩ => ⟨h1, h2 ▸ Below.refl _ _⟩
  have hc := contFS 38 #[] enters_fat v (r.map bsOf) _ w h hf
  rw [List.any_map] at hc
  exact hc
theorem fatR_any (v : Value) (r : List Bt) (w : World) (h : SlP (Lt w.heap.size) w v r) :
    Calls Tryz.prog 37 #[v] w fun e w' => e = .returned (.bool (fatR r)) ∧ Below w.heap.size w w' := by
  have HF := Lib.hid (fats_any v r w h)
  obtain ⟨A, c, rfl, _, _, _⟩ := h.open_
  obtain ⟨q1, hq1⟩ : ∃ q1, decide ((40 : Int) < (r.length : Int)) = q1 := ⟨_, rfl⟩
  obtain ⟨q2, hq2⟩ : ∃ q2, r.any fatB = q2 := ⟨_, rfl⟩
  have HE : Hid (fatR r = (q1 || q2)) := by
    show _ = _
    unfold fatR
    rw [← hq1, hq2]
    congr 1
    exact decide_eq_decide.2 (by omega)
  rw [hq2] at HF
  clear h hq2
  cases q1
  · go_enter Tryz.func37, Tryz.ntmps37
    go_wp2_with fail
    (with_reducible refine HF.out.mono ?_)
    rintro _ w1 ⟨rfl, hb⟩
    have HB := Lib.hid hb
    clear hb
    go_wp2_with fail
    go_ret
    exact ⟨ret_bool (by rw [HE.out]; rfl), HB.out⟩
  · go_enter Tryz.func37, Tryz.ntmps37
    go_wp2_with fail
    go_ret
    exact ⟨ret_bool (by rw [HE.out]; rfl), Below.refl _ _⟩
set_option maxHeartbeats 1000000 in
theorem wide_any (v : Value) (rows : List (List Bt)) (w : World) (h : SlSS (Lt w.heap.size) w v rows) :
    Calls Tryz.prog 11 #[v] w fun e w' => e = .returned (.bool (wideB rows)) ∧ Below w.heap.size w w' := by
  have hf : AsksF 37 #[] RStrs w rows fatR := by
    intro x u W hx hr hb
    obtain ⟨v', h1, h2⟩ := hr
    injection h1 with h1
    subst h1
    exact fatR_any u x W (h2.now hb)
  have HC := Lib.hid (contFR 37 #[] enters_fatR v rows fatR w h hf)
  obtain ⟨A, c, rfl, _, _, _⟩ := h.open_
  obtain ⟨q1, hq1⟩ : ∃ q1, decide ((60 : Int) < (rows.length : Int)) = q1 := ⟨_, rfl⟩
  obtain ⟨q2, hq2⟩ : ∃ q2, decide ((rows.length : Int) ≤ 2001) = q2 := ⟨_, rfl⟩
  obtain ⟨q3, hq3⟩ : ∃ q3, decide ((3000 : Int) < (rows.length : Int)) = q3 := ⟨_, rfl⟩
  obtain ⟨q4, hq4⟩ : ∃ q4, rows.any fatR = q4 := ⟨_, rfl⟩
  have HE : Hid (wideB rows = (((q1 && q2) || q3) || q4)) := by
    show _ = _
    unfold wideB manyB
    rw [← hq1, ← hq2, ← hq3, hq4]
    congr 2
    · congr 1
      · exact decide_eq_decide.2 (by omega)
      · exact decide_eq_decide.2 (by omega)
    · exact decide_eq_decide.2 (by omega)
  rw [hq4] at HC
  clear h hf hq4
  cases q1 <;> cases q2 <;> cases q3
  all_goals
    go_enter Tryz.func11, Tryz.ntmps11
    go_wp2_with fail
    first
      | (go_ret
         exact ⟨ret_bool (by rw [HE.out]; rfl), Below.refl _ _⟩)
      | ((with_reducible refine HC.out.mono ?_)
         rintro _ w1 ⟨rfl, hb⟩
         have HB := Lib.hid hb
         clear hb
         go_wp2_with fail
         go_ret
         exact ⟨ret_bool (by rw [HE.out]; rfl), HB.out⟩)
end Go.Proofs.YtoalecalahkblaaGreatDoor

set_option linter.all false
namespace Go.Proofs.YtoalecalahkblaaGreatDoor
open Go.RowKit
end Go.Proofs.YtoalecalahkblaaGreatDoor
