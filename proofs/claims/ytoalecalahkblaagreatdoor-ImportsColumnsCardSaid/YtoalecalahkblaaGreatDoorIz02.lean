/- Texts of this seat, merged. -/
import Derived.Test.YtoalecalahkblaaGreatDoorIy24
import Derived.Test.YtoalecalahkblaaGreatDoorIy13
import Derived.Test.YtoalecalahkblaaGreatDoorIy11
import Derived.Test.YtoalecalahkblaaGreatDoorIy07
import Derived.StillTailTactics
import Derived.RegionTactic
import Derived.Deep.CutRange
import Derived.Deep.CutBlock
import Derived.Test.YtoalecalahkblaaGreatDoorProg
import Derived.Outline
import Derived.Shelf.Abstract
import Derived.Test.YtoalecalahkblaaGreatDoorIy06
import Derived.Test.YtoalecalahkblaaGreatDoorIy03
import Derived.Test.YtoalecalahkblaaGreatDoorIy02
import Derived.Maps.AppendAt
import Derived.Deep.AppendLies
import Derived.OwnWalk
import Derived.Test.YtoalecalahkblaaGreatDoorIy01
import Derived.WalkKit
import Derived.WalkSpells
import Derived.WalkLawsBesides
import Derived.Lib.Hide
import Derived.Deep.Draws
import Derived.Deep.OwnRows
import Derived.Deep.Light
import Derived.Test.YtoalecalahkblaaGreatDoorIy05
import Derived.Shelf.Strings.Builder1
import Derived.Shelf.Strings.Builder2
import Derived.Shelf.Small.Bits
import Derived.Shelf.Small.Strs
import Derived.Shelf.Small.Wraps
import Derived.Shelf.Strings.BuilderF
import Derived.Shelf.Strings.BuilderK
import Derived.Shelf.Strings.Builder2Cap
import Derived.Shelf.Strconv.Atoi
import Derived.Shelf.Strconv.Itoa0
import Derived.Shelf.Strconv.Itoa1
import Derived.Shelf.LaysM
import Derived.Shelf.Strconv.Itoa2
import Derived.Shelf.Strconv.Itoa3
import Derived.Shelf.Strconv.AtoiErrFast
import Derived.Shelf.Strconv.ParseIntEmpty
import Derived.Shelf.Strconv.AtoiFail
import Derived.Shelf.Strconv.Clone
import Derived.Shelf.Strconv.SyntaxError
import Derived.Shelf.LaysC
import Derived.Shelf.Strconv.ToError
import Derived.Shelf.Strconv.Lower
import Derived.Shelf.Strconv.ParseUint10
import Derived.Shelf.Strconv.ParseUint10Empty
import Derived.Shelf.Strconv.ParseUint10Any
import Derived.Shelf.Strconv.ParseInt10
import Derived.Shelf.Strconv.AtoiLong
import Derived.Shelf.Strconv.AtoiInnerAll
import Derived.Shelf.Strconv.RangeError
import Derived.Shelf.Strconv.ToErrorRange
import Derived.Shelf.Strconv.AtoiAll
import Derived.Shelf.Strconv.ErrVarAll
import Derived.Shelf.Strings.Search1
import Derived.Shelf.Strings.Search2
import Derived.Shelf.Strings.Search3
import Derived.Shelf.Strings.Count
import Derived.Shelf.Strings.Shaped
import Derived.Shelf.Sort.Plain
import Derived.Shelf.Strings.Prefix
import Derived.Shelf.Strings.Split
import Derived.Shelf.Strings.Replace
import Derived.Shelf.Strings.SplitShaped
import Derived.Shelf.Unicode.DecodeSlow
import Derived.Shelf.Strings.BuilderCap
import Derived.Shelf.Slices.Turned
import Derived.Ground.Names2Prog
import Derived.Shelf.Slices.Clone
import Derived.Shelf.Slices.CompactS
import Derived.Shelf.Slices.SearchI
import Derived.Shelf.Slices.Cells
import Derived.Shelf.Slices.In.SortNone
import Derived.Ground.SlgnProg
import Derived.Shelf.SlicesE.Compact
import Derived.Shelf.SlicesE.Clone
import Derived.Ground.SlgfProg
import Derived.Shelf.SlicesE.IndexFunc
import Derived.Shelf.SlicesE.DeleteFunc
import Derived.Test.YtoalecalahkblaaGreatDoorIy12
import Derived.Lib.AtoiErrMem
import Derived.Shelf.SlSortCmp.WholeK
import Derived.Shelf.SlSortCmp.NoneTotal
import Derived.Shelf.SlSortCmp.InsertionK
import Derived.Ground.SlsfProg
import Derived.Sort.WalkA
import Derived.Sort.LotA
import Derived.Lib.SlicesCompact
import Derived.Laws.IdiomStrings
import Derived.Test.YtoalecalahkblaaGreatDoorIy04
import Derived.Deep.QuietTactic
import Derived.BigQuiet
import Derived.Lib.AppendStr
import Derived.Lib.OwnKind
import Derived.Lib.OthersKept
import Derived.Lib.UnsafeStr
import Derived.Laws.BytesString
import Derived.Test.YtoalecalahkblaaGreatDoorIy09
import Derived.Orders
import Derived.Deep.Quiet
import Derived.StillTail
import Derived.Deep.RegionHeld
import Derived.Deep.RegionHeld3
import Derived.Test.YtoalecalahkblaaGreatDoorIy16
import Derived.Lib.Replace
import Derived.Lib.IndexLaws
import Derived.Lib.Builder
import Derived.Lib.FrozenHead2
import Derived.Laws.Externs
import Derived.Laws.StructEq
import Derived.Laws.MakeOwn
import Derived.Laws.Entries
import Derived.Test.YtoalecalahkblaaGreatDoorIy08
import Derived.Laws.Runes
import Derived.Laws.Concat
import Derived.Lib.ItoaNum
import Derived.Lib.ItoaMem
import Derived.Lib.AtoiTie
import Derived.Test.YtoalecalahkblaaGreatDoorIy17
import Derived.Sort.OwnSorted
import Derived.Lib.Bytes
import Derived.Lib.OwnBridge
import Derived.Test.YtoalecalahkblaaGreatDoorIy22
import Derived.Test.YtoalecalahkblaaGreatDoorIy19
import Derived.Test.YtoalecalahkblaaGreatDoorIy18
import Derived.Lib.Strings
import Derived.Test.YtoalecalahkblaaGreatDoorIy14
import Derived.Test.YtoalecalahkblaaGreatDoorIz01
set_option linter.all false
set_option linter.all false
namespace Go.Proofs.YtoalecalahkblaaGreatDoor
open Go.RowKit
end Go.Proofs.YtoalecalahkblaaGreatDoor

set_option linter.all false
namespace Go.Proofs.YtoalecalahkblaaGreatDoor
open Go.RowKit
theorem small_of {rows : List (List Bt)} (h : wideB rows = false) : SmallT rows := by
  unfold wideB at h
  rw [Bool.or_eq_false_iff] at h
  obtain ⟨h1, h2⟩ := h
  constructor
  · unfold manyB at h1
    rw [Bool.or_eq_false_iff] at h1
    have := of_decide_eq_false h1.2
    omega
  · intro r hr
    have h3 := List.any_eq_false.1 h2 r hr
    have h3 : fatR r = false := by simpa using h3
    unfold fatR at h3
    rw [Bool.or_eq_false_iff] at h3
    constructor
    · have := of_decide_eq_false h3.1
      omega
    · intro b hb
      have h4 := List.any_eq_false.1 h3.2 b hb
      have h4 : fatB b = false := by simpa using h4
      have := of_decide_eq_false h4
      omega
end Go.Proofs.YtoalecalahkblaaGreatDoor

namespace Go.Proofs.YtoalecalahkblaaGreatDoor
open Go.RowKit
section
variable {α : Type} {f : α → Value} {w0 W W' : World} {base t g cap : Nat} {r0 : List α} {I : Nat → Prop}
end
theorem wpM_moveG {P : Program} {o : Oper} {a : Act} {w : World} {K : Act → World → Prop} {Q : Exit → Act → World → Prop} (x : Operand) (ho : o.op = .move x) (h : K (a.put o.dst (a.eval x)) w) : o.wp P a w K Q := by
  unfold Oper.wp execOp
  simp only [ho]
  exact h
end Go.Proofs.YtoalecalahkblaaGreatDoor

namespace Go.Proofs.YtoalecalahkblaaGreatDoor
open Go.RowKit
def decS (n : Int) : ByteArray := ⟨(Lib.itoa n).toArray⟩
end Go.Proofs.YtoalecalahkblaaGreatDoor

set_option linter.all false
namespace Go.Proofs.YtoalecalahkblaaGreatDoor
open Go.RowKit
theorem column_ref (k : Int) (w : World) : Calls Tryz.prog 65 #[.int .i64 k] w fun e w' => e = .returned (.bool (decide (0 ≤ k) && decide (k < 40))) ∧ w = w' := by
  by_cases h : 0 ≤ k
  · go_enter Tryz.func65, Tryz.ntmps65
    go_wp2_with fail
    go_ret
    exact ⟨by rw [decide_eq_true h]; rfl, rfl⟩
  · go_enter Tryz.func65, Tryz.ntmps65
    go_wp2_with fail
    go_ret
    exact ⟨by rw [decide_eq_false (show ¬ 0 ≤ k by omega)]; rfl, rfl⟩
def col1 (m : Mp) : List Int := [m.cas, m.act] ++ (if 0 ≤ m.res then [m.res] else [])
def col2 (m : Mp) : List Int := col1 m ++ (if 0 ≤ m.life then [m.life] else [])
def colsR (m : Mp) : List Int := (col2 m ++ [m.time]) ++ m.data
def colRF (B P : Nat) (m : Mp) (DV : Value) : Nat → Value → World → Prop
  | 0, u, W => OwnZ W B u (col2 m)
  | 1, u, _ => u = .pointer (some ⟨P, 4, none⟩)
  | 2, u, _ => u = .int .i64 m.time
  | 3, u, W => ∃ p : Nat, u = .slice (some ⟨p, 0, none⟩) 1 1 ∧ Blk W p 3 #[.int .i64 m.time]
  | 4, u, W => OwnZ W B u (col2 m ++ [m.time])
  | 5, u, _ => u = .pointer (some ⟨P, 5, none⟩)
  | 6, u, _ => u = DV
  | 7, u, W => OwnZ W B u (colsR m)
  | 8, u, W => OwnZ W B u (colsR m)
  | _, _, _ => True
def colD (j k : Nat) : Bool := ((j == 0 || j == 3) && (k == 4 || k == 7)) || (j == 4 && k == 7)
theorem colKeep {B P : Nat} {m : Mp} {DV : Value} {W W' : World} (hb : Below W.heap.size W W') : ∀ j u, colRF B P m DV j u W → colRF B P m DV j u W' := by
  intro j u h
  match j, h with
  | 0, h => exact own_now h hb
  | 1, h => exact h
  | 2, h => exact h
  | 3, h => obtain ⟨p, h1, h2⟩ := h; exact ⟨p, h1, h2.now hb⟩
  | 4, h => exact own_now h hb
  | 5, h => exact h
  | 6, h => exact h
  | 7, h => exact own_now h hb
  | 8, h => exact own_now h hb
  | n + 9, h => exact trivial
theorem ownZ_lit (w : World) (zs : List Int) (hz : zs.length ≤ maxLen) : OwnZ (w.alloc (.cells (zs.map (Value.int .i64)).toArray 3)) w.heap.size (.slice (some ⟨w.heap.size, 0, none⟩) zs.length zs.length) zs := by
  have := World.ownsRow_lit (base := w.heap.size) (e := 3) (size := 1) w (zs.map (Value.int .i64)).toArray zs.length (Nat.le_refl _) hz (by simp)
  exact this
theorem bs1 (z : Int) (W : World) : (Instr.buildSlice 31 1 #[(0, .int .i64 z)]).run Tryz.prog W = .ok (.slice (some ⟨W.heap.size, 0, none⟩) 1 1) (W.alloc (.cells #[.int .i64 z] 3)) := by kernel_rfl
theorem slI_fit {D : Nat → Prop} {w : World} {v : Value} {zs : List Int} (h : SlI D w v zs) : ∀ k ∈ zs, Fit k := by
  intro k hk
  obtain ⟨i, hi, rfl⟩ := List.mem_iff_getElem.1 hk
  obtain ⟨A, c, rfl, _, _, h⟩ := h.open_
  obtain ⟨_, _, z, _, _, hx, hf, _⟩ := SlI.at_ h hi
  rw [List.getElem?_eq_getElem hi] at hx
  injection hx with hx
  rw [hx]; exact hf
theorem ownZ_open {base : Nat} {w : World} {v : Value} {l : List Int} (h : OwnZ w base v l) : ∃ A c, v = .slice A l.length c := by
  rcases h.2 with ⟨rfl, h0⟩ | ⟨g, cap, cur, rfl, _⟩
  · rw [h0]; exact ⟨none, 0, rfl⟩
  · exact ⟨_, _, rfl⟩
theorem slI_one {W : World} {p : Nat} {z : Int} (h : Blk W p 3 #[.int .i64 z]) (hf : Fit z) : SlI (Lt W.heap.size) W (.slice (some ⟨p, 0, none⟩) 1 1) [z] :=
  Sl.ofBlk (xs := [z]) (cs := [.int .i64 z]) h (by unfold maxLen; simp) fun i x hx => by
    match i, hx with
    | 0, hx =>
      injection hx with hx
      subst hx
      exact ⟨[_], rfl, fun j u hu => by simpa using hu, rfl, hf⟩
    | i + 1, hx => simp at hx
set_option maxHeartbeats 4000000 in
set_option maxRecDepth 100000 in
theorem columns_ref (u : Value) (m : Mp) (w : World) (h : IsMp (Lt w.heap.size) w u m) (hb : m.data.length ≤ 1000000) :
    Calls Tryz.prog 64 #[u] w fun e w' => ∃ v, e = .returned v ∧ SlI (Lt w'.heap.size) w' v (colsR m) ∧ Below w.heap.size w w' := by
  obtain ⟨dv, kv, rfl, hfm, hd, hk⟩ := h
  have HDL := Lib.hid hb
  have HFM := Lib.hid hfm
  obtain ⟨Ad, cd, rfl, _, _, hd⟩ := hd.open_
  obtain ⟨Ak, ck, rfl, _, _, hk⟩ := hk.open_
  obtain ⟨z, hz⟩ : ∃ z, (m.sep.toNat : Int) = z := ⟨_, rfl⟩
  have HMD := Lib.hid hd
  unfold mpV
  rw [hz]
  clear hfm hd hk hz hb
  have HB1 := Lib.hid (bone w (.cells #[.int .i64 m.cas, .int .i64 m.act, .int .i64 m.res, .int .i64 m.life, .int .i64 m.time, .slice Ad m.data.length cd, .slice Ak m.kinds.length ck, .int .u8 z] 33))
  have HM1 := Lib.hid (Blk.new w 33 #[.int .i64 m.cas, .int .i64 m.act, .int .i64 m.res, .int .i64 m.life, .int .i64 m.time, .slice Ad m.data.length cd, .slice Ak m.kinds.length ck, .int .u8 z])
  go_enter Tryz.func64, Tryz.ntmps64
  go_upto_region 1 with fail
  obtain ⟨w1, hw1⟩ : ∃ w1, w.alloc (.cells #[.int .i64 m.cas, .int .i64 m.act, .int .i64 m.res, .int .i64 m.life, .int .i64 m.time, .slice Ad m.data.length cd, .slice Ak m.kinds.length ck, .int .u8 z] 33) = w1 := ⟨_, rfl⟩
  rw [hw1] at HB1 HM1 ⊢
  clear hw1
  obtain ⟨c0, c1, c2, c3, c4, c5, c6, c7⟩ := HM1.out.c8m
  have hb2 := bone w1 (.cells #[.int .i64 m.cas, .int .i64 m.act] 3)
  have ho2 := ownZ_lit w1 [m.cas, m.act] (by unfold maxLen; simp)
  go_upto_region 2 with fail
  obtain ⟨w2, hw2⟩ : ∃ w2, w1.alloc (.cells #[.int .i64 m.cas, .int .i64 m.act] 3) = w2 := ⟨_, rfl⟩
  have hw2' : w1.alloc (.cells ([m.cas, m.act].map (Value.int .i64)).toArray 3) = w2 := hw2
  rw [hw2'] at ho2
  rw [hw2] at hb2 ⊢
  have HO2 := Lib.hid ho2
  have HB2 := Lib.hid hb2
  clear hw2 hw2' ho2 c0 c1 c2 c3 c4 c5 c6 c7
  obtain ⟨c0, c1, c2, c3, c4, c5, c6, c7⟩ := (HM1.out.now hb2).c8m
  clear hb2
  obtain ⟨qr, hqr⟩ : ∃ qr, decide (0 ≤ m.res) = qr := ⟨_, rfl⟩
  go_upto_if 11 with fail
  have HQR := Lib.hid hqr
  clear hqr
  go_cut [3] from 12 to 16 (fun v W => OwnZ W w1.heap.size v (col1 m) ∧ Below w1.heap.size w1 W)
  case first =>
    cases qr with
    | false =>
      have HC : Hid (col1 m = [m.cas, m.act]) := by show _ = _; unfold col1; rw [if_neg (of_decide_eq_false HQR.out)]; rfl
      go_wp2_with fail
      go_meet
      rw [HC.out]
      exact ⟨HO2.out, HB2.out⟩
    | true =>
      have HC : Hid (col1 m = [m.cas, m.act] ++ [m.res]) := by show _ = _; unfold col1; rw [if_pos (of_decide_eq_true HQR.out)]
      have HS := Lib.hid HB2.out.size
      go_wp2_with (at_builtin; refine wpList_push appInts rfl (.tmp 12) (.tmp 15) rfl w2 [.int .i64 m.res] rfl (fun u hu => by simp at hu; subst hu; rfl) _ 2 ([m.cas, m.act].map (Value.int .i64)) rfl HO2.out rfl (by omega) HS.out ?_; intro v' w' hown hgr hat)
      have hbg := HB2.out.trans (below_of_grown hgr HS.out (fun g hg => (World.ownsRow.lt HO2.out g hg).1))
      go_meet
      rw [HC.out]
      exact ⟨hown, hbg⟩
  case rest =>
  obtain ⟨hown, hbw⟩ := hcut
  obtain ⟨w3, hw3⟩ : ∃ w3, wc = w3 := ⟨_, rfl⟩
  rw [hw3] at hown hbw ⊢
  have HO3 := Lib.hid hown
  have HB3 := Lib.hid hbw
  clear hw3 hown HO2 HB2 HQR c0 c1 c2 c3 c4 c5 c6 c7
  obtain ⟨c0, c1, c2, c3, c4, c5, c6, c7⟩ := (HM1.out.now hbw).c8m
  clear hbw
  have HL3 : Hid ((col1 m).length ≤ 3) := by show _ ≤ _; unfold col1; split <;> simp
  obtain ⟨qr, hqr⟩ : ∃ qr, decide (0 ≤ m.life) = qr := ⟨_, rfl⟩
  go_upto_if 19 with fail
  have HQR := Lib.hid hqr
  clear hqr
  go_cut [3] from 20 to 24 (fun v W => OwnZ W w1.heap.size v (col2 m) ∧ Below w1.heap.size w1 W)
  case first =>
    cases qr with
    | false =>
      have HC : Hid (col2 m = col1 m) := by show _ = _; unfold col2; rw [if_neg (of_decide_eq_false HQR.out), List.append_nil]
      go_wp2_with fail
      go_meet
      rw [HC.out]
      exact ⟨HO3.out, HB3.out⟩
    | true =>
      have HC : Hid (col2 m = col1 m ++ [m.life]) := by show _ = _; unfold col2; rw [if_pos (of_decide_eq_true HQR.out)]
      have HS := Lib.hid HB3.out.size
      go_wp2_with (at_builtin; refine wpList_push appInts rfl (.tmp 20) (.tmp 23) rfl w3 [.int .i64 m.life] rfl (fun u hu => by simp at hu; subst hu; rfl) _ (col1 m).length ((col1 m).map (Value.int .i64)) rfl HO3.out rfl (by have := HL3.out; omega) HS.out ?_; intro v' w' hown hgr hat)
      have hbg := HB3.out.trans (below_of_grown hgr HS.out (fun g hg => (World.ownsRow.lt HO3.out g hg).1))
      go_meet
      rw [HC.out]
      refine ⟨?_, hbg⟩
      unfold OwnZ
      rw [List.length_append, List.map_append]
      exact hown
  case rest =>
  obtain ⟨hown, hbw⟩ := hcut
  obtain ⟨w4, hw4⟩ : ∃ w4, wc = w4 := ⟨_, rfl⟩
  rw [hw4] at hown hbw ⊢
  obtain ⟨A3, k3, e3⟩ := ownZ_open hown
  subst e3
  have HO4 := Lib.hid hown
  have HB4 := Lib.hid hbw
  have HL4 : Hid ((col2 m).length ≤ 4) := by show _ ≤ _; unfold col2; have := HL3.out; rw [List.length_append]; split <;> simp <;> omega
  have HFA : Hid (∀ k ∈ colsR m, Fit k) := Lib.hid fun k hk => by
    unfold colsR col2 col1 at hk
    simp only [List.mem_append, List.mem_cons, List.not_mem_nil, or_false] at hk
    rcases hk with ((((h | h) | h) | h) | h) | h
    · rw [h]; exact HFM.out.cas
    · rw [h]; exact HFM.out.act
    · split at h
      · rw [List.mem_singleton] at h; rw [h]; exact HFM.out.res
      · simp at h
    · split at h
      · rw [List.mem_singleton] at h; rw [h]; exact HFM.out.life
      · simp at h
    · rw [h]; exact HFM.out.time
    · exact slI_fit HMD.out k h
  clear hw4 hown hbw HO3 HB3 HQR c0 c1 c2 c3 c4 c5 c6 c7 HL3
  go_upto_region 6 with fail
  go_cut [2] from 2 to 32 (fun v W => OwnZ W w1.heap.size v (colsR m) ∧ Below w1.heap.size w1 W)
  case first =>
    rename_i J1 K1 hJ hK
    refine wp_region_rel3 (by kernel_rfl) (by kernel_rfl) (by kernel_rfl) (fun U W => Below w1.heap.size w1 W ∧ (¬ U 4 → OwnZ W w1.heap.size (.slice A3 (col2 m).length k3) (col2 m))) (colRF w1.heap.size w.heap.size m (.slice Ad m.data.length cd)) colD ?h0 ?hstep ?hend ?hall
    case hall => exact hall_of (by kernel_rfl)
    case h0 => exact ⟨HB4.out.drew, fun _ => own_now HO4.out (Below.refl _ _).drew⟩
    case hstep =>
      intro i o ho listed ac W hsh hi hk hRR hM
      obtain ⟨hR, hRO⟩ := hRR
      obtain ⟨c0, c1, c2, c3, c4, c5, c6, c7⟩ := (HM1.out.now hR).c8m
      have nd : ∀ j : Nat, (j == 0 || j == 3 || j == 4) = false → ∀ k, colD j k = true → ¬ Up listed k := fun j hj k h => by
        unfold colD at h
        simp only [Bool.or_eq_false_iff] at hj
        rw [hj.1.1, hj.1.2, hj.2] at h
        cases h
      have h74 : Up listed 7 → Up listed 4 := fun h => hsh.up h (by kernel_rfl)
      match i, ho with
      | 0, ho =>
        injection ho with ho
        subst ho
        have e0 : ac.eval (.tmp 3) = .slice A3 (col2 m).length k3 := hk.same (s := 3) (by kernel_rfl)
        have h4 : OwnZ W w1.heap.size (.slice A3 (col2 m).length k3) (col2 m) := hRO (fun h => ready_not hi (hsh.up h (by kernel_rfl)))
        exact wpM_moveG _ rfl ⟨_, rfl, ⟨hR, fun h => hRO fun h' => h (.inr h')⟩, fun u hu => by rw [hu (by simp), e0]; exact h4, fun j _ _ _ _ u h => h⟩
      | 1, ho =>
        injection ho with ho
        subst ho
        have e0 : ac.eval (.tmp 1) = .pointer (some ⟨w.heap.size, 0, none⟩) := hk.same (s := 1) (by kernel_rfl)
        exact wpM_run (.pointer (some ⟨w.heap.size, 4, none⟩)) W (by simp only [execOp, e0]; simp [go_sem]) ⟨_, rfl, ⟨hR, fun h => hRO fun h' => h (.inr h')⟩, fun u hu => hu (by simp), fun j _ _ _ _ u h => h⟩
      | 2, ho =>
        injection ho with ho
        subst ho
        have e0 : ac.eval (.tmp 26) = .pointer (some ⟨w.heap.size, 4, none⟩) := hM 1 (by decide) (ready_up hi (by kernel_rfl)) (nd 1 rfl)
        exact wpM_run (.int .i64 m.time) W (by simp only [execOp, e0]; simp [go_sem, c4]) ⟨_, rfl, ⟨hR, fun h => hRO fun h' => h (.inr h')⟩, fun u hu => hu (by simp), fun j _ _ _ _ u h => h⟩
      | 3, ho =>
        injection ho with ho
        subst ho
        have e0 : ac.eval (.tmp 27) = .int .i64 m.time := hM 2 (by decide) (ready_up hi (by kernel_rfl)) (nd 2 rfl)
        have hbn := bone W (.cells #[.int .i64 m.time] 3)
        exact wpM_slice _ _ _ _ _ _ rfl (by simp [e0]) (bs1 m.time W) ⟨_, rfl, ⟨hR.trans (hbn.mono hR.size), fun h => own_now (hRO fun h' => h (.inr h')) hbn⟩, fun u hu => ⟨_, hu (by simp), Blk.new _ _ _⟩, fun j _ _ _ _ u h => colKeep hbn j u h⟩
      | 4, ho =>
        injection ho with ho
        subst ho
        have h4 := ready_not hi
        have nd0 : ∀ j, j = 0 ∨ j = 3 → ∀ k, colD j k = true → ¬ Up listed k := fun j hj k h => by
          unfold colD at h
          have hk' : k = 4 ∨ k = 7 := by
            rcases hj with rfl | rfl <;> simpa using h
          rcases hk' with rfl | rfl
          · exact h4
          · exact fun h7 => h4 (h74 h7)
        have e0 : OwnZ W w1.heap.size (ac.eval (.tmp 25)) (col2 m) := hM 0 (by decide) (ready_up hi (by kernel_rfl)) (nd0 0 (.inl rfl))
        obtain ⟨pb, e1, hBp⟩ := hM 3 (by decide) (ready_up hi (by kernel_rfl)) (nd0 3 (.inr rfl))
        have e1 : ac.eval (.tmp 28) = .slice (some ⟨pb, 0, none⟩) 1 1 := e1
        refine wp_appendAll appInts (.tmp 25) (.tmp 28) rfl W _ (col2 m).length ((col2 m).map (Value.int .i64)) rfl e0 _ [m.time] (Value.int .i64) e1 (slI_one hBp HFM.out.time) (fun y c h => by injection h.1 with h1 _) (fun y => rfl) (by have := HL4.out; simp; omega) hR.size ?_
        intro v' W' hown hgr hat
        have hbW : Below w1.heap.size W W' := below_of_grown hgr hR.size (fun g hg => (World.ownsRow.lt e0 g hg).1)
        refine ⟨_, rfl, ⟨hR.trans hbW, fun h => absurd (.inl rfl) h⟩, fun u hu => ?_, fun j hj hji hu hd u h => ?_⟩
        · rw [hu (by simp)]
          show OwnZ W' w1.heap.size v' (col2 m ++ [m.time])
          unfold OwnZ
          rw [List.length_append, List.map_append]
          exact hown
        · match j, hj, hji, hd, h with
          | 0, _, _, hd, _ => exact absurd hd (by decide)
          | 1, _, _, _, h => exact h
          | 2, _, _, _, h => exact h
          | 3, _, _, hd, _ => exact absurd hd (by decide)
          | 4, _, hji, _, _ => exact absurd rfl hji
          | 5, _, _, _, h => exact h
          | 6, _, _, _, h => exact h
          | 7, _, _, _, _ => exact absurd (h74 hu) h4
          | 8, _, _, _, _ => exact absurd (h74 (hsh.up hu (by kernel_rfl))) h4
          | n + 9, hj, _, _, _ => exact absurd hj (by simp)
      | 5, ho =>
        injection ho with ho
        subst ho
        have e0 : ac.eval (.tmp 1) = .pointer (some ⟨w.heap.size, 0, none⟩) := hk.same (s := 1) (by kernel_rfl)
        exact wpM_run (.pointer (some ⟨w.heap.size, 5, none⟩)) W (by simp only [execOp, e0]; simp [go_sem]) ⟨_, rfl, ⟨hR, fun h => hRO fun h' => h (.inr h')⟩, fun u hu => hu (by simp), fun j _ _ _ _ u h => h⟩
      | 6, ho =>
        injection ho with ho
        subst ho
        have e0 : ac.eval (.tmp 30) = .pointer (some ⟨w.heap.size, 5, none⟩) := hM 5 (by decide) (ready_up hi (by kernel_rfl)) (nd 5 rfl)
        exact wpM_run (.slice Ad m.data.length cd) W (by simp only [execOp, e0]; simp [go_sem, c5]) ⟨_, rfl, ⟨hR, fun h => hRO fun h' => h (.inr h')⟩, fun u hu => hu (by simp), fun j _ _ _ _ u h => h⟩
      | 7, ho =>
        injection ho with ho
        subst ho
        have h7 := ready_not hi
        have e0 : OwnZ W w1.heap.size (ac.eval (.tmp 29)) (col2 m ++ [m.time]) := hM 4 (by decide) (ready_up hi (by kernel_rfl)) (fun k h => by
          have hk' : k = 7 := by simpa [colD] using h
          rw [hk']; exact h7)
        have e1 : ac.eval (.tmp 31) = .slice Ad m.data.length cd := hM 6 (by decide) (ready_up hi (by kernel_rfl)) (nd 6 rfl)
        refine wp_appendAll appInts (.tmp 29) (.tmp 31) rfl W _ (col2 m ++ [m.time]).length ((col2 m ++ [m.time]).map (Value.int .i64)) rfl e0 _ m.data (Value.int .i64) e1 (HMD.out.now (bthen HB1.out hR)) (fun y c h => by injection h.1 with h1 _) (fun y => rfl) (by have := HL4.out; have := HDL.out; simp; omega) hR.size ?_
        intro v' W' hown hgr hat
        have hbW : Below w1.heap.size W W' := below_of_grown hgr hR.size (fun g hg => (World.ownsRow.lt e0 g hg).1)
        have u4 : Up listed 4 := ready_up hi (by kernel_rfl)
        refine ⟨_, rfl, ⟨hR.trans hbW, fun h => absurd (.inr u4) h⟩, fun u hu => ?_, fun j hj hji hu hd u h => ?_⟩
        · rw [hu (by simp)]
          show OwnZ W' w1.heap.size v' (colsR m)
          unfold OwnZ colsR
          rw [List.length_append, List.map_append]
          exact hown
        · match j, hj, hji, hd, h with
          | 0, _, _, hd, _ => exact absurd hd (by decide)
          | 1, _, _, _, h => exact h
          | 2, _, _, _, h => exact h
          | 3, _, _, hd, _ => exact absurd hd (by decide)
          | 4, _, _, hd, _ => exact absurd hd (by decide)
          | 5, _, _, _, h => exact h
          | 6, _, _, _, h => exact h
          | 7, _, hji, _, _ => exact absurd rfl hji
          | 8, _, _, _, _ => exact absurd (hsh.up hu (by kernel_rfl)) h7
          | n + 9, hj, _, _, _ => exact absurd hj (by simp)
      | 8, ho =>
        injection ho with ho
        subst ho
        have e0 : OwnZ W w1.heap.size (ac.eval (.tmp 32)) (colsR m) := hM 7 (by decide) (ready_up hi (by kernel_rfl)) (nd 7 rfl)
        have u4 : Up listed 4 := h74 (ready_up hi (by kernel_rfl))
        exact wpM_assign _ _ rfl rfl ⟨_, rfl, ⟨hR, fun h => absurd (.inr u4) h⟩, fun u hu => by rw [hu (by simp)]; exact e0, fun j _ _ _ _ u h => h⟩
      | n + 9, ho => simp at ho
    case hend =>
      intro ac W U hk hR hM
      have x8 : OwnZ W w1.heap.size (Act.slot ac 2) (colsR m) := hM 8 (by decide) (fun k => rfl)
      refine hK _ _ ?_
      obtain ⟨v2, hv2⟩ : ∃ v2, Act.slot ac 2 = v2 := ⟨_, rfl⟩
      rw [hv2] at x8
      rw [hk.form (by kernel_rfl)]
      simp only [putsAll, Option.getD_some, Act.put, List.setIfInBounds_toArray, List.set_cons_zero, List.set_cons_succ, hv2]
      go_meet
      exact ⟨x8, hR.1⟩
  case rest =>
  obtain ⟨hown, hbw⟩ := hcut
  have HOW := Lib.hid hown
  have HBW := Lib.hid hbw
  clear hown hbw
  go_wp2_with fail
  go_ret
  exact ⟨_, rfl, SlI.of_own HOW.out HFA.out, HB1.out.trans (HBW.out.mono HB1.out.size)⟩
end Go.Proofs.YtoalecalahkblaaGreatDoor

set_option linter.all false
namespace Go.Proofs.YtoalecalahkblaaGreatDoor
open Go.RowKit
def colOk (k : Int) : Bool := decide (0 ≤ k) && decide (k < 40)
def badM (m : Mp) : Prop := isSep m.sep = false ∨ m.res < -1 ∨ m.life < -1 ∨ 8 < m.data.length ∨ m.kinds.length ≠ m.data.length
theorem colsR_perm {m : Mp} (h1 : ¬ m.res < -1) (h2 : ¬ m.life < -1) : (colsR m).Perm (colsB m) := by
  have e1 : (if 0 ≤ m.res then [m.res] else []) = (if m.res = -1 then [] else [m.res]) := by
    by_cases h : m.res = -1
    · rw [if_pos h, if_neg (by omega)]
    · rw [if_neg h, if_pos (by omega)]
  have e2 : (if 0 ≤ m.life then [m.life] else []) = (if m.life = -1 then [] else [m.life]) := by
    by_cases h : m.life = -1
    · rw [if_pos h, if_neg (by omega)]
    · rw [if_neg h, if_pos (by omega)]
  unfold colsR col2 col1 colsB
  rw [e1, e2]
  generalize (if m.res = -1 then [] else [m.res]) = A
  generalize (if m.life = -1 then [] else [m.life]) = B
  generalize m.data = D
  show ([m.cas, m.act] ++ A ++ B ++ [m.time] ++ D).Perm ([m.cas, m.act, m.time] ++ D ++ A ++ B)
  have h1 : ([m.cas, m.act] ++ A ++ B ++ [m.time] ++ D) = [m.cas, m.act] ++ ((A ++ B) ++ ([m.time] ++ D)) := by simp
  have h2 : ([m.cas, m.act, m.time] ++ D ++ A ++ B) = [m.cas, m.act] ++ (([m.time] ++ D) ++ (A ++ B)) := by simp
  rw [h1, h2]
  exact (List.perm_append_comm).append_left _
theorem mapB_badM {m : Mp} (h : badM m) : mapB m = false := by
  rcases h with h | h | h | h | h
  · exact mapB_bad (.inl h)
  · unfold mapB
    have : (colsB m).all (fun k => decide (0 ≤ k) && decide (k < 40)) = false := by
      rw [List.all_eq_false]
      refine ⟨m.res, ?_, by simp; omega⟩
      unfold colsB
      rw [if_neg (by omega)]
      simp
    rw [this]; simp
  · unfold mapB
    have : (colsB m).all (fun k => decide (0 ≤ k) && decide (k < 40)) = false := by
      rw [List.all_eq_false]
      refine ⟨m.life, ?_, by simp; omega⟩
      unfold colsB
      rw [if_neg (show ¬ m.life = -1 by omega)]
      simp
    rw [this]; simp
  · exact mapB_bad (.inr (.inl h))
  · exact mapB_bad (.inr (.inr h))
theorem mapB_good {m : Mp} (h : ¬ badM m) : mapB m = ((colsR m).all colOk && decide (colsR m).Nodup && m.kinds.all kindB) := by
  unfold badM at h
  simp only [not_or] at h
  obtain ⟨h1, h2, h3, h4, h5⟩ := h
  have hp := colsR_perm h2 h3
  rw [mapB_eq (by simpa using h1) (by omega) (by simpa using h5)]
  have e1 : (colsB m).all (fun k => decide (0 ≤ k) && decide (k < 40)) = (colsR m).all colOk := by
    rw [Bool.eq_iff_iff, List.all_eq_true, List.all_eq_true]
    exact ⟨fun h k hk => h k (hp.mem_iff.1 hk), fun h k hk => h k (hp.mem_iff.2 hk)⟩
  have e2 : decide (colsB m).Nodup = decide (colsR m).Nodup := decide_eq_decide.2 hp.nodup_iff.symm
  rw [e1, e2]
theorem all_step {α : Type} {p : α → Bool} {xs : List α} {i : Nat} {x : α} (h : ∀ y ∈ xs.take i, p y = true) (hx : xs[i]? = some x) (hp : p x = true) : ∀ y ∈ xs.take (i + 1), p y = true := by
  intro y hy
  rw [List.take_add_one, hx] at hy
  rcases List.mem_append.1 hy with hy | hy
  · exact h y hy
  · simp at hy; rw [hy]; exact hp
theorem nodup_step {xs : List Int} {i : Nat} {x : Int} (h : (xs.take i).Nodup) (hx : xs[i]? = some x) (hp : x ∉ xs.take i) : (xs.take (i + 1)).Nodup := by
  rw [List.take_add_one, hx]
  show (xs.take i ++ [x]).Nodup
  rw [List.nodup_append]
  exact ⟨h, by simp, fun a ha b hb => by rw [List.mem_singleton] at hb; rw [hb]; exact fun e => hp (e ▸ ha)⟩
theorem nmem_step {xs : List Int} {j : Nat} {x y : Int} (h : y ∉ xs.take j) (hx : xs[j]? = some x) (hp : x ≠ y) : y ∉ xs.take (j + 1) := by
  rw [List.take_add_one, hx]
  intro hy
  rcases List.mem_append.1 hy with hy | hy
  · exact h hy
  · simp at hy; exact hp hy.symm
set_option maxHeartbeats 4000000 in
set_option maxRecDepth 100000 in
theorem valid_ref (u : Value) (m : Mp) (w : World) (h : IsMp (Lt w.heap.size) w u m) (hb : m.data.length ≤ 1000000) :
    Calls Tryz.prog 19 #[u] w fun e w' => e = .returned (.bool (mapB m)) ∧ Below w.heap.size w w' := by
  have HCR := Lib.hid (fun W hW => columns_ref u m W hW hb)
  have HMP := Lib.hid h
  have HSP := Lib.hid (separator_ref m.sep)
  obtain ⟨dv, kv, rfl, hfm, hd, hk⟩ := h
  obtain ⟨Ad, cd, rfl, _, _, hd⟩ := hd.open_
  obtain ⟨Ak, ck, rfl, _, _, hk⟩ := hk.open_
  obtain ⟨z, hz⟩ : ∃ z, (m.sep.toNat : Int) = z := ⟨_, rfl⟩
  have HMD := Lib.hid hd
  have HMK := Lib.hid hk
  unfold mpV at HCR HMP ⊢
  rw [hz] at HCR HMP HSP ⊢
  clear hfm hd hk hz hb
  have HB1 := Lib.hid (bone w (.cells #[.int .i64 m.cas, .int .i64 m.act, .int .i64 m.res, .int .i64 m.life, .int .i64 m.time, .slice Ad m.data.length cd, .slice Ak m.kinds.length ck, .int .u8 z] 33))
  have HM1 := Lib.hid (Blk.new w 33 #[.int .i64 m.cas, .int .i64 m.act, .int .i64 m.res, .int .i64 m.life, .int .i64 m.time, .slice Ad m.data.length cd, .slice Ak m.kinds.length ck, .int .u8 z])
  obtain ⟨q1, hq1⟩ : ∃ q, isSep m.sep = q := ⟨_, rfl⟩
  have HQ1 := Lib.hid hq1
  rw [hq1] at HSP
  clear hq1
  go_enter Tryz.func19, Tryz.ntmps19
  go_upto_region 1 with fail
  obtain ⟨w1, hw1⟩ : ∃ w1, w.alloc (.cells #[.int .i64 m.cas, .int .i64 m.act, .int .i64 m.res, .int .i64 m.life, .int .i64 m.time, .slice Ad m.data.length cd, .slice Ak m.kinds.length ck, .int .u8 z] 33) = w1 := ⟨_, rfl⟩
  rw [hw1] at HB1 HM1 ⊢
  clear hw1
  go_cut [35] from 7 to 35 (fun b W => ∃ q, b = .bool q ∧ (q = true ↔ badM m) ∧ w1 = W)
  case first =>
    obtain ⟨c0, c1, c2, c3, c4, c5, c6, c7⟩ := HM1.out.c8m
    have HG : Hid (∀ q : Bool, (q = true ↔ badM m) → (q = true ↔ badM m)) := Lib.hid fun _ h => h
    cases q1 with
    | false =>
      have HBD : Hid (badM m) := .inl HQ1.out
      go_wp2_with (go_at_call 50; (with_reducible refine (HSP.out _).mono ?_); rintro _ w2 ⟨rfl, rfl⟩)
      go_meet
      exact ⟨true, rfl, ⟨fun _ => HBD.out, fun _ => rfl⟩, rfl⟩
    | true =>
      by_cases h2 : m.res < -1
      · have HBD : Hid (badM m) := .inr (.inl h2)
        go_wp2_with (go_at_call 50; (with_reducible refine (HSP.out _).mono ?_); rintro _ w2 ⟨rfl, rfl⟩)
        go_meet
        exact ⟨true, rfl, ⟨fun _ => HBD.out, fun _ => rfl⟩, rfl⟩
      by_cases h3 : m.life < -1
      · have HBD : Hid (badM m) := .inr (.inr (.inl h3))
        go_wp2_with (go_at_call 50; (with_reducible refine (HSP.out _).mono ?_); rintro _ w2 ⟨rfl, rfl⟩)
        go_meet
        exact ⟨true, rfl, ⟨fun _ => HBD.out, fun _ => rfl⟩, rfl⟩
      by_cases h4 : (8 : Int) < (m.data.length : Int)
      · have HBD : Hid (badM m) := .inr (.inr (.inr (.inl (by omega))))
        go_wp2_with (go_at_call 50; (with_reducible refine (HSP.out _).mono ?_); rintro _ w2 ⟨rfl, rfl⟩)
        go_meet
        exact ⟨true, rfl, ⟨fun _ => HBD.out, fun _ => rfl⟩, rfl⟩
      by_cases h5 : m.kinds.length = m.data.length
      · have HBD : Hid (¬ badM m) := Lib.hid fun h => by
          rcases h with h | h | h | h | h
          · rw [HQ1.out] at h; cases h
          · exact h2 h
          · exact h3 h
          · exact h4 (by omega)
          · exact h h5
        have x5 : ((m.kinds.length : Int) != (m.data.length : Int)) = false := by simp [h5]
        clear h5
        go_wp2_with (go_at_call 50; (with_reducible refine (HSP.out _).mono ?_); rintro _ w2 ⟨rfl, rfl⟩)
        go_meet
        exact ⟨false, by rw [decide_eq_false (show ¬ m.res < -1 by omega), decide_eq_false (show ¬ m.life < -1 by omega), decide_eq_false (show ¬ (8 : Int) < (m.data.length : Int) by omega)]; rfl, ⟨fun h => Bool.noConfusion h, fun h => absurd h HBD.out⟩, rfl⟩
      · have HBD : Hid (badM m) := .inr (.inr (.inr (.inr h5)))
        have x5 : ((m.kinds.length : Int) != (m.data.length : Int)) = true := by simp; omega
        clear h5
        go_wp2_with (go_at_call 50; (with_reducible refine (HSP.out _).mono ?_); rintro _ w2 ⟨rfl, rfl⟩)
        go_meet
        exact ⟨true, rfl, ⟨fun _ => HBD.out, fun _ => rfl⟩, rfl⟩
  case rest =>
  obtain ⟨q, rfl, hq, rfl⟩ := hcut
  obtain ⟨c0, c1, c2, c3, c4, c5, c6, c7⟩ := HM1.out.c8m
  cases q with
  | true =>
    have HE : Hid (mapB m = false) := Lib.hid (mapB_badM (hq.1 rfl))
    clear hq
    go_wp2_with fail
    go_ret
    exact ⟨ret_bool HE.out.symm, HB1.out⟩
  | false =>
  have HE := Lib.hid (mapB_good (m := m) (fun h => by have := hq.2 h; cases this))
  have HNB : Hid (¬ badM m) := Lib.hid fun h => by have := hq.2 h; cases this
  have HC1 := Lib.hid (HCR.out w1 (HMP.out.now HB1.out))
  clear hq
  go_wp2_with fail
  (with_reducible refine HC1.out.mono ?_)
  rintro _ w2 ⟨v, rfl, hv, hb2⟩
  have HB2 := Lib.hid hb2
  obtain ⟨A, c, rfl, hv1, hv2, hv⟩ := hv.open_
  have HV := Lib.hid hv
  have HN0 : Hid ((colsR m).Nodup ∨ ¬ (colsR m).Nodup) := Classical.em _
  obtain ⟨xs, hxs⟩ : ∃ xs, colsR m = xs := ⟨_, rfl⟩
  rw [hxs] at HE HV hv1 ⊢
  clear hxs hb2 hv HC1 c0 c1 c2 c3 c4 c5 c6 c7 HN0
  go_wp2_with fail
  go_loopw [4] (fun iv wr => ∃ i : Nat, iv = .int .i64 (i : Int) ∧ i ≤ xs.length ∧ Hid (∀ y ∈ xs.take i, colOk y = true) ∧ Hid ((xs.take i).Nodup) ∧ Hid (Below w2.heap.size w2 wr)) (fun iv _ => xs.length - (intOf iv).toNat)
  case atStart => exact ⟨0, rfl, Nat.zero_le _, Lib.hid (by simp), Lib.hid (by simp), Lib.hid (Below.refl _ _)⟩
  case round =>
    obtain ⟨i, rfl, hi, HA, HN, HB3⟩ := hrel
    obtain ⟨w3, hw3⟩ : ∃ w3, wr = w3 := ⟨_, rfl⟩
    rw [hw3] at HB3 ⊢
    clear hw3
    by_cases hlt : i < xs.length
    · obtain ⟨b, o, x, rfl, hD, hx, _, hc⟩ := SlI.at_ (SlI.now HV.out HB3.out) hlt
      have HX := Lib.hid hx
      have i0 : (0 : Int) ≤ (i : Int) := by omega
      have i1 : (i : Int) < (xs.length : Int) := by omega
      have HCO := Lib.hid (fun W => column_ref x W)
      obtain ⟨qc, hqc⟩ : ∃ qc, colOk x = qc := ⟨_, rfl⟩
      have HQC := Lib.hid hqc
      have HCO : Hid (∀ W, Calls Tryz.prog 65 #[.int .i64 x] W fun e w' => e = .returned (.bool qc) ∧ W = w') := Lib.hid fun W => by rw [← hqc]; exact HCO.out W
      clear hx hqc hD
      go_wp2_with fail
      (with_reducible refine (HCO.out _).mono ?_)
      rintro _ w4 ⟨rfl, rfl⟩
      cases qc with
      | false =>
        have HF : Hid (mapB m = false) := by
          show _ = _
          rw [HE.out]
          have : xs.all colOk = false := List.all_eq_false.2 ⟨x, List.mem_of_getElem? HX.out, by rw [HQC.out]; decide⟩
          rw [this]; rfl
        go_wp2_with fail
        go_ret
        exact ⟨ret_bool HF.out.symm, HB1.out.trans (((HB2.out.trans (HB3.out.mono HB2.out.size))).mono HB1.out.size)⟩
      | true =>
        have HA2 := Lib.hid (all_step HA.out HX.out HQC.out)
        clear hc
        go_wp2_with fail
        go_loopw [5] (fun jv wr => ∃ j : Nat, jv = .int .i64 (j : Int) ∧ j ≤ i ∧ Hid (x ∉ xs.take j) ∧ Hid (Below w2.heap.size w2 wr)) (fun jv _ => i - (intOf jv).toNat)
        case atStart => exact ⟨0, rfl, Nat.zero_le _, Lib.hid (by simp), HB3⟩
        case round =>
          obtain ⟨j, rfl, hj, HNJ, HB4⟩ := hrel
          obtain ⟨w5, hw5⟩ : ∃ w5, wr = w5 := ⟨_, rfl⟩
          rw [hw5] at HB4 ⊢
          clear hw5 HB3
          by_cases hlj : j < i
          · have hjx : j < xs.length := by omega
            have hix : i < xs.length := by omega
            obtain ⟨b1, o1, x1, hA1, hD1, hx1, _, hc1⟩ := SlI.at_ (SlI.now HV.out HB4.out) hjx
            injection hA1 with hA1
            injection hA1 with e1 e2
            subst e1 e2
            obtain ⟨b2, o2, x2, hA2, hD2, hx2, _, hc2⟩ := SlI.at_ (SlI.now HV.out HB4.out) hix
            injection hA2 with hA2
            injection hA2 with e1 e2
            subst e1 e2
            have hx3 := HX.out
            rw [hx2] at hx3
            injection hx3 with hx3
            subst hx3
            have HX1 := Lib.hid hx1
            have j0 : (0 : Int) ≤ (j : Int) := by omega
            have j1 : (j : Int) < (xs.length : Int) := by omega
            clear hx1 hx2 hD1 hD2 hjx hix
            go_upto_region 12 with fail
            by_cases he : x1 = x2
            · have HF : Hid (mapB m = false) := by
                show _ = _
                rw [HE.out]
                have hn : ¬ xs.Nodup := fun hn => by
                  obtain ⟨l1, g1⟩ := List.getElem?_eq_some_iff.1 HX1.out
                  obtain ⟨l2, g2⟩ := List.getElem?_eq_some_iff.1 HX.out
                  exact List.pairwise_iff_getElem.1 hn j i l1 l2 hlj (g1.trans (he.trans g2.symm))
                rw [decide_eq_false hn]; simp
              have d1 : decide (x1 = x2) = true := decide_eq_true he
              have d2 : (x1 == x2) = true := by simpa using he
              clear he
              go_quiet (fail)
              go_wp2_with fail
              go_ret
              exact ⟨ret_bool HF.out.symm, bdrawn (HB1.out.trans (((HB2.out.trans (HB4.out.mono HB2.out.size))).mono HB1.out.size)) _⟩
            · have d1 : decide (x1 = x2) = false := decide_eq_false he
              have d2 : (x1 == x2) = false := by simpa using he
              have HNX := Lib.hid (nmem_step HNJ.out HX1.out he)
              clear he
              go_quiet (fail)
              go_wp2_with fail
              go_roundw
              case rel => exact ⟨j + 1, by go_num, by omega, HNX, Lib.hid (bdrawn HB4.out _)⟩
              case measure => simp [intOf]; omega
          · have hji : j = i := by omega
            have HNN : Hid ((xs.take (i + 1)).Nodup) := Lib.hid (nodup_step HN.out HX.out (by have := HNJ.out; rwa [hji] at this))
            have hjl : ¬ (j : Int) < (i : Int) := by omega
            clear hji
            go_wp2_with fail
            go_roundw
            case rel => exact ⟨i + 1, by go_num, by omega, HA2, HNN, HB4⟩
            case measure => simp [intOf]; omega
    · have hie : i = xs.length := by omega
      have hil : ¬ (i : Int) < (xs.length : Int) := by omega
      have HE2 : Hid (mapB m = m.kinds.all kindB) := by
        show _ = _
        rw [HE.out]
        have h1 : xs.all colOk = true := List.all_eq_true.2 (by have := HA.out; rwa [hie, List.take_of_length_le (Nat.le_refl _)] at this)
        have h2 : xs.Nodup := by have := HN.out; rwa [hie, List.take_of_length_le (Nat.le_refl _)] at this
        rw [h1, decide_eq_true h2]; rfl
      clear hie hlt
      go_wp2_with fail
      go_loopw [6] (fun jv wr => ∃ j : Nat, jv = .int .i64 (j : Int) ∧ j ≤ m.kinds.length ∧ Hid (∀ y ∈ m.kinds.take j, kindB y = true) ∧ Hid (Below w2.heap.size w2 wr)) (fun jv _ => m.kinds.length - (intOf jv).toNat)
      case atStart => exact ⟨0, rfl, Nat.zero_le _, Lib.hid (by simp), HB3⟩
      case round =>
        obtain ⟨j, rfl, hj, HKJ, HB4⟩ := hrel
        obtain ⟨w5, hw5⟩ : ∃ w5, wr = w5 := ⟨_, rfl⟩
        rw [hw5] at HB4 ⊢
        clear hw5 HB3
        have HB14 : Hid (Below w1.heap.size w1 w5) := Lib.hid (HB2.out.trans (HB4.out.mono HB2.out.size))
        obtain ⟨c0, c1, c2, c3, c4, c5, c6, c7⟩ := (HM1.out.now HB14.out).c8m
        by_cases hlj : j < m.kinds.length
        · obtain ⟨b1, o1, x1, rfl, hD1, hx1, _, hc1⟩ := SlI.at_ (SlI.now HMK.out (bthen HB1.out HB14.out)) hlj
          have HX1 := Lib.hid hx1
          have j0 : (0 : Int) ≤ (j : Int) := by omega
          have j1 : (j : Int) < (m.kinds.length : Int) := by omega
          clear hx1 hD1
          by_cases k1 : x1 = 1
          · subst k1
            have HS := Lib.hid (all_step HKJ.out HX1.out (by decide))
            go_wp2_with fail
            go_roundw
            case rel => exact ⟨j + 1, by go_num, by omega, HS, HB4⟩
            case measure => simp [intOf]; omega
          by_cases k2 : x1 = 2
          · subst k2
            have HS := Lib.hid (all_step HKJ.out HX1.out (by decide))
            clear k1
            go_wp2_with fail
            go_roundw
            case rel => exact ⟨j + 1, by go_num, by omega, HS, HB4⟩
            case measure => simp [intOf]; omega
          by_cases k3 : x1 = 3
          · subst k3
            have HS := Lib.hid (all_step HKJ.out HX1.out (by decide))
            clear k1 k2
            go_wp2_with fail
            go_roundw
            case rel => exact ⟨j + 1, by go_num, by omega, HS, HB4⟩
            case measure => simp [intOf]; omega
          have HF : Hid (mapB m = false) := by
            show _ = _
            rw [HE2.out]
            refine List.all_eq_false.2 ⟨x1, List.mem_of_getElem? HX1.out, ?_⟩
            unfold kindB
            simp [k1, k2, k3]
          have y1 : (x1 != 1) = true := by simpa using k1
          have y2 : (x1 != 2) = true := by simpa using k2
          have y3 : (x1 != 3) = true := by simpa using k3
          clear k1 k2 k3
          go_wp2_with fail
          go_ret
          exact ⟨ret_bool HF.out.symm, bthen HB1.out HB14.out⟩
        · have hje : j = m.kinds.length := by omega
          have HT : Hid (mapB m = true) := by
            show _ = _
            rw [HE2.out]
            exact List.all_eq_true.2 (by have := HKJ.out; rwa [hje, List.take_of_length_le (Nat.le_refl _)] at this)
          have hjl : ¬ (j : Int) < (m.kinds.length : Int) := by omega
          clear hje
          go_wp2_with fail
          go_ret
          exact ⟨ret_bool HT.out.symm, bthen HB1.out HB14.out⟩
end Go.Proofs.YtoalecalahkblaaGreatDoor

set_option linter.all false
namespace Go.Proofs.YtoalecalahkblaaGreatDoor
open Go.RowKit
def mvZ (a b : Nat) (c : Int) : Int := if c = (a : Int) then (b : Int) else if c = (b : Int) then (a : Int) else c
def swpR (a b : Nat) (r : List Bt) : List Bt := (r.set a (r.getD b [])).set b (r.getD a [])
def mvM (a b : Nat) (m : Mp) : Mp := { m with cas := mvZ a b m.cas, act := mvZ a b m.act, res := mvZ a b m.res, life := mvZ a b m.life, time := mvZ a b m.time, data := m.data.map (mvZ a b) }
section
variable {a b : Nat}
theorem mvZ_nonneg (c : Int) : 0 ≤ mvZ a b c ↔ 0 ≤ c := by unfold mvZ; split <;> (try split) <;> omega
theorem mvZ_lt {n : Nat} (ha : a < n) (hb : b < n) (c : Int) : mvZ a b c < (n : Int) ↔ c < (n : Int) := by unfold mvZ; split <;> (try split) <;> omega
theorem swpR_len (r : List Bt) : (swpR a b r).length = r.length := by unfold swpR; simp
theorem cell_swp {r : List Bt} (ha : a < r.length) (hb : b < r.length) {c : Int} (hc : 0 ≤ c) : cellAt (swpR a b r) (mvZ a b c) = cellAt r c := by
  unfold cellAt swpR mvZ
  rw [List.getD_eq_getElem?_getD, List.getElem?_set, List.getElem?_set, List.length_set, List.getD_eq_getElem?_getD, List.getD_eq_getElem?_getD, List.getD_eq_getElem?_getD]
  by_cases h1 : c = (a : Int)
  · subst h1
    rw [if_pos rfl, if_pos (by omega), if_pos hb]
    rfl
  · rw [if_neg h1]
    by_cases h2 : c = (b : Int)
    · subst h2
      rw [if_pos rfl, if_neg (by omega), if_pos (by omega), if_pos ha]
      rfl
    · rw [if_neg h2, if_neg (by omega), if_neg (by omega)]
theorem fieldsB_mv (m : Mp) : fieldsB (mvM a b m) = (fieldsB m).map (mvZ a b) := by
  have key : ∀ l : List Int, (l.map (mvZ a b)).filter (fun k => decide (0 ≤ k)) = (l.filter fun k => decide (0 ≤ k)).map (mvZ a b) := by
    intro l
    induction l with
    | nil => rfl
    | cons x l ih =>
      rw [List.map_cons, List.filter_cons, List.filter_cons, ih]
      by_cases h : 0 ≤ x
      · rw [if_pos (decide_eq_true ((mvZ_nonneg x).2 h)), if_pos (decide_eq_true h), List.map_cons]
      · rw [if_neg (by simp; have := (mvZ_nonneg (a := a) (b := b) x); omega), if_neg (by simp; omega)]
  exact key [m.cas, m.act, m.res, m.life, m.time]
theorem headD_mv {r : List Bt} (ha : a < r.length) (hb : b < r.length) : ∀ (ks seen : List Int), (∀ k ∈ ks, 0 ≤ k) → (∀ k ∈ seen, 0 ≤ k) → (headD (swpR a b r) (seen.map (mvZ a b)) (ks.map (mvZ a b))).2 = (headD r seen ks).2
  | [], seen, _, _ => rfl
  | k :: ks, seen, h, hs => by
    have h0 := h k List.mem_cons_self
    rw [List.map_cons]
    unfold headD
    have hl := mvZ_lt ha hb k
    rw [swpR_len, cell_swp ha hb h0]
    have hany : ((seen.map (mvZ a b)).any fun j => decide (cellAt (swpR a b r) j = cellAt r k)) = seen.any fun j => decide (cellAt r j = cellAt r k) := by
      have gen : ∀ l : List Int, (∀ k ∈ l, 0 ≤ k) → ((l.map (mvZ a b)).any fun j => decide (cellAt (swpR a b r) j = cellAt r k)) = l.any fun j => decide (cellAt r j = cellAt r k) := by
        intro l hl
        induction l with
        | nil => rfl
        | cons x l ih =>
          rw [List.map_cons, List.any_cons, List.any_cons, ih (fun k hk => hl k (by simp [hk])), cell_swp ha hb (hl x (by simp))]
      exact gen seen hs
    rw [hany]
    by_cases h1 : (r.length : Int) ≤ k
    · rw [if_pos (by omega), if_pos h1]
    · rw [if_neg (by omega), if_neg h1]
      by_cases h2 : isNameB (bsOf (cellAt r k)) = false
      · rw [if_pos h2, if_pos h2]
      · rw [if_neg h2, if_neg h2]
        by_cases h3 : (seen.any fun j => decide (cellAt r j = cellAt r k)) = true
        · rw [if_pos h3, if_pos h3]
        · rw [if_neg h3, if_neg h3]
          have := headD_mv ha hb ks (seen ++ [k]) (fun k' hk' => h k' (List.mem_cons_of_mem _ hk')) (fun j hj => by
            rcases List.mem_append.1 hj with hj | hj
            · exact hs j hj
            · rw [List.mem_singleton] at hj; rw [hj]; exact h0)
          rw [List.map_append] at this
          exact this
theorem headE_mv {r : List Bt} {m : Mp} (ha : a < r.length) (hb : b < r.length) (hd : ∀ k ∈ m.data, 0 ≤ k) : (headE (swpR a b r) (mvM a b m)).2 = (headE r m).2 := by
  have key : ∀ l : List Int, ((l.map (mvZ a b)).find? fun k => decide (((swpR a b r).length : Int) ≤ k)) = (l.find? fun k => decide ((r.length : Int) ≤ k)).map (mvZ a b) := by
    intro l
    induction l with
    | nil => rfl
    | cons x l ih =>
      have hl := mvZ_lt ha hb x
      rw [List.map_cons, List.find?_cons, List.find?_cons, ih, swpR_len]
      by_cases h : (r.length : Int) ≤ x
      · rw [decide_eq_true h, decide_eq_true (show (r.length : Int) ≤ mvZ a b x by omega)]; rfl
      · rw [decide_eq_false h, decide_eq_false (show ¬ (r.length : Int) ≤ mvZ a b x by omega)]
  unfold headE
  rw [fieldsB_mv, key]
  cases (fieldsB m).find? fun k => decide ((r.length : Int) ≤ k) with
  | some k => rfl
  | none => exact headD_mv ha hb m.data [] hd (fun k hk => absurd hk (by simp))
def sameE (x y : Ev × Int × Int) : Prop := x.1 = y.1 ∧ x.2.2 = y.2.2
theorem fldsD_mv {r hd : List Bt} (ha : a < r.length) (hb : b < r.length) (hl : hd.length = r.length) : ∀ (ks : List (Int × Int)) (acc : List Fld), (∀ k ∈ ks, 0 ≤ k.1) →
    (fldsD (swpR a b r) (swpR a b hd) acc (ks.map fun p => (mvZ a b p.1, p.2))).1 = (fldsD r hd acc ks).1 ∧ (fldsD (swpR a b r) (swpR a b hd) acc (ks.map fun p => (mvZ a b p.1, p.2))).2.2 = (fldsD r hd acc ks).2.2
  | [], acc, _ => ⟨rfl, rfl⟩
  | (k, q) :: ks, acc, h => by
    have h0 : 0 ≤ k := h (k, q) List.mem_cons_self
    have ih := fun acc => fldsD_mv ha hb hl ks acc (fun x hx => h x (List.mem_cons_of_mem _ hx))
    rw [List.map_cons]
    unfold fldsD
    dsimp only
    rw [cell_swp ha hb h0, cell_swp (by omega) (by omega) h0]
    by_cases h1 : cellAt r k = []
    · rw [if_pos h1, if_pos h1]; exact ih acc
    · rw [if_neg h1, if_neg h1]
      by_cases h2 : (datE (bsOf (cellAt r k)) q).2 = 0
      · rw [if_pos h2, if_pos h2]; exact ih _
      · rw [if_neg h2, if_neg h2]; exact ⟨rfl, rfl⟩
theorem evE_mv {r hd : List Bt} {m : Mp} (ha : a < r.length) (hb : b < r.length) (hl : hd.length = r.length) (hok : MpOk m) : sameE (evE (swpR a b r) (swpR a b hd) (mvM a b m)) (evE r hd m) := by
  have ccas : cellAt (swpR a b r) (mvM a b m).cas = cellAt r m.cas := cell_swp ha hb hok.cas.1
  have cact : cellAt (swpR a b r) (mvM a b m).act = cellAt r m.act := cell_swp ha hb hok.act.1
  have ctim : cellAt (swpR a b r) (mvM a b m).time = cellAt r m.time := cell_swp ha hb hok.time.1
  have hz : (mvM a b m).data.zip (mvM a b m).kinds = (m.data.zip m.kinds).map fun p => (mvZ a b p.1, p.2) := by
    show (m.data.map (mvZ a b)).zip m.kinds = _
    rw [List.zip_map_left]
    rfl
  obtain ⟨hf1, hf2⟩ := fldsD_mv (r := r) (hd := hd) ha hb hl (m.data.zip m.kinds) [] (fun k hk => (hok.data k.1 (List.of_mem_zip hk).1).1)
  rw [← hz] at hf1 hf2
  have hE : ∀ res life t, sameE (evEnd (swpR a b r) (mvM a b m) res life t (fldsD (swpR a b r) (swpR a b hd) [] ((mvM a b m).data.zip (mvM a b m).kinds))) (evEnd r m res life t (fldsD r hd [] (m.data.zip m.kinds))) := fun res life t => by
    unfold evEnd
    rw [hf1, hf2, ccas, cact]
    by_cases h : (fldsD r hd [] (m.data.zip m.kinds)).2.2 = 0
    · rw [if_pos h, if_pos h]; exact ⟨rfl, rfl⟩
    · rw [if_neg h, if_neg h]; exact ⟨rfl, rfl⟩
  have hT : ∀ res life, sameE (evT (swpR a b r) (swpR a b hd) (mvM a b m) res life) (evT r hd m res life) := fun res life => by
    unfold evT
    rw [ctim]
    by_cases h : (natE (cellAt r m.time)).2 = 0
    · rw [if_pos h, if_pos h]; exact hE _ _ _
    · rw [if_neg h, if_neg h]; exact ⟨rfl, rfl⟩
  have hL : ∀ res, sameE (evL (swpR a b r) (swpR a b hd) (mvM a b m) res) (evL r hd m res) := fun res => by
    unfold evL
    have hs := mvZ_nonneg (a := a) (b := b) m.life
    by_cases h : m.life < 0
    · rw [if_pos (show (mvM a b m).life < 0 by show mvZ a b m.life < 0; omega), if_pos h]; exact hT _ _
    · rw [if_neg (show ¬ (mvM a b m).life < 0 by show ¬ mvZ a b m.life < 0; omega), if_neg h, show cellAt (swpR a b r) (mvM a b m).life = cellAt r m.life from cell_swp ha hb (by omega)]
      by_cases h2 : lifeI (cellAt r m.life) < 0
      · rw [if_pos h2, if_pos h2]; exact ⟨rfl, rfl⟩
      · rw [if_neg h2, if_neg h2]; exact hT _ _
  have hR : sameE (evR (swpR a b r) (swpR a b hd) (mvM a b m)) (evR r hd m) := by
    unfold evR
    have hs := mvZ_nonneg (a := a) (b := b) m.res
    by_cases h : m.res < 0
    · rw [if_pos (show (mvM a b m).res < 0 by show mvZ a b m.res < 0; omega), if_pos h]; exact hL _
    · rw [if_neg (show ¬ (mvM a b m).res < 0 by show ¬ mvZ a b m.res < 0; omega), if_neg h, show cellAt (swpR a b r) (mvM a b m).res = cellAt r m.res from cell_swp ha hb (by omega)]
      by_cases h2 : cellAt r m.res ≠ [] ∧ isNameB (bsOf (cellAt r m.res)) = false
      · rw [if_pos h2, if_pos h2]; exact ⟨rfl, rfl⟩
      · rw [if_neg h2, if_neg h2]; exact hL _
  unfold evE
  rw [ccas, cact]
  by_cases h1 : isNameB (bsOf (cellAt r m.cas)) = false
  · rw [if_pos h1, if_pos h1]; exact ⟨rfl, rfl⟩
  · rw [if_neg h1, if_neg h1]
    by_cases h2 : isNameB (bsOf (cellAt r m.act)) = false
    · rw [if_pos h2, if_pos h2]; exact ⟨rfl, rfl⟩
    · rw [if_neg h2, if_neg h2]; exact hR
def sameI (x y : List Ev × (Int × Int) × Int) : Prop := x.1 = y.1 ∧ x.2.2 = y.2.2
theorem impRows_mv {hd : List Bt} {m : Mp} (ha : a < hd.length) (hb : b < hd.length) (hok : MpOk m) : ∀ (rs : List (List Bt)) (i : Nat) (acc : List Ev), (∀ r ∈ rs, r.length = hd.length) →
    sameI (impRows (swpR a b hd) (mvM a b m) i acc (rs.map (swpR a b))) (impRows hd m i acc rs)
  | [], i, acc, _ => ⟨rfl, rfl⟩
  | r :: rs, i, acc, h => by
    have hl := h r List.mem_cons_self
    rw [List.map_cons]
    unfold impRows
    rw [if_neg (show ¬ (swpR a b r).length ≠ (swpR a b hd).length by rw [swpR_len, swpR_len]; omega), if_neg (show ¬ r.length ≠ hd.length by omega)]
    obtain ⟨h1, h2⟩ := evE_mv (r := r) (hd := hd) (m := m) (a := a) (b := b) (by omega) (by omega) hl.symm hok
    rw [h1, h2]
    by_cases h3 : (evE r hd m).2.2 = 0
    · rw [if_pos h3, if_pos h3]
      exact impRows_mv ha hb hok rs _ _ (fun r' hr' => h r' (List.mem_cons_of_mem _ hr'))
    · rw [if_neg h3, if_neg h3]; exact ⟨rfl, rfl⟩
theorem cols_same {rows : List (List Bt)} {m : Mp} {s t : Bt} {n : Nat} (hn : ∀ r ∈ rows, r.length = n) (ha : a < n) (hb : b < n) (hm : mapB m = true) (hw : mapB (mvM a b m) = true)
    (hs : writeE m.sep rows = (s, 0)) (ht : writeE m.sep (rows.map (swpR a b)) = (t, 0)) : sameI (impE t (mvM a b m)) (impE s m) := by
  have hok := mpOk hm
  have hs' := cells_of_write hs
  have ht' := cells_of_write ht
  unfold impE
  rw [if_pos hm, if_pos hw, show (mvM a b m).sep = m.sep from rfl, hs', ht', if_pos rfl, if_pos rfl]
  show sameI (impT (mvM a b m) (rows.map (swpR a b))) (impT m rows)
  cases rows with
  | nil => exact ⟨rfl, rfl⟩
  | cons hd rs =>
    have hh := hn hd List.mem_cons_self
    rw [List.map_cons]
    unfold impT
    dsimp only
    have h1 := headE_mv (r := hd) (m := m) (a := a) (b := b) (by omega) (by omega) (fun k hk => (hok.data k hk).1)
    rw [h1]
    by_cases h0 : (headE hd m).2 = 0
    · rw [if_pos h0, if_pos h0]
      obtain ⟨h2, h3⟩ := impRows_mv (hd := hd) (m := m) (a := a) (b := b) (by omega) (by omega) hok rs 0 [] (fun r hr => by rw [hn r (List.mem_cons_of_mem _ hr), hh])
      exact ⟨by rw [h2], h3⟩
    · rw [if_neg h0, if_neg h0]; exact ⟨rfl, rfl⟩
end
end Go.Proofs.YtoalecalahkblaaGreatDoor

set_option linter.all false
namespace Go.Proofs.YtoalecalahkblaaGreatDoor
open Go.RowKit
theorem len_any (v : Value) (r : List Bt) (p : Nat) (n : Int) (w : World) (h : SlP (Lt w.heap.size) w v r) (hp : w.cell? ⟨p, 0, none⟩ = some (.int .i64 n)) :
    Calls Tryz.prog 25 #[v, .pointer (some ⟨p, 0, none⟩)] w fun e w' => e = .returned (.bool (decide ((r.length : Int) ≠ n))) ∧ w = w' := by
  obtain ⟨A, c, rfl, _, _, _⟩ := h.open_
  obtain ⟨q, hq⟩ : ∃ q, ((r.length : Int) != n) = q := ⟨_, rfl⟩
  have HQ : Hid (decide ((r.length : Int) ≠ n) = q) := by
    show _ = _
    rw [← hq]
    by_cases h : (r.length : Int) = n
    · rw [decide_eq_false (fun e => e h), h]; simp
    · rw [decide_eq_true h]; exact (bne_iff_ne.2 h).symm
  clear h
  go_enter Tryz.func25, Tryz.ntmps25
  go_wp2_with fail
  go_ret
  exact ⟨ret_bool HQ.out.symm, rfl⟩
theorem enters_len : ∀ args w, (callFunc 25 args).run Tryz.prog w = .ok (.enter 25 args) w := enters_of Tryz.func25 (by kernel_rfl) rfl
theorem mv_any (c : Int) (a b p q : Nat) (w : World) (hp : w.cell? ⟨p, 0, none⟩ = some (.int .i64 (a : Int))) (hq : w.cell? ⟨q, 0, none⟩ = some (.int .i64 (b : Int))) :
    Calls Tryz.prog 27 #[.int .i64 c, .pointer (some ⟨p, 0, none⟩), .pointer (some ⟨q, 0, none⟩)] w fun e w' => e = .returned (.int .i64 (mvZ a b c)) ∧ w = w' := by
  by_cases h1 : c = (a : Int)
  · have e1 : (c == (a : Int)) = true := by rw [h1]; exact beq_self_eq_true _
    have HE : Hid (mvZ a b c = (b : Int)) := by show _ = _; unfold mvZ; rw [if_pos h1]
    clear h1
    rw [HE.out]
    go_enter Tryz.func27, Tryz.ntmps27
    go_wp2_with fail
    go_ret
    exact ⟨rfl, rfl⟩
  · have e1 : (c == (a : Int)) = false := beq_false_of_ne h1
    by_cases h2 : c = (b : Int)
    · have e2 : (c == (b : Int)) = true := by rw [h2]; exact beq_self_eq_true _
      have HE : Hid (mvZ a b c = (a : Int)) := by show _ = _; unfold mvZ; rw [if_neg h1, if_pos h2]
      clear h1 h2
      rw [HE.out]
      go_enter Tryz.func27, Tryz.ntmps27
      go_wp2_with fail
      go_ret
      exact ⟨rfl, rfl⟩
    · have e2 : (c == (b : Int)) = false := beq_false_of_ne h2
      have HE : Hid (mvZ a b c = c) := by show _ = _; unfold mvZ; rw [if_neg h1, if_neg h2]
      clear h1 h2
      rw [HE.out]
      go_enter Tryz.func27, Tryz.ntmps27
      go_wp2_with fail
      go_ret
      exact ⟨rfl, rfl⟩
theorem enters_mv : ∀ args w, (callFunc 27 args).run Tryz.prog w = .ok (.enter 27 args) w := enters_of Tryz.func27 (by kernel_rfl) rfl
theorem clone_any (v : Value) (r : List Bt) (w : World) (h : SlP (Lt w.heap.size) w v r) (h0 : 0 < r.length) (hl : r.length ≤ 1000) :
    Calls Tryz.prog 26 #[v] w fun e w' => ∃ g cap, e = .returned (.slice (some ⟨g, 0, none⟩) r.length cap) ∧ OwnCells w' w.heap.size g cap r ∧ Below w.heap.size w w' := by
  obtain ⟨A, c, rfl, _, _, h⟩ := h.open_
  obtain ⟨b, o, x, rfl, _, _, _, _⟩ := h.at_ (k := 0) h0
  have hl' : (r.map bsOf).length = r.length := List.length_map _
  refine (Tryz.slices_Clone_string b o r.length c (r.map bsOf) w (by rw [hl']; exact Nat.le_refl _) (by omega) (fun j hj => ?_)).mono ?_
  · rw [hl'] at hj
    obtain ⟨b', o', y, hA, _, hy, _, hc⟩ := h.at_ hj
    injection hA with hA
    injection hA with e1 e2
    subst e1 e2
    rw [hc, List.getD_eq_getElem?_getD, List.getElem?_map, hy]; rfl
  · rintro e w' ⟨v', he, ho, hne, hb⟩
    rcases ho.2 with ⟨h1, _⟩ | ⟨g, cap, cur, hv, hg, hcell, _⟩
    · exact absurd h1 hne
    · subst hv
      refine ⟨g, cap, he, ⟨?_, (Array.getElem?_eq_some_iff.1 hcell).1, hg⟩, hb⟩
      have e1 : ((r.map bsOf).take r.length).map Value.string = r.map fun l => Value.string (bsOf l) := by
        rw [List.take_of_length_le (by rw [hl']; exact Nat.le_refl _), List.map_map]; rfl
      rw [e1] at ho
      exact ho
end Go.Proofs.YtoalecalahkblaaGreatDoor
