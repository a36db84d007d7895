/- Texts of this seat, merged. -/
import Derived.BigQuiet
import Derived.WalkKit
import Derived.WalkSpells
import Derived.WalkLawsBesides
import Derived.Lib.Hide
import Derived.Deep.Draws
import Derived.Deep.OwnRows
import Derived.Test.YtijmnenojbfdnaaGreatDoorProg
import Derived.Outline
import Derived.Deep.Light
import Derived.Lib.SlicesCompact
import Derived.Deep.RegionWith
import Derived.Deep.QuietTactic
import Derived.Deep.RegionHeld3
import Derived.Shelf.Abstract
import Derived.Laws.IdiomStrings
import Derived.Maps.AppendAt
import Derived.Deep.AppendLies
import Derived.RegionTactic
import Derived.OwnWalk
import Derived.Sort.OwnSorted
import Derived.Lib.Bytes
import Derived.Shelf.Strings.Builder1
import Derived.Shelf.Small.Bits
import Derived.Shelf.Small.Wraps
import Derived.Shelf.Strings.BuilderF
import Derived.Shelf.Strings.BuilderK
import Derived.Shelf.Strconv.Atoi
import Derived.Shelf.Strconv.Itoa0
import Derived.Shelf.Strconv.Itoa1
import Derived.Shelf.LaysM
import Derived.Shelf.Strconv.Itoa2
import Derived.Shelf.Strconv.Itoa3
import Derived.Shelf.Strconv.AtoiErrFast
import Derived.Shelf.Strconv.ParseIntEmpty
import Derived.Shelf.Strconv.AtoiFail
import Derived.Shelf.Strconv.Clone
import Derived.Shelf.Strconv.SyntaxError
import Derived.Shelf.LaysC
import Derived.Shelf.Strconv.ToError
import Derived.Shelf.Strconv.Lower
import Derived.Shelf.Strconv.ParseUint10
import Derived.Shelf.Strconv.ParseUint10Empty
import Derived.Shelf.Strconv.ParseUint10Any
import Derived.Shelf.Strconv.ParseInt10
import Derived.Shelf.Strconv.AtoiLong
import Derived.Shelf.Strconv.AtoiInnerAll
import Derived.Shelf.Strconv.RangeError
import Derived.Shelf.Strconv.ToErrorRange
import Derived.Shelf.Strconv.AtoiAll
import Derived.Shelf.Strconv.ErrVarAll
import Derived.Shelf.Strings.Search1
import Derived.Shelf.Strings.Search2
import Derived.Shelf.Strings.Search3
import Derived.Shelf.Strings.Shaped
import Derived.Shelf.Sort.Plain
import Derived.Shelf.Strings.Prefix
import Derived.Shelf.Strings.BuilderCap
import Derived.Shelf.Slices.Turned
import Derived.Shelf.Slices.Equal
import Derived.Ground.Names2Prog
import Derived.Shelf.Slices.Clone
import Derived.Shelf.Slices.CompactS
import Derived.Shelf.Slices.Cells
import Derived.Shelf.Slices.In.SortNone
import Derived.Shelf.Slices.Empties2
import Derived.Maps.OwnOps
import Derived.Maps.OwnSet
import Derived.Maps.Views
import Derived.StringKeys
import Derived.Lib.Builder
import Derived.Lib.AppendStr
import Derived.Lib.UnsafeStr
import Derived.Lib.FrozenHead2
import Derived.Lib.OthersKept
import Derived.Laws.Externs
import Derived.Test.YtijmnenojbfdnaaGreatDoorChecked
import Derived.Laws.MakeOwn
import Derived.Laws.Entries
import Derived.ProofKit
import Derived.Deep.Slices
import Derived.Deep.Fields
import Derived.Deep.Strs
import Derived.ChangeSame
import Derived.Lib.SmallJoins
import Derived.LaidMore
import Derived.OpenShut
import Derived.Stop.Joined
import Derived.Test.YtijmnenojbfdnaaGreatDoorRows
import Derived.Test.YtijmnenojbfdnaaGreatDoorTie
import Derived.Test.YtijmnenojbfdnaaGreatDoorCards
import Derived.SevenTiedAt
import Derived.LaidLaws
import Derived.Lib.LaidTab
import Derived.Test.YtijmnenojbfdnaaGreatDoorEa01
import Derived.Test.YtijmnenojbfdnaaGreatDoorEa02
import Derived.Test.YtijmnenojbfdnaaGreatDoorEa03
import Derived.Test.YtijmnenojbfdnaaGreatDoorEa04
import Derived.Test.YtijmnenojbfdnaaGreatDoorEa05
import Derived.Test.YtijmnenojbfdnaaGreatDoorEa06
import Derived.Test.YtijmnenojbfdnaaGreatDoorEa07
import Derived.Test.YtijmnenojbfdnaaGreatDoorEa08
import Derived.Test.YtijmnenojbfdnaaGreatDoorEa09
import Derived.Test.YtijmnenojbfdnaaGreatDoorEa10
import Derived.Test.YtijmnenojbfdnaaGreatDoorEa11
import Derived.Test.YtijmnenojbfdnaaGreatDoorEa12
import Derived.Test.YtijmnenojbfdnaaGreatDoorEa13
import Derived.Test.YtijmnenojbfdnaaGreatDoorEa14
import Derived.Test.YtijmnenojbfdnaaGreatDoorEa15
import Derived.Test.YtijmnenojbfdnaaGreatDoorEa16
import Derived.Test.YtijmnenojbfdnaaGreatDoorEa17
import Derived.Test.YtijmnenojbfdnaaGreatDoorEa18
import Derived.Test.YtijmnenojbfdnaaGreatDoorEa19
import Derived.Test.YtijmnenojbfdnaaGreatDoorEa20
import Derived.Test.YtijmnenojbfdnaaGreatDoorEa21
import Derived.Test.YtijmnenojbfdnaaGreatDoorEa22
import Derived.Test.YtijmnenojbfdnaaGreatDoorEa23
import Derived.Test.YtijmnenojbfdnaaGreatDoorEa24
import Derived.Test.YtijmnenojbfdnaaGreatDoorEa25
import Derived.Test.YtijmnenojbfdnaaGreatDoorEa26
import Derived.Test.YtijmnenojbfdnaaGreatDoorEa27
set_option linter.unusedSimpArgs false
set_option linter.unusedVariables false
namespace Go.Proofs.YtijmnenojbfdnaaGreatDoor
open Go.RowKit
def RetTr (w : World) (e : Ending) (w' : World) : Prop := e = .returned (.bool true) ∧ Below w.heap.size w w'
abbrev exC6 (x : Ex) (Ax : Option Addr) (cx : Nat) : Array Value := #[.int .i64 x.op, .int .i64 x.v.kind, .int .i64 x.v.n, .string x.v.s, .string x.s, .slice Ax x.l.length cx]
theorem ex_one {n : Nat} {x : Ex} {Ax : Option Addr} {cx : Nat} {w : World} (hx : IsEx n (Lt w.heap.size) w (exV x (.slice Ax x.l.length cx)) x) :
    SlE (n + 1) (Lt (w.alloc (.cells (exC6 x Ax cx) 28)).heap.size) (w.alloc (.cells (exC6 x Ax cx) 28)) (.slice (some ⟨w.heap.size, 0, none⟩) 1 1) [x] := by
  have hb := bone w (.cells (exC6 x Ax cx) 28)
  have hx1 := hx.now hb
  refine Sl.ofBlk (R := RExN (n + 1)) (size := 6) (xs := [x]) (cs := (exC6 x Ax cx).toList) (Blk.new w 28 _) (by unfold maxLen; show 1 ≤ _; decide) (fun i y hy => ?_)
  match i, hy with
  | 0, hy =>
    injection hy with hy; subst hy
    exact ⟨(exC6 x Ax cx).toList, rfl, fun j u hu => by simpa using hu, isEx_cells hx1⟩
  | i + 1, hy => simp at hy
end Go.Proofs.YtijmnenojbfdnaaGreatDoor

namespace Go.Proofs.YtijmnenojbfdnaaGreatDoor
open Go.RowKit
theorem containsS_any (u : Value) (xs : List ByteArray) (s : ByteArray) (w : World) (hu : SlS (Lt w.heap.size) w u xs) :
    Calls Tryz.prog 32 #[u, .string s] w fun e w' => e = .returned (.bool (Lib.containsS xs s)) ∧ w' = w := by
  obtain ⟨A, c, rfl, h1, h2, hu⟩ := hu.open_
  by_cases hn : 0 < xs.length
  · obtain ⟨b, o, rfl, hD, _, hc⟩ := hu.cells hn
    refine (Tryz.slices_Contains_string b o xs.length c xs s w (Nat.le_refl _) (by omega) hc).mono ?_
    rintro e w' ⟨rfl, rfl⟩
    rw [List.take_of_length_le (Nat.le_refl _)]
    exact ⟨rfl, rfl⟩
  · have e1 : xs = [] := List.eq_nil_of_length_eq_zero (by omega)
    subst e1
    refine (Tryz.slices_Contains_string_empty A c s w).mono ?_
    rintro e w' ⟨rfl, rfl⟩
    exact ⟨ret_bool rfl, rfl⟩
set_option maxHeartbeats 8000000 in
set_option maxRecDepth 100000 in
theorem exprMatters_law {n : Nat} (l : List Var) (vs ws : List Val) (x : Ex) (u v v' ux : Value) (w : World) (hl : SlX (Lt w.heap.size) w u l) (hv : SlV (Lt w.heap.size) w v vs) (hw : SlV (Lt w.heap.size) w v' ws) (hx : IsEx n (Lt w.heap.size) w ux x) (ha : Amb w) :
    Calls Tryz.prog 6 #[u, v, v', ux] w (RetTr w) := by
  have hxx := hx
  obtain ⟨A, c, rfl, h1, h2, hl⟩ := hl.open_
  obtain ⟨Av, cv, rfl, v1, v2, hv⟩ := hv.open_
  obtain ⟨Aw, cw, rfl, v3, v4, hw⟩ := hw.open_
  obtain ⟨lv, rfl, _, Ax, cx, rfl⟩ := hx.cells
  have hb1w := bone w (.cells (exC6 x Ax cx) 28)
  have hN1 := Blk.new w 28 (exC6 x Ax cx)
  have hx1 := hxx.now hb1w
  have hl1 := hl.now hb1w
  have hv1 := hv.now hb1w
  have hw1 := hw.now hb1w
  have HC := Lib.hid (exAwake_any _ (ha.now hb1w))
  clear hx hxx hl hv hw
  go_enter Tryz.func6, Tryz.ntmps6
  go_wp2_with fail
  (with_reducible refine HC.out.mono ?_)
  rintro e w2 ⟨rfl, hb2⟩
  have hN2 := hN1.now hb2
  have hx2 := hx1.now hb2
  have hl2 := hl1.now hb2
  have hv2 := hv1.now hb2
  have hw2 := hw1.now hb2
  have hb2w := bthen hb1w hb2
  clear hN1 hx1 hl1 hv1 hw1 hb1w hb2
  clear HC
  obtain ⟨n0, n1, n2, n3, n4, n5⟩ := hN2.c6
  have hb3 := bone w2 (.cells (exC6 x Ax cx) 28)
  have HC := Lib.hid (small_any _ _ _ _ (ex_one hx2))
  have hN3 := hN2.now hb3
  have hx3 := hx2.now hb3
  have hl3 := hl2.now hb3
  have hv3 := hv2.now hb3
  have hw3 := hw2.now hb3
  have hb3w := bthen hb2w hb3
  clear hN2 hx2 hl2 hv2 hw2 hb2w hb3
  go_wp2_with fail
  (with_reducible refine HC.out.mono ?_)
  rintro e w4 ⟨q, rfl, hb4⟩
  have hN4 := hN3.now hb4
  have hx4 := hx3.now hb4
  have hl4 := hl3.now hb4
  have hv4 := hv3.now hb4
  have hw4 := hw3.now hb4
  have hb4w := bthen hb3w hb4
  clear hN3 hx3 hl3 hv3 hw3 hb3w hb4
  clear HC n0 n1 n2 n3 n4 n5
  cases q
  · go_wp2_with fail
    go_ret
    exact ⟨rfl, hb4w⟩
  have HC := Lib.hid (list_any l _ _ hl4)
  go_wp2_with fail
  (with_reducible refine HC.out.mono ?_)
  rintro e w5 ⟨q, rfl, hq, hb5⟩
  have hN5 := hN4.now hb5
  have hx5 := hx4.now hb5
  have hl5 := hl4.now hb5
  have hv5 := hv4.now hb5
  have hw5 := hw4.now hb5
  have hb5w := bthen hb4w hb5
  clear hN4 hx4 hl4 hv4 hw4 hb4w hb5
  clear HC
  cases q
  · go_wp2_with fail
    go_ret
    exact ⟨rfl, hb5w⟩
  have hl10 := hq rfl
  clear hq
  by_cases h12 : 12 < vs.length
  · go_wp2_with fail
    go_ret
    exact ⟨rfl, hb5w⟩
  by_cases h13 : 12 < ws.length
  · go_wp2_with fail
    go_ret
    exact ⟨rfl, hb5w⟩
  have HC := Lib.hid (free_any _ x _ w5 hx5)
  obtain ⟨n0, n1, n2, n3, n4, n5⟩ := hN5.c6
  generalize hfe : freeE x = fe at HC
  obtain ⟨L, z⟩ := fe
  go_wp2_with fail
  (with_reducible refine HC.out.mono ?_)
  rintro e w6 ⟨vL, rfl, hL6, hb6⟩
  have hN6 := hN5.now hb6
  have hx6 := hx5.now hb6
  have hl6 := hl5.now hb6
  have hv6 := hv5.now hb6
  have hw6 := hw5.now hb6
  have hb6w := bthen hb5w hb6
  clear hN5 hx5 hl5 hv5 hw5 hb5w hb6
  clear HC n0 n1 n2 n3 n4 n5
  obtain ⟨AL, cL, rfl, l1, l2, hL6⟩ := SlS.open_ hL6
  have HC := Lib.hid (inAllE_any l vs _ _ w6 hl6 hv6 (by omega))
  generalize hiv : inAllE l vs = iv at HC
  obtain ⟨bv, zv⟩ := iv
  go_wp2_with fail
  (with_reducible refine HC.out.mono ?_)
  rintro e w7 ⟨rfl, hb7⟩
  have hL7 := hL6.now hb7
  have hN7 := hN6.now hb7
  have hx7 := hx6.now hb7
  have hl7 := hl6.now hb7
  have hv7 := hv6.now hb7
  have hw7 := hw6.now hb7
  have hb7w := bthen hb6w hb7
  clear hN6 hx6 hl6 hv6 hw6 hb6w hb7
  clear HC hL6
  have HC := Lib.hid (inAllE_any l ws _ _ w7 hl7 hw7 (by omega))
  generalize hiw : inAllE l ws = iw at HC
  obtain ⟨bw, zw⟩ := iw
  go_wp2_with fail
  (with_reducible refine HC.out.mono ?_)
  rintro e w8 ⟨rfl, hb8⟩
  have hL8 := hL7.now hb8
  have hN8 := hN7.now hb8
  have hx8 := hx7.now hb8
  have hl8 := hl7.now hb8
  have hv8 := hv7.now hb8
  have hw8 := hw7.now hb8
  have hb8w := bthen hb7w hb8
  clear hN7 hx7 hl7 hv7 hw7 hb7w hb8
  clear HC hL7
  by_cases e1 : z = 0
  rotate_left
  · go_wp2_with fail
    go_ret
    exact ⟨rfl, hb8w⟩
  by_cases e2 : zv = 0
  rotate_left
  · go_wp2_with fail
    go_ret
    exact ⟨rfl, hb8w⟩
  by_cases e3 : zw = 0
  rotate_left
  · go_wp2_with fail
    go_ret
    exact ⟨rfl, hb8w⟩
  subst e1 e2 e3
  cases bv
  · go_wp2_with fail
    go_ret
    exact ⟨rfl, hb8w⟩
  cases bw
  · go_wp2_with fail
    go_ret
    exact ⟨rfl, hb8w⟩
  have hGv := good_of hiv
  have hGw := good_of hiw
  have hvl := hGv.len
  have hwl := hGw.len
  have hvx : validX x = true ∧ freeX x = L := by
    unfold freeE at hfe
    split at hfe
    · rename_i hq; injection hfe with hfe _; exact ⟨hq, hfe⟩
    · injection hfe with _ hfe; cases hfe
  obtain ⟨hvx, rfl⟩ := hvx
  have HG := Lib.hid (And.intro hGv hGw)
  have HVX := Lib.hid hvx
  have HLN := Lib.hid (And.intro hvl hwl)
  clear hfe hiv hiw hGv hGw hvx
  have hvi : (vs.length : Int) = (l.length : Int) := by omega
  have hwi : (ws.length : Int) = (l.length : Int) := by omega
  clear hvl hwl
  have HC := Lib.hid (cloneV _ ws w8 hw8 (by omega))
  go_wp2_with fail
  (with_reducible refine HC.out.mono ?_)
  rintro e w9 ⟨vm, rfl, hM9, hb9⟩
  have hP9 : Pick w8.heap.size w8 w9 (.slice none 0 0) (.slice none 0 0) vm [] [] ws := ⟨hb9, OwnW.nil, OwnW.nil, hM9, fun _ _ e => (by cases e), hb9.size⟩
  clear hvi hwi HC hM9 hb9 hL6 hl hv hw h12 h13
  go_wp2_with fail
  go_loopw [16, 17, 102] (fun xv vv i wr => ∃ (k : Nat) (xs : List PV), k ≤ l.length ∧ i = .int .i64 k ∧ Pick w8.heap.size w8 wr xv vv vm xs ((ownT (freeX x) l vs k).map Prod.snd) (mixT (freeX x) l vs ws k) ∧ xs.map Prod.fst = ownT (freeX x) l vs k ∧ (∀ p ∈ xs, RVar (Lt w8.heap.size) w8 p.1.1 (cellsX p))) (fun _ _ i _ => l.length - (intOf i).toNat)
  case atStart => exact ⟨0, [], Nat.zero_le _, rfl, hP9, rfl, fun _ h => by cases h⟩
  case round =>
    obtain ⟨k, xs, hk, rfl, hP, hxs, hrx⟩ := hrel
    by_cases hlt : k < l.length
    · obtain ⟨b, o, xk, iv, rfl, hD, hxk, ⟨_, _, f1, f2, f3, f4, _⟩, hiv, d0, d1, d2, d3, d4⟩ := hl8.at_ hlt
      obtain ⟨bv, ov, vk, rfl, hDv, hvk, hfv, q0, q1, q2⟩ := hv8.at_ (k := k) (by have := HLN.out; omega)
      obtain ⟨Ai, ci, rfl, i1, i2, hiv⟩ := SlS.open_ hiv
      have sm := Same.of_below hP.bel
      have g0 := (sm.cell (p := ⟨b, o + k * 5, none⟩) hD).trans d0
      have g1 := (sm.cell (p := ⟨b, o + k * 5 + 1, none⟩) hD).trans d1
      have g2 := (sm.cell (p := ⟨b, o + k * 5 + 2, none⟩) hD).trans d2
      have g3 := (sm.cell (p := ⟨b, o + k * 5 + 3, none⟩) hD).trans d3
      have g4 := (sm.cell (p := ⟨b, o + k * 5 + 4, none⟩) hD).trans d4
      have HFX : Hid (RVar (Lt w8.heap.size) w8 xk (cellsX ((xk, vk), (Ai, ci)))) := ⟨_, rfl, f1, f2, f3, f4, hiv⟩
      have hb1 := bone wr (.cells (cellsX ((xk, vk), (Ai, ci))).toArray 68)
      have hO1 := Off3.new hP 68 (cellsX ((xk, vk), (Ai, ci))).toArray
      have hP1 := hP.now hb1
      have HXS := Lib.hid (And.intro hxs hrx)
      have HAT := Lib.hid (And.intro hxk hvk)
      clear f1 f2 f3 f4 hiv d0 d1 d2 d3 d4 sm hxs hrx hxk hvk hP
      go_upto_region 16 with fail
      generalize hwb : wr.alloc (.cells #[.string xk.name, .int .i64 xk.kind, .int .i64 xk.low, .int .i64 xk.high, .slice Ai xk.items.length ci] 68) = wb at *
      have hP1 : Pick w8.heap.size w8 wb u16 u17 vm xs ((ownT (freeX x) l vs k).map Prod.snd) (mixT (freeX x) l vs ws k) := by rw [← hwb]; exact hP1
      have hO1 : Off3 wb u16 u17 vm wr.heap.size 68 (cellsX ((xk, vk), (Ai, ci))).toArray := by rw [← hwb]; exact hO1
      clear hwb hb1 g0 g1 g2 g3 g4
      have c0 : wb.cell? ⟨wr.heap.size, 0, none⟩ = some (.string xk.name) := hO1.blk.cell 0
      have HC := Lib.hid (containsS_any _ (freeX x) xk.name wb (hL8.now hP1.bel))
      generalize hsel : Lib.containsS (freeX x) xk.name = sel at HC
      go_wp2_with fail
      (with_reducible refine HC.out.mono ?_)
      rintro e wc ⟨rfl, rfl⟩
      have HSL := Lib.hid hsel
      clear HC hsel c0
      cases sel
      · go_wp2_with fail
        go_roundw
        case rel =>
          refine ⟨k + 1, xs, by omega, by go_num, ?_, ?_, HXS.out.2⟩
          · rw [ownT_no HAT.out.1 HAT.out.2 HSL.out, mixT_no HAT.out.1 HAT.out.2 HSL.out]; exact hP1
          · rw [ownT_no HAT.out.1 HAT.out.2 HSL.out]; exact HXS.out.1
        case measure => simp [intOf]; omega
      · have HML := Lib.hid (mixT_len (freeX x) l vs ws k)
        have HMY := Lib.hid (mixT_yes (w := ws) HAT.out.1 HAT.out.2 HSL.out)
        generalize mixT (freeX x) l vs ws k = ms at *
        have hkm : k < ms.length := by have := HML.out; have := HLN.out; omega
        obtain ⟨gm, cap, rfl, hmc, hgm, hgl⟩ := OwnW.form hP1.mix (by omega)
        obtain ⟨zz, y0, y1, y2, z0, z1, z2⟩ := OwnV.cells hP1.mix hkm
        have hkv : k < vs.length := by have := HLN.out; omega
        have q0' := q0
        have q1' := q1
        have q2' := q2
        have sm := Same.of_below hP1.bel
        have q0 := (sm.cell (p := ⟨bv, ov + k * 3, none⟩) hDv).trans q0
        have q1 := (sm.cell (p := ⟨bv, ov + k * 3 + 1, none⟩) hDv).trans q1
        have q2 := (sm.cell (p := ⟨bv, ov + k * 3 + 2, none⟩) hDv).trans q2
        have HOL : (ownT (freeX x) l vs k).length ≤ l.length := by
          unfold ownT
          refine Nat.le_trans (List.length_filter_le _ _) ?_
          rw [List.length_take, List.length_zip]
          omega
        have HLX : Hid (xs.length < 1000000 ∧ ((ownT (freeX x) l vs k).map Prod.snd).length < 1000000) := by
          have e := congrArg List.length HXS.out.1
          rw [List.length_map] at e
          refine ⟨by omega, by rw [List.length_map]; omega⟩
        have HREL : Hid (∀ W a b, Pick w8.heap.size w8 W a b (.slice (some ⟨gm, 0, none⟩) ms.length cap) (xs ++ [((xk, vk), (Ai, ci))]) ((ownT (freeX x) l vs k).map Prod.snd ++ [vk]) (ms.set k vk) → Pick w8.heap.size w8 W a b (.slice (some ⟨gm, 0, none⟩) ms.length cap) (xs ++ [((xk, vk), (Ai, ci))]) ((ownT (freeX x) l vs (k + 1)).map Prod.snd) (mixT (freeX x) l vs ws (k + 1)) ∧ (xs ++ [((xk, vk), (Ai, ci))]).map Prod.fst = ownT (freeX x) l vs (k + 1) ∧ ∀ p ∈ xs ++ [((xk, vk), (Ai, ci))], RVar (Lt w8.heap.size) w8 p.1.1 (cellsX p)) := by
          intro W a b h
          rw [HMY.out, ownT_yes HAT.out.1 HAT.out.2 HSL.out, List.map_append, List.map_append, HXS.out.1]
          refine ⟨h, rfl, fun p hp => ?_⟩
          rcases List.mem_append.1 hp with h' | h'
          · exact HXS.out.2 p h'
          · rw [List.mem_singleton] at h'; subst h'; exact HFX.out
        obtain ⟨hP2, hO2⟩ := hP1.set_ hkm vk
        have hO2 := hO2 _ _ _ hO1
        clear sm
        go_upto_region 18 with fail
        generalize hwd : ((wc.setCell ⟨gm, k * 3, none⟩ (.int .i64 vk.kind)).setCell ⟨gm, k * 3 + 1, none⟩ (.int .i64 vk.n)).setCell ⟨gm, k * 3 + 2, none⟩ (.string vk.s) = wd at *
        clear hwd hP1 hO1 y0 y1 y2 z0 z1 z2 q0 q1 q2
        refine wp_region_held_tail 11 (fun W => Blk W wr.heap.size 68 #[.string xk.name, .int .i64 xk.kind, .int .i64 xk.low, .int .i64 xk.high, .slice Ai xk.items.length ci] ∧ Below w8.heap.size w8 W) (by kernel_rfl) (by kernel_rfl) ⟨(hO2.now (Below.refl _ _).drew).blk, (hP2.now (Below.refl _ _).drew).bel⟩ (fun hHeld => ?_)
        simp only [List.take_succ_cons, List.take_zero]
        have hP0 := hP2.now (Below.refl _ _).drew
        have hO0 := hO2.now (Below.refl _ _).drew
        clear hP2 hO2
        generalize wd.drew = w0 at *
        refine takeL (v := ?v0) 0 rfl (by kernel_rfl) (by kernel_rfl) (by kernel_rfl) (fun _ _ _ h => h) rfl ?hy0 hHeld ?rest0
        case hy0 => (intro W hW; go_simp <;> rfl)
        simp only [Act.put, List.setIfInBounds_toArray, List.set_cons_zero, List.set_cons_succ]
        refine takeL (v := ?v1) 1 rfl (by kernel_rfl) (by kernel_rfl) (by kernel_rfl) (fun _ _ _ h => h) rfl ?hy1 hHeld ?rest1
        case hy1 => (intro W hW; obtain ⟨p0, p1, p2, p3, p4⟩ := hW.1.c5; go_simp <;> rfl)
        simp only [Act.put, List.setIfInBounds_toArray, List.set_cons_zero, List.set_cons_succ]
        refine takeL (v := ?v4) 4 rfl (by kernel_rfl) (by kernel_rfl) (by kernel_rfl) (fun _ _ _ h => h) rfl ?hy4 hHeld ?rest4
        case hy4 => (intro W hW; go_simp <;> rfl)
        simp only [Act.put, List.setIfInBounds_toArray, List.set_cons_zero, List.set_cons_succ]
        refine takeL (v := ?v5) 5 rfl (by kernel_rfl) (by kernel_rfl) (by kernel_rfl) (fun _ _ _ h => h) rfl ?hy5 hHeld ?rest5
        case hy5 => (intro W hW; go_simp <;> rfl)
        simp only [Act.put, List.setIfInBounds_toArray, List.set_cons_zero, List.set_cons_succ]
        refine takeL (v := ?v6) 6 rfl (by kernel_rfl) (by kernel_rfl) (by kernel_rfl) (fun _ _ _ h => h) rfl ?hy6 hHeld ?rest6
        case hy6 => (intro W hW; go_simp <;> rfl)
        simp only [Act.put, List.setIfInBounds_toArray, List.set_cons_zero, List.set_cons_succ]
        refine takeL (v := ?v7) 7 rfl (by kernel_rfl) (by kernel_rfl) (by kernel_rfl) (fun _ _ _ h => h) rfl ?hy7 hHeld ?rest7
        case hy7 => (intro W hW; go_simp <;> rfl)
        simp only [Act.put, List.setIfInBounds_toArray, List.set_cons_zero, List.set_cons_succ]
        refine takeL (v := ?v8) 8 rfl (by kernel_rfl) (by kernel_rfl) (by kernel_rfl) (fun _ _ _ h => h) rfl ?hy8 hHeld ?rest8
        case hy8 => (intro W hW; have sm := Same.of_below hW.2; have p0 := (sm.cell (p := ⟨bv, ov + k * 3, none⟩) hDv).trans q0'; have p1 := (sm.cell (p := ⟨bv, ov + k * 3 + 1, none⟩) hDv).trans q1'; have p2 := (sm.cell (p := ⟨bv, ov + k * 3 + 2, none⟩) hDv).trans q2'; go_simp <;> rfl)
        simp only [Act.put, List.setIfInBounds_toArray, List.set_cons_zero, List.set_cons_succ]
        refine twoL 2 9 rfl rfl rfl rfl (by kernel_rfl) (fun K hK => ?_) (fun K hK => ?_)
        · go_simp
          have hbb1 := bone w0 (.cells #[.string xk.name, .int .i64 xk.kind, .int .i64 xk.low, .int .i64 xk.high, .slice Ai xk.items.length ci] 68)
          have hX1 := Off3.new hP0 68 #[.string xk.name, .int .i64 xk.kind, .int .i64 xk.low, .int .i64 xk.high, .slice Ai xk.items.length ci]
          have hP1 := hP0.now hbb1
          have hO1 := hO0.now hbb1
          refine hK.out _ _ ⟨hO1.blk, hP1.bel⟩ (fun hHeld => ?_)
          clear hK K
          generalize hw1 : w0.alloc (.cells #[.string xk.name, .int .i64 xk.kind, .int .i64 xk.low, .int .i64 xk.high, .slice Ai xk.items.length ci] 68) = w1 at *
          clear hw1 hbb1 hP0 hO0
          refine twoL 3 9 rfl rfl rfl rfl (by kernel_rfl) (fun K hK => ?_) (fun K hK => ?_)
          · refine wp_pickX (.tmp 118) (.tmp 120) ((xk, vk), (Ai, ci)) rfl hP1 hX1 rfl rfl HLX.out.1 ?_
            intro r2 w2 hP2 hT2
            have hO2 := hT2 _ _ _ hO1
            refine hK.out _ _ ⟨hO2.blk, hP2.bel⟩ (fun hHeld => ?_)
            clear hK K hT2 hP1 hO1
            refine onlyL 9 rfl rfl (by kernel_rfl) (fun K hK => ?_)
            go_simp
            have hbb3 := bone w2 (.cells #[.int .i64 vk.kind, .int .i64 vk.n, .string vk.s] 25)
            have hV3 := Off3.new hP2 25 #[.int .i64 vk.kind, .int .i64 vk.n, .string vk.s]
            have hP3 := hP2.now hbb3
            have hO3 := hO2.now hbb3
            refine hK.out _ _ ⟨hO3.blk, hP3.bel⟩ (fun hHeld => ?_)
            clear hK K
            generalize hw3 : w2.alloc (.cells #[.int .i64 vk.kind, .int .i64 vk.n, .string vk.s] 25) = w3 at *
            clear hw3 hbb3 hP2 hO2
            refine onlyL 10 rfl rfl (by kernel_rfl) (fun K hK => ?_)
            refine wp_pickV (.tmp 122) (.tmp 127) vk rfl hP3 hV3 rfl rfl HLX.out.2 ?_
            intro r4 w4 hP4 hT4
            have hO4 := hT4 _ _ _ hO3
            refine hK.out _ _ ⟨hO4.blk, hP4.bel⟩ (fun hHeld => ?_)
            clear hK K hT4 hP3 hO3
            refine doneL (by kernel_rfl) ?_
            simp only [List.drop_succ_cons, List.drop_zero]
            go_wp2_with fail
            go_roundw
            case rel =>
              obtain ⟨a1, a2, a3⟩ := HREL.out _ _ _ hP4
              exact ⟨k + 1, _, by omega, by go_num, a1, a2, a3⟩
            case measure => simp [intOf]; omega
          · go_simp
            have hbb5 := bone w1 (.cells #[.int .i64 vk.kind, .int .i64 vk.n, .string vk.s] 25)
            have hV5 := Off3.new hP1 25 #[.int .i64 vk.kind, .int .i64 vk.n, .string vk.s]
            have hP5 := hP1.now hbb5
            have hO5 := hO1.now hbb5
            have hX5 := hX1.now hbb5
            refine hK.out _ _ ⟨hO5.blk, hP5.bel⟩ (fun hHeld => ?_)
            clear hK K
            generalize hw5 : w1.alloc (.cells #[.int .i64 vk.kind, .int .i64 vk.n, .string vk.s] 25) = w5 at *
            clear hw5 hbb5 hP1 hO1
            refine onlyL 3 rfl rfl (by kernel_rfl) (fun K hK => ?_)
            refine wp_pickX (.tmp 118) (.tmp 120) ((xk, vk), (Ai, ci)) rfl hP5 hX5 rfl rfl HLX.out.1 ?_
            intro r6 w6 hP6 hT6
            have hO6 := hT6 _ _ _ hO5
            have hV6 := hT6 _ _ _ hV5
            refine hK.out _ _ ⟨hO6.blk, hP6.bel⟩ (fun hHeld => ?_)
            clear hK K hT6 hP5 hO5
            refine onlyL 10 rfl rfl (by kernel_rfl) (fun K hK => ?_)
            refine wp_pickV (.tmp 122) (.tmp 127) vk rfl hP6 hV6 rfl rfl HLX.out.2 ?_
            intro r7 w7 hP7 hT7
            have hO7 := hT7 _ _ _ hO6
            refine hK.out _ _ ⟨hO7.blk, hP7.bel⟩ (fun hHeld => ?_)
            clear hK K hT7 hP6 hO6
            refine doneL (by kernel_rfl) ?_
            simp only [List.drop_succ_cons, List.drop_zero]
            go_wp2_with fail
            go_roundw
            case rel =>
              obtain ⟨a1, a2, a3⟩ := HREL.out _ _ _ hP7
              exact ⟨k + 1, _, by omega, by go_num, a1, a2, a3⟩
            case measure => simp [intOf]; omega
        · go_simp
          have hbb8 := bone w0 (.cells #[.int .i64 vk.kind, .int .i64 vk.n, .string vk.s] 25)
          have hV8 := Off3.new hP0 25 #[.int .i64 vk.kind, .int .i64 vk.n, .string vk.s]
          have hP8 := hP0.now hbb8
          have hO8 := hO0.now hbb8
          refine hK.out _ _ ⟨hO8.blk, hP8.bel⟩ (fun hHeld => ?_)
          clear hK K
          generalize hw8 : w0.alloc (.cells #[.int .i64 vk.kind, .int .i64 vk.n, .string vk.s] 25) = w8 at *
          clear hw8 hbb8 hP0 hO0
          refine onlyL 2 rfl rfl (by kernel_rfl) (fun K hK => ?_)
          go_simp
          have hbb9 := bone w8 (.cells #[.string xk.name, .int .i64 xk.kind, .int .i64 xk.low, .int .i64 xk.high, .slice Ai xk.items.length ci] 68)
          have hX9 := Off3.new hP8 68 #[.string xk.name, .int .i64 xk.kind, .int .i64 xk.low, .int .i64 xk.high, .slice Ai xk.items.length ci]
          have hP9 := hP8.now hbb9
          have hO9 := hO8.now hbb9
          have hV9 := hV8.now hbb9
          refine hK.out _ _ ⟨hO9.blk, hP9.bel⟩ (fun hHeld => ?_)
          clear hK K
          generalize hw9 : w8.alloc (.cells #[.string xk.name, .int .i64 xk.kind, .int .i64 xk.low, .int .i64 xk.high, .slice Ai xk.items.length ci] 68) = w9 at *
          clear hw9 hbb9 hP8 hO8
          refine onlyL 3 rfl rfl (by kernel_rfl) (fun K hK => ?_)
          refine wp_pickX (.tmp 118) (.tmp 120) ((xk, vk), (Ai, ci)) rfl hP9 hX9 rfl rfl HLX.out.1 ?_
          intro r10 w10 hP10 hT10
          have hO10 := hT10 _ _ _ hO9
          have hV10 := hT10 _ _ _ hV9
          refine hK.out _ _ ⟨hO10.blk, hP10.bel⟩ (fun hHeld => ?_)
          clear hK K hT10 hP9 hO9
          refine onlyL 10 rfl rfl (by kernel_rfl) (fun K hK => ?_)
          refine wp_pickV (.tmp 122) (.tmp 127) vk rfl hP10 hV10 rfl rfl HLX.out.2 ?_
          intro r11 w11 hP11 hT11
          have hO11 := hT11 _ _ _ hO10
          refine hK.out _ _ ⟨hO11.blk, hP11.bel⟩ (fun hHeld => ?_)
          clear hK K hT11 hP10 hO10
          refine doneL (by kernel_rfl) ?_
          simp only [List.drop_succ_cons, List.drop_zero]
          go_wp2_with fail
          go_roundw
          case rel =>
            obtain ⟨a1, a2, a3⟩ := HREL.out _ _ _ hP11
            exact ⟨k + 1, _, by omega, by go_num, a1, a2, a3⟩
          case measure => simp [intOf]; omega
    · obtain rfl : k = l.length := by omega
      have hvl := HLN.out.1
      have hwl := HLN.out.2
      have hFo : ∀ y ∈ (ownT (freeX x) l vs l.length).map Prod.snd, FitV y := by
        intro y hy
        rw [List.mem_map] at hy
        obtain ⟨p, hp, rfl⟩ := hy
        obtain ⟨i, _, h2⟩ := own_mem hp
        exact hv8.fits _ (List.mem_of_getElem? h2)
      have hFm : ∀ y ∈ mixT (freeX x) l vs ws l.length, FitV y := by
        intro y hy
        obtain ⟨i, hi⟩ := List.mem_iff_getElem?.1 hy
        have hil : i < l.length := by
          have := (List.getElem?_eq_some_iff.1 hi).1
          rw [mixT_len] at this
          omega
        have h3 := mixT_at (L := freeX x) hvl hwl l.length i _ (List.getElem?_eq_getElem hil)
        rw [hi] at h3
        split at h3
        · exact hv8.fits _ (List.mem_of_getElem? h3.symm)
        · exact hw8.fits _ (List.mem_of_getElem? h3.symm)
      have hxo := hP.sl hrx
      rw [show (xs.map fun p => p.1.1) = (ownT (freeX x) l vs l.length).map Prod.fst by rw [← hxs, List.map_map]; rfl] at hxo
      have hvo := OwnV.sl hP.vals hFo
      have hmo := OwnV.sl hP.mix hFm
      have hbB := hP.bel
      obtain ⟨HM1, HM2⟩ := matters HG.out.1 HG.out.2 HVX.out
      have HEK := Lib.hid (fun h => eval_kind HG.out.1 HVX.out h)
      have hol : ((ownT (freeX x) l vs l.length).map Prod.fst).length ≤ 1000000 := by
        have := (own_sub (freeX x) l vs l.length).length_le
        omega
      have hl9 := hl8.now hbB
      have hv9 := hv8.now hbB
      have hx9 := hx8.now hbB
      have hN9 := hN8.now hbB
      have hb9w := bthen hb8w hbB
      clear hFo hFm hvl hwl hP hrx hxs hbB hl8 hv8 hw8 hx8 hN8 hb8w hP9
      have HE2 : Hid (∀ W, Below wr.heap.size wr W → Calls Tryz.prog 15 #[.slice A l.length c, vm, exV x (.slice Ax x.l.length cx)] W (RetVE1 (evalE l vs x) W)) := by
        intro W hW
        have := evalE_any _ l _ x W _ _ _ (hl9.now hW) (hmo.now hW) (hx9.now hW) (by omega)
        rw [HM1] at this
        exact this
      have HE3 : Hid (∀ W, Below wr.heap.size wr W → Calls Tryz.prog 15 #[u16, u17, exV x (.slice Ax x.l.length cx)] W (RetVE1 (evalE l vs x) W)) := by
        intro W hW
        have := evalE_any _ _ _ x W _ _ _ (hxo.now hW) (hvo.now hW) (hx9.now hW) hol
        rw [HM2] at this
        exact this
      have HE1 := Lib.hid (evalE_any _ l vs x wr _ _ _ hl9 hv9 hx9 (by omega))
      have HTY : Hid (∀ W, Below wr.heap.size wr W → Calls Tryz.prog 13 #[.slice A l.length c, exV x (.slice Ax x.l.length cx)] W fun e w' => e = .returned (.tuple #[.int .i64 (givenE l x).1, .int .i64 (givenE l x).2]) ∧ Fit (givenE l x).1 ∧ Below W.heap.size W w') := by
        intro W hW
        exact type_any _ l x _ _ W (hl9.now hW) (hx9.now hW) (by omega)
      clear hmo hxo hvo hol HM1 HM2
      have hne : ∀ W, (binOp .neq 25 (.agg #[.int .i64 (evalE l vs x).1.kind, .int .i64 (evalE l vs x).1.n, .string (evalE l vs x).1.s]) (.agg #[.int .i64 (evalE l vs x).1.kind, .int .i64 (evalE l vs x).1.n, .string (evalE l vs x).1.s])).run Tryz.prog W = .ok (.bool false) W := fun W => by
        have := run_neV W (evalE l vs x).1 (evalE l vs x).1
        rw [decide_eq_true rfl] at this
        exact this
      generalize givenE l x = gv at *
      generalize evalE l vs x = ev at *
      obtain ⟨⟨ek, en, es⟩, ee⟩ := ev
      obtain ⟨gk, ge⟩ := gv
      obtain ⟨n0, n1, n2, n3, n4, n5⟩ := hN9.c6
      go_wp2_with fail
      (with_reducible refine HE1.out.mono ?_)
      rintro e wa ⟨rfl, hba⟩
      have hba := hba
      have hbb := bone wa (.cells #[.int .i64 ek, .int .i64 en, .string es] 25)
      have hEa := Blk.new wa 25 #[.int .i64 ek, .int .i64 en, .string es]
      have hbc := bthen hba hbb
      have HC := Lib.hid (HE2.out _ hbc)
      have hNb := hN9.now hbc
      clear HE1 HE2 n0 n1 n2 n3 n4 n5 hba hbb
      obtain ⟨n0, n1, n2, n3, n4, n5⟩ := hNb.c6
      go_wp2_with fail
      (with_reducible refine HC.out.mono ?_)
      rintro e wd ⟨rfl, hbd⟩
      have hEd := hEa.now hbd
      have hbe := bone wd (.cells #[.int .i64 ek, .int .i64 en, .string es] 25)
      have hFe := Blk.new wd 25 #[.int .i64 ek, .int .i64 en, .string es]
      have hEe := hEd.now hbe
      have hbf := bthen (bthen hbc hbd) hbe
      have HC := Lib.hid (HE3.out _ hbf)
      have hNf := hN9.now hbf
      clear HE3 n0 n1 n2 n3 n4 n5 hEa hEd hbd hbe hbc hNb
      obtain ⟨n0, n1, n2, n3, n4, n5⟩ := hNf.c6
      go_wp2_with fail
      (with_reducible refine HC.out.mono ?_)
      rintro e wg ⟨rfl, hbg⟩
      have hbh := bone wg (.cells #[.int .i64 ek, .int .i64 en, .string es] 25)
      have hGh := Blk.new wg 25 #[.int .i64 ek, .int .i64 en, .string es]
      have hEh := (hEe.now hbg).now hbh
      have hFh := (hFe.now hbg).now hbh
      have hbi := bthen (bthen hbf hbg) hbh
      have HC := Lib.hid (HTY.out _ hbi)
      have hNi := hN9.now hbi
      clear HTY n0 n1 n2 n3 n4 n5 hEe hFe hbg hbh hbf hNf
      obtain ⟨n0, n1, n2, n3, n4, n5⟩ := hNi.c6
      obtain ⟨a0, a1, a2⟩ := hEh.c3
      obtain ⟨b0, b1, b2⟩ := hFh.c3
      obtain ⟨c0, c1, c2⟩ := hGh.c3
      go_wp2_with fail
      refine HC.out.mono ?_
      rintro e wj ⟨rfl, _, hbj⟩
      have hEj := hEh.now hbj
      have hbk := bthen hb9w (bthen hbi hbj)
      clear HC n0 n1 n2 n3 n4 n5 a0 a1 a2 b0 b1 b2 c0 c1 c2 hEh hFh hGh hbi hbj hNi hne
      obtain ⟨a0, a1, a2⟩ := hEj.c3
      by_cases e1 : ge = 0
      · by_cases e2 : ee = 0
        · have hek := HEK.out e2
          subst e1 e2
          subst hek
          go_wp2_with fail
          go_ret
          exact ⟨rfl, hbk⟩
        · go_wp2_with fail
          go_ret
          exact ⟨rfl, hbk⟩
      · go_wp2_with fail
        go_ret
        exact ⟨rfl, hbk⟩
end Go.Proofs.YtijmnenojbfdnaaGreatDoor

namespace Go.Proofs.YtijmnenojbfdnaaGreatDoor
open Go.ChangeShapes Go.WideShapes Go.RowKit Go.Deep
theorem add_lit' (b o n j : Nat) : ((⟨b, o, none⟩ : Addr).add n).add j = ⟨b, o + n + j, none⟩ := by
  rw [add_add']; unfold Addr.add
  by_cases h : n + j = 0
  · have h1 : n = 0 := by omega
    have h2 : j = 0 := by omega
    subst h1 h2; rfl
  · rw [if_neg h]; simp [Nat.add_assoc]
theorem cell_spot {w : World} {a : Addr} {u : Value} (h : w.cell? a = some u) : a = ⟨a.block, a.off, none⟩ ∧ a.block < w.heap.size := by
  obtain ⟨b, o, s⟩ := a
  unfold World.cell? at h
  cases s with
  | none =>
    refine ⟨rfl, ?_⟩
    rcases Nat.lt_or_ge b w.heap.size with h' | h'
    · exact h'
    · simp [Array.getElem?_eq_none h'] at h
  | some s => split at h <;> simp at h
section
variable {H : Type} {enc : TypeId × Value → H} {P : Program} {w : World} {base : Nat} {spare : Nat → Bool} {held : Bool}
theorem Sl.of_trod {α : Type} [Inhabited α] {size : Nat} {R : ElemR α} {t e : TypeId} {fuel : Nat} {v : Value} {x : DataW H × List MemPlace} (ht : P.underlying t = some (.slice e)) (hsz : P.cellsOf e = size) (hs0 : 0 < size)
    (hR : ∀ (fuel' : Nat) (cs : List Value) (y : DataW H × List MemPlace), DataW.trod enc P w base spare held fuel' e cs = some y → ∃ z, R (Lt w.heap.size) w z cs)
    (h : DataW.trod enc P w base spare held fuel t [v] = some x) : ∃ xs, Sl size R (Lt w.heap.size) w v xs := by
  rcases open_slice ht h with ⟨hv, _⟩ | ⟨a, len, cap, m, n, D, Pl, hv, _, hl, hm, hmm, _, hi⟩
  · injection hv with hv; subst hv; exact ⟨[], Sl.none_⟩
  · injection hv with hv
    subst hv
    have hlm : len ≤ m := by rw [hmm]; split <;> omega
    have key : ∀ i, ∃ z : α, i < len → ∃ cs : List Value, cs.length = size ∧ R (Lt w.heap.size) w z cs ∧ ∀ j, j < size → w.cell? ((a.add (i * size)).add j) = cs[j]? := by
      intro i
      by_cases hlt : i < len
      · obtain ⟨cs', hc, htr⟩ := hi i (by omega)
        rw [hsz] at hc
        obtain ⟨z, hz⟩ := hR _ _ _ htr
        obtain ⟨_, hcl, hat⟩ := World.cells?_some hc
        exact ⟨z, fun _ => ⟨cs', hcl, hz, hat⟩⟩
      · exact ⟨default, fun h' => absurd h' hlt⟩
    refine ⟨(List.range len).map fun i => Classical.choose (key i), some a, cap, by simp, by simpa using hl, hm, fun i z hz => ?_⟩
    rw [List.getElem?_map] at hz
    have hlt : i < len := by
      rcases Nat.lt_or_ge i len with h' | h'
      · exact h'
      · rw [List.getElem?_eq_none (by simpa using h')] at hz; simp at hz
    rw [List.getElem?_range hlt] at hz
    injection hz with hz
    obtain ⟨cs, hcl, hr, hat⟩ := Classical.choose_spec (key i) hlt
    obtain ⟨cs0, hcl0, _, hat0⟩ := Classical.choose_spec (key 0) (by omega)
    have h00 := hat0 0 hs0
    have hc0 : cs0[0]? = some (cs0[0]'(by omega)) := List.getElem?_eq_getElem (by omega)
    rw [hc0] at h00
    have ha0 : (a.add (0 * size)).add 0 = a := by simp [Addr.add]
    rw [ha0] at h00
    obtain ⟨ha, hblk⟩ := cell_spot h00
    replace hz : Classical.choose (key i) = z := hz
    rw [hz] at hr
    refine ⟨a.block, a.off, cs, by rw [← ha], hblk, hcl, hr, fun j u hu => ?_⟩
    have hj : j < size := by
      rcases Nat.lt_or_ge j cs.length with h' | h'
      · omega
      · rw [List.getElem?_eq_none h'] at hu; cases hu
    have := hat j hj
    rw [ha, add_lit'] at this
    rw [this, hu]
theorem fit_of_wf {n : Int} (h : (Lit.int .i64 n).wf = true) : Fit n := by
  have h' : decide ((-9223372036854775808 : Int) ≤ n) = true ∧ decide (n ≤ (9223372036854775807 : Int)) = true := by
    rw [← Bool.and_eq_true]; exact h
  unfold Fit
  simpa using h'
theorem SlI.of_trod {t e : TypeId} {fuel : Nat} {v : Value} {x : DataW H × List MemPlace} (ht : P.underlying t = some (.slice e)) (he : P.underlying e = some (.int .i64)) (hc : P.cellsOf e = 1)
    (h : DataW.trod enc P w base spare held fuel t [v] = some x) : ∃ zs, SlI (Lt w.heap.size) w v zs :=
  Sl.of_trod ht hc (by omega) (fun _ cs y hy => by
    obtain ⟨k, e1, e2, e3⟩ := DataW.trod_int he hy
    exact ⟨k, e1, fit_of_wf e3⟩) h
theorem SlS.of_trod {t e : TypeId} {fuel : Nat} {v : Value} {x : DataW H × List MemPlace} (ht : P.underlying t = some (.slice e)) (he : P.underlying e = some .string) (hc : P.cellsOf e = 1)
    (h : DataW.trod enc P w base spare held fuel t [v] = some x) : ∃ zs, SlS (Lt w.heap.size) w v zs :=
  Sl.of_trod ht hc (by omega) (fun _ cs y hy => by
    obtain ⟨k, e1, e2, e3⟩ := DataW.trod_string he hy
    exact ⟨k, e1, e3⟩) h
theorem post_of_below {f : Func} {s : ChangeSpec} {apart fresh handsOn again : Bool} {W W' : World} {args : Array Value} {v : Value} {ds gs : List (DataW H)} {before pa pv : List MemPlace}
    (hW : DataW.Whole enc P f.params.toList s.vars apart W args.toList ds gs before)
    (hres : ∀ (b : Nat) (sp : Nat → Bool) (hd : Bool), DataW.TrodAll enc P W' b sp hd f.resultTypes.toList (v.resultList f.resultTypes.size) (s.fn H (ds ++ gs)).results [])
    (hargs : ∀ sp : Nat → Bool, (∀ p ∈ before, sp p.block = true) → DataW.TrodAll enc P W' 0 sp true f.params.toList args.toList (s.fn H (ds ++ gs)).args pa)
    (hvars : ∀ sp : Nat → Bool, (∀ p ∈ before, sp p.block = true) → DataW.TrodVars enc P W' sp s.vars (s.fn H (ds ++ gs)).vars pv)
    (hps : before = pa ++ pv) (hb : Below W.heap.size W W')
    (hok : ∀ (j : Nat) (t : TypeId) (r : Value), f.resultTypes[j]? = some t → (v.resultList f.resultTypes.size)[j]? = some r → Value.okWide P W' .any 0 t r) :
    s.post enc P f apart fresh handsOn again W args v W' := by
  have hlt : ∀ p ∈ before, p.block < W.heap.size := fun p hp => hW.lt p hp
  have hold : ∀ p ∈ before, (fun b => decide (b < W.heap.size)) p.block = true := fun p hp => by simpa using hlt p hp
  refine ⟨ds, gs, before, [], pa, pv, hW, hres _ _ _, hargs _ hold, hvars _ hold, World.keptBut_mono (fun p hp => ⟨hp, ?_⟩) (hb.frame (· ∈ before)), fun _ => ?_⟩
  · rw [hps, List.mem_append] at hp
    exact Or.inr hp
  · obtain ⟨_, _, _, _, _, hz, hn⟩ := hW
    refine ⟨hok, _, _, ([] ++ pa) ++ pv, ⟨[] ++ pa, pv, trodAll_append (hargs _ (fun _ _ => rfl)) (hres _ _ _), hvars _ (fun _ _ => rfl), rfl, ?_, ?_⟩, ?_⟩
    · intro b off hp
      have hin : MemPlace.cell b off ∈ before := by rw [hps]; simpa using hp
      rw [hb.frozen (hlt _ hin)]
      exact hz b off hin
    · intro ha
      have := hn ha
      rw [hps] at this
      simpa using this
    · intro p hp _
      rw [hps]
      simpa using hp
end
end Go.Proofs.YtijmnenojbfdnaaGreatDoor

namespace Go.Proofs.YtijmnenojbfdnaaGreatDoor
open Go.ChangeShapes Go.WideShapes Go.ChangeAt Go.RowKit Go.Deep
theorem own : ownKnob Tryz.prog.godebug = none := by kernel_rfl
theorem laidOut : laidOutB Tryz.prog = true := by kernel_rfl
theorem door_met (os : Os) (args : Array Value) : laidMetH Tryz.prog Rows.exprValuesRow.laid ((World.doorLaid Tryz.prog 400 os).forCall (fun _ _ => 0) ⟨#[], args, []⟩).memory :=
  laidMetH_of_parts3 (fuel := 80) (laidMet_of_run' 80 (by kernel_rfl) (by kernel_rfl)) (by kernel_rfl) (by kernel_rfl)
theorem stays {H : Type} {enc : TypeId × Value → H} {t : TypeId} (hr : Tryz.prog.readableRec t = true) (hrow : t < Tryz.prog.types.size) {W W' : World} {v : Value} {d : DataW H} {ps : List MemPlace} {sp : Nat → Bool}
    (h : DataW.Trod enc Tryz.prog W 0 (fun _ => true) true t v d ps) (hb : Below W.heap.size W W') (hlt : ∀ x ∈ ps, x.block < W.heap.size) (hsp : ∀ x ∈ ps, sp x.block = true) : DataW.Trod enc Tryz.prog W' 0 sp true t v d ps :=
  WideElems.Trod_stays laidOut hr hrow h (fun x hx => hb.same (hlt x hx)) hsp
theorem readVals : Tryz.prog.readableRec 23 = true := by kernel_rfl
theorem readVars : Tryz.prog.readableRec 22 = true := by kernel_rfl
theorem rowVals : 23 < Tryz.prog.types.size := of_decide_eq_true (by kernel_rfl)
theorem rowVars : 22 < Tryz.prog.types.size := of_decide_eq_true (by kernel_rfl)
theorem cellsInt : Tryz.prog.cellsOf 3 = 1 := by kernel_rfl
theorem cellsStr : Tryz.prog.cellsOf 9 = 1 := by kernel_rfl
theorem cellsStrs : Tryz.prog.cellsOf 46 = 1 := by kernel_rfl
theorem cellsVal : Tryz.prog.cellsOf 25 = 3 := by kernel_rfl
theorem cellsVar : Tryz.prog.cellsOf 68 = 5 := by kernel_rfl
instance : Inhabited Ex := ⟨.mk 0 noV emptyS []⟩
instance : Inhabited Val := ⟨noV⟩
instance : Inhabited Var := ⟨⟨emptyS, 0, 0, 0, []⟩⟩
theorem readEx : Tryz.prog.readableRec 28 = true := by kernel_rfl
theorem rowEx : 28 < Tryz.prog.types.size := of_decide_eq_true (by kernel_rfl)
theorem cellsExpr : Tryz.prog.cellsOf 28 = 6 := by kernel_rfl
theorem cellsExprs : Tryz.prog.cellsOf 26 = 1 := by kernel_rfl
section
variable {H : Type} {enc : TypeId × Value → H} {P : Program} {w : World} {base : Nat} {spare : Nat → Bool} {held : Bool}
theorem Sl.of_trodN {α : Type} [Inhabited α] {size : Nat} {R : ElemR α} {t e : TypeId} {fuel : Nat} {v : Value} {x : DataW H × List MemPlace} (ht : P.underlying t = some (.slice e)) (hsz : P.cellsOf e = size) (hs0 : 0 < size)
    (hR : ∀ (fuel' : Nat), fuel' < fuel → ∀ (cs : List Value) (y : DataW H × List MemPlace), DataW.trod enc P w base spare held fuel' e cs = some y → ∃ z, R (Lt w.heap.size) w z cs)
    (h : DataW.trod enc P w base spare held fuel t [v] = some x) : ∃ xs, Sl size R (Lt w.heap.size) w v xs := by
  rcases DataW.trod_slice ht h with ⟨hv, _⟩ | ⟨a, len, cap, elems, rest, n, hfu, hv, _, _, hl, hm, hlen, hi, _, _⟩
  · injection hv with hv; subst hv; exact ⟨[], Sl.none_⟩
  · injection hv with hv
    subst hv
    have key : ∀ i, ∃ z : α, i < len → ∃ cs : List Value, cs.length = size ∧ R (Lt w.heap.size) w z cs ∧ ∀ j, j < size → w.cell? ((a.add (i * size)).add j) = cs[j]? := by
      intro i
      by_cases hlt : i < len
      · have hh := hi i hlt
        rw [List.getElem?_eq_getElem (by omega)] at hh
        obtain ⟨cs', hc, htr⟩ := Option.bind_eq_some_iff.1 hh
        rw [hsz] at hc
        obtain ⟨z, hz⟩ := hR n (by omega) _ _ htr
        obtain ⟨_, hcl, hat⟩ := World.cells?_some hc
        exact ⟨z, fun _ => ⟨cs', hcl, hz, hat⟩⟩
      · exact ⟨default, fun h' => absurd h' hlt⟩
    refine ⟨(List.range len).map fun i => Classical.choose (key i), some a, cap, by simp, by simpa using hl, hm, fun i z hz => ?_⟩
    rw [List.getElem?_map] at hz
    have hlt : i < len := by
      rcases Nat.lt_or_ge i len with h' | h'
      · exact h'
      · rw [List.getElem?_eq_none (by simpa using h')] at hz; simp at hz
    rw [List.getElem?_range hlt] at hz
    injection hz with hz
    obtain ⟨cs, hcl, hr, hat⟩ := Classical.choose_spec (key i) hlt
    obtain ⟨cs0, hcl0, _, hat0⟩ := Classical.choose_spec (key 0) (by omega)
    have h00 := hat0 0 hs0
    have hc0 : cs0[0]? = some (cs0[0]'(by omega)) := List.getElem?_eq_getElem (by omega)
    rw [hc0] at h00
    have ha0 : (a.add (0 * size)).add 0 = a := by simp [Addr.add]
    rw [ha0] at h00
    obtain ⟨ha, hblk⟩ := cell_spot h00
    replace hz : Classical.choose (key i) = z := hz
    rw [hz] at hr
    refine ⟨a.block, a.off, cs, by rw [← ha], hblk, hcl, hr, fun j u hu => ?_⟩
    have hj : j < size := by
      rcases Nat.lt_or_ge j cs.length with h' | h'
      · omega
      · rw [List.getElem?_eq_none h'] at hu; cases hu
    have := hat j hj
    rw [ha, add_lit'] at this
    rw [this, hu]
theorem trod_struct4N {t : TypeId} {f0 f1 f2 f3 : Field} {fuel : Nat} {cs : List Value} {x : DataW H × List MemPlace} (ht : P.underlying t = some (.struct #[f0, f1, f2, f3])) (h : DataW.trod enc P w base spare held fuel t cs = some x) :
    ∃ y0 y1 y2 y3 n, fuel = n + 1 ∧ cs.length = P.cellsOf t ∧ DataW.trod enc P w base spare held n f0.type ((cs.drop f0.offset).take (P.cellsOf f0.type)) = some y0 ∧
      DataW.trod enc P w base spare held n f1.type ((cs.drop f1.offset).take (P.cellsOf f1.type)) = some y1 ∧ DataW.trod enc P w base spare held n f2.type ((cs.drop f2.offset).take (P.cellsOf f2.type)) = some y2 ∧
      DataW.trod enc P w base spare held n f3.type ((cs.drop f3.offset).take (P.cellsOf f3.type)) = some y3 := by
  obtain ⟨xs, n, hn, rfl, hl, hlen, hf⟩ := DataW.trod_struct ht h
  match xs, hlen with
  | [y0, y1, y2, y3], _ => exact ⟨y0, y1, y2, y3, n, hn, hl, by simpa using hf 0 f0 rfl, by simpa using hf 1 f1 rfl, by simpa using hf 2 f2 rfl, by simpa using hf 3 f3 rfl⟩
end
section
variable {H : Type} {enc : TypeId × Value → H} {w : World} {base : Nat} {spare : Nat → Bool} {held : Bool}
theorem trod_struct5 {P : Program} {t : TypeId} {f0 f1 f2 f3 f4 : Field} {fuel : Nat} {cs : List Value} {x : DataW H × List MemPlace} (ht : P.underlying t = some (.struct #[f0, f1, f2, f3, f4])) (h : DataW.trod enc P w base spare held fuel t cs = some x) :
    ∃ y0 y1 y2 y3 y4 n, cs.length = P.cellsOf t ∧ DataW.trod enc P w base spare held n f0.type ((cs.drop f0.offset).take (P.cellsOf f0.type)) = some y0 ∧
      DataW.trod enc P w base spare held n f1.type ((cs.drop f1.offset).take (P.cellsOf f1.type)) = some y1 ∧ DataW.trod enc P w base spare held n f2.type ((cs.drop f2.offset).take (P.cellsOf f2.type)) = some y2 ∧
      DataW.trod enc P w base spare held n f3.type ((cs.drop f3.offset).take (P.cellsOf f3.type)) = some y3 ∧ DataW.trod enc P w base spare held n f4.type ((cs.drop f4.offset).take (P.cellsOf f4.type)) = some y4 := by
  obtain ⟨xs, n, _, rfl, hl, hlen, hf⟩ := DataW.trod_struct ht h
  match xs, hlen with
  | [y0, y1, y2, y3, y4], _ => exact ⟨y0, y1, y2, y3, y4, n, hl, by simpa using hf 0 f0 rfl, by simpa using hf 1 f1 rfl, by simpa using hf 2 f2 rfl, by simpa using hf 3 f3 rfl, by simpa using hf 4 f4 rfl⟩
set_option maxRecDepth 100000 in
theorem valCells_of (fuel : Nat) (cs : List Value) (y : DataW H × List MemPlace) (h : DataW.trod enc Tryz.prog w base spare held fuel 25 cs = some y) : ∃ v, RVal (Lt w.heap.size) w v cs := by
  obtain ⟨y0, y1, y2, n, _, hl, h0, h1, h2⟩ := trod_struct3 Tryz.underlying25 h
  rw [cellsVal] at hl
  match cs, hl with
  | [c0, c1, c2], _ =>
    simp only [cellsStr, cellsInt, List.drop_zero, List.take_succ_cons, List.take_zero, List.drop_succ_cons] at h0 h1 h2
    obtain ⟨a, e0, _, w0⟩ := DataW.trod_int Tryz.underlying3 h0
    obtain ⟨b, e1, _, w1⟩ := DataW.trod_int Tryz.underlying3 h1
    obtain ⟨s, e2, _, hs⟩ := DataW.trod_string Tryz.underlying9 h2
    injection e0 with e0; injection e1 with e1; injection e2 with e2
    subst e0 e1 e2
    exact ⟨⟨a, b, s⟩, rfl, fit_of_wf w0, fit_of_wf w1, hs⟩
set_option maxRecDepth 100000 in
theorem varCells_of (fuel : Nat) (cs : List Value) (y : DataW H × List MemPlace) (h : DataW.trod enc Tryz.prog w base spare held fuel 68 cs = some y) : ∃ x, RVar (Lt w.heap.size) w x cs := by
  obtain ⟨y0, y1, y2, y3, y4, n, hl, h0, h1, h2, h3, h4⟩ := trod_struct5 Tryz.underlying68 h
  rw [cellsVar] at hl
  match cs, hl with
  | [c0, c1, c2, c3, c4], _ =>
    simp only [cellsStr, cellsInt, cellsStrs, List.drop_zero, List.take_succ_cons, List.take_zero, List.drop_succ_cons] at h0 h1 h2 h3 h4
    obtain ⟨s, e0, _, hs⟩ := DataW.trod_string Tryz.underlying9 h0
    obtain ⟨a, e1, _, w1⟩ := DataW.trod_int Tryz.underlying3 h1
    obtain ⟨b, e2, _, w2⟩ := DataW.trod_int Tryz.underlying3 h2
    obtain ⟨c, e3, _, w3⟩ := DataW.trod_int Tryz.underlying3 h3
    obtain ⟨zs, hz⟩ := SlS.of_trod Tryz.underlying46 Tryz.underlying9 cellsStr h4
    injection e0 with e0; injection e1 with e1; injection e2 with e2; injection e3 with e3
    subst e0 e1 e2 e3
    exact ⟨⟨s, a, b, c, zs⟩, c4, rfl, hs, fit_of_wf w1, fit_of_wf w2, fit_of_wf w3, hz⟩
set_option maxRecDepth 100000 in
theorem slice_of {r : Reach} {b0 : Nat} {v : Value} {d : DataW H} {p : List MemPlace} {t e : TypeId} (hs : Tryz.prog.underlying t = some (.slice e)) (hv : Value.okWide Tryz.prog w r b0 t v) (h : DataW.Trod enc Tryz.prog w base spare held t v d p) : ∃ fuel x, DataW.trod enc Tryz.prog w base spare held fuel t [v] = some x := by
  obtain ⟨a, len, cap, rfl⟩ := okWide_slice hs hv
  obtain ⟨fuel, hf⟩ := h
  exact ⟨fuel, (d, p), hf⟩
set_option maxRecDepth 100000 in
theorem vars_of {r : Reach} {b0 : Nat} {v : Value} {d : DataW H} {p : List MemPlace} (hv : Value.okWide Tryz.prog w r b0 22 v) (h : DataW.Trod enc Tryz.prog w base spare held 22 v d p) : ∃ l, SlX (Lt w.heap.size) w v l := by
  obtain ⟨_, _, hy⟩ := slice_of Tryz.underlying22 hv h
  exact Sl.of_trod (R := RVar) (size := 5) Tryz.underlying22 cellsVar (by omega) varCells_of hy
set_option maxRecDepth 100000 in
theorem vals_of {r : Reach} {b0 : Nat} {v : Value} {d : DataW H} {p : List MemPlace} (hv : Value.okWide Tryz.prog w r b0 23 v) (h : DataW.Trod enc Tryz.prog w base spare held 23 v d p) : ∃ l, SlV (Lt w.heap.size) w v l := by
  obtain ⟨_, _, hy⟩ := slice_of Tryz.underlying23 hv h
  exact Sl.of_trod (R := RVal) (size := 3) Tryz.underlying23 cellsVal (by omega) valCells_of hy
set_option maxRecDepth 100000 in
theorem exCells_of : ∀ (N fuel : Nat), fuel ≤ N → ∀ (cs : List Value) (y : DataW H × List MemPlace), DataW.trod enc Tryz.prog w base spare held fuel 28 cs = some y → ∃ x, RExN N (Lt w.heap.size) w x cs := by
  intro N
  induction N with
  | zero =>
    intro fuel hf cs y h
    obtain ⟨_, _, _, _, n, hn, _⟩ := trod_struct4N Tryz.underlying28 h
    omega
  | succ N ih =>
    intro fuel hf cs y h
    obtain ⟨y0, y1, y2, y3, n, hn, hl, h0, h1, h2, h3⟩ := trod_struct4N Tryz.underlying28 h
    rw [cellsExpr] at hl
    match cs, hl with
    | [c0, c1, c2, c3, c4, c5], _ =>
      simp only [cellsStr, cellsInt, cellsVal, cellsExprs, List.drop_zero, List.take_succ_cons, List.take_zero, List.drop_succ_cons] at h0 h1 h2 h3
      obtain ⟨a, e0, _, w0⟩ := DataW.trod_int Tryz.underlying3 h0
      obtain ⟨v, ev, hfv⟩ := valCells_of _ _ _ h1
      obtain ⟨s, e2, _, hs⟩ := DataW.trod_string Tryz.underlying9 h2
      obtain ⟨zs, hz⟩ := Sl.of_trodN (R := RExN N) (size := 6) Tryz.underlying26 cellsExpr (by omega) (fun f hlt cs y hh => ih f (by omega) cs y hh) h3
      injection e0 with e0
      injection ev with e1 ev; injection ev with e3 ev; injection ev with e4 _
      injection e2 with e2
      subst e0 e1 e2 e3 e4
      exact ⟨.mk a v s zs, c5, rfl, fit_of_wf w0, hfv, hs, hz⟩
set_option maxRecDepth 100000 in
theorem ex_of {r : Go.Reach} {b0 : Nat} {v : Value} {dd : DataW H} {p : List MemPlace} (hv : Value.okWide Tryz.prog w r b0 28 v) (h : DataW.Trod enc Tryz.prog w base spare held 28 v dd p) : ∃ (n : Nat) (x : Ex), IsEx n (Lt w.heap.size) w v x := by
  obtain ⟨cs, rfl, hsz⟩ := okWide_struct Tryz.underlying28 hv
  rw [cellsExpr] at hsz
  obtain ⟨fuel, hf⟩ := h
  obtain ⟨l⟩ := cs
  match l, hsz with
  | [c0, c1, c2, c3, c4, c5], _ =>
    obtain ⟨x, hx⟩ := exCells_of (fuel + 1) fuel (by omega) _ _ hf
    obtain ⟨lv, ec, h1, h2, h3, h4⟩ := hx
    simp only [Value.cells] at ec
    injection ec with e0 ec; injection ec with e1 ec; injection ec with e2 ec; injection ec with e3 ec; injection ec with e4 ec; injection ec with e5 _
    subst e0 e1 e2 e3 e4 e5
    exact ⟨fuel, x, _, rfl, h1, h2, h3, h4⟩
end
theorem laid_at {P : Program} {w : World} {n : String} {d : DataW Unit} : ∀ {l : List (String × DataW Unit)} {ps : List MemPlace}, DataW.LaidVars P w l ps → (n, d) ∈ l →
    ∃ g t cs fuel p, P.globalNamed n = some g ∧ (P.globals[g]?).map (·.type) = some t ∧ w.var? P n = some cs ∧ DataW.trod (fun _ => ()) P w 0 (fun _ => true) false fuel t cs.toList = some (d, p) := by
  intro l
  induction l with
  | nil => intro ps _ h; cases h
  | cons a l ih =>
    intro ps h hm
    obtain ⟨n', d'⟩ := a
    obtain ⟨g, t, cs, fuel, p, q, h1, h2, h3, h4, h5, _⟩ := h
    rcases List.mem_cons.1 hm with e | hm
    · injection e with e1 e2
      subst e1 e2
      exact ⟨g, t, cs, fuel, p, h1, h2, h3, h4⟩
    · exact ih h5 hm
theorem tab_same : (Rows.laid_internal_strconv_uint64pow10 : DataW Unit) = Lib.tabData .u64 Lib.pow10Tab := by rfl
theorem gPow : Tryz.prog.globalNamed "internal/strconv.uint64pow10" = some 3 := by kernel_rfl
theorem tPow : (Tryz.prog.globals[3]?).map (·.type) = some 225 := by kernel_rfl
theorem tab_of {P : Program} {w : World} {n : String} {g : Nat} {t e : TypeId} {m : Nat} {k : IntKind} {zs : List Int} {l : List (String × DataW Unit)} {ps : List MemPlace} (hl : DataW.LaidVars P w l ps) (hm : (n, Lib.tabData k zs) ∈ l)
    (hg : P.globalNamed n = some g) (hty : (P.globals[g]?).map (·.type) = some t) (ht : P.underlying t = some (.array m e)) (he : P.underlying e = some (.int k)) (hce : P.cellsOf e = 1) (hct : P.cellsOf t = m) : Lib.TabIs P w n k zs := by
  obtain ⟨g', t', cs, fuel, p, h1, h2, h3, h4⟩ := laid_at hl hm
  obtain rfl := Option.some.inj (hg.symm.trans h1)
  obtain rfl := Option.some.inj (hty.symm.trans h2)
  unfold Lib.TabIs
  rw [h3, ← Lib.cells_of_tab ht he hce hct h4]
theorem laid_list : Rows.exprValuesRow.laid = [("math/bits.deBruijn32tab", Rows.laid_math_bits_deBruijn32tab), ("math/bits.deBruijn64tab", Rows.laid_math_bits_deBruijn64tab), ("internal/strconv.uint64pow10", Rows.laid_internal_strconv_uint64pow10), ("strconv.ErrRange", Rows.laid_strconv_ErrRange), ("strconv.ErrSyntax", Rows.laid_strconv_ErrSyntax)] := rfl
theorem cellsU64 : Tryz.prog.cellsOf 175 = 1 := by kernel_rfl
theorem cellsTab : Tryz.prog.cellsOf 225 = 20 := by kernel_rfl
theorem uTab : Tryz.prog.underlying 225 = some (.array 20 175) := by kernel_rfl
theorem uU64 : Tryz.prog.underlying 175 = some (.int .u64) := by kernel_rfl
theorem met_plain {w : World} (h : laidMetH Tryz.prog Rows.exprValuesRow.laid w) : laidMet Tryz.prog Rows.exprValuesRow.laid w := h
theorem amb_of {w : World} (h : laidMetH Tryz.prog Rows.exprValuesRow.laid w) : Amb w := by
  obtain ⟨ps, hl, _⟩ := met_plain h
  rw [laid_list] at hl
  exact ⟨tab_of hl (by rw [← tab_same]; simp only [List.mem_cons, true_or, or_true]) gPow tPow uTab uU64 cellsU64 cellsTab⟩
end Go.Proofs.YtijmnenojbfdnaaGreatDoor
