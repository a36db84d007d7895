/- Texts of this seat, merged. -/
import Derived.Test.YtlmenhjlgmejkaaGreatDoorIn10
import Derived.Test.YtlmenhjlgmejkaaGreatDoorIn06
import Derived.Test.YtlmenhjlgmejkaaGreatDoorIn05
import Derived.Test.YtlmenhjlgmejkaaGreatDoorIn02
import Derived.WalkKit
import Derived.WalkSpells
import Derived.WalkLawsBesides
import Derived.Lib.Hide
import Derived.Deep.Draws
import Derived.Deep.OwnRows
import Derived.Test.YtlmenhjlgmejkaaGreatDoorIn01
import Derived.Test.YtlmenhjlgmejkaaGreatDoorProg
import Derived.Outline
import Derived.Deep.Light
import Derived.Lib.SlicesCompact
import Derived.Deep.RegionWith
import Derived.Test.YtlmenhjlgmejkaaGreatDoorIn04
import Derived.Deep.QuietTactic
import Derived.BigQuiet
import Derived.Deep.RegionHeld3
import Derived.Test.YtlmenhjlgmejkaaGreatDoorIn03
import Derived.Shelf.Abstract
import Derived.Laws.IdiomStrings
import Derived.Maps.AppendAt
import Derived.Deep.AppendLies
import Derived.RegionTactic
import Derived.OwnWalk
import Derived.Sort.OwnSorted
import Derived.Lib.Bytes
import Derived.Shelf.Strings.Builder1
import Derived.Shelf.Small.Bits
import Derived.Shelf.Small.Wraps
import Derived.Shelf.Strings.BuilderF
import Derived.Shelf.Strings.BuilderK
import Derived.Shelf.Strconv.Itoa0
import Derived.Shelf.Strconv.Itoa1
import Derived.Shelf.LaysM
import Derived.Shelf.Strconv.Itoa2
import Derived.Shelf.Strconv.Itoa3
import Derived.Shelf.Sort.Plain
import Derived.Shelf.Strings.BuilderCap
import Derived.Shelf.Slices.Turned
import Derived.Shelf.Slices.Reverse
import Derived.Shelf.Slices.Equal
import Derived.Ground.Names2Prog
import Derived.Shelf.Slices.Clone
import Derived.Shelf.Slices.CompactS
import Derived.Shelf.Slices.Cells
import Derived.Shelf.Slices.In.SortNone
import Derived.Shelf.Slices.Empties2
import Derived.Maps.OwnOps
import Derived.Maps.OwnSet
import Derived.Maps.Views
import Derived.StringKeys
import Derived.Lib.Builder
import Derived.Lib.AppendStr
import Derived.Lib.UnsafeStr
import Derived.Lib.FrozenHead2
import Derived.Lib.OthersKept
import Derived.Laws.Externs
import Derived.Test.YtlmenhjlgmejkaaGreatDoorIn11
import Derived.Test.YtlmenhjlgmejkaaGreatDoorIn12
import Derived.Test.YtlmenhjlgmejkaaGreatDoorIn15
import Derived.Test.YtlmenhjlgmejkaaGreatDoorIn14
import Derived.Test.YtlmenhjlgmejkaaGreatDoorIn13
import Derived.Test.YtlmenhjlgmejkaaGreatDoorIn09
import Derived.Lib.Slices
import Derived.Test.YtlmenhjlgmejkaaGreatDoorIn08
import Derived.Test.YtlmenhjlgmejkaaGreatDoorIn07
import Derived.Laws.MakeOwn
import Derived.Laws.Entries
import Derived.Test.YtlmenhjlgmejkaaGreatDoorWi01
import Derived.Test.YtlmenhjlgmejkaaGreatDoorWi02
import Derived.Test.YtlmenhjlgmejkaaGreatDoorWi03
import Derived.Test.YtlmenhjlgmejkaaGreatDoorWi04
import Derived.Test.YtlmenhjlgmejkaaGreatDoorWi05
set_option linter.unusedSimpArgs false
set_option linter.unusedVariables false
namespace Go.Proofs.YtlmenhjlgmejkaaGreatDoor
open Go.RowKit
theorem key_at (s : ByteArray) : decide (0 ≤ atS keyBA s) = keyB s := by
  rw [atS_any, key_or]
  have t : ∀ (l : List UInt8), (⟨l.toArray⟩ : ByteArray).toList = l := fun l => by rw [Lib.toList_data]
  have e : ∀ l : List UInt8, (l == s.toList) = (s.toList == l) := fun l => by rw [Bool.eq_iff_iff]; simp only [beq_iff_eq]; exact eq_comm
  show ((⟨[97, 110, 100].toArray⟩ : ByteArray).toList == s.toList || ((⟨[101, 108, 115, 101].toArray⟩ : ByteArray).toList == s.toList || ((⟨[102, 97, 108, 115, 101].toArray⟩ : ByteArray).toList == s.toList || ((⟨[105, 102].toArray⟩ : ByteArray).toList == s.toList || ((⟨[105, 110].toArray⟩ : ByteArray).toList == s.toList || ((⟨[110, 111, 116].toArray⟩ : ByteArray).toList == s.toList || ((⟨[111, 114].toArray⟩ : ByteArray).toList == s.toList || ((⟨[116, 104, 101, 110].toArray⟩ : ByteArray).toList == s.toList || ((⟨[116, 114, 117, 101].toArray⟩ : ByteArray).toList == s.toList || false))))))))) = _
  rw [t [97, 110, 100], t [101, 108, 115, 101], t [102, 97, 108, 115, 101], t [105, 102], t [105, 110], t [110, 111, 116], t [111, 114], t [116, 104, 101, 110], t [116, 114, 117, 101], e [97, 110, 100], e [101, 108, 115, 101], e [102, 97, 108, 115, 101], e [105, 102], e [105, 110], e [110, 111, 116], e [111, 114], e [116, 104, 101, 110], e [116, 114, 117, 101], Bool.or_false]
  simp only [Bool.or_assoc]
theorem keys_ref (w : World) : Calls Tryz.prog 213 #[] w fun e w' => e = .returned (.slice (some ⟨w.heap.size, 0, none⟩) 9 9) ∧ w' = w.alloc (.cells #[.string ⟨#[97, 110, 100]⟩, .string ⟨#[101, 108, 115, 101]⟩, .string ⟨#[102, 97, 108, 115, 101]⟩, .string ⟨#[105, 102]⟩, .string ⟨#[105, 110]⟩, .string ⟨#[110, 111, 116]⟩, .string ⟨#[111, 114]⟩, .string ⟨#[116, 104, 101, 110]⟩, .string ⟨#[116, 114, 117, 101]⟩] 9) := by
  go_enter Tryz.func213, Tryz.ntmps213
  go_wp2_with fail
  go_ret
  exact ⟨rfl, rfl⟩
set_option maxHeartbeats 1000000 in
theorem key_ref (s : ByteArray) (w : World) : Calls Tryz.prog 195 #[.string s] w fun e w' => e = .returned (.bool (keyB s)) ∧ Below w.heap.size w w' := by
  have hB := Blk.new w 9 (keyBA.map Value.string).toArray
  have hb := bone w (.cells (keyBA.map Value.string).toArray 9)
  have hS : SlS (Lt _) _ _ keyBA := SlS.ofBlk hB (by unfold maxLen keyBA; simp) (by intro z hz; unfold maxLen; simp only [keyBA, List.mem_cons, List.not_mem_nil, or_false] at hz; rcases hz with rfl | rfl | rfl | rfl | rfl | rfl | rfl | rfl | rfl <;> simp [ByteArray.size])
  have hcells : (keyBA.map Value.string).toArray = #[.string ⟨#[97, 110, 100]⟩, .string ⟨#[101, 108, 115, 101]⟩, .string ⟨#[102, 97, 108, 115, 101]⟩, .string ⟨#[105, 102]⟩, .string ⟨#[105, 110]⟩, .string ⟨#[110, 111, 116]⟩, .string ⟨#[111, 114]⟩, .string ⟨#[116, 104, 101, 110]⟩, .string ⟨#[116, 114, 117, 101]⟩] := rfl
  have hlen : keyBA.length = 9 := rfl
  rw [hcells] at hB hb hS
  rw [hlen] at hS
  have hka := key_at s
  have HK := Lib.hid hka
  clear hka hcells
  go_enter Tryz.func195, Tryz.ntmps195
  go_wp2_with fail
  refine (keys_ref _).mono ?_
  rintro e w1 ⟨rfl, rfl⟩
  go_wp2_with fail
  refine (index_ref _ keyBA s _ hS).mono ?_
  rintro e w2 ⟨rfl, rfl⟩
  generalize atS keyBA s = z at *
  go_wp2_with fail
  go_ret
  exact ⟨ret_bool HK.out, hb⟩
end Go.Proofs.YtlmenhjlgmejkaaGreatDoor

namespace Go.Proofs.YtlmenhjlgmejkaaGreatDoor
open Go.RowKit
set_option maxHeartbeats 1000000 in
theorem inAll_ref (l : List Var) (vs : List Val) (u v : Value) (w : World) (h : SlX (Lt w.heap.size) w u l) (hv : SlV (Lt w.heap.size) w v vs) (hl : varsB l = true) :
    Calls Tryz.prog 124 #[u, v] w fun e w' => e = .returned (.bool (assignedB l vs)) ∧ Below w.heap.size w w' := by
  obtain ⟨A, c, rfl, h1, h2, ht⟩ := h.open_
  obtain ⟨Av, cv, rfl, h1v, h2v, htv⟩ := hv.open_
  clear h hv
  have HQ := Lib.hid hl
  have h8 := vars_len hl
  clear hl
  go_enter Tryz.func124, Tryz.ntmps124
  by_cases hlen : vs.length = l.length
  rotate_left
  · have HE := Lib.hid (assigned_len hlen)
    have h3 : ((vs.length : Int) != (l.length : Int)) = true := by simp; omega
    clear hlen
    go_wp2_with fail
    go_ret
    exact ⟨ret_bool HE.out.symm, Below.refl _ _⟩
  have h3 : ((vs.length : Int) != (l.length : Int)) = false := by simp; omega
  go_wp2_with fail
  go_loopw [5] (fun i wr => ∃ j : Nat, j ≤ l.length ∧ i = .int .i64 j ∧ PlacedTo l vs j ∧ Below w.heap.size w wr) (fun i _ => l.length - (intOf i).toNat)
  case atStart => exact ⟨0, Nat.zero_le _, rfl, fun j _ _ h => absurd h (by omega), Below.refl _ _⟩
  case round =>
    obtain ⟨j, hj, rfl, hp, hb⟩ := hrel
    have HP := Lib.hid hp
    clear hp
    by_cases hlt : j < l.length
    · obtain ⟨b, o, x, iv, rfl, hD, hx, hvar, hiv, c0, c1, c2, c3, c4⟩ := (ht.now hb).at_ hlt
      obtain ⟨bv, ov, y, rfl, hDv, hy, hfy, d0, d1, d2⟩ := (htv.now hb).at_ (k := j) (by omega)
      have HX := Lib.hid hx
      have HY := Lib.hid hy
      have htm := tame_of (vars_each HQ.out hx)
      clear hx hy
      have HC := Lib.hid (rank_ref x y _ wr.drew (hvar.now (Below.refl _ _).drew) htm hfy)
      unfold valV at HC
      have i1 : (0 : Int) ≤ j := by omega
      have i2 : (j : Int) < (vs.length : Int) := by omega
      have i3 : (j : Int) < (l.length : Int) := by omega
      generalize hz : placeV x y = z at *
      have HZ := Lib.hid hz
      clear hz
      go_wp2_with fail
      go_region_with (go_at_call 111; refine HC.out.mono ?_; rintro e w3 ⟨rfl, hb3⟩)
      all_goals
        have hbw3 := bthen hb.drew hb3
        by_cases hz : z < 0
        · have HE := Lib.hid (assigned_no HX.out HY.out (by rw [HZ.out]; exact hz))
          go_wp2_with fail
          go_ret
          exact ⟨ret_bool HE.out.symm, hbw3⟩
        · go_wp2_with fail
          refine ⟨⟨j + 1, by omega, by simp, fun q a b hq ha hb' => ?_⟩, by simp [intOf]; omega⟩
          by_cases e : q = j
          · subst e
            rw [HX.out] at ha; rw [HY.out] at hb'
            injection ha with ha; injection hb' with hb'
            subst ha hb'
            rw [HZ.out]; omega
          · exact HP.out q a b (by omega) ha hb'
    · obtain rfl : j = l.length := by omega
      have HE := Lib.hid (assigned_yes hlen HP.out)
      go_wp2_with fail
      go_ret
      exact ⟨ret_bool HE.out.symm, hb⟩
end Go.Proofs.YtlmenhjlgmejkaaGreatDoor

namespace Go.Proofs.YtlmenhjlgmejkaaGreatDoor
open Go.RowKit
set_option maxHeartbeats 400000 in
theorem find_ref (vs : List Var) (s : ByteArray) (u : Value) (w : World) (h : SlX (Lt w.heap.size) w u vs) :
    Calls Tryz.prog 146 #[u, .string s] w fun e w' => e = .returned (.int .i64 (findV vs s)) ∧ w = w' := by
  obtain ⟨A, c, rfl, h1, h2, ht⟩ := h.open_
  go_enter Tryz.func146, Tryz.ntmps146
  go_wp2_with fail
  go_loop [5] (fun i => ∃ j : Nat, j ≤ vs.length ∧ i = .int .i64 j ∧ (∀ q y, q < j → vs[q]? = some y → (y.name.toList == s.toList) = false)) (fun i => vs.length - (intOf i).toNat)
  case atStart => exact ⟨0, Nat.zero_le _, rfl, fun q _ h => absurd h (by omega)⟩
  case round =>
    obtain ⟨j, hj, rfl, hp⟩ := hrel
    have HP := Lib.hid hp
    clear hp
    by_cases hlt : j < vs.length
    · obtain ⟨b, o, x, iv, rfl, hD, hx, hvar, hiv, c0, c1, c2, c3, c4⟩ := ht.at_ hlt
      have HX := Lib.hid hx
      clear hx hvar hiv
      cases hq : (x.name.toList == s.toList)
      · have HQ := Lib.hid hq
        go_wp2_with fail
        go_round
        case rel =>
          refine ⟨j + 1, by omega, by go_num, fun q y hq hy => ?_⟩
          by_cases e : q = j
          · subst e; rw [HX.out] at hy; injection hy with hy; subst hy; exact HQ.out
          · exact HP.out q y (by omega) hy
        case measure => simp [intOf]; omega
      · have HF := Lib.hid (findV_hit HX.out hq HP.out)
        go_wp2_with fail
        go_ret
        exact ⟨ret_int HF.out.symm, rfl⟩
    · obtain rfl : j = vs.length := by omega
      have HF := Lib.hid (findV_none HP.out)
      go_wp2_with fail
      go_ret
      exact ⟨ret_int HF.out.symm, rfl⟩
end Go.Proofs.YtlmenhjlgmejkaaGreatDoor

namespace Go.Proofs.YtlmenhjlgmejkaaGreatDoor
open Go.RowKit
theorem all_drop {l : List Ex} (h : ∀ j y, 1 ≤ j → l[j]? = some y → y.op = 1) : ((l.drop 1).all fun y => decide (y.op = 1)) = true := by
  rw [List.all_eq_true]
  intro y hy
  obtain ⟨j, hj, rfl⟩ := List.mem_iff_getElem.1 hy
  have := h (1 + j) _ (by omega) (by rw [← List.getElem?_drop]; exact List.getElem?_eq_getElem hj)
  simpa using this
theorem all_drop_not {l : List Ex} {j : Nat} {y : Ex} (hj : 1 ≤ j) (hy : l[j]? = some y) (h : y.op ≠ 1) : ((l.drop 1).all fun y => decide (y.op = 1)) = false := by
  rw [List.all_eq_false]
  refine ⟨y, ?_, by simpa using h⟩
  have : (l.drop 1)[j - 1]? = some y := by rw [List.getElem?_drop]; rw [show 1 + (j - 1) = j by omega]; exact hy
  exact List.mem_of_getElem? this
set_option maxHeartbeats 8000000 in
set_option maxRecDepth 100000 in
theorem shape_ref (n : Nat) (x : Ex) (u : Value) (w : World) (h : IsEx n (Lt w.heap.size) w u x) :
    Calls Tryz.prog 181 #[u] w fun e w' => e = .returned (.bool (shapeX x)) ∧ Below w.heap.size w w' := by
  obtain ⟨lv, rfl, h1, h2, h3, h4⟩ := h
  obtain ⟨A, c, rfl, l1, l2, h4⟩ := h4.open_
  obtain ⟨o, v, s, l⟩ := x
  simp only [Ex.op, Ex.v, Ex.s, Ex.l] at *
  have HE : Hid (shapeX (.mk o v s l) = if o = 1 then decide (l.length = 0) && noS s && validV v
    else if o = 2 then decide (l.length = 0) && zeroV v && isNameB s && !keyB s
    else zeroV v && noS s &&
      (if o = 3 then decide (l.length = 1)
       else if 4 ≤ o ∧ o ≤ 11 then decide (l.length = 2)
       else if o = 12 then decide (l.length = 3)
       else if o = 13 then decide (2 ≤ l.length) && (l.drop 1).all fun y => decide (y.op = 1)
       else false)) := rfl
  generalize shapeX (.mk o v s l) = R at *
  have hne : ∀ W, (binOp .eql 63 (.agg #[.int .i64 v.kind, .int .i64 v.n, .string v.s]) (.agg #[.int .i64 0, .int .i64 0, .string ⟨#[]⟩])).run Tryz.prog W = .ok (.bool (zeroV v)) W := fun W => run_eqV W v noV
  have hb := bone w (.cells #[.int .i64 o, .int .i64 v.kind, .int .i64 v.n, .string v.s, .string s, .slice A l.length c] 65)
  have hB := Blk.new w 65 #[.int .i64 o, .int .i64 v.kind, .int .i64 v.n, .string v.s, .string s, .slice A l.length c]
  have hL1 := h4.now hb
  have HL := Lib.hid hL1
  clear h4 hL1
  generalize hw1 : w.alloc (.cells #[.int .i64 o, .int .i64 v.kind, .int .i64 v.n, .string v.s, .string s, .slice A l.length c] 65) = w1 at *
  obtain ⟨q0, q1, q2, q3, q4, q5⟩ := hB.c6
  have HS : Hid (noS s = s.toList.isEmpty) := rfl
  generalize hz : zeroV v = zv at *
  generalize hs : s.toList.isEmpty = sz at *
  have HLEN : Hid (∀ k : Nat, ((l.length : Int) == (k : Int)) = decide (l.length = k)) := fun k => by rw [Bool.eq_iff_iff]; simp only [beq_iff_eq, decide_eq_true_eq]; omega
  by_cases c1 : o = 1
  · subst c1
    generalize hq : decide (l.length = 0) = q at *
    have b0 : ((l.length : Int) == 0) = q := (HLEN.out 0).trans hq
    have HR : Hid (R = (q && sz && validV v)) := by show _ = _; rw [HE.out, if_pos rfl, HS.out]
    clear hq
    cases q
    · have HR : Hid (R = false) := HR.out
      go_enter Tryz.func181, Tryz.ntmps181
      go_wp2_with fail
      go_ret
      exact ⟨ret_bool HR.out.symm, hb⟩

    cases sz
    · have HR : Hid (R = false) := HR.out
      go_enter Tryz.func181, Tryz.ntmps181
      go_wp2_with fail
      go_ret
      exact ⟨ret_bool HR.out.symm, hb⟩

    · have hcall := validV_ref v w1 h2
      unfold valV at hcall
      have HC := Lib.hid hcall
      clear hcall
      go_enter Tryz.func181, Tryz.ntmps181
      go_wp2_with fail
      refine HC.out.mono ?_
      rintro e w2 ⟨rfl, hb2⟩
      generalize validV v = vv at *
      go_wp2_with fail
      go_ret
      exact ⟨ret_bool (by rw [HR.out]; rfl), bthen hb hb2⟩
  by_cases c2 : o = 2
  · subst c2
    clear c1
    generalize hq : decide (l.length = 0) = q at *
    have b0 : ((l.length : Int) == 0) = q := (HLEN.out 0).trans hq
    have HR : Hid (R = (q && zv && isNameB s && !keyB s)) := by show _ = _; rw [HE.out, if_neg (by decide), if_pos rfl]
    clear hq
    cases q
    · have HR : Hid (R = false) := HR.out
      go_enter Tryz.func181, Tryz.ntmps181
      go_wp2_with fail
      go_ret
      exact ⟨ret_bool HR.out.symm, hb⟩

    cases zv
    · have HR : Hid (R = false) := HR.out
      go_enter Tryz.func181, Tryz.ntmps181
      go_wp2_with fail
      go_ret
      exact ⟨ret_bool HR.out.symm, hb⟩

    · have HC := Lib.hid (fun W => isName_ref s W h3)
      have HK := Lib.hid (fun W => key_ref s W)
      generalize isNameB s = nm at *
      generalize keyB s = ky at *
      go_enter Tryz.func181, Tryz.ntmps181
      go_wp2_with fail
      refine (HC.out _).mono ?_
      rintro e w2 ⟨rfl, rfl⟩
      cases nm
      · have HR : Hid (R = false) := HR.out
        go_wp2_with fail
        go_ret
        exact ⟨ret_bool HR.out.symm, hb⟩
      · go_wp2_with fail
        refine (HK.out _).mono ?_
        rintro e w2 ⟨rfl, hb2⟩
        go_wp2_with fail
        go_ret
        exact ⟨ret_bool (by rw [HR.out]; rfl), bthen hb hb2⟩
  have HE2 : Hid (R = (zv && sz && (if o = 3 then decide (l.length = 1)
       else if 4 ≤ o ∧ o ≤ 11 then decide (l.length = 2)
       else if o = 12 then decide (l.length = 3)
       else if o = 13 then decide (2 ≤ l.length) && (l.drop 1).all fun y => decide (y.op = 1)
       else false))) := by show _ = _; rw [HE.out, if_neg c1, if_neg c2, HS.out]
  clear HE HS
  by_cases c3 : o = 3
  · subst c3
    clear c1 c2
    generalize hq : decide (l.length = 1) = q at *
    have b0 : ((l.length : Int) == 1) = q := (HLEN.out 1).trans hq
    have HR : Hid (R = (zv && sz && q)) := by show _ = _; rw [HE2.out]; rw [if_pos rfl]
    clear hq HE2
    cases q
    · have HR : Hid (R = false) := by show _ = _; rw [HR.out, Bool.and_false]
      go_enter Tryz.func181, Tryz.ntmps181
      go_wp2_with fail
      go_ret
      exact ⟨ret_bool HR.out.symm, hb⟩

    cases zv
    · have HR : Hid (R = false) := HR.out
      go_enter Tryz.func181, Tryz.ntmps181
      go_wp2_with fail
      go_ret
      exact ⟨ret_bool HR.out.symm, hb⟩

    have HR : Hid (R = sz) := by show _ = _; rw [HR.out, Bool.and_true]; rfl
    go_enter Tryz.func181, Tryz.ntmps181
    go_wp2_with fail
    go_ret
    exact ⟨ret_bool HR.out.symm, hb⟩

  by_cases c4 : o = 4
  · subst c4
    clear c1 c2
    generalize hq : decide (l.length = 2) = q at *
    have b0 : ((l.length : Int) == 2) = q := (HLEN.out 2).trans hq
    have HR : Hid (R = (zv && sz && q)) := by show _ = _; rw [HE2.out]; rw [if_neg (by decide), if_pos (by decide)]
    clear hq HE2
    cases q
    · have HR : Hid (R = false) := by show _ = _; rw [HR.out, Bool.and_false]
      go_enter Tryz.func181, Tryz.ntmps181
      go_wp2_with fail
      go_ret
      exact ⟨ret_bool HR.out.symm, hb⟩

    cases zv
    · have HR : Hid (R = false) := HR.out
      go_enter Tryz.func181, Tryz.ntmps181
      go_wp2_with fail
      go_ret
      exact ⟨ret_bool HR.out.symm, hb⟩

    have HR : Hid (R = sz) := by show _ = _; rw [HR.out, Bool.and_true]; rfl
    go_enter Tryz.func181, Tryz.ntmps181
    go_wp2_with fail
    go_ret
    exact ⟨ret_bool HR.out.symm, hb⟩

  by_cases c5 : o = 5
  · subst c5
    clear c1 c2
    generalize hq : decide (l.length = 2) = q at *
    have b0 : ((l.length : Int) == 2) = q := (HLEN.out 2).trans hq
    have HR : Hid (R = (zv && sz && q)) := by show _ = _; rw [HE2.out]; rw [if_neg (by decide), if_pos (by decide)]
    clear hq HE2
    cases q
    · have HR : Hid (R = false) := by show _ = _; rw [HR.out, Bool.and_false]
      go_enter Tryz.func181, Tryz.ntmps181
      go_wp2_with fail
      go_ret
      exact ⟨ret_bool HR.out.symm, hb⟩

    cases zv
    · have HR : Hid (R = false) := HR.out
      go_enter Tryz.func181, Tryz.ntmps181
      go_wp2_with fail
      go_ret
      exact ⟨ret_bool HR.out.symm, hb⟩

    have HR : Hid (R = sz) := by show _ = _; rw [HR.out, Bool.and_true]; rfl
    go_enter Tryz.func181, Tryz.ntmps181
    go_wp2_with fail
    go_ret
    exact ⟨ret_bool HR.out.symm, hb⟩

  by_cases c6 : o = 6
  · subst c6
    clear c1 c2
    generalize hq : decide (l.length = 2) = q at *
    have b0 : ((l.length : Int) == 2) = q := (HLEN.out 2).trans hq
    have HR : Hid (R = (zv && sz && q)) := by show _ = _; rw [HE2.out]; rw [if_neg (by decide), if_pos (by decide)]
    clear hq HE2
    cases q
    · have HR : Hid (R = false) := by show _ = _; rw [HR.out, Bool.and_false]
      go_enter Tryz.func181, Tryz.ntmps181
      go_wp2_with fail
      go_ret
      exact ⟨ret_bool HR.out.symm, hb⟩

    cases zv
    · have HR : Hid (R = false) := HR.out
      go_enter Tryz.func181, Tryz.ntmps181
      go_wp2_with fail
      go_ret
      exact ⟨ret_bool HR.out.symm, hb⟩

    have HR : Hid (R = sz) := by show _ = _; rw [HR.out, Bool.and_true]; rfl
    go_enter Tryz.func181, Tryz.ntmps181
    go_wp2_with fail
    go_ret
    exact ⟨ret_bool HR.out.symm, hb⟩

  by_cases c7 : o = 7
  · subst c7
    clear c1 c2
    generalize hq : decide (l.length = 2) = q at *
    have b0 : ((l.length : Int) == 2) = q := (HLEN.out 2).trans hq
    have HR : Hid (R = (zv && sz && q)) := by show _ = _; rw [HE2.out]; rw [if_neg (by decide), if_pos (by decide)]
    clear hq HE2
    cases q
    · have HR : Hid (R = false) := by show _ = _; rw [HR.out, Bool.and_false]
      go_enter Tryz.func181, Tryz.ntmps181
      go_wp2_with fail
      go_ret
      exact ⟨ret_bool HR.out.symm, hb⟩

    cases zv
    · have HR : Hid (R = false) := HR.out
      go_enter Tryz.func181, Tryz.ntmps181
      go_wp2_with fail
      go_ret
      exact ⟨ret_bool HR.out.symm, hb⟩

    have HR : Hid (R = sz) := by show _ = _; rw [HR.out, Bool.and_true]; rfl
    go_enter Tryz.func181, Tryz.ntmps181
    go_wp2_with fail
    go_ret
    exact ⟨ret_bool HR.out.symm, hb⟩

  by_cases c8 : o = 8
  · subst c8
    clear c1 c2
    generalize hq : decide (l.length = 2) = q at *
    have b0 : ((l.length : Int) == 2) = q := (HLEN.out 2).trans hq
    have HR : Hid (R = (zv && sz && q)) := by show _ = _; rw [HE2.out]; rw [if_neg (by decide), if_pos (by decide)]
    clear hq HE2
    cases q
    · have HR : Hid (R = false) := by show _ = _; rw [HR.out, Bool.and_false]
      go_enter Tryz.func181, Tryz.ntmps181
      go_wp2_with fail
      go_ret
      exact ⟨ret_bool HR.out.symm, hb⟩

    cases zv
    · have HR : Hid (R = false) := HR.out
      go_enter Tryz.func181, Tryz.ntmps181
      go_wp2_with fail
      go_ret
      exact ⟨ret_bool HR.out.symm, hb⟩

    have HR : Hid (R = sz) := by show _ = _; rw [HR.out, Bool.and_true]; rfl
    go_enter Tryz.func181, Tryz.ntmps181
    go_wp2_with fail
    go_ret
    exact ⟨ret_bool HR.out.symm, hb⟩

  by_cases c9 : o = 9
  · subst c9
    clear c1 c2
    generalize hq : decide (l.length = 2) = q at *
    have b0 : ((l.length : Int) == 2) = q := (HLEN.out 2).trans hq
    have HR : Hid (R = (zv && sz && q)) := by show _ = _; rw [HE2.out]; rw [if_neg (by decide), if_pos (by decide)]
    clear hq HE2
    cases q
    · have HR : Hid (R = false) := by show _ = _; rw [HR.out, Bool.and_false]
      go_enter Tryz.func181, Tryz.ntmps181
      go_wp2_with fail
      go_ret
      exact ⟨ret_bool HR.out.symm, hb⟩

    cases zv
    · have HR : Hid (R = false) := HR.out
      go_enter Tryz.func181, Tryz.ntmps181
      go_wp2_with fail
      go_ret
      exact ⟨ret_bool HR.out.symm, hb⟩

    have HR : Hid (R = sz) := by show _ = _; rw [HR.out, Bool.and_true]; rfl
    go_enter Tryz.func181, Tryz.ntmps181
    go_wp2_with fail
    go_ret
    exact ⟨ret_bool HR.out.symm, hb⟩

  by_cases c10 : o = 10
  · subst c10
    clear c1 c2
    generalize hq : decide (l.length = 2) = q at *
    have b0 : ((l.length : Int) == 2) = q := (HLEN.out 2).trans hq
    have HR : Hid (R = (zv && sz && q)) := by show _ = _; rw [HE2.out]; rw [if_neg (by decide), if_pos (by decide)]
    clear hq HE2
    cases q
    · have HR : Hid (R = false) := by show _ = _; rw [HR.out, Bool.and_false]
      go_enter Tryz.func181, Tryz.ntmps181
      go_wp2_with fail
      go_ret
      exact ⟨ret_bool HR.out.symm, hb⟩

    cases zv
    · have HR : Hid (R = false) := HR.out
      go_enter Tryz.func181, Tryz.ntmps181
      go_wp2_with fail
      go_ret
      exact ⟨ret_bool HR.out.symm, hb⟩

    have HR : Hid (R = sz) := by show _ = _; rw [HR.out, Bool.and_true]; rfl
    go_enter Tryz.func181, Tryz.ntmps181
    go_wp2_with fail
    go_ret
    exact ⟨ret_bool HR.out.symm, hb⟩

  by_cases c11 : o = 11
  · subst c11
    clear c1 c2
    generalize hq : decide (l.length = 2) = q at *
    have b0 : ((l.length : Int) == 2) = q := (HLEN.out 2).trans hq
    have HR : Hid (R = (zv && sz && q)) := by show _ = _; rw [HE2.out]; rw [if_neg (by decide), if_pos (by decide)]
    clear hq HE2
    cases q
    · have HR : Hid (R = false) := by show _ = _; rw [HR.out, Bool.and_false]
      go_enter Tryz.func181, Tryz.ntmps181
      go_wp2_with fail
      go_ret
      exact ⟨ret_bool HR.out.symm, hb⟩

    cases zv
    · have HR : Hid (R = false) := HR.out
      go_enter Tryz.func181, Tryz.ntmps181
      go_wp2_with fail
      go_ret
      exact ⟨ret_bool HR.out.symm, hb⟩

    have HR : Hid (R = sz) := by show _ = _; rw [HR.out, Bool.and_true]; rfl
    go_enter Tryz.func181, Tryz.ntmps181
    go_wp2_with fail
    go_ret
    exact ⟨ret_bool HR.out.symm, hb⟩

  by_cases c12 : o = 12
  · subst c12
    clear c1 c2
    generalize hq : decide (l.length = 3) = q at *
    have b0 : ((l.length : Int) == 3) = q := (HLEN.out 3).trans hq
    have HR : Hid (R = (zv && sz && q)) := by show _ = _; rw [HE2.out]; rw [if_neg (by decide), if_neg (by decide), if_pos rfl]
    clear hq HE2
    cases q
    · have HR : Hid (R = false) := by show _ = _; rw [HR.out, Bool.and_false]
      go_enter Tryz.func181, Tryz.ntmps181
      go_wp2_with fail
      go_ret
      exact ⟨ret_bool HR.out.symm, hb⟩

    cases zv
    · have HR : Hid (R = false) := HR.out
      go_enter Tryz.func181, Tryz.ntmps181
      go_wp2_with fail
      go_ret
      exact ⟨ret_bool HR.out.symm, hb⟩

    have HR : Hid (R = sz) := by show _ = _; rw [HR.out, Bool.and_true]; rfl
    go_enter Tryz.func181, Tryz.ntmps181
    go_wp2_with fail
    go_ret
    exact ⟨ret_bool HR.out.symm, hb⟩

  by_cases c13 : o = 13
  · subst c13
    clear c1 c2 c3 c4 c5 c6 c7 c8 c9 c10 c11 c12
    have HR : Hid (R = (zv && sz && (decide (2 ≤ l.length) && (l.drop 1).all fun y => decide (y.op = 1)))) := by show _ = _; rw [HE2.out, if_neg (by decide), if_neg (by decide), if_neg (by decide), if_pos rfl]
    clear HE2
    go_enter Tryz.func181, Tryz.ntmps181
    go_wp2_with fail
    go_loop [5] (fun i => ∃ j : Nat, 1 ≤ j ∧ (j ≤ l.length ∨ j = 1) ∧ i = .int .i64 j ∧ ∀ k y, 1 ≤ k → k < j → l[k]? = some y → y.op = 1) (fun i => l.length - (intOf i).toNat)
    case atStart => exact ⟨1, Nat.le_refl _, .inr rfl, rfl, fun k y h1 h2 _ => by omega⟩
    case round =>
      obtain ⟨j, hj1, hj, rfl, hp⟩ := hrel
      have HP := Lib.hid hp
      clear hp
      by_cases hlt : j < l.length
      · obtain ⟨b, o', y, lv, n', hn, rfl, hD, hx, hex, hfv, hsl, e0, e1, e2, e3, e4, e5⟩ := HL.out.at_ hlt
        have HX := Lib.hid hx
        have i1 : (0 : Int) ≤ (j : Int) := by omega
        have i2 : (j : Int) < (l.length : Int) := by omega
        clear hx hex hfv hsl hn e1 e2 e3 e4 e5
        by_cases ho : y.op = 1
        · have HO := Lib.hid ho
          have f1 : (y.op != 1) = false := by simp [ho]
          clear ho
          go_wp2_with fail
          go_round
          case rel =>
            refine ⟨j + 1, by omega, by omega, by go_num, fun k z h1 hk hz => ?_⟩
            by_cases e : k = j
            · subst e; rw [HX.out] at hz; injection hz with hz; subst hz; exact HO.out
            · exact HP.out k z h1 (by omega) hz
          case measure => simp [intOf]; omega
        · have HRR : Hid (R = false) := by
            show _ = _
            rw [HR.out, all_drop_not hj1 HX.out ho, Bool.and_false, Bool.and_false]
          have f1 : (y.op != 1) = true := by simpa using ho
          clear ho
          go_wp2_with fail
          go_ret
          exact ⟨ret_bool HRR.out.symm, hb⟩
      · have i2 : (l.length : Int) ≤ (j : Int) := by omega
        have HRR : Hid (R = (zv && sz && decide (2 ≤ l.length))) := by
          show _ = _
          rw [HR.out, all_drop (fun k y h1 hy => HP.out k y h1 (by
            have : k < l.length := by
              rcases Nat.lt_or_ge k l.length with h | h
              · exact h
              · rw [List.getElem?_eq_none h] at hy; cases hy
            omega) hy), Bool.and_true]
        clear HR
        by_cases h2l : 2 ≤ l.length
        · rw [decide_eq_true h2l] at HRR
          have i3 : (2 : Int) ≤ (l.length : Int) := by omega
          cases zv
          · have HRR : Hid (R = false) := HRR.out
            go_wp2_with fail
            go_ret
            exact ⟨ret_bool HRR.out.symm, hb⟩
          · have HRR : Hid (R = sz) := by show _ = _; rw [HRR.out, Bool.and_true]; rfl
            go_wp2_with fail
            go_ret
            exact ⟨ret_bool HRR.out.symm, hb⟩
        · rw [decide_eq_false h2l, Bool.and_false] at HRR
          have i3 : (l.length : Int) < 2 := by omega
          go_wp2_with fail
          go_ret
          exact ⟨ret_bool HRR.out.symm, hb⟩
  have HR : Hid (R = false) := by show _ = _; rw [HE2.out, if_neg c3, if_neg (by omega), if_neg c12, if_neg c13, Bool.and_false]
  clear HE2
  go_enter Tryz.func181, Tryz.ntmps181
  go_wp2_with fail
  go_ret
  exact ⟨ret_bool HR.out.symm, hb⟩
end Go.Proofs.YtlmenhjlgmejkaaGreatDoor
