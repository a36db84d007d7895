/- Texts of this seat, merged. -/
import Derived.Test.YtlmenhjlgmejkaaGreatDoorIn04
import Derived.Deep.QuietTactic
import Derived.BigQuiet
import Derived.Deep.RegionHeld3
import Derived.Test.YtlmenhjlgmejkaaGreatDoorIn03
import Derived.Outline
import Derived.Shelf.Abstract
import Derived.Laws.IdiomStrings
import Derived.Test.YtlmenhjlgmejkaaGreatDoorIn02
import Derived.WalkKit
import Derived.WalkSpells
import Derived.WalkLawsBesides
import Derived.Lib.Hide
import Derived.Deep.Draws
import Derived.Deep.OwnRows
import Derived.Test.YtlmenhjlgmejkaaGreatDoorIn01
import Derived.Test.YtlmenhjlgmejkaaGreatDoorProg
import Derived.Deep.Light
import Derived.Lib.SlicesCompact
import Derived.Maps.AppendAt
import Derived.Deep.AppendLies
import Derived.RegionTactic
import Derived.OwnWalk
import Derived.Sort.OwnSorted
import Derived.Lib.Bytes
import Derived.Shelf.Strings.Builder1
import Derived.Shelf.Small.Bits
import Derived.Shelf.Small.Wraps
import Derived.Shelf.Strings.BuilderF
import Derived.Shelf.Strings.BuilderK
import Derived.Shelf.Strconv.Itoa0
import Derived.Shelf.Strconv.Itoa1
import Derived.Shelf.LaysM
import Derived.Shelf.Strconv.Itoa2
import Derived.Shelf.Strconv.Itoa3
import Derived.Shelf.Sort.Plain
import Derived.Shelf.Strings.BuilderCap
import Derived.Shelf.Slices.Turned
import Derived.Shelf.Slices.Reverse
import Derived.Shelf.Slices.Equal
import Derived.Ground.Names2Prog
import Derived.Shelf.Slices.Clone
import Derived.Shelf.Slices.CompactS
import Derived.Shelf.Slices.Cells
import Derived.Shelf.Slices.In.SortNone
import Derived.Shelf.Slices.Empties2
import Derived.Maps.OwnOps
import Derived.Maps.OwnSet
import Derived.Maps.Views
import Derived.StringKeys
import Derived.Test.YtlmenhjlgmejkaaGreatDoorIn05
import Derived.Lib.Builder
import Derived.Lib.AppendStr
import Derived.Lib.UnsafeStr
import Derived.Lib.FrozenHead2
import Derived.Lib.OthersKept
import Derived.Laws.Externs
import Derived.Test.YtlmenhjlgmejkaaGreatDoorGu01
import Derived.Test.YtlmenhjlgmejkaaGreatDoorGu02
import Derived.Test.YtlmenhjlgmejkaaGreatDoorGu03
import Derived.Test.YtlmenhjlgmejkaaGreatDoorGu04
import Derived.Test.YtlmenhjlgmejkaaGreatDoorGu05
set_option linter.unusedSimpArgs false
set_option linter.unusedVariables false
namespace Go.Proofs.YtlmenhjlgmejkaaGreatDoor
open Go.RowKit
set_option maxHeartbeats 2000000 in
theorem rank_ref (x : Var) (v : Val) (u : Value) (w : World) (h : IsVar (Lt w.heap.size) w u x) (ht : Tame x) (hv : FitV v) :
    Calls Tryz.prog 111 #[u, valV v] w fun e w' => e = .returned (.int .i64 (placeV x v)) ∧ Below w.heap.size w w' := by
  obtain ⟨nm, k, lo, hi, its⟩ := x
  obtain ⟨vk, vn, vs⟩ := v
  obtain ⟨⟨l1, l2⟩, ⟨l3, l4⟩, ld, lk, li⟩ := ht
  obtain ⟨iv, rfl, hnm, f1, f2, f3, hit⟩ := h
  obtain ⟨g1, g2, g3⟩ := hv
  unfold Fit at f1 f2 f3 g1 g2
  unfold valV
  dsimp only at hnm f1 f2 f3 hit l1 l2 l3 l4 ld lk li g1 g2 g3 ⊢
  obtain ⟨A, c, rfl, i1, i2, hit⟩ := hit.open_
  have hb := bbox (bone w (.cells #[.string nm, .int .i64 k, .int .i64 lo, .int .i64 hi, .slice A its.length c] 117)) (.cells #[.int .i64 vk, .int .i64 vn, .string vs] 63)
  have hit2 := hit.now hb
  have HP : Hid (placeV ⟨nm, k, lo, hi, its⟩ ⟨vk, vn, vs⟩ = if vk ≠ k then -1 else if k = 1 then vn else if k = 3 then atS its vs else if vn < lo ∨ hi < vn then -1 else vn - lo) := rfl
  go_enter Tryz.func111, Tryz.ntmps111
  by_cases a1 : vk = k
  rotate_left
  · have a1' : (vk != k) = true := by simpa using a1
    have HE := Lib.hid (HP.out.trans (if_pos a1))
    clear a1
    go_wp2_with fail
    go_ret
    exact ⟨ret_int HE.out.symm, hb⟩
  subst a1
  have a1' : (vk != vk) = false := by simp
  have HE := Lib.hid (HP.out.trans (if_neg (fun h => h rfl)))
  rcases lk with rfl | rfl | rfl
  · go_wp2_with fail
    go_ret
    exact ⟨ret_int HE.out.symm, hb⟩
  · by_cases b1 : vn < lo
    · have HE2 := Lib.hid (HE.out.trans (show _ = (-1 : Int) by simp [b1]))
      go_wp2_with fail
      go_ret
      exact ⟨ret_int HE2.out.symm, hb⟩
    by_cases b2 : hi < vn
    · have HE2 := Lib.hid (HE.out.trans (show _ = (-1 : Int) by simp [b2]))
      go_wp2_with fail
      go_ret
      exact ⟨ret_int HE2.out.symm, hb⟩
    have HE2 := Lib.hid (HE.out.trans (show _ = vn - lo by simp [b1, b2]))
    go_wp2_with fail
    go_ret
    exact ⟨ret_int HE2.out.symm, hb⟩
  · go_wp2_with fail
    refine (index_ref _ its vs _ hit2).mono ?_
    rintro e w' ⟨rfl, rfl⟩
    go_wp2_with fail
    go_ret
    exact ⟨ret_int HE.out.symm, hb⟩
end Go.Proofs.YtlmenhjlgmejkaaGreatDoor

namespace Go.Proofs.YtlmenhjlgmejkaaGreatDoor
open Go.RowKit
theorem varsB_long {l : List Var} (h : 8 < l.length) : varsB l = false := by
  unfold varsB
  have : decide (l.length ≤ 8) = false := decide_eq_false (by omega)
  rw [this]; rfl
set_option maxHeartbeats 2000000 in
theorem validVars_ref (l : List Var) (u : Value) (w : World) (h : SlX (Lt w.heap.size) w u l) :
    Calls Tryz.prog 75 #[u] w fun e w' => e = .returned (.bool (varsB l)) ∧ Below w.heap.size w w' := by
  obtain ⟨A, c, rfl, h1, h2, ht⟩ := h.open_
  clear h
  go_enter Tryz.func75, Tryz.ntmps75
  by_cases h8 : 8 < l.length
  · have HE := Lib.hid (varsB_long h8)
    go_wp2_with fail
    go_ret
    exact ⟨ret_bool HE.out.symm, Below.refl _ _⟩
  go_wp2_with fail
  go_loopw [3] (fun i wr => ∃ j : Nat, j ≤ l.length ∧ i = .int .i64 j ∧ Below w.heap.size w wr ∧ VarsTo l j) (fun i _ => l.length - (intOf i).toNat)
  case atStart => exact ⟨0, Nat.zero_le _, rfl, Below.refl _ _, VarsTo.zero l⟩
  case round =>
    obtain ⟨j, hj, rfl, hb, hto⟩ := hrel
    have HTO := Lib.hid hto
    clear hto
    by_cases hlt : j < l.length
    · obtain ⟨b, o, x, iv, rfl, hD, hx, hvar, hiv, c0, c1, c2, c3, c4⟩ := (ht.now hb).at_ hlt
      have HX := Lib.hid hx
      clear hx
      go_wp2_with fail
      refine (validVar_ref x _ _ hvar).mono ?_
      rintro e w2 ⟨rfl, hb2⟩
      have hbw2 : Below w.heap.size w w2 := bthen hb hb2
      clear hvar hiv c0 c1 c2 c3 c4
      generalize hq : varB x = q
      have HQ := Lib.hid hq
      clear hq
      cases q
      · have HE := Lib.hid (varsB_bad HX.out HQ.out)
        go_wp2_with fail
        go_ret
        exact ⟨ret_bool HE.out.symm, hbw2⟩
      · go_wp2_with fail
        go_loopw [4] (fun i wx => ∃ k : Nat, k ≤ j ∧ i = .int .i64 k ∧ Below w.heap.size w wx ∧ ∀ q y, q < k → l[q]? = some y → y.name.data.toList ≠ x.name.data.toList) (fun i _ => j - (intOf i).toNat)
        case atStart => exact ⟨0, Nat.zero_le _, rfl, hbw2, fun q _ h => absurd h (by omega)⟩
        case round =>
          obtain ⟨k, hk, rfl, hbx, hp⟩ := hrel
          have HP := Lib.hid hp
          clear hp
          by_cases hkl : k < j
          · obtain ⟨b', o', x', iv', eA, hD', hx', hvar', hiv', c0', c1', c2', c3', c4'⟩ := (ht.now hbx).at_ (k := j) hlt
            obtain ⟨b2, o2, y, iy, eA2, hD2, hy, hvary, hivy, d0, d1, d2, d3, d4⟩ := (ht.now hbx).at_ (k := k) (by omega)
            injection eA with eA; injection eA with e1 e2; subst e1 e2
            injection eA2 with eA2; injection eA2 with e3 e4; subst e3 e4
            obtain rfl : x' = x := by have := HX.out; rw [hx'] at this; injection this
            have HY := Lib.hid hy
            clear hx' hy hvar' hiv' c1' c2' c3' c4' hvary hivy d1 d2 d3 d4
            have i1 : (0 : Int) ≤ k := by omega
            have i2 : (k : Int) < (l.length : Int) := by omega
            have i3 : (0 : Int) ≤ j := by omega
            have i4 : (j : Int) < (l.length : Int) := by omega
            cases hq : (y.name.toList == x'.name.toList) with
            | true =>
              have HE : Hid (varsB l = false) := by
                refine varsB_twice HX.out ?_
                have e : y.name.data.toList = x'.name.data.toList := by
                  have := eq_of_beq hq
                  rwa [Lib.toList_data, Lib.toList_data] at this
                rw [← e, namesOf_take, List.mem_take_iff_getElem]
                have hy := namesOf_get HY.out
                obtain ⟨hk', hy⟩ := List.getElem?_eq_some_iff.1 hy
                exact ⟨k, by omega, hy⟩
              go_wp2
              go_quiet (fail)
              go_wp2
              go_ret
              exact ⟨ret_bool HE.out.symm, bdrawn hbx _⟩
            | false =>
              have HN : Hid (y.name.data.toList ≠ x'.name.data.toList) := by
                show _ ≠ _
                rw [← Lib.toList_data, ← Lib.toList_data]
                exact ne_of_beq_false hq
              go_wp2
              go_quiet (fail)
              go_wp2
              go_roundw
              case rel =>
                refine ⟨k + 1, by omega, by go_num, bdrawn hbx _, fun q z hq hz => ?_⟩
                by_cases e : q = k
                · subst e; rw [HY.out] at hz; injection hz with hz; subst hz; exact HN.out
                · exact HP.out q z (by omega) hz
              case measure => simp [intOf]; omega
          · obtain rfl : k = j := by omega
            go_wp2_with fail
            go_roundw
            case rel =>
              refine ⟨k + 1, by omega, by go_num, hbx, HTO.out.next HX.out HQ.out (fun hm => ?_)⟩
              rw [namesOf_take, List.mem_take_iff_getElem] at hm
              obtain ⟨q, hq, e⟩ := hm
              have hq1 : q < l.length := by omega
              refine HP.out q l[q] (by omega) (List.getElem?_eq_getElem hq1) ?_
              rw [← e]
              unfold namesOf bytesOf
              simp
            case measure => simp [intOf]; omega
    · obtain rfl : j = l.length := by omega
      have HE := Lib.hid (varsB_all HTO.out)
      go_wp2_with fail
      go_ret
      exact ⟨ret_bool (by rw [HE.out]; simp; omega), hb⟩
end Go.Proofs.YtlmenhjlgmejkaaGreatDoor

namespace Go.Proofs.YtlmenhjlgmejkaaGreatDoor
open Go.RowKit
set_option maxHeartbeats 400000 in
theorem validAll_ref (vs : List Val) (v : Value) (w : World) (hv : SlV (Lt w.heap.size) w v vs) :
    Calls Tryz.prog 123 #[v] w fun e w' => e = .returned (.bool (vs.all validV)) ∧ Below w.heap.size w w' := by
  obtain ⟨A, c, rfl, h1, h2, ht⟩ := hv.open_
  clear hv
  go_enter Tryz.func123, Tryz.ntmps123
  go_wp2_with fail
  go_loopw [3] (fun i wr => ∃ j : Nat, j ≤ vs.length ∧ i = .int .i64 j ∧ (∀ q t, q < j → vs[q]? = some t → validV t = true) ∧ Below w.heap.size w wr) (fun i _ => vs.length - (intOf i).toNat)
  case atStart => exact ⟨0, Nat.zero_le _, rfl, fun q _ h => absurd h (by omega), Below.refl _ _⟩
  case round =>
    obtain ⟨j, hj, rfl, hp, hb⟩ := hrel
    have HP := Lib.hid hp
    clear hp
    by_cases hlt : j < vs.length
    · obtain ⟨b, o, t, rfl, hD, hx, hf, c0, c1, c2⟩ := (ht.now hb).at_ hlt
      have HX := Lib.hid hx
      clear hx
      have hcall := validV_ref t wr hf
      unfold valV at hcall
      generalize hq : validV t = q at *
      have HQ := Lib.hid hq
      have HC := Lib.hid hcall
      clear hcall hq
      cases q
      · have HE : Hid (vs.all validV = false) := by
          show _ = _
          rw [List.all_eq_false]
          exact ⟨t, List.mem_of_getElem? HX.out, by rw [HQ.out]; simp⟩
        go_wp2_with (go_at_call 158; refine HC.out.mono ?_; rintro e w' ⟨rfl, hb'⟩)
        go_ret
        exact ⟨ret_bool HE.out.symm, bthen hb hb'⟩
      · go_wp2_with (go_at_call 158; refine HC.out.mono ?_; rintro e w' ⟨rfl, hb'⟩)
        go_roundw
        case rel =>
          refine ⟨j + 1, by omega, by go_num, fun q y hq hy => ?_, bthen hb hb'⟩
          by_cases e : q = j
          · subst e; rw [HX.out] at hy; injection hy with hy; subst hy; exact HQ.out
          · exact HP.out q y (by omega) hy
        case measure => simp [intOf]; omega
    · have HE : Hid (vs.all validV = true) := by
        show _ = _
        rw [List.all_eq_true]
        intro x hx
        obtain ⟨q, hq, rfl⟩ := List.mem_iff_getElem.1 hx
        exact HP.out q _ (by omega) (List.getElem?_eq_getElem hq)
      go_wp2_with fail
      go_ret
      exact ⟨ret_bool HE.out.symm, hb⟩
end Go.Proofs.YtlmenhjlgmejkaaGreatDoor
