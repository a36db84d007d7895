/- Texts of this seat, merged. -/
import Derived.Test.YtlmenhjlgmejkaaGreatDoorIn09
import Derived.Maps.AppendAt
import Derived.Deep.AppendLies
import Derived.RegionTactic
import Derived.OwnWalk
import Derived.Test.YtlmenhjlgmejkaaGreatDoorIn02
import Derived.WalkKit
import Derived.WalkSpells
import Derived.WalkLawsBesides
import Derived.Lib.Hide
import Derived.Deep.Draws
import Derived.Deep.OwnRows
import Derived.Test.YtlmenhjlgmejkaaGreatDoorIn01
import Derived.Test.YtlmenhjlgmejkaaGreatDoorIn10
import Derived.Test.YtlmenhjlgmejkaaGreatDoorIn06
import Derived.Test.YtlmenhjlgmejkaaGreatDoorIn05
import Derived.Test.YtlmenhjlgmejkaaGreatDoorProg
import Derived.Outline
import Derived.Deep.Light
import Derived.Lib.SlicesCompact
import Derived.Deep.RegionWith
import Derived.Test.YtlmenhjlgmejkaaGreatDoorIn04
import Derived.Deep.QuietTactic
import Derived.BigQuiet
import Derived.Deep.RegionHeld3
import Derived.Test.YtlmenhjlgmejkaaGreatDoorIn03
import Derived.Shelf.Abstract
import Derived.Laws.IdiomStrings
import Derived.Sort.OwnSorted
import Derived.Lib.Bytes
import Derived.Shelf.Strings.Builder1
import Derived.Shelf.Small.Bits
import Derived.Shelf.Small.Wraps
import Derived.Shelf.Strings.BuilderF
import Derived.Shelf.Strings.BuilderK
import Derived.Shelf.Strconv.Itoa0
import Derived.Shelf.Strconv.Itoa1
import Derived.Shelf.LaysM
import Derived.Shelf.Strconv.Itoa2
import Derived.Shelf.Strconv.Itoa3
import Derived.Shelf.Sort.Plain
import Derived.Shelf.Strings.BuilderCap
import Derived.Shelf.Slices.Turned
import Derived.Shelf.Slices.Reverse
import Derived.Shelf.Slices.Equal
import Derived.Ground.Names2Prog
import Derived.Shelf.Slices.Clone
import Derived.Shelf.Slices.CompactS
import Derived.Shelf.Slices.Cells
import Derived.Shelf.Slices.In.SortNone
import Derived.Shelf.Slices.Empties2
import Derived.Maps.OwnOps
import Derived.Maps.OwnSet
import Derived.Maps.Views
import Derived.StringKeys
import Derived.Lib.Builder
import Derived.Lib.AppendStr
import Derived.Lib.UnsafeStr
import Derived.Lib.FrozenHead2
import Derived.Lib.OthersKept
import Derived.Laws.Externs
import Derived.Test.YtlmenhjlgmejkaaGreatDoorIn11
import Derived.Test.YtlmenhjlgmejkaaGreatDoorIn12
import Derived.Test.YtlmenhjlgmejkaaGreatDoorGu01
import Derived.Test.YtlmenhjlgmejkaaGreatDoorGu02
import Derived.Test.YtlmenhjlgmejkaaGreatDoorGu03
import Derived.Test.YtlmenhjlgmejkaaGreatDoorGu04
import Derived.Test.YtlmenhjlgmejkaaGreatDoorGu05
import Derived.Test.YtlmenhjlgmejkaaGreatDoorGu06
set_option linter.unusedSimpArgs false
set_option linter.unusedVariables false
namespace Go.Proofs.YtlmenhjlgmejkaaGreatDoor
open Go.RowKit
theorem containsI (v : Value) (xs : List Int) (x : Int) (w : World) (hu : SlI (Lt w.heap.size) w v xs) :
    Calls Tryz.prog 32 #[v, .int .i64 x] w fun e w' => e = .returned (.bool (xs.contains x)) ∧ w' = w := by
  obtain ⟨A, c, rfl, h1, h2, hu⟩ := hu.open_
  by_cases hn : 0 < xs.length
  · obtain ⟨b, o, rfl, hD, _, hc⟩ := hu.cells hn
    refine (Tryz.slices_Contains_int b o xs.length c xs x w (Nat.le_refl _) (by omega) hc).mono ?_
    rintro e w' ⟨rfl, hq⟩
    rw [List.take_of_length_le (Nat.le_refl _)]
    exact ⟨rfl, hq⟩
  · have : xs = [] := List.eq_nil_of_length_eq_zero (by omega)
    subst this
    exact Tryz.slices_Contains_int_empty A c x w
end Go.Proofs.YtlmenhjlgmejkaaGreatDoor

namespace Go.Proofs.YtlmenhjlgmejkaaGreatDoor
open Go.RowKit
theorem key_at (s : ByteArray) : decide (0 ≤ atS keyBA s) = keyB s := by
  rw [atS_any, key_or]
  have t : ∀ (l : List UInt8), (⟨l.toArray⟩ : ByteArray).toList = l := fun l => by rw [Lib.toList_data]
  have e : ∀ l : List UInt8, (l == s.toList) = (s.toList == l) := fun l => by rw [Bool.eq_iff_iff]; simp only [beq_iff_eq]; exact eq_comm
  show ((⟨[97, 110, 100].toArray⟩ : ByteArray).toList == s.toList || ((⟨[101, 108, 115, 101].toArray⟩ : ByteArray).toList == s.toList || ((⟨[102, 97, 108, 115, 101].toArray⟩ : ByteArray).toList == s.toList || ((⟨[105, 102].toArray⟩ : ByteArray).toList == s.toList || ((⟨[105, 110].toArray⟩ : ByteArray).toList == s.toList || ((⟨[110, 111, 116].toArray⟩ : ByteArray).toList == s.toList || ((⟨[111, 114].toArray⟩ : ByteArray).toList == s.toList || ((⟨[116, 104, 101, 110].toArray⟩ : ByteArray).toList == s.toList || ((⟨[116, 114, 117, 101].toArray⟩ : ByteArray).toList == s.toList || false))))))))) = _
  rw [t [97, 110, 100], t [101, 108, 115, 101], t [102, 97, 108, 115, 101], t [105, 102], t [105, 110], t [110, 111, 116], t [111, 114], t [116, 104, 101, 110], t [116, 114, 117, 101], e [97, 110, 100], e [101, 108, 115, 101], e [102, 97, 108, 115, 101], e [105, 102], e [105, 110], e [110, 111, 116], e [111, 114], e [116, 104, 101, 110], e [116, 114, 117, 101], Bool.or_false]
  simp only [Bool.or_assoc]
theorem keys_ref (w : World) : Calls Tryz.prog 213 #[] w fun e w' => e = .returned (.slice (some ⟨w.heap.size, 0, none⟩) 9 9) ∧ w' = w.alloc (.cells #[.string ⟨#[97, 110, 100]⟩, .string ⟨#[101, 108, 115, 101]⟩, .string ⟨#[102, 97, 108, 115, 101]⟩, .string ⟨#[105, 102]⟩, .string ⟨#[105, 110]⟩, .string ⟨#[110, 111, 116]⟩, .string ⟨#[111, 114]⟩, .string ⟨#[116, 104, 101, 110]⟩, .string ⟨#[116, 114, 117, 101]⟩] 9) := by
  go_enter Tryz.func213, Tryz.ntmps213
  go_wp2_with fail
  go_ret
  exact ⟨rfl, rfl⟩
set_option maxHeartbeats 1000000 in
theorem key_ref (s : ByteArray) (w : World) : Calls Tryz.prog 195 #[.string s] w fun e w' => e = .returned (.bool (keyB s)) ∧ Below w.heap.size w w' := by
  have hB := Blk.new w 9 (keyBA.map Value.string).toArray
  have hb := bone w (.cells (keyBA.map Value.string).toArray 9)
  have hS : SlS (Lt _) _ _ keyBA := SlS.ofBlk hB (by unfold maxLen keyBA; simp) (by intro z hz; unfold maxLen; simp only [keyBA, List.mem_cons, List.not_mem_nil, or_false] at hz; rcases hz with rfl | rfl | rfl | rfl | rfl | rfl | rfl | rfl | rfl <;> simp [ByteArray.size])
  have hcells : (keyBA.map Value.string).toArray = #[.string ⟨#[97, 110, 100]⟩, .string ⟨#[101, 108, 115, 101]⟩, .string ⟨#[102, 97, 108, 115, 101]⟩, .string ⟨#[105, 102]⟩, .string ⟨#[105, 110]⟩, .string ⟨#[110, 111, 116]⟩, .string ⟨#[111, 114]⟩, .string ⟨#[116, 104, 101, 110]⟩, .string ⟨#[116, 114, 117, 101]⟩] := rfl
  have hlen : keyBA.length = 9 := rfl
  rw [hcells] at hB hb hS
  rw [hlen] at hS
  have hka := key_at s
  have HK := Lib.hid hka
  clear hka hcells
  go_enter Tryz.func195, Tryz.ntmps195
  go_wp2_with fail
  refine (keys_ref _).mono ?_
  rintro e w1 ⟨rfl, rfl⟩
  go_wp2_with fail
  refine (index_ref _ keyBA s _ hS).mono ?_
  rintro e w2 ⟨rfl, rfl⟩
  generalize atS keyBA s = z at *
  go_wp2_with fail
  go_ret
  exact ⟨ret_bool HK.out, hb⟩
end Go.Proofs.YtlmenhjlgmejkaaGreatDoor

namespace Go.Proofs.YtlmenhjlgmejkaaGreatDoor
open Go.RowKit
set_option maxHeartbeats 1000000 in
theorem inAll_ref (l : List Var) (vs : List Val) (u v : Value) (w : World) (h : SlX (Lt w.heap.size) w u l) (hv : SlV (Lt w.heap.size) w v vs) (hl : varsB l = true) :
    Calls Tryz.prog 124 #[u, v] w fun e w' => e = .returned (.bool (assignedB l vs)) ∧ Below w.heap.size w w' := by
  obtain ⟨A, c, rfl, h1, h2, ht⟩ := h.open_
  obtain ⟨Av, cv, rfl, h1v, h2v, htv⟩ := hv.open_
  clear h hv
  have HQ := Lib.hid hl
  have h8 := vars_len hl
  clear hl
  go_enter Tryz.func124, Tryz.ntmps124
  by_cases hlen : vs.length = l.length
  rotate_left
  · have HE := Lib.hid (assigned_len hlen)
    have h3 : ((vs.length : Int) != (l.length : Int)) = true := by simp; omega
    clear hlen
    go_wp2_with fail
    go_ret
    exact ⟨ret_bool HE.out.symm, Below.refl _ _⟩
  have h3 : ((vs.length : Int) != (l.length : Int)) = false := by simp; omega
  go_wp2_with fail
  go_loopw [5] (fun i wr => ∃ j : Nat, j ≤ l.length ∧ i = .int .i64 j ∧ PlacedTo l vs j ∧ Below w.heap.size w wr) (fun i _ => l.length - (intOf i).toNat)
  case atStart => exact ⟨0, Nat.zero_le _, rfl, fun j _ _ h => absurd h (by omega), Below.refl _ _⟩
  case round =>
    obtain ⟨j, hj, rfl, hp, hb⟩ := hrel
    have HP := Lib.hid hp
    clear hp
    by_cases hlt : j < l.length
    · obtain ⟨b, o, x, iv, rfl, hD, hx, hvar, hiv, c0, c1, c2, c3, c4⟩ := (ht.now hb).at_ hlt
      obtain ⟨bv, ov, y, rfl, hDv, hy, hfy, d0, d1, d2⟩ := (htv.now hb).at_ (k := j) (by omega)
      have HX := Lib.hid hx
      have HY := Lib.hid hy
      have htm := tame_of (vars_each HQ.out hx)
      clear hx hy
      have HC := Lib.hid (rank_ref x y _ wr.drew (hvar.now (Below.refl _ _).drew) htm hfy)
      unfold valV at HC
      have i1 : (0 : Int) ≤ j := by omega
      have i2 : (j : Int) < (vs.length : Int) := by omega
      have i3 : (j : Int) < (l.length : Int) := by omega
      generalize hz : placeV x y = z at *
      have HZ := Lib.hid hz
      clear hz
      go_wp2_with fail
      go_region_with (go_at_call 111; refine HC.out.mono ?_; rintro e w3 ⟨rfl, hb3⟩)
      all_goals
        have hbw3 := bthen hb.drew hb3
        by_cases hz : z < 0
        · have HE := Lib.hid (assigned_no HX.out HY.out (by rw [HZ.out]; exact hz))
          go_wp2_with fail
          go_ret
          exact ⟨ret_bool HE.out.symm, hbw3⟩
        · go_wp2_with fail
          refine ⟨⟨j + 1, by omega, by simp, fun q a b hq ha hb' => ?_⟩, by simp [intOf]; omega⟩
          by_cases e : q = j
          · subst e
            rw [HX.out] at ha; rw [HY.out] at hb'
            injection ha with ha; injection hb' with hb'
            subst ha hb'
            rw [HZ.out]; omega
          · exact HP.out q a b (by omega) ha hb'
    · obtain rfl : j = l.length := by omega
      have HE := Lib.hid (assigned_yes hlen HP.out)
      go_wp2_with fail
      go_ret
      exact ⟨ret_bool HE.out.symm, hb⟩
end Go.Proofs.YtlmenhjlgmejkaaGreatDoor

namespace Go.Proofs.YtlmenhjlgmejkaaGreatDoor
open Go.RowKit
set_option maxHeartbeats 400000 in
theorem find_ref (vs : List Var) (s : ByteArray) (u : Value) (w : World) (h : SlX (Lt w.heap.size) w u vs) :
    Calls Tryz.prog 146 #[u, .string s] w fun e w' => e = .returned (.int .i64 (findV vs s)) ∧ w = w' := by
  obtain ⟨A, c, rfl, h1, h2, ht⟩ := h.open_
  go_enter Tryz.func146, Tryz.ntmps146
  go_wp2_with fail
  go_loop [5] (fun i => ∃ j : Nat, j ≤ vs.length ∧ i = .int .i64 j ∧ (∀ q y, q < j → vs[q]? = some y → (y.name.toList == s.toList) = false)) (fun i => vs.length - (intOf i).toNat)
  case atStart => exact ⟨0, Nat.zero_le _, rfl, fun q _ h => absurd h (by omega)⟩
  case round =>
    obtain ⟨j, hj, rfl, hp⟩ := hrel
    have HP := Lib.hid hp
    clear hp
    by_cases hlt : j < vs.length
    · obtain ⟨b, o, x, iv, rfl, hD, hx, hvar, hiv, c0, c1, c2, c3, c4⟩ := ht.at_ hlt
      have HX := Lib.hid hx
      clear hx hvar hiv
      cases hq : (x.name.toList == s.toList)
      · have HQ := Lib.hid hq
        go_wp2_with fail
        go_round
        case rel =>
          refine ⟨j + 1, by omega, by go_num, fun q y hq hy => ?_⟩
          by_cases e : q = j
          · subst e; rw [HX.out] at hy; injection hy with hy; subst hy; exact HQ.out
          · exact HP.out q y (by omega) hy
        case measure => simp [intOf]; omega
      · have HF := Lib.hid (findV_hit HX.out hq HP.out)
        go_wp2_with fail
        go_ret
        exact ⟨ret_int HF.out.symm, rfl⟩
    · obtain rfl : j = vs.length := by omega
      have HF := Lib.hid (findV_none HP.out)
      go_wp2_with fail
      go_ret
      exact ⟨ret_int HF.out.symm, rfl⟩
end Go.Proofs.YtlmenhjlgmejkaaGreatDoor
