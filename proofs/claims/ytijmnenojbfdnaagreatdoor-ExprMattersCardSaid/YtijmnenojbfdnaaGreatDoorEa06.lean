/- Texts of this seat, merged. -/
import Derived.Lib.Builder
import Derived.Lib.AppendStr
import Derived.Lib.UnsafeStr
import Derived.Lib.FrozenHead2
import Derived.Lib.OthersKept
import Derived.Laws.Externs
import Derived.Shelf.Strings.Builder1
import Derived.Shelf.Small.Bits
import Derived.Shelf.Small.Wraps
import Derived.Shelf.Strings.BuilderF
import Derived.Shelf.Strings.BuilderK
import Derived.Shelf.Strconv.Atoi
import Derived.Shelf.Strconv.Itoa0
import Derived.Shelf.Strconv.Itoa1
import Derived.Shelf.LaysM
import Derived.Shelf.Strconv.Itoa2
import Derived.Shelf.Strconv.Itoa3
import Derived.Shelf.Strconv.AtoiErrFast
import Derived.Shelf.Strconv.ParseIntEmpty
import Derived.Shelf.Strconv.AtoiFail
import Derived.Shelf.Strconv.Clone
import Derived.Shelf.Strconv.SyntaxError
import Derived.Shelf.LaysC
import Derived.Shelf.Strconv.ToError
import Derived.Shelf.Strconv.Lower
import Derived.Shelf.Strconv.ParseUint10
import Derived.Shelf.Strconv.ParseUint10Empty
import Derived.Shelf.Strconv.ParseUint10Any
import Derived.Shelf.Strconv.ParseInt10
import Derived.Shelf.Strconv.AtoiLong
import Derived.Shelf.Strconv.AtoiInnerAll
import Derived.Shelf.Strconv.RangeError
import Derived.Shelf.Strconv.ToErrorRange
import Derived.Shelf.Strconv.AtoiAll
import Derived.Shelf.Strconv.ErrVarAll
import Derived.Shelf.Strings.Search1
import Derived.Shelf.Strings.Search2
import Derived.Shelf.Strings.Search3
import Derived.Shelf.Strings.Shaped
import Derived.Shelf.Sort.Plain
import Derived.Shelf.Strings.Prefix
import Derived.Shelf.Strings.BuilderCap
import Derived.Shelf.Slices.Turned
import Derived.Shelf.Slices.Equal
import Derived.Ground.Names2Prog
import Derived.Shelf.Slices.Clone
import Derived.Shelf.Slices.CompactS
import Derived.Shelf.Slices.Cells
import Derived.Shelf.Slices.In.SortNone
import Derived.Shelf.Slices.Empties2
import Derived.Test.YtijmnenojbfdnaaGreatDoorProg
import Derived.Maps.AppendAt
import Derived.Deep.AppendLies
import Derived.RegionTactic
import Derived.OwnWalk
import Derived.WalkKit
import Derived.WalkSpells
import Derived.WalkLawsBesides
import Derived.Lib.Hide
import Derived.Deep.Draws
import Derived.Deep.OwnRows
import Derived.KernelRfl
import Derived.Test.YtijmnenojbfdnaaGreatDoorEa01
import Derived.Test.YtijmnenojbfdnaaGreatDoorEa02
import Derived.Test.YtijmnenojbfdnaaGreatDoorEa03
import Derived.Test.YtijmnenojbfdnaaGreatDoorEa04
import Derived.Test.YtijmnenojbfdnaaGreatDoorEa05
set_option linter.unusedSimpArgs false
set_option linter.unusedVariables false
namespace Go.Proofs.YtijmnenojbfdnaaGreatDoor
open Go.RowKit
def Bld (w : World) (B b : Nat) (l : List UInt8) : Prop := Lib.IsBuilderF 92 5 B b (Lib.byteCells l) w
theorem builderSize : (Tryz.prog.info? 92).map (·.size) = some 2 := by kernel_rfl
theorem builderLies : liesAt Tryz.prog Tryz.prog.depth 92 (2 / Tryz.prog.cellsOf 92) 0 92 1 = true := by kernel_rfl
theorem byteInfo : (Tryz.prog.info? 5).map (fun i => (i.zero, i.size, i.bytes)) = some (some (.int .u8 0), 1, 1) := by kernel_rfl
set_option maxHeartbeats 1000000 in
set_option maxRecDepth 100000 in
theorem copyCheck_used (b : Nat) (w : World) (h0 : w.cell? ⟨b, 0, none⟩ = some (.pointer (some ⟨b, 0, none⟩))) :
    Calls Tryz.prog 130 #[.pointer (some ⟨b, 0, none⟩)] w fun e w' => e = .returned (.tuple #[]) ∧ w' = w := by
  obtain ⟨j, hj, _⟩ := Option.map_eq_some_iff.1 builderSize
  go_enter Tryz.func130, Tryz.ntmps130
  go_wp2
  rw [Lib.run_neq_ptr_same w _ Tryz.underlying89 hj]
  go_wp2
  go_end0
  exact ⟨rfl, rfl⟩
set_option maxHeartbeats 1000000 in
set_option maxRecDepth 100000 in
theorem copyCheck_fresh (b : Nat) (w : World) (h0 : w.cell? ⟨b, 0, none⟩ = some (.pointer none)) (hsh : w.shape? b = some (92, 2)) (hfz : w.frozen? ⟨b, 0, none⟩ = false) :
    Calls Tryz.prog 130 #[.pointer (some ⟨b, 0, none⟩)] w fun e w' => e = .returned (.tuple #[]) ∧ w' = w.setCell ⟨b, 0, none⟩ (.pointer (some ⟨b, 0, none⟩)) := by
  obtain ⟨j, hj, hjs⟩ := Option.map_eq_some_iff.1 builderSize
  go_enter Tryz.func130, Tryz.ntmps130
  go_wp2
  rw [Lib.run_to_unsafe w ⟨b, 0, none⟩ Tryz.underlying89 Tryz.underlying186 hj (by rw [hjs]; decide) hsh (Nat.zero_lt_succ 1)]
  simp only [Result.andThen]
  rw [Oper.upon_value]
  go_wp2
  rw [run_callFunc_extern Tryz.func171 (by kernel_rfl) (by kernel_rfl) (by kernel_rfl) (e := Extern.AbiNoEscape.same) (by kernel_rfl)]
  rw [Lib.run_noEscape]
  simp only [Result.andThen]
  rw [Oper.upon_value]
  go_wp2
  rw [Lib.run_from_unsafe w ⟨b, 0, none⟩ Tryz.underlying186 Tryz.underlying89 hj hsh builderLies]
  simp only [Result.andThen]
  rw [Oper.upon_value]
  go_wp2
  go_end0
  exact ⟨rfl, rfl⟩
theorem copyCheck_any (B b : Nat) (bs : List Value) (w : World) (h : Lib.IsBuilderF 92 5 B b bs w) :
    Calls Tryz.prog 130 #[.pointer (some ⟨b, 0, none⟩)] w fun e w' => e = .returned (.tuple #[]) ∧ (Lib.BuilderAtF 92 5 B b (.pointer (some ⟨b, 0, none⟩)) bs w' ∧ Below B w w' ∧ Lib.OthersKept 5 (some b) w w') := by
  rcases h with h | h
  · refine (copyCheck_fresh b w h.cell0 h.shape h.frozen0).mono ?_
    rintro e w' ⟨rfl, rfl⟩
    exact ⟨rfl, h.used _, (Below.refl B w).setCell (p := ⟨b, 0, none⟩) h.1 _, (Lib.OthersKept.refl _ _ w).setCell ⟨b, 0, none⟩ rfl _⟩
  · refine (copyCheck_used b w h.cell0).mono ?_
    rintro e w' ⟨rfl, rfl⟩
    exact ⟨rfl, h, Below.refl B _, Lib.OthersKept.refl _ _ _⟩
set_option maxHeartbeats 2000000 in
set_option maxRecDepth 100000 in
theorem writeString_any (B b : Nat) (l : List UInt8) (s : ByteArray) (w : World) (h : Bld w B b l) (hlen : l.length + s.size ≤ 140737488355328) (hBw : B ≤ w.heap.size) :
    Calls Tryz.prog 94 #[.pointer (some ⟨b, 0, none⟩), .string s] w fun e w' => e = .returned (.tuple #[.int .i64 s.size, .nilIface]) ∧ (Bld w' B b (l ++ s.data.toList) ∧ Below B w w' ∧ Lib.OthersKept 5 (some b) w w') := by
  obtain ⟨i0, hi, hz0, hz1, hz2⟩ := info_parts byteInfo
  have hbl : (Lib.byteCells l).length = l.length := Lib.byteCells_length l
  go_enter Tryz.func94, Tryz.ntmps94
  go_wp2_with (go_at_call 130; refine (copyCheck_any B b (Lib.byteCells l) _ h).mono ?_)
  rintro e w1 ⟨rfl, h1, hb1, hk1⟩
  obtain ⟨hB, v, hbk, hown, hne⟩ := h1
  have c0 : w1.cell? ⟨b, 0, none⟩ = some (.pointer (some ⟨b, 0, none⟩)) := by rw [Lib.cell_of_heap hbk]; rfl
  have c1 : w1.cell? ⟨b, 1, none⟩ = some v := by rw [Lib.cell_of_heap hbk]; rfl
  have HBL := Lib.hid hbl
  clear hbl
  go_wp2_with (at_builtin; refine Lib.wpList_append_own_stringF _ rfl _ _ 90 9 rfl B 5 i0 Tryz.underlying90 Tryz.underlying9 hi hz0 hz1 hz2 _ _ _ rfl hown s rfl ?c3 ?c4 ?c5 ?_)
  case c3 => have := HBL.out; unfold maxLen; omega
  case c4 => have := HBL.out; omega
  case c5 => have := hb1.size; omega
  intro v' w2 hown' hgrow _
  have hlt : b < w1.heap.size := by
    rcases Nat.lt_or_ge b w1.heap.size with h' | h'
    · exact h'
    · simp [Array.getElem?_eq_none h'] at hbk
  have hb2 : w2.heap[b]? = some (.cells #[.pointer (some ⟨b, 0, none⟩), v] 92 (0, 0)) := by
    rw [hgrow.block b hlt (fun e => hne e.symm)]
    exact hbk
  have d0 : w2.cell? ⟨b, 0, none⟩ = some (.pointer (some ⟨b, 0, none⟩)) := by rw [Lib.cell_of_heap hb2]; rfl
  have d1 : w2.cell? ⟨b, 1, none⟩ = some v := by rw [Lib.cell_of_heap hb2]; rfl
  have f1 : w2.frozen? ⟨b, 1, none⟩ = false := Lib.frozen_of_heap hb2 1
  obtain ⟨ao, n', cap, rfl⟩ : ∃ ao n' cap, v' = .slice ao n' cap := by
    rcases hown'.2 with ⟨hv, _⟩ | ⟨g, cap, cur, fz, hv, _⟩
    · exact ⟨_, _, _, hv⟩
    · exact ⟨_, _, _, hv⟩
  go_wp2
  go_ret2
  refine ⟨rfl, ?_, ?_, (hk1.grown hgrow (Lib.ownsRowF_kind hown)).setCell ⟨b, 1, none⟩ rfl _⟩
  · right
    rw [Lib.byteCells_append, ← Lib.strCells_eq]
    exact Lib.BuilderAtF.put (T := 92) (e := 5) hB hb2 (bs' := Lib.byteCells l ++ Lib.strCells s) (by simpa [Lib.strCells_length] using hown') (by decide)
  · exact (hb1.grown hgrow (by have := hb1.size; omega) (fun k hk => (hown.lt k hk).1)).setCell (p := ⟨b, 1, none⟩) hB _
set_option maxHeartbeats 2000000 in
set_option maxRecDepth 100000 in
theorem writeByte_any (B b : Nat) (l : List UInt8) (c : UInt8) (w : World) (h : Bld w B b l) (hlen : l.length + 1 ≤ 140737488355328) (hBw : B ≤ w.heap.size) :
    Calls Tryz.prog 92 #[.pointer (some ⟨b, 0, none⟩), .int .u8 (c.toNat : Int)] w fun e w' => e = .returned .nilIface ∧ (Bld w' B b (l ++ [c]) ∧ Below B w w' ∧ Lib.OthersKept 5 (some b) w w') := by
  obtain ⟨i0, hi, hz0, hz1, hz2⟩ := info_parts byteInfo
  have hbl : (Lib.byteCells l).length = l.length := Lib.byteCells_length l
  have HC : Hid (Lib.byteCells (l ++ [c]) = Lib.byteCells l ++ [.int .u8 (c.toNat : Int)]) := by show _ = _; rw [Lib.byteCells_append]; rfl
  generalize (c.toNat : Int) = z at *
  go_enter Tryz.func92, Tryz.ntmps92
  go_wp2_with (go_at_call 130; refine (copyCheck_any B b (Lib.byteCells l) _ h).mono ?_)
  rintro e w1 ⟨rfl, h1, hb1, hk1⟩
  obtain ⟨hB, v, hbk, hown, hne⟩ := h1
  have c0 : w1.cell? ⟨b, 0, none⟩ = some (.pointer (some ⟨b, 0, none⟩)) := by rw [Lib.cell_of_heap hbk]; rfl
  have c1 : w1.cell? ⟨b, 1, none⟩ = some v := by rw [Lib.cell_of_heap hbk]; rfl
  have HBL := Lib.hid hbl
  clear hbl
  go_wp2_with (at_builtin; refine wpList_append_ownF _ rfl _ _ 90 rfl B 5 i0 (.int .u8 0) 1 1 Tryz.underlying90 hi hz0 hz1 hz2 rfl (by decide) _ _ _ rfl (hown.alloc _) ⟨w1.heap.size, 0, none⟩ 1 1 [.int .u8 z] rfl rfl ?c1 ?c2 ?c3 ?c4 ?c5 ?_)
  case c1 =>
    intro j u hj
    match j, hj with
    | 0, hj => simp at hj; subst hj; simp [Addr.add]
  case c2 => intro u hu; simp at hu; subst hu; rfl
  case c3 => have := HBL.out; unfold maxLen; omega
  case c4 => have := HBL.out; omega
  case c5 => have := hb1.size; simp; omega
  intro v' w2 hown' hgrow _
  have hlt : b < w1.heap.size := by
    rcases Nat.lt_or_ge b w1.heap.size with h' | h'
    · exact h'
    · simp [Array.getElem?_eq_none h'] at hbk
  have hb2 : w2.heap[b]? = some (.cells #[.pointer (some ⟨b, 0, none⟩), v] 92 (0, 0)) := by
    rw [hgrow.block b (by simp; omega) (fun e => hne e.symm), Lib.alloc_old w1 _ b hlt]
    exact hbk
  have d0 : w2.cell? ⟨b, 0, none⟩ = some (.pointer (some ⟨b, 0, none⟩)) := by rw [Lib.cell_of_heap hb2]; rfl
  have d1 : w2.cell? ⟨b, 1, none⟩ = some v := by rw [Lib.cell_of_heap hb2]; rfl
  have f1 : w2.frozen? ⟨b, 1, none⟩ = false := Lib.frozen_of_heap hb2 1
  obtain ⟨ao, n', cap, rfl⟩ : ∃ ao n' cap, v' = .slice ao n' cap := by
    rcases hown'.2 with ⟨hv, _⟩ | ⟨g, cap, cur, fz, hv, _⟩
    · exact ⟨_, _, _, hv⟩
    · exact ⟨_, _, _, hv⟩
  go_wp2
  go_ret
  refine ⟨rfl, ?_, ?_, ((hk1.alloc _).grown hgrow (Lib.ownsRowF_kind (hown.alloc _))).setCell ⟨b, 1, none⟩ rfl _⟩
  · right
    rw [HC.out]
    exact Lib.BuilderAtF.put (T := 92) (e := 5) hB hb2 (bs' := Lib.byteCells l ++ [.int .u8 z]) (by simpa using hown') (by decide)
  · exact ((hb1.alloc (by have := hb1.size; omega) _).grown hgrow (by have := hb1.size; simp; omega) (fun k hk => (hown.lt k hk).1)).setCell (p := ⟨b, 1, none⟩) hB _
theorem string_any (B b : Nat) (l : List UInt8) (w : World) (h : Bld w B b l) (hBw : B ≤ w.heap.size) :
    Calls Tryz.prog 52 #[.pointer (some ⟨b, 0, none⟩)] w fun e w' => e = .returned (.string ⟨l.toArray⟩) ∧ (Bld w' B b l ∧ Below B w w' ∧ Lib.OthersKept 5 (some b) w w') :=
  Tryz.Builder_String_any_k B b l w h hBw
theorem Bld.new {w : World} {b B : Nat} (hb : Blk w b 92 #[.pointer none, .slice none 0 0]) (hB : B ≤ b) : Bld w B b [] := by
  left
  exact ⟨hB, .slice none 0 0, hb, World.ownsRowF_nil _ _ _ _, by simp [Value.ownBlock]⟩
theorem at_now {w w' : World} {B b : Nat} {p : Value} {bs : List Value} (h : Lib.BuilderAtF 92 5 B b p bs w) (hb : Below w.heap.size w w') : Lib.BuilderAtF 92 5 B b p bs w' := by
  obtain ⟨hB, v, hbk, hown, hne⟩ := h
  have hlt : b < w.heap.size := by
    rcases Nat.lt_or_ge b w.heap.size with h' | h'
    · exact h'
    · rw [Array.getElem?_eq_none h'] at hbk; cases hbk
  refine ⟨hB, v, (hb.block b hlt).trans hbk, hown.kept (grown_of_below hb none) ?_, hne⟩
  cases e : v.ownBlock with
  | none => exact .inl rfl
  | some g => exact .inr (by simp)
theorem Bld.now {w w' : World} {B b : Nat} {l : List UInt8} (h : Bld w B b l) (hb : Below w.heap.size w w') : Bld w' B b l := by
  rcases h with h | h
  · exact .inl (at_now h hb)
  · exact .inr (at_now h hb)
theorem Blk.others {w w' : World} {g t : Nat} {b : Option Nat} {cs : Array Value} (h : Blk w g t cs) (hk : Lib.OthersKept 5 b w w') (hg : some g ≠ b) (ht : t ≠ 5) : Blk w' g t cs :=
  hk g _ h hg (fun c fz e => by injection e with _ e _; exact ht e)
end Go.Proofs.YtijmnenojbfdnaaGreatDoor

namespace Go.Proofs.YtijmnenojbfdnaaGreatDoor
open Go.RowKit
def escC (c : UInt8) : List UInt8 := if c.toNat = 34 ∨ c.toNat = 92 then [92, c] else [c]
def escB (l : List UInt8) : List UInt8 := l.flatMap escC
def quoteL (l : List UInt8) : List UInt8 := 34 :: (escB l ++ [34])
def quoteS (s : ByteArray) : ByteArray := ⟨(quoteL s.data.toList).toArray⟩
theorem escB_snoc {l : List UInt8} {k : Nat} {c : UInt8} (h : l[k]? = some c) : escB (l.take (k + 1)) = escB (l.take k) ++ escC c := by
  unfold escB
  rw [List.take_add_one, h, List.flatMap_append]
  simp
theorem escB_len (l : List UInt8) : (escB l).length ≤ 2 * l.length := by
  unfold escB
  induction l with
  | nil => simp
  | cons a l ih =>
    rw [List.flatMap_cons, List.length_append, List.length_cons]
    have : (escC a).length ≤ 2 := by unfold escC; split <;> simp
    omega
theorem byteOf {s : ByteArray} {k : Nat} (h : k < s.size) : s.data.toList[k]? = some s[k] := by
  rw [List.getElem?_eq_getElem (by simpa using h)]; rfl
set_option maxHeartbeats 400000 in
theorem printable_any (s : ByteArray) (w : World) (hs : s.size ≤ maxLen) : Calls Tryz.prog 174 #[.string s] w fun e w' => e = .returned (.bool (plainS s)) ∧ w = w' := by
  unfold maxLen at hs
  go_enter Tryz.func174, Tryz.ntmps174
  go_wp2_with fail
  go_loop [6] (fun i => ∃ k : Nat, k ≤ s.size ∧ i = .int .i64 k ∧ ∀ j (hj : j < s.size), j < k → plainC (s.data.toList[j]'(by simpa using hj)) = true) (fun i => s.size - (intOf i).toNat)
  case atStart => exact ⟨0, Nat.zero_le _, rfl, fun j _ hj => absurd hj (by omega)⟩
  case round =>
    obtain ⟨k, hk, rfl, hp⟩ := hrel
    have HP := Lib.hid hp
    clear hp
    by_cases hlt : k < s.size
    · have HY := Lib.hid (byte_plain hlt)
      by_cases h1 : (s[k].toNat : Int) < 32
      · have HE := Lib.hid (not_plain hlt (fun h => by have := HY.out.1 h; omega))
        go_wp2_with fail
        go_ret
        exact ⟨ret_bool HE.out.symm, rfl⟩
      by_cases h2 : 126 < (s[k].toNat : Int)
      · have HE := Lib.hid (not_plain hlt (fun h => by have := HY.out.1 h; omega))
        go_wp2_with fail
        go_ret
        exact ⟨ret_bool HE.out.symm, rfl⟩
      have HQ := Lib.hid (HY.out.2 ⟨by omega, by omega⟩)
      go_wp2_with fail
      go_round
      case rel => exact ⟨k + 1, by omega, by go_num, fun j hj hjk => by
        by_cases e : j = k
        · subst e; exact HQ.out
        · exact HP.out j hj (by omega)⟩
      case measure => simp [intOf]; omega
    · have HE := Lib.hid (all_plain (s := s) (fun j hj => HP.out j hj (by omega)))
      go_wp2_with fail
      go_ret
      exact ⟨ret_bool HE.out.symm, rfl⟩
set_option maxHeartbeats 1000000 in
theorem literal_any (s : ByteArray) (w : World) (hs : s.size ≤ 1000000) : Calls Tryz.prog 175 #[.string s] w fun e w' => e = .returned (.string (quoteS s)) ∧ Below w.heap.size w w' := by
  have hb := bone w (.cells #[.pointer none, .slice none 0 0] 92)
  have hB0 := Bld.new (Blk.new w 92 #[.pointer none, .slice none 0 0]) (Nat.le_refl _)
  go_enter Tryz.func175, Tryz.ntmps175
  go_wp2_with fail
  refine (writeByte_any w.heap.size w.heap.size [] 34 _ hB0 (by simp) (by simp)).mono ?_
  rintro e w1 ⟨rfl, hB1, hb1, _⟩
  have hbw1 : Below w.heap.size w w1 := hb.trans hb1
  go_wp2_with fail
  go_loopw [8] (fun i wr => ∃ k : Nat, k ≤ s.size ∧ i = .int .i64 k ∧ Bld wr w.heap.size w.heap.size (34 :: escB (s.data.toList.take k)) ∧ Below w.heap.size w wr) (fun i _ => s.size - (intOf i).toNat)
  case atStart => exact ⟨0, Nat.zero_le _, rfl, hB1, hbw1⟩
  case round =>
    obtain ⟨k, hk, rfl, hBr, hbr⟩ := hrel
    have hsz := hbr.size
    by_cases hlt : k < s.size
    · have HN := Lib.hid (escB_snoc (byteOf hlt))
      have hle : (34 :: escB (s.data.toList.take k)).length + 3 ≤ 140737488355328 := by
        have := escB_len (s.data.toList.take k)
        rw [List.length_take] at this
        simp only [List.length_cons]
        omega
      have HU : Hid (∀ c : UInt8, escC c = if c.toNat = 34 ∨ c.toNat = 92 then [92, c] else [c]) := fun _ => rfl
      generalize hL : 34 :: escB (s.data.toList.take k) = L at *
      have HL := Lib.hid hL
      clear hL
      by_cases hq : (s[k].toNat : Int) = 34 ∨ (s[k].toNat : Int) = 92
      · have HX : Hid (34 :: escB (s.data.toList.take (k + 1)) = L ++ [92] ++ [s[k]]) := by
          show _ = _
          rw [HN.out, HU.out, if_pos (by omega), ← HL.out]; simp
        by_cases hq1 : (s[k].toNat : Int) = 34
        · have h1 : ((s[k].toNat : Int) == 34) = true := beq_iff_eq.2 hq1
          clear hq hq1
          go_wp2_with fail
          refine (writeByte_any w.heap.size w.heap.size L 92 _ hBr (by omega) hsz).mono ?_
          rintro e w2 ⟨rfl, hB2, hb2, _⟩
          have hs2 := hb2.size
          go_wp2_with fail
          refine (writeByte_any w.heap.size w.heap.size (L ++ [92]) s[k] _ hB2 (by simp; omega) (by omega)).mono ?_
          rintro e w3 ⟨rfl, hB3, hb3, _⟩
          go_wp2_with fail
          go_roundw
          case rel => exact ⟨k + 1, by omega, by go_num, by rw [HX.out]; exact hB3, (hbr.trans hb2).trans hb3⟩
          case measure => simp [intOf]; omega
        · have h1 : ((s[k].toNat : Int) == 34) = false := beq_eq_false_iff_ne.2 hq1
          have h2 : ((s[k].toNat : Int) == 92) = true := beq_iff_eq.2 (by omega)
          clear hq hq1
          go_wp2_with fail
          refine (writeByte_any w.heap.size w.heap.size L 92 _ hBr (by omega) hsz).mono ?_
          rintro e w2 ⟨rfl, hB2, hb2, _⟩
          have hs2 := hb2.size
          go_wp2_with fail
          refine (writeByte_any w.heap.size w.heap.size (L ++ [92]) s[k] _ hB2 (by simp; omega) (by omega)).mono ?_
          rintro e w3 ⟨rfl, hB3, hb3, _⟩
          go_wp2_with fail
          go_roundw
          case rel => exact ⟨k + 1, by omega, by go_num, by rw [HX.out]; exact hB3, (hbr.trans hb2).trans hb3⟩
          case measure => simp [intOf]; omega
      · have HX : Hid (34 :: escB (s.data.toList.take (k + 1)) = L ++ [s[k]]) := by
          show _ = _
          rw [HN.out, HU.out, if_neg (by omega), ← HL.out]; simp
        have h1 : ((s[k].toNat : Int) == 34) = false := beq_eq_false_iff_ne.2 (fun h => hq (Or.inl h))
        have h2 : ((s[k].toNat : Int) == 92) = false := beq_eq_false_iff_ne.2 (fun h => hq (Or.inr h))
        clear hq
        go_wp2_with fail
        refine (writeByte_any w.heap.size w.heap.size L s[k] _ hBr (by omega) hsz).mono ?_
        rintro e w3 ⟨rfl, hB3, hb3, _⟩
        go_wp2_with fail
        go_roundw
        case rel => exact ⟨k + 1, by omega, by go_num, by rw [HX.out]; exact hB3, hbr.trans hb3⟩
        case measure => simp [intOf]; omega
    · obtain rfl : k = s.size := by omega
      have HT : Hid (34 :: escB (s.data.toList.take s.size) ++ [34] = quoteL s.data.toList) := by
        show _ = _
        unfold quoteL
        rw [List.take_of_length_le (by simp)]; rfl
      have hle : (34 :: escB (s.data.toList.take s.size)).length + 3 ≤ 140737488355328 := by
        have := escB_len (s.data.toList.take s.size)
        rw [List.length_take] at this
        simp only [List.length_cons]
        omega
      generalize 34 :: escB (s.data.toList.take s.size) = L at *
      go_wp2_with fail
      refine (writeByte_any w.heap.size w.heap.size L 34 _ hBr (by omega) hsz).mono ?_
      rintro e w2 ⟨rfl, hB2, hb2, _⟩
      have hs2 := hb2.size
      go_wp2_with fail
      refine (string_any w.heap.size w.heap.size (L ++ [34]) _ hB2 (by omega)).mono ?_
      rintro e w3 ⟨rfl, hB3, hb3, _⟩
      go_wp2_with fail
      go_ret
      refine ⟨?_, (hbr.trans hb2).trans hb3⟩
      rw [HT.out]; rfl
def quoteE (s : ByteArray) : ByteArray × Int := if 16384 < s.size then (⟨#[]⟩, 5) else if plainS s then (quoteS s, 0) else (⟨#[]⟩, 3)
theorem ret_si {a b : ByteArray} {c d : Int} (h : (a, c) = (b, d)) : Ending.returned (.tuple #[.string a, .int .i64 c]) = .returned (.tuple #[.string b, .int .i64 d]) := by injection h with h1 h2; rw [h1, h2]
set_option maxHeartbeats 400000 in
theorem quote_any (s : ByteArray) (w : World) (hs : s.size ≤ maxLen) : Calls Tryz.prog 133 #[.string s] w fun e w' => e = .returned (.tuple #[.string (quoteE s).1, .int .i64 (quoteE s).2]) ∧ Below w.heap.size w w' := by
  have hs0 := hs
  unfold maxLen at hs
  go_enter Tryz.func133, Tryz.ntmps133
  by_cases h1 : 16384 < s.size
  · have HE : Hid (quoteE s = (⟨#[]⟩, 5)) := if_pos h1
    go_wp2_with fail
    go_ret2
    exact ⟨ret_si (by rw [HE.out]), Below.refl _ _⟩
  have HE : Hid (quoteE s = if plainS s then (quoteS s, 0) else (⟨#[]⟩, 3)) := if_neg h1
  go_wp2_with fail
  refine (printable_any s _ hs0).mono ?_
  rintro e w1 ⟨rfl, rfl⟩
  generalize plainS s = q at *
  cases q
  · go_wp2_with fail
    go_ret2
    exact ⟨ret_si (by rw [HE.out]; rfl), Below.refl _ _⟩
  · go_wp2_with fail
    refine (literal_any s _ (by omega)).mono ?_
    rintro e w2 ⟨rfl, hb2⟩
    go_wp2_with fail
    go_ret2
    exact ⟨ret_si (by rw [HE.out]; rfl), hb2⟩
end Go.Proofs.YtijmnenojbfdnaaGreatDoor

namespace Go.Proofs.YtijmnenojbfdnaaGreatDoor
open Go.RowKit
theorem var_now {P : Program} {w w' : World} {n : String} {cs : Array Value} (h : w.var? P n = some cs) (hb : Below w.heap.size w w') : w'.var? P n = some cs := by
  unfold World.var? at h ⊢
  obtain ⟨g, hg, h1⟩ := Option.bind_eq_some_iff.1 h
  rw [hg]
  show (match w'.heap[g]? with | some (.cells cs _ _) => some cs | _ => none) = some cs
  have hlt : g < w.heap.size := by
    rcases Nat.lt_or_ge g w.heap.size with h' | h'
    · exact h'
    · rw [Array.getElem?_eq_none h'] at h1; cases h1
  rw [hb.block g hlt]
  exact h1
theorem bgrow (w : World) (k : Nat) (os : Array Obj) : Below w.heap.size w (Go.Sort.grow (w.drewN k) os) := by
  refine ⟨rfl, rfl, rfl, ?_, fun b hb => ?_⟩
  · show w.heap.size ≤ (w.heap ++ os).size
    rw [Array.size_append]; omega
  · show (w.heap ++ os)[b]? = w.heap[b]?
    rw [Array.getElem?_append_left hb]
structure Amb (w : World) : Prop where
  tab : Lib.TabIs Tryz.prog w "internal/strconv.uint64pow10" .u64 Lib.pow10Tab
theorem Amb.now {w w' : World} (h : Amb w) (hb : Below w.heap.size w w') : Amb w' := by
  first
    | (obtain ⟨h1, ⟨t, p, h2⟩, ⟨t', p', h3⟩⟩ := h; exact ⟨var_now h1 hb, ⟨t, p, var_now h2 hb⟩, ⟨t', p', var_now h3 hb⟩⟩)
    | (obtain ⟨h1⟩ := h; exact ⟨var_now h1 hb⟩)
def itoaS (n : Int) : ByteArray := ⟨(Lib.itoa n).toArray⟩
def trueS : ByteArray := ⟨#[116, 114, 117, 101]⟩
def falseS : ByteArray := ⟨#[102, 97, 108, 115, 101]⟩
def textV (v : Val) : ByteArray := if v.kind = 1 then (if v.n = 1 then trueS else falseS) else if v.kind = 2 then itoaS v.n else quoteS v.s
def textE (v : Val) : ByteArray × Int := if validV v then (textV v, 0) else (⟨#[]⟩, 1)
theorem valid3 {v : Val} (h : validV v = true) (h1 : v.kind ≠ 1) (h2 : v.kind ≠ 2) : v.kind = 3 ∧ v.n = 0 ∧ textB v.s = true := by
  unfold validV at h
  rw [if_neg h1, if_neg h2] at h
  split at h
  · rename_i h3
    simp only [Bool.and_eq_true, decide_eq_true_eq] at h
    exact ⟨h3, h⟩
  · cases h
theorem valid1 {v : Val} (h : validV v = true) (h1 : v.kind = 1) : (v.n = 0 ∨ v.n = 1) ∧ noS v.s = true := by
  unfold validV at h
  rw [if_pos h1] at h
  simpa using h
theorem text_size {s : ByteArray} (h : textB s = true) : s.size ≤ 200 ∧ plainS s = true := by
  unfold textB at h
  simp only [Bool.and_eq_true, decide_eq_true_eq] at h
  exact h
theorem quote_of_text {s : ByteArray} (h : textB s = true) : quoteE s = (quoteS s, 0) := by
  obtain ⟨h1, h2⟩ := text_size h
  unfold quoteE
  rw [if_neg (by omega), h2]; rfl
set_option maxHeartbeats 1000000 in
theorem textE_any (v : Val) (w : World) (hf : FitV v) (ha : Amb w) :
    Calls Tryz.prog 93 #[valV v] w fun e w' => e = .returned (.tuple #[.string (textE v).1, .int .i64 (textE v).2]) ∧ Below w.heap.size w w' := by
  have hb := bone w (.cells #[.int .i64 v.kind, .int .i64 v.n, .string v.s] 25)
  have hB := Blk.new w 25 #[.int .i64 v.kind, .int .i64 v.n, .string v.s]
  have ha1 := ha.now hb
  unfold valV
  go_enter Tryz.func93, Tryz.ntmps93
  go_wp2_with fail
  refine (validV_any v _ hf).mono ?_
  rintro e w2 ⟨rfl, hb2⟩
  have hB2 := hB.now hb2
  have hbw2 := bthen hb hb2
  have ha2 := ha1.now hb2
  obtain ⟨y0, y1, y2⟩ := hB2.c3
  generalize hq : validV v = q
  have HQ := Lib.hid hq
  clear hq
  cases q
  · have HE : Hid (textE v = (⟨#[]⟩, 1)) := by show _ = _; unfold textE; rw [HQ.out]; rfl
    go_wp2_with fail
    go_ret2
    exact ⟨ret_si (by rw [HE.out]), hbw2⟩
  have HE : Hid (textE v = (textV v, 0)) := by show _ = _; unfold textE; rw [HQ.out]; rfl
  obtain ⟨k, n, s⟩ := v
  obtain ⟨g1, g2, g3⟩ := hf
  unfold Fit at g1 g2
  dsimp only at *
  by_cases k1 : k = 1
  · subst k1
    rcases (valid1 HQ.out rfl).1 with hn | hn
    · dsimp only at hn
      subst hn
      have HT : Hid (textV ⟨1, 0, s⟩ = falseS) := rfl
      go_wp2_with fail
      refine (Tryz.strconv_FormatBool _ _).mono ?_
      rintro e w3 ⟨rfl, rfl⟩
      go_wp2_with fail
      go_ret2
      exact ⟨ret_si (by rw [HE.out, HT.out]; rfl), hbw2⟩
    · dsimp only at hn
      subst hn
      have HT : Hid (textV ⟨1, 1, s⟩ = trueS) := rfl
      go_wp2_with fail
      refine (Tryz.strconv_FormatBool _ _).mono ?_
      rintro e w3 ⟨rfl, rfl⟩
      go_wp2_with fail
      go_ret2
      exact ⟨ret_si (by rw [HE.out, HT.out]; rfl), hbw2⟩
  by_cases k2 : k = 2
  · subst k2
    have HT : Hid (textV ⟨2, n, s⟩ = itoaS n) := rfl
    go_wp2_with fail
    refine (Tryz.strconv_Itoa n g2.1 g2.2 _ ha2.tab).mono ?_
    rintro e w3 ⟨rfl, kk, os, rfl⟩
    go_wp2_with fail
    go_ret2
    exact ⟨ret_si (by rw [HE.out, HT.out]; rfl), bthen hbw2 (bgrow w2 kk os)⟩
  · obtain ⟨k3, n0, ht⟩ := valid3 HQ.out k1 k2
    dsimp only at k3 n0 ht
    subst k3 n0
    have HT : Hid (textV ⟨3, 0, s⟩ = quoteS s) := rfl
    have HU := Lib.hid (quote_of_text ht)
    clear k1 k2
    go_wp2_with fail
    refine (quote_any s _ g3).mono ?_
    rintro e w3 ⟨rfl, hb3⟩
    rw [HU.out]
    go_wp2_with fail
    go_ret2
    exact ⟨ret_si (by rw [HE.out, HT.out]), bthen hbw2 hb3⟩
end Go.Proofs.YtijmnenojbfdnaaGreatDoor

namespace Go.Proofs.YtijmnenojbfdnaaGreatDoor
open Go.RowKit
theorem appStrs : AppInfo Tryz.prog 46 9 1 := AppInfo.mk' Tryz.underlying46 (by kernel_rfl) (bytes := 16) (z := .string ⟨#[]⟩) (by omega) rfl (by omega)
def RetIns (l : List Bs) (s : Bs) (w : World) (e : Ending) (w' : World) : Prop := ∃ v' r, e = .returned v' ∧ SlS (Lt w'.heap.size) w' v' (r.map mkS) ∧ InsRes l s r ∧ Below w.heap.size w w'
end Go.Proofs.YtijmnenojbfdnaaGreatDoor

namespace Go.Proofs.YtijmnenojbfdnaaGreatDoor
open Go.RowKit
theorem lexSize (s : ByteArray) : s.data.toList.length = s.size := Array.length_toList
theorem lexDrop {s : ByteArray} {k : Nat} (h : k < s.size) : s.data.toList.drop k = s[k] :: s.data.toList.drop (k + 1) := by
  rw [List.drop_eq_getElem_cons (by rw [lexSize]; exact h)]
  congr 1
theorem lexExt (s : ByteArray) (a b : Nat) : (s.extract a b).data.toList = (s.data.toList.drop a).take (b - a) := by
  rw [ByteArray.data_extract, Array.toList_extract, List.extract_eq_take_drop]
def lenP (p : UInt8 → Bool) (l : List UInt8) : Nat := (l.takeWhile p).length
theorem lenP_le (p : UInt8 → Bool) (l : List UInt8) : lenP p l ≤ l.length := by
  unfold lenP
  exact List.Sublist.length_le (List.takeWhile_sublist p)
theorem lenP_cons (p : UInt8 → Bool) (a : UInt8) (l : List UInt8) : lenP p (a :: l) = if p a then lenP p l + 1 else 0 := by
  unfold lenP
  rw [List.takeWhile_cons]
  split <;> simp
theorem lenP_in (p : UInt8 → Bool) : ∀ (l : List UInt8) (j : Nat), j < lenP p l → ∃ c r, l.drop j = c :: r ∧ p c = true
  | [], j, h => by unfold lenP at h; simp at h
  | a :: l, j, h => by
    rw [lenP_cons] at h
    cases ha : p a with
    | false => rw [ha] at h; simp at h
    | true =>
      rw [ha, if_pos rfl] at h
      cases j with
      | zero => exact ⟨a, l, rfl, ha⟩
      | succ j => exact lenP_in p l j (by omega)
theorem lenP_out (p : UInt8 → Bool) : ∀ (l : List UInt8) (c : UInt8) (r : List UInt8), l.drop (lenP p l) = c :: r → p c = false
  | [], c, r, h => by unfold lenP at h; simp at h
  | a :: l, c, r, h => by
    rw [lenP_cons] at h
    cases ha : p a with
    | false =>
      rw [ha] at h
      have h : a :: l = c :: r := h
      injection h with h1 _
      rw [← h1, ha]
    | true =>
      rw [ha, if_pos rfl] at h
      exact lenP_out p l c r (by simpa using h)
def letB (c : UInt8) : Bool := (decide (97 ≤ c.toNat) && decide (c.toNat ≤ 122)) || (decide (65 ≤ c.toNat) && decide (c.toNat ≤ 90))
def digB (c : UInt8) : Bool := decide (48 ≤ c.toNat) && decide (c.toNat ≤ 57)
def wordC (c : UInt8) : Bool := letB c || digB c || c == 95 || c == 45 || c == 46
def symL : List ByteArray := [⟨#[45, 62]⟩, ⟨#[61, 62]⟩, ⟨#[60, 61]⟩, ⟨#[62, 61]⟩, ⟨#[33, 61]⟩, ⟨#[61, 61]⟩, ⟨#[58, 61]⟩, ⟨#[46, 46]⟩, ⟨#[40]⟩, ⟨#[41]⟩, ⟨#[91]⟩, ⟨#[93]⟩, ⟨#[123]⟩, ⟨#[125]⟩, ⟨#[44]⟩, ⟨#[59]⟩, ⟨#[58]⟩, ⟨#[46]⟩, ⟨#[124]⟩, ⟨#[38]⟩, ⟨#[33]⟩, ⟨#[63]⟩, ⟨#[43]⟩, ⟨#[45]⟩, ⟨#[42]⟩, ⟨#[47]⟩, ⟨#[61]⟩, ⟨#[60]⟩, ⟨#[62]⟩, ⟨#[64]⟩, ⟨#[37]⟩, ⟨#[94]⟩, ⟨#[126]⟩]
def symB (l : List UInt8) : Option ByteArray := symL.find? fun x => Lib.hasPrefix l x.data.toList
def digV : List UInt8 → Option Int
  | [49] => some 1
  | [51] => some 3
  | [52] => some 4
  | _ => none
theorem digV_ok {l : List UInt8} {v : Int} (h : digV l = some v) : Lib.atoiAll l = .ok v ∧ 0 ≤ v ∧ v ≤ 4 := by
  unfold digV at h
  split at h
  all_goals first
    | (injection h with h; subst h; exact ⟨by decide +kernel, by decide, by decide⟩)
    | cases h
structure Tok where
  kind : Int
  text : ByteArray
  n : Int
  col : Int
def badNext : List UInt8 → Bool
  | d :: _ => letB d || d == 95
  | [] => false
def nextB (s : ByteArray) : Option (Int × ByteArray × Int × Nat) := match s.data.toList with
  | [] => some (5, ⟨#[]⟩, 0, 0)
  | c :: l =>
    if letB c then (if lenP wordC (c :: l) ≤ 40 then some (1, s.extract 0 (lenP wordC (c :: l)), 0, lenP wordC (c :: l)) else none)
    else if digB c then (if lenP digB (c :: l) = s.size then (digV ((c :: l).take (lenP digB (c :: l)))).map fun v => (2, ⟨#[]⟩, v, lenP digB (c :: l))
      else if badNext ((c :: l).drop (lenP digB (c :: l))) then none
      else (digV ((c :: l).take (lenP digB (c :: l)))).map fun v => (2, ⟨#[]⟩, v, lenP digB (c :: l)))
    else if c = 34 then none
    else (symB (c :: l)).map fun x => (4, x, 0, x.size)
def plainBlank (l : List UInt8) : Bool := match l.drop (lenP (· == 32) l) with
  | c :: _ => !(c == 9 || c == 10 || c == 13 || c == 35)
  | [] => true
def lexB : Nat → ByteArray → Int → Option (List Tok)
  | 0, _, _ => none
  | f + 1, s, col =>
    if plainBlank s.data.toList then
      match nextB (s.extract (lenP (· == 32) s.data.toList) s.size) with
      | some (k, t, n, len) =>
        if k = 5 then some [⟨k, t, n, col + lenP (· == 32) s.data.toList⟩]
        else if len ≤ s.size - lenP (· == 32) s.data.toList ∧ ((s.data.toList.drop (lenP (· == 32) s.data.toList)).take len).all (· != 10) then
          (lexB f (s.extract (lenP (· == 32) s.data.toList + len) s.size) (col + lenP (· == 32) s.data.toList + len)).map (⟨k, t, n, col + lenP (· == 32) s.data.toList⟩ :: ·)
        else none
      | none => none
    else none
def ex1 : ByteArray := ⟨#[110, 111, 116, 32, 110, 32, 43, 32, 49, 32, 61, 32, 51]⟩
def toks1 : List Tok := [⟨1, ⟨#[110, 111, 116]⟩, 0, 1⟩, ⟨1, ⟨#[110]⟩, 0, 5⟩, ⟨4, ⟨#[43]⟩, 0, 7⟩, ⟨2, ⟨#[]⟩, 1, 9⟩, ⟨4, ⟨#[61]⟩, 0, 11⟩, ⟨2, ⟨#[]⟩, 3, 13⟩, ⟨5, ⟨#[]⟩, 0, 14⟩]
def ex2 : ByteArray := ⟨#[110, 32, 42, 32, 110, 32, 60, 61, 32, 52, 32, 97, 110, 100, 32, 110, 111, 116, 32, 40, 110, 32, 105, 110, 32, 123, 49, 125, 41]⟩
def toks2 : List Tok := [⟨1, ⟨#[110]⟩, 0, 1⟩, ⟨4, ⟨#[42]⟩, 0, 3⟩, ⟨1, ⟨#[110]⟩, 0, 5⟩, ⟨4, ⟨#[60, 61]⟩, 0, 7⟩, ⟨2, ⟨#[]⟩, 4, 10⟩, ⟨1, ⟨#[97, 110, 100]⟩, 0, 12⟩, ⟨1, ⟨#[110, 111, 116]⟩, 0, 16⟩, ⟨4, ⟨#[40]⟩, 0, 20⟩, ⟨1, ⟨#[110]⟩, 0, 21⟩, ⟨1, ⟨#[105, 110]⟩, 0, 23⟩, ⟨4, ⟨#[123]⟩, 0, 26⟩, ⟨2, ⟨#[]⟩, 1, 27⟩, ⟨4, ⟨#[125]⟩, 0, 28⟩, ⟨4, ⟨#[41]⟩, 0, 29⟩, ⟨5, ⟨#[]⟩, 0, 30⟩]
theorem lex1 : lexB 20 ex1 1 = some toks1 := by kernel_rfl
theorem lex2 : lexB 20 ex2 1 = some toks2 := by kernel_rfl
end Go.Proofs.YtijmnenojbfdnaaGreatDoor

namespace Go.Proofs.YtijmnenojbfdnaaGreatDoor
open Go.RowKit
section
variable {α : Type} {fc : α → List Value} {size : Nat}
def flat (fc : α → List Value) (xs : List α) : List Value := xs.flatMap fc
theorem flat_len (hfc : ∀ x, (fc x).length = size) (xs : List α) : (flat fc xs).length = xs.length * size := by
  induction xs with
  | nil => simp [flat]
  | cons x xs ih =>
    have : flat fc (x :: xs) = fc x ++ flat fc xs := rfl
    rw [this, List.length_append, hfc, ih, List.length_cons, Nat.succ_mul]; omega
theorem flat_get (hfc : ∀ x, (fc x).length = size) (xs : List α) : ∀ (i j : Nat) (x : α), xs[i]? = some x → j < size → (flat fc xs)[i * size + j]? = (fc x)[j]? := by
  induction xs with
  | nil => intro i j x hx; simp at hx
  | cons y xs ih =>
    intro i j x hx hj
    have e : flat fc (y :: xs) = fc y ++ flat fc xs := rfl
    rw [e]
    cases i with
    | zero =>
      injection hx with hx; subst hx
      rw [Nat.zero_mul, Nat.zero_add, List.getElem?_append_left (by rw [hfc]; exact hj)]
    | succ i =>
      rw [List.getElem?_append_right (by rw [hfc, Nat.succ_mul]; omega), hfc]
      have : (i + 1) * size + j - size = i * size + j := by rw [Nat.succ_mul]; omega
      rw [this]
      exact ih i j x (by simpa using hx) hj
theorem flat_at (hfc : ∀ x, (fc x).length = size) (hs : 0 < size) (xs : List α) {j : Nat} {u : Value} (h : (flat fc xs)[j]? = some u) : ∃ i r x, j = i * size + r ∧ r < size ∧ xs[i]? = some x ∧ (fc x)[r]? = some u := by
  have hj : j < xs.length * size := by
    rw [← flat_len hfc]
    rcases Nat.lt_or_ge j (flat fc xs).length with h' | h'
    · exact h'
    · rw [List.getElem?_eq_none h'] at h; cases h
  have hi : j / size < xs.length := Nat.div_lt_of_lt_mul (by rw [Nat.mul_comm]; exact hj)
  have hr : j % size < size := Nat.mod_lt _ hs
  have e : j = j / size * size + j % size := by rw [Nat.mul_comm]; exact (Nat.div_add_mod j size).symm
  refine ⟨j / size, j % size, xs[j / size], e, hr, List.getElem?_eq_getElem hi, ?_⟩
  rw [← flat_get hfc xs (j / size) (j % size) _ (List.getElem?_eq_getElem hi) hr, ← e]
  exact h
theorem flat_append (xs ys : List α) : flat fc (xs ++ ys) = flat fc xs ++ flat fc ys := by simp [flat]
def OwnW (size : Nat) (fc : α → List Value) (w : World) (base t : Nat) (v : Value) (xs : List α) : Prop := w.ownsRow base t size v xs.length (flat fc xs)
variable {R : ElemR α} {w w' : World} {base t : Nat} {v : Value} {xs : List α}
theorem OwnW.nil : OwnW size fc w base t (.slice none 0 0) ([] : List α) := World.ownsRow_nil _ _ _ _
theorem OwnW.now (h : OwnW size fc w base t v xs) (hb : Below w.heap.size w w') : OwnW size fc w' base t v xs := own_now h hb
theorem OwnW.sl (h : OwnW size fc w base t v xs) (hfc : ∀ x, (fc x).length = size) (hR : ∀ D w x, x ∈ xs → R D w x (fc x)) : Sl size R (Lt w.heap.size) w v xs :=
  Sl.of_own h rfl (own_lt h) fun i x hx => ⟨fc x, hfc x, fun j u hu => by
    have hj : j < size := by
      rw [← hfc x]
      rcases Nat.lt_or_ge j (fc x).length with h' | h'
      · exact h'
      · rw [List.getElem?_eq_none h'] at hu; cases hu
    rw [flat_get hfc xs i j x hx hj]; exact hu, hR _ _ x (List.mem_of_getElem? hx)⟩
theorem OwnW.form (h : OwnW size fc w base t v xs) (hn : 0 < xs.length) : ∃ g cap, v = .slice (some ⟨g, 0, none⟩) xs.length cap ∧ xs.length ≤ cap ∧ base ≤ g ∧ g < w.heap.size := by
  have hl := World.ownsRow.lt h
  rcases h.2 with ⟨_, h0⟩ | ⟨g, cap, cur, rfl, hb, hg, hc, hm, hs, htake⟩
  · omega
  · exact ⟨g, cap, rfl, hc, hb, (hl g rfl).2⟩
theorem wp_appendAllW {P : Program} {e : Nat} {D : Nat → Prop} {o : Oper} {a : Act} {K : Act → World → Prop} {Q : Exit → Act → World → Prop} (hI : AppInfo P t e size) (s x : Operand)
    (ho : o.op = .call { callee := .builtin .append, args := #[s, x], argTypes := #[t, t] }) (w : World) (hfc : ∀ x, (fc x).length = size) (xs : List α)
    (v : Value) (hs : a.eval s = v) (hown : OwnW size fc w base e v xs) (u : Value) (ys : List α) (hx : a.eval x = u) (hu : Sl size R D w u ys) (hf : ∀ y c, R D w y c → c = fc y) (h1 : ∀ y, ∀ u ∈ fc y, u.oneCell' = true) (hn : xs.length + ys.length < 10000000) (hbase : base ≤ w.heap.size)
    (h : ∀ v' w', OwnW size fc w' base e v' (xs ++ ys) → w.grownBy w' v.ownBlock → (v'.ownBlock = v.ownBlock ∨ v'.ownBlock = some w.heap.size) → K (a.put o.dst v') w') : o.wp P a w K Q := by
  obtain ⟨i, z, ht, hi, hz, hsz, hby, hzs, hp⟩ := hI
  obtain ⟨A, c, rfl, hc1, hc2, hu⟩ := hu.open_
  unfold OwnW at hown
  have key : ∃ v' w', (Builtin.append_ #[t, t] o.type #[v, .slice A ys.length c]).run P w = .ok v' w' ∧ OwnW size fc w' base e v' (xs ++ ys) ∧ w.grownBy w' v.ownBlock ∧ (v'.ownBlock = v.ownBlock ∨ v'.ownBlock = some w.heap.size) := by
    unfold OwnW
    rw [flat_append, List.length_append]
    rcases Nat.eq_zero_or_pos ys.length with h0 | h0
    · have : ys = [] := List.eq_nil_of_length_eq_zero h0
      subst this
      rcases A with _ | ad
      · refine ⟨v, w, ?_, by simpa [flat] using hown, World.grownBy.refl w _, .inl rfl⟩
        rcases hown.2 with ⟨rfl, h0⟩ | ⟨g, cap, cur, rfl, _, _, hnc, _⟩
        · simp [Builtin.append_, run_underlying ht, sizeOf, typeInfo, hi, Builtin.lenOf, Builtin.firstCells]
        · simp [Builtin.append_, run_underlying ht, sizeOf, typeInfo, hi, Builtin.lenOf, Builtin.firstCells, hnc, storeCells]
      · obtain ⟨v', w', hrun, h2, h3, _, h5⟩ := run_append_own_at (P := P) w base t o.type e i z size i.bytes ht hi hz hsz rfl hzs hp v _ _ hown ad 0 c [] (by simp) (fun j u hj => by simp at hj) (by simp) (by unfold maxLen; simp at hn; omega) (by
          have : (xs.length + 0) * i.bytes ≤ 10000000 * 4096 := Nat.mul_le_mul (by simp at hn; omega) hby
          omega) hbase
        exact ⟨v', w', hrun, h2, h3, h5⟩
    · obtain ⟨_, _, _, h3⟩ := hu
      have hrow : ∃ b off, A = some ⟨b, off, none⟩ ∧ ∀ j u, (flat fc ys)[j]? = some u → w.cell? ⟨b, off + j, none⟩ = some u := by
        obtain ⟨A', c', hv, _, _, h3⟩ := (show Sl size R D w (.slice A ys.length c) ys from ‹_›)
        injection hv with hA _ _
        subst hA
        obtain ⟨b, off, _, hA, _⟩ := h3 0 ys[0] (List.getElem?_eq_getElem h0)
        refine ⟨b, off, hA, fun j u hj => ?_⟩
        obtain ⟨i, r, y, rfl, hr, hy, hfu⟩ := flat_at hfc (by omega) ys hj
        obtain ⟨b', off', cs, hA', _, _, hR, hcell⟩ := h3 i y hy
        rw [hA] at hA'
        injection hA' with hA'
        injection hA' with e1 e2 _
        subst e1 e2
        rw [hf y cs hR] at hcell
        have := hcell r u hfu
        rwa [Nat.add_assoc] at this
      obtain ⟨b, off, rfl, hc⟩ := hrow
      obtain ⟨v', w', hrun, h2, h3, _, h5⟩ := run_append_own_at (P := P) w base t o.type e i z size i.bytes ht hi hz hsz rfl hzs hp v _ _ hown ⟨b, off, none⟩ ys.length c (flat fc ys) (flat_len hfc ys) (fun j u hj => by
          have : ((⟨b, off, none⟩ : Addr).add j) = ⟨b, off + j, none⟩ := by unfold Addr.add; by_cases hj : j = 0 <;> simp [hj]
          rw [this]; exact hc j u hj) (by intro u hu; obtain ⟨y, _, hy⟩ := List.mem_flatMap.1 hu; exact h1 y u hy) (by unfold maxLen; omega) (by
          have : (xs.length + ys.length) * i.bytes ≤ 10000000 * 4096 := Nat.mul_le_mul (by omega) hby
          omega) hbase
      exact ⟨v', w', hrun, h2, h3, h5⟩
  obtain ⟨v', w', hrun, h2, h3, h5⟩ := key
  unfold Oper.wp execOp
  simp only [ho, resolve, invoke, builtin, Sem.run_bind, Sem.run_pure, Result.andThen_ok, List.map_toArray, List.map_cons, List.map_nil, hs, hx, hrun]
  exact h v' w' h2 h3 h5
theorem wpList_appendAllW {P : Program} {e : Nat} {D : Nat → Prop} {ops : Array Oper} {rest : List Oper} {o : Oper} {a : Act} {Q : Exit → Act → World → Prop} (hI : AppInfo P t e size) (hgd : o.guard = none) (s x : Operand)
    (ho : o.op = .call { callee := .builtin .append, args := #[s, x], argTypes := #[t, t] }) (w : World) (hfc : ∀ x, (fc x).length = size) (xs : List α)
    (v : Value) (hs : a.eval s = v) (hown : OwnW size fc w base e v xs) (u : Value) (ys : List α) (hx : a.eval x = u) (hu : Sl size R D w u ys) (hf : ∀ y c, R D w y c → c = fc y) (h1 : ∀ y, ∀ u ∈ fc y, u.oneCell' = true) (hn : xs.length + ys.length < 10000000) (hbase : base ≤ w.heap.size)
    (h : ∀ v' w', OwnW size fc w' base e v' (xs ++ ys) → w.grownBy w' v.ownBlock → (v'.ownBlock = v.ownBlock ∨ v'.ownBlock = some w.heap.size) → wpList P ops Q rest (a.put o.dst v') w') : wpList P ops Q (o :: rest) a w :=
  wpList_plain hgd fun _ hK => wp_appendAllW hI s x ho w hfc xs v hs hown u ys hx hu hf h1 hn hbase fun v' w' h2 h3 h4 => hK _ _ (h v' w' h2 h3 h4)
theorem wpList_pushW {P : Program} {e : Nat} {ops : Array Oper} {rest : List Oper} {o : Oper} {a : Act} {Q : Exit → Act → World → Prop} (hI : AppInfo P t e size) (hgd : o.guard = none) (s x : Operand)
    (ho : o.op = .call { callee := .builtin .append, args := #[s, x], argTypes := #[t, t] }) (w0 : World) (y : α) (xs : List α) (hfc : (fc y).length = size) (h1 : ∀ u ∈ fc y, u.oneCell' = true)
    (v : Value) (hs : a.eval s = v) (hown : OwnW size fc w0 base e v xs) (hx : a.eval x = .slice (some ⟨w0.heap.size, 0, none⟩) 1 1) (hn : xs.length < 10000000) (hbase : base ≤ w0.heap.size)
    (h : ∀ v' w', OwnW size fc w' base e v' (xs ++ [y]) → w0.grownBy w' v.ownBlock → (v'.ownBlock = v.ownBlock ∨ v'.ownBlock = some (w0.heap.size + 1)) → wpList P ops Q rest (a.put o.dst v') w') : wpList P ops Q (o :: rest) a (w0.alloc (.cells (fc y).toArray e)) :=
  wpList_push hI hgd s x ho w0 (fc y) hfc h1 v xs.length (flat fc xs) hs hown hx hn hbase fun v' w' h2 h3 h4 => h v' w' (by
    unfold OwnW
    rw [flat_append, List.length_append]
    simpa [flat] using h2) h3 h4
end
end Go.Proofs.YtijmnenojbfdnaaGreatDoor
