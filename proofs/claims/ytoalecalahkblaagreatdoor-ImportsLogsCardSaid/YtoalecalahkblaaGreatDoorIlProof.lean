/- Texts of this seat, merged. -/
import Derived.BigQuiet
import Derived.Shelf.SlSortCmp.WholeK
import Derived.Shelf.SlSortCmp.NoneTotal
import Derived.Shelf.SlSortCmp.InsertionK
import Derived.Ground.SlsfProg
import Derived.Test.YtoalecalahkblaaGreatDoorProg
import Derived.Sort.WalkA
import Derived.Sort.LotA
import Derived.Maps.AppendAt
import Derived.Deep.AppendLies
import Derived.RegionTactic
import Derived.OwnWalk
import Derived.WalkKit
import Derived.WalkSpells
import Derived.WalkLawsBesides
import Derived.Lib.Hide
import Derived.Deep.Draws
import Derived.Deep.OwnRows
import Derived.Lib.SlicesCompact
import Derived.Outline
import Derived.Deep.Light
import Derived.Shelf.Abstract
import Derived.Laws.IdiomStrings
import Derived.Shelf.Strings.Builder1
import Derived.Shelf.Strings.Builder2
import Derived.Shelf.Small.Bits
import Derived.Shelf.Small.Strs
import Derived.Shelf.Small.Wraps
import Derived.Shelf.Strings.BuilderF
import Derived.Shelf.Strings.BuilderK
import Derived.Shelf.Utf8.RuneCount
import Derived.Shelf.Strings.Builder2Cap
import Derived.Shelf.Strconv.Atoi
import Derived.Shelf.Strconv.Itoa0
import Derived.Shelf.Strconv.Itoa1
import Derived.Shelf.LaysM
import Derived.Shelf.Strconv.Itoa2
import Derived.Shelf.Strconv.Itoa3
import Derived.Shelf.Strconv.AtoiErrFast
import Derived.Shelf.Strconv.ParseIntEmpty
import Derived.Shelf.Strconv.AtoiFail
import Derived.Shelf.Strconv.Clone
import Derived.Shelf.Strconv.SyntaxError
import Derived.Shelf.LaysC
import Derived.Shelf.Strconv.ToError
import Derived.Shelf.Strconv.Lower
import Derived.Shelf.Strconv.ParseUint10
import Derived.Shelf.Strconv.ParseUint10Empty
import Derived.Shelf.Strconv.ParseUint10Any
import Derived.Shelf.Strconv.ParseInt10
import Derived.Shelf.Strconv.AtoiLong
import Derived.Shelf.Strconv.AtoiInnerAll
import Derived.Shelf.Strconv.RangeError
import Derived.Shelf.Strconv.ToErrorRange
import Derived.Shelf.Strconv.AtoiAll
import Derived.Shelf.Strconv.ErrVarAll
import Derived.Shelf.Strings.Search1
import Derived.Shelf.Strings.Search2
import Derived.Shelf.Strings.Search3
import Derived.Shelf.Strings.Count
import Derived.Shelf.Strings.Shaped
import Derived.Shelf.Sort.Plain
import Derived.Shelf.Strings.Prefix
import Derived.Shelf.Strings.Split
import Derived.Shelf.Strings.Replace
import Derived.Shelf.Strings.SplitShaped
import Derived.Shelf.Unicode.Decode
import Derived.Shelf.Strings.RuneCount
import Derived.Shelf.Unicode.DecodeSlow
import Derived.Shelf.Unicode.DecodeAny
import Derived.Shelf.Strings.BuilderCap
import Derived.Shelf.Slices.Turned
import Derived.Ground.Names2Prog
import Derived.Shelf.Slices.Clone
import Derived.Shelf.Slices.CompactS
import Derived.Shelf.Slices.SearchI
import Derived.Shelf.Slices.Cells
import Derived.Shelf.Slices.In.SortNone
import Derived.Ground.SlgnProg
import Derived.Shelf.SlicesE.Compact
import Derived.Shelf.SlicesE.Clone
import Derived.Ground.SlgfProg
import Derived.Shelf.SlicesE.IndexFunc
import Derived.Shelf.SlicesE.DeleteFunc
import Derived.Sort.OwnSorted
import Derived.Lib.Bytes
import Derived.StillTailTactics
import Derived.Deep.CutRange
import Derived.Deep.CutBlock
import Derived.Deep.QuietTactic
import Derived.Lib.AppendStr
import Derived.Lib.OwnKind
import Derived.Lib.OthersKept
import Derived.Lib.UnsafeStr
import Derived.Laws.BytesString
import Derived.Lib.Strings
import Derived.Lib.AtoiErrMem
import Derived.Lib.Builder
import Derived.Lib.FrozenHead2
import Derived.Laws.Externs
import Derived.Lib.ItoaNum
import Derived.Lib.ItoaMem
import Derived.Lib.AtoiTie
import Derived.Orders
import Derived.Deep.Quiet
import Derived.StillTail
import Derived.Deep.RegionHeld
import Derived.Deep.RegionHeld3
import Derived.Laws.MakeOwn
import Derived.Laws.Entries
import Derived.Shelf.SlSortCmp.KitK
import Derived.Laws.Runes
import Derived.Laws.Concat
import Derived.Lib.OwnBridge
import Derived.Lib.Atoi
import Derived.Lib.Replace
import Derived.Lib.IndexLaws
import Derived.Laws.StructEq
import Derived.Test.YtoalecalahkblaaGreatDoorRows
import Derived.Test.YtoalecalahkblaaGreatDoorTie
import Derived.Test.YtoalecalahkblaaGreatDoorCards
import Derived.SevenTiedAt
import Derived.LaidLaws
import Derived.Lib.LaidTab
import Derived.Lay
import Derived.MakeChecks
import Derived.Shelf.Vars
import Derived.ProofKit
import Derived.Deep.Slices
import Derived.Deep.Fields
import Derived.Deep.Strs
import Derived.ChangeSame
import Derived.Lib.SmallJoins
import Derived.LaidMore
import Derived.OpenShut
import Derived.Stop.Joined
import Derived.Test.YtoalecalahkblaaGreatDoorIl01
import Derived.Test.YtoalecalahkblaaGreatDoorIl02
import Derived.Test.YtoalecalahkblaaGreatDoorIl03
import Derived.Test.YtoalecalahkblaaGreatDoorIl04
import Derived.Test.YtoalecalahkblaaGreatDoorIl05
import Derived.Test.YtoalecalahkblaaGreatDoorIl06
import Derived.Test.YtoalecalahkblaaGreatDoorIl07
import Derived.Test.YtoalecalahkblaaGreatDoorIl08
import Derived.Test.YtoalecalahkblaaGreatDoorIl09
import Derived.Test.YtoalecalahkblaaGreatDoorIl10
import Derived.Test.YtoalecalahkblaaGreatDoorIl11
import Derived.Test.YtoalecalahkblaaGreatDoorIl12
import Derived.Test.YtoalecalahkblaaGreatDoorIl13
import Derived.Test.YtoalecalahkblaaGreatDoorIl14
import Derived.Test.YtoalecalahkblaaGreatDoorIl15
import Derived.Test.YtoalecalahkblaaGreatDoorIl16
import Derived.Test.YtoalecalahkblaaGreatDoorIl17
import Derived.Test.YtoalecalahkblaaGreatDoorIl18
import Derived.Test.YtoalecalahkblaaGreatDoorIl19
import Derived.Test.YtoalecalahkblaaGreatDoorIl20
import Derived.Test.YtoalecalahkblaaGreatDoorIl21
import Derived.Test.YtoalecalahkblaaGreatDoorIl22
import Derived.Test.YtoalecalahkblaaGreatDoorIl23
import Derived.Test.YtoalecalahkblaaGreatDoorIl24
import Derived.Test.YtoalecalahkblaaGreatDoorIl25
import Derived.Test.YtoalecalahkblaaGreatDoorIl26
import Derived.Test.YtoalecalahkblaaGreatDoorIl27
import Derived.Test.YtoalecalahkblaaGreatDoorIl28
import Derived.Test.YtoalecalahkblaaGreatDoorIl29
import Derived.Test.YtoalecalahkblaaGreatDoorIl30
import Derived.Test.YtoalecalahkblaaGreatDoorIl31
import Derived.Test.YtoalecalahkblaaGreatDoorIl32
import Derived.Test.YtoalecalahkblaaGreatDoorIl33
import Derived.Test.YtoalecalahkblaaGreatDoorIl34
import Derived.Test.YtoalecalahkblaaGreatDoorIl35
import Derived.Test.YtoalecalahkblaaGreatDoorIl36
import Derived.Test.YtoalecalahkblaaGreatDoorIl37
import Derived.Test.YtoalecalahkblaaGreatDoorIl38
set_option linter.all false
namespace Go.Proofs.YtoalecalahkblaaGreatDoor
open Go.ChangeShapes Go.WideShapes Go.ChangeAt Go.RowKit
set_option maxRecDepth 100000 in
theorem importsLogs_lifted (os : Os) (started : os.Started) (H : Type) (enc : TypeId × Value → H) :
    ReturnsInHanded {} Tryz.checked os 4 .any (fun w args => (Rows.importsLogsSpec.pre enc Tryz.prog Tryz.f4 [] false w args ∧ laidMetH Tryz.prog Rows.importsLogsRow.laid w) ∧ sizedMet enc Tryz.prog Tryz.f4 (OpenSpec.ofChange Rows.importsLogsSpec) false w args)
      (Rows.importsLogsSpec.post enc Tryz.prog Tryz.f4 false true false false) := by
  refine handed_shaped (C := Tryz.checked) (X := fun w _ => laidMetH Tryz.prog Rows.importsLogsRow.laid w) (fun _ _ _ hh h => h.of_heap hh) own started (by kernel_rfl) Tryz.func4
    (ChangeSpec.witness_shaped (enc := enc) (C := Tryz.checked) (os := os) (X := fun w _ => laidMetH Tryz.prog Rows.importsLogsRow.laid w) false (World.laidAll Tryz.prog os Rows.importsLogsRow.laid) #[.string ⟨#[]⟩, .agg #[.int .i64 0, .int .i64 0, .int .i64 0, .int .i64 0, .int .i64 0, .slice none 0 0, .slice none 0 0, .int .u8 0]] 8 (World.laidAll_os _ _ _) (World.shaped_of_ZipB (by kernel_rfl) (by kernel_rfl)) (by kernel_rfl) (by kernel_rfl) (by kernel_rfl) (door_met os _)) ?_
  intro W base args ds gs before hval0 hW hsh hL
  have hval : ∀ (j : Nat) t v, Tryz.f4.params[j]? = some t → args[j]? = some v → Value.okWide Tryz.prog W .any base t v := hval0
  have hW' := hW
  obtain ⟨p, q, hA0, hV, rfl, hfz, hnd⟩ := hW
  have hA : DataW.TrodAll enc Tryz.prog W 0 (fun _ => true) true Tryz.f4.params.toList args.toList ds p := hA0
  have hlt : ∀ x ∈ p, x.block < W.heap.size := fun x hx => hW'.lt x (List.mem_append_left _ hx)
  rw [Tryz.params4] at hA hval
  obtain ⟨v0, v1, d0, d1, p0, p1, rfl, rfl, rfl, h0, h1⟩ := trodAll_two hA
  obtain ⟨rfl, rfl⟩ := trodVars_none hV
  clear hA0 hval0
  simp only [List.append_nil] at hW'
  have hlt0 : ∀ x ∈ p0, x.block < W.heap.size := fun x hx => hlt x (by simp [hx])
  have hlt1 : ∀ x ∈ p1, x.block < W.heap.size := fun x hx => hlt x (by simp [hx])
  obtain ⟨x0, rfl, rfl, rfl, hx0⟩ := Go.ChangeMaps.open_string Tryz.underlying9 (hval 0 _ v0 rfl rfl) h0
  obtain ⟨x1, hx1⟩ := mp_of (hval 1 _ v1 rfl rfl) h1
  refine (importsLogs_law x0 x1 v1 W hx0 hx1 (amb_of hL hsh)).mono fun e W' ⟨he, hb⟩ => ?_
  subst he
  have hbef : ∀ sp : Nat → Bool, (∀ x ∈ [] ++ p1, sp x.block = true) → True ∧ (∀ x ∈ p1, sp x.block = true) :=
    fun sp h => ⟨trivial, fun x hx => h x (by simp [hx])⟩
  exact ⟨_, rfl, post_of_below (pa := [] ++ (p1)) (pv := []) hW' (fun _ _ _ => trodAll_mk1 (shut_bool Tryz.underlying4 _))
    (fun sp hsp => trodAll_mk2 (Go.ChangeMaps.shut_string Tryz.underlying9 hx0) (stays readMp rowMp h1 hb hlt1 (hbef sp hsp).2))
    (fun _ _ => rfl) (by simp) hb (ok_one (by kernel_rfl) rfl (okWide_bool_mk Tryz.underlying4 _))⟩
theorem importsLogs_holds : Rows.ImportsLogsSaid :=
  OpenClaim.holds_of_wide 4 Tryz.f4 rfl rfl rfl rfl rfl rfl rfl ⟨rfl, rfl, rfl, rfl, rfl⟩ rfl rfl rfl rfl rfl (by kernel_rfl) Tryz.func4 (by kernel_rfl)
    (of_decide_eq_true (by kernel_rfl)) (by unfold Func.isWrapper; first | (rw [if_pos (by decide +kernel)]; kernel_rfl) | (rw [if_neg (by decide +kernel)]; exact ⟨rfl, rfl⟩))
    (fun os started H enc _ => importsLogs_lifted os started H enc)
theorem importsLogs_card : Rows.ImportsLogsCardSaid :=
  Claim7.holds_tied_plain_at .later [] Rows.importsLogsCard.laidKinds true Rows.importsLogsCard.stood.harness Rows.importsLogsCard.stood.looks
    importsLogs_holds (fun _ h => by cases h) (by kernel_rfl) (fun _ h => by cases h) importsLogs_row_tie rfl ⟨rfl, rfl⟩ (by kernel_rfl) rfl
    (fun f fn hf hfn => by
      obtain rfl : f = 4 := Option.some.inj ((show Tryz.prog.funcNamed Rows.importsLogsRow.func = some 4 by kernel_rfl).symm.trans hf) |>.symm
      obtain rfl : fn = Tryz.f4 := (Option.some.inj (Tryz.func4.symm.trans hfn)).symm
      exact ⟨by kernel_rfl, fun j t ht => by
        rw [Tryz.params4] at ht
        have hm : t ∈ [9, 33] := by simpa using Array.mem_of_getElem? ht
        have hall : ([9, 33].all fun u => !Tryz.prog.wantsStandIn u) = true := by kernel_rfl
        exact (show Tryz.prog.wantsStandIn t = false by simpa using List.all_eq_true.1 hall t hm)⟩)
    (by kernel_rfl)
end Go.Proofs.YtoalecalahkblaaGreatDoor
