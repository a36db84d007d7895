/- Texts of this seat, merged. -/
import Derived.Test.YtoalecalahkblaaGreatDoorIy24
import Derived.Test.YtoalecalahkblaaGreatDoorIy13
import Derived.Test.YtoalecalahkblaaGreatDoorIy11
import Derived.Test.YtoalecalahkblaaGreatDoorIy07
import Derived.StillTailTactics
import Derived.RegionTactic
import Derived.Deep.CutRange
import Derived.Deep.CutBlock
import Derived.Test.YtoalecalahkblaaGreatDoorProg
import Derived.Outline
import Derived.Shelf.Abstract
import Derived.Test.YtoalecalahkblaaGreatDoorIy06
import Derived.Test.YtoalecalahkblaaGreatDoorIy03
import Derived.Test.YtoalecalahkblaaGreatDoorIy02
import Derived.Maps.AppendAt
import Derived.Deep.AppendLies
import Derived.OwnWalk
import Derived.Test.YtoalecalahkblaaGreatDoorIy01
import Derived.WalkKit
import Derived.WalkSpells
import Derived.WalkLawsBesides
import Derived.Lib.Hide
import Derived.Deep.Draws
import Derived.Deep.OwnRows
import Derived.Deep.Light
import Derived.Test.YtoalecalahkblaaGreatDoorIy05
import Derived.Shelf.Strings.Builder1
import Derived.Shelf.Strings.Builder2
import Derived.Shelf.Small.Bits
import Derived.Shelf.Small.Strs
import Derived.Shelf.Small.Wraps
import Derived.Shelf.Strings.BuilderF
import Derived.Shelf.Strings.BuilderK
import Derived.Shelf.Strings.Builder2Cap
import Derived.Shelf.Strconv.Atoi
import Derived.Shelf.Strconv.Itoa0
import Derived.Shelf.Strconv.Itoa1
import Derived.Shelf.LaysM
import Derived.Shelf.Strconv.Itoa2
import Derived.Shelf.Strconv.Itoa3
import Derived.Shelf.Strconv.AtoiErrFast
import Derived.Shelf.Strconv.ParseIntEmpty
import Derived.Shelf.Strconv.AtoiFail
import Derived.Shelf.Strconv.Clone
import Derived.Shelf.Strconv.SyntaxError
import Derived.Shelf.LaysC
import Derived.Shelf.Strconv.ToError
import Derived.Shelf.Strconv.Lower
import Derived.Shelf.Strconv.ParseUint10
import Derived.Shelf.Strconv.ParseUint10Empty
import Derived.Shelf.Strconv.ParseUint10Any
import Derived.Shelf.Strconv.ParseInt10
import Derived.Shelf.Strconv.AtoiLong
import Derived.Shelf.Strconv.AtoiInnerAll
import Derived.Shelf.Strconv.RangeError
import Derived.Shelf.Strconv.ToErrorRange
import Derived.Shelf.Strconv.AtoiAll
import Derived.Shelf.Strconv.ErrVarAll
import Derived.Shelf.Strings.Search1
import Derived.Shelf.Strings.Search2
import Derived.Shelf.Strings.Search3
import Derived.Shelf.Strings.Count
import Derived.Shelf.Strings.Shaped
import Derived.Shelf.Sort.Plain
import Derived.Shelf.Strings.Prefix
import Derived.Shelf.Strings.Split
import Derived.Shelf.Strings.Replace
import Derived.Shelf.Strings.SplitShaped
import Derived.Shelf.Unicode.DecodeSlow
import Derived.Shelf.Strings.BuilderCap
import Derived.Shelf.Slices.Turned
import Derived.Ground.Names2Prog
import Derived.Shelf.Slices.Clone
import Derived.Shelf.Slices.CompactS
import Derived.Shelf.Slices.SearchI
import Derived.Shelf.Slices.Cells
import Derived.Shelf.Slices.In.SortNone
import Derived.Ground.SlgnProg
import Derived.Shelf.SlicesE.Compact
import Derived.Shelf.SlicesE.Clone
import Derived.Ground.SlgfProg
import Derived.Shelf.SlicesE.IndexFunc
import Derived.Shelf.SlicesE.DeleteFunc
import Derived.Test.YtoalecalahkblaaGreatDoorIy12
import Derived.Lib.AtoiErrMem
import Derived.Shelf.SlSortCmp.WholeK
import Derived.Shelf.SlSortCmp.NoneTotal
import Derived.Shelf.SlSortCmp.InsertionK
import Derived.Ground.SlsfProg
import Derived.Sort.WalkA
import Derived.Sort.LotA
import Derived.Lib.SlicesCompact
import Derived.Laws.IdiomStrings
import Derived.Test.YtoalecalahkblaaGreatDoorIy04
import Derived.Deep.QuietTactic
import Derived.BigQuiet
import Derived.Lib.AppendStr
import Derived.Lib.OwnKind
import Derived.Lib.OthersKept
import Derived.Lib.UnsafeStr
import Derived.Laws.BytesString
import Derived.Test.YtoalecalahkblaaGreatDoorIy09
import Derived.Orders
import Derived.Deep.Quiet
import Derived.StillTail
import Derived.Deep.RegionHeld
import Derived.Deep.RegionHeld3
import Derived.Test.YtoalecalahkblaaGreatDoorIy16
import Derived.Lib.Replace
import Derived.Lib.IndexLaws
import Derived.Lib.Builder
import Derived.Lib.FrozenHead2
import Derived.Laws.Externs
import Derived.Laws.StructEq
import Derived.Sort.OwnSorted
import Derived.Lib.Bytes
import Derived.Lib.OwnBridge
import Derived.Laws.MakeOwn
import Derived.Laws.Entries
import Derived.Test.YtoalecalahkblaaGreatDoorIy08
import Derived.Laws.Runes
import Derived.Laws.Concat
import Derived.Lib.ItoaNum
import Derived.Lib.ItoaMem
import Derived.Lib.AtoiTie
import Derived.Test.YtoalecalahkblaaGreatDoorIy17
import Derived.Test.YtoalecalahkblaaGreatDoorIy22
import Derived.Test.YtoalecalahkblaaGreatDoorIy19
import Derived.Test.YtoalecalahkblaaGreatDoorIy18
import Derived.Lib.Strings
import Derived.Test.YtoalecalahkblaaGreatDoorIy14
import Derived.Test.YtoalecalahkblaaGreatDoorIy23
import Derived.Test.YtoalecalahkblaaGreatDoorIy20
import Derived.Test.YtoalecalahkblaaGreatDoorIy10
import Derived.Test.YtoalecalahkblaaGreatDoorIy21
import Derived.Shelf.SlSortCmp.KitK
import Derived.Test.YtoalecalahkblaaGreatDoorRows
import Derived.Test.YtoalecalahkblaaGreatDoorTie
import Derived.Test.YtoalecalahkblaaGreatDoorCards
import Derived.SevenTiedAt
import Derived.LaidLaws
import Derived.Lib.LaidTab
import Derived.Lay
import Derived.MakeChecks
import Derived.Shelf.Vars
import Derived.ProofKit
import Derived.Deep.Slices
import Derived.Deep.Fields
import Derived.Deep.Strs
import Derived.ChangeSame
import Derived.Lib.SmallJoins
import Derived.LaidMore
import Derived.OpenShut
import Derived.Stop.Joined
import Derived.Test.YtoalecalahkblaaGreatDoorIz01
import Derived.Test.YtoalecalahkblaaGreatDoorIz02
import Derived.Test.YtoalecalahkblaaGreatDoorIz03
set_option linter.all false
namespace Go.Proofs.YtoalecalahkblaaGreatDoor
open Go.ChangeShapes Go.WideShapes Go.ChangeAt Go.RowKit
set_option maxRecDepth 100000 in
theorem importsColumns_lifted (os : Os) (started : os.Started) (H : Type) (enc : TypeId × Value → H) :
    ReturnsInHanded {} Tryz.checked os 6 .any (fun w args => (Rows.importsColumnsSpec.pre enc Tryz.prog Tryz.f6 [] false w args ∧ laidMetH Tryz.prog Rows.importsColumnsRow.laid w) ∧ sizedMet enc Tryz.prog Tryz.f6 (OpenSpec.ofChange Rows.importsColumnsSpec) false w args)
      (Rows.importsColumnsSpec.post enc Tryz.prog Tryz.f6 false true false false) := by
  refine handed_shaped (C := Tryz.checked) (X := fun w _ => laidMetH Tryz.prog Rows.importsColumnsRow.laid w) (fun _ _ _ hh h => h.of_heap hh) own started (by kernel_rfl) Tryz.func6
    (ChangeSpec.witness_shaped (enc := enc) (C := Tryz.checked) (os := os) (X := fun w _ => laidMetH Tryz.prog Rows.importsColumnsRow.laid w) false (World.laidAll Tryz.prog os Rows.importsColumnsRow.laid) #[.slice none 0 0, .agg #[.int .i64 0, .int .i64 0, .int .i64 0, .int .i64 0, .int .i64 0, .slice none 0 0, .slice none 0 0, .int .u8 0], .int .u8 0, .int .u8 0] 8 (World.laidAll_os _ _ _) (World.shaped_of_ZipB (by kernel_rfl) (by kernel_rfl)) (by kernel_rfl) (by kernel_rfl) (by kernel_rfl) (door_met os _)) ?_
  intro W base args ds gs before hval0 hW hsh hL
  have hval : ∀ (j : Nat) t v, Tryz.f6.params[j]? = some t → args[j]? = some v → Value.okWide Tryz.prog W .any base t v := hval0
  have hW' := hW
  obtain ⟨p, q, hA0, hV, rfl, hfz, hnd⟩ := hW
  have hA : DataW.TrodAll enc Tryz.prog W 0 (fun _ => true) true Tryz.f6.params.toList args.toList ds p := hA0
  have hlt : ∀ x ∈ p, x.block < W.heap.size := fun x hx => hW'.lt x (List.mem_append_left _ hx)
  rw [Tryz.params6] at hA hval
  obtain ⟨v0, v1, v2, v3, d0, d1, d2, d3, p0, p1, p2, p3, rfl, rfl, rfl, h0, h1, h2, h3⟩ := trodAll_four hA
  obtain ⟨rfl, rfl⟩ := trodVars_none hV
  clear hA0 hval0
  simp only [List.append_nil] at hW'
  have hlt0 : ∀ x ∈ p0, x.block < W.heap.size := fun x hx => hlt x (by simp [hx])
  have hlt1 : ∀ x ∈ p1, x.block < W.heap.size := fun x hx => hlt x (by simp [hx])
  have hlt2 : ∀ x ∈ p2, x.block < W.heap.size := fun x hx => hlt x (by simp [hx])
  have hlt3 : ∀ x ∈ p3, x.block < W.heap.size := fun x hx => hlt x (by simp [hx])
  obtain ⟨x0, hx0⟩ := rows_of (hval 0 _ v0 rfl rfl) h0
  obtain ⟨x1, hx1⟩ := mp_of (hval 1 _ v1 rfl rfl) h1
  obtain ⟨x2, rfl, rfl, rfl, hx2⟩ := open_int Tryz.underlying5 (hval 2 _ v2 rfl rfl) h2
  obtain ⟨x3, rfl, rfl, rfl, hx3⟩ := open_int Tryz.underlying5 (hval 3 _ v3 rfl rfl) h3
  refine (importsColumns_row x0 x1 x2 x3 v0 v1 W hx0 hx1 hx2 hx3 (amb_of hL hsh)).mono fun e W' ⟨he, hb⟩ => ?_
  subst he
  have hbef : ∀ sp : Nat → Bool, (∀ x ∈ p0 ++ p1 ++ [] ++ [], sp x.block = true) → (∀ x ∈ p0, sp x.block = true) ∧ (∀ x ∈ p1, sp x.block = true) ∧ True ∧ True :=
    fun sp h => ⟨fun x hx => h x (by simp [hx]), fun x hx => h x (by simp [hx]), trivial, trivial⟩
  exact ⟨_, rfl, post_of_below (pa := p0 ++ (p1 ++ ([] ++ ([])))) (pv := []) hW' (fun _ _ _ => trodAll_mk1 (shut_bool Tryz.underlying4 _))
    (fun sp hsp => trodAll_mk4 (stays readRows rowRows h0 hb hlt0 (hbef sp hsp).1) (stays readMp rowMp h1 hb hlt1 (hbef sp hsp).2.1) (shut_int Tryz.underlying5 hx2) (shut_int Tryz.underlying5 hx3))
    (fun _ _ => rfl) (by simp) hb (ok_one (by kernel_rfl) rfl (okWide_bool_mk Tryz.underlying4 _))⟩
theorem importsColumns_holds : Rows.ImportsColumnsSaid :=
  OpenClaim.holds_of_wide 6 Tryz.f6 rfl rfl rfl rfl rfl rfl rfl ⟨rfl, rfl, rfl, rfl, rfl⟩ rfl rfl rfl rfl rfl (by kernel_rfl) Tryz.func6 (by kernel_rfl)
    (of_decide_eq_true (by kernel_rfl)) (by unfold Func.isWrapper; first | (rw [if_pos (by decide +kernel)]; kernel_rfl) | (rw [if_neg (by decide +kernel)]; exact ⟨rfl, rfl⟩))
    (fun os started H enc _ => importsColumns_lifted os started H enc)
theorem importsColumns_card : Rows.ImportsColumnsCardSaid :=
  Claim7.holds_tied_plain_at .later [] Rows.importsColumnsCard.laidKinds true Rows.importsColumnsCard.stood.harness Rows.importsColumnsCard.stood.looks
    importsColumns_holds (fun _ h => by cases h) (by kernel_rfl) (fun _ h => by cases h) importsColumns_row_tie rfl ⟨rfl, rfl⟩ (by kernel_rfl) rfl
    (fun f fn hf hfn => by
      obtain rfl : f = 6 := Option.some.inj ((show Tryz.prog.funcNamed Rows.importsColumnsRow.func = some 6 by kernel_rfl).symm.trans hf) |>.symm
      obtain rfl : fn = Tryz.f6 := (Option.some.inj (Tryz.func6.symm.trans hfn)).symm
      exact ⟨by kernel_rfl, fun j t ht => by
        rw [Tryz.params6] at ht
        have hm : t ∈ [22, 33, 5, 5] := by simpa using Array.mem_of_getElem? ht
        have hall : ([22, 33, 5, 5].all fun u => !Tryz.prog.wantsStandIn u) = true := by kernel_rfl
        exact (show Tryz.prog.wantsStandIn t = false by simpa using List.all_eq_true.1 hall t hm)⟩)
    (by kernel_rfl)
end Go.Proofs.YtoalecalahkblaaGreatDoor
