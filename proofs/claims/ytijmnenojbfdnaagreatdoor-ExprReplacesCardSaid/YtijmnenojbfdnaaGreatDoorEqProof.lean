/- Texts of this seat, merged. -/
import Derived.Laws.EntriesVeiled
import Derived.Sort.OwnSorted
import Derived.Lib.Bytes
import Derived.Lib.SlicesCompact
import Derived.WalkKit
import Derived.WalkSpells
import Derived.WalkLawsBesides
import Derived.Lib.Hide
import Derived.Deep.Draws
import Derived.Deep.OwnRows
import Derived.Shelf.Strings.Builder1
import Derived.Shelf.Small.Bits
import Derived.Shelf.Small.Wraps
import Derived.Shelf.Strings.BuilderF
import Derived.Shelf.Strings.BuilderK
import Derived.Shelf.Strconv.Atoi
import Derived.Shelf.Strconv.Itoa0
import Derived.Shelf.Strconv.Itoa1
import Derived.Shelf.LaysM
import Derived.Shelf.Strconv.Itoa2
import Derived.Shelf.Strconv.Itoa3
import Derived.Shelf.Strconv.AtoiErrFast
import Derived.Shelf.Strconv.ParseIntEmpty
import Derived.Shelf.Strconv.AtoiFail
import Derived.Shelf.Strconv.Clone
import Derived.Shelf.Strconv.SyntaxError
import Derived.Shelf.LaysC
import Derived.Shelf.Strconv.ToError
import Derived.Shelf.Strconv.Lower
import Derived.Shelf.Strconv.ParseUint10
import Derived.Shelf.Strconv.ParseUint10Empty
import Derived.Shelf.Strconv.ParseUint10Any
import Derived.Shelf.Strconv.ParseInt10
import Derived.Shelf.Strconv.AtoiLong
import Derived.Shelf.Strconv.AtoiInnerAll
import Derived.Shelf.Strconv.RangeError
import Derived.Shelf.Strconv.ToErrorRange
import Derived.Shelf.Strconv.AtoiAll
import Derived.Shelf.Strconv.ErrVarAll
import Derived.Shelf.Strings.Search1
import Derived.Shelf.Strings.Search2
import Derived.Shelf.Strings.Search3
import Derived.Shelf.Strings.Shaped
import Derived.Shelf.Sort.Plain
import Derived.Shelf.Strings.Prefix
import Derived.Shelf.Strings.BuilderCap
import Derived.Shelf.Slices.Turned
import Derived.Shelf.Slices.Equal
import Derived.Ground.Names2Prog
import Derived.Shelf.Slices.Clone
import Derived.Shelf.Slices.CompactS
import Derived.Shelf.Slices.Cells
import Derived.Shelf.Slices.In.SortNone
import Derived.Shelf.Slices.Empties2
import Derived.Test.YtijmnenojbfdnaaGreatDoorProg
import Derived.Maps.AppendAt
import Derived.Deep.AppendLies
import Derived.RegionTactic
import Derived.OwnWalk
import Derived.Lib.ItoaLen
import Derived.KernelRfl
import Derived.Outline
import Derived.Deep.Light
import Derived.Deep.RegionWith
import Derived.Deep.QuietTactic
import Derived.BigQuiet
import Derived.Deep.RegionHeld3
import Derived.Shelf.Abstract
import Derived.Laws.IdiomStrings
import Derived.Maps.OwnOps
import Derived.Maps.OwnSet
import Derived.Maps.Views
import Derived.StringKeys
import Derived.Lib.Builder
import Derived.Lib.AppendStr
import Derived.Lib.UnsafeStr
import Derived.Lib.FrozenHead2
import Derived.Lib.OthersKept
import Derived.Laws.Externs
import Derived.Deep.CutBlock
import Derived.StillTailTactics
import Derived.Deep.CutRange
import Derived.Deep.LoopGhost
import Derived.Lib.ItoaNum
import Derived.Lib.ItoaMem
import Derived.Lib.AtoiTie
import Derived.Orders
import Derived.Deep.Quiet
import Derived.StillTail
import Derived.Deep.RegionHeld
import Derived.Test.YtijmnenojbfdnaaGreatDoorChecked
import Derived.Laws.MakeOwn
import Derived.Laws.Entries
import Derived.Test.YtijmnenojbfdnaaGreatDoorRows
import Derived.Test.YtijmnenojbfdnaaGreatDoorTie
import Derived.Test.YtijmnenojbfdnaaGreatDoorCards
import Derived.SevenTiedAt
import Derived.LaidLaws
import Derived.Lib.LaidTab
import Derived.ProofKit
import Derived.Deep.Slices
import Derived.Deep.Fields
import Derived.Deep.Strs
import Derived.ChangeSame
import Derived.Lib.SmallJoins
import Derived.LaidMore
import Derived.OpenShut
import Derived.Stop.Joined
import Derived.Test.YtijmnenojbfdnaaGreatDoorEq01
import Derived.Test.YtijmnenojbfdnaaGreatDoorEq02
import Derived.Test.YtijmnenojbfdnaaGreatDoorEq03
import Derived.Test.YtijmnenojbfdnaaGreatDoorEq04
import Derived.Test.YtijmnenojbfdnaaGreatDoorEq05
import Derived.Test.YtijmnenojbfdnaaGreatDoorEq06
import Derived.Test.YtijmnenojbfdnaaGreatDoorEq07
import Derived.Test.YtijmnenojbfdnaaGreatDoorEq08
import Derived.Test.YtijmnenojbfdnaaGreatDoorEq09
import Derived.Test.YtijmnenojbfdnaaGreatDoorEq10
import Derived.Test.YtijmnenojbfdnaaGreatDoorEq11
import Derived.Test.YtijmnenojbfdnaaGreatDoorEq12
import Derived.Test.YtijmnenojbfdnaaGreatDoorEq13
import Derived.Test.YtijmnenojbfdnaaGreatDoorEq14
import Derived.Test.YtijmnenojbfdnaaGreatDoorEq15
import Derived.Test.YtijmnenojbfdnaaGreatDoorEq16
import Derived.Test.YtijmnenojbfdnaaGreatDoorEq17
import Derived.Test.YtijmnenojbfdnaaGreatDoorEq18
import Derived.Test.YtijmnenojbfdnaaGreatDoorEq19
import Derived.Test.YtijmnenojbfdnaaGreatDoorEq20
import Derived.Test.YtijmnenojbfdnaaGreatDoorEq21
import Derived.Test.YtijmnenojbfdnaaGreatDoorEq22
import Derived.Test.YtijmnenojbfdnaaGreatDoorEq23
import Derived.Test.YtijmnenojbfdnaaGreatDoorEq24
import Derived.Test.YtijmnenojbfdnaaGreatDoorEq25
import Derived.Test.YtijmnenojbfdnaaGreatDoorEq26
import Derived.Test.YtijmnenojbfdnaaGreatDoorEq27
import Derived.Test.YtijmnenojbfdnaaGreatDoorEq28
import Derived.Test.YtijmnenojbfdnaaGreatDoorEq29
import Derived.Test.YtijmnenojbfdnaaGreatDoorEq30
import Derived.Test.YtijmnenojbfdnaaGreatDoorEq31
import Derived.Test.YtijmnenojbfdnaaGreatDoorEq32
import Derived.Test.YtijmnenojbfdnaaGreatDoorEq33
import Derived.Test.YtijmnenojbfdnaaGreatDoorEq34
import Derived.Test.YtijmnenojbfdnaaGreatDoorEq35
import Derived.Test.YtijmnenojbfdnaaGreatDoorEq36
import Derived.Test.YtijmnenojbfdnaaGreatDoorEq37
set_option linter.unusedSimpArgs false
set_option linter.unusedVariables false
namespace Go.Proofs.YtijmnenojbfdnaaGreatDoor
open Go.ChangeShapes Go.WideShapes Go.ChangeAt Go.RowKit
set_option maxRecDepth 100000 in
theorem exprReplaces_lifted (os : Os) (started : os.Started) (H : Type) (enc : TypeId × Value → H) :
    ReturnsInHanded {} Tryz.checked os 7 .any (fun w args => (Rows.exprReplacesSpec.pre enc Tryz.prog Tryz.f7 [] false w args ∧ laidMetH Tryz.prog Rows.exprReplacesRow.laid w) ∧ sizedMet enc Tryz.prog Tryz.f7 (OpenSpec.ofChange Rows.exprReplacesSpec) false w args)
      (Rows.exprReplacesSpec.post enc Tryz.prog Tryz.f7 false true false false) := by
  refine returnsInHanded_of_change_and (C := Tryz.checked) (X := fun w _ => laidMetH Tryz.prog Rows.exprReplacesRow.laid w) (fun _ _ _ hh h => h.of_heap hh) own started (by kernel_rfl) Tryz.func7
    (ChangeSpec.witness_shaped (enc := enc) (C := Tryz.checked) (os := os) (X := fun w _ => laidMetH Tryz.prog Rows.exprReplacesRow.laid w) false (World.doorLaid Tryz.prog 400 os) #[.slice none 0 0, .agg #[.int .i64 0, .int .i64 0, .int .i64 0, .string ⟨#[]⟩, .string ⟨#[]⟩, .slice none 0 0], .agg #[.int .i64 0, .int .i64 0, .int .i64 0, .string ⟨#[]⟩, .string ⟨#[]⟩, .slice none 0 0], .agg #[.int .i64 0, .int .i64 0, .int .i64 0, .string ⟨#[]⟩, .string ⟨#[]⟩, .slice none 0 0]] 8 rfl (World.shaped_of_RefB (by kernel_rfl) (by kernel_rfl)) (by kernel_rfl) (by kernel_rfl) (by kernel_rfl) (door_met os _)) ?_
  intro W base args ds gs before hval0 hW _ _ hL _
  have hval : ∀ (j : Nat) t v, Tryz.f7.params[j]? = some t → args[j]? = some v → Value.okWide Tryz.prog W .any base t v := hval0
  have hW' := hW
  obtain ⟨p, q, hA0, hV, rfl, hfz, hnd⟩ := hW
  have hA : DataW.TrodAll enc Tryz.prog W 0 (fun _ => true) true Tryz.f7.params.toList args.toList ds p := hA0
  have hlt : ∀ x ∈ p, x.block < W.heap.size := fun x hx => hW'.lt x (List.mem_append_left _ hx)
  rw [Tryz.params7] at hA hval
  obtain ⟨v0, v1, v2, v3, d0, d1, d2, d3, p0, p1, p2, p3, rfl, rfl, rfl, h0, h1, h2, h3⟩ := trodAll_four hA
  obtain ⟨rfl, rfl⟩ := trodVars_none hV
  clear hA0 hval0
  simp only [List.append_nil] at hW'
  have hlt0 : ∀ x ∈ p0, x.block < W.heap.size := fun x hx => hlt x (by simp [hx])
  have hlt1 : ∀ x ∈ p1, x.block < W.heap.size := fun x hx => hlt x (by simp [hx])
  have hlt2 : ∀ x ∈ p2, x.block < W.heap.size := fun x hx => hlt x (by simp [hx])
  have hlt3 : ∀ x ∈ p3, x.block < W.heap.size := fun x hx => hlt x (by simp [hx])
  obtain ⟨x0, hx0⟩ := vars_of (hval 0 _ v0 rfl rfl) h0
  obtain ⟨_, x1, hx1⟩ := ex_of (hval 1 _ v1 rfl rfl) h1
  obtain ⟨_, x2, hx2⟩ := ex_of (hval 2 _ v2 rfl rfl) h2
  obtain ⟨_, x3, hx3⟩ := ex_of (hval 3 _ v3 rfl rfl) h3
  refine (exprReplaces_law x0 x1 x2 x3 v0 v1 v2 v3 W hx0 hx1 hx2 hx3 (amb_of hL)).mono fun e W' ⟨he, hb⟩ => ?_
  subst he
  have hbef : ∀ sp : Nat → Bool, (∀ x ∈ p0 ++ p1 ++ p2 ++ p3, sp x.block = true) → (∀ x ∈ p0, sp x.block = true) ∧ (∀ x ∈ p1, sp x.block = true) ∧ (∀ x ∈ p2, sp x.block = true) ∧ (∀ x ∈ p3, sp x.block = true) :=
    fun sp h => ⟨fun x hx => h x (by simp [hx]), fun x hx => h x (by simp [hx]), fun x hx => h x (by simp [hx]), fun x hx => h x (by simp [hx])⟩
  exact ⟨_, rfl, post_of_below (pa := p0 ++ (p1 ++ (p2 ++ (p3)))) (pv := []) hW' (fun _ _ _ => trodAll_mk1 (shut_bool Tryz.underlying4 _))
    (fun sp hsp => trodAll_mk4 (stays readVars rowVars h0 hb hlt0 (hbef sp hsp).1) (stays readEx rowEx h1 hb hlt1 (hbef sp hsp).2.1) (stays readEx rowEx h2 hb hlt2 (hbef sp hsp).2.2.1) (stays readEx rowEx h3 hb hlt3 (hbef sp hsp).2.2.2))
    (fun _ _ => rfl) (by simp) hb (ok_one (by kernel_rfl) rfl (okWide_bool_mk Tryz.underlying4 _))⟩
theorem exprReplaces_holds : Rows.ExprReplacesSaid :=
  OpenClaim.holds_of_wide 7 Tryz.f7 rfl rfl rfl rfl rfl rfl rfl ⟨rfl, rfl, rfl, rfl, rfl⟩ rfl rfl rfl rfl rfl (by kernel_rfl) Tryz.func7 (by kernel_rfl)
    (of_decide_eq_true (by kernel_rfl)) (by unfold Func.isWrapper; first | (rw [if_pos (by decide +kernel)]; kernel_rfl) | (rw [if_neg (by decide +kernel)]; exact ⟨rfl, rfl⟩))
    (fun os started H enc _ => exprReplaces_lifted os started H enc)
theorem exprReplaces_card : Rows.ExprReplacesCardSaid :=
  Claim7.holds_tied_plain_at .later [] Rows.exprReplacesCard.laidKinds true Rows.exprReplacesCard.stood.harness Rows.exprReplacesCard.stood.looks
    exprReplaces_holds (fun _ h => by cases h) (by kernel_rfl) (fun _ h => by cases h) exprReplaces_row_tie rfl ⟨rfl, rfl⟩ (by kernel_rfl) rfl
    (fun f fn hf hfn => by
      obtain rfl : f = 7 := Option.some.inj ((show Tryz.prog.funcNamed Rows.exprReplacesRow.func = some 7 by kernel_rfl).symm.trans hf) |>.symm
      obtain rfl : fn = Tryz.f7 := (Option.some.inj (Tryz.func7.symm.trans hfn)).symm
      exact ⟨by kernel_rfl, fun j t ht => by
        rw [Tryz.params7] at ht
        have hm : t ∈ [22, 28, 28, 28] := by simpa using Array.mem_of_getElem? ht
        have hall : ([22, 28, 28, 28].all fun u => !Tryz.prog.wantsStandIn u) = true := by kernel_rfl
        exact (show Tryz.prog.wantsStandIn t = false by simpa using List.all_eq_true.1 hall t hm)⟩)
    (by kernel_rfl)
end Go.Proofs.YtijmnenojbfdnaaGreatDoor
