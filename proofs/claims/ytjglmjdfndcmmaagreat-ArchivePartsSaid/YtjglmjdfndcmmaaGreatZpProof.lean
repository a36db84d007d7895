/- Texts of this seat, merged. -/
import Derived.Deep.CutRange
import Derived.Laws.MakeOwn
import Derived.RangeFuncCalls
import Derived.WalkSmall
import Derived.Laws.BitsAllLaws
import Derived.Deep.QuietTactic
import Derived.Lib.AppendStr
import Derived.Lib.OwnKind
import Derived.Lib.OthersKept
import Derived.Lib.UnsafeStr
import Derived.Laws.IdiomStrings
import Derived.Laws.BytesString
import Derived.Test.YtjglmjdfndcmmaaGreatProg
import Derived.Maps.AppendAt
import Derived.Deep.AppendLies
import Derived.RegionTactic
import Derived.OwnWalk
import Derived.WalkKit
import Derived.WalkSpells
import Derived.WalkLawsBesides
import Derived.Lib.Hide
import Derived.Deep.Draws
import Derived.Deep.OwnRows
import Derived.Lib.SlicesCompact
import Derived.Outline
import Derived.Deep.Light
import Derived.Shelf.Abstract
import Derived.Lib.Strings
import Derived.BigQuiet
import Derived.Maps.OwnOps
import Derived.Maps.OwnSet
import Derived.Maps.Views
import Derived.Maps.Keyed
import Derived.StringKeys
import Derived.Sort.KeysCollected
import Derived.Shelf.SlIter.Nil
import Derived.Shelf.SortM.Plain
import Derived.Shelf.SortM.SortNone
import Derived.Ground.GgzProg
import Derived.Ground.SlgmProg
import Derived.Sort.OwnSorted
import Derived.Lib.Bytes
import Derived.Shelf.Small.Bits
import Derived.Shelf.Strconv.Itoa0
import Derived.Shelf.Sort.Plain
import Derived.Shelf.Slices.Equal
import Derived.Shelf.Slices.In.SortNone
import Derived.Shelf.Slices.Empties2
import Derived.Shelf.Bytes.SlSearch0
import Derived.Shelf.Bytes.SlSmallAll
import Derived.Shelf.Bytes.SlEqualAll
import Derived.Shelf.Bytes.Small
import Derived.RangeFuncBox
import Derived.RangeFuncLeaves
import Derived.RangeFuncWrites
import Derived.OwnWalkIn
import Derived.TacticsInMore
import Derived.LoopNIn
import Derived.LoopIn
import Derived.Sort.QuietIn
import Derived.Deep.RegionHeld3
import Derived.Deep.RegionLaw
import Derived.StillTailTactics
import Derived.Deep.RegionWith
import Derived.Deep.CutBlock
import Derived.Laws.EntriesVeiled
import Derived.Deep.RegionHeld
import Derived.Orders
import Derived.Deep.Quiet
import Derived.StillTail
import Derived.Laws.StructEq
import Derived.Test.YtjglmjdfndcmmaaGreatRows
import Derived.JoinedOf
import Derived.Handed
import Derived.ProofKit
import Derived.Deep.Slices
import Derived.Deep.Fields
import Derived.Deep.Strs
import Derived.ChangeSame
import Derived.Lib.SmallJoins
import Derived.LaidMore
import Derived.OpenShut
import Derived.Stop.Joined
import Derived.Test.YtjglmjdfndcmmaaGreatZp01
import Derived.Test.YtjglmjdfndcmmaaGreatZp02
import Derived.Test.YtjglmjdfndcmmaaGreatZp03
import Derived.Test.YtjglmjdfndcmmaaGreatZp04
import Derived.Test.YtjglmjdfndcmmaaGreatZp05
import Derived.Test.YtjglmjdfndcmmaaGreatZp06
import Derived.Test.YtjglmjdfndcmmaaGreatZp07
import Derived.Test.YtjglmjdfndcmmaaGreatZp08
import Derived.Test.YtjglmjdfndcmmaaGreatZp09
import Derived.Test.YtjglmjdfndcmmaaGreatZp10
import Derived.Test.YtjglmjdfndcmmaaGreatZp11
import Derived.Test.YtjglmjdfndcmmaaGreatZp12
import Derived.Test.YtjglmjdfndcmmaaGreatZp13
import Derived.Test.YtjglmjdfndcmmaaGreatZp14
import Derived.Test.YtjglmjdfndcmmaaGreatZp15
set_option linter.all false
namespace Go.Proofs.YtjglmjdfndcmmaaGreat
open Go.ChangeShapes Go.WideShapes Go.ChangeAt Go.RowKit
set_option maxRecDepth 100000 in
theorem archiveParts_lifted (os : Os) (started : os.Started) (H : Type) (enc : TypeId × Value → H) :
    ReturnsInHanded {} Tryz.checked os 4 .any (Rows.archivePartsSpec.pre6 enc Tryz.prog Tryz.f4 [] false)
      (Rows.archivePartsSpec.post enc Tryz.prog Tryz.f4 false true false false) := by
  refine returnsInHanded_of_change (C := Tryz.checked) own started (by kernel_rfl) Tryz.func4
    (ChangeSpec.witness6 (enc := enc) (C := Tryz.checked) false ⟨#[], #[.slice none 0 0, .int .i64 0], []⟩ 8 (by kernel_rfl) (by kernel_rfl) (by kernel_rfl) (by kernel_rfl)) ?_
  intro W base args ds gs before hval0 hW _ _
  have hval : ∀ (j : Nat) t v, Tryz.f4.params[j]? = some t → args[j]? = some v → Value.okWide Tryz.prog W .any base t v := hval0
  have hW' := hW
  obtain ⟨p, q, hA0, hV, rfl, hfz, hnd⟩ := hW
  have hA : DataW.TrodAll enc Tryz.prog W 0 (fun _ => true) true Tryz.f4.params.toList args.toList ds p := hA0
  have hlt : ∀ x ∈ p, x.block < W.heap.size := fun x hx => hW'.lt x (List.mem_append_left _ hx)
  rw [Tryz.params4] at hA hval
  obtain ⟨v0, v1, d0, d1, p0, p1, rfl, rfl, rfl, h0, h1⟩ := trodAll_two hA
  obtain ⟨rfl, rfl⟩ := trodVars_none hV
  clear hA0 hval0
  simp only [List.append_nil] at hW'
  have hlt0 : ∀ x ∈ p0, x.block < W.heap.size := fun x hx => hlt x (by simp [hx])
  have hlt1 : ∀ x ∈ p1, x.block < W.heap.size := fun x hx => hlt x (by simp [hx])
  obtain ⟨_, _, hy0⟩ := slice_of Tryz.underlying22 (hval 0 _ v0 rfl rfl) h0
  obtain ⟨x0, hx0⟩ := bytes_of hy0
  obtain ⟨x1, rfl, rfl, rfl, hx1⟩ := open_int Tryz.underlying3 (hval 1 _ v1 rfl rfl) h1
  refine (archiveParts_law x0 x1 v0 W hx0 ).mono fun e W' ⟨he, hb⟩ => ?_
  subst he
  have hbef : ∀ sp : Nat → Bool, (∀ x ∈ p0 ++ [], sp x.block = true) → (∀ x ∈ p0, sp x.block = true) ∧ True :=
    fun sp h => ⟨fun x hx => h x (by simp [hx]), trivial⟩
  exact ⟨_, rfl, post_of_below (pa := p0 ++ ([])) (pv := []) hW' (fun _ _ _ => trodAll_mk1 (shut_bool Tryz.underlying4 _))
    (fun sp hsp => trodAll_mk2 (stays readBytes rowBytes h0 hb hlt0 (hbef sp hsp).1) (shut_int Tryz.underlying3 hx1))
    (fun _ _ => rfl) (by simp) hb (ok_one (by kernel_rfl) rfl (okWide_bool_mk Tryz.underlying4 _))⟩
theorem archiveParts_holds : Rows.ArchivePartsSaid :=
  OpenClaim.holds_of_wide 4 Tryz.f4 rfl rfl rfl rfl rfl rfl rfl ⟨rfl, rfl, rfl, rfl, rfl⟩ rfl rfl rfl rfl rfl (by kernel_rfl) Tryz.func4 (by kernel_rfl)
    (of_decide_eq_true (by kernel_rfl)) (by unfold Func.isWrapper; first | (rw [if_pos (by decide +kernel)]; kernel_rfl) | (rw [if_neg (by decide +kernel)]; exact ⟨rfl, rfl⟩))
    (fun os started H enc _ => archiveParts_lifted os started H enc)
end Go.Proofs.YtjglmjdfndcmmaaGreat
