/- Texts of this seat, merged. -/
import Derived.Laws.MakeOwn
import Derived.RangeFuncCalls
import Derived.Deep.CutRange
import Derived.WalkSmall
import Derived.Laws.BitsAllLaws
import Derived.Deep.QuietTactic
import Derived.Lib.AppendStr
import Derived.Lib.OwnKind
import Derived.Lib.OthersKept
import Derived.Lib.UnsafeStr
import Derived.Laws.IdiomStrings
import Derived.Laws.BytesString
import Derived.Test.YtjglmjdfndcmmaaProg
import Derived.Maps.AppendAt
import Derived.Deep.AppendLies
import Derived.RegionTactic
import Derived.OwnWalk
import Derived.WalkKit
import Derived.WalkSpells
import Derived.WalkLawsBesides
import Derived.Lib.Hide
import Derived.Deep.Draws
import Derived.Deep.OwnRows
import Derived.Lib.SlicesCompact
import Derived.Outline
import Derived.Deep.Light
import Derived.Shelf.Abstract
import Derived.Lib.Strings
import Derived.BigQuiet
import Derived.Maps.OwnOps
import Derived.Maps.OwnSet
import Derived.Maps.Views
import Derived.Maps.Keyed
import Derived.StringKeys
import Derived.Sort.KeysCollected
import Derived.Shelf.SlIter.Nil
import Derived.Shelf.SortM.Plain
import Derived.Shelf.SortM.SortNone
import Derived.Ground.GgzProg
import Derived.Ground.SlgmProg
import Derived.Sort.OwnSorted
import Derived.Lib.Bytes
import Derived.Shelf.Small.Bits
import Derived.Shelf.Strconv.Itoa0
import Derived.Shelf.Sort.Plain
import Derived.Shelf.Slices.Turned
import Derived.Shelf.Slices.In.SortNone
import Derived.Shelf.Bytes.SlSearch0
import Derived.Shelf.Bytes.SlSmallAll
import Derived.Shelf.Bytes.SlEqualAll
import Derived.Shelf.Bytes.Small
import Derived.RangeFuncBox
import Derived.RangeFuncLeaves
import Derived.RangeFuncWrites
import Derived.OwnWalkIn
import Derived.TacticsInMore
import Derived.LoopNIn
import Derived.LoopIn
import Derived.Sort.QuietIn
import Derived.Deep.RegionLaw
import Derived.StillTailTactics
import Derived.Deep.RegionWith
import Derived.Deep.CutBlock
import Derived.Deep.RegionHeld3
import Derived.Laws.EntriesVeiled
import Derived.Deep.RegionHeld
import Derived.Orders
import Derived.Deep.Quiet
import Derived.StillTail
import Derived.Laws.StructEq
import Derived.Test.YtjglmjdfndcmmaaRows
import Derived.JoinedOf
import Derived.Handed
import Derived.ProofKit
import Derived.Deep.Slices
import Derived.Deep.Fields
import Derived.Deep.Strs
import Derived.ChangeSame
import Derived.Lib.SmallJoins
import Derived.LaidMore
import Derived.OpenShut
import Derived.Stop.Joined
import Derived.Test.YtjglmjdfndcmmaaZo01
import Derived.Test.YtjglmjdfndcmmaaZo02
import Derived.Test.YtjglmjdfndcmmaaZo03
import Derived.Test.YtjglmjdfndcmmaaZo04
import Derived.Test.YtjglmjdfndcmmaaZo05
import Derived.Test.YtjglmjdfndcmmaaZo06
import Derived.Test.YtjglmjdfndcmmaaZo07
import Derived.Test.YtjglmjdfndcmmaaZo08
import Derived.Test.YtjglmjdfndcmmaaZo09
import Derived.Test.YtjglmjdfndcmmaaZo10
import Derived.Test.YtjglmjdfndcmmaaZo11
import Derived.Test.YtjglmjdfndcmmaaZo12
import Derived.Test.YtjglmjdfndcmmaaZo13
import Derived.Test.YtjglmjdfndcmmaaZo14
import Derived.Test.YtjglmjdfndcmmaaZo15
import Derived.Test.YtjglmjdfndcmmaaZo16
import Derived.Test.YtjglmjdfndcmmaaZo17
import Derived.Test.YtjglmjdfndcmmaaZo18
import Derived.Test.YtjglmjdfndcmmaaZo19
import Derived.Test.YtjglmjdfndcmmaaZo20
import Derived.Test.YtjglmjdfndcmmaaZo21
import Derived.Test.YtjglmjdfndcmmaaZo22
import Derived.Test.YtjglmjdfndcmmaaZo23
import Derived.Test.YtjglmjdfndcmmaaZo24
import Derived.Test.YtjglmjdfndcmmaaZo25
set_option linter.all false
set_option linter.all false
namespace Go.Proofs.Ytjglmjdfndcmmaa
open Go.ChangeShapes Go.WideShapes Go.ChangeAt Go.RowKit
set_option maxRecDepth 100000 in
theorem archiveOpens_lifted (os : Os) (started : os.Started) (H : Type) (enc : TypeId × Value → H) :
    ReturnsInHanded {} Try.checked os 5 .any (Rows.archiveOpensSpec.pre6 enc Try.prog Try.f5 [] false)
      (Rows.archiveOpensSpec.post enc Try.prog Try.f5 false true false false) := by
  refine returnsInHanded_of_change (C := Try.checked) own started (by kernel_rfl) Try.func5
    (ChangeSpec.witness6 (enc := enc) (C := Try.checked) false ⟨#[], #[.slice none 0 0, .bool false], []⟩ 8 (by kernel_rfl) (by kernel_rfl) (by kernel_rfl) (by kernel_rfl)) ?_
  intro W base args ds gs before hval0 hW _ _
  have hval : ∀ (j : Nat) t v, Try.f5.params[j]? = some t → args[j]? = some v → Value.okWide Try.prog W .any base t v := hval0
  have hW' := hW
  obtain ⟨p, q, hA0, hV, rfl, hfz, hnd⟩ := hW
  have hA : DataW.TrodAll enc Try.prog W 0 (fun _ => true) true Try.f5.params.toList args.toList ds p := hA0
  have hlt : ∀ x ∈ p, x.block < W.heap.size := fun x hx => hW'.lt x (List.mem_append_left _ hx)
  rw [Try.params5] at hA hval
  obtain ⟨v0, v1, d0, d1, p0, p1, rfl, rfl, rfl, h0, h1⟩ := trodAll_two hA
  obtain ⟨rfl, rfl⟩ := trodVars_none hV
  clear hA0 hval0
  simp only [List.append_nil] at hW'
  have hlt0 : ∀ x ∈ p0, x.block < W.heap.size := fun x hx => hlt x (by simp [hx])
  have hlt1 : ∀ x ∈ p1, x.block < W.heap.size := fun x hx => hlt x (by simp [hx])
  obtain ⟨_, _, hy0⟩ := slice_of Try.underlying25 (hval 0 _ v0 rfl rfl) h0
  obtain ⟨x0, hx0⟩ := bytes_of hy0
  obtain ⟨x1, rfl, rfl, rfl⟩ := open_bool Try.underlying4 (hval 1 _ v1 rfl rfl) h1
  refine (archiveOpens_law x0 x1 v0 W hx0 ).mono fun e W' ⟨he, hb⟩ => ?_
  subst he
  have hbef : ∀ sp : Nat → Bool, (∀ x ∈ p0 ++ [], sp x.block = true) → (∀ x ∈ p0, sp x.block = true) ∧ True :=
    fun sp h => ⟨fun x hx => h x (by simp [hx]), trivial⟩
  exact ⟨_, rfl, post_of_below (pa := p0 ++ ([])) (pv := []) hW' (fun _ _ _ => trodAll_mk1 (shut_bool Try.underlying4 _))
    (fun sp hsp => trodAll_mk2 (stays readBytes rowBytes h0 hb hlt0 (hbef sp hsp).1) (shut_bool Try.underlying4 _))
    (fun _ _ => rfl) (by simp) hb (ok_one (by kernel_rfl) rfl (okWide_bool_mk Try.underlying4 _))⟩
theorem archiveOpens_holds : Rows.ArchiveOpensSaid :=
  OpenClaim.holds_of_wide 5 Try.f5 rfl rfl rfl rfl rfl rfl rfl ⟨rfl, rfl, rfl, rfl, rfl⟩ rfl rfl rfl rfl rfl (by kernel_rfl) Try.func5 (by kernel_rfl)
    (of_decide_eq_true (by kernel_rfl)) (by unfold Func.isWrapper; first | (rw [if_pos (by decide +kernel)]; kernel_rfl) | (rw [if_neg (by decide +kernel)]; exact ⟨rfl, rfl⟩))
    (fun os started H enc _ => archiveOpens_lifted os started H enc)
end Go.Proofs.Ytjglmjdfndcmmaa
