/- Texts of this seat, merged. -/
import Derived.Laws.MakeOwn
import Derived.RangeFuncCalls
import Derived.Deep.CutRange
import Derived.WalkSmall
import Derived.Laws.BitsAllLaws
import Derived.Deep.QuietTactic
import Derived.Lib.AppendStr
import Derived.Lib.OwnKind
import Derived.Lib.OthersKept
import Derived.Lib.UnsafeStr
import Derived.Laws.IdiomStrings
import Derived.Laws.BytesString
import Derived.Test.YtjglmjdfndcmmaaProg
import Derived.Maps.AppendAt
import Derived.Deep.AppendLies
import Derived.RegionTactic
import Derived.OwnWalk
import Derived.WalkKit
import Derived.WalkSpells
import Derived.WalkLawsBesides
import Derived.Lib.Hide
import Derived.Deep.Draws
import Derived.Deep.OwnRows
import Derived.Lib.SlicesCompact
import Derived.Outline
import Derived.Deep.Light
import Derived.Shelf.Abstract
import Derived.Lib.Strings
import Derived.BigQuiet
import Derived.Maps.OwnOps
import Derived.Maps.OwnSet
import Derived.Maps.Views
import Derived.Maps.Keyed
import Derived.StringKeys
import Derived.Sort.KeysCollected
import Derived.Shelf.SlIter.Nil
import Derived.Shelf.SortM.Plain
import Derived.Shelf.SortM.SortNone
import Derived.Ground.GgzProg
import Derived.Ground.SlgmProg
import Derived.Sort.OwnSorted
import Derived.Lib.Bytes
import Derived.Shelf.Small.Bits
import Derived.Shelf.Strconv.Itoa0
import Derived.Shelf.Sort.Plain
import Derived.Shelf.Slices.Turned
import Derived.Shelf.Slices.In.SortNone
import Derived.Shelf.Bytes.SlSearch0
import Derived.Shelf.Bytes.SlSmallAll
import Derived.Shelf.Bytes.SlEqualAll
import Derived.Shelf.Bytes.Small
import Derived.RangeFuncBox
import Derived.RangeFuncLeaves
import Derived.RangeFuncWrites
import Derived.OwnWalkIn
import Derived.TacticsInMore
import Derived.LoopNIn
import Derived.LoopIn
import Derived.Sort.QuietIn
import Derived.Deep.RegionHeld3
import Derived.Deep.RegionLaw
import Derived.StillTailTactics
import Derived.Deep.RegionWith
import Derived.Deep.CutBlock
import Derived.Laws.EntriesVeiled
import Derived.Deep.RegionHeld
import Derived.Orders
import Derived.Deep.Quiet
import Derived.StillTail
import Derived.Laws.StructEq
import Derived.Test.YtjglmjdfndcmmaaRows
import Derived.JoinedOf
import Derived.Handed
import Derived.ProofKit
import Derived.Deep.Slices
import Derived.Deep.Fields
import Derived.Deep.Strs
import Derived.ChangeSame
import Derived.Lib.SmallJoins
import Derived.LaidMore
import Derived.OpenShut
import Derived.Stop.Joined
import Derived.Test.YtjglmjdfndcmmaaZb01
import Derived.Test.YtjglmjdfndcmmaaZb02
import Derived.Test.YtjglmjdfndcmmaaZb03
import Derived.Test.YtjglmjdfndcmmaaZb04
import Derived.Test.YtjglmjdfndcmmaaZb05
import Derived.Test.YtjglmjdfndcmmaaZb06
import Derived.Test.YtjglmjdfndcmmaaZb07
import Derived.Test.YtjglmjdfndcmmaaZb08
import Derived.Test.YtjglmjdfndcmmaaZb09
import Derived.Test.YtjglmjdfndcmmaaZb10
import Derived.Test.YtjglmjdfndcmmaaZb11
import Derived.Test.YtjglmjdfndcmmaaZb12
import Derived.Test.YtjglmjdfndcmmaaZb13
import Derived.Test.YtjglmjdfndcmmaaZb14
import Derived.Test.YtjglmjdfndcmmaaZb15
import Derived.Test.YtjglmjdfndcmmaaZb16
import Derived.Test.YtjglmjdfndcmmaaZb17
import Derived.Test.YtjglmjdfndcmmaaZb18
import Derived.Test.YtjglmjdfndcmmaaZb19
import Derived.Test.YtjglmjdfndcmmaaZb20
import Derived.Test.YtjglmjdfndcmmaaZb21
import Derived.Test.YtjglmjdfndcmmaaZb22
import Derived.Test.YtjglmjdfndcmmaaZb23
import Derived.Test.YtjglmjdfndcmmaaZb24
set_option linter.all false
set_option linter.all false
namespace Go.Proofs.Ytjglmjdfndcmmaa
open Go.ChangeShapes Go.WideShapes Go.ChangeAt Go.RowKit
set_option maxRecDepth 100000 in
theorem archiveBack_lifted (os : Os) (started : os.Started) (H : Type) (enc : TypeId × Value → H) :
    ReturnsInHanded {} Try.checked os 6 .any (Rows.archiveBackSpec.pre6 enc Try.prog Try.f6 [] false)
      (Rows.archiveBackSpec.post enc Try.prog Try.f6 false true false false) := by
  refine returnsInHanded_of_change (C := Try.checked) own started (by kernel_rfl) Try.func6
    (ChangeSpec.witness6 (enc := enc) (C := Try.checked) false ⟨#[], #[.agg #[.slice none 0 0]], []⟩ 8 (by kernel_rfl) (by kernel_rfl) (by kernel_rfl) (by kernel_rfl)) ?_
  intro W base args ds gs before hval0 hW _ _
  have hval : ∀ (j : Nat) t v, Try.f6.params[j]? = some t → args[j]? = some v → Value.okWide Try.prog W .any base t v := hval0
  have hW' := hW
  obtain ⟨p, q, hA0, hV, rfl, hfz, hnd⟩ := hW
  have hA : DataW.TrodAll enc Try.prog W 0 (fun _ => true) true Try.f6.params.toList args.toList ds p := hA0
  have hlt : ∀ x ∈ p, x.block < W.heap.size := fun x hx => hW'.lt x (List.mem_append_left _ hx)
  rw [Try.params6] at hA hval
  obtain ⟨v0, d0, rfl, rfl, h0⟩ := trodAll_one hA
  obtain ⟨rfl, rfl⟩ := trodVars_none hV
  clear hA0 hval0
  simp only [List.append_nil] at hW'
  have hlt0 := hlt
  obtain ⟨x0, hx0⟩ := log_of (hval 0 _ v0 rfl rfl) h0
  refine (archiveBack_law x0 v0 W hx0 ).mono fun e W' ⟨he, hb⟩ => ?_
  subst he
  have hbef : ∀ sp : Nat → Bool, (∀ x ∈ p, sp x.block = true) → (∀ x ∈ p, sp x.block = true) :=
    fun sp h => h
  exact ⟨_, rfl, post_of_below (pa := p) (pv := []) hW' (fun _ _ _ => trodAll_mk1 (shut_bool Try.underlying4 _))
    (fun sp hsp => trodAll_mk1 (stays readLog rowLog h0 hb hlt0 (hbef sp hsp)))
    (fun _ _ => rfl) (by simp) hb (ok_one (by kernel_rfl) rfl (okWide_bool_mk Try.underlying4 _))⟩
theorem archiveBack_holds : Rows.ArchiveBackSaid :=
  OpenClaim.holds_of_wide 6 Try.f6 rfl rfl rfl rfl rfl rfl rfl ⟨rfl, rfl, rfl, rfl, rfl⟩ rfl rfl rfl rfl rfl (by kernel_rfl) Try.func6 (by kernel_rfl)
    (of_decide_eq_true (by kernel_rfl)) (by unfold Func.isWrapper; first | (rw [if_pos (by decide +kernel)]; kernel_rfl) | (rw [if_neg (by decide +kernel)]; exact ⟨rfl, rfl⟩))
    (fun os started H enc _ => archiveBack_lifted os started H enc)
end Go.Proofs.Ytjglmjdfndcmmaa
