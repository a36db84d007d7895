/-
  ArchivePacks: for every input the law returns true, and its arguments read as before. No conditions.
-/
import Derived.Test.YtjglmjdfndcmmaaLawArPacks
import Derived.Test.YtjglmjdfndcmmaaArRow2
set_option linter.all false
namespace Go.Proofs.Ytjglmjdfndcmmaa
open Go.ChangeShapes Go.WideShapes Go.ChangeAt Go.RowKit

set_option maxRecDepth 100000 in
theorem archivePacks_lifted (os : Os) (started : os.Started) (H : Type) (enc : TypeId × Value → H) :
    ReturnsInHanded {} Try.checked os 3 .any (Rows.archivePacksSpec.pre6 enc Try.prog Try.f3 [] false)
      (Rows.archivePacksSpec.post enc Try.prog Try.f3 false true false false) := by
  refine returnsInHanded_of_change (C := Try.checked) own started (by kernel_rfl) Try.func3
    (ChangeSpec.witness6 (enc := enc) (C := Try.checked) false ⟨#[], #[.agg #[.slice none 0 0], .slice none 0 0], []⟩ 8 (by kernel_rfl) (by kernel_rfl) (by kernel_rfl) (by kernel_rfl)) ?_
  intro W base args ds gs before hval0 hW _ _
  have hval : ∀ (j : Nat) t v, Try.f3.params[j]? = some t → args[j]? = some v → Value.okWide Try.prog W .any base t v := hval0
  have hW' := hW
  obtain ⟨p, q, hA0, hV, rfl, hfz, hnd⟩ := hW
  have hA : DataW.TrodAll enc Try.prog W 0 (fun _ => true) true Try.f3.params.toList args.toList ds p := hA0
  have hlt : ∀ x ∈ p, x.block < W.heap.size := fun x hx => hW'.lt x (List.mem_append_left _ hx)
  rw [Try.params3] at hA hval
  obtain ⟨v0, v1, d0, d1, p0, p1, rfl, rfl, rfl, h0, h1⟩ := trodAll_two hA
  obtain ⟨rfl, rfl⟩ := trodVars_none hV
  clear hA0 hval0
  simp only [List.append_nil] at hW'
  have hlt0 : ∀ x ∈ p0, x.block < W.heap.size := fun x hx => hlt x (by simp [hx])
  have hlt1 : ∀ x ∈ p1, x.block < W.heap.size := fun x hx => hlt x (by simp [hx])
  obtain ⟨x0, hx0⟩ := log_of (hval 0 _ v0 rfl rfl) h0
  obtain ⟨_, _, hy1⟩ := slice_of Try.underlying25 (hval 1 _ v1 rfl rfl) h1
  obtain ⟨x1, hx1⟩ := bytes_of hy1
  refine (archivePacks_law x0 x1 v0 v1 W hx0 hx1 ).mono fun e W' ⟨he, hb⟩ => ?_
  subst he
  have hbef : ∀ sp : Nat → Bool, (∀ x ∈ p0 ++ p1, sp x.block = true) → (∀ x ∈ p0, sp x.block = true) ∧ (∀ x ∈ p1, sp x.block = true) :=
    fun sp h => ⟨fun x hx => h x (by simp [hx]), fun x hx => h x (by simp [hx])⟩
  exact ⟨_, rfl, post_of_below (pa := p0 ++ (p1)) (pv := []) hW' (fun _ _ _ => trodAll_mk1 (shut_bool Try.underlying4 _))
    (fun sp hsp => trodAll_mk2 (stays readLog rowLog h0 hb hlt0 (hbef sp hsp).1) (stays readBytes rowBytes h1 hb hlt1 (hbef sp hsp).2))
    (fun _ _ => rfl) (by simp) hb (ok_one (by kernel_rfl) rfl (okWide_bool_mk Try.underlying4 _))⟩

theorem archivePacks_holds : Rows.ArchivePacksSaid :=
  OpenClaim.holds_of_wide 3 Try.f3 rfl rfl rfl rfl rfl rfl rfl ⟨rfl, rfl, rfl, rfl, rfl⟩ rfl rfl rfl rfl rfl (by kernel_rfl) Try.func3 (by kernel_rfl)
    (of_decide_eq_true (by kernel_rfl)) (by unfold Func.isWrapper; first | (rw [if_pos (by decide +kernel)]; kernel_rfl) | (rw [if_neg (by decide +kernel)]; exact ⟨rfl, rfl⟩))
    (fun os started H enc _ => archivePacks_lifted os started H enc)
end Go.Proofs.Ytjglmjdfndcmmaa
