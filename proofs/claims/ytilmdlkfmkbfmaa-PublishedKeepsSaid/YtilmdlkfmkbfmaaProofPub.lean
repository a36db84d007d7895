/-
  PublishedKeeps: for every input the law returns true, and its arguments read as before. No conditions.
-/
import Derived.Test.YtilmdlkfmkbfmaaPvLaw
import Derived.Test.YtilmdlkfmkbfmaaPvRow
set_option linter.all false
namespace Go.Proofs.Ytilmdlkfmkbfmaa
open Go.ChangeShapes Go.WideShapes Go.ChangeAt Go.RowKit

set_option maxRecDepth 100000 in
theorem publishedKeeps_lifted (os : Os) (started : os.Started) (H : Type) (enc : TypeId × Value → H) :
    ReturnsInHanded {} Try.checked os 3 .any (Rows.publishedKeepsSpec.pre6 enc Try.prog Try.f3 [] false)
      (Rows.publishedKeepsSpec.post enc Try.prog Try.f3 false true false false) := by
  refine returnsInHanded_of_change (C := Try.checked) own started (by kernel_rfl) Try.func3
    (ChangeSpec.witness6 (enc := enc) (C := Try.checked) false ⟨#[], #[.slice none 0 0, .int .i64 0, .int .i64 0, .agg #[.int .i64 0, .int .i64 0], .slice none 0 0, .int .u8 0], []⟩ 8 (by kernel_rfl) (by kernel_rfl) (by kernel_rfl) (by kernel_rfl)) ?_
  intro W base args ds gs before hval0 hW _ _
  have hval : ∀ (j : Nat) t v, Try.f3.params[j]? = some t → args[j]? = some v → Value.okWide Try.prog W .any base t v := hval0
  have hW' := hW
  obtain ⟨p, q, hA0, hV, rfl, hfz, hnd⟩ := hW
  have hA : DataW.TrodAll enc Try.prog W 0 (fun _ => true) true Try.f3.params.toList args.toList ds p := hA0
  have hlt : ∀ x ∈ p, x.block < W.heap.size := fun x hx => hW'.lt x (List.mem_append_left _ hx)
  rw [Try.params3] at hA hval
  obtain ⟨v0, v1, v2, v3, v4, v5, d0, d1, d2, d3, d4, d5, p0, p1, p2, p3, p4, p5, rfl, rfl, rfl, h0, h1, h2, h3, h4, h5⟩ := trodAll_six hA
  obtain ⟨rfl, rfl⟩ := trodVars_none hV
  clear hA0 hval0
  simp only [List.append_nil] at hW'
  have hlt0 : ∀ x ∈ p0, x.block < W.heap.size := fun x hx => hlt x (by simp [hx])
  have hlt1 : ∀ x ∈ p1, x.block < W.heap.size := fun x hx => hlt x (by simp [hx])
  have hlt2 : ∀ x ∈ p2, x.block < W.heap.size := fun x hx => hlt x (by simp [hx])
  have hlt3 : ∀ x ∈ p3, x.block < W.heap.size := fun x hx => hlt x (by simp [hx])
  have hlt4 : ∀ x ∈ p4, x.block < W.heap.size := fun x hx => hlt x (by simp [hx])
  have hlt5 : ∀ x ∈ p5, x.block < W.heap.size := fun x hx => hlt x (by simp [hx])
  obtain ⟨x0, hx0⟩ := pvs_of (hval 0 _ v0 rfl rfl) h0
  obtain ⟨x1, rfl, rfl, rfl, hx1⟩ := open_int Try.underlying3 (hval 1 _ v1 rfl rfl) h1
  obtain ⟨x2, rfl, rfl, rfl, hx2⟩ := open_int Try.underlying3 (hval 2 _ v2 rfl rfl) h2
  obtain ⟨x3, rfl, hx3⟩ := fr_of (hval 3 _ v3 rfl rfl) h3
  obtain ⟨x4, hx4⟩ := frs_of (hval 4 _ v4 rfl rfl) h4
  obtain ⟨x5, rfl, rfl, rfl, hx5⟩ := open_int Try.underlying5 (hval 5 _ v5 rfl rfl) h5
  refine (published_law x0 x1 x2 x3 x4 x5 v0 v4 W hx0 hx1 hx2 hx3 hx4 hx5 ).mono fun e W' ⟨he, hb⟩ => ?_
  subst he
  have hbef : ∀ sp : Nat → Bool, (∀ x ∈ p0 ++ [] ++ [] ++ p3 ++ p4 ++ [], sp x.block = true) → (∀ x ∈ p0, sp x.block = true) ∧ True ∧ True ∧ (∀ x ∈ p3, sp x.block = true) ∧ (∀ x ∈ p4, sp x.block = true) ∧ True :=
    fun sp h => ⟨fun x hx => h x (by simp [hx]), trivial, trivial, fun x hx => h x (by simp [hx]), fun x hx => h x (by simp [hx]), trivial⟩
  exact ⟨_, rfl, post_of_below (pa := p0 ++ ([] ++ ([] ++ (p3 ++ (p4 ++ ([])))))) (pv := []) hW' (fun _ _ _ => trodAll_mk1 (shut_bool Try.underlying4 _))
    (fun sp hsp => trodAll_mk6 (stays readPvs rowPvs h0 hb hlt0 (hbef sp hsp).1) (shut_int Try.underlying3 hx1) (shut_int Try.underlying3 hx2) (stays readFr rowFr h3 hb hlt3 (hbef sp hsp).2.2.2.1) (stays readFrs rowFrs h4 hb hlt4 (hbef sp hsp).2.2.2.2.1) (shut_int Try.underlying5 hx5))
    (fun _ _ => rfl) (by simp) hb (ok_one (by kernel_rfl) rfl (okWide_bool_mk Try.underlying4 _))⟩

theorem publishedKeeps_holds : Rows.PublishedKeepsSaid :=
  OpenClaim.holds_of_wide 3 Try.f3 rfl rfl rfl rfl rfl rfl rfl ⟨rfl, rfl, rfl, rfl, rfl⟩ rfl rfl rfl rfl rfl (by kernel_rfl) Try.func3 (by kernel_rfl)
    (of_decide_eq_true (by kernel_rfl)) (by unfold Func.isWrapper; first | (rw [if_pos (by decide +kernel)]; kernel_rfl) | (rw [if_neg (by decide +kernel)]; exact ⟨rfl, rfl⟩))
    (fun os started H enc _ => publishedKeeps_lifted os started H enc)
end Go.Proofs.Ytilmdlkfmkbfmaa
