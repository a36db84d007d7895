/- Texts of this seat, merged. -/
import Derived.Test.YtlmenhjlgmejkaaGreatDoorBa34
set_option linter.unusedSimpArgs false
set_option linter.unusedVariables false
namespace Go.Proofs.YtlmenhjlgmejkaaGreatDoor
open Go.RowKit
section
variable {P : Program} {o : Oper} {a : Act} {w : World} {K : Act → World → Prop} {Q : Exit → Act → World → Prop}
end
theorem cpF_now (s : St) (p0 p1 v0 v1 : Value) (B : Nat) : ∀ j v W W', cpF s p0 p1 v0 v1 B j v W → Below W.heap.size W W' → cpF s p0 p1 v0 v1 B j v W' := by
  intro j v W W' h hb
  obtain ⟨hd, hs⟩ := fr_now (B := B) hb
  match j, h with
  | 0, ⟨g, e, h⟩ => exact ⟨g, e, own_now h hb⟩
  | 1, h => exact h
  | 2, h => exact h
  | 3, ⟨A, c, e, h⟩ => exact ⟨A, c, e, Sl.keep h RInt.kept hd hs⟩
  | 4, ⟨g, e, h⟩ => exact ⟨g, e, OwnV.now h hb⟩
  | 5, h => exact h
  | 6, h => exact h
  | 7, ⟨A, c, e, h⟩ => exact ⟨A, c, e, Sl.keep h RVal.kept hd hs⟩
  | 8, ⟨A, c, A', c', e, h, h'⟩ => exact ⟨A, c, A', c', e, Sl.keep h RInt.kept hd hs, Sl.keep h' RVal.kept hd hs⟩
  | 9, ⟨g, e, hg, h⟩ => exact ⟨g, e, hg, h.now hb⟩
  | n + 10, h => exact h
theorem bsI0 (W : World) : (Instr.buildSlice 31 0 #[]).run Tryz.prog W = .ok (.slice (some ⟨W.heap.size, 0, none⟩) 0 0) (W.alloc (.cells #[] 3)) := by kernel_rfl
theorem cellsI_one : ∀ y : Int, ∀ u ∈ [Value.int .i64 y], u.oneCell' = true := fun y u hu => by rw [List.mem_singleton] at hu; subst hu; rfl
theorem flat_ints (zs : List Int) : flat (fun y => [Value.int .i64 y]) zs = zs.map (Value.int .i64) := by
  unfold flat
  induction zs with
  | nil => rfl
  | cons z zs ih => simpa using ih
end Go.Proofs.YtlmenhjlgmejkaaGreatDoor
