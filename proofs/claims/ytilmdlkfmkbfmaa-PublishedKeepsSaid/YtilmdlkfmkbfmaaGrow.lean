/- Regions that draw their order, whose calls answer one plain value and make memory of their own: one walk in the order of the text, in whatever world that has grown. No program in sight. -/
import Derived.Test.YtilmdlkfmkbfmaaWords
import Derived.Deep.QuietTactic
import Derived.BigQuiet
set_option linter.all false
namespace Go.Proofs.Ytilmdlkfmkbfmaa
open Go.RowKit

open Classical in
/-- W, where it has grown out of w; else w. -/
noncomputable def ext (w W : World) : World := if Below w.heap.size w W then W else w
theorem ext_below (w W : World) : Below w.heap.size w (ext w W) := by
  unfold ext; split
  · assumption
  · exact Below.refl _ _
theorem ext_of {w W : World} (h : Below w.heap.size w W) : ext w W = W := by unfold ext; rw [if_pos h]
theorem ext_ex {w W : World} (h : Below w.heap.size w W) : ∃ W', W = ext w W' := ⟨W, (ext_of h).symm⟩

theorem wp_region_grow {P : Program} {id : Nat} {Q : Exit → Act → World → Prop} {a : Act} {w : World} {l : List Oper} (hm : P.follows .mixedOrders = true) (hB : Region.lexB .any l.toArray = true)
    (h : wpQuiet P l.toArray (fun w' => ∃ W, w' = ext w W) (fun a' => ∀ w', (∃ W, w' = ext w W) → Q .normal a' w') l a) : (Code.region id l.toArray true).wp P Q a w :=
  wp_region_quiet (C := fun w' => ∃ W, w' = ext w W) hm hB (ext_ex ((Below.refl _ w).drew)) (by simpa using h)

theorem grow_of {P : Program} {f : FuncId} {args : Array Value} {w W : World} {v : Value}
    (h : Calls P f args (ext w W) fun e w' => e = .returned v ∧ Below (ext w W).heap.size (ext w W) w') : Calls P f args (ext w W) fun e w'' => e = .returned v ∧ ∃ W', w'' = ext w W' :=
  h.mono fun _ _ ⟨he, hb⟩ => ⟨he, ext_ex (bthen (ext_below w W) hb)⟩
theorem grow_same {P : Program} {f : FuncId} {args : Array Value} {w W : World} {v : Value}
    (h : Calls P f args (ext w W) fun e w' => e = .returned v ∧ w' = ext w W) : Calls P f args (ext w W) fun e w'' => e = .returned v ∧ ∃ W', w'' = ext w W' :=
  h.mono fun _ _ ⟨he, hb⟩ => ⟨he, W, hb⟩
theorem grow_same' {P : Program} {f : FuncId} {args : Array Value} {w W : World} {v : Value}
    (h : Calls P f args (ext w W) fun e w' => e = .returned v ∧ ext w W = w') : Calls P f args (ext w W) fun e w'' => e = .returned v ∧ ∃ W', w'' = ext w W' :=
  h.mono fun _ _ ⟨he, hb⟩ => ⟨he, W, hb.symm⟩
theorem grow_drew {P : Program} {f : FuncId} {args : Array Value} {w W : World} {v : Value}
    (h : Calls P f args (ext w W) fun e w' => e = .returned v ∧ ∃ q, w' = (ext w W).drewN q) : Calls P f args (ext w W) fun e w'' => e = .returned v ∧ ∃ W', w'' = ext w W' :=
  h.mono fun _ _ ⟨he, q, hq⟩ => ⟨he, ext_ex (by rw [hq]; exact bdrawn (ext_below w W) q)⟩
end Go.Proofs.Ytilmdlkfmkbfmaa
