/- A map[string]bool that the call makes, as the list of texts that it says true of. -/
import Derived.Test.YtchfmjociflgfaaGreatDoorProg
import Derived.Test.YtchfmjociflgfaaGreatDoorOwn
import Derived.Maps.OwnOps
import Derived.Maps.OwnSet
import Derived.Maps.Views
import Derived.StringKeys
namespace Go.Proofs.YtchfmjociflgfaaGreatDoor
open Go.RowKit Go.Maps Go.WideMaps

section
variable {P : Program} {t k e : TypeId}
theorem plainElem_bool_inv (he : P.underlying e = some .bool) {v : Value} {z : DataW Unit × List MemPlace} (h : plainElem P e v = some z) : ∃ a, v = .bool a ∧ z = (.lit (.bool a), []) := by
  unfold plainElem at h
  rw [he] at h
  cases v <;> simp at h
  subst h
  exact ⟨_, rfl, rfl⟩

/-- Block b is a map that says true of the texts of l, and of no others. -/
def SetP (P : Program) (k e : TypeId) (w : World) (b n : Nat) (l : List (List UInt8)) : Prop :=
  ∃ D : DataW Unit, w.ownsMap P k (plainElem P e) b n D ∧ IsMap D ∧ ∀ s : List UInt8, D.atKey (.string s) (.lit (.bool false)) = .lit (.bool (decide (s ∈ l)))

theorem SetP.made (w : World) : SetP P k e (w.alloc (.map #[] 0)) w.heap.size 0 [] :=
  ⟨.map [], World.ownsMap_made w _ _ _, isMap_empty, fun s => by rw [show decide (s ∈ ([] : List (List UInt8))) = false by simp]; rfl⟩
theorem SetP.now {w w' : World} {b n : Nat} {l : List (List UInt8)} (h : SetP P k e w b n l) (hb : Below w.heap.size w w') : SetP P k e w' b n l := by
  obtain ⟨D, h1, h2, h3⟩ := h
  exact ⟨D, h1.kept (grown_of_below hb none) (by simp), h2, h3⟩
theorem SetP.lt {w : World} {b n : Nat} {l : List (List UInt8)} (h : SetP P k e w b n l) : b < w.heap.size := by
  obtain ⟨D, h1, h2, h3⟩ := h
  exact h1.lt
theorem SetP.look {w : World} {b n : Nat} {l : List (List UInt8)} (h : SetP P k e w b n l) (ht : P.underlying t = some (.map k e)) (hk : P.underlying k = some .string) (he : P.underlying e = some .bool) (hz : (zeroValue e).run P w = .ok (.bool false) w) {s : ByteArray} (hs : s.size ≤ maxLen) :
    (Instr.lookup t (.map (some b)) (.string s) false).run P w = .ok (.bool (decide (s.data.toList ∈ l))) w := by
  obtain ⟨D, h1, h2, h3⟩ := h
  obtain ⟨v, ps, hrun, hv⟩ := h1.lookup (string_keyed hk) ht hz (plainElem_bool he false) (keyOf_string_mk hk hs)
  obtain ⟨c, rfl, hc⟩ := plainElem_bool_inv he hv
  rw [h3] at hc
  simp only [Prod.mk.injEq, DataW.lit.injEq, Lit.bool.injEq] at hc
  rw [hc.1]
  exact hrun
theorem SetP.put {w : World} {b n : Nat} {l : List (List UInt8)} (h : SetP P k e w b n l) (ht : P.underlying t = some (.map k e)) (hk : P.underlying k = some .string) (he : P.underlying e = some .bool) {s : ByteArray} (hs : s.size ≤ maxLen) (hn : n < maxLen) :
    ∃ w', (Instr.mapUpdate t (.map (some b)) (.string s) (.bool true)).run P w = .ok () w' ∧ SetP P k e w' b (n + 1) (l ++ [s.data.toList]) ∧ w.grownBy w' (some b) := by
  obtain ⟨D, h1, h2, h3⟩ := h
  obtain ⟨w', r0, r1, r2⟩ := h1.update (string_keyed hk) ht hn (keyOf_string_mk hk hs) (plainElem_bool he true)
  refine ⟨w', r0, ⟨_, r1, h2.put _ _, fun t => ?_⟩, r2⟩
  by_cases e : t = s.data.toList
  · subst e
    rw [atKey_put_same h2 (by simp [WideAt.IsKeyLit])]
    simp
  · rw [atKey_put_other (by simpa using e), h3]
    simp [e]
end
def SetS := SetP Tryz.prog 9 4
theorem SetS.made (w : World) : SetS (w.alloc (.map #[] 0)) w.heap.size 0 [] := SetP.made w
theorem SetS.now {w w' : World} {b n : Nat} {l : List (List UInt8)} (h : SetS w b n l) (hb : Below w.heap.size w w') : SetS w' b n l := SetP.now h hb
theorem SetS.lt {w : World} {b n : Nat} {l : List (List UInt8)} (h : SetS w b n l) : b < w.heap.size := SetP.lt h
theorem SetS.look {w : World} {b n : Nat} {l : List (List UInt8)} (h : SetS w b n l) {s : ByteArray} (hs : s.size ≤ maxLen) :
    (Instr.lookup 78 (.map (some b)) (.string s) false).run Tryz.prog w = .ok (.bool (decide (s.data.toList ∈ l))) w :=
  SetP.look h Tryz.underlying78 Tryz.underlying9 Tryz.underlying4 (by kernel_rfl) hs
/-- The store, at the operation. -/
theorem SetS.store {w : World} {ops : Array Oper} {rest : List Oper} {o : Oper} {a : Act} {Q : Exit → Act → World → Prop} {b n : Nat} {l : List (List UInt8)} {s : ByteArray}
    (h : SetS w b n l) (hs : s.size ≤ maxLen) (hn : n < maxLen) (hg : o.guard = none) (m x v : Operand) (hop : o.op = Op.mapUpdate 78 m x v)
    (hm : a.eval m = .map (some b)) (hx : a.eval x = .string s) (hv : a.eval v = .bool true)
    (hK : ∀ w', SetS w' b (n + 1) (l ++ [s.data.toList]) → w.grownBy w' (some b) → wpList Tryz.prog ops Q rest (a.put o.dst undef) w') :
    wpList Tryz.prog ops Q (o :: rest) a w := by
  refine wpList_plain hg fun K' hK' => ?_
  obtain ⟨w', hrun, r1, r2⟩ := SetP.put h Tryz.underlying78 Tryz.underlying9 Tryz.underlying4 hs hn
  unfold Oper.wp
  simp [execOp, hop, hm, hx, hv, hrun, Result.andThen]
  exact hK' _ _ (hK w' r1 r2)
end Go.Proofs.YtchfmjociflgfaaGreatDoor
