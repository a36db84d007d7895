/- Merged texts. -/
import Derived.Test.YtlmenhjlgmejkaaGreatDoorRows
import Derived.Test.YtlmenhjlgmejkaaGreatDoorTie
import Derived.Test.YtlmenhjlgmejkaaGreatDoorCards
import Derived.SevenTiedAt
import Derived.LaidLaws
import Derived.Lib.LaidTab
import Derived.Test.YtlmenhjlgmejkaaGreatDoorPl25
set_option linter.all false
namespace Go.Proofs.YtlmenhjlgmejkaaGreatDoor
open Go.ChangeShapes Go.WideShapes Go.ChangeAt Go.RowKit Go.Deep
theorem own : ownKnob Tryz.prog.godebug = none := by kernel_rfl
theorem laidOut : laidOutB Tryz.prog = true := by kernel_rfl
theorem door_met (os : Os) (args : Array Value) : laidMetH Tryz.prog Rows.dataRunsRow.laid ((World.doorLaid Tryz.prog 400 os).forCall (fun _ _ => 0) ⟨#[], args, []⟩).memory :=
  laidMetH_of_parts3 (fuel := 80) (laidMet_of_run' 80 (by kernel_rfl) (by kernel_rfl)) (by kernel_rfl) (by kernel_rfl)
theorem stays {H : Type} {enc : TypeId × Value → H} {t : TypeId} (hr : Tryz.prog.readableRec t = true) (hrow : t < Tryz.prog.types.size) {W W' : World} {v : Value} {d : DataW H} {ps : List MemPlace} {sp : Nat → Bool}
    (h : DataW.Trod enc Tryz.prog W 0 (fun _ => true) true t v d ps) (hb : Below W.heap.size W W') (hlt : ∀ x ∈ ps, x.block < W.heap.size) (hsp : ∀ x ∈ ps, sp x.block = true) : DataW.Trod enc Tryz.prog W' 0 sp true t v d ps :=
  WideElems.Trod_stays laidOut hr hrow h (fun x hx => hb.same (hlt x hx)) hsp
theorem readNet : Tryz.prog.readableRec 24 = true := by kernel_rfl
theorem readInts : Tryz.prog.readableRec 31 = true := by kernel_rfl
theorem rowNet : 24 < Tryz.prog.types.size := of_decide_eq_true (by kernel_rfl)
theorem rowInts : 31 < Tryz.prog.types.size := of_decide_eq_true (by kernel_rfl)
theorem laid_at {P : Program} {w : World} {n : String} {d : DataW Unit} : ∀ {l : List (String × DataW Unit)} {ps : List MemPlace}, DataW.LaidVars P w l ps → (n, d) ∈ l →
    ∃ g t cs fuel p, P.globalNamed n = some g ∧ (P.globals[g]?).map (·.type) = some t ∧ w.var? P n = some cs ∧ DataW.trod (fun _ => ()) P w 0 (fun _ => true) false fuel t cs.toList = some (d, p) := by
  intro l
  induction l with
  | nil => intro ps _ h; cases h
  | cons a l ih =>
    intro ps h hm
    obtain ⟨n', d'⟩ := a
    obtain ⟨g, t, cs, fuel, p, q, h1, h2, h3, h4, h5, _⟩ := h
    rcases List.mem_cons.1 hm with e | hm
    · injection e with e1 e2
      subst e1 e2
      exact ⟨g, t, cs, fuel, p, h1, h2, h3, h4⟩
    · exact ih h5 hm
theorem tab_same : (Rows.laid_internal_strconv_uint64pow10 : DataW Unit) = Lib.tabData .u64 Lib.pow10Tab := by rfl
theorem gPow : Tryz.prog.globalNamed "internal/strconv.uint64pow10" = some 0 := by kernel_rfl
theorem tPow : (Tryz.prog.globals[0]?).map (·.type) = some 231 := by kernel_rfl
theorem tab_of {P : Program} {w : World} {n : String} {g : Nat} {t e : TypeId} {m : Nat} {k : IntKind} {zs : List Int} {l : List (String × DataW Unit)} {ps : List MemPlace} (hl : DataW.LaidVars P w l ps) (hm : (n, Lib.tabData k zs) ∈ l)
    (hg : P.globalNamed n = some g) (hty : (P.globals[g]?).map (·.type) = some t) (ht : P.underlying t = some (.array m e)) (he : P.underlying e = some (.int k)) (hce : P.cellsOf e = 1) (hct : P.cellsOf t = m) : Lib.TabIs P w n k zs := by
  obtain ⟨g', t', cs, fuel, p, h1, h2, h3, h4⟩ := laid_at hl hm
  obtain rfl := Option.some.inj (hg.symm.trans h1)
  obtain rfl := Option.some.inj (hty.symm.trans h2)
  unfold Lib.TabIs
  rw [h3, ← Lib.cells_of_tab ht he hce hct h4]
theorem laid_list : Rows.dataRunsRow.laid = [("math/bits.deBruijn32tab", Rows.laid_math_bits_deBruijn32tab), ("math/bits.deBruijn64tab", Rows.laid_math_bits_deBruijn64tab), ("internal/strconv.uint64pow10", Rows.laid_internal_strconv_uint64pow10)] := rfl
theorem cellsU64 : Tryz.prog.cellsOf 212 = 1 := by kernel_rfl
theorem cellsTab : Tryz.prog.cellsOf 231 = 20 := by kernel_rfl
theorem uTab : Tryz.prog.underlying 231 = some (.array 20 212) := by kernel_rfl
theorem uU64 : Tryz.prog.underlying 212 = some (.int .u64) := by kernel_rfl
theorem met_plain {w : World} (h : laidMetH Tryz.prog Rows.dataRunsRow.laid w) : laidMet Tryz.prog Rows.dataRunsRow.laid w := h
theorem amb_of {w : World} (h : laidMetH Tryz.prog Rows.dataRunsRow.laid w) : Amb w := by
  obtain ⟨ps, hl, _⟩ := met_plain h
  rw [laid_list] at hl
  have := tab_of hl (by rw [← tab_same]; simp only [List.mem_cons, true_or, or_true]) gPow tPow uTab uU64 cellsU64 cellsTab
  exact ⟨this⟩
end Go.Proofs.YtlmenhjlgmejkaaGreatDoor
