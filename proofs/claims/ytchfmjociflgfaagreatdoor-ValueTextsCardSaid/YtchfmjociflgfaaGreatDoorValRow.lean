/- What every row of this seat needs: how values and variables that came in read; a start that meets the listed variables; what the listed variables give. -/
import Derived.Test.YtchfmjociflgfaaGreatDoorOpen
import Derived.Test.YtchfmjociflgfaaGreatDoorValAwake2
import Derived.Test.YtchfmjociflgfaaGreatDoorRows
import Derived.Test.YtchfmjociflgfaaGreatDoorTie
import Derived.Test.YtchfmjociflgfaaGreatDoorCards
import Derived.SevenTiedAt
import Derived.LaidLaws
import Derived.Lib.LaidTab
namespace Go.Proofs.YtchfmjociflgfaaGreatDoor
open Go.ChangeShapes Go.WideShapes Go.ChangeAt Go.RowKit Go.Deep

theorem own : ownKnob Tryz.prog.godebug = none := by kernel_rfl
theorem laidOut : laidOutB Tryz.prog = true := by kernel_rfl
theorem door_met (os : Os) (args : Array Value) : laidMetH Tryz.prog Rows.valueFormsRow.laid ((World.doorLaid Tryz.prog 400 os).forCall (fun _ _ => 0) ⟨#[], args, []⟩).memory :=
  laidMetH_of_parts3 (fuel := 80) (laidMet_of_run' 80 (by kernel_rfl) (by kernel_rfl)) (by kernel_rfl) (by kernel_rfl)
theorem stays {H : Type} {enc : TypeId × Value → H} {t : TypeId} (hr : Tryz.prog.readableRec t = true) (hrow : t < Tryz.prog.types.size) {W W' : World} {v : Value} {d : DataW H} {ps : List MemPlace} {sp : Nat → Bool}
    (h : DataW.Trod enc Tryz.prog W 0 (fun _ => true) true t v d ps) (hb : Below W.heap.size W W') (hlt : ∀ x ∈ ps, x.block < W.heap.size) (hsp : ∀ x ∈ ps, sp x.block = true) : DataW.Trod enc Tryz.prog W' 0 sp true t v d ps :=
  WideElems.Trod_stays laidOut hr hrow h (fun x hx => hb.same (hlt x hx)) hsp
theorem readVal : Tryz.prog.readableRec 23 = true := by kernel_rfl
theorem readVar : Tryz.prog.readableRec 29 = true := by kernel_rfl
theorem readVals : Tryz.prog.readableRec 43 = true := by kernel_rfl
theorem readVars : Tryz.prog.readableRec 24 = true := by kernel_rfl
theorem rowVal : 23 < Tryz.prog.types.size := of_decide_eq_true (by kernel_rfl)
theorem rowVar : 29 < Tryz.prog.types.size := of_decide_eq_true (by kernel_rfl)
theorem rowVals : 43 < Tryz.prog.types.size := of_decide_eq_true (by kernel_rfl)
theorem rowVars : 24 < Tryz.prog.types.size := of_decide_eq_true (by kernel_rfl)

theorem cellsInt : Tryz.prog.cellsOf 3 = 1 := by kernel_rfl
theorem cellsStr : Tryz.prog.cellsOf 9 = 1 := by kernel_rfl
theorem cellsStrs : Tryz.prog.cellsOf 27 = 1 := by kernel_rfl
theorem cellsVal : Tryz.prog.cellsOf 23 = 3 := by kernel_rfl
theorem cellsVar : Tryz.prog.cellsOf 29 = 5 := by kernel_rfl
instance : Inhabited Val := ⟨noV⟩
instance : Inhabited Var := ⟨⟨emptyS, 0, 0, 0, []⟩⟩
theorem array5 {α : Type} {cs : Array α} (h : cs.size = 5) : ∃ c0 c1 c2 c3 c4, cs = #[c0, c1, c2, c3, c4] := by
  obtain ⟨l⟩ := cs
  match l, h with
  | [c0, c1, c2, c3, c4], _ => exact ⟨c0, c1, c2, c3, c4, rfl⟩
section
variable {H : Type} {enc : TypeId × Value → H} {w : World} {base : Nat} {spare : Nat → Bool} {held : Bool}
theorem trod_struct5 {P : Program} {t : TypeId} {f0 f1 f2 f3 f4 : Field} {fuel : Nat} {cs : List Value} {x : DataW H × List MemPlace} (ht : P.underlying t = some (.struct #[f0, f1, f2, f3, f4])) (h : DataW.trod enc P w base spare held fuel t cs = some x) :
    ∃ y0 y1 y2 y3 y4 n, cs.length = P.cellsOf t ∧ DataW.trod enc P w base spare held n f0.type ((cs.drop f0.offset).take (P.cellsOf f0.type)) = some y0 ∧
      DataW.trod enc P w base spare held n f1.type ((cs.drop f1.offset).take (P.cellsOf f1.type)) = some y1 ∧ DataW.trod enc P w base spare held n f2.type ((cs.drop f2.offset).take (P.cellsOf f2.type)) = some y2 ∧
      DataW.trod enc P w base spare held n f3.type ((cs.drop f3.offset).take (P.cellsOf f3.type)) = some y3 ∧ DataW.trod enc P w base spare held n f4.type ((cs.drop f4.offset).take (P.cellsOf f4.type)) = some y4 := by
  obtain ⟨xs, n, _, rfl, hl, hlen, hf⟩ := DataW.trod_struct ht h
  match xs, hlen with
  | [y0, y1, y2, y3, y4], _ => exact ⟨y0, y1, y2, y3, y4, n, hl, by simpa using hf 0 f0 rfl, by simpa using hf 1 f1 rfl, by simpa using hf 2 f2 rfl, by simpa using hf 3 f3 rfl, by simpa using hf 4 f4 rfl⟩
set_option maxRecDepth 100000 in
theorem valCells_of (fuel : Nat) (cs : List Value) (y : DataW H × List MemPlace) (h : DataW.trod enc Tryz.prog w base spare held fuel 23 cs = some y) : ∃ v, RVal (Lt w.heap.size) w v cs := by
  obtain ⟨y0, y1, y2, n, _, hl, h0, h1, h2⟩ := trod_struct3 Tryz.underlying23 h
  rw [cellsVal] at hl
  match cs, hl with
  | [c0, c1, c2], _ =>
    simp only [cellsStr, cellsInt, List.drop_zero, List.take_succ_cons, List.take_zero, List.drop_succ_cons] at h0 h1 h2
    obtain ⟨a, e0, _, w0⟩ := DataW.trod_int Tryz.underlying3 h0
    obtain ⟨b, e1, _, w1⟩ := DataW.trod_int Tryz.underlying3 h1
    obtain ⟨s, e2, _, hs⟩ := DataW.trod_string Tryz.underlying9 h2
    injection e0 with e0; injection e1 with e1; injection e2 with e2
    subst e0 e1 e2
    exact ⟨⟨a, b, s⟩, rfl, fit_of_wf w0, fit_of_wf w1, hs⟩
set_option maxRecDepth 100000 in
theorem varCells_of (fuel : Nat) (cs : List Value) (y : DataW H × List MemPlace) (h : DataW.trod enc Tryz.prog w base spare held fuel 29 cs = some y) : ∃ x, RVar (Lt w.heap.size) w x cs := by
  obtain ⟨y0, y1, y2, y3, y4, n, hl, h0, h1, h2, h3, h4⟩ := trod_struct5 Tryz.underlying29 h
  rw [cellsVar] at hl
  match cs, hl with
  | [c0, c1, c2, c3, c4], _ =>
    simp only [cellsStr, cellsInt, cellsStrs, List.drop_zero, List.take_succ_cons, List.take_zero, List.drop_succ_cons] at h0 h1 h2 h3 h4
    obtain ⟨s, e0, _, hs⟩ := DataW.trod_string Tryz.underlying9 h0
    obtain ⟨a, e1, _, w1⟩ := DataW.trod_int Tryz.underlying3 h1
    obtain ⟨b, e2, _, w2⟩ := DataW.trod_int Tryz.underlying3 h2
    obtain ⟨c, e3, _, w3⟩ := DataW.trod_int Tryz.underlying3 h3
    obtain ⟨zs, hz⟩ := SlS.of_trod Tryz.underlying27 Tryz.underlying9 cellsStr h4
    injection e0 with e0; injection e1 with e1; injection e2 with e2; injection e3 with e3
    subst e0 e1 e2 e3
    exact ⟨⟨s, a, b, c, zs⟩, c4, rfl, hs, fit_of_wf w1, fit_of_wf w2, fit_of_wf w3, hz⟩
set_option maxRecDepth 100000 in
theorem val_of {r : Reach} {b0 : Nat} {v : Value} {d : DataW H} {p : List MemPlace} (hv : Value.okWide Tryz.prog w r b0 23 v) (h : DataW.Trod enc Tryz.prog w base spare held 23 v d p) : ∃ x : Val, v = valV x ∧ FitV x := by
  obtain ⟨cs, rfl, hsz⟩ := okWide_struct Tryz.underlying23 hv
  obtain ⟨c0, c1, c2, rfl⟩ := Go.Joins.array3 (hsz.trans cellsVal)
  obtain ⟨fuel, hf⟩ := h
  obtain ⟨x, hx, hfit⟩ := valCells_of fuel _ _ hf
  injection hx with e0 hx; injection hx with e1 hx; injection hx with e2 _
  exact ⟨x, by unfold valV; rw [e0, e1, e2], hfit⟩
set_option maxRecDepth 100000 in
theorem var_of {r : Reach} {b0 : Nat} {v : Value} {d : DataW H} {p : List MemPlace} (hv : Value.okWide Tryz.prog w r b0 29 v) (h : DataW.Trod enc Tryz.prog w base spare held 29 v d p) : ∃ x : Var, IsVar (Lt w.heap.size) w v x := by
  obtain ⟨cs, rfl, hsz⟩ := okWide_struct Tryz.underlying29 hv
  obtain ⟨c0, c1, c2, c3, c4, rfl⟩ := array5 (hsz.trans cellsVar)
  obtain ⟨fuel, hf⟩ := h
  obtain ⟨x, iv, hx, a1, a2, a3, a4, hi⟩ := varCells_of fuel _ _ hf
  injection hx with e0 hx; injection hx with e1 hx; injection hx with e2 hx; injection hx with e3 hx; injection hx with e4 _
  exact ⟨x, iv, by rw [e0, e1, e2, e3, e4], a1, a2, a3, a4, hi⟩
set_option maxRecDepth 100000 in
theorem slice_of {r : Reach} {b0 : Nat} {v : Value} {d : DataW H} {p : List MemPlace} {t e : TypeId} (hs : Tryz.prog.underlying t = some (.slice e)) (hv : Value.okWide Tryz.prog w r b0 t v) (h : DataW.Trod enc Tryz.prog w base spare held t v d p) : ∃ fuel x, DataW.trod enc Tryz.prog w base spare held fuel t [v] = some x := by
  obtain ⟨a, len, cap, rfl⟩ := okWide_slice hs hv
  obtain ⟨fuel, hf⟩ := h
  exact ⟨fuel, (d, p), hf⟩
set_option maxRecDepth 100000 in
theorem vars_of {r : Reach} {b0 : Nat} {v : Value} {d : DataW H} {p : List MemPlace} (hv : Value.okWide Tryz.prog w r b0 24 v) (h : DataW.Trod enc Tryz.prog w base spare held 24 v d p) : ∃ l, SlX (Lt w.heap.size) w v l := by
  obtain ⟨_, _, hy⟩ := slice_of Tryz.underlying24 hv h
  exact Sl.of_trod (R := RVar) (size := 5) Tryz.underlying24 cellsVar (by omega) varCells_of hy
set_option maxRecDepth 100000 in
theorem vals_of {r : Reach} {b0 : Nat} {v : Value} {d : DataW H} {p : List MemPlace} (hv : Value.okWide Tryz.prog w r b0 43 v) (h : DataW.Trod enc Tryz.prog w base spare held 43 v d p) : ∃ l, SlV (Lt w.heap.size) w v l := by
  obtain ⟨_, _, hy⟩ := slice_of Tryz.underlying43 hv h
  exact Sl.of_trod (R := RVal) (size := 3) Tryz.underlying43 cellsVal (by omega) valCells_of hy
end

/-! ### what the listed variables give -/
theorem laid_at {P : Program} {w : World} {n : String} {d : DataW Unit} : ∀ {l : List (String × DataW Unit)} {ps : List MemPlace}, DataW.LaidVars P w l ps → (n, d) ∈ l →
    ∃ g t cs fuel p, P.globalNamed n = some g ∧ (P.globals[g]?).map (·.type) = some t ∧ w.var? P n = some cs ∧ DataW.trod (fun _ => ()) P w 0 (fun _ => true) false fuel t cs.toList = some (d, p) := by
  intro l
  induction l with
  | nil => intro ps _ h; cases h
  | cons a l ih =>
    intro ps h hm
    obtain ⟨n', d'⟩ := a
    obtain ⟨g, t, cs, fuel, p, q, h1, h2, h3, h4, h5, _⟩ := h
    rcases List.mem_cons.1 hm with e | hm
    · injection e with e1 e2
      subst e1 e2
      exact ⟨g, t, cs, fuel, p, h1, h2, h3, h4⟩
    · exact ih h5 hm
theorem tab_same : (Rows.laid_internal_strconv_uint64pow10 : DataW Unit) = Lib.tabData .u64 Lib.pow10Tab := by rfl
theorem gPow : Tryz.prog.globalNamed "internal/strconv.uint64pow10" = some 2 := by kernel_rfl
theorem gSyn : Tryz.prog.globalNamed "strconv.ErrSyntax" = some 0 := by kernel_rfl
theorem gRng : Tryz.prog.globalNamed "strconv.ErrRange" = some 1 := by kernel_rfl
theorem tPow : (Tryz.prog.globals[2]?).map (·.type) = some 164 := by kernel_rfl
theorem tSyn : (Tryz.prog.globals[0]?).map (·.type) = some 81 := by kernel_rfl
theorem tRng : (Tryz.prog.globals[1]?).map (·.type) = some 81 := by kernel_rfl
theorem err_of {P : Program} {w : World} {n : String} {g : Nat} {t : TypeId} {ms : Array (String × TypeId)} {name : String} {d : DataW Unit} {l : List (String × DataW Unit)} {ps : List MemPlace} (hl : DataW.LaidVars P w l ps) (hm : (n, .iface name d) ∈ l)
    (hg : P.globalNamed n = some g) (ht : (P.globals[g]?).map (·.type) = some t) (hi : P.underlying t = some (.interface ms)) : ∃ tp p, w.var? P n = some #[.iface tp p] := by
  obtain ⟨g', t', cs, fuel, p, h1, h2, h3, h4⟩ := laid_at hl hm
  obtain rfl := Option.some.inj (hg.symm.trans h1)
  obtain rfl := Option.some.inj (ht.symm.trans h2)
  obtain ⟨_, u, v, hcs, _⟩ := iface_of_trod hi h4
  refine ⟨u, v, ?_⟩
  rw [h3]
  cases cs
  simp_all
theorem tab_of {P : Program} {w : World} {n : String} {g : Nat} {t e : TypeId} {m : Nat} {k : IntKind} {zs : List Int} {l : List (String × DataW Unit)} {ps : List MemPlace} (hl : DataW.LaidVars P w l ps) (hm : (n, Lib.tabData k zs) ∈ l)
    (hg : P.globalNamed n = some g) (hty : (P.globals[g]?).map (·.type) = some t) (ht : P.underlying t = some (.array m e)) (he : P.underlying e = some (.int k)) (hce : P.cellsOf e = 1) (hct : P.cellsOf t = m) : Lib.TabIs P w n k zs := by
  obtain ⟨g', t', cs, fuel, p, h1, h2, h3, h4⟩ := laid_at hl hm
  obtain rfl := Option.some.inj (hg.symm.trans h1)
  obtain rfl := Option.some.inj (hty.symm.trans h2)
  unfold Lib.TabIs
  rw [h3, ← Lib.cells_of_tab ht he hce hct h4]
theorem laid_list : Rows.valueFormsRow.laid = [("math/bits.deBruijn32tab", Rows.laid_math_bits_deBruijn32tab), ("math/bits.deBruijn64tab", Rows.laid_math_bits_deBruijn64tab), ("internal/strconv.uint64pow10", Rows.laid_internal_strconv_uint64pow10), ("strconv.ErrRange", Rows.laid_strconv_ErrRange), ("strconv.ErrSyntax", Rows.laid_strconv_ErrSyntax)] := rfl
theorem cellsU64 : Tryz.prog.cellsOf 123 = 1 := by kernel_rfl
theorem cellsTab : Tryz.prog.cellsOf 164 = 20 := by kernel_rfl
theorem uTab : Tryz.prog.underlying 164 = some (.array 20 123) := by kernel_rfl
theorem uU64 : Tryz.prog.underlying 123 = some (.int .u64) := by kernel_rfl
theorem met_plain {w : World} (h : laidMetH Tryz.prog Rows.valueFormsRow.laid w) : laidMet Tryz.prog Rows.valueFormsRow.laid w := h
theorem amb_of {w : World} (h : laidMetH Tryz.prog Rows.valueFormsRow.laid w) : Amb w := by
  obtain ⟨ps, hl, _⟩ := met_plain h
  rw [laid_list] at hl
  refine ⟨tab_of hl (by rw [← tab_same]; simp only [List.mem_cons, true_or, or_true]) gPow tPow uTab uU64 cellsU64 cellsTab, ?_, ?_⟩
  · exact err_of (name := "*errors.errorString") hl (.tail _ (.tail _ (.tail _ (.tail _ (.head _))))) gSyn tSyn Tryz.underlying81
  · exact err_of (name := "*errors.errorString") hl (.tail _ (.tail _ (.tail _ (.head _)))) gRng tRng Tryz.underlying81
end Go.Proofs.YtchfmjociflgfaaGreatDoor
