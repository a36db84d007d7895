/- Texts of this seat, merged. -/
import Derived.Test.YtoalecalahkblaaGreatDoorRows
import Derived.Test.YtoalecalahkblaaGreatDoorTie
import Derived.Test.YtoalecalahkblaaGreatDoorCards
import Derived.SevenTiedAt
import Derived.LaidLaws
import Derived.Lib.LaidTab
import Derived.Lay
import Derived.MakeChecks
import Derived.Shelf.Vars
import Derived.Test.YtoalecalahkblaaGreatDoorIx01
import Derived.Test.YtoalecalahkblaaGreatDoorIx02
import Derived.Test.YtoalecalahkblaaGreatDoorIx03
import Derived.Test.YtoalecalahkblaaGreatDoorIx04
import Derived.Test.YtoalecalahkblaaGreatDoorIx05
import Derived.Test.YtoalecalahkblaaGreatDoorIx06
import Derived.Test.YtoalecalahkblaaGreatDoorIx07
import Derived.Test.YtoalecalahkblaaGreatDoorIx08
import Derived.Test.YtoalecalahkblaaGreatDoorIx09
import Derived.Test.YtoalecalahkblaaGreatDoorIx10
import Derived.Test.YtoalecalahkblaaGreatDoorIx11
import Derived.Test.YtoalecalahkblaaGreatDoorIx12
import Derived.Test.YtoalecalahkblaaGreatDoorIx13
import Derived.Test.YtoalecalahkblaaGreatDoorIx14
import Derived.Test.YtoalecalahkblaaGreatDoorIx15
set_option linter.all false
set_option linter.all false
namespace Go.Proofs.YtoalecalahkblaaGreatDoor
open Go.ChangeShapes Go.WideShapes Go.ChangeAt Go.RowKit Go.Deep
section
variable {H : Type} {enc : TypeId × Value → H} {P : Program} {w : World} {base : Nat} {spare : Nat → Bool} {held : Bool}
end
theorem own : ownKnob Tryz.prog.godebug = none := by kernel_rfl
theorem laidOut : laidOutB Tryz.prog = true := by kernel_rfl
theorem door_met (os : Os) (args : Array Value) : laidMetH Tryz.prog Rows.importsWritesRow.laid ((World.laidAll Tryz.prog os Rows.importsWritesRow.laid).forCall (fun _ _ => 0) ⟨#[], args, []⟩).memory := by
  rw [MakeChecks.laidMetH_plain _ _ _ (by kernel_rfl)]
  exact laidMet_laidAll _ (by kernel_rfl) (by kernel_rfl)
theorem stays {H : Type} {enc : TypeId × Value → H} {t : TypeId} (hr : Tryz.prog.readableRec t = true) (hrow : t < Tryz.prog.types.size) {W W' : World} {v : Value} {d : DataW H} {ps : List MemPlace} {sp : Nat → Bool}
    (h : DataW.Trod enc Tryz.prog W 0 (fun _ => true) true t v d ps) (hb : Below W.heap.size W W') (hlt : ∀ x ∈ ps, x.block < W.heap.size) (hsp : ∀ x ∈ ps, sp x.block = true) : DataW.Trod enc Tryz.prog W' 0 sp true t v d ps :=
  WideElems.Trod_stays laidOut hr hrow h (fun x hx => hb.same (hlt x hx)) hsp
theorem laid_at {P : Program} {w : World} {n : String} {d : DataW Unit} : ∀ {l : List (String × DataW Unit)} {ps : List MemPlace}, DataW.LaidVars P w l ps → (n, d) ∈ l →
    ∃ g t cs fuel p, P.globalNamed n = some g ∧ (P.globals[g]?).map (·.type) = some t ∧ w.var? P n = some cs ∧ DataW.trod (fun _ => ()) P w 0 (fun _ => true) false fuel t cs.toList = some (d, p) := by
  intro l
  induction l with
  | nil => intro ps _ h; cases h
  | cons a l ih =>
    intro ps h hm
    obtain ⟨n', d'⟩ := a
    obtain ⟨g, t, cs, fuel, p, q, h1, h2, h3, h4, h5, _⟩ := h
    rcases List.mem_cons.1 hm with e | hm
    · injection e with e1 e2
      subst e1 e2
      exact ⟨g, t, cs, fuel, p, h1, h2, h3, h4⟩
    · exact ih h5 hm
theorem tab_same : (Rows.laid_internal_strconv_uint64pow10 : DataW Unit) = Lib.tabData .u64 Lib.pow10Tab := by rfl
theorem gPow : Tryz.prog.globalNamed "internal/strconv.uint64pow10" = some 5 := by kernel_rfl
theorem gSyn : Tryz.prog.globalNamed "strconv.ErrSyntax" = some 3 := by kernel_rfl
theorem gRng : Tryz.prog.globalNamed "strconv.ErrRange" = some 4 := by kernel_rfl
theorem tPow : (Tryz.prog.globals[5]?).map (·.type) = some 240 := by kernel_rfl
theorem tSyn : (Tryz.prog.globals[3]?).map (·.type) = some 77 := by kernel_rfl
theorem tRng : (Tryz.prog.globals[4]?).map (·.type) = some 77 := by kernel_rfl
theorem err_of {P : Program} {w : World} {n : String} {g : Nat} {t : TypeId} {ms : Array (String × TypeId)} {name : String} {d : DataW Unit} {l : List (String × DataW Unit)} {ps : List MemPlace} (hl : DataW.LaidVars P w l ps) (hm : (n, .iface name d) ∈ l)
    (hg : P.globalNamed n = some g) (ht : (P.globals[g]?).map (·.type) = some t) (hi : P.underlying t = some (.interface ms)) : ∃ tp p, w.var? P n = some #[.iface tp p] := by
  obtain ⟨g', t', cs, fuel, p, h1, h2, h3, h4⟩ := laid_at hl hm
  obtain rfl := Option.some.inj (hg.symm.trans h1)
  obtain rfl := Option.some.inj (ht.symm.trans h2)
  obtain ⟨_, u, v, hcs, _⟩ := iface_of_trod hi h4
  refine ⟨u, v, ?_⟩
  rw [h3]
  cases cs
  simp_all
theorem tab_of {P : Program} {w : World} {n : String} {g : Nat} {t e : TypeId} {m : Nat} {k : IntKind} {zs : List Int} {l : List (String × DataW Unit)} {ps : List MemPlace} (hl : DataW.LaidVars P w l ps) (hm : (n, Lib.tabData k zs) ∈ l)
    (hg : P.globalNamed n = some g) (hty : (P.globals[g]?).map (·.type) = some t) (ht : P.underlying t = some (.array m e)) (he : P.underlying e = some (.int k)) (hce : P.cellsOf e = 1) (hct : P.cellsOf t = m) : Lib.TabIs P w n k zs := by
  obtain ⟨g', t', cs, fuel, p, h1, h2, h3, h4⟩ := laid_at hl hm
  obtain rfl := Option.some.inj (hg.symm.trans h1)
  obtain rfl := Option.some.inj (hty.symm.trans h2)
  unfold Lib.TabIs
  rw [h3, ← Lib.cells_of_tab ht he hce hct h4]
theorem laid_list : Rows.importsWritesRow.laid = [("math/bits.deBruijn32tab", Rows.laid_math_bits_deBruijn32tab), ("math/bits.deBruijn64tab", Rows.laid_math_bits_deBruijn64tab), ("internal/strconv.uint64pow10", Rows.laid_internal_strconv_uint64pow10), ("unicode/utf8.acceptRanges", Rows.laid_unicode_utf8_acceptRanges), ("strconv.ErrRange", Rows.laid_strconv_ErrRange), ("strconv.ErrSyntax", Rows.laid_strconv_ErrSyntax), ("unicode/utf8.first", Rows.laid_unicode_utf8_first)] := rfl
theorem cellsU64 : Tryz.prog.cellsOf 192 = 1 := by kernel_rfl
theorem cellsTab : Tryz.prog.cellsOf 240 = 20 := by kernel_rfl
theorem uTab : Tryz.prog.underlying 240 = some (.array 20 192) := by kernel_rfl
theorem uU64 : Tryz.prog.underlying 192 = some (.int .u64) := by kernel_rfl
theorem met_plain {w : World} (h : laidMetH Tryz.prog Rows.importsWritesRow.laid w) : laidMet Tryz.prog Rows.importsWritesRow.laid w := by
  rw [MakeChecks.laidMetH_plain _ _ _ (by kernel_rfl)] at h
  exact h
theorem amb_of {w : World} (h : laidMetH Tryz.prog Rows.importsWritesRow.laid w) (hsh : w.ShapedOpen Tryz.prog) : AmbP w := by
  obtain ⟨ps, hl, _⟩ := met_plain h
  rw [laid_list] at hl
  refine ⟨tab_of hl (by rw [← tab_same]; simp only [List.mem_cons, true_or, or_true]) gPow tPow uTab uU64 cellsU64 cellsTab, ?_, ?_, ?_⟩
  · exact err_of (name := "*errors.errorString") hl (.tail _ (.tail _ (.tail _ (.tail _ (.tail _ (.head _)))))) gSyn tSyn Tryz.underlying77
  · exact err_of (name := "*errors.errorString") hl (.tail _ (.tail _ (.tail _ (.tail _ (.head _))))) gRng tRng Tryz.underlying77
  · exact cell_of_shapedOpen_int (zero := #[.int .i64 0]) (t := 3) hsh (of_decide_eq_true (by kernel_rfl)) (by kernel_rfl) rfl (by kernel_rfl) (by kernel_rfl) Tryz.underlying3
theorem handed_shaped {H : Type} {enc : TypeId × Value → H} {a : Assume} {C : Checked} {os : Os} {f : FuncId} {fn : Func} {s : ChangeSpec} {conds : List PathCond} {apart fresh handsOn again : Bool} {X : World → Array Value → Prop}
    (hX : ∀ (w w' : World) (args : Array Value), w.heap = w'.heap → X w args → X w' args)
    (own : ownKnob C.prog.godebug = none) (started : os.Started) (noInit : C.prog.inits.idxOf? f = none) (hfn : C.prog.funcs[f]? = some fn)
    (witness : ∃ (w : World) (tape : Tape) (i : Input), w.os = os ∧ (w.forCall tape i).Shaped C.prog ∧ i.vars = [] ∧ Input.okWide C.prog (w.forCall tape i) .any w.heap.size f i ∧
      ((s.pre enc C.prog fn conds apart (w.forCall tape i).memory i.args ∧ X (w.forCall tape i).memory i.args) ∧ sizedMet enc C.prog fn (OpenSpec.ofChange s) apart (w.forCall tape i).memory i.args) ∧ a.holds C.prog (lone (Frame.enter C.prog f i.args .normal) [] (w.forCall tape i)))
    (contract : ∀ (W : World) (base : Nat) (args : Array Value) (ds gs : List (DataW H)) (before : List MemPlace),
      (∀ (j : Nat) t v, fn.params[j]? = some t → args[j]? = some v → Value.okWide C.prog W .any base t v) →
      DataW.Whole enc C.prog fn.params.toList s.vars apart W args.toList ds gs before → W.ShapedOpen C.prog → X W args →
      Calls C.prog f args W fun e W' => ∃ v, e = .returned v ∧ s.post enc C.prog fn apart fresh handsOn again W args v W') :
    ReturnsInHanded a C os f .any (fun w args => (s.pre enc C.prog fn conds apart w args ∧ X w args) ∧ sizedMet enc C.prog fn (OpenSpec.ofChange s) apart w args) (s.post enc C.prog fn apart fresh handsOn again) := by
  refine returnsInHanded_of_calls own started noInit witness ?_
  intro w tape i _ hsh _ hok hpre hholds
  obtain ⟨_, _, _, fn', hfn', _, _, _, _, hval⟩ := hok
  have e : fn' = fn := Option.some.inj (hfn'.symm.trans hfn)
  subst e
  obtain ⟨⟨⟨ds, gs, before, hw, hc⟩, hx⟩, hz⟩ := hpre
  have hw' := DataW.Whole.of_heap (w' := w.forCall tape i) (by rfl) hw
  refine (contract (w.forCall tape i) w.heap.size i.args ds gs before hval hw' hsh (hX _ _ _ (by rfl) hx)).mono fun e W' ⟨v, he, hp⟩ => ?_
  subst he
  exact ChangeSpec.post_blind hp
section
variable {H : Type} {enc : TypeId × Value → H} {w : World} {base : Nat} {spare : Nat → Bool} {held : Bool}
end
theorem byte_of_wf {n : Int} (h : (Lit.int .u8 n).wf = true) : ∃ c : UInt8, n = (c.toNat : Int) := by
  have h' : decide ((0 : Int) ≤ n) = true ∧ decide (n ≤ (255 : Int)) = true := by
    rw [← Bool.and_eq_true]; exact h
  obtain ⟨h1, h2⟩ := h'
  have h1 := of_decide_eq_true h1
  have h2 := of_decide_eq_true h2
  exact ⟨UInt8.ofNat n.toNat, by rw [UInt8.toNat_ofNat']; omega⟩
end Go.Proofs.YtoalecalahkblaaGreatDoor

set_option linter.all false
namespace Go.Proofs.YtoalecalahkblaaGreatDoor
open Go.ChangeShapes Go.WideShapes Go.ChangeAt Go.RowKit Go.Deep
theorem readMp : Tryz.prog.readableRec 33 = true := by kernel_rfl
theorem rowMp : 33 < Tryz.prog.types.size := of_decide_eq_true (by kernel_rfl)
theorem cellsMp : Tryz.prog.cellsOf 33 = 8 := by kernel_rfl
theorem cellsInts : Tryz.prog.cellsOf 31 = 1 := by kernel_rfl
theorem cellsU8 : Tryz.prog.cellsOf 5 = 1 := by kernel_rfl
theorem readLog : Tryz.prog.readableRec 38 = true := by kernel_rfl
theorem rowLog : 38 < Tryz.prog.types.size := of_decide_eq_true (by kernel_rfl)
theorem cellsInt : Tryz.prog.cellsOf 3 = 1 := by kernel_rfl
theorem cellsStr : Tryz.prog.cellsOf 9 = 1 := by kernel_rfl
theorem cellsVal : Tryz.prog.cellsOf 121 = 3 := by kernel_rfl
theorem cellsFld : Tryz.prog.cellsOf 123 = 4 := by kernel_rfl
theorem cellsFlds : Tryz.prog.cellsOf 67 = 1 := by kernel_rfl
theorem cellsEv : Tryz.prog.cellsOf 69 = 6 := by kernel_rfl
theorem cellsEvs : Tryz.prog.cellsOf 36 = 1 := by kernel_rfl
theorem cellsLog : Tryz.prog.cellsOf 38 = 1 := by kernel_rfl
instance : Inhabited Fld := ⟨⟨emptyS, noV⟩⟩
instance : Inhabited Ev := ⟨⟨emptyS, emptyS, emptyS, 0, 0, []⟩⟩
section
variable {H : Type} {enc : TypeId × Value → H} {w : World} {base : Nat} {spare : Nat → Bool} {held : Bool}
theorem trod_struct6 {P : Program} {t : TypeId} {f0 f1 f2 f3 f4 f5 : Field} {fuel : Nat} {cs : List Value} {x : DataW H × List MemPlace} (ht : P.underlying t = some (.struct #[f0, f1, f2, f3, f4, f5])) (h : DataW.trod enc P w base spare held fuel t cs = some x) :
    ∃ y0 y1 y2 y3 y4 y5 n, cs.length = P.cellsOf t ∧ DataW.trod enc P w base spare held n f0.type ((cs.drop f0.offset).take (P.cellsOf f0.type)) = some y0 ∧
      DataW.trod enc P w base spare held n f1.type ((cs.drop f1.offset).take (P.cellsOf f1.type)) = some y1 ∧ DataW.trod enc P w base spare held n f2.type ((cs.drop f2.offset).take (P.cellsOf f2.type)) = some y2 ∧
      DataW.trod enc P w base spare held n f3.type ((cs.drop f3.offset).take (P.cellsOf f3.type)) = some y3 ∧ DataW.trod enc P w base spare held n f4.type ((cs.drop f4.offset).take (P.cellsOf f4.type)) = some y4 ∧
      DataW.trod enc P w base spare held n f5.type ((cs.drop f5.offset).take (P.cellsOf f5.type)) = some y5 := by
  obtain ⟨xs, n, _, rfl, hl, hlen, hf⟩ := DataW.trod_struct ht h
  match xs, hlen with
  | [y0, y1, y2, y3, y4, y5], _ => exact ⟨y0, y1, y2, y3, y4, y5, n, hl, by simpa using hf 0 f0 rfl, by simpa using hf 1 f1 rfl, by simpa using hf 2 f2 rfl, by simpa using hf 3 f3 rfl, by simpa using hf 4 f4 rfl, by simpa using hf 5 f5 rfl⟩
theorem trod_struct1 {P : Program} {t : TypeId} {f0 : Field} {fuel : Nat} {cs : List Value} {x : DataW H × List MemPlace} (ht : P.underlying t = some (.struct #[f0])) (h : DataW.trod enc P w base spare held fuel t cs = some x) :
    ∃ y0 n, cs.length = P.cellsOf t ∧ DataW.trod enc P w base spare held n f0.type ((cs.drop f0.offset).take (P.cellsOf f0.type)) = some y0 := by
  obtain ⟨xs, n, _, rfl, hl, hlen, hf⟩ := DataW.trod_struct ht h
  match xs, hlen with
  | [y0], _ => exact ⟨y0, n, hl, by simpa using hf 0 f0 rfl⟩
theorem trod_struct2 {P : Program} {t : TypeId} {f0 f1 : Field} {fuel : Nat} {cs : List Value} {x : DataW H × List MemPlace} (ht : P.underlying t = some (.struct #[f0, f1])) (h : DataW.trod enc P w base spare held fuel t cs = some x) :
    ∃ y0 y1 n, cs.length = P.cellsOf t ∧ DataW.trod enc P w base spare held n f0.type ((cs.drop f0.offset).take (P.cellsOf f0.type)) = some y0 ∧ DataW.trod enc P w base spare held n f1.type ((cs.drop f1.offset).take (P.cellsOf f1.type)) = some y1 := by
  obtain ⟨xs, n, _, rfl, hl, hlen, hf⟩ := DataW.trod_struct ht h
  match xs, hlen with
  | [y0, y1], _ => exact ⟨y0, y1, n, hl, by simpa using hf 0 f0 rfl, by simpa using hf 1 f1 rfl⟩
theorem trod_struct3r {P : Program} {t : TypeId} {f0 f1 f2 : Field} {fuel : Nat} {cs : List Value} {x : DataW H × List MemPlace} (ht : P.underlying t = some (.struct #[f0, f1, f2])) (h : DataW.trod enc P w base spare held fuel t cs = some x) :
    ∃ y0 y1 y2 n, cs.length = P.cellsOf t ∧ DataW.trod enc P w base spare held n f0.type ((cs.drop f0.offset).take (P.cellsOf f0.type)) = some y0 ∧ DataW.trod enc P w base spare held n f1.type ((cs.drop f1.offset).take (P.cellsOf f1.type)) = some y1 ∧
      DataW.trod enc P w base spare held n f2.type ((cs.drop f2.offset).take (P.cellsOf f2.type)) = some y2 := by
  obtain ⟨xs, n, _, rfl, hl, hlen, hf⟩ := DataW.trod_struct ht h
  match xs, hlen with
  | [y0, y1, y2], _ => exact ⟨y0, y1, y2, n, hl, by simpa using hf 0 f0 rfl, by simpa using hf 1 f1 rfl, by simpa using hf 2 f2 rfl⟩
set_option maxRecDepth 100000 in
theorem valCells_of (fuel : Nat) (cs : List Value) (y : DataW H × List MemPlace) (h : DataW.trod enc Tryz.prog w base spare held fuel 121 cs = some y) : ∃ v, RVal (Lt w.heap.size) w v cs := by
  obtain ⟨y0, y1, y2, n, hl, h0, h1, h2⟩ := trod_struct3r Tryz.underlying121 h
  rw [cellsVal] at hl
  match cs, hl with
  | [c0, c1, c2], _ =>
    simp only [cellsStr, cellsInt, List.drop_zero, List.take_succ_cons, List.take_zero, List.drop_succ_cons] at h0 h1 h2
    obtain ⟨a, e0, _, w0⟩ := DataW.trod_int Tryz.underlying3 h0
    obtain ⟨b, e1, _, w1⟩ := DataW.trod_int Tryz.underlying3 h1
    obtain ⟨s, e2, _, hs⟩ := DataW.trod_string Tryz.underlying9 h2
    injection e0 with e0; injection e1 with e1; injection e2 with e2
    subst e0 e1 e2
    exact ⟨⟨a, b, s⟩, rfl, fit_of_wf w0, fit_of_wf w1, hs⟩
set_option maxRecDepth 100000 in
theorem fldCells_of (fuel : Nat) (cs : List Value) (y : DataW H × List MemPlace) (h : DataW.trod enc Tryz.prog w base spare held fuel 123 cs = some y) : ∃ v, RFld (Lt w.heap.size) w v cs := by
  obtain ⟨y0, y1, n, hl, h0, h1⟩ := trod_struct2 Tryz.underlying123 h
  rw [cellsFld] at hl
  match cs, hl with
  | [c0, c1, c2, c3], _ =>
    simp only [cellsStr, cellsVal, List.drop_zero, List.take_succ_cons, List.take_zero, List.drop_succ_cons] at h0 h1
    obtain ⟨s, e0, _, hs⟩ := DataW.trod_string Tryz.underlying9 h0
    obtain ⟨v, ev, hfv⟩ := valCells_of _ _ _ h1
    injection e0 with e0
    injection ev with e1 ev; injection ev with e2 ev; injection ev with e3 ev
    subst e0 e1 e2 e3
    exact ⟨⟨s, v⟩, rfl, hs, hfv⟩
set_option maxRecDepth 100000 in
theorem evCells_of (fuel : Nat) (cs : List Value) (y : DataW H × List MemPlace) (h : DataW.trod enc Tryz.prog w base spare held fuel 69 cs = some y) : ∃ v, REv (Lt w.heap.size) w v cs := by
  obtain ⟨y0, y1, y2, y3, y4, y5, n, hl, h0, h1, h2, h3, h4, h5⟩ := trod_struct6 Tryz.underlying69 h
  rw [cellsEv] at hl
  match cs, hl with
  | [c0, c1, c2, c3, c4, c5], _ =>
    simp only [cellsStr, cellsInt, cellsFlds, List.drop_zero, List.take_succ_cons, List.take_zero, List.drop_succ_cons] at h0 h1 h2 h3 h4 h5
    obtain ⟨s0, e0, _, hs0⟩ := DataW.trod_string Tryz.underlying9 h0
    obtain ⟨s1, e1, _, hs1⟩ := DataW.trod_string Tryz.underlying9 h1
    obtain ⟨s2, e2, _, hs2⟩ := DataW.trod_string Tryz.underlying9 h2
    obtain ⟨a, e3, _, w3⟩ := DataW.trod_int Tryz.underlying3 h3
    obtain ⟨b, e4, _, w4⟩ := DataW.trod_int Tryz.underlying3 h4
    obtain ⟨zs, hz⟩ := Sl.of_trod (R := RFld) (size := 4) Tryz.underlying67 cellsFld (by omega) fldCells_of h5
    injection e0 with e0; injection e1 with e1; injection e2 with e2; injection e3 with e3; injection e4 with e4
    subst e0 e1 e2 e3 e4
    exact ⟨⟨s0, s1, s2, a, b, zs⟩, c5, rfl, ⟨hs0, hs1, hs2, fit_of_wf w3, fit_of_wf w4⟩, hz⟩
set_option maxRecDepth 100000 in
theorem log_of {r : Go.Reach} {b0 : Nat} {v : Value} {d : DataW H} {p : List MemPlace} (hv : Value.okWide Tryz.prog w r b0 38 v) (h : DataW.Trod enc Tryz.prog w base spare held 38 v d p) : ∃ x : List Ev, IsLog (Lt w.heap.size) w v x := by
  obtain ⟨cs, rfl, hsz⟩ := okWide_struct Tryz.underlying38 hv
  rw [cellsLog] at hsz
  obtain ⟨l⟩ := cs
  match l, hsz with
  | [c0], _ =>
    obtain ⟨fuel, hf⟩ := h
    obtain ⟨y0, n, hl, h0⟩ := trod_struct1 Tryz.underlying38 hf
    simp only [Value.cells, cellsEvs, List.drop_zero, List.take_succ_cons, List.take_zero, List.drop_succ_cons] at h0
    obtain ⟨zs, hz⟩ := Sl.of_trod (R := REv) (size := 6) Tryz.underlying36 cellsEv (by omega) evCells_of h0
    exact ⟨zs, _, rfl, hz⟩
theorem trod_struct8 {P : Program} {t : TypeId} {f0 f1 f2 f3 f4 f5 f6 f7 : Field} {fuel : Nat} {cs : List Value} {x : DataW H × List MemPlace} (ht : P.underlying t = some (.struct #[f0, f1, f2, f3, f4, f5, f6, f7])) (h : DataW.trod enc P w base spare held fuel t cs = some x) :
    ∃ y0 y1 y2 y3 y4 y5 y6 y7 n, cs.length = P.cellsOf t ∧ DataW.trod enc P w base spare held n f0.type ((cs.drop f0.offset).take (P.cellsOf f0.type)) = some y0 ∧ DataW.trod enc P w base spare held n f1.type ((cs.drop f1.offset).take (P.cellsOf f1.type)) = some y1 ∧ DataW.trod enc P w base spare held n f2.type ((cs.drop f2.offset).take (P.cellsOf f2.type)) = some y2 ∧ DataW.trod enc P w base spare held n f3.type ((cs.drop f3.offset).take (P.cellsOf f3.type)) = some y3 ∧ DataW.trod enc P w base spare held n f4.type ((cs.drop f4.offset).take (P.cellsOf f4.type)) = some y4 ∧ DataW.trod enc P w base spare held n f5.type ((cs.drop f5.offset).take (P.cellsOf f5.type)) = some y5 ∧ DataW.trod enc P w base spare held n f6.type ((cs.drop f6.offset).take (P.cellsOf f6.type)) = some y6 ∧ DataW.trod enc P w base spare held n f7.type ((cs.drop f7.offset).take (P.cellsOf f7.type)) = some y7 := by
  obtain ⟨xs, n, _, rfl, hl, hlen, hf⟩ := DataW.trod_struct ht h
  match xs, hlen with
  | [y0, y1, y2, y3, y4, y5, y6, y7], _ => exact ⟨y0, y1, y2, y3, y4, y5, y6, y7, n, hl, by simpa using hf 0 f0 rfl, by simpa using hf 1 f1 rfl, by simpa using hf 2 f2 rfl, by simpa using hf 3 f3 rfl, by simpa using hf 4 f4 rfl, by simpa using hf 5 f5 rfl, by simpa using hf 6 f6 rfl, by simpa using hf 7 f7 rfl⟩
set_option maxRecDepth 100000 in
theorem intsM_of {fuel : Nat} {v : Value} {x : DataW H × List MemPlace} (h : DataW.trod enc Tryz.prog w base spare held fuel 31 [v] = some x) : ∃ zs, SlI (Lt w.heap.size) w v zs :=
  SlI.of_trod Tryz.underlying31 Tryz.underlying3 cellsInt h
set_option maxRecDepth 100000 in
theorem mp_of {r : Go.Reach} {b0 : Nat} {v : Value} {d : DataW H} {p : List MemPlace} (hv : Value.okWide Tryz.prog w r b0 33 v) (h : DataW.Trod enc Tryz.prog w base spare held 33 v d p) : ∃ x : Mp, IsMp (Lt w.heap.size) w v x := by
  obtain ⟨cs, rfl, hsz⟩ := okWide_struct Tryz.underlying33 hv
  rw [cellsMp] at hsz
  obtain ⟨l⟩ := cs
  match l, hsz with
  | [c0, c1, c2, c3, c4, c5, c6, c7], _ =>
    obtain ⟨fuel, hf⟩ := h
    obtain ⟨y0, y1, y2, y3, y4, y5, y6, y7, n, hl, h0, h1, h2, h3, h4, h5, h6, h7⟩ := trod_struct8 Tryz.underlying33 hf
    simp only [Value.cells, cellsInt, cellsInts, cellsU8, List.drop_zero, List.take_succ_cons, List.take_zero, List.drop_succ_cons] at h0 h1 h2 h3 h4 h5 h6 h7
    obtain ⟨a0, e0, _, w0⟩ := DataW.trod_int Tryz.underlying3 h0
    obtain ⟨a1, e1, _, w1⟩ := DataW.trod_int Tryz.underlying3 h1
    obtain ⟨a2, e2, _, w2⟩ := DataW.trod_int Tryz.underlying3 h2
    obtain ⟨a3, e3, _, w3⟩ := DataW.trod_int Tryz.underlying3 h3
    obtain ⟨a4, e4, _, w4⟩ := DataW.trod_int Tryz.underlying3 h4
    obtain ⟨ds, hds⟩ := intsM_of h5
    obtain ⟨ks, hks⟩ := intsM_of h6
    obtain ⟨a7, e7, _, w7⟩ := DataW.trod_int Tryz.underlying5 h7
    obtain ⟨c, rfl⟩ := byte_of_wf w7
    injection e0 with e0; injection e1 with e1; injection e2 with e2; injection e3 with e3; injection e4 with e4; injection e7 with e7
    subst e0 e1 e2 e3 e4 e7
    exact ⟨⟨a0, a1, a2, a3, a4, ds, ks, c⟩, c5, c6, rfl, ⟨fit_of_wf w0, fit_of_wf w1, fit_of_wf w2, fit_of_wf w3, fit_of_wf w4⟩, hds, hks⟩
end
end Go.Proofs.YtoalecalahkblaaGreatDoor

set_option linter.all false
namespace Go.Proofs.YtoalecalahkblaaGreatDoor
open Go.RowKit
set_option maxHeartbeats 4000000 in
set_option maxRecDepth 100000 in
theorem importsExports_law (l : List Ev) (m : Mp) (u um : Value) (w : World) (h : IsLog (Lt w.heap.size) w u l) (hm : IsMp (Lt w.heap.size) w um m) (ha : AmbP w) :
    Calls Tryz.prog 8 #[u, um] w fun e w' => e = .returned (.bool true) ∧ Below w.heap.size w w' := by
  have HAW := Lib.hid (fun W hW => awake_any W hW)
  have HLOG := Lib.hid h
  have HMP := Lib.hid hm
  have HAM := Lib.hid ha
  have HHV := Lib.hid (fun W hW => heavy_any u l W hW)
  have HGT := Lib.hid (fun W hW => great_any um m W hW)
  have HP := Lib.hid (fun W h1 h2 h3 h4 h5 => export_any u um l m W h1 h2 h3 h4 h5)
  have HR := Lib.hid (fun W h1 h2 h3 h4 => export_ref u um l m W h1 h2 h3 h4)
  obtain ⟨ev, rfl, hs⟩ := h
  obtain ⟨A, cl, rfl, _, _, hs⟩ := hs.open_
  obtain ⟨mv, kv, rfl, _, hmd, hmk⟩ := hm
  obtain ⟨Am, cm, rfl, _, _, hmd⟩ := hmd.open_
  obtain ⟨Ak, ck, rfl, _, _, hmk⟩ := hmk.open_
  unfold mpV at HMP HGT HP HR ⊢
  obtain ⟨z, hz⟩ : ∃ z, (m.sep.toNat : Int) = z := ⟨_, rfl⟩
  rw [hz] at HMP HGT HP HR ⊢
  obtain ⟨q1, hq1⟩ : ∃ q, heavyB l = q := ⟨_, rfl⟩
  obtain ⟨q2, hq2⟩ : ∃ q, greatB m = q := ⟨_, rfl⟩
  have HQ1 := Lib.hid hq1
  have HQ2 := Lib.hid hq2
  rw [hq1] at HHV
  rw [hq2] at HGT
  obtain ⟨p, hp⟩ : ∃ p, exportE vtN l m = p := ⟨_, rfl⟩
  rw [hp] at HP HR
  obtain ⟨x, k⟩ := p
  obtain ⟨xs, hxs⟩ : ∃ xs, bsOf x = xs := ⟨_, rfl⟩
  have HP : Hid (∀ W, IsLog (Lt W.heap.size) W (.agg #[.slice A l.length cl]) l → IsMp (Lt W.heap.size) W (.agg #[.int .i64 m.cas, .int .i64 m.act, .int .i64 m.res, .int .i64 m.life, .int .i64 m.time, .slice Am m.data.length cm, .slice Ak m.kinds.length ck, .int .u8 z]) m → heavyB l = false → greatB m = false → AmbP W → Calls Tryz.prog 34 #[.agg #[.slice A l.length cl], .agg #[.int .i64 m.cas, .int .i64 m.act, .int .i64 m.res, .int .i64 m.life, .int .i64 m.time, .slice Am m.data.length cm, .slice Ak m.kinds.length ck, .int .u8 z]] W fun e w' => e = .returned (.tuple #[.string xs, .int .i64 k]) ∧ Below W.heap.size W w') := by
    show ∀ W, _
    rw [← hxs]
    exact HP.out
  have HR : Hid (∀ W, IsLog (Lt W.heap.size) W (.agg #[.slice A l.length cl]) l → IsMp (Lt W.heap.size) W (.agg #[.int .i64 m.cas, .int .i64 m.act, .int .i64 m.res, .int .i64 m.life, .int .i64 m.time, .slice Am m.data.length cm, .slice Ak m.kinds.length ck, .int .u8 z]) m → heavyB l = false → greatB m = false → Calls Tryz.prog 35 #[.agg #[.slice A l.length cl], .agg #[.int .i64 m.cas, .int .i64 m.act, .int .i64 m.res, .int .i64 m.life, .int .i64 m.time, .slice Am m.data.length cm, .slice Ak m.kinds.length ck, .int .u8 z]] W fun e w' => e = .returned (.tuple #[.string xs, .int .i64 k]) ∧ Below W.heap.size W w') := by
    show ∀ W, _
    rw [← hxs]
    exact HR.out
  have hb1 := bone w (.cells #[.slice A l.length cl] 38)
  have k1 := Blk.new w 38 #[.slice A l.length cl]
  clear hs hmd hmk hz hp hq1 hq2 hxs ha
  go_enter Tryz.func8, Tryz.ntmps8
  go_upto_region 1 with fail
  obtain ⟨w1, hw1⟩ : ∃ w1, w.alloc (.cells #[.slice A l.length cl] 38) = w1 := ⟨_, rfl⟩
  have z1 : w1.heap.size = w.heap.size + 1 := by rw [← hw1]; simp
  rw [hw1] at hb1 k1 ⊢
  clear hw1
  have hb2 := bone w1 (.cells #[.int .i64 m.cas, .int .i64 m.act, .int .i64 m.res, .int .i64 m.life, .int .i64 m.time, .slice Am m.data.length cm, .slice Ak m.kinds.length ck, .int .u8 z] 33)
  have k2 := Blk.new w1 33 #[.int .i64 m.cas, .int .i64 m.act, .int .i64 m.res, .int .i64 m.life, .int .i64 m.time, .slice Am m.data.length cm, .slice Ak m.kinds.length ck, .int .u8 z]
  have k1 := k1.now hb2
  have HB := Lib.hid (bthen hb1 hb2)
  obtain ⟨w2, hw2⟩ : ∃ w2, w1.alloc (.cells #[.int .i64 m.cas, .int .i64 m.act, .int .i64 m.res, .int .i64 m.life, .int .i64 m.time, .slice Am m.data.length cm, .slice Ak m.kinds.length ck, .int .u8 z] 33) = w2 := ⟨_, rfl⟩
  rw [hw2] at HB k1 k2 ⊢
  rw [z1] at k2
  have HK1 := Lib.hid k1
  have HK2 := Lib.hid k2
  have HA2 := Lib.hid (HAW.out w2 (HAM.out.now HB.out))
  clear hw2 z1 hb1 hb2 k1 k2
  go_wp2_with fail
  (with_reducible refine HA2.out.mono ?_)
  rintro _ w3 ⟨rfl, hb3⟩
  have HB3 := Lib.hid (bthen HB.out hb3)
  have a0 := (HK1.out.now hb3).c1
  have HV3 := Lib.hid (HHV.out w3 (HLOG.out.now (bthen HB.out hb3)))
  have HK3 := Lib.hid (HK2.out.now hb3)
  have HL3 := Lib.hid (HK1.out.now hb3)
  clear hb3 HA2
  go_wp2_with fail
  (with_reducible refine HV3.out.mono ?_)
  rintro _ w4 ⟨rfl, hb4⟩
  have HB4 := Lib.hid (bthen HB3.out hb4)
  have HK4 := Lib.hid (HK3.out.now hb4)
  have HL4 := Lib.hid (HL3.out.now hb4)
  have HG4 := Lib.hid (HGT.out w4 (HMP.out.now HB4.out))
  clear hb4 HV3 HB3 a0 HK3 HL3
  obtain ⟨c0, c1, c2, c3, c4, c5, c6, c7⟩ := HK4.out.c8m
  have a0 := HL4.out.c1
  cases q1 with
  | true =>
    go_wp2_with fail
    go_ret
    exact ⟨rfl, HB4.out⟩
  | false =>
    go_wp2_with fail
    (with_reducible refine HG4.out.mono ?_)
    rintro _ w5 ⟨rfl, hb5⟩
    have HB5 := Lib.hid (bthen HB4.out hb5)
    have HK5 := Lib.hid (HK4.out.now hb5)
    have HL5 := Lib.hid (HL4.out.now hb5)
    clear hb5 HG4 HB4 c0 c1 c2 c3 c4 c5 c6 c7 a0 HK4 HL4
    obtain ⟨c0, c1, c2, c3, c4, c5, c6, c7⟩ := HK5.out.c8m
    have a0 := HL5.out.c1
    cases q2 with
    | true =>
      go_wp2_with fail
      go_ret
      exact ⟨rfl, HB5.out⟩
    | false =>
      have HP5 := Lib.hid (HP.out w5 (HLOG.out.now HB5.out) (HMP.out.now HB5.out) HQ1.out HQ2.out (HAM.out.now HB5.out))
      go_wp2_with fail
      (with_reducible refine HP5.out.mono ?_)
      rintro _ w6 ⟨rfl, hb6⟩
      have HB6 := Lib.hid (bthen HB5.out hb6)
      have HK6 := Lib.hid (HK5.out.now hb6)
      have HL6 := Lib.hid (HL5.out.now hb6)
      clear hb6 HP5 HB5 c0 c1 c2 c3 c4 c5 c6 c7 a0 HK5 HL5
      obtain ⟨c0, c1, c2, c3, c4, c5, c6, c7⟩ := HK6.out.c8m
      have a0 := HL6.out.c1
      have HR6 := Lib.hid (HR.out w6 (HLOG.out.now HB6.out) (HMP.out.now HB6.out) HQ1.out HQ2.out)
      go_wp2_with fail
      (with_reducible refine HR6.out.mono ?_)
      rintro _ w7 ⟨rfl, hb7⟩
      have HB7 := Lib.hid (bthen HB6.out hb7)
      have e1 : (k == k) = true := beq_self_eq_true k
      clear hb7 c0 c1 c2 c3 c4 c5 c6 c7 a0
      go_wp2_with fail
      go_ret
      exact ⟨rfl, HB7.out⟩
end Go.Proofs.YtoalecalahkblaaGreatDoor
