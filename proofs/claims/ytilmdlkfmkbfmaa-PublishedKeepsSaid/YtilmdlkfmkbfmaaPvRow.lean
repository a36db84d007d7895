/- What the row needs: how variants, fractions read. -/
import Derived.Test.YtilmdlkfmkbfmaaOpen
import Derived.Test.YtilmdlkfmkbfmaaPvLaw
import Derived.Test.YtilmdlkfmkbfmaaRows
import Derived.JoinedOf
import Derived.Handed
import Derived.Carry
set_option linter.all false
namespace Go.Proofs.Ytilmdlkfmkbfmaa
open Go.ChangeShapes Go.WideShapes Go.ChangeAt Go.RowKit Go.Deep

theorem own : ownKnob Try.prog.godebug = none := by kernel_rfl
theorem laidOut : laidOutB Try.prog = true := by kernel_rfl
theorem stays {H : Type} {enc : TypeId × Value → H} {t : TypeId} (hr : Try.prog.readableRec t = true) (hrow : t < Try.prog.types.size) {W W' : World} {v : Value} {d : DataW H} {ps : List MemPlace} {sp : Nat → Bool}
    (h : DataW.Trod enc Try.prog W 0 (fun _ => true) true t v d ps) (hb : Below W.heap.size W W') (hlt : ∀ x ∈ ps, x.block < W.heap.size) (hsp : ∀ x ∈ ps, sp x.block = true) : DataW.Trod enc Try.prog W' 0 sp true t v d ps :=
  WideElems.Trod_stays laidOut hr hrow h (fun x hx => hb.same (hlt x hx)) hsp
theorem readPvs : Try.prog.readableRec 22 = true := by kernel_rfl
theorem rowPvs : 22 < Try.prog.types.size := of_decide_eq_true (by kernel_rfl)
theorem readFr : Try.prog.readableRec 24 = true := by kernel_rfl
theorem rowFr : 24 < Try.prog.types.size := of_decide_eq_true (by kernel_rfl)
theorem readFrs : Try.prog.readableRec 25 = true := by kernel_rfl
theorem rowFrs : 25 < Try.prog.types.size := of_decide_eq_true (by kernel_rfl)
theorem cellsInt : Try.prog.cellsOf 3 = 1 := by kernel_rfl
theorem cellsStr : Try.prog.cellsOf 9 = 1 := by kernel_rfl
theorem cellsStrs : Try.prog.cellsOf 28 = 1 := by kernel_rfl
theorem cellsPv : Try.prog.cellsOf 30 = 2 := by kernel_rfl
theorem cellsFr : Try.prog.cellsOf 24 = 2 := by kernel_rfl
instance : Inhabited Vr := ⟨⟨[], 0⟩⟩
instance : Inhabited Fr := ⟨⟨0, 0⟩⟩
section
variable {H : Type} {enc : TypeId × Value → H} {w : World} {base : Nat} {spare : Nat → Bool} {held : Bool}
theorem trod_struct2 {P : Program} {t : TypeId} {f0 f1 : Field} {fuel : Nat} {cs : List Value} {x : DataW H × List MemPlace} (ht : P.underlying t = some (.struct #[f0, f1])) (h : DataW.trod enc P w base spare held fuel t cs = some x) :
    ∃ y0 y1 n, cs.length = P.cellsOf t ∧ DataW.trod enc P w base spare held n f0.type ((cs.drop f0.offset).take (P.cellsOf f0.type)) = some y0 ∧ DataW.trod enc P w base spare held n f1.type ((cs.drop f1.offset).take (P.cellsOf f1.type)) = some y1 := by
  obtain ⟨xs, n, _, rfl, hl, hlen, hf⟩ := DataW.trod_struct ht h
  match xs, hlen with
  | [y0, y1], _ => exact ⟨y0, y1, n, hl, by simpa using hf 0 f0 rfl, by simpa using hf 1 f1 rfl⟩
theorem fitF_of {a b : Int} (h1 : Fit a) (h2 : Fit b) : FitF ⟨a, b⟩ := ⟨h1, h2⟩
set_option maxRecDepth 100000 in
theorem vrCells_of (fuel : Nat) (cs : List Value) (y : DataW H × List MemPlace) (h : DataW.trod enc Try.prog w base spare held fuel 30 cs = some y) : ∃ v, RVr (Lt w.heap.size) w v cs := by
  obtain ⟨y0, y1, n, hl, h0, h1⟩ := trod_struct2 Try.underlying30 h
  rw [cellsPv] at hl
  match cs, hl with
  | [c0, c1], _ =>
    simp only [cellsStrs, cellsInt, List.drop_zero, List.take_succ_cons, List.take_zero, List.drop_succ_cons] at h0 h1
    obtain ⟨zs, hz⟩ := SlS.of_trod Try.underlying28 Try.underlying9 cellsStr h0
    obtain ⟨b, e1, _, w1⟩ := DataW.trod_int Try.underlying3 h1
    injection e1 with e1
    subst e1
    exact ⟨⟨zs, b⟩, c0, rfl, fit_of_wf w1, hz⟩
set_option maxRecDepth 100000 in
theorem frCells_of (fuel : Nat) (cs : List Value) (y : DataW H × List MemPlace) (h : DataW.trod enc Try.prog w base spare held fuel 24 cs = some y) : ∃ v, RFr (Lt w.heap.size) w v cs := by
  obtain ⟨y0, y1, n, hl, h0, h1⟩ := trod_struct2 Try.underlying24 h
  rw [cellsFr] at hl
  match cs, hl with
  | [c0, c1], _ =>
    simp only [cellsInt, List.drop_zero, List.take_succ_cons, List.take_zero, List.drop_succ_cons] at h0 h1
    obtain ⟨a, e0, _, w0⟩ := DataW.trod_int Try.underlying3 h0
    obtain ⟨b, e1, _, w1⟩ := DataW.trod_int Try.underlying3 h1
    injection e0 with e0; injection e1 with e1
    subst e0 e1
    exact ⟨⟨a, b⟩, rfl, fitF_of (fit_of_wf w0) (fit_of_wf w1)⟩
set_option maxRecDepth 100000 in
theorem slice_of {r : Reach} {b0 : Nat} {v : Value} {d : DataW H} {p : List MemPlace} {t e : TypeId} (hs : Try.prog.underlying t = some (.slice e)) (hv : Value.okWide Try.prog w r b0 t v) (h : DataW.Trod enc Try.prog w base spare held t v d p) : ∃ fuel x, DataW.trod enc Try.prog w base spare held fuel t [v] = some x := by
  obtain ⟨a, len, cap, rfl⟩ := okWide_slice hs hv
  obtain ⟨fuel, hf⟩ := h
  exact ⟨fuel, (d, p), hf⟩
set_option maxRecDepth 100000 in
theorem pvs_of {r : Reach} {b0 : Nat} {v : Value} {d : DataW H} {p : List MemPlace} (hv : Value.okWide Try.prog w r b0 22 v) (h : DataW.Trod enc Try.prog w base spare held 22 v d p) : ∃ l, SlVr (Lt w.heap.size) w v l := by
  obtain ⟨_, _, hy⟩ := slice_of Try.underlying22 hv h
  exact Sl.of_trod (R := RVr) (size := 2) Try.underlying22 cellsPv (by omega) vrCells_of hy
set_option maxRecDepth 100000 in
theorem frs_of {r : Reach} {b0 : Nat} {v : Value} {d : DataW H} {p : List MemPlace} (hv : Value.okWide Try.prog w r b0 25 v) (h : DataW.Trod enc Try.prog w base spare held 25 v d p) : ∃ l, SlF (Lt w.heap.size) w v l := by
  obtain ⟨_, _, hy⟩ := slice_of Try.underlying25 hv h
  exact Sl.of_trod (R := RFr) (size := 2) Try.underlying25 cellsFr (by omega) frCells_of hy
set_option maxRecDepth 100000 in
theorem fr_of {r : Reach} {b0 : Nat} {v : Value} {d : DataW H} {p : List MemPlace} (hv : Value.okWide Try.prog w r b0 24 v) (h : DataW.Trod enc Try.prog w base spare held 24 v d p) : ∃ x : Fr, v = frV x ∧ FitF x := by
  obtain ⟨cs, rfl, hsz⟩ := okWide_struct Try.underlying24 hv
  rw [cellsFr] at hsz
  obtain ⟨l⟩ := cs
  match l, hsz with
  | [c0, c1], _ =>
    obtain ⟨fuel, hf⟩ := h
    obtain ⟨x, hx, hfit⟩ := frCells_of fuel _ _ hf
    injection hx with e0 hx; injection hx with e1 _
    exact ⟨x, by unfold frV; rw [e0, e1], hfit⟩
theorem trodAll_six {P : Program} {t0 t1 t2 t3 t4 t5 : TypeId} {args : Array Value} {ds : List (DataW H)} {ps : List MemPlace} (h : DataW.TrodAll enc P w base spare held [t0, t1, t2, t3, t4, t5] args.toList ds ps) :
    ∃ v0 v1 v2 v3 v4 v5 d0 d1 d2 d3 d4 d5 p0 p1 p2 p3 p4 p5, args = #[v0, v1, v2, v3, v4, v5] ∧ ds = [d0, d1, d2, d3, d4, d5] ∧ ps = p0 ++ p1 ++ p2 ++ p3 ++ p4 ++ p5 ∧ DataW.Trod enc P w base spare held t0 v0 d0 p0 ∧ DataW.Trod enc P w base spare held t1 v1 d1 p1 ∧
      DataW.Trod enc P w base spare held t2 v2 d2 p2 ∧ DataW.Trod enc P w base spare held t3 v3 d3 p3 ∧ DataW.Trod enc P w base spare held t4 v4 d4 p4 ∧ DataW.Trod enc P w base spare held t5 v5 d5 p5 := by
  obtain ⟨v0, vs0, d0, ds0, p0, q0, hargs, rfl, rfl, h0, r0⟩ := trodAll_cons h
  obtain ⟨v1, vs1, d1, ds1, p1, q1, rfl, rfl, rfl, h1, r1⟩ := trodAll_cons r0
  obtain ⟨v2, vs2, d2, ds2, p2, q2, rfl, rfl, rfl, h2, r2⟩ := trodAll_cons r1
  obtain ⟨v3, vs3, d3, ds3, p3, q3, rfl, rfl, rfl, h3, r3⟩ := trodAll_cons r2
  obtain ⟨v4, vs4, d4, ds4, p4, q4, rfl, rfl, rfl, h4, r4⟩ := trodAll_cons r3
  obtain ⟨v5, vs5, d5, ds5, p5, q5, rfl, rfl, rfl, h5, r5⟩ := trodAll_cons r4
  obtain ⟨rfl, rfl, rfl⟩ := trodAll_nil r5
  exact ⟨v0, v1, v2, v3, v4, v5, d0, d1, d2, d3, d4, d5, p0, p1, p2, p3, p4, p5, by cases args; simp_all, rfl, by simp, h0, h1, h2, h3, h4, h5⟩
theorem trodAll_mk6 {P : Program} {t0 t1 t2 t3 t4 t5 : TypeId} {v0 v1 v2 v3 v4 v5 : Value} {d0 d1 d2 d3 d4 d5 : DataW H} {p0 p1 p2 p3 p4 p5 : List MemPlace} (h0 : DataW.Trod enc P w base spare held t0 v0 d0 p0) (h1 : DataW.Trod enc P w base spare held t1 v1 d1 p1)
    (h2 : DataW.Trod enc P w base spare held t2 v2 d2 p2) (h3 : DataW.Trod enc P w base spare held t3 v3 d3 p3) (h4 : DataW.Trod enc P w base spare held t4 v4 d4 p4) (h5 : DataW.Trod enc P w base spare held t5 v5 d5 p5) :
    DataW.TrodAll enc P w base spare held [t0, t1, t2, t3, t4, t5] [v0, v1, v2, v3, v4, v5] [d0, d1, d2, d3, d4, d5] (p0 ++ (p1 ++ (p2 ++ (p3 ++ (p4 ++ p5))))) :=
  ⟨p0, _, h0, ⟨p1, _, h1, trodAll_mk4 h2 h3 h4 h5, rfl⟩, rfl⟩
end
theorem u8_of_wf {n : Int} (h : (Lit.int .u8 n).wf = true) : 0 ≤ n ∧ n ≤ 255 := by
  have h' : decide ((0 : Int) ≤ n) = true ∧ decide (n ≤ (255 : Int)) = true := by
    rw [← Bool.and_eq_true]; exact h
  simpa using h'
theorem published_law (l : List Vr) (k less : Int) (b : Fr) (sp : List Fr) (cut : Int) (u us : Value) (w : World) (hu : SlVr (Lt w.heap.size) w u l) (hk : (Lit.int .i64 k).wf = true) (hless : (Lit.int .i64 less).wf = true) (hb : FitF b) (hus : SlF (Lt w.heap.size) w us sp) (hcut : (Lit.int .u8 cut).wf = true) :
    Calls Try.prog 3 #[u, .int .i64 k, .int .i64 less, frV b, us, .int .u8 cut] w fun e w' => e = .returned (.bool true) ∧ Below w.heap.size w w' :=
  published_row l k less b sp cut u us w hu (fit_of_wf hk) (fit_of_wf hless) hb hus (u8_of_wf hcut)
end Go.Proofs.Ytilmdlkfmkbfmaa
