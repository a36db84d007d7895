/- Texts of this seat, merged. -/
import Derived.ProofKit
import Derived.Deep.Slices
import Derived.Deep.Fields
import Derived.Deep.Strs
import Derived.ChangeSame
import Derived.Lib.SmallJoins
import Derived.LaidMore
import Derived.OpenShut
import Derived.Stop.Joined
import Derived.Test.YtijmnenojbfdnaaGreatDoorRows
import Derived.Test.YtijmnenojbfdnaaGreatDoorTie
import Derived.Test.YtijmnenojbfdnaaGreatDoorCards
import Derived.SevenTiedAt
import Derived.LaidLaws
import Derived.Lib.LaidTab
import Derived.Test.YtijmnenojbfdnaaGreatDoorEq01
import Derived.Test.YtijmnenojbfdnaaGreatDoorEq02
import Derived.Test.YtijmnenojbfdnaaGreatDoorEq03
import Derived.Test.YtijmnenojbfdnaaGreatDoorEq04
import Derived.Test.YtijmnenojbfdnaaGreatDoorEq05
import Derived.Test.YtijmnenojbfdnaaGreatDoorEq06
import Derived.Test.YtijmnenojbfdnaaGreatDoorEq07
import Derived.Test.YtijmnenojbfdnaaGreatDoorEq08
import Derived.Test.YtijmnenojbfdnaaGreatDoorEq09
import Derived.Test.YtijmnenojbfdnaaGreatDoorEq10
import Derived.Test.YtijmnenojbfdnaaGreatDoorEq11
import Derived.Test.YtijmnenojbfdnaaGreatDoorEq12
import Derived.Test.YtijmnenojbfdnaaGreatDoorEq13
import Derived.Test.YtijmnenojbfdnaaGreatDoorEq14
import Derived.Test.YtijmnenojbfdnaaGreatDoorEq15
import Derived.Test.YtijmnenojbfdnaaGreatDoorEq16
import Derived.Test.YtijmnenojbfdnaaGreatDoorEq17
import Derived.Test.YtijmnenojbfdnaaGreatDoorEq18
import Derived.Test.YtijmnenojbfdnaaGreatDoorEq19
import Derived.Test.YtijmnenojbfdnaaGreatDoorEq20
import Derived.Test.YtijmnenojbfdnaaGreatDoorEq21
import Derived.Test.YtijmnenojbfdnaaGreatDoorEq22
import Derived.Test.YtijmnenojbfdnaaGreatDoorEq23
import Derived.Test.YtijmnenojbfdnaaGreatDoorEq24
import Derived.Test.YtijmnenojbfdnaaGreatDoorEq25
import Derived.Test.YtijmnenojbfdnaaGreatDoorEq26
import Derived.Test.YtijmnenojbfdnaaGreatDoorEq27
import Derived.Test.YtijmnenojbfdnaaGreatDoorEq28
import Derived.Test.YtijmnenojbfdnaaGreatDoorEq29
import Derived.Test.YtijmnenojbfdnaaGreatDoorEq30
set_option linter.unusedSimpArgs false
set_option linter.unusedVariables false
namespace Go.Proofs.YtijmnenojbfdnaaGreatDoor
open Go.ChangeShapes Go.WideShapes Go.RowKit Go.Deep
theorem add_lit' (b o n j : Nat) : ((⟨b, o, none⟩ : Addr).add n).add j = ⟨b, o + n + j, none⟩ := by
  rw [add_add']; unfold Addr.add
  by_cases h : n + j = 0
  · have h1 : n = 0 := by omega
    have h2 : j = 0 := by omega
    subst h1 h2; rfl
  · rw [if_neg h]; simp [Nat.add_assoc]
theorem cell_spot {w : World} {a : Addr} {u : Value} (h : w.cell? a = some u) : a = ⟨a.block, a.off, none⟩ ∧ a.block < w.heap.size := by
  obtain ⟨b, o, s⟩ := a
  unfold World.cell? at h
  cases s with
  | none =>
    refine ⟨rfl, ?_⟩
    rcases Nat.lt_or_ge b w.heap.size with h' | h'
    · exact h'
    · simp [Array.getElem?_eq_none h'] at h
  | some s => split at h <;> simp at h
section
variable {H : Type} {enc : TypeId × Value → H} {P : Program} {w : World} {base : Nat} {spare : Nat → Bool} {held : Bool}
theorem Sl.of_trod {α : Type} [Inhabited α] {size : Nat} {R : ElemR α} {t e : TypeId} {fuel : Nat} {v : Value} {x : DataW H × List MemPlace} (ht : P.underlying t = some (.slice e)) (hsz : P.cellsOf e = size) (hs0 : 0 < size)
    (hR : ∀ (fuel' : Nat) (cs : List Value) (y : DataW H × List MemPlace), DataW.trod enc P w base spare held fuel' e cs = some y → ∃ z, R (Lt w.heap.size) w z cs)
    (h : DataW.trod enc P w base spare held fuel t [v] = some x) : ∃ xs, Sl size R (Lt w.heap.size) w v xs := by
  rcases open_slice ht h with ⟨hv, _⟩ | ⟨a, len, cap, m, n, D, Pl, hv, _, hl, hm, hmm, _, hi⟩
  · injection hv with hv; subst hv; exact ⟨[], Sl.none_⟩
  · injection hv with hv
    subst hv
    have hlm : len ≤ m := by rw [hmm]; split <;> omega
    have key : ∀ i, ∃ z : α, i < len → ∃ cs : List Value, cs.length = size ∧ R (Lt w.heap.size) w z cs ∧ ∀ j, j < size → w.cell? ((a.add (i * size)).add j) = cs[j]? := by
      intro i
      by_cases hlt : i < len
      · obtain ⟨cs', hc, htr⟩ := hi i (by omega)
        rw [hsz] at hc
        obtain ⟨z, hz⟩ := hR _ _ _ htr
        obtain ⟨_, hcl, hat⟩ := World.cells?_some hc
        exact ⟨z, fun _ => ⟨cs', hcl, hz, hat⟩⟩
      · exact ⟨default, fun h' => absurd h' hlt⟩
    refine ⟨(List.range len).map fun i => Classical.choose (key i), some a, cap, by simp, by simpa using hl, hm, fun i z hz => ?_⟩
    rw [List.getElem?_map] at hz
    have hlt : i < len := by
      rcases Nat.lt_or_ge i len with h' | h'
      · exact h'
      · rw [List.getElem?_eq_none (by simpa using h')] at hz; simp at hz
    rw [List.getElem?_range hlt] at hz
    injection hz with hz
    obtain ⟨cs, hcl, hr, hat⟩ := Classical.choose_spec (key i) hlt
    obtain ⟨cs0, hcl0, _, hat0⟩ := Classical.choose_spec (key 0) (by omega)
    have h00 := hat0 0 hs0
    have hc0 : cs0[0]? = some (cs0[0]'(by omega)) := List.getElem?_eq_getElem (by omega)
    rw [hc0] at h00
    have ha0 : (a.add (0 * size)).add 0 = a := by simp [Addr.add]
    rw [ha0] at h00
    obtain ⟨ha, hblk⟩ := cell_spot h00
    replace hz : Classical.choose (key i) = z := hz
    rw [hz] at hr
    refine ⟨a.block, a.off, cs, by rw [← ha], hblk, hcl, hr, fun j u hu => ?_⟩
    have hj : j < size := by
      rcases Nat.lt_or_ge j cs.length with h' | h'
      · omega
      · rw [List.getElem?_eq_none h'] at hu; cases hu
    have := hat j hj
    rw [ha, add_lit'] at this
    rw [this, hu]
theorem fit_of_wf {n : Int} (h : (Lit.int .i64 n).wf = true) : Fit n := by
  have h' : decide ((-9223372036854775808 : Int) ≤ n) = true ∧ decide (n ≤ (9223372036854775807 : Int)) = true := by
    rw [← Bool.and_eq_true]; exact h
  unfold Fit
  simpa using h'
theorem SlI.of_trod {t e : TypeId} {fuel : Nat} {v : Value} {x : DataW H × List MemPlace} (ht : P.underlying t = some (.slice e)) (he : P.underlying e = some (.int .i64)) (hc : P.cellsOf e = 1)
    (h : DataW.trod enc P w base spare held fuel t [v] = some x) : ∃ zs, SlI (Lt w.heap.size) w v zs :=
  Sl.of_trod ht hc (by omega) (fun _ cs y hy => by
    obtain ⟨k, e1, e2, e3⟩ := DataW.trod_int he hy
    exact ⟨k, e1, fit_of_wf e3⟩) h
theorem SlS.of_trod {t e : TypeId} {fuel : Nat} {v : Value} {x : DataW H × List MemPlace} (ht : P.underlying t = some (.slice e)) (he : P.underlying e = some .string) (hc : P.cellsOf e = 1)
    (h : DataW.trod enc P w base spare held fuel t [v] = some x) : ∃ zs, SlS (Lt w.heap.size) w v zs :=
  Sl.of_trod ht hc (by omega) (fun _ cs y hy => by
    obtain ⟨k, e1, e2, e3⟩ := DataW.trod_string he hy
    exact ⟨k, e1, e3⟩) h
theorem post_of_below {f : Func} {s : ChangeSpec} {apart fresh handsOn again : Bool} {W W' : World} {args : Array Value} {v : Value} {ds gs : List (DataW H)} {before pa pv : List MemPlace}
    (hW : DataW.Whole enc P f.params.toList s.vars apart W args.toList ds gs before)
    (hres : ∀ (b : Nat) (sp : Nat → Bool) (hd : Bool), DataW.TrodAll enc P W' b sp hd f.resultTypes.toList (v.resultList f.resultTypes.size) (s.fn H (ds ++ gs)).results [])
    (hargs : ∀ sp : Nat → Bool, (∀ p ∈ before, sp p.block = true) → DataW.TrodAll enc P W' 0 sp true f.params.toList args.toList (s.fn H (ds ++ gs)).args pa)
    (hvars : ∀ sp : Nat → Bool, (∀ p ∈ before, sp p.block = true) → DataW.TrodVars enc P W' sp s.vars (s.fn H (ds ++ gs)).vars pv)
    (hps : before = pa ++ pv) (hb : Below W.heap.size W W')
    (hok : ∀ (j : Nat) (t : TypeId) (r : Value), f.resultTypes[j]? = some t → (v.resultList f.resultTypes.size)[j]? = some r → Value.okWide P W' .any 0 t r) :
    s.post enc P f apart fresh handsOn again W args v W' := by
  have hlt : ∀ p ∈ before, p.block < W.heap.size := fun p hp => hW.lt p hp
  have hold : ∀ p ∈ before, (fun b => decide (b < W.heap.size)) p.block = true := fun p hp => by simpa using hlt p hp
  refine ⟨ds, gs, before, [], pa, pv, hW, hres _ _ _, hargs _ hold, hvars _ hold, World.keptBut_mono (fun p hp => ⟨hp, ?_⟩) (hb.frame (· ∈ before)), fun _ => ?_⟩
  · rw [hps, List.mem_append] at hp
    exact Or.inr hp
  · obtain ⟨_, _, _, _, _, hz, hn⟩ := hW
    refine ⟨hok, _, _, ([] ++ pa) ++ pv, ⟨[] ++ pa, pv, trodAll_append (hargs _ (fun _ _ => rfl)) (hres _ _ _), hvars _ (fun _ _ => rfl), rfl, ?_, ?_⟩, ?_⟩
    · intro b off hp
      have hin : MemPlace.cell b off ∈ before := by rw [hps]; simpa using hp
      rw [hb.frozen (hlt _ hin)]
      exact hz b off hin
    · intro ha
      have := hn ha
      rw [hps] at this
      simpa using this
    · intro p hp _
      rw [hps]
      simpa using hp
end
end Go.Proofs.YtijmnenojbfdnaaGreatDoor

namespace Go.Proofs.YtijmnenojbfdnaaGreatDoor
open Go.ChangeShapes Go.WideShapes Go.ChangeAt Go.RowKit Go.Deep
theorem own : ownKnob Tryz.prog.godebug = none := by kernel_rfl
theorem laidOut : laidOutB Tryz.prog = true := by kernel_rfl
theorem door_met (os : Os) (args : Array Value) : laidMetH Tryz.prog Rows.exprValuesRow.laid ((World.doorLaid Tryz.prog 400 os).forCall (fun _ _ => 0) ⟨#[], args, []⟩).memory :=
  laidMetH_of_parts3 (fuel := 80) (laidMet_of_run' 80 (by kernel_rfl) (by kernel_rfl)) (by kernel_rfl) (by kernel_rfl)
theorem stays {H : Type} {enc : TypeId × Value → H} {t : TypeId} (hr : Tryz.prog.readableRec t = true) (hrow : t < Tryz.prog.types.size) {W W' : World} {v : Value} {d : DataW H} {ps : List MemPlace} {sp : Nat → Bool}
    (h : DataW.Trod enc Tryz.prog W 0 (fun _ => true) true t v d ps) (hb : Below W.heap.size W W') (hlt : ∀ x ∈ ps, x.block < W.heap.size) (hsp : ∀ x ∈ ps, sp x.block = true) : DataW.Trod enc Tryz.prog W' 0 sp true t v d ps :=
  WideElems.Trod_stays laidOut hr hrow h (fun x hx => hb.same (hlt x hx)) hsp
theorem readVars : Tryz.prog.readableRec 22 = true := by kernel_rfl
theorem rowVars : 22 < Tryz.prog.types.size := of_decide_eq_true (by kernel_rfl)
theorem cellsInt : Tryz.prog.cellsOf 3 = 1 := by kernel_rfl
theorem cellsStr : Tryz.prog.cellsOf 9 = 1 := by kernel_rfl
theorem cellsStrs : Tryz.prog.cellsOf 46 = 1 := by kernel_rfl
theorem cellsVal : Tryz.prog.cellsOf 25 = 3 := by kernel_rfl
theorem cellsVar : Tryz.prog.cellsOf 68 = 5 := by kernel_rfl
instance : Inhabited Ex := ⟨.mk 0 noV emptyS []⟩
instance : Inhabited Val := ⟨noV⟩
instance : Inhabited Var := ⟨⟨emptyS, 0, 0, 0, []⟩⟩
theorem readEx : Tryz.prog.readableRec 28 = true := by kernel_rfl
theorem rowEx : 28 < Tryz.prog.types.size := of_decide_eq_true (by kernel_rfl)
theorem cellsExpr : Tryz.prog.cellsOf 28 = 6 := by kernel_rfl
theorem cellsExprs : Tryz.prog.cellsOf 26 = 1 := by kernel_rfl
section
variable {H : Type} {enc : TypeId × Value → H} {P : Program} {w : World} {base : Nat} {spare : Nat → Bool} {held : Bool}
theorem Sl.of_trodN {α : Type} [Inhabited α] {size : Nat} {R : ElemR α} {t e : TypeId} {fuel : Nat} {v : Value} {x : DataW H × List MemPlace} (ht : P.underlying t = some (.slice e)) (hsz : P.cellsOf e = size) (hs0 : 0 < size)
    (hR : ∀ (fuel' : Nat), fuel' < fuel → ∀ (cs : List Value) (y : DataW H × List MemPlace), DataW.trod enc P w base spare held fuel' e cs = some y → ∃ z, R (Lt w.heap.size) w z cs)
    (h : DataW.trod enc P w base spare held fuel t [v] = some x) : ∃ xs, Sl size R (Lt w.heap.size) w v xs := by
  rcases DataW.trod_slice ht h with ⟨hv, _⟩ | ⟨a, len, cap, elems, rest, n, hfu, hv, _, _, hl, hm, hlen, hi, _, _⟩
  · injection hv with hv; subst hv; exact ⟨[], Sl.none_⟩
  · injection hv with hv
    subst hv
    have key : ∀ i, ∃ z : α, i < len → ∃ cs : List Value, cs.length = size ∧ R (Lt w.heap.size) w z cs ∧ ∀ j, j < size → w.cell? ((a.add (i * size)).add j) = cs[j]? := by
      intro i
      by_cases hlt : i < len
      · have hh := hi i hlt
        rw [List.getElem?_eq_getElem (by omega)] at hh
        obtain ⟨cs', hc, htr⟩ := Option.bind_eq_some_iff.1 hh
        rw [hsz] at hc
        obtain ⟨z, hz⟩ := hR n (by omega) _ _ htr
        obtain ⟨_, hcl, hat⟩ := World.cells?_some hc
        exact ⟨z, fun _ => ⟨cs', hcl, hz, hat⟩⟩
      · exact ⟨default, fun h' => absurd h' hlt⟩
    refine ⟨(List.range len).map fun i => Classical.choose (key i), some a, cap, by simp, by simpa using hl, hm, fun i z hz => ?_⟩
    rw [List.getElem?_map] at hz
    have hlt : i < len := by
      rcases Nat.lt_or_ge i len with h' | h'
      · exact h'
      · rw [List.getElem?_eq_none (by simpa using h')] at hz; simp at hz
    rw [List.getElem?_range hlt] at hz
    injection hz with hz
    obtain ⟨cs, hcl, hr, hat⟩ := Classical.choose_spec (key i) hlt
    obtain ⟨cs0, hcl0, _, hat0⟩ := Classical.choose_spec (key 0) (by omega)
    have h00 := hat0 0 hs0
    have hc0 : cs0[0]? = some (cs0[0]'(by omega)) := List.getElem?_eq_getElem (by omega)
    rw [hc0] at h00
    have ha0 : (a.add (0 * size)).add 0 = a := by simp [Addr.add]
    rw [ha0] at h00
    obtain ⟨ha, hblk⟩ := cell_spot h00
    replace hz : Classical.choose (key i) = z := hz
    rw [hz] at hr
    refine ⟨a.block, a.off, cs, by rw [← ha], hblk, hcl, hr, fun j u hu => ?_⟩
    have hj : j < size := by
      rcases Nat.lt_or_ge j cs.length with h' | h'
      · omega
      · rw [List.getElem?_eq_none h'] at hu; cases hu
    have := hat j hj
    rw [ha, add_lit'] at this
    rw [this, hu]
theorem trod_struct4N {t : TypeId} {f0 f1 f2 f3 : Field} {fuel : Nat} {cs : List Value} {x : DataW H × List MemPlace} (ht : P.underlying t = some (.struct #[f0, f1, f2, f3])) (h : DataW.trod enc P w base spare held fuel t cs = some x) :
    ∃ y0 y1 y2 y3 n, fuel = n + 1 ∧ cs.length = P.cellsOf t ∧ DataW.trod enc P w base spare held n f0.type ((cs.drop f0.offset).take (P.cellsOf f0.type)) = some y0 ∧
      DataW.trod enc P w base spare held n f1.type ((cs.drop f1.offset).take (P.cellsOf f1.type)) = some y1 ∧ DataW.trod enc P w base spare held n f2.type ((cs.drop f2.offset).take (P.cellsOf f2.type)) = some y2 ∧
      DataW.trod enc P w base spare held n f3.type ((cs.drop f3.offset).take (P.cellsOf f3.type)) = some y3 := by
  obtain ⟨xs, n, hn, rfl, hl, hlen, hf⟩ := DataW.trod_struct ht h
  match xs, hlen with
  | [y0, y1, y2, y3], _ => exact ⟨y0, y1, y2, y3, n, hn, hl, by simpa using hf 0 f0 rfl, by simpa using hf 1 f1 rfl, by simpa using hf 2 f2 rfl, by simpa using hf 3 f3 rfl⟩
end
section
variable {H : Type} {enc : TypeId × Value → H} {w : World} {base : Nat} {spare : Nat → Bool} {held : Bool}
theorem trod_struct5 {P : Program} {t : TypeId} {f0 f1 f2 f3 f4 : Field} {fuel : Nat} {cs : List Value} {x : DataW H × List MemPlace} (ht : P.underlying t = some (.struct #[f0, f1, f2, f3, f4])) (h : DataW.trod enc P w base spare held fuel t cs = some x) :
    ∃ y0 y1 y2 y3 y4 n, cs.length = P.cellsOf t ∧ DataW.trod enc P w base spare held n f0.type ((cs.drop f0.offset).take (P.cellsOf f0.type)) = some y0 ∧
      DataW.trod enc P w base spare held n f1.type ((cs.drop f1.offset).take (P.cellsOf f1.type)) = some y1 ∧ DataW.trod enc P w base spare held n f2.type ((cs.drop f2.offset).take (P.cellsOf f2.type)) = some y2 ∧
      DataW.trod enc P w base spare held n f3.type ((cs.drop f3.offset).take (P.cellsOf f3.type)) = some y3 ∧ DataW.trod enc P w base spare held n f4.type ((cs.drop f4.offset).take (P.cellsOf f4.type)) = some y4 := by
  obtain ⟨xs, n, _, rfl, hl, hlen, hf⟩ := DataW.trod_struct ht h
  match xs, hlen with
  | [y0, y1, y2, y3, y4], _ => exact ⟨y0, y1, y2, y3, y4, n, hl, by simpa using hf 0 f0 rfl, by simpa using hf 1 f1 rfl, by simpa using hf 2 f2 rfl, by simpa using hf 3 f3 rfl, by simpa using hf 4 f4 rfl⟩
set_option maxRecDepth 100000 in
theorem valCells_of (fuel : Nat) (cs : List Value) (y : DataW H × List MemPlace) (h : DataW.trod enc Tryz.prog w base spare held fuel 25 cs = some y) : ∃ v, RVal (Lt w.heap.size) w v cs := by
  obtain ⟨y0, y1, y2, n, _, hl, h0, h1, h2⟩ := trod_struct3 Tryz.underlying25 h
  rw [cellsVal] at hl
  match cs, hl with
  | [c0, c1, c2], _ =>
    simp only [cellsStr, cellsInt, List.drop_zero, List.take_succ_cons, List.take_zero, List.drop_succ_cons] at h0 h1 h2
    obtain ⟨a, e0, _, w0⟩ := DataW.trod_int Tryz.underlying3 h0
    obtain ⟨b, e1, _, w1⟩ := DataW.trod_int Tryz.underlying3 h1
    obtain ⟨s, e2, _, hs⟩ := DataW.trod_string Tryz.underlying9 h2
    injection e0 with e0; injection e1 with e1; injection e2 with e2
    subst e0 e1 e2
    exact ⟨⟨a, b, s⟩, rfl, fit_of_wf w0, fit_of_wf w1, hs⟩
set_option maxRecDepth 100000 in
theorem varCells_of (fuel : Nat) (cs : List Value) (y : DataW H × List MemPlace) (h : DataW.trod enc Tryz.prog w base spare held fuel 68 cs = some y) : ∃ x, RVar (Lt w.heap.size) w x cs := by
  obtain ⟨y0, y1, y2, y3, y4, n, hl, h0, h1, h2, h3, h4⟩ := trod_struct5 Tryz.underlying68 h
  rw [cellsVar] at hl
  match cs, hl with
  | [c0, c1, c2, c3, c4], _ =>
    simp only [cellsStr, cellsInt, cellsStrs, List.drop_zero, List.take_succ_cons, List.take_zero, List.drop_succ_cons] at h0 h1 h2 h3 h4
    obtain ⟨s, e0, _, hs⟩ := DataW.trod_string Tryz.underlying9 h0
    obtain ⟨a, e1, _, w1⟩ := DataW.trod_int Tryz.underlying3 h1
    obtain ⟨b, e2, _, w2⟩ := DataW.trod_int Tryz.underlying3 h2
    obtain ⟨c, e3, _, w3⟩ := DataW.trod_int Tryz.underlying3 h3
    obtain ⟨zs, hz⟩ := SlS.of_trod Tryz.underlying46 Tryz.underlying9 cellsStr h4
    injection e0 with e0; injection e1 with e1; injection e2 with e2; injection e3 with e3
    subst e0 e1 e2 e3
    exact ⟨⟨s, a, b, c, zs⟩, c4, rfl, hs, fit_of_wf w1, fit_of_wf w2, fit_of_wf w3, hz⟩
set_option maxRecDepth 100000 in
theorem slice_of {r : Reach} {b0 : Nat} {v : Value} {d : DataW H} {p : List MemPlace} {t e : TypeId} (hs : Tryz.prog.underlying t = some (.slice e)) (hv : Value.okWide Tryz.prog w r b0 t v) (h : DataW.Trod enc Tryz.prog w base spare held t v d p) : ∃ fuel x, DataW.trod enc Tryz.prog w base spare held fuel t [v] = some x := by
  obtain ⟨a, len, cap, rfl⟩ := okWide_slice hs hv
  obtain ⟨fuel, hf⟩ := h
  exact ⟨fuel, (d, p), hf⟩
set_option maxRecDepth 100000 in
theorem vars_of {r : Reach} {b0 : Nat} {v : Value} {d : DataW H} {p : List MemPlace} (hv : Value.okWide Tryz.prog w r b0 22 v) (h : DataW.Trod enc Tryz.prog w base spare held 22 v d p) : ∃ l, SlX (Lt w.heap.size) w v l := by
  obtain ⟨_, _, hy⟩ := slice_of Tryz.underlying22 hv h
  exact Sl.of_trod (R := RVar) (size := 5) Tryz.underlying22 cellsVar (by omega) varCells_of hy
set_option maxRecDepth 100000 in
theorem exCells_of : ∀ (N fuel : Nat), fuel ≤ N → ∀ (cs : List Value) (y : DataW H × List MemPlace), DataW.trod enc Tryz.prog w base spare held fuel 28 cs = some y → ∃ x, RExN N (Lt w.heap.size) w x cs := by
  intro N
  induction N with
  | zero =>
    intro fuel hf cs y h
    obtain ⟨_, _, _, _, n, hn, _⟩ := trod_struct4N Tryz.underlying28 h
    omega
  | succ N ih =>
    intro fuel hf cs y h
    obtain ⟨y0, y1, y2, y3, n, hn, hl, h0, h1, h2, h3⟩ := trod_struct4N Tryz.underlying28 h
    rw [cellsExpr] at hl
    match cs, hl with
    | [c0, c1, c2, c3, c4, c5], _ =>
      simp only [cellsStr, cellsInt, cellsVal, cellsExprs, List.drop_zero, List.take_succ_cons, List.take_zero, List.drop_succ_cons] at h0 h1 h2 h3
      obtain ⟨a, e0, _, w0⟩ := DataW.trod_int Tryz.underlying3 h0
      obtain ⟨v, ev, hfv⟩ := valCells_of _ _ _ h1
      obtain ⟨s, e2, _, hs⟩ := DataW.trod_string Tryz.underlying9 h2
      obtain ⟨zs, hz⟩ := Sl.of_trodN (R := RExN N) (size := 6) Tryz.underlying26 cellsExpr (by omega) (fun f hlt cs y hh => ih f (by omega) cs y hh) h3
      injection e0 with e0
      injection ev with e1 ev; injection ev with e3 ev; injection ev with e4 _
      injection e2 with e2
      subst e0 e1 e2 e3 e4
      exact ⟨.mk a v s zs, c5, rfl, fit_of_wf w0, hfv, hs, hz⟩
set_option maxRecDepth 100000 in
theorem ex_of {r : Go.Reach} {b0 : Nat} {v : Value} {dd : DataW H} {p : List MemPlace} (hv : Value.okWide Tryz.prog w r b0 28 v) (h : DataW.Trod enc Tryz.prog w base spare held 28 v dd p) : ∃ (n : Nat) (x : Ex), IsEx n (Lt w.heap.size) w v x := by
  obtain ⟨cs, rfl, hsz⟩ := okWide_struct Tryz.underlying28 hv
  rw [cellsExpr] at hsz
  obtain ⟨fuel, hf⟩ := h
  obtain ⟨l⟩ := cs
  match l, hsz with
  | [c0, c1, c2, c3, c4, c5], _ =>
    obtain ⟨x, hx⟩ := exCells_of (fuel + 1) fuel (by omega) _ _ hf
    obtain ⟨lv, ec, h1, h2, h3, h4⟩ := hx
    simp only [Value.cells] at ec
    injection ec with e0 ec; injection ec with e1 ec; injection ec with e2 ec; injection ec with e3 ec; injection ec with e4 ec; injection ec with e5 _
    subst e0 e1 e2 e3 e4 e5
    exact ⟨fuel, x, _, rfl, h1, h2, h3, h4⟩
end
theorem laid_at {P : Program} {w : World} {n : String} {d : DataW Unit} : ∀ {l : List (String × DataW Unit)} {ps : List MemPlace}, DataW.LaidVars P w l ps → (n, d) ∈ l →
    ∃ g t cs fuel p, P.globalNamed n = some g ∧ (P.globals[g]?).map (·.type) = some t ∧ w.var? P n = some cs ∧ DataW.trod (fun _ => ()) P w 0 (fun _ => true) false fuel t cs.toList = some (d, p) := by
  intro l
  induction l with
  | nil => intro ps _ h; cases h
  | cons a l ih =>
    intro ps h hm
    obtain ⟨n', d'⟩ := a
    obtain ⟨g, t, cs, fuel, p, q, h1, h2, h3, h4, h5, _⟩ := h
    rcases List.mem_cons.1 hm with e | hm
    · injection e with e1 e2
      subst e1 e2
      exact ⟨g, t, cs, fuel, p, h1, h2, h3, h4⟩
    · exact ih h5 hm
theorem tab_same : (Rows.laid_internal_strconv_uint64pow10 : DataW Unit) = Lib.tabData .u64 Lib.pow10Tab := by rfl
theorem gPow : Tryz.prog.globalNamed "internal/strconv.uint64pow10" = some 3 := by kernel_rfl
theorem tPow : (Tryz.prog.globals[3]?).map (·.type) = some 225 := by kernel_rfl
theorem tab_of {P : Program} {w : World} {n : String} {g : Nat} {t e : TypeId} {m : Nat} {k : IntKind} {zs : List Int} {l : List (String × DataW Unit)} {ps : List MemPlace} (hl : DataW.LaidVars P w l ps) (hm : (n, Lib.tabData k zs) ∈ l)
    (hg : P.globalNamed n = some g) (hty : (P.globals[g]?).map (·.type) = some t) (ht : P.underlying t = some (.array m e)) (he : P.underlying e = some (.int k)) (hce : P.cellsOf e = 1) (hct : P.cellsOf t = m) : Lib.TabIs P w n k zs := by
  obtain ⟨g', t', cs, fuel, p, h1, h2, h3, h4⟩ := laid_at hl hm
  obtain rfl := Option.some.inj (hg.symm.trans h1)
  obtain rfl := Option.some.inj (hty.symm.trans h2)
  unfold Lib.TabIs
  rw [h3, ← Lib.cells_of_tab ht he hce hct h4]
theorem laid_list : Rows.exprValuesRow.laid = [("math/bits.deBruijn32tab", Rows.laid_math_bits_deBruijn32tab), ("math/bits.deBruijn64tab", Rows.laid_math_bits_deBruijn64tab), ("internal/strconv.uint64pow10", Rows.laid_internal_strconv_uint64pow10), ("strconv.ErrRange", Rows.laid_strconv_ErrRange), ("strconv.ErrSyntax", Rows.laid_strconv_ErrSyntax)] := rfl
theorem cellsU64 : Tryz.prog.cellsOf 175 = 1 := by kernel_rfl
theorem cellsTab : Tryz.prog.cellsOf 225 = 20 := by kernel_rfl
theorem uTab : Tryz.prog.underlying 225 = some (.array 20 175) := by kernel_rfl
theorem uU64 : Tryz.prog.underlying 175 = some (.int .u64) := by kernel_rfl
theorem met_plain {w : World} (h : laidMetH Tryz.prog Rows.exprValuesRow.laid w) : laidMet Tryz.prog Rows.exprValuesRow.laid w := h
theorem amb_of {w : World} (h : laidMetH Tryz.prog Rows.exprValuesRow.laid w) : Amb w := by
  obtain ⟨ps, hl, _⟩ := met_plain h
  rw [laid_list] at hl
  exact ⟨tab_of hl (by rw [← tab_same]; simp only [List.mem_cons, true_or, or_true]) gPow tPow uTab uU64 cellsU64 cellsTab⟩
end Go.Proofs.YtijmnenojbfdnaaGreatDoor
