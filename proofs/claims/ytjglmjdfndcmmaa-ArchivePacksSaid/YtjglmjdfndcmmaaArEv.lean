/- Events in memory: how fields and events read. -/
import Derived.Test.YtjglmjdfndcmmaaArSpec
import Derived.Test.YtjglmjdfndcmmaaValBase
set_option linter.all false
namespace Go.Proofs.Ytjglmjdfndcmmaa
open Go.RowKit

structure FitFl (f : Fld) : Prop where
  nm : f.nm.size ≤ maxLen
  v : FitV f.v
structure FitEv (e : Ev) : Prop where
  cas : e.cas.size ≤ maxLen
  act : e.act.size ≤ maxLen
  res : e.res.size ≤ maxLen
  life : Fit e.life
  time : Fit e.time
def RFld : ElemR Fld := fun _ _ f cs => cs = [.string f.nm, .int .i64 f.v.kind, .int .i64 f.v.n, .string f.v.s] ∧ FitFl f
theorem RFld.kept : ElemR.Kept RFld := fun _ _ _ _ _ _ _ _ h => h
def SlFl := Sl 4 RFld
def REv : ElemR Ev := fun D w e cs => ∃ dv, cs = [.string e.cas, .string e.act, .string e.res, .int .i64 e.life, .int .i64 e.time, dv] ∧ FitEv e ∧ SlFl D w dv e.data
theorem REv.kept : ElemR.Kept REv := by
  rintro D D' w w' x cs hd hs ⟨dv, rfl, h1, hi⟩
  exact ⟨dv, rfl, h1, Sl.keep hi RFld.kept hd hs⟩
def SlEv := Sl 6 REv
def fldV (f : Fld) : Value := .agg #[.string f.nm, .int .i64 f.v.kind, .int .i64 f.v.n, .string f.v.s]
def evV (e : Ev) (dv : Value) : Value := .agg #[.string e.cas, .string e.act, .string e.res, .int .i64 e.life, .int .i64 e.time, dv]
def IsEv (D : Nat → Prop) (w : World) (u : Value) (e : Ev) : Prop := ∃ dv, u = evV e dv ∧ FitEv e ∧ SlFl D w dv e.data
/-- A log: its one field. -/
def IsLog (D : Nat → Prop) (w : World) (u : Value) (l : List Ev) : Prop := ∃ ev, u = .agg #[ev] ∧ SlEv D w ev l
section
variable {D : Nat → Prop} {w w' : World} {u : Value}
theorem SlFl.now {zs : List Fld} (h : SlFl (Lt w.heap.size) w u zs) (hb : Below w.heap.size w w') : SlFl (Lt w'.heap.size) w' u zs := Sl.below h RFld.kept hb hb.size
theorem SlEv.now {zs : List Ev} (h : SlEv (Lt w.heap.size) w u zs) (hb : Below w.heap.size w w') : SlEv (Lt w'.heap.size) w' u zs := Sl.below h REv.kept hb hb.size
theorem SlFl.below {zs : List Fld} {B B' : Nat} (h : SlFl (Lt B) w u zs) (hb : Below B w w') (hB : B ≤ B') : SlFl (Lt B') w' u zs := Sl.below h RFld.kept hb hB
theorem SlEv.below {zs : List Ev} {B B' : Nat} (h : SlEv (Lt B) w u zs) (hb : Below B w w') (hB : B ≤ B') : SlEv (Lt B') w' u zs := Sl.below h REv.kept hb hB
theorem IsEv.now {e : Ev} (h : IsEv (Lt w.heap.size) w u e) (hb : Below w.heap.size w w') : IsEv (Lt w'.heap.size) w' u e := by
  obtain ⟨dv, h1, h2, h3⟩ := h; exact ⟨dv, h1, h2, h3.now hb⟩
theorem IsEv.below {e : Ev} {B B' : Nat} (h : IsEv (Lt B) w u e) (hb : Below B w w') (hB : B ≤ B') : IsEv (Lt B') w' u e := by
  obtain ⟨dv, h1, h2, h3⟩ := h; exact ⟨dv, h1, h2, h3.below hb hB⟩
theorem IsLog.now {l : List Ev} (h : IsLog (Lt w.heap.size) w u l) (hb : Below w.heap.size w w') : IsLog (Lt w'.heap.size) w' u l := by
  obtain ⟨ev, h1, h2⟩ := h; exact ⟨ev, h1, h2.now hb⟩
theorem SlFl.open_ {zs : List Fld} (h : SlFl D w u zs) : ∃ A c, u = .slice A zs.length c ∧ zs.length ≤ c ∧ c ≤ 9223372036854775807 ∧ SlFl D w (.slice A zs.length c) zs := Sl.open_ h
theorem SlEv.open_ {zs : List Ev} (h : SlEv D w u zs) : ∃ A c, u = .slice A zs.length c ∧ zs.length ≤ c ∧ c ≤ 9223372036854775807 ∧ SlEv D w (.slice A zs.length c) zs := Sl.open_ h
theorem Sl.at4 {α : Type} {R : ElemR α} {xs : List α} {A : Option Addr} {n c k : Nat} (h : Sl 4 R D w (.slice A n c) xs) (hk : k < n) :
    ∃ b o x u0 u1 u2 u3, A = some ⟨b, o, none⟩ ∧ D b ∧ xs[k]? = some x ∧ R D w x [u0, u1, u2, u3] ∧ w.cell? ⟨b, o + k * 4, none⟩ = some u0 ∧ w.cell? ⟨b, o + k * 4 + 1, none⟩ = some u1 ∧ w.cell? ⟨b, o + k * 4 + 2, none⟩ = some u2 ∧ w.cell? ⟨b, o + k * 4 + 3, none⟩ = some u3 := by
  obtain ⟨A', c', hv, h1, h2, h3⟩ := h
  injection hv with hA hn hc
  subst hA hn hc
  obtain ⟨b, o, cs, hA, hD, hl, hr, hcell⟩ := h3 k xs[k] (List.getElem?_eq_getElem hk)
  match cs, hl with
  | [u0, u1, u2, u3], _ => exact ⟨b, o, xs[k], u0, u1, u2, u3, hA, hD, List.getElem?_eq_getElem hk, hr, hcell 0 u0 rfl, hcell 1 u1 rfl, hcell 2 u2 rfl, hcell 3 u3 rfl⟩
theorem Sl.at6 {α : Type} {R : ElemR α} {xs : List α} {A : Option Addr} {n c k : Nat} (h : Sl 6 R D w (.slice A n c) xs) (hk : k < n) :
    ∃ b o x u0 u1 u2 u3 u4 u5, A = some ⟨b, o, none⟩ ∧ D b ∧ xs[k]? = some x ∧ R D w x [u0, u1, u2, u3, u4, u5] ∧ w.cell? ⟨b, o + k * 6, none⟩ = some u0 ∧ w.cell? ⟨b, o + k * 6 + 1, none⟩ = some u1 ∧ w.cell? ⟨b, o + k * 6 + 2, none⟩ = some u2 ∧ w.cell? ⟨b, o + k * 6 + 3, none⟩ = some u3 ∧ w.cell? ⟨b, o + k * 6 + 4, none⟩ = some u4 ∧ w.cell? ⟨b, o + k * 6 + 5, none⟩ = some u5 := by
  obtain ⟨A', c', hv, h1, h2, h3⟩ := h
  injection hv with hA hn hc
  subst hA hn hc
  obtain ⟨b, o, cs, hA, hD, hl, hr, hcell⟩ := h3 k xs[k] (List.getElem?_eq_getElem hk)
  match cs, hl with
  | [u0, u1, u2, u3, u4, u5], _ => exact ⟨b, o, xs[k], u0, u1, u2, u3, u4, u5, hA, hD, List.getElem?_eq_getElem hk, hr, hcell 0 u0 rfl, hcell 1 u1 rfl, hcell 2 u2 rfl, hcell 3 u3 rfl, hcell 4 u4 rfl, hcell 5 u5 rfl⟩
theorem SlFl.at_ {zs : List Fld} {A : Option Addr} {n c k : Nat} (h : SlFl D w (.slice A n c) zs) (hk : k < n) :
    ∃ b o f, A = some ⟨b, o, none⟩ ∧ D b ∧ zs[k]? = some f ∧ FitFl f ∧ w.cell? ⟨b, o + k * 4, none⟩ = some (.string f.nm) ∧ w.cell? ⟨b, o + k * 4 + 1, none⟩ = some (.int .i64 f.v.kind) ∧ w.cell? ⟨b, o + k * 4 + 2, none⟩ = some (.int .i64 f.v.n) ∧ w.cell? ⟨b, o + k * 4 + 3, none⟩ = some (.string f.v.s) := by
  obtain ⟨b, o, x, u0, u1, u2, u3, hA, hD, hx, ⟨hu, hf⟩, h0, h1, h2, h3⟩ := Sl.at4 h hk
  injection hu with e0 hu; injection hu with e1 hu; injection hu with e2 hu; injection hu with e3 hu
  subst e0 e1 e2 e3
  exact ⟨b, o, x, hA, hD, hx, hf, h0, h1, h2, h3⟩
theorem SlEv.at_ {zs : List Ev} {A : Option Addr} {n c k : Nat} (h : SlEv D w (.slice A n c) zs) (hk : k < n) :
    ∃ b o e dv, A = some ⟨b, o, none⟩ ∧ D b ∧ zs[k]? = some e ∧ FitEv e ∧ SlFl D w dv e.data ∧ w.cell? ⟨b, o + k * 6, none⟩ = some (.string e.cas) ∧ w.cell? ⟨b, o + k * 6 + 1, none⟩ = some (.string e.act) ∧ w.cell? ⟨b, o + k * 6 + 2, none⟩ = some (.string e.res) ∧ w.cell? ⟨b, o + k * 6 + 3, none⟩ = some (.int .i64 e.life) ∧ w.cell? ⟨b, o + k * 6 + 4, none⟩ = some (.int .i64 e.time) ∧ w.cell? ⟨b, o + k * 6 + 5, none⟩ = some dv := by
  obtain ⟨b, o, x, u0, u1, u2, u3, u4, u5, hA, hD, hx, ⟨dv, hu, hf, hd⟩, h0, h1, h2, h3, h4, h5⟩ := Sl.at6 h hk
  injection hu with e0 hu; injection hu with e1 hu; injection hu with e2 hu; injection hu with e3 hu; injection hu with e4 hu; injection hu with e5 hu
  subst e0 e1 e2 e3 e4 e5
  exact ⟨b, o, x, u5, hA, hD, hx, hf, hd, h0, h1, h2, h3, h4, h5⟩
end
/-- A part of a slice reads as a part of the list. -/
theorem Sl.sub {α : Type} {R : ElemR α} {size : Nat} {D : Nat → Prop} {w : World} {b o n c : Nat} {xs : List α} (h : Sl size R D w (.slice (some ⟨b, o, none⟩) n c) xs) (i m c' : Nat) (hi : i + m ≤ n) (hm : m ≤ c') (hc : c' ≤ maxLen) :
    Sl size R D w (.slice (some ⟨b, o + i * size, none⟩) m c') ((xs.drop i).take m) := by
  obtain ⟨A', c0, hv, h1, h2, h3⟩ := h
  injection hv with hA hn hcc
  subst hn hcc
  have hl : ((xs.drop i).take m).length = m := by rw [List.length_take, List.length_drop]; omega
  refine ⟨some ⟨b, o + i * size, none⟩, c', by rw [hl], by rw [hl]; exact hm, hc, fun k x hx => ?_⟩
  have hk : k < m := by
    rcases Nat.lt_or_ge k m with h | h
    · exact h
    · rw [List.getElem?_eq_none (by rw [hl]; exact h)] at hx; cases hx
  rw [List.getElem?_take, if_pos hk, List.getElem?_drop] at hx
  obtain ⟨b', o', cs, hA', hD, hcl, hR, hcell⟩ := h3 (i + k) x hx
  rw [← hA] at hA'
  injection hA' with hA'
  injection hA' with e1 e2 _
  subst e1 e2
  refine ⟨b, o + i * size, cs, rfl, hD, hcl, hR, fun j u hu => ?_⟩
  have := hcell j u hu
  rw [show o + i * size + k * size + j = o + (i + k) * size + j by rw [Nat.add_mul]; omega]
  exact this
end Go.Proofs.Ytjglmjdfndcmmaa
