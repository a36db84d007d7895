/- Texts of this seat, merged. -/
import Derived.Deep.QuietTactic
import Derived.BigQuiet
import Derived.Test.YtjglmjdfndcmmaaZb01
import Derived.Test.YtjglmjdfndcmmaaZb02
import Derived.Test.YtjglmjdfndcmmaaZb03
import Derived.Test.YtjglmjdfndcmmaaZb04
import Derived.Test.YtjglmjdfndcmmaaZb14
set_option linter.all false
set_option linter.all false
namespace Go.Proofs.Ytjglmjdfndcmmaa
open Go.RowKit
def RetInsO (l : List Bs) (s : Bs) (w : World) (e : Ending) (w' : World) : Prop := ∃ v' r, e = .returned v' ∧ OwnS w' w.heap.size v' r ∧ InsRes l s r ∧ Below w.heap.size w w'
def sameS (s : ByteArray) (y : ByteArray) : Bool := y.toList == s.toList
end Go.Proofs.Ytjglmjdfndcmmaa

set_option linter.all false
namespace Go.Proofs.Ytjglmjdfndcmmaa
open Go.RowKit
def colE (k : Nat) (e : Ev) : ByteArray := if k = 0 then e.cas else if k = 1 then e.act else e.res
def col (k : Nat) (es : List Ev) : List Bs := es.map fun e => (colE k e).data.toList
theorem col_len (k : Nat) (es : List Ev) : (col k es).length = es.length := List.length_map _
theorem names3_col {es : List Ev} {x : Bs} : x ∈ names3 es ↔ ∃ j, j < 3 ∧ x ∈ col j es := by
  unfold names3
  simp only [List.mem_append]
  constructor
  · rintro (h | h | h)
    · exact ⟨0, by omega, h⟩
    · exact ⟨1, by omega, h⟩
    · exact ⟨2, by omega, h⟩
  · rintro ⟨j, hj, h⟩
    rcases (show j = 0 ∨ j = 1 ∨ j = 2 by omega) with rfl | rfl | rfl
    · exact .inl h
    · exact .inr (.inl h)
    · exact .inr (.inr h)
theorem SlEv.fit {D : Nat → Prop} {w : World} {v : Value} {es : List Ev} (h : SlEv D w v es) : ∀ e ∈ es, FitEv e := by
  intro e he
  obtain ⟨A, c, rfl, _, _, h⟩ := h.open_
  obtain ⟨k, hk, rfl⟩ := List.mem_iff_getElem.1 he
  obtain ⟨_, _, z, _, _, _, hz, hf, _⟩ := SlEv.at_ h (k := k) hk
  rw [List.getElem?_eq_getElem hk] at hz
  injection hz with hz
  rw [hz]; exact hf
theorem col_fit {es : List Ev} (h : ∀ e ∈ es, FitEv e) {k : Nat} : ∀ x ∈ col k es, x.length ≤ maxLen := by
  intro x hx
  obtain ⟨e, he, rfl⟩ := List.mem_map.1 hx
  rw [size_eq]
  have := h e he
  unfold colE
  split
  · exact this.cas
  · split
    · exact this.act
    · exact this.res
structure DictInv (es : List Ev) (k i : Nat) (out : List Bs) : Prop where
  asc : Asc out
  mem : ∀ x, x ∈ out ↔ (∃ j, j < k ∧ x ∈ col j es) ∨ x ∈ (col k es).take i
  len : out.length ≤ k * es.length + i
theorem DictInv.start (es : List Ev) : DictInv es 0 0 [] := ⟨by simp [Asc], by simp, by simp⟩
theorem DictInv.next {es : List Ev} {k : Nat} {out : List Bs} (h : DictInv es k es.length out) : DictInv es (k + 1) 0 out := by
  refine ⟨h.asc, fun x => ?_, by have := h.len; rw [Nat.add_mul]; omega⟩
  rw [h.mem x, List.take_of_length_le (by rw [col_len]; exact Nat.le_refl _)]
  constructor
  · rintro (⟨j, hj, hx⟩ | hx)
    · exact .inl ⟨j, by omega, hx⟩
    · exact .inl ⟨k, by omega, hx⟩
  · rintro (⟨j, hj, hx⟩ | hx)
    · rcases (show j < k ∨ j = k by omega) with h1 | rfl
      · exact .inl ⟨j, h1, hx⟩
      · exact .inr hx
    · simp at hx
theorem DictInv.new {es : List Ev} {k i : Nat} {out r : List Bs} {s : Bs} (h : DictInv es k i out) (hs : (col k es)[i]? = some s) (hr : InsRes out s r) : DictInv es k (i + 1) r := by
  refine ⟨hr.1, fun x => ?_, by have := h.len; have := hr.2.2; omega⟩
  rw [take_next hs, List.mem_append, List.mem_singleton, ← or_assoc, ← h.mem x]
  exact hr.2.1 x
theorem DictInv.done {es : List Ev} {out : List Bs} (h : DictInv es 3 0 out) : out = words es := by
  refine setB_unique h.asc fun x => ?_
  rw [h.mem x, names3_col]
  simp
theorem DictInv.fit {es : List Ev} {k i : Nat} {out : List Bs} (h : DictInv es k i out) (hf : ∀ e ∈ es, FitEv e) : ∀ x ∈ out, x.length ≤ maxLen := by
  intro x hx
  rcases (h.mem x).1 hx with ⟨j, _, hx⟩ | hx
  · exact col_fit hf x hx
  · exact col_fit hf x (List.mem_of_mem_take hx)
-- WALKS
theorem OwnS.now {w w' : World} {base : Nat} {v : Value} {ss : List Bs} (h : OwnS w base v ss) (hb : Below w.heap.size w w') : OwnS w' base v ss := own_now h hb
end Go.Proofs.Ytjglmjdfndcmmaa

set_option linter.all false
namespace Go.Proofs.Ytjglmjdfndcmmaa
open Go.RowKit
end Go.Proofs.Ytjglmjdfndcmmaa
