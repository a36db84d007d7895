/- Texts of this seat, merged. -/
import Derived.Test.YtjglmjdfndcmmaaZb01
import Derived.Test.YtjglmjdfndcmmaaZb02
import Derived.Test.YtjglmjdfndcmmaaZb03
import Derived.Test.YtjglmjdfndcmmaaZb04
import Derived.Test.YtjglmjdfndcmmaaZb15
set_option linter.all false
set_option linter.all false
namespace Go.Proofs.Ytjglmjdfndcmmaa
open Go.RowKit
def cellN (x : Nat) : List Value := [.int .i64 (x : Int)]
abbrev OwnN (w : World) (base : Nat) (v : Value) (l : List Nat) : Prop := OwnW 1 cellN w base 3 v l
theorem flatN (l : List Nat) : flat cellN l = l.map fun x => .int .i64 (x : Int) := by
  unfold flat cellN
  induction l with
  | nil => rfl
  | cons a l ih => rw [List.flatMap_cons, ih]; rfl
theorem OwnN.isSlice {w : World} {base : Nat} {v : Value} {l : List Nat} (h : OwnN w base v l) : ∃ A c, v = .slice A l.length c := by
  rcases h.2 with ⟨rfl, h0⟩ | ⟨g, cap, cur, rfl, _⟩
  · exact ⟨none, 0, by rw [h0]⟩
  · exact ⟨some ⟨g, 0, none⟩, cap, rfl⟩
theorem OwnN.keepX {w w' : World} {base : Nat} {v : Value} {l : List Nat} (h : OwnN w base v l) (k : KeepX w w') : OwnN w' base v l :=
  own_same h fun g hg => by
    obtain ⟨cs, fz, hc⟩ := Lib.ownsRow_kind h g hg
    exact k.same g (Array.getElem?_eq_some_iff.1 hc).1 (fun c f e => by
      rw [hc] at e
      injection e with e
      injection e with _ e2 _
      exact absurd e2 (by decide))
theorem OwnN.cell {w : World} {base g c : Nat} {l : List Nat} (h : OwnN w base (.slice (some ⟨g, 0, none⟩) l.length c) l) {k x : Nat} (hx : l[k]? = some x) : w.cell? ⟨g, k, none⟩ = some (.int .i64 (x : Int)) := by
  have hk : k < l.length := (List.getElem?_eq_some_iff.1 hx).1
  have := World.ownsRow.cellAt h k (by rw [Nat.mul_one]; exact hk)
  refine Eq.trans this ?_
  rw [flatN, List.getElem?_map, hx]; rfl
theorem OwnN.at_ {w : World} {base n c : Nat} {A : Option Addr} {l : List Nat} (h : OwnN w base (.slice A n c) l) {k : Nat} (hk : k < l.length) :
    ∃ g x, A = some ⟨g, 0, none⟩ ∧ n = l.length ∧ l[k]? = some x ∧ g < w.heap.size ∧ base ≤ g := by
  obtain ⟨g, cap, hv, _, hgb, hgs⟩ := OwnW.form h (by omega)
  injection hv with e1 e2 e3
  exact ⟨g, l[k], e1, e2, List.getElem?_eq_getElem hk, hgs, hgb⟩
end Go.Proofs.Ytjglmjdfndcmmaa
