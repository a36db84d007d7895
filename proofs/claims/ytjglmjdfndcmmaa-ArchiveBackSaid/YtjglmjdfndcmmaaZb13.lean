/- Texts of this seat, merged. -/
import Derived.Laws.IdiomStrings
import Derived.Test.YtjglmjdfndcmmaaZb01
import Derived.Test.YtjglmjdfndcmmaaZb02
import Derived.Test.YtjglmjdfndcmmaaZb09
import Derived.Test.YtjglmjdfndcmmaaZb10
import Derived.Test.YtjglmjdfndcmmaaZb11
import Derived.Test.YtjglmjdfndcmmaaZb12
set_option linter.all false
set_option linter.all false
namespace Go.Proofs.Ytjglmjdfndcmmaa
open Go.RowKit
structure GotU (l : List UInt8) (q : Bool) (s : ByteArray) (l' : List UInt8) (q' : Bool) : Prop where
  size : s.size ≤ 1000
  up : q' = false → q = false
  whole : ∀ s0 t, q = false → l = arText s0 ++ t → s0.length ≤ 1000 → s.data.toList = s0 ∧ l' = t ∧ q' = false
def RetU (B R : Nat) (all : List UInt8) (I : Nat) (q : Bool) (w : World) (e : Ending) (w' : World) : Prop := ∃ (s : ByteArray) (I' : Nat) (q' : Bool), e = .returned (.string s) ∧ RdR B w' R all I' q' ∧ I ≤ I' ∧ GotU (all.drop I) q s (all.drop I') q' ∧ Chg (One R) w w'
theorem GotM.text {l l1 : List UInt8} {q q1 : Bool} {n : Nat} (h : GotM 1000 l q n l1 q1) {s0 t : List UInt8} (hq : q = false) (he : l = arText s0 ++ t) (hs : s0.length ≤ 1000) : n = s0.length ∧ l1 = s0 ++ t ∧ q1 = false :=
  h.whole _ _ hq (by rw [he]; unfold arText; rw [List.append_assoc]) (by omega) (by omega)
end Go.Proofs.Ytjglmjdfndcmmaa
