/- Texts of this seat, merged. -/
import Derived.Test.YtjglmjdfndcmmaaZb01
import Derived.Test.YtjglmjdfndcmmaaZb02
import Derived.Test.YtjglmjdfndcmmaaZb03
import Derived.Test.YtjglmjdfndcmmaaZb09
import Derived.Test.YtjglmjdfndcmmaaZb10
import Derived.Test.YtjglmjdfndcmmaaZb11
import Derived.Test.YtjglmjdfndcmmaaZb12
import Derived.Test.YtjglmjdfndcmmaaZb13
set_option linter.all false
set_option linter.all false
namespace Go.Proofs.Ytjglmjdfndcmmaa
open Go.RowKit
structure GotW (l : List UInt8) (q : Bool) (v : Val) (l' : List UInt8) (q' : Bool) : Prop where
  fit : FitV v
  up : q' = false → q = false
  whole : ∀ v0 t, q = false → validV v0 = true → l = arVal v0 ++ t → v = v0 ∧ l' = t ∧ q' = false
theorem GotM.kind {l l1 : List UInt8} {q q1 : Bool} {k : Nat} (h : GotM 3 l q k l1 q1) {v0 : Val} {t r : List UInt8} {m : Nat} (hq : q = false) (hm : m ≤ 3) (he : arVal v0 = arNum m ++ r) (hl : l = arVal v0 ++ t) : k = m ∧ l1 = r ++ t ∧ q1 = false :=
  h.whole m (r ++ t) hq (by rw [hl, he, List.append_assoc]) (by omega) (by omega)
def RetW (B R : Nat) (all : List UInt8) (I : Nat) (q : Bool) (w : World) (e : Ending) (w' : World) : Prop := ∃ (v : Val) (I' : Nat) (q' : Bool), e = .returned (.agg #[.int .i64 v.kind, .int .i64 v.n, .string v.s]) ∧ RdR B w' R all I' q' ∧ I ≤ I' ∧ GotW (all.drop I) q v (all.drop I') q' ∧ Chg (One R) w w'
end Go.Proofs.Ytjglmjdfndcmmaa

namespace Go.Proofs.Ytjglmjdfndcmmaa
open Go.RowKit
theorem appStrs : AppInfo Try.prog 51 9 1 := AppInfo.mk' Try.underlying51 (by kernel_rfl) (bytes := 16) (z := .string ⟨#[]⟩) (by omega) rfl (by omega)
def RetIns (l : List Bs) (s : Bs) (w : World) (e : Ending) (w' : World) : Prop := ∃ v' r, e = .returned v' ∧ SlS (Lt w'.heap.size) w' v' (r.map mkS) ∧ InsRes l s r ∧ Below w.heap.size w w'
end Go.Proofs.Ytjglmjdfndcmmaa
