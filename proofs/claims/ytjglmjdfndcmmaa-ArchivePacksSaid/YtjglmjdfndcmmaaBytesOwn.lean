/- Rows of bytes that a call makes; their string. -/
import Derived.Test.YtjglmjdfndcmmaaOwnW
import Derived.Laws.IdiomStrings
import Derived.Laws.BytesString
import Derived.Test.YtjglmjdfndcmmaaProg
set_option linter.all false
namespace Go.Proofs.Ytjglmjdfndcmmaa
open Go.RowKit

theorem conv_nil {P : Program} (w : World) (src dst e : TypeId) (c : Nat) (hs : P.underlying src = some (.slice e)) (he : P.underlying e = some (.int .u8)) (hd : P.underlying dst = some .string) :
    (convert src dst (.slice none 0 c)).run P w = .ok (.string ⟨#[]⟩) w := by
  rw [run_convert_bytes_string w src dst e none 0 c hs he hd]
  simp [Conv.bytesToString]
  rfl
def cellC (c : UInt8) : List Value := [.int .u8 (c.toNat : Int)]
theorem cellC_one (c : UInt8) : ∀ u ∈ cellC c, u.oneCell' = true := by intro u hu; simp [cellC] at hu; subst hu; rfl
def OwnC (w : World) (base : Nat) (v : Value) (l : List UInt8) : Prop := OwnW 1 cellC w base 5 v l
theorem appBytes : AppInfo Try.prog 25 5 1 := AppInfo.mk' (z := .int .u8 0) (bytes := 1) Try.underlying25 (by kernel_rfl) (by decide) rfl (by decide)
theorem flatC (l : List UInt8) : flat cellC l = l.map fun c => .int .u8 (c.toNat : Int) := by
  unfold flat cellC
  induction l with
  | nil => rfl
  | cons a l ih => rw [List.flatMap_cons, ih]; rfl
theorem OwnC.now {w w' : World} {base : Nat} {v : Value} {l : List UInt8} (h : OwnC w base v l) (hb : Below w.heap.size w w') : OwnC w' base v l := OwnW.now h hb
/-- 'string(b)' of a row of the call's own. -/
theorem OwnC.conv {w : World} {base : Nat} {v : Value} {l : List UInt8} (h : OwnC w base v l) : (convert 25 9 v).run Try.prog w = .ok (.string ⟨l.toArray⟩) w := by
  rcases Nat.eq_zero_or_pos l.length with h0 | h0
  · have : l = [] := List.eq_nil_of_length_eq_zero h0
    subst this
    rcases h.2 with ⟨rfl, _⟩ | ⟨g, cap, cur, rfl, _⟩
    · exact conv_nil w _ _ _ 0 Try.underlying25 Try.underlying5 Try.underlying9
    · exact run_convert_bytes_back w _ _ _ ⟨g, 0, none⟩ cap [] Try.underlying25 Try.underlying5 Try.underlying9 (fun j hj => absurd hj (by simp))
  · obtain ⟨g, cap, rfl, _, _, _⟩ := OwnW.form h h0
    refine run_convert_bytes_back w _ _ _ ⟨g, 0, none⟩ cap l Try.underlying25 Try.underlying5 Try.underlying9 (fun j hj => ?_)
    have hc := World.ownsRow.cellAt h j (by omega)
    have e : ((⟨g, 0, none⟩ : Addr).add j) = ⟨g, j, none⟩ := by unfold Addr.add; by_cases hj : j = 0 <;> simp [hj]
    rw [e, hc, flatC]
    simp [List.getElem?_eq_getElem hj]
/-- '[]byte of one byte'. -/
theorem OwnC.one (w : World) (c : UInt8) : OwnC (w.alloc (.cells #[.int .u8 (c.toNat : Int)] 5)) w.heap.size (.slice (some ⟨w.heap.size, 0, none⟩) 1 1) [c] := by
  have := World.ownsRow_lit (base := w.heap.size) (e := 5) (size := 1) w #[.int .u8 (c.toNat : Int)] 1 (Nat.le_refl _) (by unfold maxLen; omega) rfl
  exact this
end Go.Proofs.Ytjglmjdfndcmmaa
