/- A map[string]int that the call makes; its keys, sorted. -/
import Derived.Test.YtjglmjdfndcmmaaProg
import Derived.Test.YtjglmjdfndcmmaaOwn
import Derived.Test.YtjglmjdfndcmmaaSortSpec
import Derived.Maps.OwnOps
import Derived.Maps.OwnSet
import Derived.Maps.Views
import Derived.Maps.Keyed
import Derived.StringKeys
import Derived.Sort.KeysCollected
set_option linter.all false
namespace Go.Proofs.Ytjglmjdfndcmmaa
open Go.RowKit Go.Maps Go.WideMaps

theorem wfn {k : Nat} (hk : k < 10000000) : (Lit.int .i64 (k : Int)).wf = true := by
  unfold Lit.wf
  rw [Bool.and_eq_true, decide_eq_true_eq, decide_eq_true_eq]
  have h1 : IntKind.i64.min = -9223372036854775808 := by decide
  have h2 : IntKind.i64.max = 9223372036854775807 := by decide
  omega
theorem perm_setB {ss ks ts : List Bs} (h : ss.Perm ts) (hts : ts.Nodup) (hm : ∀ x, x ∈ ts ↔ x ∈ ks) : ss.mergeSort (fun x y => decide (x ≤ y)) = setB ks := by
  have h1 : (setB ks).Perm ts := (List.perm_ext_iff_of_nodup (asc_nodup (setB_asc ks)) hts).2 fun x => by rw [setB_mem, hm]
  have h2 := mergeSort_of_perm (h.trans h1.symm)
  refine h2.trans ?_
  have hs := setB_asc ks
  refine List.mergeSort_of_pairwise ?_
  exact hs.imp fun {a b} (hab : a < b) => by simpa using List.le_of_lt hab

/-- Block b is a map that gives f. -/
def MapN (w : World) (b n : Nat) (f : Bs → Option Nat) : Prop :=
  ∃ D : DataW Unit, w.ownsMap Try.prog 9 (plainElem Try.prog 3) b n D ∧ IsMap D ∧ (∀ s : Bs, has D (.string s) = (f s).isSome) ∧ ∀ s : Bs, D.atKey (.string s) (.lit (.int .i64 0)) = .lit (.int .i64 (((f s).getD 0 : Nat) : Int))
theorem MapN.made (w : World) : MapN (w.alloc (.map #[] 0)) w.heap.size 0 fun _ => none :=
  ⟨.map [], World.ownsMap_made w _ _ _, isMap_empty, fun s => rfl, fun s => rfl⟩
theorem MapN.now {w w' : World} {b n : Nat} {f : Bs → Option Nat} (h : MapN w b n f) (hb : Below w.heap.size w w') : MapN w' b n f := by
  obtain ⟨D, h1, h2, h3⟩ := h
  exact ⟨D, h1.kept (grown_of_below hb none) (by simp), h2, h3⟩
theorem MapN.grown {w w' : World} {b n : Nat} {f : Bs → Option Nat} {row : Option Nat} (h : MapN w b n f) (hb : w.grownBy w' row) (hne : some b ≠ row) : MapN w' b n f := by
  obtain ⟨D, h1, h2, h3⟩ := h
  exact ⟨D, h1.kept hb hne, h2, h3⟩
theorem MapN.lt {w : World} {b n : Nat} {f : Bs → Option Nat} (h : MapN w b n f) : b < w.heap.size := by
  obtain ⟨D, h1, _⟩ := h
  exact h1.lt
/-- A block of cells is another block. -/
theorem MapN.ne {w : World} {b n g : Nat} {f : Bs → Option Nat} (h : MapN w b n f) {cs : Array Value} {t : TypeId} {fz : Nat × Nat} (hg : w.heap[g]? = some (.cells cs t fz)) : some b ≠ some g := by
  rintro ⟨⟩
  obtain ⟨D, ⟨es, clock, hb, _⟩, _⟩ := h
  rw [hb] at hg; cases hg
theorem MapN.look {w : World} {b n : Nat} {f : Bs → Option Nat} (h : MapN w b n f) {s : ByteArray} (hs : s.size ≤ maxLen) :
    (Instr.lookup 114 (.map (some b)) (.string s) false).run Try.prog w = .ok (.int .i64 (((f s.data.toList).getD 0 : Nat) : Int)) w := by
  obtain ⟨D, h1, h2, h3, h4⟩ := h
  have hz : (zeroValue 3).run Try.prog w = .ok (.int .i64 0) w := by kernel_rfl
  obtain ⟨v, ps, hrun, hv⟩ := h1.lookup (string_keyed Try.underlying9) Try.underlying114 hz (plainElem_int Try.underlying3 (by decide)) (keyOf_string_mk Try.underlying9 hs)
  obtain ⟨c, rfl, hc, _⟩ := plainElem_int_inv Try.underlying3 hv
  rw [h4] at hc
  simp only [Prod.mk.injEq, DataW.lit.injEq, Lit.int.injEq] at hc
  rw [hc.1.2]
  exact hrun
theorem MapN.put {w : World} {b n : Nat} {f : Bs → Option Nat} (h : MapN w b n f) {s : ByteArray} (hs : s.size ≤ maxLen) (hn : n < maxLen) {k : Nat} (hk : k < 10000000) :
    ∃ w', (Instr.mapUpdate 114 (.map (some b)) (.string s) (.int .i64 (k : Int))).run Try.prog w = .ok () w' ∧ MapN w' b (n + 1) (fun t => if t = s.data.toList then some k else f t) ∧ w.grownBy w' (some b) := by
  obtain ⟨D, h1, h2, h3, h4⟩ := h
  obtain ⟨w', r0, r1, r2⟩ := h1.update (string_keyed Try.underlying9) Try.underlying114 hn (keyOf_string_mk Try.underlying9 hs) (plainElem_int Try.underlying3 (wfn hk))
  refine ⟨w', r0, ⟨_, r1, h2.put _ _, fun t => ?_, fun t => ?_⟩, r2⟩
  · by_cases e : t = s.data.toList
    · subst e
      rw [has_put_same h2 (by simp [WideAt.IsKeyLit])]; dsimp only; rw [if_pos rfl]; rfl
    · rw [has_put_other (by simpa using e), h3]; dsimp only; rw [if_neg e]
  · by_cases e : t = s.data.toList
    · subst e
      rw [atKey_put_same h2 (by simp [WideAt.IsKeyLit])]; dsimp only; rw [if_pos rfl]; rfl
    · rw [atKey_put_other (by simpa using e), h4]; dsimp only; rw [if_neg e]
theorem MapN.mono {w : World} {b n m : Nat} {f : Bs → Option Nat} (h : MapN w b n f) (hm : n ≤ m) : MapN w b m f := by
  obtain ⟨D, h1, h2⟩ := h
  exact ⟨D, h1.mono hm, h2⟩
/-- The keys of the map, in whatever order. -/
theorem MapN.keys {w : World} {b n : Nat} {f : Bs → Option Nat} {ks : List Bs} (h : MapN w b n f) (hf : ∀ s, (f s).isSome = true ↔ s ∈ ks) :
    ∃ D : DataW Unit, w.ownsMap Try.prog 9 (plainElem Try.prog 3) b n D ∧ Maps.size D ≤ n ∧ ∀ ss : List Bs, ss.Perm (strKeys D) → ss.mergeSort (fun x y => decide (x ≤ y)) = setB ks := by
  obtain ⟨D, h1, h2, h3, h4⟩ := h
  refine ⟨D, h1, h1.size_le, fun ss hss => ?_⟩
  obtain ⟨es, hD, hpw, _⟩ := h1.entries (string_keyed Try.underlying9)
  obtain ⟨es', hD', hko⟩ := h1.keysOf
  obtain rfl : es = es' := by rw [hD] at hD'; simpa using hD'
  subst hD
  have hp := perm_strKeys (ss := setB ks) hpw (fun p hp => by obtain ⟨v, hv⟩ := hko p hp; obtain ⟨x, _, hx, _⟩ := Maps.keyOf_str Try.underlying9 hv; exact ⟨x, hx⟩) (asc_nodup (setB_asc ks)) (fun x => by rw [setB_mem, h3, hf])
  exact perm_setB (hss.trans hp.symm) (asc_nodup (setB_asc ks)) (fun x => setB_mem ks x)
/-- The store, at the operation. -/
theorem MapN.store {w : World} {ops : Array Oper} {rest : List Oper} {o : Oper} {a : Act} {Q : Exit → Act → World → Prop} {b n : Nat} {f : Bs → Option Nat} {s : ByteArray} {k : Nat}
    (h : MapN w b n f) (hs : s.size ≤ maxLen) (hn : n < maxLen) (hk : k < 10000000) (hg : o.guard = none) (m x v : Operand) (hop : o.op = Op.mapUpdate 114 m x v)
    (hm : a.eval m = .map (some b)) (hx : a.eval x = .string s) (hv : a.eval v = .int .i64 (k : Int))
    (hK : ∀ w', MapN w' b (n + 1) (fun t => if t = s.data.toList then some k else f t) → w.grownBy w' (some b) → wpList Try.prog ops Q rest (a.put o.dst undef) w') :
    wpList Try.prog ops Q (o :: rest) a w := by
  refine wpList_plain hg fun K' hK' => ?_
  obtain ⟨w', hrun, r1, r2⟩ := h.put hs hn hk
  unfold Oper.wp
  simp [execOp, hop, hm, hx, hv, hrun, Result.andThen]
  exact hK' _ _ (hK w' r1 r2)
end Go.Proofs.Ytjglmjdfndcmmaa
