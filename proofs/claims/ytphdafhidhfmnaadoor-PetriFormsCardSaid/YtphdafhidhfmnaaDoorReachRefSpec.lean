/- The reference's search by a queue, plainly: what is found is all that is reached. No program in sight. -/
import Derived.Test.YtphdafhidhfmnaaDoorReachSpec
namespace Go.Proofs.YtphdafhidhfmnaaDoor
open Go.RowKit

/-- The place q has been looked at along the transition t: all that it leads to is found. -/
def Served (zs : List Int) (q : Int) (t : List Int × List Int) : Prop := q ∈ t.1 → ∀ r ∈ t.2, r ∈ zs
/-- How far the queue has come. -/
structure QInv (ts : List (List Int × List Int)) (P : Int) (a : Int) (zs : List Int) : Prop where
  nodup : zs.Nodup
  has : a ∈ zs
  ok : ∀ z ∈ zs, Reach ts a z
  inP : ∀ z ∈ zs, 0 ≤ z ∧ z < P
def DoneI (ts : List (List Int × List Int)) (zs : List Int) (i : Nat) : Prop := ∀ (j : Nat) (q : Int), j < i → zs[j]? = some q → ∀ t ∈ ts, Served zs q t
def DoneK (ts : List (List Int × List Int)) (zs : List Int) (q : Int) (k : Nat) : Prop := ∀ (j : Nat) t, j < k → ts[j]? = some t → Served zs q t

theorem QInv.start {ts : List (List Int × List Int)} {P a : Int} (h : 0 ≤ a ∧ a < P) : QInv ts P a [a] :=
  ⟨by simp, by simp, fun z hz => by simp at hz; rw [hz]; exact Reach.start _ _, fun z hz => by simp at hz; rw [hz]; exact h⟩
theorem nodup_len (P : Nat) : ∀ (zs : List Int), zs.Nodup → (∀ z ∈ zs, 0 ≤ z ∧ z < (P : Int)) → zs.length ≤ P := by
  induction P with
  | zero =>
    intro zs _ h
    cases zs with
    | nil => simp
    | cons z zs => have := h z (by simp); omega
  | succ P ih =>
    intro zs hn h
    have h1 : (zs.erase (P : Int)).Nodup := hn.erase _
    have h2 := ih (zs.erase (P : Int)) h1 (fun z hz => by
      have hz' := (List.Nodup.mem_erase_iff hn).1 hz
      have := h z hz'.2
      have := hz'.1
      omega)
    have := List.length_erase (a := (P : Int)) (l := zs)
    split at this <;> omega
theorem QInv.len {ts : List (List Int × List Int)} {P a : Int} {zs : List Int} (h : QInv ts P a zs) (hP : 0 ≤ P) : zs.length ≤ P.toNat :=
  nodup_len P.toNat zs h.nodup (fun z hz => by have := h.inP z hz; omega)
theorem QInv.push {ts : List (List Int × List Int)} {P a : Int} {zs : List Int} {r : Int} (h : QInv ts P a zs) (hr : r ∉ zs) (hR : Reach ts a r) (hi : 0 ≤ r ∧ r < P) : QInv ts P a (zs ++ [r]) := by
  refine ⟨?_, by simp [h.has], ?_, ?_⟩
  · rw [List.nodup_append]
    refine ⟨h.nodup, by simp, fun x hx y hy => ?_⟩
    simp at hy
    rintro rfl
    rw [hy] at hx
    exact hr hx
  · intro z hz
    rcases List.mem_append.1 hz with h' | h'
    · exact h.ok z h'
    · simp at h'; rw [h']; exact hR
  · intro z hz
    rcases List.mem_append.1 hz with h' | h'
    · exact h.inP z h'
    · simp at h'; rw [h']; exact hi
theorem Served.push {zs : List Int} {q : Int} {t : List Int × List Int} (h : Served zs q t) (r : Int) : Served (zs ++ [r]) q t := fun hq x hx => by simp [h hq x hx]
theorem DoneI.push {ts : List (List Int × List Int)} {zs : List Int} {i : Nat} (h : DoneI ts zs i) (hi : i ≤ zs.length) (r : Int) : DoneI ts (zs ++ [r]) i := by
  intro j q hj hq t ht
  rw [List.getElem?_append_left (by omega)] at hq
  exact (h j q hj hq t ht).push r
theorem DoneK.push {ts : List (List Int × List Int)} {zs : List Int} {q : Int} {k : Nat} (h : DoneK ts zs q k) (r : Int) : DoneK ts (zs ++ [r]) q k := fun j t hj ht => (h j t hj ht).push r
theorem DoneK.next {ts : List (List Int × List Int)} {zs : List Int} {q : Int} {k : Nat} {t : List Int × List Int} (h : DoneK ts zs q k) (ht : ts[k]? = some t) (hs : Served zs q t) : DoneK ts zs q (k + 1) := by
  intro j u hj hu
  by_cases e : j = k
  · subst e; rw [ht] at hu; injection hu with hu; rw [← hu]; exact hs
  · exact h j u (by omega) hu
theorem DoneI.next {ts : List (List Int × List Int)} {zs : List Int} {i : Nat} {q : Int} (h : DoneI ts zs i) (hq : zs[i]? = some q) (hk : DoneK ts zs q ts.length) : DoneI ts zs (i + 1) := by
  intro j u hj hu t ht
  by_cases e : j = i
  · subst e
    rw [hq] at hu
    injection hu with hu
    rw [← hu]
    obtain ⟨k, hk', rfl⟩ := List.mem_iff_getElem.1 ht
    exact hk k _ hk' (List.getElem?_eq_getElem hk')
  · exact h j u (by omega) hu t ht
theorem QInv.done {ts : List (List Int × List Int)} {P a : Int} {zs : List Int} (h : QInv ts P a zs) (hd : DoneI ts zs zs.length) (p : Int) : p ∈ zs ↔ Reach ts a p := by
  refine ⟨h.ok p, fun hr => hr (fun q => q ∈ zs) h.has fun t ht q hq hz r hr => ?_⟩
  obtain ⟨j, hj, rfl⟩ := List.mem_iff_getElem.1 hz
  exact hd j _ hj (List.getElem?_eq_getElem hj) t ht hq r hr
end Go.Proofs.YtphdafhidhfmnaaDoor
