/- A region that draws its order and ends in a chain that waits for all the rest: the head in whatever order, then the chain in the order of the text. No program in sight. -/
import Derived.Test.YtlkkfkkhllijbaaDoorRegion
import Derived.Deep.RegionHeld
import Derived.Deep.RegionHeld3
namespace Go.Proofs.YtlkkfkkhllijbaaDoor

/-- The post of the head: at its normal end the chain is walked. -/
def TailPost (P : Program) (l : List Oper) (n : Nat) (Q : Exit → Act → World → Prop) : Exit → Act → World → Prop
  | .normal, a, w => wpList P l.toArray Q (l.drop n) a w
  | e, a, w => Q e a w
/-- Every edge leads to an earlier operation; no operation is guarded. -/
def earlyB (l : List Oper) : Bool := (List.range l.length).all fun j => match l[j]? with
  | some o => o.guard.isNone && o.after.all fun e => !Region.binds .any e || decide (e.on < j)
  | none => true
theorem early_spec {l : List Oper} (h : earlyB l = true) {j : Nat} {o : Oper} (hj : l[j]? = some o) : o.guard = none ∧ ∀ e ∈ o.after, Region.binds .any e = true → e.on < j := by
  have hlt : j < l.length := by
    rcases Nat.lt_or_ge j l.length with h' | h'
    · exact h'
    · rw [List.getElem?_eq_none h'] at hj; cases hj
  have h1 := List.all_eq_true.1 h j (List.mem_range.2 hlt)
  rw [hj] at h1
  simp only [Bool.and_eq_true, Array.all_eq_true_iff_forall_mem, Bool.or_eq_true, Bool.not_eq_true', decide_eq_true_eq] at h1
  refine ⟨Option.isNone_iff_eq_none.1 h1.1, fun e he hb => (h1.2 e he).resolve_left (by rw [hb]; simp)⟩

def tailB (l : List Oper) (n : Nat) : Bool := earlyB l && decide (n < l.length) && Region.sinkB .any l.toArray n && Region.chainB .any l.toArray n && Region.seqB .any l.toArray (l.length - n) n (Array.replicate n true ++ Array.replicate (l.length - n) false)

theorem unlisted_zero {L : Array Bool} (h : unlisted L = 0) : ∀ i, i < L.size → L.getD i false = true := by
  intro i hi
  unfold unlisted at h
  have h0 := List.eq_nil_of_length_eq_zero h
  rw [List.filter_eq_nil_iff] at h0
  have := h0 L[i] (by simp)
  simpa [hi] using this
theorem unlisted_pos {L : Array Bool} {f : Nat} (h : unlisted L = f + 1) : ∃ i, i < L.size ∧ L.getD i true = false := by
  unfold unlisted at h
  cases hl : L.toList.filter (fun b => !b) with
  | nil => rw [hl] at h; simp at h
  | cons b l =>
    have hb : b ∈ L.toList.filter (fun b => !b) := by rw [hl]; simp
    rw [List.mem_filter] at hb
    obtain ⟨i, hi, e⟩ := List.mem_iff_getElem.1 hb.1
    have hi' : i < L.size := by simpa using hi
    refine ⟨i, hi', ?_⟩
    have hbf : b = false := by simpa using hb.2
    have : L[i] = false := by rw [← hbf, ← e]; simp
    simp [hi', this]

section
variable {P : Program} {l : List Oper} {n : Nat} {Q : Exit → Act → World → Prop}
theorem first_ready (hE : earlyB l = true) {L : Array Bool} (hs : L.size = l.length) : ∀ (i : Nat), i < L.size → L.getD i true = false → ∃ j, j ≤ i ∧ j ∈ Region.ready .any l.toArray L := by
  intro i
  induction i using Nat.strongRecOn with
  | _ i ih =>
    intro hi hun
    have hi' : i < l.length := by omega
    by_cases hr : i ∈ Region.ready .any l.toArray L
    · exact ⟨i, Nat.le_refl _, hr⟩
    · have ho : l[i]? = some l[i] := List.getElem?_eq_getElem hi'
      have hsp := early_spec hE ho
      have : ∃ e ∈ l[i].after, Region.binds .any e = true ∧ L.getD e.on false = false := by
        apply Classical.byContradiction
        intro hno
        refine hr (mem_ready.2 ⟨hun, l[i], by simp, fun e he hb => ?_⟩)
        cases h : L.getD e.on false with
        | true => rfl
        | false => exact absurd ⟨e, he, hb, h⟩ hno
      obtain ⟨e, he, hb, hf⟩ := this
      have hlt := hsp.2 e he hb
      obtain ⟨j, hj, hr'⟩ := ih e.on hlt (by omega) (getD_in (by omega) hf)
      exact ⟨j, by omega, hr'⟩

theorem wpAny_tail (hE : earlyB l = true) (hs : Region.sinkB .any l.toArray n = true) (hc : Region.chainB .any l.toArray n = true) (hn : n < l.length)
    (hq : Region.seqB .any l.toArray (l.length - n) n (Array.replicate n true ++ Array.replicate (l.length - n) false) = true) :
    ∀ (f : Nat) (L' L : Array Bool) (a : Act) (w : World), L'.size = n → unlisted L' = f → HeadInv .any l.toArray n L → (∀ i b, i < n → L.getD i b = L'.getD i b) →
      wpAny P .any (l.take n).toArray (TailPost P l n Q) f L' a w → wpAny P .any l.toArray Q (f + (l.length - n)) L a w := by
  intro f
  induction f with
  | zero =>
    intro L' L a w hs' hu inv hR h
    rw [Nat.zero_add]
    have hL : L = Array.replicate n true ++ Array.replicate (l.length - n) false := by
      apply Array.ext
      · rw [inv.size]; simp; omega
      · intro i h1 h2
        rcases Nat.lt_or_ge i n with hi | hi
        · have := hR i false hi
          rw [unlisted_zero hu i (by omega)] at this
          rw [Array.getElem_append_left (by simpa using hi)]
          simpa [h1] using this
        · have := inv.tail i hi (by rw [← inv.size]; exact h1)
          rw [Array.getElem_append_right (by simpa using hi)]
          simpa [h1] using this
    have h2 : wpList P l.toArray Q (l.drop n) a w := h.2
    have := wpAny_of_seq (md := .any) (P := P) (ops := l.toArray) (Q' := Q) (l.drop n) n L a w (fun j => by simp [List.getElem?_drop]) (by rw [List.length_drop, hL]; exact hq) h2
    rwa [List.length_drop] at this
  | succ f ih =>
    intro L' L a w hs' hu inv hR h
    rw [show f + 1 + (l.length - n) = (f + (l.length - n)) + 1 by omega]
    obtain ⟨i0, hi0, hun0⟩ := unlisted_pos hu
    have hi0n : i0 < n := by omega
    have hun : L.getD i0 true = false := by rw [hR i0 true hi0n]; exact hun0
    have hnot : ∀ t, n ≤ t → t ∉ Region.ready .any l.toArray L := tail_waits hs hc (by simpa using hn) inv _ i0 rfl hi0n hun
    refine ⟨fun hr => ?_, fun i hi => ?_⟩
    · obtain ⟨j, _, hj⟩ := first_ready hE (L := L) (by simpa using inv.size) i0 (by rw [inv.size]; simp; omega) hun
      rw [hr] at hj; cases hj
    · have hin : i < n := by
        rcases Nat.lt_or_ge i n with h' | h'
        · exact h'
        · exact absurd hi (hnot i h')
      obtain ⟨hiu, o, ho, hall⟩ := mem_ready.1 hi
      have ho' : l[i]? = some o := by simpa using ho
      have hsp := early_spec hE ho'
      have hot : (l.take n).toArray[i]? = some o := by simp [hin, ho']
      have hi' : i ∈ Region.ready .any (l.take n).toArray L' := mem_ready.2 ⟨by rw [← hR i true hin]; exact hiu, o, hot, fun e he hb => by
        have h1 := hsp.2 e he hb
        rw [← hR e.on false (by omega)]
        exact hall e he hb⟩
      have h1 := h.2 i hi'
      have hw : ∀ ops : Array Oper, Region.wanted o (yielded ops a.tmps) = true := fun ops => by simp [Region.wanted, hsp.1]
      unfold wpOp at h1 ⊢
      rw [hot] at h1
      rw [ho]
      simp only [hw, if_true] at h1 ⊢
      have hstep : ∀ a' w', wpAny P .any (l.take n).toArray (TailPost P l n Q) f (L'.setIfInBounds i true) a' w' → wpAny P .any l.toArray Q (f + (l.length - n)) (L.setIfInBounds i true) a' w' := by
        intro a' w' h2
        refine ih (L'.setIfInBounds i true) (L.setIfInBounds i true) a' w' (by simpa using hs') ?_ (inv.set hi hin) ?_ h2
        · have := unlisted_set (listed := L') (i := i) (by rw [← hR i true hin]; exact hiu)
          omega
        · intro k b hk
          by_cases hik : i = k
          · subst hik
            have hiL : i < L.size := by rw [inv.size]; simp; omega
            have hiL' : i < L'.size := by omega
            simp [hiL, hiL']
          · rw [getD_set_ne b hik, getD_set_ne b hik]; exact hR k b hk
      rcases h1 with h1 | ⟨h1, a0, w0, h2⟩
      · left
        unfold Oper.wp at h1 ⊢
        generalize (execOp a.eval o).run P w = r at h1 ⊢
        cases r with
        | ok x w' =>
          cases x <;> simp only [Oper.upon] at h1 ⊢ <;>
            first
              | exact hstep _ _ h1
              | exact Calls.mono h1 (fun e w'' he => by cases e <;> first | exact hstep _ _ he | exact he)
              | exact Rows.mono h1 (fun _ _ he => hstep _ _ he)
        | halt x w' => cases x <;> simp only [Oper.upon] at h1 ⊢ <;> exact h1
      · exact .inr ⟨h1, a0, w0, h2⟩

/-- The head in whatever order, S held; then the chain in the order of the text. -/
theorem wp_region_held_tail {id : Nat} {a : Act} {w : World} (n : Nat) (S : World → Prop) (hm : P.follows .mixedOrders = true) (hB : tailB l n = true) (hS : S w.drew)
    (h : S w.drew → wpAnyH P .any (l.take n).toArray (TailPost P l n Q) S n (Array.replicate n false) a w.drew) : (Code.region id l.toArray true).wp P Q a w := by
  unfold tailB at hB
  simp only [Bool.and_eq_true, decide_eq_true_eq] at hB
  obtain ⟨⟨⟨⟨h1, h2⟩, h3⟩, h4⟩, h5⟩ := hB
  refine wp_region_any hm ?_
  have inv0 : HeadInv .any l.toArray n (Array.replicate l.toArray.size false) :=
    ⟨by simp, fun j oj _ hl => (by rw [getD_replicate_false] at hl; cases hl), fun t _ ht => getD_in (by simpa using ht) (getD_replicate_false _ _)⟩
  have hu : unlisted (Array.replicate n false) = n := by unfold unlisted; simp
  have := wpAny_tail (P := P) (Q := Q) h1 h3 h4 h2 h5 n (Array.replicate n false) _ a w.drew (by simp) hu inv0 (fun i b hi => by
    have h' : i < l.length := by omega
    simp [hi, h']) (wpAny_of_held _ _ _ _ (h hS))
  rw [show n + (l.length - n) = l.toArray.size by simp; omega] at this
  exact this
/-- Take number i first: it may come up, and yields v in every world that meets S. -/
theorem takeL {S : World → Prop} {a : Act} {w : World} {v : Value} {oi : Oper} {fuel : Nat} {listed : Array Bool} (i : Nat) (hi : l[i]? = some oi) (hs : Region.noSelect l.toArray = true) (hf : Region.free .any l.toArray listed i = true)
    (hr : (Region.ready .any l.toArray listed).contains i = true) (hQ : ∀ c a w, Q (.panic c) (a.put oi.dst v) w → Q (.panic c) a w) (hg : oi.guard = none) (hy : ∀ W, S W → (execOp a.eval oi).run P W = .ok (.value v) W) (hS : S w)
    (h : wpAnyH P .any l.toArray Q S fuel (listed.setIfInBounds i true) (a.put oi.dst v) w) : wpAnyH P .any l.toArray Q S (fuel + 1) listed a w :=
  wpAnyH_take (by simpa using hi) hs hf hr hQ (.inl ⟨by simp [Region.wanted, hg], hy⟩) hS h
/-- One alone may come up. -/
theorem onlyL {S : World → Prop} {a : Act} {w : World} {oi : Oper} {fuel : Nat} {listed : Array Bool} (i : Nat) (hi : l[i]? = some oi) (hg : oi.guard = none) (hr : Region.ready .any l.toArray listed = [i])
    (h : ∀ K' : Act → World → Prop, Go.Shut (∀ a w, S w → (S w → wpAnyH P .any l.toArray Q S fuel (listed.setIfInBounds i true) a w) → K' a w) → Oper.wp P oi a w K' Q) : wpAnyH P .any l.toArray Q S (fuel + 1) listed a w := by
  refine wpAnyH_ready hr (by simp) (AllReadyH.cons (by simpa using hi) (fun K' hK => ?_) AllReadyH.nil)
  rw [if_pos (by simp [Region.wanted, hg])]
  exact h K' hK
/-- Two may come up. -/
theorem twoL {S : World → Prop} {a : Act} {w : World} {oi oj : Oper} {fuel : Nat} {listed : Array Bool} (i j : Nat) (hi : l[i]? = some oi) (hj : l[j]? = some oj) (hgi : oi.guard = none) (hgj : oj.guard = none) (hr : Region.ready .any l.toArray listed = [i, j])
    (h1 : ∀ K' : Act → World → Prop, Go.Shut (∀ a w, S w → (S w → wpAnyH P .any l.toArray Q S fuel (listed.setIfInBounds i true) a w) → K' a w) → Oper.wp P oi a w K' Q)
    (h2 : ∀ K' : Act → World → Prop, Go.Shut (∀ a w, S w → (S w → wpAnyH P .any l.toArray Q S fuel (listed.setIfInBounds j true) a w) → K' a w) → Oper.wp P oj a w K' Q) : wpAnyH P .any l.toArray Q S (fuel + 1) listed a w := by
  refine wpAnyH_ready hr (by simp) (AllReadyH.cons (by simpa using hi) (fun K' hK => ?_) (AllReadyH.cons (by simpa using hj) (fun K' hK => ?_) AllReadyH.nil))
  · rw [if_pos (by simp [Region.wanted, hgi])]
    exact h1 K' hK
  · rw [if_pos (by simp [Region.wanted, hgj])]
    exact h2 K' hK
/-- All of the head have come up. -/
theorem doneL {S : World → Prop} {a : Act} {w : World} {l' : List Oper} {n fuel : Nat} {listed : Array Bool} (hr : Region.ready .any l'.toArray listed = []) (h : wpList P l.toArray Q (l.drop n) a w) : wpAnyH P .any l'.toArray (TailPost P l n Q) S fuel listed a w :=
  wpAnyH_done hr h fuel
end
end Go.Proofs.YtlkkfkkhllijbaaDoor
