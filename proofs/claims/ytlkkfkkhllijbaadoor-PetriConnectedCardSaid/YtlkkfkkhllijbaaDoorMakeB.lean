/- Regions that draw their order: what an operation does, what a frame keeps; regions that make several blocks, which are apart. No program in sight. -/
import Derived.Test.YtlkkfkkhllijbaaDoorMake
import Derived.Test.YtlkkfkkhllijbaaDoorTail
namespace Go.Proofs.YtlkkfkkhllijbaaDoor
open Go.RowKit

section
variable {P : Program} {o : Oper} {a : Act} {w : World} {K : Act → World → Prop} {Q : Exit → Act → World → Prop}
theorem wpM_field (t : TypeId) (x : Operand) (f : Nat) (p V : Value) (ho : o.op = .fieldAddr t x f) (hv : a.eval x = p) (hr : (Instr.fieldAt t p f).run P w = .ok V w) (h : K (a.put o.dst V) w) : o.wp P a w K Q := by
  unfold Oper.wp execOp
  simp only [ho, hv, Sem.run_bind, hr, Result.andThen_ok]
  exact h
theorem wpM_load (t : TypeId) (x : Operand) (p V : Value) (ho : o.op = .load t x) (hv : a.eval x = p) (hr : (Instr.loadAt t p).run P w = .ok V w) (h : K (a.put o.dst V) w) : o.wp P a w K Q := by
  unfold Oper.wp execOp
  simp only [ho, hv, Sem.run_bind, hr, Result.andThen_ok]
  exact h
theorem wpM_slice (t : TypeId) (n : Nat) (parts : Array (Nat × Operand)) (V : Value) (w' : World) (vals : Array (Nat × Value)) (ho : o.op = .buildSlice t n parts) (hv : (parts.map fun (i, x) => (i, a.eval x)) = vals) (hr : (Instr.buildSlice t n vals).run P w = .ok V w') (h : K (a.put o.dst V) w') : o.wp P a w K Q := by
  unfold Oper.wp execOp
  simp only [ho, hv, Sem.run_bind, hr, Result.andThen_ok]
  exact h
theorem wpM_alloc (t : TypeId) (V : Value) (w' : World) (ho : o.op = .alloc t) (hr : (Instr.alloc t true (.tuple #[])).run P w = .ok V w') (h : K (a.put o.dst V) w') : o.wp P a w K Q := by
  unfold Oper.wp execOp
  simp only [ho, Sem.run_bind, hr, Result.andThen_ok]
  exact h
theorem wpM_store (t : TypeId) (x y : Operand) (p V : Value) (w' : World) (u : Unit) (ho : o.op = .store t x y) (hv : a.eval x = p) (hv2 : a.eval y = V) (hr : (Instr.storeAt t p V).run P w = .ok u w') (h : K (a.put o.dst undef) w') : o.wp P a w K Q := by
  unfold Oper.wp execOp
  simp only [ho, hv, hv2, Sem.run_bind, hr, Result.andThen_ok]
  exact h
theorem wpM_makeSlice (t : TypeId) (x y : Operand) (n c V : Value) (w' : World) (ho : o.op = .makeSlice t x y) (hv : a.eval x = n) (hv2 : a.eval y = c) (hr : (Instr.makeSlice t n c).run P w = .ok V w') (h : K (a.put o.dst V) w') : o.wp P a w K Q := by
  unfold Oper.wp execOp
  simp only [ho, hv, hv2, Sem.run_bind, hr, Result.andThen_ok]
  exact h
theorem wpM_run (V : Value) (w' : World) (hr : (execOp a.eval o).run P w = .ok (.value V) w') (h : K (a.put o.dst V) w') : o.wp P a w K Q := by
  unfold Oper.wp
  rw [hr]
  exact h
end
theorem grownT {a b c : World} {row : Option Nat} (h : a.grownBy b row) (k : b.grownBy c row) : a.grownBy c row :=
  ⟨k.os.trans h.os, k.tape.trans h.tape, k.output.trans h.output, Nat.le_trans h.size k.size, fun i hi hne => (k.block i (Nat.lt_of_lt_of_le hi h.size) hne).trans (h.block i hi hne)⟩
theorem grownS (w : World) (g k : Nat) (u : Value) : w.grownBy (w.setCell ⟨g, k, none⟩ u) (some g) := ⟨rfl, rfl, rfl, by simp, fun i _ hne => Below.heap_setCell w ⟨g, k, none⟩ u i (fun e => hne (by rw [e]))⟩
def noDstB (l : List Oper) (s : Nat) : Bool := l.all fun o => o.dst != some s
theorem Kin.same {l : List Oper} {a0 a : Act} (h : Kin l a0 a) {s : Nat} (hs : noDstB l s = true) : Act.slot a s = Act.slot a0 s :=
  h.slots s fun o ho e => by
    have := List.all_eq_true.1 hs o ho
    rw [e] at this
    simp at this
theorem hall_of {l : List Oper} (hE : earlyB l = true) : ∀ listed, Shut l listed → Region.ready .any l.toArray listed = [] → ∀ i, i < l.length → Up listed i := by
  intro listed hs hr i hi
  have hsz := hs.size
  cases h : listed.getD i true with
  | true =>
    unfold Up
    rw [Array.getD_eq_getD_getElem?, Array.getElem?_eq_getElem (by omega)] at h ⊢
    exact h
  | false =>
    obtain ⟨j, _, hj⟩ := first_ready hE hsz i (by omega) h
    rw [hr] at hj; cases hj
def putsAll (σ : Nat → Value) : List Oper → Act → Act
  | [], a => a
  | o :: l, a => putsAll σ l (a.put o.dst (σ (o.dst.getD 0)))
theorem puts_size (σ : Nat → Value) : ∀ (l : List Oper) (a : Act), (putsAll σ l a).tmps.size = a.tmps.size
  | [], a => rfl
  | o :: l, a => by rw [putsAll, puts_size σ l, size_put]
theorem puts_defers (σ : Nat → Value) : ∀ (l : List Oper) (a : Act), (putsAll σ l a).defers = a.defers
  | [], a => rfl
  | o :: l, a => by rw [putsAll, puts_defers σ l, defers_put]
theorem puts_slot (σ : Nat → Value) : ∀ (l : List Oper) (a : Act), (∀ o ∈ l, ∀ k, o.dst = some k → k < a.tmps.size) → ∀ s, Act.slot (putsAll σ l a) s = if (l.any fun o => o.dst == some s) = true then σ s else Act.slot a s
  | [], a, _, s => by simp [putsAll]
  | o :: l, a, h, s => by
    rw [putsAll, puts_slot σ l _ (fun o' ho' k hk => by rw [size_put]; exact h o' (by simp [ho']) k hk) s, slot_put (h o (by simp)), List.any_cons]
    cases hd : o.dst with
    | none => simp [upd]
    | some d =>
      by_cases hs : s = d
      · subst hs; simp [upd]
      · have hds : (some d == some s) = false := by simpa using fun e => hs e.symm
        simp [upd, hs, hds]
theorem act_ext {a b : Act} (h1 : a.tmps.size = b.tmps.size) (h2 : a.defers = b.defers) (h3 : ∀ s, Act.slot a s = Act.slot b s) : a = b := by
  obtain ⟨t, d⟩ := a
  obtain ⟨t', d'⟩ := b
  dsimp only at h1 h2
  subst h2
  congr 1
  refine Array.ext h1 fun i hi hi' => ?_
  have := h3 i
  simpa [Act.slot, hi, hi'] using this
theorem Kin.form {l : List Oper} {a0 a : Act} (h : Kin l a0 a) (hB : dstsB l a0.tmps.size = true) : a = putsAll (Act.slot a) l a0 := by
  have hd : ∀ o ∈ l, ∀ k, o.dst = some k → k < a0.tmps.size := fun o ho k hk => by
    unfold dstsB at hB
    rw [List.all_eq_true] at hB
    have := hB o ho
    rw [Bool.and_eq_true, hk] at this
    simpa using this.2
  refine act_ext ?_ ?_ fun s => ?_
  · rw [puts_size]; exact h.size
  · rw [puts_defers]; exact h.defers
  · rw [puts_slot _ _ _ hd]
    split
    · rfl
    · rename_i hn
      refine h.slots s fun o ho e => hn ?_
      rw [List.any_eq_true]
      exact ⟨o, ho, by rw [e]; simp⟩

theorem wpM_assign {P : Program} {o : Oper} {a : Act} {w : World} {K : Act → World → Prop} {Q : Exit → Act → World → Prop} (x : Operand) (V : Value) (ho : o.op = .assign x) (hv : a.eval x = V) (h : K (a.put o.dst V) w) : o.wp P a w K Q := by
  unfold Oper.wp execOp
  simp only [ho, hv]
  exact h

/-! ### blocks that a region makes, in any order, are apart -/
def blkOf : Value → Nat
  | .pointer (some a) => a.block
  | .slice (some a) _ _ => a.block
  | _ => 0
/-- What operation j has laid in its slot. -/
def vOf (l : List Oper) (σ : Nat → Value) (j : Nat) : Value := match (l[j]?).bind (·.dst) with
  | some d => σ d
  | none => undef
def dsts2B (l : List Oper) : Bool := (List.range l.length).all fun i => (List.range l.length).all fun j => i == j || match (l[i]?).bind (·.dst), (l[j]?).bind (·.dst) with
  | some a, some b => a != b
  | _, _ => true
theorem vOf_put {l : List Oper} (hD : dsts2B l = true) {i : Nat} {o : Oper} (ho : l[i]? = some o) (σ : Nat → Value) (v : Value) : (o.dst ≠ none → vOf l (upd σ o.dst v) i = v) ∧ ∀ j, j < l.length → j ≠ i → vOf l (upd σ o.dst v) j = vOf l σ j := by
  have hil : i < l.length := by
    rcases Nat.lt_or_ge i l.length with h | h
    · exact h
    · rw [List.getElem?_eq_none h] at ho; cases ho
  constructor
  · intro hd
    unfold vOf
    rw [ho]
    cases e : o.dst with
    | none => exact absurd e hd
    | some d => simp [e, upd]
  · intro j hj hji
    unfold vOf
    unfold dsts2B at hD
    rw [List.all_eq_true] at hD
    have h1 := hD i (List.mem_range.2 hil)
    rw [List.all_eq_true] at h1
    have h2 := h1 j (List.mem_range.2 hj)
    rw [ho] at h2
    cases e : o.dst with
    | none => rfl
    | some d =>
      cases e2 : (l[j]?).bind (·.dst) with
      | none => rfl
      | some d' =>
        simp only [Option.bind_some, e, e2, Bool.or_eq_true, beq_iff_eq, bne_iff_ne] at h2
        have hne : d ≠ d' := by
          rcases h2 with h2 | h2
          · exact absurd h2.symm hji
          · exact h2
        simp only [upd]
        rw [if_neg (fun h => hne h.symm)]
structure MkSt (n : Nat) (mk : Nat → Bool) (w0 : World) (F : Nat → (Nat → Value) → World → Prop) (listed : Array Bool) (τ : Nat → Value) (W : World) : Prop where
  below : Below w0.heap.size w0 W
  lo : ∀ i, i < n → mk i = true → Up listed i → w0.heap.size ≤ blkOf (τ i) ∧ blkOf (τ i) < W.heap.size
  apart : ∀ i j, i < n → j < n → mk i = true → mk j = true → Up listed i → Up listed j → i ≠ j → blkOf (τ i) ≠ blkOf (τ j)
  facts : ∀ j, j < n → Up listed j → F j τ W
theorem wp_region_mk {P : Program} {l : List Oper} {id : Nat} {Q : Exit → Act → World → Prop} {a0 : Act} {w : World} (hm : P.follows .mixedOrders = true)
    (hB : dstsB l a0.tmps.size = true) (hD : dsts2B l = true) (mk : Nat → Bool) (F : Nat → (Nat → Value) → World → Prop)
    (hstep : ∀ (i : Nat) (o : Oper), l[i]? = some o → ∀ listed (a : Act) W, Shut l listed → i ∈ Region.ready .any l.toArray listed → Kin l a0 a → MkSt l.length mk w.drew F listed (vOf l (Act.slot a)) W →
      o.wp P a W (fun a' W' => ∃ v, a' = a.put o.dst v ∧ Below w.drew.heap.size W W' ∧ (mk i = true → W.heap.size ≤ blkOf v ∧ blkOf v < W'.heap.size) ∧
        ∀ τ', (o.dst ≠ none → τ' i = v) → (∀ j, j < l.length → j ≠ i → τ' j = vOf l (Act.slot a) j) → F i τ' W' ∧ ∀ j, j < l.length → j ≠ i → Up listed j → F j τ' W') Q)
    (hmk : ∀ (i : Nat) (o : Oper), l[i]? = some o → mk i = true → o.dst ≠ none)
    (hend : ∀ listed (a : Act) W, (∀ i, i < l.length → Up listed i) → Kin l a0 a → MkSt l.length mk w.drew F listed (vOf l (Act.slot a)) W → Q .normal a W)
    (hall : ∀ listed, Shut l listed → Region.ready .any l.toArray listed = [] → ∀ i, i < l.length → Up listed i) : (Code.region id l.toArray true).wp P Q a0 w := by
  refine wp_region_slots hm hB (fun listed σ W => MkSt l.length mk w.drew F listed (vOf l σ) W) ⟨Below.refl _ _, fun i _ _ hu => ?_, fun i j _ _ _ _ hu => ?_, fun j _ hu => ?_⟩ (steps_all fun i o ho listed a W hsh hi hk hK => ?_) hend hall
  · unfold Up at hu; rw [getD_replicate_false] at hu; cases hu
  · unfold Up at hu; rw [getD_replicate_false] at hu; cases hu
  · unfold Up at hu; rw [getD_replicate_false] at hu; cases hu
  · refine Oper.wp_mono ?_ (hstep i o ho listed a W hsh hi hk hK)
    rintro a' W' ⟨v, rfl, hb, hnew, hf⟩
    refine ⟨v, rfl, ?_⟩
    obtain ⟨p1, p2⟩ := vOf_put hD ho (Act.slot a) v
    generalize vOf l (upd (Act.slot a) o.dst v) = τ' at *
    obtain ⟨f1, f2⟩ := hf τ' p1 p2
    refine ⟨hK.below.trans hb, fun j hj hm' hu => ?_, fun j k hj hk' hmj hmk' huj huk hjk => ?_, fun j hj hu => ?_⟩
    · by_cases e : j = i
      · subst e
        rw [p1 (hmk j o ho hm')]
        have := hnew hm'
        have := hK.below.size
        omega
      · rw [p2 j hj e]
        have := hK.lo j hj hm' (up_set hu (fun h => e h.symm))
        have := hb.size
        omega
    · by_cases e1 : j = i
      · subst e1
        have e2 : k ≠ j := fun h => hjk h.symm
        rw [p1 (hmk j o ho hmj), p2 k hk' e2]
        have h1 := hnew hmj
        have h2 := hK.lo k hk' hmk' (up_set huk (fun h => e2 h.symm))
        omega
      · by_cases e2 : k = i
        · subst e2
          rw [p1 (hmk k o ho hmk'), p2 j hj e1]
          have h1 := hnew hmk'
          have h2 := hK.lo j hj hmj (up_set huj (fun h => e1 h.symm))
          omega
        · rw [p2 j hj e1, p2 k hk' e2]
          exact hK.apart j k hj hk' hmj hmk' (up_set huj (fun h => e1 h.symm)) (up_set huk (fun h => e2 h.symm)) hjk
    · by_cases e : j = i
      · subst e; exact f1
      · exact f2 j hj e (up_set hu (fun h => e h.symm))
end Go.Proofs.YtlkkfkkhllijbaaDoor
