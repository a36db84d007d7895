/- Texts of this seat, merged. -/
import Derived.Deep.RegionHeld
import Derived.Deep.RegionHeld3
import Derived.Deep.CutBlock
import Derived.Test.YtijmnenojbfdnaaGreatDoorEv01
import Derived.Test.YtijmnenojbfdnaaGreatDoorEv02
import Derived.Test.YtijmnenojbfdnaaGreatDoorEv03
import Derived.Test.YtijmnenojbfdnaaGreatDoorEv04
import Derived.Test.YtijmnenojbfdnaaGreatDoorEv05
import Derived.Test.YtijmnenojbfdnaaGreatDoorEv06
import Derived.Test.YtijmnenojbfdnaaGreatDoorEv07
import Derived.Test.YtijmnenojbfdnaaGreatDoorEv08
set_option linter.unusedSimpArgs false
set_option linter.unusedVariables false
namespace Go.Proofs.YtijmnenojbfdnaaGreatDoor
open Go.RowKit
def dstOf (l : List Oper) (j : Nat) : Nat := ((l[j]?).bind (·.dst)).getD 0
def apartB (l : List Oper) (n : Nat) : Bool := (List.range n).all fun i => match (l[i]?).bind (·.dst) with
  | none => false
  | some a => (List.range l.length).all fun j => i == j || match (l[j]?).bind (·.dst) with
    | none => true
    | some b => a != b
def lastB (l : List Oper) (n : Nat) : Bool := (List.range n).all fun i => Region.waitsFor .any l.toArray n i
def StepsM (P : Program) (l : List Oper) (Q : Exit → Act → World → Prop) (a0 : Act) (w0 : World) (F : Nat → Value → World → Prop) : Nat → List Oper → Prop
  | _, [] => True
  | i, o :: rest => (∀ (a : Act) W, Kin l a0 a → Below w0.heap.size w0 W → (∀ j, Region.waitsFor .any l.toArray i j = true → F j (Act.slot a (dstOf l j)) W) →
      o.wp P a W (fun a' W' => ∃ v, a' = a.put o.dst v ∧ Below W.heap.size W W' ∧ F i v W') Q) ∧ StepsM P l Q a0 w0 F (i + 1) rest
theorem StepsM.at_ {P : Program} {l : List Oper} {Q : Exit → Act → World → Prop} {a0 : Act} {w0 : World} {F : Nat → Value → World → Prop} : ∀ (m : List Oper) (k i : Nat) (o : Oper), StepsM P l Q a0 w0 F k m → m[i]? = some o →
    ∀ (a : Act) W, Kin l a0 a → Below w0.heap.size w0 W → (∀ j, Region.waitsFor .any l.toArray (k + i) j = true → F j (Act.slot a (dstOf l j)) W) →
      o.wp P a W (fun a' W' => ∃ v, a' = a.put o.dst v ∧ Below W.heap.size W W' ∧ F (k + i) v W') Q := by
  intro m
  induction m with
  | nil => intro k i o _ h; simp at h
  | cons x m ih =>
    intro k i o hs h
    cases i with
    | zero => injection h with h; subst h; exact hs.1
    | succ i =>
      have := ih (k + 1) i o hs.2 (by simpa using h)
      rwa [show k + 1 + i = k + (i + 1) from by omega] at this
theorem steps_all {P : Program} {l : List Oper} {Q : Exit → Act → World → Prop} {a0 : Act} {K : Array Bool → (Nat → Value) → World → Prop} (h : ∀ (i : Nat) (o : Oper), l[i]? = some o →
    ∀ listed (a : Act) w, Shut l listed → i ∈ Region.ready .any l.toArray listed → Kin l a0 a → K listed (Act.slot a) w →
      o.wp P a w (fun a' w' => ∃ v, a' = a.put o.dst v ∧ K (listed.setIfInBounds i true) (upd (Act.slot a) o.dst v) w') Q) : Steps P l Q a0 K 0 l := by
  have gen : ∀ (m : List Oper) (k : Nat), (∀ i o, m[i]? = some o → l[k + i]? = some o) → Steps P l Q a0 K k m := by
    intro m
    induction m with
    | nil => intro k _; trivial
    | cons x m ih =>
      intro k hk
      refine ⟨fun listed a w => h k x (by simpa using hk 0 x rfl) listed a w, ih (k + 1) fun i o ho => ?_⟩
      have := hk (i + 1) o (by simpa using ho)
      rwa [show k + (i + 1) = k + 1 + i by omega] at this
  exact gen l 0 (fun i o ho => by rw [Nat.zero_add]; exact ho)
end Go.Proofs.YtijmnenojbfdnaaGreatDoor

namespace Go.Proofs.YtijmnenojbfdnaaGreatDoor
def TailPost (P : Program) (l : List Oper) (n : Nat) (Q : Exit → Act → World → Prop) : Exit → Act → World → Prop
  | .normal, a, w => wpList P l.toArray Q (l.drop n) a w
  | e, a, w => Q e a w
def earlyB (l : List Oper) : Bool := (List.range l.length).all fun j => match l[j]? with
  | some o => o.guard.isNone && o.after.all fun e => !Region.binds .any e || decide (e.on < j)
  | none => true
theorem early_spec {l : List Oper} (h : earlyB l = true) {j : Nat} {o : Oper} (hj : l[j]? = some o) : o.guard = none ∧ ∀ e ∈ o.after, Region.binds .any e = true → e.on < j := by
  have hlt : j < l.length := by
    rcases Nat.lt_or_ge j l.length with h' | h'
    · exact h'
    · rw [List.getElem?_eq_none h'] at hj; cases hj
  have h1 := List.all_eq_true.1 h j (List.mem_range.2 hlt)
  rw [hj] at h1
  simp only [Bool.and_eq_true, Array.all_eq_true_iff_forall_mem, Bool.or_eq_true, Bool.not_eq_true', decide_eq_true_eq] at h1
  refine ⟨Option.isNone_iff_eq_none.1 h1.1, fun e he hb => (h1.2 e he).resolve_left (by rw [hb]; simp)⟩
def tailB (l : List Oper) (n : Nat) : Bool := earlyB l && decide (n < l.length) && Region.sinkB .any l.toArray n && Region.chainB .any l.toArray n && Region.seqB .any l.toArray (l.length - n) n (Array.replicate n true ++ Array.replicate (l.length - n) false)
section
variable {P : Program} {l : List Oper} {n : Nat} {Q : Exit → Act → World → Prop}
theorem first_ready (hE : earlyB l = true) {L : Array Bool} (hs : L.size = l.length) : ∀ (i : Nat), i < L.size → L.getD i true = false → ∃ j, j ≤ i ∧ j ∈ Region.ready .any l.toArray L := by
  intro i
  induction i using Nat.strongRecOn with
  | _ i ih =>
    intro hi hun
    have hi' : i < l.length := by omega
    by_cases hr : i ∈ Region.ready .any l.toArray L
    · exact ⟨i, Nat.le_refl _, hr⟩
    · have ho : l[i]? = some l[i] := List.getElem?_eq_getElem hi'
      have hsp := early_spec hE ho
      have : ∃ e ∈ l[i].after, Region.binds .any e = true ∧ L.getD e.on false = false := by
        apply Classical.byContradiction
        intro hno
        refine hr (mem_ready.2 ⟨hun, l[i], by simp, fun e he hb => ?_⟩)
        cases h : L.getD e.on false with
        | true => rfl
        | false => exact absurd ⟨e, he, hb, h⟩ hno
      obtain ⟨e, he, hb, hf⟩ := this
      have hlt := hsp.2 e he hb
      obtain ⟨j, hj, hr'⟩ := ih e.on hlt (by omega) (getD_in (by omega) hf)
      exact ⟨j, by omega, hr'⟩
end
end Go.Proofs.YtijmnenojbfdnaaGreatDoor

namespace Go.Proofs.YtijmnenojbfdnaaGreatDoor
open Go.RowKit
section
variable {P : Program} {o : Oper} {a : Act} {w : World} {K : Act → World → Prop} {Q : Exit → Act → World → Prop}
theorem wpM_load (t : TypeId) (x : Operand) (p V : Value) (ho : o.op = .load t x) (hv : a.eval x = p) (hr : (Instr.loadAt t p).run P w = .ok V w) (h : K (a.put o.dst V) w) : o.wp P a w K Q := by
  unfold Oper.wp execOp
  simp only [ho, hv, Sem.run_bind, hr, Result.andThen_ok]
  exact h
theorem wpM_slice (t : TypeId) (n : Nat) (parts : Array (Nat × Operand)) (V : Value) (w' : World) (vals : Array (Nat × Value)) (ho : o.op = .buildSlice t n parts) (hv : (parts.map fun (i, x) => (i, a.eval x)) = vals) (hr : (Instr.buildSlice t n vals).run P w = .ok V w') (h : K (a.put o.dst V) w') : o.wp P a w K Q := by
  unfold Oper.wp execOp
  simp only [ho, hv, Sem.run_bind, hr, Result.andThen_ok]
  exact h
theorem wpM_store (t : TypeId) (x y : Operand) (p V : Value) (w' : World) (u : Unit) (ho : o.op = .store t x y) (hv : a.eval x = p) (hv2 : a.eval y = V) (hr : (Instr.storeAt t p V).run P w = .ok u w') (h : K (a.put o.dst undef) w') : o.wp P a w K Q := by
  unfold Oper.wp execOp
  simp only [ho, hv, hv2, Sem.run_bind, hr, Result.andThen_ok]
  exact h
theorem wpM_run (V : Value) (w' : World) (hr : (execOp a.eval o).run P w = .ok (.value V) w') (h : K (a.put o.dst V) w') : o.wp P a w K Q := by
  unfold Oper.wp
  rw [hr]
  exact h
end
def noDstB (l : List Oper) (s : Nat) : Bool := l.all fun o => o.dst != some s
theorem Kin.same {l : List Oper} {a0 a : Act} (h : Kin l a0 a) {s : Nat} (hs : noDstB l s = true) : Act.slot a s = Act.slot a0 s :=
  h.slots s fun o ho e => by
    have := List.all_eq_true.1 hs o ho
    rw [e] at this
    simp at this
theorem hall_of {l : List Oper} (hE : earlyB l = true) : ∀ listed, Shut l listed → Region.ready .any l.toArray listed = [] → ∀ i, i < l.length → Up listed i := by
  intro listed hs hr i hi
  have hsz := hs.size
  cases h : listed.getD i true with
  | true =>
    unfold Up
    rw [Array.getD_eq_getD_getElem?, Array.getElem?_eq_getElem (by omega)] at h ⊢
    exact h
  | false =>
    obtain ⟨j, _, hj⟩ := first_ready hE hsz i (by omega) h
    rw [hr] at hj; cases hj
def putsAll (σ : Nat → Value) : List Oper → Act → Act
  | [], a => a
  | o :: l, a => putsAll σ l (a.put o.dst (σ (o.dst.getD 0)))
theorem puts_size (σ : Nat → Value) : ∀ (l : List Oper) (a : Act), (putsAll σ l a).tmps.size = a.tmps.size
  | [], a => rfl
  | o :: l, a => by rw [putsAll, puts_size σ l, size_put]
theorem puts_defers (σ : Nat → Value) : ∀ (l : List Oper) (a : Act), (putsAll σ l a).defers = a.defers
  | [], a => rfl
  | o :: l, a => by rw [putsAll, puts_defers σ l, defers_put]
theorem puts_slot (σ : Nat → Value) : ∀ (l : List Oper) (a : Act), (∀ o ∈ l, ∀ k, o.dst = some k → k < a.tmps.size) → ∀ s, Act.slot (putsAll σ l a) s = if (l.any fun o => o.dst == some s) = true then σ s else Act.slot a s
  | [], a, _, s => by simp [putsAll]
  | o :: l, a, h, s => by
    rw [putsAll, puts_slot σ l _ (fun o' ho' k hk => by rw [size_put]; exact h o' (by simp [ho']) k hk) s, slot_put (h o (by simp)), List.any_cons]
    cases hd : o.dst with
    | none => simp [upd]
    | some d =>
      by_cases hs : s = d
      · subst hs; simp [upd]
      · have hds : (some d == some s) = false := by simpa using fun e => hs e.symm
        simp [upd, hs, hds]
theorem act_ext {a b : Act} (h1 : a.tmps.size = b.tmps.size) (h2 : a.defers = b.defers) (h3 : ∀ s, Act.slot a s = Act.slot b s) : a = b := by
  obtain ⟨t, d⟩ := a
  obtain ⟨t', d'⟩ := b
  dsimp only at h1 h2
  subst h2
  congr 1
  refine Array.ext h1 fun i hi hi' => ?_
  have := h3 i
  simpa [Act.slot, hi, hi'] using this
theorem Kin.form {l : List Oper} {a0 a : Act} (h : Kin l a0 a) (hB : dstsB l a0.tmps.size = true) : a = putsAll (Act.slot a) l a0 := by
  have hd : ∀ o ∈ l, ∀ k, o.dst = some k → k < a0.tmps.size := fun o ho k hk => by
    unfold dstsB at hB
    rw [List.all_eq_true] at hB
    have := hB o ho
    rw [Bool.and_eq_true, hk] at this
    simpa using this.2
  refine act_ext ?_ ?_ fun s => ?_
  · rw [puts_size]; exact h.size
  · rw [puts_defers]; exact h.defers
  · rw [puts_slot _ _ _ hd]
    split
    · rfl
    · rename_i hn
      refine h.slots s fun o ho e => hn ?_
      rw [List.any_eq_true]
      exact ⟨o, ho, by rw [e]; simp⟩
def blkOf : Value → Nat
  | .pointer (some a) => a.block
  | .slice (some a) _ _ => a.block
  | _ => 0
def vOf (l : List Oper) (σ : Nat → Value) (j : Nat) : Value := match (l[j]?).bind (·.dst) with
  | some d => σ d
  | none => undef
def dsts2B (l : List Oper) : Bool := (List.range l.length).all fun i => (List.range l.length).all fun j => i == j || match (l[i]?).bind (·.dst), (l[j]?).bind (·.dst) with
  | some a, some b => a != b
  | _, _ => true
structure MkSt (n : Nat) (mk : Nat → Bool) (w0 : World) (F : Nat → (Nat → Value) → World → Prop) (listed : Array Bool) (τ : Nat → Value) (W : World) : Prop where
  below : Below w0.heap.size w0 W
  lo : ∀ i, i < n → mk i = true → Up listed i → w0.heap.size ≤ blkOf (τ i) ∧ blkOf (τ i) < W.heap.size
  apart : ∀ i j, i < n → j < n → mk i = true → mk j = true → Up listed i → Up listed j → i ≠ j → blkOf (τ i) ≠ blkOf (τ j)
  facts : ∀ j, j < n → Up listed j → F j τ W
end Go.Proofs.YtijmnenojbfdnaaGreatDoor

namespace Go.Proofs.YtijmnenojbfdnaaGreatDoor
open Go.RowKit
def StepsG (B : World → World → Prop) (c : Nat) (U : World → Prop) (P : Program) (l : List Oper) (Q : Exit → Act → World → Prop) (a0 : Act) (w0 : World) (F : Nat → Value → World → Prop) : Nat → List Oper → Prop
  | _, [] => True
  | i, o :: rest => (∀ (a : Act) W, Kin l a0 a → B w0 W → (i = c → U W) → (∀ j, Region.waitsFor .any l.toArray i j = true → F j (Act.slot a (dstOf l j)) W) →
      o.wp P a W (fun a' W' => ∃ v, a' = a.put o.dst v ∧ B W W' ∧ (i ≠ c → U W → U W') ∧ F i v W') Q) ∧ StepsG B c U P l Q a0 w0 F (i + 1) rest
theorem StepsG.at_ {B : World → World → Prop} {c : Nat} {U : World → Prop} {P : Program} {l : List Oper} {Q : Exit → Act → World → Prop} {a0 : Act} {w0 : World} {F : Nat → Value → World → Prop} : ∀ (m : List Oper) (k i : Nat) (o : Oper), StepsG B c U P l Q a0 w0 F k m → m[i]? = some o →
    ∀ (a : Act) W, Kin l a0 a → B w0 W → (k + i = c → U W) → (∀ j, Region.waitsFor .any l.toArray (k + i) j = true → F j (Act.slot a (dstOf l j)) W) →
      o.wp P a W (fun a' W' => ∃ v, a' = a.put o.dst v ∧ B W W' ∧ (k + i ≠ c → U W → U W') ∧ F (k + i) v W') Q := by
  intro m
  induction m with
  | nil => intro k i o _ h; simp at h
  | cons x m ih =>
    intro k i o hs h
    cases i with
    | zero => injection h with h; subst h; exact hs.1
    | succ i =>
      have := ih (k + 1) i o hs.2 (by simpa using h)
      rwa [show k + 1 + i = k + (i + 1) from by omega] at this
theorem wp_region_makeG {B : World → World → Prop} (hBr : ∀ w, B w w) (hBt : ∀ {a b c}, B a b → B b c → B a c) {P : Program} {l : List Oper} {id : Nat} {Q : Exit → Act → World → Prop} {a0 : Act} {w : World} (hm : P.follows .mixedOrders = true) (n : Nat)
    (hB : dstsB l a0.tmps.size = true) (hD : apartB l n = true) (hn : n + 1 = l.length) (hL : lastB l n = true) (F : Nat → Value → World → Prop) (c : Nat) (U : World → Prop) (hU0 : U w.drew)
    (hF : ∀ j v W W', F j v W → B W W' → F j v W') (hall : ∀ listed, Shut l listed → Region.ready .any l.toArray listed = [] → ∀ i, i < l.length → Up listed i)
    (hstep : StepsG B c U P l Q a0 w.drew F 0 (l.take n))
    (hlast : ∀ o, l[n]? = some o → ∀ (a : Act) W, Kin l a0 a → B w.drew W → (∀ j, j < n → F j (Act.slot a (dstOf l j)) W) →
      o.wp P a W (fun a' W' => ∃ v, a' = a.put o.dst v ∧ ∀ a'', Kin l a0 a'' → Act.slot a'' = Act.slot a' → Q .normal a'' W') Q) : (Code.region id l.toArray true).wp P Q a0 w := by
  refine wp_region_slots hm hB (fun listed σ W => (¬ Up listed n → B w.drew W ∧ (¬ Up listed c → U W) ∧ ∀ j, j < n → Up listed j → F j (σ (dstOf l j)) W) ∧ (Up listed n → ∀ a'', Kin l a0 a'' → Act.slot a'' = σ → Q .normal a'' W)) ⟨fun _ => ⟨hBr _, fun _ => hU0, fun j hj hu => ?_⟩, fun hu => ?_⟩ (steps_all fun i o ho listed a W hsh hi hk hK => ?_) (fun listed a W hu hk hK => hK.2 (hu n (by omega)) a hk rfl) hall
  · unfold Up at hu; rw [getD_replicate_false] at hu; cases hu
  · unfold Up at hu; rw [getD_replicate_false] at hu; cases hu
  · obtain ⟨hK1, hK2⟩ := hK
    have hil : i < l.length := by
      rcases Nat.lt_or_ge i l.length with h' | h'
      · exact h'
      · rw [List.getElem?_eq_none h'] at ho; cases ho
    have hwait : ∀ j, j < n → Region.waitsFor .any l.toArray n j = true := fun j hj => by
      unfold lastB at hL
      rw [List.all_eq_true] at hL
      exact hL j (List.mem_range.2 hj)
    have hnn : ¬ Up listed n := by
      intro hu
      by_cases e : i = n
      · subst e; exact ready_not hi hu
      · exact ready_not hi (hsh.up hu (hwait i (by omega)))
    obtain ⟨hb, hu0, hf⟩ := hK1 hnn
    have hsz : listed.size = l.length := hsh.size
    by_cases e : i = n
    · subst e
      refine Oper.wp_mono ?_ (hlast o ho a W hk hb (fun j hj => hf j hj (ready_up hi (hwait j hj))))
      rintro a' w' ⟨v, rfl, hq⟩
      refine ⟨v, rfl, fun hu => absurd ?_ hu, fun _ a'' hk'' hs => ?_⟩
      · unfold Up
        rw [Array.getD_eq_getD_getElem?, Array.getElem?_setIfInBounds]
        simp [hsz, hil]
      · refine hq a'' hk'' ?_
        rw [hs]
        have := (hk.put (fun o' ho' k hk' => ?_) (List.mem_of_getElem? ho) v).2
        · exact this.symm
        · unfold dstsB at hB
          rw [List.all_eq_true] at hB
          have := hB o' ho'
          rw [Bool.and_eq_true, hk'] at this
          simpa using this.2
    · have hin : i < n := by omega
      have hst := hstep.at_ (l.take n) 0 i o (by rw [List.getElem?_take, if_pos hin]; exact ho) a W hk hb (fun e => hu0 (fun hu => ready_not hi (by rw [← e, Nat.zero_add] at hu; exact hu))) (fun j hw => by
        rw [Nat.zero_add] at hw
        have hu := ready_up hi hw
        have hjn : j < n ∨ j = n ∨ n < j := by omega
        rcases hjn with h1 | h1 | h1
        · exact hf j h1 hu
        · subst h1; exact absurd hu hnn
        · exfalso
          unfold Up at hu
          rw [Array.getD_eq_getD_getElem?, Array.getElem?_eq_none (by rw [hsz]; omega)] at hu
          cases hu)
      rw [Nat.zero_add] at hst
      refine Oper.wp_mono ?_ hst
      rintro a' w' ⟨v, rfl, hb', hUi, hFi⟩
      have hdi : ∃ k, o.dst = some k ∧ ∀ j oj, j ≠ i → l[j]? = some oj → oj.dst ≠ some k := by
        unfold apartB at hD
        rw [List.all_eq_true] at hD
        have h1 := hD i (List.mem_range.2 hin)
        rw [ho] at h1
        simp only [Option.bind_some] at h1
        cases hk' : o.dst with
        | none => rw [hk'] at h1; cases h1
        | some k =>
          rw [hk'] at h1
          refine ⟨k, rfl, fun j oj hj hoj hd => ?_⟩
          dsimp only at h1
          rw [List.all_eq_true] at h1
          have hjl : j < l.length := by
            rcases Nat.lt_or_ge j l.length with h' | h'
            · exact h'
            · rw [List.getElem?_eq_none h'] at hoj; cases hoj
          have h2 := h1 j (List.mem_range.2 hjl)
          rw [hoj] at h2
          simp only [Option.bind_some, hd, Bool.or_eq_true, beq_iff_eq, bne_self_eq_false, or_false] at h2
          first | exact hj h2.symm | (rcases h2 with h2 | h2 <;> first | exact hj h2.symm | cases h2)
      obtain ⟨k, hdk, hapart⟩ := hdi
      refine ⟨v, rfl, fun _ => ⟨hBt hb hb', fun hnc => ?_, fun j hj hu => ?_⟩, fun hu => ?_⟩
      · by_cases hci : i = c
        · exact absurd (by subst hci; unfold Up; rw [Array.getD_eq_getD_getElem?, Array.getElem?_setIfInBounds]; simp [hsz, hil]) hnc
        · refine hUi hci (hu0 fun hu => hnc ?_)
          unfold Up at hu ⊢
          rw [Array.getD_eq_getD_getElem?, Array.getElem?_setIfInBounds, if_neg hci, ← Array.getD_eq_getD_getElem?]
          exact hu
      · by_cases hji : j = i
        · subst hji
          have : dstOf l j = k := by unfold dstOf; rw [ho]; simp [hdk]
          rw [this, hdk]
          simpa [upd] using hFi
        · have hu' := up_set hu (fun e => hji e.symm)
          have hjl : j < l.length := by omega
          have hne : dstOf l j ≠ k := by
            unfold dstOf
            rw [List.getElem?_eq_getElem hjl]
            have h3 := hapart j l[j] hji (List.getElem?_eq_getElem hjl)
            unfold apartB at hD
            rw [List.all_eq_true] at hD
            have h1 := hD j (List.mem_range.2 hj)
            rw [List.getElem?_eq_getElem hjl] at h1
            simp only [Option.bind_some] at h1 ⊢
            cases hk' : l[j].dst with
            | none => rw [hk'] at h1; cases h1
            | some q => rw [hk'] at h3; simpa using h3
          have := hF j _ W w' (hf j hj hu') hb'
          rw [hdk]
          simpa [upd, hne] using this
      · exact absurd (up_set hu e) hnn
end Go.Proofs.YtijmnenojbfdnaaGreatDoor

namespace Go.Proofs.YtijmnenojbfdnaaGreatDoor
open Go.RowKit
section
variable {P : Program} {o : Oper} {a : Act} {w : World} {K : Act → World → Prop} {Q : Exit → Act → World → Prop}
theorem wpM_move (x : Operand) (V : Value) (ho : o.op = .move x) (hv : a.eval x = V) (h : K (a.put o.dst V) w) : o.wp P a w K Q := by
  unfold Oper.wp execOp
  simp only [ho, hv]
  exact h
theorem wpM_build (t : TypeId) (parts : Array (Nat × Operand)) (V : Value) (vals : Array (Nat × Value)) (ho : o.op = .build t parts) (hv : (parts.map fun (i, x) => (i, a.eval x)) = vals) (hr : (Instr.build t vals).run P w = .ok V w) (h : K (a.put o.dst V) w) : o.wp P a w K Q := by
  unfold Oper.wp execOp
  simp only [ho, hv, Sem.run_bind, hr, Result.andThen_ok]
  exact h
end
theorem wpM_callEx {o : Oper} {a : Act} {w : World} {K : Act → World → Prop} {Q : Exit → Act → World → Prop} (x : Operand) (args : Array Operand) (vals : Array Value) (ts : Array TypeId) (ho : o.op = .call { callee := .value x, args := args, argTypes := ts }) (hx : a.eval x = .func (.func 74) #[] #[]) (hv : args.map a.eval = vals)
    (h : Calls Tryz.prog 74 vals w fun e w' => ∃ v, e = .returned v ∧ K (a.put o.dst v) w') : o.wp Tryz.prog a w K Q := by
  unfold Oper.wp execOp
  simp only [ho]
  generalize a.eval = ρ at hx hv ⊢
  simp [hx, hv, go_sem]
  refine h.mono ?_
  rintro e w' ⟨v, rfl, hK⟩
  exact hK
theorem bX2 (a1 a2 a3 b1 b2 b3 : Int) (s1 s2 r1 r2 : ByteArray) (A B : Option Addr) (n m c d : Nat) (W : World) : (Instr.buildSlice 26 2 #[(0, .agg #[.int .i64 a1, .int .i64 a2, .int .i64 a3, .string s1, .string s2, .slice A n c]), (1, .agg #[.int .i64 b1, .int .i64 b2, .int .i64 b3, .string r1, .string r2, .slice B m d])]).run Tryz.prog W =
    .ok (.slice (some ⟨W.heap.size, 0, none⟩) 2 2) (W.alloc (.cells #[.int .i64 a1, .int .i64 a2, .int .i64 a3, .string s1, .string s2, .slice A n c, .int .i64 b1, .int .i64 b2, .int .i64 b3, .string r1, .string r2, .slice B m d] 28)) := by kernel_rfl
theorem bE2 (op : Int) (A : Option Addr) (n c : Nat) (W : World) : (Instr.build 28 #[(0, .int .i64 op), (3, .slice A n c)]).run Tryz.prog W = .ok (.agg #[.int .i64 op, .int .i64 0, .int .i64 0, .string ⟨#[]⟩, .string ⟨#[]⟩, .slice A n c]) W := by kernel_rfl
def r21F (g : Nat) (A : Option Addr) (c : Nat) (L : List Tok) (q op lv : Nat) (xv : Value) (x y : Ex) (j : Nat) : Nat → Value → World → Prop
  | 0, v, _ => v = .int .i64 (op : Int)
  | 1, v, _ => v = xv
  | 2, v, _ => v = .pointer (some ⟨g, 0, none⟩)
  | 3, v, _ => v = .int .i64 (lv : Int)
  | 4, v, _ => v = .int .i64 ((lv : Int) + 1)
  | 5, v, W => (IsPs W g A c L j ∧ j < L.length) ∧ ∃ m, IsEx m (DX q W) W v y
  | 6, v, W => (IsPs W g A c L j ∧ j < L.length) ∧ ∃ (m b : Nat), v = .slice (some ⟨b, 0, none⟩) 2 2 ∧ SlE m (DX q W) W v [x, y]
  | 7, v, W => (IsPs W g A c L j ∧ j < L.length) ∧ ∃ (m b : Nat), v = .agg #[.int .i64 (op : Int), .int .i64 0, .int .i64 0, .string ⟨#[]⟩, .string ⟨#[]⟩, .slice (some ⟨b, 0, none⟩) 2 2] ∧ IsEx m (DX q W) W v (nodeB op [x, y])
  | _, _, _ => True
def B21 (g : Nat) (A : Option Addr) (c : Nat) (L : List Tok) (j : Nat) (a b : World) : Prop := a.grownBy b (some g) ∧ (IsPs a g A c L j → IsPs b g A c L j)
theorem B21.refl {g : Nat} {A : Option Addr} {c : Nat} {L : List Tok} {j : Nat} (w : World) : B21 g A c L j w w := ⟨grown_of_below (Below.refl _ _) _, id⟩
theorem B21.trans {g : Nat} {A : Option Addr} {c : Nat} {L : List Tok} {j : Nat} {u v w : World} (h : B21 g A c L j u v) (k : B21 g A c L j v w) : B21 g A c L j u w := ⟨lexGrownT h.1 k.1, fun e => k.2 (h.2 e)⟩
theorem B21.below {g : Nat} {A : Option Addr} {c : Nat} {L : List Tok} {j : Nat} {u v : World} (h : Below u.heap.size u v) : B21 g A c L j u v := ⟨grown_of_below h _, fun e => IsPs.now e h⟩
theorem r21F_keep {g : Nat} {A : Option Addr} {c : Nat} {L : List Tok} {q op lv : Nat} {xv : Value} {x y : Ex} {j : Nat} (hq : g ≤ q) (k : Nat) (v : Value) (W W' : World) (h : r21F g A c L q op lv xv x y j k v W) (hb : B21 g A c L j W W') : r21F g A c L q op lv xv x y j k v W' := by
  match k, h with
  | 0, h | 1, h | 2, h | 3, h | 4, h => exact h
  | 5, h =>
    obtain ⟨h1, m, h2⟩ := h
    exact ⟨⟨hb.2 h1.1, h1.2⟩, m, h2.grownX hq hb.1⟩
  | 6, h =>
    obtain ⟨h1, m, b, h2, h3⟩ := h
    exact ⟨⟨hb.2 h1.1, h1.2⟩, m, b, h2, Sl.keep h3 (RExN.kept m) (fun _ hd => ⟨hd.1, Nat.lt_of_lt_of_le hd.2 hb.1.size⟩) (DX.same hq hb.1)⟩
  | 7, h =>
    obtain ⟨h1, m, b, h2, h3⟩ := h
    exact ⟨⟨hb.2 h1.1, h1.2⟩, m, b, h2, h3.grownX hq hb.1⟩
  | n + 8, h => exact trivial
end Go.Proofs.YtijmnenojbfdnaaGreatDoor

namespace Go.Proofs.YtijmnenojbfdnaaGreatDoor
open Go.RowKit
set_option maxHeartbeats 4000000 in
set_option maxRecDepth 100000 in
theorem expr_of (L : List Tok) (hL : TokOk L) (f : Nat) (hf : f ≤ 1000) (hXI : ∀ f' < f, ExprC L f') (hAI : ∀ f' < f, AtomC L f') : ExprC L f := by
  intro g A c i least R q w hgq hqw hl h hi hle hr
  obtain ⟨f', rfl, hnif, hcase⟩ := exB_step hr
  have HCS := Lib.hid hcase
  have HXI := Lib.hid hXI
  have HAI := Lib.hid hAI
  have hLL := hL.len
  have hglt : g < w.heap.size := Blk.lt h
  clear hcase hXI hAI hr
  have hb1 := bbox (bone w (.cells #[.int .i64 0, .int .i64 0, .int .i64 0, .string ⟨#[]⟩, .string ⟨#[]⟩, .slice none 0 0] 28)) (.cells #[.int .i64 0, .int .i64 0, .int .i64 0, .string ⟨#[]⟩, .string ⟨#[]⟩, .slice none 0 0] 28)
  have hR1 := (Blk.new w 28 #[.int .i64 0, .int .i64 0, .int .i64 0, .string ⟨#[]⟩, .string ⟨#[]⟩, .slice none 0 0]).alloc (.cells #[.int .i64 0, .int .i64 0, .int .i64 0, .string ⟨#[]⟩, .string ⟨#[]⟩, .slice none 0 0] 28)
  have hX1 := Blk.new_at (t := 28) (cs := #[.int .i64 0, .int .i64 0, .int .i64 0, .string ⟨#[]⟩, .string ⟨#[]⟩, .slice none 0 0]) (w := w.alloc (.cells #[.int .i64 0, .int .i64 0, .int .i64 0, .string ⟨#[]⟩, .string ⟨#[]⟩, .slice none 0 0] 28)) (s := w.heap.size + 1) (World.size_alloc _ _)
  go_enter Tryz.func74, Tryz.ntmps74
  go_upto_block 0 with fail
  generalize hw1 : ((w.alloc (.cells #[.int .i64 0, .int .i64 0, .int .i64 0, .string ⟨#[]⟩, .string ⟨#[]⟩, .slice none 0 0] 28)).alloc (.cells #[.int .i64 0, .int .i64 0, .int .i64 0, .string ⟨#[]⟩, .string ⟨#[]⟩, .slice none 0 0] 28)) = w1 at *
  clear hw1
  have h1 := IsPs.now h hb1
  have hg1 := grown_of_below hb1 (some g)
  have hsz1 := hX1.lt
  clear hb1 h
  have htk1 := fun (s : ByteArray) (W : World) (hg : w.grownBy W (some g)) (hp : IsPs W g A c L i) => take_any g A c L i s W hi (Lt g) (Sl.below hl RTok.kept (below_of_grown hg (Nat.le_of_lt hglt) (fun q e => by injection e with e; omega)) (Nat.le_refl _)) hL.len hp
  have HTK := Lib.hid htk1
  have HIF := Lib.hid hnif
  clear htk1 hnif
  go_cut [6] from 6 to 45 (fun sv W => ∃ (x : Ex) (i' top m : Nat) (Ax : Option Addr) (cx : Nat), sv = .int .i64 (top : Int) ∧ top ≤ 8 ∧ Hid (LoopOk L f' i' least x top R) ∧ i' < L.length ∧ IsPs W g A c L i' ∧ Blk W w.heap.size 28 #[.int .i64 0, .int .i64 0, .int .i64 0, .string ⟨#[]⟩, .string ⟨#[]⟩, .slice none 0 0] ∧ Blk W (w.heap.size + 1) 28 #[.int .i64 x.op, .int .i64 x.v.kind, .int .i64 x.v.n, .string x.v.s, .string x.s, .slice Ax x.l.length cx] ∧ IsEx m (DX (w.heap.size + 1) W) W (.agg #[.int .i64 x.op, .int .i64 x.v.kind, .int .i64 x.v.n, .string x.v.s, .string x.s, .slice Ax x.l.length cx]) x ∧ w.grownBy W (some g) ∧ w.heap.size + 1 < W.heap.size)
  case first =>
    go_upto_region 4 with fail
    go_cut [14] from 14 to 20 (fun v W => v = .bool false ∧ IsPs W g A c L i ∧ w1.grownBy W (some g))
    case first =>
      by_cases hl1 : least ≤ 1
      · have d1 : (least : Int) ≤ 1 := by omega
        have hq : isB L i kIf = false := by
          cases e : isB L i kIf with
          | false => rfl
          | true => exact absurd ⟨hl1, e⟩ HIF.out
        have ht := HTK.out kIf w1 hg1 h1
        rw [hq] at ht
        unfold kIf at ht
        have HT := Lib.hid ht
        clear ht hq
        go_wp2_with fail
        refine HT.out.mono ?_
        rintro e w2 ⟨rfl, h2, hg2⟩
        go_wp2_with fail
        go_meet
        exact ⟨rfl, h2, hg2⟩
      · have d1 : ¬ (least : Int) ≤ 1 := by omega
        go_wp2_with fail
        go_meet
        exact ⟨rfl, h1, grown_of_below (Below.refl _ _) _⟩
    case rest =>
      obtain ⟨rfl, h2, hg12⟩ := hcut
      have hR2 := hR1.grown hg12 (fun e => by injection e with e; omega)
      have hX2 := hX1.grown hg12 (fun e => by injection e with e; omega)
      have hg2 := lexGrownT hg1 hg12
      have hsz2 := Nat.le_trans hsz1 hg12.size
      clear hR1 hX1 hg1 hg12 h1 hsz1 HIF
      obtain ⟨w2, hwc⟩ : ∃ w2, w2 = wc := ⟨_, rfl⟩
      subst hwc
      obtain ⟨qn, hqn⟩ : ∃ qn, (decide (least ≤ 4) && isB L i kNot) = qn := ⟨_, rfl⟩
      have HQN := Lib.hid hqn
      clear hqn
      go_upto_region 10 with fail
      go_cut [35] from 35 to 41 (fun v W => v = .bool qn ∧ IsPs W g A c L (if qn then i + 1 else i) ∧ w2.grownBy W (some g))
      case first =>
        by_cases hl1 : least ≤ 4
        · have d1 : (least : Int) ≤ 4 := by omega
          have hq : isB L i kNot = qn := by rw [← HQN.out, decide_eq_true hl1]; rfl
          have ht := HTK.out kNot w2 hg2 h2
          rw [hq] at ht
          unfold kNot at ht
          have HT := Lib.hid ht
          clear ht hq
          go_wp2_with fail
          refine HT.out.mono ?_
          rintro e w3 ⟨rfl, h3, hg3⟩
          go_wp2_with fail
          go_meet
          exact ⟨rfl, h3, hg3⟩
        · have d1 : ¬ (least : Int) ≤ 4 := by omega
          have hq : qn = false := by rw [← HQN.out, decide_eq_false hl1]; rfl
          subst hq
          go_wp2_with fail
          go_meet
          exact ⟨rfl, h2, grown_of_below (Below.refl _ _) _⟩
      case rest =>
        obtain ⟨rfl, h3, hg23⟩ := hcut
        obtain ⟨w3, hwc⟩ : ∃ w3, w3 = wc := ⟨_, rfl⟩
        subst hwc
        have hR3 := hR2.grown hg23 (fun e => by injection e with e; omega)
        have hX3 := hX2.grown hg23 (fun e => by injection e with e; omega)
        have hg3 := lexGrownT hg2 hg23
        have hsz3 := Nat.le_trans hsz2 hg23.size
        clear hR2 hX2 hg2 hg23 h2 hsz2
        have hl3 := Sl.below hl RTok.kept (below_of_grown hg3 (Nat.le_of_lt hglt) (fun q e => by injection e with e; omega)) (Nat.le_refl _)
        cases qn
        · have hcs : ¬ (least ≤ 4 ∧ isB L i kNot = true) := by
            rintro ⟨a, b⟩
            have := HQN.out
            rw [decide_eq_true a, b] at this
            cases this
          have hc2 := HCS.out.resolve_left (fun h => hcs ⟨h.1, h.2.1⟩)
          obtain ⟨_, x, i', hat, hlp⟩ := hc2
          have hca := HAI.out f' (by omega) g A c i (x, i') (w.heap.size + 1) w3 (by omega) hsz3 hl3 h3 hi hat
          have HCA := Lib.hid hca
          have HLP := Lib.hid hlp
          clear hcs hca hat hlp hl3
          go_wp2_with fail
          refine HCA.out.mono ?_
          rintro e w4 ⟨m, xv, rfl, hx4, h4, hi4, hg34⟩
          have hR4 := hR3.grown hg34 (fun e => by injection e with e; omega)
          have hX4 := hX3.grown hg34 (fun e => by injection e with e; omega)
          have hg4 := lexGrownT hg3 hg34
          have hsz4 := Nat.le_trans hsz3 hg34.size
          obtain ⟨lv, rfl, _, Ax, cx, rfl⟩ := hx4.cells
          dsimp only at h4 hi4 hx4
          clear hR3 hX3 hg3 hg34 h3 hsz3 HCA
          obtain ⟨r0, r1, r2, r3, r4, r5⟩ := hX4.c6
          have f0 := hX4.frozen 0
          have f1 := hX4.frozen 1
          have f2 := hX4.frozen 2
          have f3 := hX4.frozen 3
          have f4 := hX4.frozen 4
          have f5 := hX4.frozen 5
          go_wp2_with fail
          go_meet
          exact ⟨x, i', 8, m, Ax, cx, rfl, by omega, HLP, hi4, Blk.far6 h4 (by omega) (.int .i64 x.op) (.int .i64 x.v.kind) (.int .i64 x.v.n) (.string x.v.s) (.string x.s) (.slice Ax x.l.length cx), Blk.far6 hR4 (by omega) (.int .i64 x.op) (.int .i64 x.v.kind) (.int .i64 x.v.n) (.string x.v.s) (.string x.s) (.slice Ax x.l.length cx), hX4.set6' (.int .i64 x.op) (.int .i64 x.v.kind) (.int .i64 x.v.n) (.string x.v.s) (.string x.s) (.slice Ax x.l.length cx), hx4.far6X (Nat.le_refl _) (.int .i64 x.op) (.int .i64 x.v.kind) (.int .i64 x.v.n) (.string x.v.s) (.string x.s) (.slice Ax x.l.length cx), grown6' hg4 (Nat.le_succ _) (.int .i64 x.op) (.int .i64 x.v.kind) (.int .i64 x.v.n) (.string x.v.s) (.string x.s) (.slice Ax x.l.length cx), by simp only [World.size_setCell]; exact hsz4⟩
        · have hcs : least ≤ 4 ∧ isB L i kNot = true := by
            have := HQN.out
            rw [Bool.and_eq_true, decide_eq_true_eq] at this
            exact this
          have hc2 := HCS.out.resolve_right (fun h => h.1 hcs)
          obtain ⟨_, _, y, i', hex, hlp⟩ := hc2
          have hca := HXI.out f' (by omega) g A c (i + 1) 4 (y, i') (w.heap.size + 1) w3 (by omega) hsz3 hl3 h3 (hL.next hcs.2) (by omega) hex
          have HCA := Lib.hid hca
          have HLP := Lib.hid hlp
          clear hcs hca hex hlp hl3
          go_wp2_with fail
          refine HCA.out.mono ?_
          rintro e w4 ⟨m, yv, rfl, hy4, h4, hi4, hg34⟩
          have hR4 := hR3.grown hg34 (fun e => by injection e with e; omega)
          have hX4 := hX3.grown hg34 (fun e => by injection e with e; omega)
          have hg4 := lexGrownT hg3 hg34
          have hsz4 := Nat.le_trans hsz3 hg34.size
          obtain ⟨lv, rfl, _, Ay, cy, rfl⟩ := hy4.cells
          dsimp only at h4 hi4 hy4
          clear hR3 hX3 hg3 hg34 h3 hsz3 HCA
          have hb5 := bone w4 (.cells #[.int .i64 y.op, .int .i64 y.v.kind, .int .i64 y.v.n, .string y.v.s, .string y.s, .slice Ay y.l.length cy] 28)
          have hX5 := hX4.now hb5
          have hrow5 := World.ownsRow_lit (base := w4.heap.size) (e := 28) (size := 6) w4 #[.int .i64 y.op, .int .i64 y.v.kind, .int .i64 y.v.n, .string y.v.s, .string y.s, .slice Ay y.l.length cy] 1 (Nat.le_refl _) (by unfold maxLen; omega) rfl
          have hy5 := hy4.grownX (show g ≤ w.heap.size + 1 by omega) (grown_of_below hb5 (some g))
          have h5 := IsPs.now h4 hb5
          have hR5 := hR4.now hb5
          have hg5 := lexGrownT hg4 (grown_of_below hb5 (some g))
          have hsz5 := Nat.le_trans hsz4 hb5.size
          have hsl5 := row1_ex hrow5 hy5 hsz4
          obtain ⟨r0, r1, r2, r3, r4, r5⟩ := hX5.c6
          have f0 := hX5.frozen 0
          have f1 := hX5.frozen 1
          have f2 := hX5.frozen 2
          have f3 := hX5.frozen 3
          have f4 := hX5.frozen 4
          have f5 := hX5.frozen 5
          go_wp2_with fail
          go_meet
          exact ⟨nodeB 3 [y], i', 4, m + 1, _, _, rfl, by omega, HLP, hi4, Blk.far6 h5 (by omega) _ _ _ _ _ _, Blk.far6 hR5 (by omega) _ _ _ _ _ _, hX5.set6' _ _ _ _ _ _, (isEx_node 3 hsl5 (by omega)).far6X (Nat.le_refl _) _ _ _ _ _ _, grown6' hg5 (Nat.le_succ _) _ _ _ _ _ _, by simp only [World.size_setCell]; exact hsz5⟩
  case rest =>
    obtain ⟨xs, is, ts, ms, As, cs, rfl, hts, HLS, his, hPs, hRs, hXs, hEs, hgs, hszs⟩ := hcut
    clear HCS HTK HIF HAI hR1 hX1 hg1 h1 hsz1
    go_wp2_with fail
    go_loopg [6] f' (fun gg sv W => ∃ (f1 : Nat) (x : Ex) (i' top m : Nat) (Ax : Option Addr) (cx : Nat), f1 ≤ gg ∧ f1 ≤ f' ∧ sv = .int .i64 (top : Int) ∧ top ≤ 8 ∧ Hid (LoopOk L f1 i' least x top R) ∧ i' < L.length ∧ IsPs W g A c L i' ∧ Blk W w.heap.size 28 #[.int .i64 0, .int .i64 0, .int .i64 0, .string ⟨#[]⟩, .string ⟨#[]⟩, .slice none 0 0] ∧ Blk W (w.heap.size + 1) 28 #[.int .i64 x.op, .int .i64 x.v.kind, .int .i64 x.v.n, .string x.v.s, .string x.s, .slice Ax x.l.length cx] ∧ IsEx m (DX (w.heap.size + 1) W) W (.agg #[.int .i64 x.op, .int .i64 x.v.kind, .int .i64 x.v.n, .string x.v.s, .string x.s, .slice Ax x.l.length cx]) x ∧ w.grownBy W (some g) ∧ w.heap.size + 1 < W.heap.size)
    case atStart => exact ⟨f', xs, is, ts, ms, As, cs, Nat.le_refl _, Nat.le_refl _, rfl, hts, HLS, his, hPs, hRs, hXs, hEs, hgs, hszs⟩
    case round =>
      obtain ⟨f1, x, i', top, m, Ax, cx, hf1g, hf1, rfl, htop, HL, hi1, h1, hR1, hX1, hx1, hg1, hsz1⟩ := hrel
      clear hPs hRs hXs hEs hgs hszs HLS
      obtain ⟨f2, rfl, hcase⟩ := loopB_step HL.out
      have hop := opB_lt L i'
      have hlv := levB_le (opB L i')
      have hbase := hL.len
      have hl1 := Sl.below hl RTok.kept (below_of_grown hg1 (Nat.le_of_lt hglt) (fun q e => by injection e with e; omega)) (Nat.le_refl _)
      have hglt1 : g < wr.heap.size := by omega
      have hoc := operator_any g A c L i' wr hi1 g (Nat.le_of_lt hglt1) hl1 h1
      have hlc := fun W => level_any (opB L i') W hop
      have hnext : opB L i' ≠ 0 → i' + 1 < L.length := fun hne => by
        obtain ⟨s, hs⟩ := opB_is hne
        exact hL.next hs
      have hstop : stopB L i' least top = (decide (opB L i' = 0) || (decide (levB (opB L i') < least) || decide (top < askB (opB L i')))) := by
        unfold stopB
        simp
      have hask : askB (opB L i') = if levB (opB L i') = 5 then 6 else levB (opB L i') := rfl
      obtain ⟨op, hope⟩ : ∃ op, opB L i' = op := ⟨_, rfl⟩
      obtain ⟨lv, hlve⟩ : ∃ lv, levB (opB L i') = lv := ⟨_, rfl⟩
      obtain ⟨ak, hake⟩ : ∃ ak, askB (opB L i') = ak := ⟨_, rfl⟩
      obtain ⟨st, hste⟩ : ∃ st, stopB L i' least top = st := ⟨_, rfl⟩
      rw [hake, hlve] at hask
      rw [hste, hake, hlve] at hstop
      rw [hlve] at hlc hlv hcase
      rw [hste] at hcase
      rw [hope] at hoc hlc hstop hnext hop hcase
      have HOC := Lib.hid hoc
      have HLC := Lib.hid hlc
      have HCS := Lib.hid hcase
      have HST := Lib.hid hstop
      have HAK := Lib.hid hask
      have HNX := Lib.hid hnext
      have HLV : Hid (levB op = lv) := by show _ = _; rw [← hope]; exact hlve
      clear hoc hlc hcase hstop hask hope hlve hake hste hl1 hnext HL
      obtain ⟨p0, p1, p2⟩ := (show Blk wr g 114 #[.slice A L.length c, .int .i64 (i' : Int), .bool false] from h1).c3
      go_wp2_with fail
      refine HOC.out.mono ?_
      rintro e w2 ⟨rfl, hb2⟩
      have h2 := IsPs.now h1 hb2
      have hR2 := hR1.now hb2
      have hX2 := hX1.now hb2
      have hx2 := hx1.grownX (show g ≤ w.heap.size + 1 by omega) (grown_of_below hb2 (some g))
      have hg2 := lexGrownT hg1 (grown_of_below hb2 (some g))
      have hsz2 := Nat.le_trans hsz1 hb2.size
      clear HOC p0 p1 p2 h1 hR1 hX1 hx1 hg1 hsz1 hb2
      go_wp2_with fail
      refine (HLC.out w2).mono ?_
      rintro e w3 ⟨rfl, rfl⟩
      clear HLC
      go_upto_if 57 with fail
      go_cut [11] from 46 to 94 (fun v W => v = .int .i64 (ak : Int) ∧ w2 = W)
      case first =>
        by_cases h5 : lv = 5
        · have d5 : ((lv : Int) == 5) = true := by rw [h5]; rfl
          have HA2 : Hid (ak = 6) := by show _ = _; rw [HAK.out, if_pos h5]
          clear h5
          go_wp2_with fail
          go_meet
          exact ⟨by rw [HA2.out]; rfl, rfl⟩
        · have d5 : ((lv : Int) == 5) = false := by simp; omega
          have HA2 : Hid (ak = lv) := by show _ = _; rw [HAK.out, if_neg h5]
          clear h5
          go_wp2_with fail
          go_meet
          exact ⟨by rw [HA2.out], rfl⟩
      case rest =>
        obtain ⟨rfl, rfl⟩ := hcut
        go_upto_region 18 with fail
        go_cut [69] from 46 to 94 (fun v W => v = .bool st ∧ w2 = W)
        case first =>
          by_cases a1 : op = 0
          · have d1 : ((op : Int) == 0) = true := by rw [a1]; rfl
            have HA2 : Hid (st = true) := by show _ = _; rw [HST.out, decide_eq_true a1]; rfl
            clear a1
            go_wp2_with fail
            go_meet
            exact ⟨by rw [HA2.out], rfl⟩
          · have d1 : ((op : Int) == 0) = false := by simp; omega
            by_cases a2 : lv < least
            · have d2 : (lv : Int) < (least : Int) := by omega
              have HA2 : Hid (st = true) := by show _ = _; rw [HST.out, decide_eq_true a2]; simp
              clear a1 a2
              go_wp2_with fail
              go_meet
              exact ⟨by rw [HA2.out], rfl⟩
            · have d2 : ¬ (lv : Int) < (least : Int) := by omega
              have HA2 : Hid (st = decide (top < ak)) := by show _ = _; rw [HST.out, decide_eq_false a1, decide_eq_false a2]; rfl
              clear a1 a2
              by_cases a3 : top < ak
              · have d3 : (top : Int) < (ak : Int) := by omega
                go_wp2_with fail
                go_meet
                exact ⟨by rw [HA2.out, decide_eq_true a3], rfl⟩
              · have d3 : ¬ (top : Int) < (ak : Int) := by omega
                go_wp2_with fail
                go_meet
                exact ⟨by rw [HA2.out, decide_eq_false a3], rfl⟩
        case rest =>
          obtain ⟨rfl, rfl⟩ := hcut
          clear HAK
          cases st
          · have hcs : (op = 13 ∧ isB L (i' + 1) kLeft = true ∧ ∃ l j, pSetB L f2 (i' + 1 + 1) [x] = some (l, j) ∧ LoopOk L f2 j least (nodeB 13 l) 5 R) ∨ (op ≠ 13 ∧ ∃ y j, exB L f2 (i' + 1) (lv + 1) = some (y, j) ∧ LoopOk L f2 j least (nodeB op [x, y]) lv R) := by
              rcases HCS.out with ⟨h, _⟩ | ⟨_, h⟩ | ⟨_, h⟩
              · cases h
              · exact .inl h
              · exact .inr h
            have hi2 : i' + 1 < L.length := HNX.out (fun e => by
              have := HST.out
              rw [decide_eq_true e] at this
              cases this)
            have HC2 := Lib.hid hcs
            clear hcs HCS HST HNX
            obtain ⟨c0, c1, c2⟩ := (show Blk w2 g 114 #[.slice A L.length c, .int .i64 (i' : Int), .bool false] from h2).c3
            have p1 := Blk.frozen h2 1
            have e1 : ((i' + 1 : Nat) : Int) = (i' : Int) + 1 := by omega
            go_upto_block 3 with fail
            have h3 : IsPs (w2.setCell ⟨g, 1, none⟩ (.int .i64 ((i' : Int) + 1))) g A c L (i' + 1) := by
              unfold IsPs
              rw [e1]
              exact h2.set_ 1 _
            have hR3 := hR2.far (p := ⟨g, 1, none⟩) (show w.heap.size ≠ g by omega) (.int .i64 ((i' : Int) + 1))
            have hX3 := hX2.far (p := ⟨g, 1, none⟩) (show w.heap.size + 1 ≠ g by omega) (.int .i64 ((i' : Int) + 1))
            have hx3 := hx2.farX (p := ⟨g, 1, none⟩) (show g ≤ w.heap.size + 1 by omega) (.int .i64 ((i' : Int) + 1))
            have hg3 := lexGrownT hg2 (lexGrownS w2 g 1 (.int .i64 ((i' : Int) + 1)))
            have hsz3 : w.heap.size + 1 < (w2.setCell ⟨g, 1, none⟩ (.int .i64 ((i' : Int) + 1))).heap.size := by rw [World.size_setCell]; exact hsz2
            generalize hw3 : w2.setCell ⟨g, 1, none⟩ (.int .i64 ((i' : Int) + 1)) = w3 at *
            clear hw3 c0 c1 c2 p1 h2 hR2 hX2 hx2 hg2 hsz2 e1
            have hl3 := Sl.below hl RTok.kept (below_of_grown hg3 (Nat.le_of_lt hglt) (fun q e => by injection e with e; omega)) (Nat.le_refl _)
            go_cut [] from 46 to 94 (fun W => Hid (∃ (z : Ex) (j m : Nat) (Az : Option Addr) (cz : Nat), LoopOk L f2 j least z lv R ∧ j < L.length ∧ IsPs W g A c L j ∧ Blk W w.heap.size 28 #[.int .i64 0, .int .i64 0, .int .i64 0, .string ⟨#[]⟩, .string ⟨#[]⟩, .slice none 0 0] ∧ Blk W (w.heap.size + 1) 28 #[.int .i64 z.op, .int .i64 z.v.kind, .int .i64 z.v.n, .string z.v.s, .string z.s, .slice Az z.l.length cz] ∧ IsEx m (DX (w.heap.size + 1) W) W (.agg #[.int .i64 z.op, .int .i64 z.v.kind, .int .i64 z.v.n, .string z.v.s, .string z.s, .slice Az z.l.length cz]) z ∧ w.grownBy W (some g) ∧ w.heap.size + 1 < W.heap.size))
            case first =>
              obtain ⟨q13, d13⟩ : ∃ q, ((op : Int) == 13) = q := ⟨_, rfl⟩
              have HQ13 := Lib.hid d13
              go_upto_region 22 with fail
              go_cut [88] from 46 to 94 (fun v W => v = .bool q13 ∧ w3 = W)
              case first =>
                go_wp2_with fail
                go_meet
                exact ⟨rfl, rfl⟩
              obtain ⟨rfl, rfl⟩ := hcut
              clear d13
              cases q13
              rotate_left
              · have h13 : op = 13 := by have := HQ13.out; simp at this; omega
                have hc3 := HC2.out.resolve_right (fun h => h.1 h13)
                obtain ⟨-, hkl, l, j, hps, hlp⟩ := hc3
                have hsc := set_any (w.heap.size + 1) g (by omega) A c L hL f2 (i' + 1) x m _ (l, j) w3 (by omega) hl3 h3 hsz3 hx3 hkl hps
                have HSC := Lib.hid hsc
                have HLP := Lib.hid hlp
                have HOP := Lib.hid h13
                clear hkl hps hlp hsc HC2 hl3 h13
                obtain ⟨r0, r1, r2, r3, r4, r5⟩ := hX3.c6
                go_wp2_with fail
                refine HSC.out.mono ?_
                rintro e w4 ⟨m4, yv, rfl, hy4, h4, hj4, hg34⟩
                have hR4 := hR3.grown hg34 (fun e => by injection e with e; omega)
                have hX4 := hX3.grown hg34 (fun e => by injection e with e; omega)
                have hg4 := lexGrownT hg3 hg34
                have hsz4 := Nat.le_trans hsz3 hg34.size
                obtain ⟨lv', rfl, _, Ay, cy, rfl⟩ := hy4.cells
                dsimp only at h4 hj4 hy4
                have HV5 : Hid (lv = 5) := by show _ = _; rw [← HLV.out, HOP.out]; rfl
                clear hR3 hX3 hg3 hg34 h3 hsz3 HSC r0 r1 r2 r3 r4 r5 hx3
                obtain ⟨r0, r1, r2, r3, r4, r5⟩ := hX4.c6
                have fz0 := hX4.frozen 0
                have fz1 := hX4.frozen 1
                have fz2 := hX4.frozen 2
                have fz3 := hX4.frozen 3
                have fz4 := hX4.frozen 4
                have fz5 := hX4.frozen 5
                go_wp2_with fail
                go_meet
                exact ⟨nodeB 13 l, j, m4, _, _, (by show LoopOk _ _ _ _ _ _ _; rw [HV5.out]; exact HLP.out), hj4, Blk.far6 h4 (by omega) _ _ _ _ _ _, Blk.far6 hR4 (by omega) _ _ _ _ _ _, hX4.set6' _ _ _ _ _ _, hy4.far6X (Nat.le_refl _) _ _ _ _ _ _, grown6' hg4 (Nat.le_succ _) _ _ _ _ _ _, by simp only [World.size_setCell]; exact hsz4⟩
              · have h13 : op ≠ 13 := by have := HQ13.out; simp at this; omega
                obtain ⟨-, y, j, hex, hlp⟩ := HC2.out.resolve_left (fun h => h13 h.1)
                have elv : ((lv + 1 : Nat) : Int) = (lv : Int) + 1 := by omega
                have hdr : Below w3.heap.size w3 w3.drew := (Below.refl _ _).drew
                have hca := fun (W : World) (hg : w.grownBy W (some g)) (hs : w.heap.size + 1 < W.heap.size) (hp : IsPs W g A c L (i' + 1)) => HXI.out f2 (by omega) g A c (i' + 1) (lv + 1) (y, j) (w.heap.size + 1) W (by omega) hs (Sl.below hl RTok.kept (below_of_grown hg (Nat.le_of_lt hglt) (fun q e => by injection e with e; omega)) (Nat.le_refl _)) hp hi2 (by omega) hex
                rw [elv] at hca
                have HCA := Lib.hid hca
                have HLP := Lib.hid hlp
                clear hex hlp hca HC2 hl3 h13 elv
                obtain ⟨r0, r1, r2, r3, r4, r5⟩ := hX3.c6
                go_upto_region 21 with fail
                have hX3d := hX3.now hdr
                have hR3d := hR3.now hdr
                have hx3d := hx3.grownX (show g ≤ w.heap.size + 1 by omega) (grown_of_below hdr (some g))
                have hg3d := lexGrownT hg3 (grown_of_below hdr (some g))
                have hsz3d : w.heap.size + 1 < w3.drew.heap.size := hsz3
                rename_i J1 K1 hJ hK
                refine wp_region_makeG (B := B21 g A c L j) B21.refl B21.trans (by kernel_rfl) 8 (by kernel_rfl) (by kernel_rfl) (by kernel_rfl) (by kernel_rfl) (r21F g A c L (w.heap.size + 1) op lv (.agg #[.int .i64 x.op, .int .i64 x.v.kind, .int .i64 x.v.n, .string x.v.s, .string x.s, .slice Ax x.l.length cx]) x y j) 5 (fun W => IsPs W g A c L (i' + 1)) (IsPs.now h3 hdr) (r21F_keep (by omega)) ?hall ?hstep ?hlast
                case hall => exact hall_of (by kernel_rfl)
                case hstep =>
                  refine ⟨fun a W hk hbW hU hd => ?_, ?_⟩
                  · show Oper.wp _ _ a W _ _
                    have k1 : a.eval (.tmp 9) = .int .i64 (op : Int) := hk.same (s := 9) (by kernel_rfl)
                    exact wpM_move _ _ rfl k1 ⟨_, rfl, B21.refl _, fun _ h => h, rfl⟩
                  refine ⟨fun a W hk hbW hU hd => ?_, ?_⟩
                  · show Oper.wp _ _ a W _ _
                    have k1 : a.eval (.tmp 5) = .pointer (some ⟨w.heap.size + 1, 0, none⟩) := hk.same (s := 5) (by kernel_rfl)
                    obtain ⟨q0, q1, q2, q3, q4, q5⟩ := (hX3d.grown hbW.1 (fun e => by injection e with e; omega)).c6
                    exact wpM_load _ _ _ (.agg #[.int .i64 x.op, .int .i64 x.v.kind, .int .i64 x.v.n, .string x.v.s, .string x.s, .slice Ax x.l.length cx]) rfl k1 (by simp [go_sem, q0, q1, q2, q3, q4, q5]) ⟨_, rfl, B21.refl _, fun _ h => h, rfl⟩
                  refine ⟨fun a W hk hbW hU hd => ?_, ?_⟩
                  · show Oper.wp _ _ a W _ _
                    have k1 : a.eval (.tmp 0) = .pointer (some ⟨g, 0, none⟩) := hk.same (s := 0) (by kernel_rfl)
                    exact wpM_move _ _ rfl k1 ⟨_, rfl, B21.refl _, fun _ h => h, rfl⟩
                  refine ⟨fun a W hk hbW hU hd => ?_, ?_⟩
                  · show Oper.wp _ _ a W _ _
                    have k1 : a.eval (.tmp 10) = .int .i64 (lv : Int) := hk.same (s := 10) (by kernel_rfl)
                    exact wpM_move _ _ rfl k1 ⟨_, rfl, B21.refl _, fun _ h => h, rfl⟩
                  refine ⟨fun a W hk hbW hU hd => ?_, ?_⟩
                  · show Oper.wp _ _ a W _ _
                    have e0 : a.eval (.tmp 83) = .int .i64 (lv : Int) := (show r21F g A c L (w.heap.size + 1) op lv (.agg #[.int .i64 x.op, .int .i64 x.v.kind, .int .i64 x.v.n, .string x.v.s, .string x.s, .slice Ax x.l.length cx]) x y j 3 (Act.slot a 83) W from hd 3 (by kernel_rfl))
                    refine wpM_run (.int .i64 ((lv : Int) + 1)) W ?_ ⟨_, rfl, B21.refl _, fun _ h => h, rfl⟩
                    simp only [execOp, e0]
                    simp [go_sem]
                    exact IntWalk.i64_in _ (by omega)
                  refine ⟨fun a W hk hbW hU hd => ?_, ?_⟩
                  · show Oper.wp _ _ a W _ _
                    have e0 : a.eval (.tmp 82) = .pointer (some ⟨g, 0, none⟩) := (show r21F g A c L (w.heap.size + 1) op lv (.agg #[.int .i64 x.op, .int .i64 x.v.kind, .int .i64 x.v.n, .string x.v.s, .string x.s, .slice Ax x.l.length cx]) x y j 2 (Act.slot a 82) W from hd 2 (by kernel_rfl))
                    have e1 : a.eval (.tmp 84) = .int .i64 ((lv : Int) + 1) := (show r21F g A c L (w.heap.size + 1) op lv (.agg #[.int .i64 x.op, .int .i64 x.v.kind, .int .i64 x.v.n, .string x.v.s, .string x.s, .slice Ax x.l.length cx]) x y j 4 (Act.slot a 84) W from hd 4 (by kernel_rfl))
                    have hsW := Nat.le_trans hsz3d hbW.1.size
                    refine wpM_callEx _ _ #[.pointer (some ⟨g, 0, none⟩), .int .i64 ((lv : Int) + 1)] _ rfl rfl (by simp [e0, e1]) ?_
                    refine ((HCA.out W (lexGrownT hg3d hbW.1) hsW (hU rfl))).mono ?_
                    rintro e w4 ⟨m4, yv, rfl, hy4, h4, hj4, hg34⟩
                    exact ⟨_, rfl, _, rfl, ⟨hg34, fun _ => h4⟩, fun h => absurd rfl h, ⟨h4, hj4⟩, m4, hy4⟩
                  refine ⟨fun a W hk hbW hU hd => ?_, ?_⟩
                  · show Oper.wp _ _ a W _ _
                    have e0 : a.eval (.tmp 81) = .agg #[.int .i64 x.op, .int .i64 x.v.kind, .int .i64 x.v.n, .string x.v.s, .string x.s, .slice Ax x.l.length cx] := (show r21F g A c L (w.heap.size + 1) op lv (.agg #[.int .i64 x.op, .int .i64 x.v.kind, .int .i64 x.v.n, .string x.v.s, .string x.s, .slice Ax x.l.length cx]) x y j 1 (Act.slot a 81) W from hd 1 (by kernel_rfl))
                    obtain ⟨hpW, m4, hy4⟩ := (show r21F g A c L (w.heap.size + 1) op lv (.agg #[.int .i64 x.op, .int .i64 x.v.kind, .int .i64 x.v.n, .string x.v.s, .string x.s, .slice Ax x.l.length cx]) x y j 5 (Act.slot a 85) W from hd 5 (by kernel_rfl))
                    have hsW := Nat.le_trans hsz3d hbW.1.size
                    obtain ⟨lv', e1, _, Ay, cy, rfl⟩ := hy4.cells
                    have e1 : a.eval (.tmp 85) = .agg #[.int .i64 y.op, .int .i64 y.v.kind, .int .i64 y.v.n, .string y.v.s, .string y.s, .slice Ay y.l.length cy] := e1
                    rw [show Act.slot a 85 = .agg #[.int .i64 y.op, .int .i64 y.v.kind, .int .i64 y.v.n, .string y.v.s, .string y.s, .slice Ay y.l.length cy] from e1] at hy4
                    have hb5 := bone W (.cells #[.int .i64 x.op, .int .i64 x.v.kind, .int .i64 x.v.n, .string x.v.s, .string x.s, .slice Ax x.l.length cx, .int .i64 y.op, .int .i64 y.v.kind, .int .i64 y.v.n, .string y.v.s, .string y.s, .slice Ay y.l.length cy] 28)
                    refine wpM_slice _ _ _ _ _ #[(0, .agg #[.int .i64 x.op, .int .i64 x.v.kind, .int .i64 x.v.n, .string x.v.s, .string x.s, .slice Ax x.l.length cx]), (1, .agg #[.int .i64 y.op, .int .i64 y.v.kind, .int .i64 y.v.n, .string y.v.s, .string y.s, .slice Ay y.l.length cy])] rfl (by simp [e0, e1]) (bX2 _ _ _ _ _ _ _ _ _ _ _ _ _ _ _ _ W) ⟨_, rfl, B21.below hb5, fun _ h => IsPs.now h hb5, ⟨IsPs.now hpW.1 hb5, hpW.2⟩, max m m4 + 1, W.heap.size, rfl, ?_⟩
                    have hrow5 := World.ownsRow_lit (base := W.heap.size) (e := 28) (size := 6) W #[.int .i64 x.op, .int .i64 x.v.kind, .int .i64 x.v.n, .string x.v.s, .string x.s, .slice Ax x.l.length cx, .int .i64 y.op, .int .i64 y.v.kind, .int .i64 y.v.n, .string y.v.s, .string y.s, .slice Ay y.l.length cy] 2 (Nat.le_refl _) (by unfold maxLen; omega) rfl
                    have hx4 := hx3d.grownX (show g ≤ w.heap.size + 1 by omega) hbW.1
                    exact row2_ex hrow5 (hx4.grownX (show g ≤ w.heap.size + 1 by omega) (grown_of_below hb5 (some g))) (hy4.grownX (show g ≤ w.heap.size + 1 by omega) (grown_of_below hb5 (some g))) hsW
                  refine ⟨fun a W hk hbW hU hd => ?_, trivial⟩
                  · show Oper.wp _ _ a W _ _
                    have e0 : a.eval (.tmp 80) = .int .i64 (op : Int) := (show r21F g A c L (w.heap.size + 1) op lv (.agg #[.int .i64 x.op, .int .i64 x.v.kind, .int .i64 x.v.n, .string x.v.s, .string x.s, .slice Ax x.l.length cx]) x y j 0 (Act.slot a 80) W from hd 0 (by kernel_rfl))
                    obtain ⟨hpW, m4, b, e1, hsl⟩ := (show r21F g A c L (w.heap.size + 1) op lv (.agg #[.int .i64 x.op, .int .i64 x.v.kind, .int .i64 x.v.n, .string x.v.s, .string x.s, .slice Ax x.l.length cx]) x y j 6 (Act.slot a 86) W from hd 6 (by kernel_rfl))
                    have e1 : a.eval (.tmp 86) = .slice (some ⟨b, 0, none⟩) 2 2 := e1
                    rw [show Act.slot a 86 = .slice (some ⟨b, 0, none⟩) 2 2 from e1] at hsl
                    exact wpM_build _ _ _ #[(0, .int .i64 (op : Int)), (3, .slice (some ⟨b, 0, none⟩) 2 2)] rfl (by simp [e0, e1]) (bE2 _ _ _ _ W) ⟨_, rfl, B21.refl _, fun _ h => h, hpW, m4, b, rfl, isEx_node op hsl (by omega)⟩
                case hlast =>
                  intro o ho a W hk hbW hF
                  injection ho with ho
                  subst ho
                  obtain ⟨hpW, m4, b, e1, hx5⟩ := (show r21F g A c L (w.heap.size + 1) op lv (.agg #[.int .i64 x.op, .int .i64 x.v.kind, .int .i64 x.v.n, .string x.v.s, .string x.s, .slice Ax x.l.length cx]) x y j 7 (Act.slot a 87) W from hF 7 (by decide))
                  have e1 : a.eval (.tmp 87) = .agg #[.int .i64 (op : Int), .int .i64 0, .int .i64 0, .string ⟨#[]⟩, .string ⟨#[]⟩, .slice (some ⟨b, 0, none⟩) 2 2] := e1
                  rw [show Act.slot a 87 = .agg #[.int .i64 (op : Int), .int .i64 0, .int .i64 0, .string ⟨#[]⟩, .string ⟨#[]⟩, .slice (some ⟨b, 0, none⟩) 2 2] from e1] at hx5
                  have k1 : a.eval (.tmp 5) = .pointer (some ⟨w.heap.size + 1, 0, none⟩) := hk.same (s := 5) (by kernel_rfl)
                  have hXW := hX3d.grown hbW.1 (fun e => by injection e with e; omega)
                  have hRW := hR3d.grown hbW.1 (fun e => by injection e with e; omega)
                  have hgW := lexGrownT hg3d hbW.1
                  have hsW := Nat.le_trans hsz3d hbW.1.size
                  obtain ⟨q0, q1, q2, q3, q4, q5⟩ := hXW.c6
                  have fz0 := hXW.frozen 0
                  have fz1 := hXW.frozen 1
                  have fz2 := hXW.frozen 2
                  have fz3 := hXW.frozen 3
                  have fz4 := hXW.frozen 4
                  have fz5 := hXW.frozen 5
                  refine wpM_store _ _ _ _ _ ((((((W.setCell ⟨w.heap.size + 1, 0, none⟩ (.int .i64 (op : Int))).setCell ⟨w.heap.size + 1, 1, none⟩ (.int .i64 0)).setCell ⟨w.heap.size + 1, 2, none⟩ (.int .i64 0)).setCell ⟨w.heap.size + 1, 3, none⟩ (.string ⟨#[]⟩)).setCell ⟨w.heap.size + 1, 4, none⟩ (.string ⟨#[]⟩)).setCell ⟨w.heap.size + 1, 5, none⟩ (.slice (some ⟨b, 0, none⟩) 2 2)) () rfl k1 e1 (by simp [go_sem, q0, q1, q2, q3, q4, q5, fz0, fz1, fz2, fz3, fz4, fz5]) ⟨_, rfl, fun a'' hk'' hs => ?_⟩
                  have h6 := Blk.far6 hpW.1 (show g ≠ w.heap.size + 1 by omega) (.int .i64 (op : Int)) (.int .i64 0) (.int .i64 0) (.string ⟨#[]⟩) (.string ⟨#[]⟩) (.slice (some ⟨b, 0, none⟩) 2 2)
                  have hR6 := Blk.far6 hRW (show w.heap.size ≠ w.heap.size + 1 by omega) (.int .i64 (op : Int)) (.int .i64 0) (.int .i64 0) (.string ⟨#[]⟩) (.string ⟨#[]⟩) (.slice (some ⟨b, 0, none⟩) 2 2)
                  have hX6 := hXW.set6' (.int .i64 (op : Int)) (.int .i64 0) (.int .i64 0) (.string ⟨#[]⟩) (.string ⟨#[]⟩) (.slice (some ⟨b, 0, none⟩) 2 2)
                  have hx6 := hx5.far6X (Nat.le_refl _) (.int .i64 (op : Int)) (.int .i64 0) (.int .i64 0) (.string ⟨#[]⟩) (.string ⟨#[]⟩) (.slice (some ⟨b, 0, none⟩) 2 2)
                  have hg6 := grown6' hgW (Nat.le_succ _) (.int .i64 (op : Int)) (.int .i64 0) (.int .i64 0) (.string ⟨#[]⟩) (.string ⟨#[]⟩) (.slice (some ⟨b, 0, none⟩) 2 2)
                  clear hs fz0 fz1 fz2 fz3 fz4 fz5 q0 q1 q2 q3 q4 q5
                  have hl6 := hpW.2
                  show K1 a'' _
                  refine hK _ _ ?_
                  rw [hk''.form (by kernel_rfl)]
                  simp only [putsAll, Option.getD_some, Act.put, List.setIfInBounds_toArray, List.set_cons_zero, List.set_cons_succ]
                  go_meet
                  exact ⟨nodeB op [x, y], j, m4, _, _, HLP.out, hl6, h6, hR6, hX6, hx6, hg6, by simp only [World.size_setCell]; exact hsW⟩
            case rest =>
              obtain ⟨z, j, m5, Az, cz, HL5, hj5, h5, hR5, hX5, hx5, hg5, hsz5⟩ := hcut.out
              have HL5 := Lib.hid HL5
              clear hR3 hX3 hg3 h3 hsz3 hx3 hcut HC2
              go_wp2_with fail
              go_roundg f2
              case rel => exact ⟨f2, z, j, lv, m5, _, _, Nat.le_refl _, by omega, rfl, by omega, HL5, hj5, h5, hR5, hX5, hx5, hg5, hsz5⟩
              case measure => omega
          · have hRe : R = (x, i') := by
              rcases HCS.out with ⟨_, h⟩ | ⟨h, _⟩ | ⟨h, _⟩
              · exact h
              · cases h
              · cases h
            subst hRe
            obtain ⟨r0, r1, r2, r3, r4, r5⟩ := hR2.c6
            obtain ⟨x0, x1, x2, x3, x4, x5⟩ := hX2.c6
            have f0 := hR2.frozen 0
            have f1 := hR2.frozen 1
            have f2 := hR2.frozen 2
            have f3 := hR2.frozen 3
            have f4 := hR2.frozen 4
            have f5 := hR2.frozen 5
            go_wp2_with fail
            obtain ⟨s0, s1, s2, s3, s4, s5⟩ := (hR2.set6' (.int .i64 x.op) (.int .i64 x.v.kind) (.int .i64 x.v.n) (.string x.v.s) (.string x.s) (.slice Ax x.l.length cx)).c6
            refine bodyPost_ret (v := .agg #[.int .i64 x.op, .int .i64 x.v.kind, .int .i64 x.v.n, .string x.v.s, .string x.s, .slice Ax x.l.length cx]) (by simp [results, Tryz.results74, go_sem, s0, s1, s2, s3, s4, s5]) rfl ?_
            exact ⟨m, _, rfl, (hx2.far6X (Nat.le_succ _) (.int .i64 x.op) (.int .i64 x.v.kind) (.int .i64 x.v.n) (.string x.v.s) (.string x.s) (.slice Ax x.l.length cx)).lowX (by omega), Blk.far6 h2 (by omega) (.int .i64 x.op) (.int .i64 x.v.kind) (.int .i64 x.v.n) (.string x.v.s) (.string x.s) (.slice Ax x.l.length cx), hi1, grown6' hg2 (Nat.le_refl _) (.int .i64 x.op) (.int .i64 x.v.kind) (.int .i64 x.v.n) (.string x.v.s) (.string x.s) (.slice Ax x.l.length cx)⟩
end Go.Proofs.YtijmnenojbfdnaaGreatDoor

namespace Go.Proofs.YtijmnenojbfdnaaGreatDoor
open Go.RowKit
theorem expr_any (L : List Tok) (hL : TokOk L) (f : Nat) : f ≤ 1000 → ExprC L f := by
  induction f using Nat.strongRecOn with
  | ind f ih => exact fun hf => expr_of L hL f hf (fun f' h => ih f' h (by omega)) (fun f' h => atom_of L hL f' (fun f'' h' => ih f'' (by omega) (by omega)))
end Go.Proofs.YtijmnenojbfdnaaGreatDoor
