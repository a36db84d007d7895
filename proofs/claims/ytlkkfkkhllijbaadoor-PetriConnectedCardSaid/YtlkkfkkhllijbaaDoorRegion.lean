/- A region that draws its order, by an invariant: one obligation an operation, not one an order. No program in sight. -/
import Derived.Orders
import Derived.Deep.Quiet
import Derived.StillTail
namespace Go.Proofs.YtlkkfkkhllijbaaDoor

def unlisted (listed : Array Bool) : Nat := (listed.toList.filter (fun b => !b)).length

theorem unlisted_list (l : List Bool) : ∀ i, l[i]? = some false → ((l.set i true).filter (fun b => !b)).length + 1 = (l.filter (fun b => !b)).length := by
  induction l with
  | nil => intro i h; simp at h
  | cons b l ih =>
    intro i h
    cases i with
    | zero => simp at h; subst h; simp
    | succ i =>
      have := ih i (by simpa using h)
      cases b
      · simp only [List.set_cons_succ, List.filter_cons, Bool.not_false, if_true, List.length_cons]; omega
      · simp only [List.set_cons_succ, List.filter_cons, Bool.not_true, Bool.false_eq_true, if_false]; omega

theorem unlisted_set {listed : Array Bool} {i : Nat} (h : listed.getD i true = false) : unlisted (listed.setIfInBounds i true) + 1 = unlisted listed := by
  have hi : i < listed.size := by
    rcases Nat.lt_or_ge i listed.size with h' | h'
    · exact h'
    · simp [Array.getElem?_eq_none h'] at h
  have hb : listed[i] = false := by simpa [hi] using h
  unfold unlisted
  rw [Array.toList_setIfInBounds]
  exact unlisted_list _ i (by simp [hi, hb])

theorem wpAny_inv {P : Program} {ops : Array Oper} {md : Region.Mode} {Q : Exit → Act → World → Prop} (J : Array Bool → Act → World → Prop)
    (hstep : ∀ listed a w i, J listed a w → i ∈ Region.ready md ops listed → wpOp P ops Q i (J (listed.setIfInBounds i true)) a w)
    (hend : ∀ listed a w, J listed a w → Region.ready md ops listed = [] → Q .normal a w) :
    ∀ (fuel : Nat) (listed : Array Bool) (a : Act) (w : World), unlisted listed ≤ fuel → J listed a w → wpAny P md ops Q fuel listed a w := by
  intro fuel
  induction fuel with
  | zero =>
    intro listed a w hf hJ
    have hr : Region.ready md ops listed = [] := by
      cases h : Region.ready md ops listed with
      | nil => rfl
      | cons i l =>
        have hi : i ∈ Region.ready md ops listed := by rw [h]; simp
        have := unlisted_set (mem_ready.1 hi).1
        omega
    exact ⟨hr, hend _ _ _ hJ hr⟩
  | succ fuel ih =>
    intro listed a w hf hJ
    refine ⟨fun hr => hend _ _ _ hJ hr, fun i hi => ?_⟩
    exact wpOp_mono (fun a' w' h' => ih _ a' w' (by have := unlisted_set (mem_ready.1 hi).1; omega) h') (hstep listed a w i hJ hi)

/-- A region that draws its order, by an invariant over what has come up. -/
theorem wp_region_inv {P : Program} {ops : Array Oper} {id : Nat} {Q : Exit → Act → World → Prop} {a : Act} {w : World} (hm : P.follows .mixedOrders = true) (J : Array Bool → Act → World → Prop)
    (h0 : J (Array.replicate ops.size false) a w.drew)
    (hstep : ∀ listed a w i, J listed a w → i ∈ Region.ready .any ops listed → wpOp P ops Q i (J (listed.setIfInBounds i true)) a w)
    (hend : ∀ listed a w, J listed a w → Region.ready .any ops listed = [] → Q .normal a w) : (Code.region id ops true).wp P Q a w := by
  refine wp_region_any hm (wpAny_inv J hstep hend _ _ _ _ ?_ h0)
  unfold unlisted
  exact Nat.le_trans (List.length_filter_le _ _) (by simp)

/-- What a slot holds. -/
def Act.slot (a : Act) (s : Nat) : Value := a.tmps.getD s undef
def upd (σ : Nat → Value) (d : Option Tmp) (v : Value) : Nat → Value := match d with | some d => fun s => if s = d then v else σ s | none => σ
theorem slot_put {a : Act} {d : Option Tmp} {v : Value} (h : ∀ k, d = some k → k < a.tmps.size) : Act.slot (a.put d v) = upd (Act.slot a) d v := by
  cases d with
  | none => rfl
  | some d =>
    funext s
    have hd := h d rfl
    simp only [Act.slot, Act.put, upd, Array.getD_eq_getD_getElem?, Array.getElem?_setIfInBounds]
    by_cases hs : s = d
    · subst hs; simp [hd]
    · rw [if_neg (fun e => hs e.symm), if_neg hs]
theorem size_put (a : Act) (d : Option Tmp) (v : Value) : (a.put d v).tmps.size = a.tmps.size := by cases d <;> simp [Act.put]
theorem defers_put (a : Act) (d : Option Tmp) (v : Value) : (a.put d v).defers = a.defers := by cases d <;> rfl
/-- The frame, laid out slot by slot. -/
theorem act_laid (a : Act) : a = ⟨((List.range a.tmps.size).map (Act.slot a)).toArray, a.defers⟩ := by
  cases a with
  | mk t d =>
    congr 1
    apply Array.ext
    · simp
    · intro i h1 h2
      simp [Act.slot, h1]

/-- The frame has the slots of a0, but those that the operations write. -/
structure Kin (l : List Oper) (a0 a : Act) : Prop where
  size : a.tmps.size = a0.tmps.size
  defers : a.defers = a0.defers
  slots : ∀ s, (∀ o ∈ l, o.dst ≠ some s) → Act.slot a s = Act.slot a0 s
theorem Kin.refl (l : List Oper) (a : Act) : Kin l a a := ⟨rfl, rfl, fun _ _ => rfl⟩
theorem Kin.put {l : List Oper} {a0 a : Act} (h : Kin l a0 a) (hd : ∀ o ∈ l, ∀ k, o.dst = some k → k < a0.tmps.size) {o : Oper} (ho : o ∈ l) (v : Value) : Kin l a0 (a.put o.dst v) ∧ Act.slot (a.put o.dst v) = upd (Act.slot a) o.dst v := by
  have e := slot_put (a := a) (d := o.dst) (v := v) (fun k hk => by rw [h.size]; exact hd o ho k hk)
  refine ⟨⟨(size_put _ _ _).trans h.size, (defers_put _ _ _).trans h.defers, fun s hs => ?_⟩, e⟩
  rw [e, ← h.slots s hs]
  have := hs o ho
  cases hk : o.dst with
  | none => rfl
  | some d =>
    simp only [upd]
    rw [if_neg]
    intro e'
    subst e'
    exact this hk

/-- Operation j has come up. -/
def Up (listed : Array Bool) (j : Nat) : Prop := listed.getD j false = true
/-- What has come up is closed: whatever it waits for has come up too. -/
structure Shut (l : List Oper) (listed : Array Bool) : Prop where
  size : listed.size = l.length
  closed : ∀ j oj, l[j]? = some oj → Up listed j → ∀ e ∈ oj.after, Region.binds .any e = true → Up listed e.on
theorem Shut.start (l : List Oper) : Shut l (Array.replicate l.length false) :=
  ⟨by simp, fun j oj _ hl => by unfold Up at hl; rw [getD_replicate_false] at hl; cases hl⟩
theorem Shut.up {l : List Oper} {listed : Array Bool} {j i : Nat} (h : Shut l listed) (hj : Up listed j) (hw : Region.waitsFor .any l.toArray j i = true) : Up listed i := by
  obtain ⟨oj, hoj, e, he, hb, rfl⟩ := Region.waitsFor_spec hw
  exact h.closed j oj (by simpa using hoj) hj e he hb
/-- At an operation that may come up: what it waits for has come up .. -/
theorem ready_up {l : List Oper} {listed : Array Bool} {i j : Nat} (hi : i ∈ Region.ready .any l.toArray listed) (hw : Region.waitsFor .any l.toArray i j = true) : Up listed j := by
  obtain ⟨_, o, ho, hall⟩ := mem_ready.1 hi
  obtain ⟨oj, hoj, e, he, hb, rfl⟩ := Region.waitsFor_spec hw
  have : oj = o := Option.some.inj (hoj.symm.trans ho)
  subst this
  exact hall e he hb
/-- .. it has not come up itself .. -/
theorem ready_not {l : List Oper} {listed : Array Bool} {i : Nat} (hi : i ∈ Region.ready .any l.toArray listed) : ¬ Up listed i := by
  unfold Up
  rw [getD_both (mem_ready.1 hi).1]
  simp
/-- .. nor has what waits for it. -/
theorem ready_later {l : List Oper} {listed : Array Bool} {i k : Nat} (h : Shut l listed) (hi : i ∈ Region.ready .any l.toArray listed) (hw : Region.waitsFor .any l.toArray k i = true) : ¬ Up listed k :=
  fun hk => ready_not hi (h.up hk hw)
theorem Shut.set {l : List Oper} {listed : Array Bool} {i : Nat} (h : Shut l listed) (hi : i ∈ Region.ready .any l.toArray listed) : Shut l (listed.setIfInBounds i true) := by
  obtain ⟨_, oi, hoi, hall⟩ := mem_ready.1 hi
  refine ⟨by simp [h.size], fun j oj hj hl e he hb => ?_⟩
  unfold Up at hl ⊢
  by_cases hij : i = j
  · subst hij
    have : oj = oi := Option.some.inj ((show l.toArray[i]? = some oj by simpa using hj).symm.trans hoi)
    subst this
    exact getD_set_true (hall e he hb)
  · rw [getD_set_ne false hij] at hl
    exact getD_set_true (h.closed j oj hj hl e he hb)
/-- Behind operation i: what has come up. -/
theorem up_set {listed : Array Bool} {i j : Nat} (h : Up (listed.setIfInBounds i true) j) (hij : i ≠ j) : Up listed j := by
  unfold Up at *
  rwa [getD_set_ne false hij] at h

/-- One obligation an operation. -/
def Steps (P : Program) (l : List Oper) (Q : Exit → Act → World → Prop) (a0 : Act) (K : Array Bool → (Nat → Value) → World → Prop) : Nat → List Oper → Prop
  | _, [] => True
  | i, o :: rest => (∀ listed (a : Act) w, Shut l listed → i ∈ Region.ready .any l.toArray listed → Kin l a0 a → K listed (Act.slot a) w →
      o.wp P a w (fun a' w' => ∃ v, a' = a.put o.dst v ∧ K (listed.setIfInBounds i true) (upd (Act.slot a) o.dst v) w') Q) ∧ Steps P l Q a0 K (i + 1) rest
theorem Steps.at_ {P : Program} {l : List Oper} {Q : Exit → Act → World → Prop} {a0 : Act} {K : Array Bool → (Nat → Value) → World → Prop} : ∀ (m : List Oper) (k i : Nat) (o : Oper), Steps P l Q a0 K k m → m[i]? = some o →
    ∀ listed (a : Act) w, Shut l listed → (k + i) ∈ Region.ready .any l.toArray listed → Kin l a0 a → K listed (Act.slot a) w →
      o.wp P a w (fun a' w' => ∃ v, a' = a.put o.dst v ∧ K (listed.setIfInBounds (k + i) true) (upd (Act.slot a) o.dst v) w') Q := by
  intro m
  induction m with
  | nil => intro k i o _ h; simp at h
  | cons x m ih =>
    intro k i o hs h
    cases i with
    | zero => injection h with h; subst h; exact hs.1
    | succ i =>
      have := ih (k + 1) i o hs.2 (by simpa using h)
      rwa [show k + 1 + i = k + (i + 1) from by omega] at this

def dstsB (l : List Oper) (n : Nat) : Bool := l.all fun o => o.guard.isNone && match o.dst with | some k => decide (k < n) | none => true

/-- A region that draws its order, by an invariant over what has come up and what the slots hold: one obligation an operation. -/
theorem wp_region_slots {P : Program} {l : List Oper} {id : Nat} {Q : Exit → Act → World → Prop} {a0 : Act} {w : World} (hm : P.follows .mixedOrders = true)
    (hB : dstsB l a0.tmps.size = true) (K : Array Bool → (Nat → Value) → World → Prop)
    (h0 : K (Array.replicate l.length false) (Act.slot a0) w.drew) (hstep : Steps P l Q a0 K 0 l)
    (hend : ∀ listed (a : Act) w, (∀ i, i < l.length → Up listed i) → Kin l a0 a → K listed (Act.slot a) w → Q .normal a w) (hall : ∀ listed, Shut l listed → Region.ready .any l.toArray listed = [] → ∀ i, i < l.length → Up listed i) : (Code.region id l.toArray true).wp P Q a0 w := by
  unfold dstsB at hB
  rw [List.all_eq_true] at hB
  refine wp_region_inv hm (fun listed a w => Shut l listed ∧ Kin l a0 a ∧ K listed (Act.slot a) w) ⟨by simpa using Shut.start l, Kin.refl _ _, by simpa using h0⟩ ?_ (fun listed a w h hr => hend listed a w (hall listed h.1 hr) h.2.1 h.2.2)
  rintro listed a w i ⟨hsh, hk, hK⟩ hi
  obtain ⟨_, o, ho, _⟩ := mem_ready.1 hi
  have ho' : l[i]? = some o := by simpa using ho
  have hmem : o ∈ l := List.mem_of_getElem? ho'
  have hb := hB o hmem
  rw [Bool.and_eq_true] at hb
  unfold wpOp
  rw [ho]
  have hw : Region.wanted o (yielded l.toArray a.tmps) = true := by simp [Region.wanted, Option.isNone_iff_eq_none.1 hb.1]
  simp only [hw, if_true]
  left
  refine Oper.wp_mono ?_ (by have := hstep.at_ l 0 i o ho' listed a w hsh (by rwa [Nat.zero_add]) hk hK; rwa [Nat.zero_add] at this)
  rintro a' w' ⟨v, rfl, h⟩
  obtain ⟨k1, k2⟩ := hk.put (fun o' ho' k hk' => by
    have := hB o' ho'
    rw [Bool.and_eq_true, hk'] at this
    simpa using this.2) hmem v
  exact ⟨hsh.set hi, k1, by rw [k2]; exact h⟩
end Go.Proofs.YtlkkfkkhllijbaaDoor
