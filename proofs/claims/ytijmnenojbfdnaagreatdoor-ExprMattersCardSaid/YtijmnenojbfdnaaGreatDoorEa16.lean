/- Texts of this seat, merged. -/
import Derived.Orders
import Derived.Deep.Quiet
import Derived.StillTail
import Derived.Deep.RegionHeld
import Derived.Deep.RegionHeld3
import Derived.Test.YtijmnenojbfdnaaGreatDoorEa01
import Derived.Test.YtijmnenojbfdnaaGreatDoorEa02
import Derived.Test.YtijmnenojbfdnaaGreatDoorEa03
import Derived.Test.YtijmnenojbfdnaaGreatDoorEa04
import Derived.Test.YtijmnenojbfdnaaGreatDoorEa05
import Derived.Test.YtijmnenojbfdnaaGreatDoorEa06
import Derived.Test.YtijmnenojbfdnaaGreatDoorEa07
import Derived.Test.YtijmnenojbfdnaaGreatDoorEa08
import Derived.Test.YtijmnenojbfdnaaGreatDoorEa12
import Derived.Test.YtijmnenojbfdnaaGreatDoorEa13
import Derived.Test.YtijmnenojbfdnaaGreatDoorEa14
import Derived.Test.YtijmnenojbfdnaaGreatDoorEa15
set_option linter.unusedSimpArgs false
set_option linter.unusedVariables false
namespace Go.Proofs.YtijmnenojbfdnaaGreatDoor
def unlisted (listed : Array Bool) : Nat := (listed.toList.filter (fun b => !b)).length
theorem unlisted_list (l : List Bool) : ∀ i, l[i]? = some false → ((l.set i true).filter (fun b => !b)).length + 1 = (l.filter (fun b => !b)).length := by
  induction l with
  | nil => intro i h; simp at h
  | cons b l ih =>
    intro i h
    cases i with
    | zero => simp at h; subst h; simp
    | succ i =>
      have := ih i (by simpa using h)
      cases b
      · simp only [List.set_cons_succ, List.filter_cons, Bool.not_false, if_true, List.length_cons]; omega
      · simp only [List.set_cons_succ, List.filter_cons, Bool.not_true, Bool.false_eq_true, if_false]; omega
theorem unlisted_set {listed : Array Bool} {i : Nat} (h : listed.getD i true = false) : unlisted (listed.setIfInBounds i true) + 1 = unlisted listed := by
  have hi : i < listed.size := by
    rcases Nat.lt_or_ge i listed.size with h' | h'
    · exact h'
    · simp [Array.getElem?_eq_none h'] at h
  have hb : listed[i] = false := by simpa [hi] using h
  unfold unlisted
  rw [Array.toList_setIfInBounds]
  exact unlisted_list _ i (by simp [hi, hb])
theorem wpAny_inv {P : Program} {ops : Array Oper} {md : Region.Mode} {Q : Exit → Act → World → Prop} (J : Array Bool → Act → World → Prop)
    (hstep : ∀ listed a w i, J listed a w → i ∈ Region.ready md ops listed → wpOp P ops Q i (J (listed.setIfInBounds i true)) a w)
    (hend : ∀ listed a w, J listed a w → Region.ready md ops listed = [] → Q .normal a w) :
    ∀ (fuel : Nat) (listed : Array Bool) (a : Act) (w : World), unlisted listed ≤ fuel → J listed a w → wpAny P md ops Q fuel listed a w := by
  intro fuel
  induction fuel with
  | zero =>
    intro listed a w hf hJ
    have hr : Region.ready md ops listed = [] := by
      cases h : Region.ready md ops listed with
      | nil => rfl
      | cons i l =>
        have hi : i ∈ Region.ready md ops listed := by rw [h]; simp
        have := unlisted_set (mem_ready.1 hi).1
        omega
    exact ⟨hr, hend _ _ _ hJ hr⟩
  | succ fuel ih =>
    intro listed a w hf hJ
    refine ⟨fun hr => hend _ _ _ hJ hr, fun i hi => ?_⟩
    exact wpOp_mono (fun a' w' h' => ih _ a' w' (by have := unlisted_set (mem_ready.1 hi).1; omega) h') (hstep listed a w i hJ hi)
theorem wp_region_inv {P : Program} {ops : Array Oper} {id : Nat} {Q : Exit → Act → World → Prop} {a : Act} {w : World} (hm : P.follows .mixedOrders = true) (J : Array Bool → Act → World → Prop)
    (h0 : J (Array.replicate ops.size false) a w.drew)
    (hstep : ∀ listed a w i, J listed a w → i ∈ Region.ready .any ops listed → wpOp P ops Q i (J (listed.setIfInBounds i true)) a w)
    (hend : ∀ listed a w, J listed a w → Region.ready .any ops listed = [] → Q .normal a w) : (Code.region id ops true).wp P Q a w := by
  refine wp_region_any hm (wpAny_inv J hstep hend _ _ _ _ ?_ h0)
  unfold unlisted
  exact Nat.le_trans (List.length_filter_le _ _) (by simp)
def Act.slot (a : Act) (s : Nat) : Value := a.tmps.getD s undef
def upd (σ : Nat → Value) (d : Option Tmp) (v : Value) : Nat → Value := match d with | some d => fun s => if s = d then v else σ s | none => σ
theorem slot_put {a : Act} {d : Option Tmp} {v : Value} (h : ∀ k, d = some k → k < a.tmps.size) : Act.slot (a.put d v) = upd (Act.slot a) d v := by
  cases d with
  | none => rfl
  | some d =>
    funext s
    have hd := h d rfl
    simp only [Act.slot, Act.put, upd, Array.getD_eq_getD_getElem?, Array.getElem?_setIfInBounds]
    by_cases hs : s = d
    · subst hs; simp [hd]
    · rw [if_neg (fun e => hs e.symm), if_neg hs]
theorem size_put (a : Act) (d : Option Tmp) (v : Value) : (a.put d v).tmps.size = a.tmps.size := by cases d <;> simp [Act.put]
theorem defers_put (a : Act) (d : Option Tmp) (v : Value) : (a.put d v).defers = a.defers := by cases d <;> rfl
structure Kin (l : List Oper) (a0 a : Act) : Prop where
  size : a.tmps.size = a0.tmps.size
  defers : a.defers = a0.defers
  slots : ∀ s, (∀ o ∈ l, o.dst ≠ some s) → Act.slot a s = Act.slot a0 s
theorem Kin.refl (l : List Oper) (a : Act) : Kin l a a := ⟨rfl, rfl, fun _ _ => rfl⟩
theorem Kin.put {l : List Oper} {a0 a : Act} (h : Kin l a0 a) (hd : ∀ o ∈ l, ∀ k, o.dst = some k → k < a0.tmps.size) {o : Oper} (ho : o ∈ l) (v : Value) : Kin l a0 (a.put o.dst v) ∧ Act.slot (a.put o.dst v) = upd (Act.slot a) o.dst v := by
  have e := slot_put (a := a) (d := o.dst) (v := v) (fun k hk => by rw [h.size]; exact hd o ho k hk)
  refine ⟨⟨(size_put _ _ _).trans h.size, (defers_put _ _ _).trans h.defers, fun s hs => ?_⟩, e⟩
  rw [e, ← h.slots s hs]
  have := hs o ho
  cases hk : o.dst with
  | none => rfl
  | some d =>
    simp only [upd]
    rw [if_neg]
    intro e'
    subst e'
    exact this hk
def Up (listed : Array Bool) (j : Nat) : Prop := listed.getD j false = true
structure Shut (l : List Oper) (listed : Array Bool) : Prop where
  size : listed.size = l.length
  closed : ∀ j oj, l[j]? = some oj → Up listed j → ∀ e ∈ oj.after, Region.binds .any e = true → Up listed e.on
theorem Shut.start (l : List Oper) : Shut l (Array.replicate l.length false) :=
  ⟨by simp, fun j oj _ hl => by unfold Up at hl; rw [getD_replicate_false] at hl; cases hl⟩
theorem Shut.up {l : List Oper} {listed : Array Bool} {j i : Nat} (h : Shut l listed) (hj : Up listed j) (hw : Region.waitsFor .any l.toArray j i = true) : Up listed i := by
  obtain ⟨oj, hoj, e, he, hb, rfl⟩ := Region.waitsFor_spec hw
  exact h.closed j oj (by simpa using hoj) hj e he hb
theorem ready_up {l : List Oper} {listed : Array Bool} {i j : Nat} (hi : i ∈ Region.ready .any l.toArray listed) (hw : Region.waitsFor .any l.toArray i j = true) : Up listed j := by
  obtain ⟨_, o, ho, hall⟩ := mem_ready.1 hi
  obtain ⟨oj, hoj, e, he, hb, rfl⟩ := Region.waitsFor_spec hw
  have : oj = o := Option.some.inj (hoj.symm.trans ho)
  subst this
  exact hall e he hb
theorem ready_not {l : List Oper} {listed : Array Bool} {i : Nat} (hi : i ∈ Region.ready .any l.toArray listed) : ¬ Up listed i := by
  unfold Up
  rw [getD_both (mem_ready.1 hi).1]
  simp
theorem Shut.set {l : List Oper} {listed : Array Bool} {i : Nat} (h : Shut l listed) (hi : i ∈ Region.ready .any l.toArray listed) : Shut l (listed.setIfInBounds i true) := by
  obtain ⟨_, oi, hoi, hall⟩ := mem_ready.1 hi
  refine ⟨by simp [h.size], fun j oj hj hl e he hb => ?_⟩
  unfold Up at hl ⊢
  by_cases hij : i = j
  · subst hij
    have : oj = oi := Option.some.inj ((show l.toArray[i]? = some oj by simpa using hj).symm.trans hoi)
    subst this
    exact getD_set_true (hall e he hb)
  · rw [getD_set_ne false hij] at hl
    exact getD_set_true (h.closed j oj hj hl e he hb)
theorem up_set {listed : Array Bool} {i j : Nat} (h : Up (listed.setIfInBounds i true) j) (hij : i ≠ j) : Up listed j := by
  unfold Up at *
  rwa [getD_set_ne false hij] at h
def Steps (P : Program) (l : List Oper) (Q : Exit → Act → World → Prop) (a0 : Act) (K : Array Bool → (Nat → Value) → World → Prop) : Nat → List Oper → Prop
  | _, [] => True
  | i, o :: rest => (∀ listed (a : Act) w, Shut l listed → i ∈ Region.ready .any l.toArray listed → Kin l a0 a → K listed (Act.slot a) w →
      o.wp P a w (fun a' w' => ∃ v, a' = a.put o.dst v ∧ K (listed.setIfInBounds i true) (upd (Act.slot a) o.dst v) w') Q) ∧ Steps P l Q a0 K (i + 1) rest
theorem Steps.at_ {P : Program} {l : List Oper} {Q : Exit → Act → World → Prop} {a0 : Act} {K : Array Bool → (Nat → Value) → World → Prop} : ∀ (m : List Oper) (k i : Nat) (o : Oper), Steps P l Q a0 K k m → m[i]? = some o →
    ∀ listed (a : Act) w, Shut l listed → (k + i) ∈ Region.ready .any l.toArray listed → Kin l a0 a → K listed (Act.slot a) w →
      o.wp P a w (fun a' w' => ∃ v, a' = a.put o.dst v ∧ K (listed.setIfInBounds (k + i) true) (upd (Act.slot a) o.dst v) w') Q := by
  intro m
  induction m with
  | nil => intro k i o _ h; simp at h
  | cons x m ih =>
    intro k i o hs h
    cases i with
    | zero => injection h with h; subst h; exact hs.1
    | succ i =>
      have := ih (k + 1) i o hs.2 (by simpa using h)
      rwa [show k + 1 + i = k + (i + 1) from by omega] at this
def dstsB (l : List Oper) (n : Nat) : Bool := l.all fun o => o.guard.isNone && match o.dst with | some k => decide (k < n) | none => true
theorem wp_region_slots {P : Program} {l : List Oper} {id : Nat} {Q : Exit → Act → World → Prop} {a0 : Act} {w : World} (hm : P.follows .mixedOrders = true)
    (hB : dstsB l a0.tmps.size = true) (K : Array Bool → (Nat → Value) → World → Prop)
    (h0 : K (Array.replicate l.length false) (Act.slot a0) w.drew) (hstep : Steps P l Q a0 K 0 l)
    (hend : ∀ listed (a : Act) w, (∀ i, i < l.length → Up listed i) → Kin l a0 a → K listed (Act.slot a) w → Q .normal a w) (hall : ∀ listed, Shut l listed → Region.ready .any l.toArray listed = [] → ∀ i, i < l.length → Up listed i) : (Code.region id l.toArray true).wp P Q a0 w := by
  unfold dstsB at hB
  rw [List.all_eq_true] at hB
  refine wp_region_inv hm (fun listed a w => Shut l listed ∧ Kin l a0 a ∧ K listed (Act.slot a) w) ⟨by simpa using Shut.start l, Kin.refl _ _, by simpa using h0⟩ ?_ (fun listed a w h hr => hend listed a w (hall listed h.1 hr) h.2.1 h.2.2)
  rintro listed a w i ⟨hsh, hk, hK⟩ hi
  obtain ⟨_, o, ho, _⟩ := mem_ready.1 hi
  have ho' : l[i]? = some o := by simpa using ho
  have hmem : o ∈ l := List.mem_of_getElem? ho'
  have hb := hB o hmem
  rw [Bool.and_eq_true] at hb
  unfold wpOp
  rw [ho]
  have hw : Region.wanted o (yielded l.toArray a.tmps) = true := by simp [Region.wanted, Option.isNone_iff_eq_none.1 hb.1]
  simp only [hw, if_true]
  left
  refine Oper.wp_mono ?_ (by have := hstep.at_ l 0 i o ho' listed a w hsh (by rwa [Nat.zero_add]) hk hK; rwa [Nat.zero_add] at this)
  rintro a' w' ⟨v, rfl, h⟩
  obtain ⟨k1, k2⟩ := hk.put (fun o' ho' k hk' => by
    have := hB o' ho'
    rw [Bool.and_eq_true, hk'] at this
    simpa using this.2) hmem v
  exact ⟨hsh.set hi, k1, by rw [k2]; exact h⟩
end Go.Proofs.YtijmnenojbfdnaaGreatDoor

namespace Go.Proofs.YtijmnenojbfdnaaGreatDoor
open Go.RowKit
def dstOf (l : List Oper) (j : Nat) : Nat := ((l[j]?).bind (·.dst)).getD 0
def apartB (l : List Oper) (n : Nat) : Bool := (List.range n).all fun i => match (l[i]?).bind (·.dst) with
  | none => false
  | some a => (List.range l.length).all fun j => i == j || match (l[j]?).bind (·.dst) with
    | none => true
    | some b => a != b
def lastB (l : List Oper) (n : Nat) : Bool := (List.range n).all fun i => Region.waitsFor .any l.toArray n i
def StepsM (P : Program) (l : List Oper) (Q : Exit → Act → World → Prop) (a0 : Act) (w0 : World) (F : Nat → Value → World → Prop) : Nat → List Oper → Prop
  | _, [] => True
  | i, o :: rest => (∀ (a : Act) W, Kin l a0 a → Below w0.heap.size w0 W → (∀ j, Region.waitsFor .any l.toArray i j = true → F j (Act.slot a (dstOf l j)) W) →
      o.wp P a W (fun a' W' => ∃ v, a' = a.put o.dst v ∧ Below W.heap.size W W' ∧ F i v W') Q) ∧ StepsM P l Q a0 w0 F (i + 1) rest
theorem StepsM.at_ {P : Program} {l : List Oper} {Q : Exit → Act → World → Prop} {a0 : Act} {w0 : World} {F : Nat → Value → World → Prop} : ∀ (m : List Oper) (k i : Nat) (o : Oper), StepsM P l Q a0 w0 F k m → m[i]? = some o →
    ∀ (a : Act) W, Kin l a0 a → Below w0.heap.size w0 W → (∀ j, Region.waitsFor .any l.toArray (k + i) j = true → F j (Act.slot a (dstOf l j)) W) →
      o.wp P a W (fun a' W' => ∃ v, a' = a.put o.dst v ∧ Below W.heap.size W W' ∧ F (k + i) v W') Q := by
  intro m
  induction m with
  | nil => intro k i o _ h; simp at h
  | cons x m ih =>
    intro k i o hs h
    cases i with
    | zero => injection h with h; subst h; exact hs.1
    | succ i =>
      have := ih (k + 1) i o hs.2 (by simpa using h)
      rwa [show k + 1 + i = k + (i + 1) from by omega] at this
theorem steps_all {P : Program} {l : List Oper} {Q : Exit → Act → World → Prop} {a0 : Act} {K : Array Bool → (Nat → Value) → World → Prop} (h : ∀ (i : Nat) (o : Oper), l[i]? = some o →
    ∀ listed (a : Act) w, Shut l listed → i ∈ Region.ready .any l.toArray listed → Kin l a0 a → K listed (Act.slot a) w →
      o.wp P a w (fun a' w' => ∃ v, a' = a.put o.dst v ∧ K (listed.setIfInBounds i true) (upd (Act.slot a) o.dst v) w') Q) : Steps P l Q a0 K 0 l := by
  have gen : ∀ (m : List Oper) (k : Nat), (∀ i o, m[i]? = some o → l[k + i]? = some o) → Steps P l Q a0 K k m := by
    intro m
    induction m with
    | nil => intro k _; trivial
    | cons x m ih =>
      intro k hk
      refine ⟨fun listed a w => h k x (by simpa using hk 0 x rfl) listed a w, ih (k + 1) fun i o ho => ?_⟩
      have := hk (i + 1) o (by simpa using ho)
      rwa [show k + (i + 1) = k + 1 + i by omega] at this
  exact gen l 0 (fun i o ho => by rw [Nat.zero_add]; exact ho)
end Go.Proofs.YtijmnenojbfdnaaGreatDoor

namespace Go.Proofs.YtijmnenojbfdnaaGreatDoor
def TailPost (P : Program) (l : List Oper) (n : Nat) (Q : Exit → Act → World → Prop) : Exit → Act → World → Prop
  | .normal, a, w => wpList P l.toArray Q (l.drop n) a w
  | e, a, w => Q e a w
def earlyB (l : List Oper) : Bool := (List.range l.length).all fun j => match l[j]? with
  | some o => o.guard.isNone && o.after.all fun e => !Region.binds .any e || decide (e.on < j)
  | none => true
theorem early_spec {l : List Oper} (h : earlyB l = true) {j : Nat} {o : Oper} (hj : l[j]? = some o) : o.guard = none ∧ ∀ e ∈ o.after, Region.binds .any e = true → e.on < j := by
  have hlt : j < l.length := by
    rcases Nat.lt_or_ge j l.length with h' | h'
    · exact h'
    · rw [List.getElem?_eq_none h'] at hj; cases hj
  have h1 := List.all_eq_true.1 h j (List.mem_range.2 hlt)
  rw [hj] at h1
  simp only [Bool.and_eq_true, Array.all_eq_true_iff_forall_mem, Bool.or_eq_true, Bool.not_eq_true', decide_eq_true_eq] at h1
  refine ⟨Option.isNone_iff_eq_none.1 h1.1, fun e he hb => (h1.2 e he).resolve_left (by rw [hb]; simp)⟩
def tailB (l : List Oper) (n : Nat) : Bool := earlyB l && decide (n < l.length) && Region.sinkB .any l.toArray n && Region.chainB .any l.toArray n && Region.seqB .any l.toArray (l.length - n) n (Array.replicate n true ++ Array.replicate (l.length - n) false)
theorem unlisted_zero {L : Array Bool} (h : unlisted L = 0) : ∀ i, i < L.size → L.getD i false = true := by
  intro i hi
  unfold unlisted at h
  have h0 := List.eq_nil_of_length_eq_zero h
  rw [List.filter_eq_nil_iff] at h0
  have := h0 L[i] (by simp)
  simpa [hi] using this
theorem unlisted_pos {L : Array Bool} {f : Nat} (h : unlisted L = f + 1) : ∃ i, i < L.size ∧ L.getD i true = false := by
  unfold unlisted at h
  cases hl : L.toList.filter (fun b => !b) with
  | nil => rw [hl] at h; simp at h
  | cons b l =>
    have hb : b ∈ L.toList.filter (fun b => !b) := by rw [hl]; simp
    rw [List.mem_filter] at hb
    obtain ⟨i, hi, e⟩ := List.mem_iff_getElem.1 hb.1
    have hi' : i < L.size := by simpa using hi
    refine ⟨i, hi', ?_⟩
    have hbf : b = false := by simpa using hb.2
    have : L[i] = false := by rw [← hbf, ← e]; simp
    simp [hi', this]
section
variable {P : Program} {l : List Oper} {n : Nat} {Q : Exit → Act → World → Prop}
theorem first_ready (hE : earlyB l = true) {L : Array Bool} (hs : L.size = l.length) : ∀ (i : Nat), i < L.size → L.getD i true = false → ∃ j, j ≤ i ∧ j ∈ Region.ready .any l.toArray L := by
  intro i
  induction i using Nat.strongRecOn with
  | _ i ih =>
    intro hi hun
    have hi' : i < l.length := by omega
    by_cases hr : i ∈ Region.ready .any l.toArray L
    · exact ⟨i, Nat.le_refl _, hr⟩
    · have ho : l[i]? = some l[i] := List.getElem?_eq_getElem hi'
      have hsp := early_spec hE ho
      have : ∃ e ∈ l[i].after, Region.binds .any e = true ∧ L.getD e.on false = false := by
        apply Classical.byContradiction
        intro hno
        refine hr (mem_ready.2 ⟨hun, l[i], by simp, fun e he hb => ?_⟩)
        cases h : L.getD e.on false with
        | true => rfl
        | false => exact absurd ⟨e, he, hb, h⟩ hno
      obtain ⟨e, he, hb, hf⟩ := this
      have hlt := hsp.2 e he hb
      obtain ⟨j, hj, hr'⟩ := ih e.on hlt (by omega) (getD_in (by omega) hf)
      exact ⟨j, by omega, hr'⟩
theorem wpAny_tail (hE : earlyB l = true) (hs : Region.sinkB .any l.toArray n = true) (hc : Region.chainB .any l.toArray n = true) (hn : n < l.length)
    (hq : Region.seqB .any l.toArray (l.length - n) n (Array.replicate n true ++ Array.replicate (l.length - n) false) = true) :
    ∀ (f : Nat) (L' L : Array Bool) (a : Act) (w : World), L'.size = n → unlisted L' = f → HeadInv .any l.toArray n L → (∀ i b, i < n → L.getD i b = L'.getD i b) →
      wpAny P .any (l.take n).toArray (TailPost P l n Q) f L' a w → wpAny P .any l.toArray Q (f + (l.length - n)) L a w := by
  intro f
  induction f with
  | zero =>
    intro L' L a w hs' hu inv hR h
    rw [Nat.zero_add]
    have hL : L = Array.replicate n true ++ Array.replicate (l.length - n) false := by
      apply Array.ext
      · rw [inv.size]; simp; omega
      · intro i h1 h2
        rcases Nat.lt_or_ge i n with hi | hi
        · have := hR i false hi
          rw [unlisted_zero hu i (by omega)] at this
          rw [Array.getElem_append_left (by simpa using hi)]
          simpa [h1] using this
        · have := inv.tail i hi (by rw [← inv.size]; exact h1)
          rw [Array.getElem_append_right (by simpa using hi)]
          simpa [h1] using this
    have h2 : wpList P l.toArray Q (l.drop n) a w := h.2
    have := wpAny_of_seq (md := .any) (P := P) (ops := l.toArray) (Q' := Q) (l.drop n) n L a w (fun j => by simp [List.getElem?_drop]) (by rw [List.length_drop, hL]; exact hq) h2
    rwa [List.length_drop] at this
  | succ f ih =>
    intro L' L a w hs' hu inv hR h
    rw [show f + 1 + (l.length - n) = (f + (l.length - n)) + 1 by omega]
    obtain ⟨i0, hi0, hun0⟩ := unlisted_pos hu
    have hi0n : i0 < n := by omega
    have hun : L.getD i0 true = false := by rw [hR i0 true hi0n]; exact hun0
    have hnot : ∀ t, n ≤ t → t ∉ Region.ready .any l.toArray L := tail_waits hs hc (by simpa using hn) inv _ i0 rfl hi0n hun
    refine ⟨fun hr => ?_, fun i hi => ?_⟩
    · obtain ⟨j, _, hj⟩ := first_ready hE (L := L) (by simpa using inv.size) i0 (by rw [inv.size]; simp; omega) hun
      rw [hr] at hj; cases hj
    · have hin : i < n := by
        rcases Nat.lt_or_ge i n with h' | h'
        · exact h'
        · exact absurd hi (hnot i h')
      obtain ⟨hiu, o, ho, hall⟩ := mem_ready.1 hi
      have ho' : l[i]? = some o := by simpa using ho
      have hsp := early_spec hE ho'
      have hot : (l.take n).toArray[i]? = some o := by simp [hin, ho']
      have hi' : i ∈ Region.ready .any (l.take n).toArray L' := mem_ready.2 ⟨by rw [← hR i true hin]; exact hiu, o, hot, fun e he hb => by
        have h1 := hsp.2 e he hb
        rw [← hR e.on false (by omega)]
        exact hall e he hb⟩
      have h1 := h.2 i hi'
      have hw : ∀ ops : Array Oper, Region.wanted o (yielded ops a.tmps) = true := fun ops => by simp [Region.wanted, hsp.1]
      unfold wpOp at h1 ⊢
      rw [hot] at h1
      rw [ho]
      simp only [hw, if_true] at h1 ⊢
      have hstep : ∀ a' w', wpAny P .any (l.take n).toArray (TailPost P l n Q) f (L'.setIfInBounds i true) a' w' → wpAny P .any l.toArray Q (f + (l.length - n)) (L.setIfInBounds i true) a' w' := by
        intro a' w' h2
        refine ih (L'.setIfInBounds i true) (L.setIfInBounds i true) a' w' (by simpa using hs') ?_ (inv.set hi hin) ?_ h2
        · have := unlisted_set (listed := L') (i := i) (by rw [← hR i true hin]; exact hiu)
          omega
        · intro k b hk
          by_cases hik : i = k
          · subst hik
            have hiL : i < L.size := by rw [inv.size]; simp; omega
            have hiL' : i < L'.size := by omega
            simp [hiL, hiL']
          · rw [getD_set_ne b hik, getD_set_ne b hik]; exact hR k b hk
      rcases h1 with h1 | ⟨h1, a0, w0, h2⟩
      · left
        unfold Oper.wp at h1 ⊢
        generalize (execOp a.eval o).run P w = r at h1 ⊢
        cases r with
        | ok x w' =>
          cases x <;> simp only [Oper.upon] at h1 ⊢ <;>
            first
              | exact hstep _ _ h1
              | exact Calls.mono h1 (fun e w'' he => by cases e <;> first | exact hstep _ _ he | exact he)
              | exact Rows.mono h1 (fun _ _ he => hstep _ _ he)
        | halt x w' => cases x <;> simp only [Oper.upon] at h1 ⊢ <;> exact h1
      · exact .inr ⟨h1, a0, w0, h2⟩
theorem wp_region_held_tail {id : Nat} {a : Act} {w : World} (n : Nat) (S : World → Prop) (hm : P.follows .mixedOrders = true) (hB : tailB l n = true) (hS : S w.drew)
    (h : S w.drew → wpAnyH P .any (l.take n).toArray (TailPost P l n Q) S n (Array.replicate n false) a w.drew) : (Code.region id l.toArray true).wp P Q a w := by
  unfold tailB at hB
  simp only [Bool.and_eq_true, decide_eq_true_eq] at hB
  obtain ⟨⟨⟨⟨h1, h2⟩, h3⟩, h4⟩, h5⟩ := hB
  refine wp_region_any hm ?_
  have inv0 : HeadInv .any l.toArray n (Array.replicate l.toArray.size false) :=
    ⟨by simp, fun j oj _ hl => (by rw [getD_replicate_false] at hl; cases hl), fun t _ ht => getD_in (by simpa using ht) (getD_replicate_false _ _)⟩
  have hu : unlisted (Array.replicate n false) = n := by unfold unlisted; simp
  have := wpAny_tail (P := P) (Q := Q) h1 h3 h4 h2 h5 n (Array.replicate n false) _ a w.drew (by simp) hu inv0 (fun i b hi => by
    have h' : i < l.length := by omega
    simp [hi, h']) (wpAny_of_held _ _ _ _ (h hS))
  rw [show n + (l.length - n) = l.toArray.size by simp; omega] at this
  exact this
theorem takeL {S : World → Prop} {a : Act} {w : World} {v : Value} {oi : Oper} {fuel : Nat} {listed : Array Bool} (i : Nat) (hi : l[i]? = some oi) (hs : Region.noSelect l.toArray = true) (hf : Region.free .any l.toArray listed i = true)
    (hr : (Region.ready .any l.toArray listed).contains i = true) (hQ : ∀ c a w, Q (.panic c) (a.put oi.dst v) w → Q (.panic c) a w) (hg : oi.guard = none) (hy : ∀ W, S W → (execOp a.eval oi).run P W = .ok (.value v) W) (hS : S w)
    (h : wpAnyH P .any l.toArray Q S fuel (listed.setIfInBounds i true) (a.put oi.dst v) w) : wpAnyH P .any l.toArray Q S (fuel + 1) listed a w :=
  wpAnyH_take (by simpa using hi) hs hf hr hQ (.inl ⟨by simp [Region.wanted, hg], hy⟩) hS h
theorem onlyL {S : World → Prop} {a : Act} {w : World} {oi : Oper} {fuel : Nat} {listed : Array Bool} (i : Nat) (hi : l[i]? = some oi) (hg : oi.guard = none) (hr : Region.ready .any l.toArray listed = [i])
    (h : ∀ K' : Act → World → Prop, Go.Shut (∀ a w, S w → (S w → wpAnyH P .any l.toArray Q S fuel (listed.setIfInBounds i true) a w) → K' a w) → Oper.wp P oi a w K' Q) : wpAnyH P .any l.toArray Q S (fuel + 1) listed a w := by
  refine wpAnyH_ready hr (by simp) (AllReadyH.cons (by simpa using hi) (fun K' hK => ?_) AllReadyH.nil)
  rw [if_pos (by simp [Region.wanted, hg])]
  exact h K' hK
theorem twoL {S : World → Prop} {a : Act} {w : World} {oi oj : Oper} {fuel : Nat} {listed : Array Bool} (i j : Nat) (hi : l[i]? = some oi) (hj : l[j]? = some oj) (hgi : oi.guard = none) (hgj : oj.guard = none) (hr : Region.ready .any l.toArray listed = [i, j])
    (h1 : ∀ K' : Act → World → Prop, Go.Shut (∀ a w, S w → (S w → wpAnyH P .any l.toArray Q S fuel (listed.setIfInBounds i true) a w) → K' a w) → Oper.wp P oi a w K' Q)
    (h2 : ∀ K' : Act → World → Prop, Go.Shut (∀ a w, S w → (S w → wpAnyH P .any l.toArray Q S fuel (listed.setIfInBounds j true) a w) → K' a w) → Oper.wp P oj a w K' Q) : wpAnyH P .any l.toArray Q S (fuel + 1) listed a w := by
  refine wpAnyH_ready hr (by simp) (AllReadyH.cons (by simpa using hi) (fun K' hK => ?_) (AllReadyH.cons (by simpa using hj) (fun K' hK => ?_) AllReadyH.nil))
  · rw [if_pos (by simp [Region.wanted, hgi])]
    exact h1 K' hK
  · rw [if_pos (by simp [Region.wanted, hgj])]
    exact h2 K' hK
theorem doneL {S : World → Prop} {a : Act} {w : World} {l' : List Oper} {n fuel : Nat} {listed : Array Bool} (hr : Region.ready .any l'.toArray listed = []) (h : wpList P l.toArray Q (l.drop n) a w) : wpAnyH P .any l'.toArray (TailPost P l n Q) S fuel listed a w :=
  wpAnyH_done hr h fuel
end
end Go.Proofs.YtijmnenojbfdnaaGreatDoor

namespace Go.Proofs.YtijmnenojbfdnaaGreatDoor
open Go.RowKit
section
variable {P : Program} {o : Oper} {a : Act} {w : World} {K : Act → World → Prop} {Q : Exit → Act → World → Prop}
theorem wpM_load (t : TypeId) (x : Operand) (p V : Value) (ho : o.op = .load t x) (hv : a.eval x = p) (hr : (Instr.loadAt t p).run P w = .ok V w) (h : K (a.put o.dst V) w) : o.wp P a w K Q := by
  unfold Oper.wp execOp
  simp only [ho, hv, Sem.run_bind, hr, Result.andThen_ok]
  exact h
theorem wpM_slice (t : TypeId) (n : Nat) (parts : Array (Nat × Operand)) (V : Value) (w' : World) (vals : Array (Nat × Value)) (ho : o.op = .buildSlice t n parts) (hv : (parts.map fun (i, x) => (i, a.eval x)) = vals) (hr : (Instr.buildSlice t n vals).run P w = .ok V w') (h : K (a.put o.dst V) w') : o.wp P a w K Q := by
  unfold Oper.wp execOp
  simp only [ho, hv, Sem.run_bind, hr, Result.andThen_ok]
  exact h
theorem wpM_store (t : TypeId) (x y : Operand) (p V : Value) (w' : World) (u : Unit) (ho : o.op = .store t x y) (hv : a.eval x = p) (hv2 : a.eval y = V) (hr : (Instr.storeAt t p V).run P w = .ok u w') (h : K (a.put o.dst undef) w') : o.wp P a w K Q := by
  unfold Oper.wp execOp
  simp only [ho, hv, hv2, Sem.run_bind, hr, Result.andThen_ok]
  exact h
theorem wpM_run (V : Value) (w' : World) (hr : (execOp a.eval o).run P w = .ok (.value V) w') (h : K (a.put o.dst V) w') : o.wp P a w K Q := by
  unfold Oper.wp
  rw [hr]
  exact h
end
def noDstB (l : List Oper) (s : Nat) : Bool := l.all fun o => o.dst != some s
theorem Kin.same {l : List Oper} {a0 a : Act} (h : Kin l a0 a) {s : Nat} (hs : noDstB l s = true) : Act.slot a s = Act.slot a0 s :=
  h.slots s fun o ho e => by
    have := List.all_eq_true.1 hs o ho
    rw [e] at this
    simp at this
theorem hall_of {l : List Oper} (hE : earlyB l = true) : ∀ listed, Shut l listed → Region.ready .any l.toArray listed = [] → ∀ i, i < l.length → Up listed i := by
  intro listed hs hr i hi
  have hsz := hs.size
  cases h : listed.getD i true with
  | true =>
    unfold Up
    rw [Array.getD_eq_getD_getElem?, Array.getElem?_eq_getElem (by omega)] at h ⊢
    exact h
  | false =>
    obtain ⟨j, _, hj⟩ := first_ready hE hsz i (by omega) h
    rw [hr] at hj; cases hj
def putsAll (σ : Nat → Value) : List Oper → Act → Act
  | [], a => a
  | o :: l, a => putsAll σ l (a.put o.dst (σ (o.dst.getD 0)))
theorem puts_size (σ : Nat → Value) : ∀ (l : List Oper) (a : Act), (putsAll σ l a).tmps.size = a.tmps.size
  | [], a => rfl
  | o :: l, a => by rw [putsAll, puts_size σ l, size_put]
theorem puts_defers (σ : Nat → Value) : ∀ (l : List Oper) (a : Act), (putsAll σ l a).defers = a.defers
  | [], a => rfl
  | o :: l, a => by rw [putsAll, puts_defers σ l, defers_put]
theorem puts_slot (σ : Nat → Value) : ∀ (l : List Oper) (a : Act), (∀ o ∈ l, ∀ k, o.dst = some k → k < a.tmps.size) → ∀ s, Act.slot (putsAll σ l a) s = if (l.any fun o => o.dst == some s) = true then σ s else Act.slot a s
  | [], a, _, s => by simp [putsAll]
  | o :: l, a, h, s => by
    rw [putsAll, puts_slot σ l _ (fun o' ho' k hk => by rw [size_put]; exact h o' (by simp [ho']) k hk) s, slot_put (h o (by simp)), List.any_cons]
    cases hd : o.dst with
    | none => simp [upd]
    | some d =>
      by_cases hs : s = d
      · subst hs; simp [upd]
      · have hds : (some d == some s) = false := by simpa using fun e => hs e.symm
        simp [upd, hs, hds]
theorem act_ext {a b : Act} (h1 : a.tmps.size = b.tmps.size) (h2 : a.defers = b.defers) (h3 : ∀ s, Act.slot a s = Act.slot b s) : a = b := by
  obtain ⟨t, d⟩ := a
  obtain ⟨t', d'⟩ := b
  dsimp only at h1 h2
  subst h2
  congr 1
  refine Array.ext h1 fun i hi hi' => ?_
  have := h3 i
  simpa [Act.slot, hi, hi'] using this
theorem Kin.form {l : List Oper} {a0 a : Act} (h : Kin l a0 a) (hB : dstsB l a0.tmps.size = true) : a = putsAll (Act.slot a) l a0 := by
  have hd : ∀ o ∈ l, ∀ k, o.dst = some k → k < a0.tmps.size := fun o ho k hk => by
    unfold dstsB at hB
    rw [List.all_eq_true] at hB
    have := hB o ho
    rw [Bool.and_eq_true, hk] at this
    simpa using this.2
  refine act_ext ?_ ?_ fun s => ?_
  · rw [puts_size]; exact h.size
  · rw [puts_defers]; exact h.defers
  · rw [puts_slot _ _ _ hd]
    split
    · rfl
    · rename_i hn
      refine h.slots s fun o ho e => hn ?_
      rw [List.any_eq_true]
      exact ⟨o, ho, by rw [e]; simp⟩
def blkOf : Value → Nat
  | .pointer (some a) => a.block
  | .slice (some a) _ _ => a.block
  | _ => 0
def vOf (l : List Oper) (σ : Nat → Value) (j : Nat) : Value := match (l[j]?).bind (·.dst) with
  | some d => σ d
  | none => undef
def dsts2B (l : List Oper) : Bool := (List.range l.length).all fun i => (List.range l.length).all fun j => i == j || match (l[i]?).bind (·.dst), (l[j]?).bind (·.dst) with
  | some a, some b => a != b
  | _, _ => true
structure MkSt (n : Nat) (mk : Nat → Bool) (w0 : World) (F : Nat → (Nat → Value) → World → Prop) (listed : Array Bool) (τ : Nat → Value) (W : World) : Prop where
  below : Below w0.heap.size w0 W
  lo : ∀ i, i < n → mk i = true → Up listed i → w0.heap.size ≤ blkOf (τ i) ∧ blkOf (τ i) < W.heap.size
  apart : ∀ i j, i < n → j < n → mk i = true → mk j = true → Up listed i → Up listed j → i ≠ j → blkOf (τ i) ≠ blkOf (τ j)
  facts : ∀ j, j < n → Up listed j → F j τ W
end Go.Proofs.YtijmnenojbfdnaaGreatDoor

namespace Go.Proofs.YtijmnenojbfdnaaGreatDoor
open Go.RowKit
def StepsG (B : World → World → Prop) (c : Nat) (U : World → Prop) (P : Program) (l : List Oper) (Q : Exit → Act → World → Prop) (a0 : Act) (w0 : World) (F : Nat → Value → World → Prop) : Nat → List Oper → Prop
  | _, [] => True
  | i, o :: rest => (∀ (a : Act) W, Kin l a0 a → B w0 W → (i = c → U W) → (∀ j, Region.waitsFor .any l.toArray i j = true → F j (Act.slot a (dstOf l j)) W) →
      o.wp P a W (fun a' W' => ∃ v, a' = a.put o.dst v ∧ B W W' ∧ (i ≠ c → U W → U W') ∧ F i v W') Q) ∧ StepsG B c U P l Q a0 w0 F (i + 1) rest
theorem StepsG.at_ {B : World → World → Prop} {c : Nat} {U : World → Prop} {P : Program} {l : List Oper} {Q : Exit → Act → World → Prop} {a0 : Act} {w0 : World} {F : Nat → Value → World → Prop} : ∀ (m : List Oper) (k i : Nat) (o : Oper), StepsG B c U P l Q a0 w0 F k m → m[i]? = some o →
    ∀ (a : Act) W, Kin l a0 a → B w0 W → (k + i = c → U W) → (∀ j, Region.waitsFor .any l.toArray (k + i) j = true → F j (Act.slot a (dstOf l j)) W) →
      o.wp P a W (fun a' W' => ∃ v, a' = a.put o.dst v ∧ B W W' ∧ (k + i ≠ c → U W → U W') ∧ F (k + i) v W') Q := by
  intro m
  induction m with
  | nil => intro k i o _ h; simp at h
  | cons x m ih =>
    intro k i o hs h
    cases i with
    | zero => injection h with h; subst h; exact hs.1
    | succ i =>
      have := ih (k + 1) i o hs.2 (by simpa using h)
      rwa [show k + 1 + i = k + (i + 1) from by omega] at this
theorem wp_region_makeG {B : World → World → Prop} (hBr : ∀ w, B w w) (hBt : ∀ {a b c}, B a b → B b c → B a c) {P : Program} {l : List Oper} {id : Nat} {Q : Exit → Act → World → Prop} {a0 : Act} {w : World} (hm : P.follows .mixedOrders = true) (n : Nat)
    (hB : dstsB l a0.tmps.size = true) (hD : apartB l n = true) (hn : n + 1 = l.length) (hL : lastB l n = true) (F : Nat → Value → World → Prop) (c : Nat) (U : World → Prop) (hU0 : U w.drew)
    (hF : ∀ j v W W', F j v W → B W W' → F j v W') (hall : ∀ listed, Shut l listed → Region.ready .any l.toArray listed = [] → ∀ i, i < l.length → Up listed i)
    (hstep : StepsG B c U P l Q a0 w.drew F 0 (l.take n))
    (hlast : ∀ o, l[n]? = some o → ∀ (a : Act) W, Kin l a0 a → B w.drew W → (∀ j, j < n → F j (Act.slot a (dstOf l j)) W) →
      o.wp P a W (fun a' W' => ∃ v, a' = a.put o.dst v ∧ ∀ a'', Kin l a0 a'' → Act.slot a'' = Act.slot a' → Q .normal a'' W') Q) : (Code.region id l.toArray true).wp P Q a0 w := by
  refine wp_region_slots hm hB (fun listed σ W => (¬ Up listed n → B w.drew W ∧ (¬ Up listed c → U W) ∧ ∀ j, j < n → Up listed j → F j (σ (dstOf l j)) W) ∧ (Up listed n → ∀ a'', Kin l a0 a'' → Act.slot a'' = σ → Q .normal a'' W)) ⟨fun _ => ⟨hBr _, fun _ => hU0, fun j hj hu => ?_⟩, fun hu => ?_⟩ (steps_all fun i o ho listed a W hsh hi hk hK => ?_) (fun listed a W hu hk hK => hK.2 (hu n (by omega)) a hk rfl) hall
  · unfold Up at hu; rw [getD_replicate_false] at hu; cases hu
  · unfold Up at hu; rw [getD_replicate_false] at hu; cases hu
  · obtain ⟨hK1, hK2⟩ := hK
    have hil : i < l.length := by
      rcases Nat.lt_or_ge i l.length with h' | h'
      · exact h'
      · rw [List.getElem?_eq_none h'] at ho; cases ho
    have hwait : ∀ j, j < n → Region.waitsFor .any l.toArray n j = true := fun j hj => by
      unfold lastB at hL
      rw [List.all_eq_true] at hL
      exact hL j (List.mem_range.2 hj)
    have hnn : ¬ Up listed n := by
      intro hu
      by_cases e : i = n
      · subst e; exact ready_not hi hu
      · exact ready_not hi (hsh.up hu (hwait i (by omega)))
    obtain ⟨hb, hu0, hf⟩ := hK1 hnn
    have hsz : listed.size = l.length := hsh.size
    by_cases e : i = n
    · subst e
      refine Oper.wp_mono ?_ (hlast o ho a W hk hb (fun j hj => hf j hj (ready_up hi (hwait j hj))))
      rintro a' w' ⟨v, rfl, hq⟩
      refine ⟨v, rfl, fun hu => absurd ?_ hu, fun _ a'' hk'' hs => ?_⟩
      · unfold Up
        rw [Array.getD_eq_getD_getElem?, Array.getElem?_setIfInBounds]
        simp [hsz, hil]
      · refine hq a'' hk'' ?_
        rw [hs]
        have := (hk.put (fun o' ho' k hk' => ?_) (List.mem_of_getElem? ho) v).2
        · exact this.symm
        · unfold dstsB at hB
          rw [List.all_eq_true] at hB
          have := hB o' ho'
          rw [Bool.and_eq_true, hk'] at this
          simpa using this.2
    · have hin : i < n := by omega
      have hst := hstep.at_ (l.take n) 0 i o (by rw [List.getElem?_take, if_pos hin]; exact ho) a W hk hb (fun e => hu0 (fun hu => ready_not hi (by rw [← e, Nat.zero_add] at hu; exact hu))) (fun j hw => by
        rw [Nat.zero_add] at hw
        have hu := ready_up hi hw
        have hjn : j < n ∨ j = n ∨ n < j := by omega
        rcases hjn with h1 | h1 | h1
        · exact hf j h1 hu
        · subst h1; exact absurd hu hnn
        · exfalso
          unfold Up at hu
          rw [Array.getD_eq_getD_getElem?, Array.getElem?_eq_none (by rw [hsz]; omega)] at hu
          cases hu)
      rw [Nat.zero_add] at hst
      refine Oper.wp_mono ?_ hst
      rintro a' w' ⟨v, rfl, hb', hUi, hFi⟩
      have hdi : ∃ k, o.dst = some k ∧ ∀ j oj, j ≠ i → l[j]? = some oj → oj.dst ≠ some k := by
        unfold apartB at hD
        rw [List.all_eq_true] at hD
        have h1 := hD i (List.mem_range.2 hin)
        rw [ho] at h1
        simp only [Option.bind_some] at h1
        cases hk' : o.dst with
        | none => rw [hk'] at h1; cases h1
        | some k =>
          rw [hk'] at h1
          refine ⟨k, rfl, fun j oj hj hoj hd => ?_⟩
          dsimp only at h1
          rw [List.all_eq_true] at h1
          have hjl : j < l.length := by
            rcases Nat.lt_or_ge j l.length with h' | h'
            · exact h'
            · rw [List.getElem?_eq_none h'] at hoj; cases hoj
          have h2 := h1 j (List.mem_range.2 hjl)
          rw [hoj] at h2
          simp only [Option.bind_some, hd, Bool.or_eq_true, beq_iff_eq, bne_self_eq_false, or_false] at h2
          first | exact hj h2.symm | (rcases h2 with h2 | h2 <;> first | exact hj h2.symm | cases h2)
      obtain ⟨k, hdk, hapart⟩ := hdi
      refine ⟨v, rfl, fun _ => ⟨hBt hb hb', fun hnc => ?_, fun j hj hu => ?_⟩, fun hu => ?_⟩
      · by_cases hci : i = c
        · exact absurd (by subst hci; unfold Up; rw [Array.getD_eq_getD_getElem?, Array.getElem?_setIfInBounds]; simp [hsz, hil]) hnc
        · refine hUi hci (hu0 fun hu => hnc ?_)
          unfold Up at hu ⊢
          rw [Array.getD_eq_getD_getElem?, Array.getElem?_setIfInBounds, if_neg hci, ← Array.getD_eq_getD_getElem?]
          exact hu
      · by_cases hji : j = i
        · subst hji
          have : dstOf l j = k := by unfold dstOf; rw [ho]; simp [hdk]
          rw [this, hdk]
          simpa [upd] using hFi
        · have hu' := up_set hu (fun e => hji e.symm)
          have hjl : j < l.length := by omega
          have hne : dstOf l j ≠ k := by
            unfold dstOf
            rw [List.getElem?_eq_getElem hjl]
            have h3 := hapart j l[j] hji (List.getElem?_eq_getElem hjl)
            unfold apartB at hD
            rw [List.all_eq_true] at hD
            have h1 := hD j (List.mem_range.2 hj)
            rw [List.getElem?_eq_getElem hjl] at h1
            simp only [Option.bind_some] at h1 ⊢
            cases hk' : l[j].dst with
            | none => rw [hk'] at h1; cases h1
            | some q => rw [hk'] at h3; simpa using h3
          have := hF j _ W w' (hf j hj hu') hb'
          rw [hdk]
          simpa [upd, hne] using this
      · exact absurd (up_set hu e) hnn
end Go.Proofs.YtijmnenojbfdnaaGreatDoor

namespace Go.Proofs.YtijmnenojbfdnaaGreatDoor
open Go.RowKit
section
variable {P : Program} {o : Oper} {a : Act} {w : World} {K : Act → World → Prop} {Q : Exit → Act → World → Prop}
theorem wpM_move (x : Operand) (V : Value) (ho : o.op = .move x) (hv : a.eval x = V) (h : K (a.put o.dst V) w) : o.wp P a w K Q := by
  unfold Oper.wp execOp
  simp only [ho, hv]
  exact h
theorem wpM_build (t : TypeId) (parts : Array (Nat × Operand)) (V : Value) (vals : Array (Nat × Value)) (ho : o.op = .build t parts) (hv : (parts.map fun (i, x) => (i, a.eval x)) = vals) (hr : (Instr.build t vals).run P w = .ok V w) (h : K (a.put o.dst V) w) : o.wp P a w K Q := by
  unfold Oper.wp execOp
  simp only [ho, hv, Sem.run_bind, hr, Result.andThen_ok]
  exact h
end
theorem wpM_callEx {o : Oper} {a : Act} {w : World} {K : Act → World → Prop} {Q : Exit → Act → World → Prop} (x : Operand) (args : Array Operand) (vals : Array Value) (ts : Array TypeId) (ho : o.op = .call { callee := .value x, args := args, argTypes := ts }) (hx : a.eval x = .func (.func 74) #[] #[]) (hv : args.map a.eval = vals)
    (h : Calls Tryz.prog 74 vals w fun e w' => ∃ v, e = .returned v ∧ K (a.put o.dst v) w') : o.wp Tryz.prog a w K Q := by
  unfold Oper.wp execOp
  simp only [ho]
  generalize a.eval = ρ at hx hv ⊢
  simp [hx, hv, go_sem]
  refine h.mono ?_
  rintro e w' ⟨v, rfl, hK⟩
  exact hK
theorem bX2 (a1 a2 a3 b1 b2 b3 : Int) (s1 s2 r1 r2 : ByteArray) (A B : Option Addr) (n m c d : Nat) (W : World) : (Instr.buildSlice 26 2 #[(0, .agg #[.int .i64 a1, .int .i64 a2, .int .i64 a3, .string s1, .string s2, .slice A n c]), (1, .agg #[.int .i64 b1, .int .i64 b2, .int .i64 b3, .string r1, .string r2, .slice B m d])]).run Tryz.prog W =
    .ok (.slice (some ⟨W.heap.size, 0, none⟩) 2 2) (W.alloc (.cells #[.int .i64 a1, .int .i64 a2, .int .i64 a3, .string s1, .string s2, .slice A n c, .int .i64 b1, .int .i64 b2, .int .i64 b3, .string r1, .string r2, .slice B m d] 28)) := by kernel_rfl
theorem bE2 (op : Int) (A : Option Addr) (n c : Nat) (W : World) : (Instr.build 28 #[(0, .int .i64 op), (3, .slice A n c)]).run Tryz.prog W = .ok (.agg #[.int .i64 op, .int .i64 0, .int .i64 0, .string ⟨#[]⟩, .string ⟨#[]⟩, .slice A n c]) W := by kernel_rfl
def r21F (g : Nat) (A : Option Addr) (c : Nat) (L : List Tok) (q op lv : Nat) (xv : Value) (x y : Ex) (j : Nat) : Nat → Value → World → Prop
  | 0, v, _ => v = .int .i64 (op : Int)
  | 1, v, _ => v = xv
  | 2, v, _ => v = .pointer (some ⟨g, 0, none⟩)
  | 3, v, _ => v = .int .i64 (lv : Int)
  | 4, v, _ => v = .int .i64 ((lv : Int) + 1)
  | 5, v, W => (IsPs W g A c L j ∧ j < L.length) ∧ ∃ m, IsEx m (DX q W) W v y
  | 6, v, W => (IsPs W g A c L j ∧ j < L.length) ∧ ∃ (m b : Nat), v = .slice (some ⟨b, 0, none⟩) 2 2 ∧ SlE m (DX q W) W v [x, y]
  | 7, v, W => (IsPs W g A c L j ∧ j < L.length) ∧ ∃ (m b : Nat), v = .agg #[.int .i64 (op : Int), .int .i64 0, .int .i64 0, .string ⟨#[]⟩, .string ⟨#[]⟩, .slice (some ⟨b, 0, none⟩) 2 2] ∧ IsEx m (DX q W) W v (nodeB op [x, y])
  | _, _, _ => True
def B21 (g : Nat) (A : Option Addr) (c : Nat) (L : List Tok) (j : Nat) (a b : World) : Prop := a.grownBy b (some g) ∧ (IsPs a g A c L j → IsPs b g A c L j)
theorem B21.refl {g : Nat} {A : Option Addr} {c : Nat} {L : List Tok} {j : Nat} (w : World) : B21 g A c L j w w := ⟨grown_of_below (Below.refl _ _) _, id⟩
theorem B21.trans {g : Nat} {A : Option Addr} {c : Nat} {L : List Tok} {j : Nat} {u v w : World} (h : B21 g A c L j u v) (k : B21 g A c L j v w) : B21 g A c L j u w := ⟨lexGrownT h.1 k.1, fun e => k.2 (h.2 e)⟩
theorem B21.below {g : Nat} {A : Option Addr} {c : Nat} {L : List Tok} {j : Nat} {u v : World} (h : Below u.heap.size u v) : B21 g A c L j u v := ⟨grown_of_below h _, fun e => IsPs.now e h⟩
theorem r21F_keep {g : Nat} {A : Option Addr} {c : Nat} {L : List Tok} {q op lv : Nat} {xv : Value} {x y : Ex} {j : Nat} (hq : g ≤ q) (k : Nat) (v : Value) (W W' : World) (h : r21F g A c L q op lv xv x y j k v W) (hb : B21 g A c L j W W') : r21F g A c L q op lv xv x y j k v W' := by
  match k, h with
  | 0, h | 1, h | 2, h | 3, h | 4, h => exact h
  | 5, h =>
    obtain ⟨h1, m, h2⟩ := h
    exact ⟨⟨hb.2 h1.1, h1.2⟩, m, h2.grownX hq hb.1⟩
  | 6, h =>
    obtain ⟨h1, m, b, h2, h3⟩ := h
    exact ⟨⟨hb.2 h1.1, h1.2⟩, m, b, h2, Sl.keep h3 (RExN.kept m) (fun _ hd => ⟨hd.1, Nat.lt_of_lt_of_le hd.2 hb.1.size⟩) (DX.same hq hb.1)⟩
  | 7, h =>
    obtain ⟨h1, m, b, h2, h3⟩ := h
    exact ⟨⟨hb.2 h1.1, h1.2⟩, m, b, h2, h3.grownX hq hb.1⟩
  | n + 8, h => exact trivial
end Go.Proofs.YtijmnenojbfdnaaGreatDoor
