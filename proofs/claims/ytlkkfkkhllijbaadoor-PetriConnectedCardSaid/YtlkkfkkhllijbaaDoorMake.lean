/- Regions that draw their order and make memory, with one store at the end: one obligation an operation. No program in sight. -/
import Derived.Test.YtlkkfkkhllijbaaDoorRegion
import Derived.Test.YtlkkfkkhllijbaaDoorWords
namespace Go.Proofs.YtlkkfkkhllijbaaDoor
open Go.RowKit

def dstOf (l : List Oper) (j : Nat) : Nat := ((l[j]?).bind (·.dst)).getD 0
def apartB (l : List Oper) (n : Nat) : Bool := (List.range n).all fun i => match (l[i]?).bind (·.dst) with
  | none => false
  | some a => (List.range l.length).all fun j => i == j || match (l[j]?).bind (·.dst) with
    | none => true
    | some b => a != b
def lastB (l : List Oper) (n : Nat) : Bool := (List.range n).all fun i => Region.waitsFor .any l.toArray n i
/-- One obligation an operation. -/
def StepsM (P : Program) (l : List Oper) (Q : Exit → Act → World → Prop) (a0 : Act) (w0 : World) (F : Nat → Value → World → Prop) : Nat → List Oper → Prop
  | _, [] => True
  | i, o :: rest => (∀ (a : Act) W, Kin l a0 a → Below w0.heap.size w0 W → (∀ j, Region.waitsFor .any l.toArray i j = true → F j (Act.slot a (dstOf l j)) W) →
      o.wp P a W (fun a' W' => ∃ v, a' = a.put o.dst v ∧ Below W.heap.size W W' ∧ F i v W') Q) ∧ StepsM P l Q a0 w0 F (i + 1) rest
theorem StepsM.at_ {P : Program} {l : List Oper} {Q : Exit → Act → World → Prop} {a0 : Act} {w0 : World} {F : Nat → Value → World → Prop} : ∀ (m : List Oper) (k i : Nat) (o : Oper), StepsM P l Q a0 w0 F k m → m[i]? = some o →
    ∀ (a : Act) W, Kin l a0 a → Below w0.heap.size w0 W → (∀ j, Region.waitsFor .any l.toArray (k + i) j = true → F j (Act.slot a (dstOf l j)) W) →
      o.wp P a W (fun a' W' => ∃ v, a' = a.put o.dst v ∧ Below W.heap.size W W' ∧ F (k + i) v W') Q := by
  intro m
  induction m with
  | nil => intro k i o _ h; simp at h
  | cons x m ih =>
    intro k i o hs h
    cases i with
    | zero => injection h with h; subst h; exact hs.1
    | succ i =>
      have := ih (k + 1) i o hs.2 (by simpa using h)
      rwa [show k + 1 + i = k + (i + 1) from by omega] at this
theorem steps_all {P : Program} {l : List Oper} {Q : Exit → Act → World → Prop} {a0 : Act} {K : Array Bool → (Nat → Value) → World → Prop} (h : ∀ (i : Nat) (o : Oper), l[i]? = some o →
    ∀ listed (a : Act) w, Shut l listed → i ∈ Region.ready .any l.toArray listed → Kin l a0 a → K listed (Act.slot a) w →
      o.wp P a w (fun a' w' => ∃ v, a' = a.put o.dst v ∧ K (listed.setIfInBounds i true) (upd (Act.slot a) o.dst v) w') Q) : Steps P l Q a0 K 0 l := by
  have gen : ∀ (m : List Oper) (k : Nat), (∀ i o, m[i]? = some o → l[k + i]? = some o) → Steps P l Q a0 K k m := by
    intro m
    induction m with
    | nil => intro k _; trivial
    | cons x m ih =>
      intro k hk
      refine ⟨fun listed a w => h k x (by simpa using hk 0 x rfl) listed a w, ih (k + 1) fun i o ho => ?_⟩
      have := hk (i + 1) o (by simpa using ho)
      rwa [show k + (i + 1) = k + 1 + i by omega] at this
  exact gen l 0 (fun i o ho => by rw [Nat.zero_add]; exact ho)

theorem wp_region_make {P : Program} {l : List Oper} {id : Nat} {Q : Exit → Act → World → Prop} {a0 : Act} {w : World} (hm : P.follows .mixedOrders = true) (n : Nat)
    (hB : dstsB l a0.tmps.size = true) (hD : apartB l n = true) (hn : n + 1 = l.length) (hL : lastB l n = true) (F : Nat → Value → World → Prop)
    (hF : ∀ j v W W', F j v W → Below W.heap.size W W' → F j v W') (hall : ∀ listed, Shut l listed → Region.ready .any l.toArray listed = [] → ∀ i, i < l.length → Up listed i)
    (hstep : StepsM P l Q a0 w.drew F 0 (l.take n))
    (hlast : ∀ o, l[n]? = some o → ∀ (a : Act) W, Kin l a0 a → Below w.drew.heap.size w.drew W → (∀ j, j < n → F j (Act.slot a (dstOf l j)) W) →
      o.wp P a W (fun a' W' => ∃ v, a' = a.put o.dst v ∧ ∀ a'', Kin l a0 a'' → Act.slot a'' = Act.slot a' → Q .normal a'' W') Q) : (Code.region id l.toArray true).wp P Q a0 w := by
  refine wp_region_slots hm hB (fun listed σ W => (¬ Up listed n → Below w.drew.heap.size w.drew W ∧ ∀ j, j < n → Up listed j → F j (σ (dstOf l j)) W) ∧ (Up listed n → ∀ a'', Kin l a0 a'' → Act.slot a'' = σ → Q .normal a'' W)) ⟨fun _ => ⟨Below.refl _ _, fun j hj hu => ?_⟩, fun hu => ?_⟩ (steps_all fun i o ho listed a W hsh hi hk hK => ?_) (fun listed a W hu hk hK => hK.2 (hu n (by omega)) a hk rfl) hall
  · unfold Up at hu; rw [getD_replicate_false] at hu; cases hu
  · unfold Up at hu; rw [getD_replicate_false] at hu; cases hu
  · obtain ⟨hK1, hK2⟩ := hK
    have hil : i < l.length := by
      rcases Nat.lt_or_ge i l.length with h' | h'
      · exact h'
      · rw [List.getElem?_eq_none h'] at ho; cases ho
    have hwait : ∀ j, j < n → Region.waitsFor .any l.toArray n j = true := fun j hj => by
      unfold lastB at hL
      rw [List.all_eq_true] at hL
      exact hL j (List.mem_range.2 hj)
    have hnn : ¬ Up listed n := by
      intro hu
      by_cases e : i = n
      · subst e; exact ready_not hi hu
      · exact ready_not hi (hsh.up hu (hwait i (by omega)))
    obtain ⟨hb, hf⟩ := hK1 hnn
    have hsz : listed.size = l.length := hsh.size
    by_cases e : i = n
    · subst e
      refine Oper.wp_mono ?_ (hlast o ho a W hk hb (fun j hj => hf j hj (ready_up hi (hwait j hj))))
      rintro a' w' ⟨v, rfl, hq⟩
      refine ⟨v, rfl, fun hu => absurd ?_ hu, fun _ a'' hk'' hs => ?_⟩
      · unfold Up
        rw [Array.getD_eq_getD_getElem?, Array.getElem?_setIfInBounds]
        simp [hsz, hil]
      · refine hq a'' hk'' ?_
        rw [hs]
        have := (hk.put (fun o' ho' k hk' => ?_) (List.mem_of_getElem? ho) v).2
        · exact this.symm
        · unfold dstsB at hB
          rw [List.all_eq_true] at hB
          have := hB o' ho'
          rw [Bool.and_eq_true, hk'] at this
          simpa using this.2
    · have hin : i < n := by omega
      have hst := hstep.at_ (l.take n) 0 i o (by rw [List.getElem?_take, if_pos hin]; exact ho) a W hk hb (fun j hw => by
        rw [Nat.zero_add] at hw
        have hu := ready_up hi hw
        have hjn : j < n ∨ j = n ∨ n < j := by omega
        rcases hjn with h1 | h1 | h1
        · exact hf j h1 hu
        · subst h1; exact absurd hu hnn
        · exfalso
          unfold Up at hu
          rw [Array.getD_eq_getD_getElem?, Array.getElem?_eq_none (by rw [hsz]; omega)] at hu
          cases hu)
      rw [Nat.zero_add] at hst
      refine Oper.wp_mono ?_ hst
      rintro a' w' ⟨v, rfl, hb', hFi⟩
      have hdi : ∃ k, o.dst = some k ∧ ∀ j oj, j ≠ i → l[j]? = some oj → oj.dst ≠ some k := by
        unfold apartB at hD
        rw [List.all_eq_true] at hD
        have h1 := hD i (List.mem_range.2 hin)
        rw [ho] at h1
        simp only [Option.bind_some] at h1
        cases hk' : o.dst with
        | none => rw [hk'] at h1; cases h1
        | some k =>
          rw [hk'] at h1
          refine ⟨k, rfl, fun j oj hj hoj hd => ?_⟩
          dsimp only at h1
          rw [List.all_eq_true] at h1
          have hjl : j < l.length := by
            rcases Nat.lt_or_ge j l.length with h' | h'
            · exact h'
            · rw [List.getElem?_eq_none h'] at hoj; cases hoj
          have h2 := h1 j (List.mem_range.2 hjl)
          rw [hoj] at h2
          simp only [Option.bind_some, hd, Bool.or_eq_true, beq_iff_eq, bne_self_eq_false, or_false] at h2
          first | exact hj h2.symm | (rcases h2 with h2 | h2 <;> first | exact hj h2.symm | cases h2)
      obtain ⟨k, hdk, hapart⟩ := hdi
      refine ⟨v, rfl, fun _ => ⟨hb.trans (hb'.mono hb.size), fun j hj hu => ?_⟩, fun hu => ?_⟩
      · by_cases hji : j = i
        · subst hji
          have : dstOf l j = k := by unfold dstOf; rw [ho]; simp [hdk]
          rw [this, hdk]
          simpa [upd] using hFi
        · have hu' := up_set hu (fun e => hji e.symm)
          have hjl : j < l.length := by omega
          have hne : dstOf l j ≠ k := by
            unfold dstOf
            rw [List.getElem?_eq_getElem hjl]
            have h3 := hapart j l[j] hji (List.getElem?_eq_getElem hjl)
            unfold apartB at hD
            rw [List.all_eq_true] at hD
            have h1 := hD j (List.mem_range.2 hj)
            rw [List.getElem?_eq_getElem hjl] at h1
            simp only [Option.bind_some] at h1 ⊢
            cases hk' : l[j].dst with
            | none => rw [hk'] at h1; cases h1
            | some q => rw [hk'] at h3; simpa using h3
          have := hF j _ W w' (hf j hj hu') hb'
          rw [hdk]
          simpa [upd, hne] using this
      · exact absurd (up_set hu e) hnn
end Go.Proofs.YtlkkfkkhllijbaaDoor
