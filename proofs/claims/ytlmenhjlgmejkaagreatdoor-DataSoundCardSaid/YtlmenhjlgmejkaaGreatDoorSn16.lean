/- Merged texts. -/
import Derived.IntWalk
import Derived.ProofKit
import Derived.Deep.Slices
import Derived.Deep.Fields
import Derived.Deep.Strs
import Derived.ChangeSame
import Derived.Lib.SmallJoins
import Derived.LaidMore
import Derived.OpenShut
import Derived.Stop.Joined
import Derived.Test.YtlmenhjlgmejkaaGreatDoorSn14
set_option linter.all false
namespace Go.Proofs.YtlmenhjlgmejkaaGreatDoor
open Go.RowKit
theorem idxS_some {l : List St} {s : St} {k : Nat} (h : idxS l s = some k) : l[k]? = some s ∧ k < l.length := by
 unfold idxS at h
 rw [List.findIdx?_eq_some_iff_getElem] at h
 obtain ⟨h1, h2, _⟩ := h
 refine ⟨?_, h1⟩
 rw [List.getElem?_eq_getElem h1]
 simpa using h2
theorem idxS_none {l : List St} {s : St} (h : idxS l s = none) : s ∉ l := by
 unfold idxS at h
 rw [List.findIdx?_eq_none_iff] at h
 intro hs
 have := h s hs
 simp at this
structure DExt (p q : Sp) : Prop where
 st : p.states <+: q.states
 mv : p.moves <+: q.moves
 full : q.full = true → p.full = true
theorem DExt.refl (p : Sp) : DExt p p := ⟨List.prefix_refl _, List.prefix_refl _, fun h => h⟩
theorem DExt.trans {p q r : Sp} (h : DExt p q) (k : DExt q r) : DExt p r := ⟨h.st.trans k.st, h.mv.trans k.mv, fun e => h.full (k.full e)⟩
theorem pre_get {α : Type} {l m : List α} (h : l <+: m) {i : Nat} {x : α} (hx : l[i]? = some x) : m[i]? = some x := by
 obtain ⟨t, rfl⟩ := h
 have hi : i < l.length := by
  rcases Nat.lt_or_ge i l.length with h' | h'
  ·exact h'
  ·rw [List.getElem?_eq_none h'] at hx; cases hx
 rw [List.getElem?_append_left hi]; exact hx
theorem pre_back {α : Type} {l m : List α} (h : l <+: m) {i : Nat} {x : α} (hi : i < l.length) (hx : m[i]? = some x) : l[i]? = some x := by
 obtain ⟨t, rfl⟩ := h
 rw [List.getElem?_append_left hi] at hx; exact hx
theorem lt_of_get {α : Type} {l : List α} {i : Nat} {x : α} (hx : l[i]? = some x) : i < l.length := by
 rcases Nat.lt_or_ge i l.length with h' | h'
 ·exact h'
 ·rw [List.getElem?_eq_none h'] at hx; cases hx
def MvOk (n : DNet) (l : List St) (m : Mv) : Prop := ∃ s s', l[m.src]? = some s ∧ l[m.dst]? = some s' ∧ fireD n s (m.sym : Int) = (s', 0)
structure DInv (n : DNet) (s0 : St) (most : Nat) (p : Sp) : Prop where
 ok : ∀ s ∈ p.states, stateB n s = true
 head : p.states[0]? = some s0
 le : p.states.length ≤ most
 mvl : p.moves.length ≤ 20000
 mv : ∀ m ∈ p.moves, MvOk n p.states m
 nodup : p.states.Nodup
 met : ∀ k, 0 < k → k < p.states.length → ∃ m, byM p.moves k = some m
theorem byM_some {mv : List Mv} {k : Nat} {m : Mv} (h : byM mv k = some m) : m ∈ mv ∧ m.dst = k ∧ m.src < k := by
 unfold byM at h
 have h1 := List.mem_of_find?_eq_some h
 have h2 := List.find?_some h
 simp only [Bool.and_eq_true, decide_eq_true_eq] at h2
 exact ⟨h1, h2.1, by omega⟩
theorem byM_app {a b : List Mv} {k : Nat} {m : Mv} (h : byM a k = some m) : byM (a ++ b) k = some m := by
 unfold byM at h ⊢
 rw [List.find?_append, h]; rfl
theorem byM_snoc {a : List Mv} {k : Nat} {m : Mv} (h1 : m.dst = k) (h2 : m.src < k) : ∃ m', byM (a ++ [m]) k = some m' := by
 cases h : byM a k with
 | some m' => exact ⟨m', byM_app h⟩
 | none =>
  unfold byM at h ⊢
  rw [List.find?_append, h]
  exact ⟨m, by simp [h1, h2]⟩
theorem MvOk.ext {n : DNet} {l l' : List St} {m : Mv} (h : MvOk n l m) (hp : l <+: l') : MvOk n l' m := by
 obtain ⟨s, s', h1, h2, h3⟩ := h
 exact ⟨s, s', pre_get hp h1, pre_get hp h2, h3⟩
theorem fire_eta {n : DNet} {s : St} {t : Int} (h : (fireD n s t).2 = 0) : fireD n s t = ((fireD n s t).1, 0) := by rw [← h]
section
variable {n : DNet} {s0 : St} {most i t : Nat} {s : St} {p q : Sp}
theorem exT_inv (hv : dvalidB n = true) (hp : DInv n s0 most p) (hi : p.states[i]? = some s) (h : exT n most i s t p = some q) : DInv n s0 most q ∧ DExt p q := by
 unfold exT at h
 split at h
 ·injection h with h
  subst h
  exact ⟨⟨hp.ok, hp.head, hp.le, hp.mvl, hp.mv, hp.nodup, hp.met⟩, List.prefix_refl _, List.prefix_refl _, fun e => by simp only [Bool.and_eq_true] at e; exact e.1⟩
 ·rename_i hc
  have hc : (fireD n s (t : Int)).2 = 0 := by simpa using hc
  have he := fire_eta hc
  split at h
  ·rename_i k hk
   split at h
   ·rename_i hl
    injection h with h
    subst h
    obtain ⟨k1, k2⟩ := idxS_some hk
    refine ⟨⟨hp.ok, hp.head, hp.le, by simp; omega, ?_, hp.nodup, fun j h1 h2 => ?_⟩, List.prefix_refl _, List.prefix_append _ _, fun e => e⟩
    ·intro m hm
     rcases List.mem_append.1 hm with hm | hm
     ·exact hp.mv m hm
     ·rw [List.mem_singleton] at hm
      subst hm
      exact ⟨s, _, hi, k1, he⟩
    ·obtain ⟨m, hm⟩ := hp.met j h1 h2
     exact ⟨m, byM_app hm⟩
   ·cases h
  ·rename_i hk
   split at h
   ·rename_i hlt
    split at h
    ·rename_i hl
     injection h with h
     subst h
     have hn := idxS_none hk
     have hs : stateB n s = true := hp.ok s (List.mem_of_getElem? hi)
     have hil := lt_of_get hi
     refine ⟨⟨?_, ?_, ?_, ?_, ?_, ?_, ?_⟩, List.prefix_append _ _, List.prefix_append _ _, fun e => e⟩
     ·intro x hx
      rcases List.mem_append.1 hx with hx | hx
      ·exact hp.ok x hx
      ·rw [List.mem_singleton] at hx; subst hx; exact fire_state hv hs hc
     ·exact pre_get (List.prefix_append _ _) hp.head
     ·simp; omega
     ·simp; omega
     ·intro m hm
      rcases List.mem_append.1 hm with hm | hm
      ·exact (hp.mv m hm).ext (List.prefix_append _ _)
      ·rw [List.mem_singleton] at hm
       subst hm
       exact ⟨s, _, pre_get (List.prefix_append _ _) hi, by simp, he⟩
     ·rw [List.nodup_append]
      refine ⟨hp.nodup, by simp, fun a ha b hb => ?_⟩
      rw [List.mem_singleton] at hb
      subst hb
      rintro rfl
      exact hn ha
     ·intro j h1 h2
      dsimp only at h2 ⊢
      rw [List.length_append, List.length_singleton] at h2
      rcases Nat.lt_or_ge j p.states.length with h3 | h3
      ·obtain ⟨m, hm⟩ := hp.met j h1 h3
       exact ⟨m, byM_app hm⟩
      ·obtain rfl : j = p.states.length := by omega
       exact byM_snoc rfl hil
    ·cases h
   ·injection h with h
    subst h
    exact ⟨⟨hp.ok, hp.head, hp.le, hp.mvl, hp.mv, hp.nodup, hp.met⟩, List.prefix_refl _, List.prefix_refl _, fun e => by cases e⟩
theorem exRow_inv (hv : dvalidB n = true) : ∀ (f t : Nat) (p : Sp), DInv n s0 most p → p.states[i]? = some s → exRow n most i s f t p = some q → DInv n s0 most q ∧ DExt p q := by
 intro f
 induction f with
 | zero => intro t p hp _ h; injection h with h; subst h; exact ⟨hp, DExt.refl _⟩
 | succ f ih =>
  intro t p hp hi h
  rw [exRow, Option.bind_eq_some_iff] at h
  obtain ⟨r, h1, h2⟩ := h
  obtain ⟨a, b⟩ := exT_inv hv hp hi h1
  obtain ⟨c, d⟩ := ih (t + 1) r a (pre_get b.st hi) h2
  exact ⟨c, b.trans d⟩
theorem exAll_inv (hv : dvalidB n = true) : ∀ (f i : Nat) (p : Sp), DInv n s0 most p → exAll n most f i p = some q → DInv n s0 most q ∧ DExt p q := by
 intro f
 induction f with
 | zero => intro i p hp h; injection h with h; subst h; exact ⟨hp, DExt.refl _⟩
 | succ f ih =>
  intro i p hp h
  rw [exAll] at h
  split at h
  ·injection h with h; subst h; exact ⟨hp, DExt.refl _⟩
  ·rename_i s hs
   rw [Option.bind_eq_some_iff] at h
   obtain ⟨r, h1, h2⟩ := h
   obtain ⟨a, b⟩ := exRow_inv hv _ 0 p hp hs h1
   obtain ⟨c, d⟩ := ih (i + 1) r a h2
   exact ⟨c, b.trans d⟩
theorem exFrom_inv (hv : dvalidB n = true) (hs : stateB n s0 = true) (hm : 1 ≤ most) (h : exFrom n s0 most = some q) : DInv n s0 most q := by
 refine (exAll_inv hv _ _ _ ⟨?_, rfl, hm, by simp, fun m hm => ?_, by simp, fun k h1 h2 => ?_⟩ h).1
 ·intro x hx; rw [List.mem_singleton] at hx; subst hx; exact hs
 ·simp at hm
 ·simp at h2; omega
def DShut (n : DNet) (p : Sp) (i t : Nat) : Prop := ∀ j u s, (j < i ∨ (j = i ∧ u < t)) → u < n.net.trans.length → p.states[j]? = some s → p.full = true →
 (fireD n s (u : Int)).2 ≠ 5 ∧ ((fireD n s (u : Int)).2 = 0 → ∃ k, (⟨j, k, u⟩ : Mv) ∈ p.moves ∧ p.states[k]? = some (fireD n s (u : Int)).1)
theorem DShut.ext (h : DShut n p i t) (hi : i < p.states.length) (he : DExt p q) : DShut n q i t := by
 intro j u s hj hu hs hf
 have hjl : j < p.states.length := by omega
 obtain ⟨a, b⟩ := h j u s hj hu (pre_back he.st hjl hs) (he.full hf)
 refine ⟨a, fun e => ?_⟩
 obtain ⟨k, k1, k2⟩ := b e
 exact ⟨k, he.mv.subset k1, pre_get he.st k2⟩
theorem DShut.next (h : DShut n p i n.net.trans.length) : DShut n p (i + 1) 0 := by
 intro j u s hj hu hs hf
 exact h j u s (by omega) hu hs hf
end
section
variable {mv : List Mv}
theorem canStep_len (c : List Bool) : (canStep mv c).length = c.length := by unfold canStep; simp
theorem canStep_get (c : List Bool) {i : Nat} (hi : i < c.length) : (canStep mv c).getD i false = (c.getD i false || mv.any fun m => decide (m.src = i) && c.getD m.dst false) := by
 unfold canStep
 rw [List.getD_eq_getElem?_getD, List.getElem?_map, List.getElem?_range hi]; rfl
theorem canIter_len : ∀ (k : Nat) (c : List Bool), (canIter mv k c).length = c.length
 | 0, c => rfl
 | k + 1, c => by rw [canIter, canIter_len k, canStep_len]
theorem count_lt : ∀ (c d : List Bool), c.length = d.length → (∀ i, c.getD i false = true → d.getD i false = true) → c ≠ d → c.count true < d.count true
 | [], [], _, _, h => absurd rfl h
 | [], _ :: _, h, _, _ => by simp at h
 | _ :: _, [], h, _, _ => by simp at h
 | a :: c, b :: d, hl, hle, hne => by
  have hle' : ∀ i, c.getD i false = true → d.getD i false = true := fun i hi => by simpa using hle (i + 1) (by simpa using hi)
  have h0 : a = true → b = true := fun e => by simpa using hle 0 (by simpa using e)
  have hl' : c.length = d.length := by simpa using hl
  by_cases hcd : c = d
  ·subst hcd
   cases a <;> cases b
   ·exact absurd rfl hne
   ·simp
   ·simp at h0
   ·exact absurd rfl hne
  ·have := count_lt c d hl' hle' hcd
   cases a <;> cases b
   ·simpa using this
   ·simp; omega
   ·simp at h0
   ·simpa using this
theorem canIter_fix {c : List Bool} (h : canStep mv c = c) : ∀ k, canIter mv k c = c
 | 0 => rfl
 | k + 1 => by rw [canIter, h, canIter_fix h k]
theorem canStep_ge (c : List Bool) : ∀ i, c.getD i false = true → (canStep mv c).getD i false = true := by
 intro i hi
 have hl : i < c.length := by
  rcases Nat.lt_or_ge i c.length with h' | h'
  ·exact h'
  ·rw [List.getD_eq_getElem?_getD, List.getElem?_eq_none h'] at hi; cases hi
 rw [canStep_get c hl, hi]; rfl
theorem canIter_cnt : ∀ (k : Nat) (c : List Bool), canStep mv (canIter mv k c) = canIter mv k c ∨ c.count true + k ≤ (canIter mv k c).count true
 | 0, c => .inr (by rw [canIter]; omega)
 | k + 1, c => by
  by_cases h : canStep mv c = c
  ·rw [canIter_fix h]; exact .inl h
  ·have h1 := count_lt c (canStep mv c) (canStep_len c).symm (canStep_ge c) (fun e => h e.symm)
   rw [canIter]
   rcases canIter_cnt k (canStep mv c) with h2 | h2
   ·exact .inl h2
   ·exact .inr (by omega)
theorem canIter_done (c : List Bool) : canStep mv (canIter mv c.length c) = canIter mv c.length c := by
 rcases canIter_cnt (mv := mv) c.length c with h | h
 ·exact h
 ·have hle : (canIter mv c.length c).count true ≤ c.length := by
   have := List.count_le_length (a := true) (l := canIter mv c.length c)
   rwa [canIter_len] at this
  have h0 : c.count true = 0 := by omega
  have hc : c = List.replicate c.length false := by
   rw [List.eq_replicate_iff]
   refine ⟨rfl, fun b hb => ?_⟩
   cases b
   ·rfl
   ·exact absurd hb (List.count_eq_zero.1 h0)
  have hf : ∀ i, c.getD i false = false := fun i => by
   rw [hc, List.getD_eq_getElem?_getD, List.getElem?_replicate]
   split <;> rfl
  have hs : canStep mv c = c := by
   refine List.ext_getElem? fun i => ?_
   rcases Nat.lt_or_ge i c.length with hi | hi
   ·have h1 := canStep_get (mv := mv) c hi
    have h2 : (mv.any fun m => decide (m.src = i) && c.getD m.dst false) = false := by
     rw [List.any_eq_false]
     intro m _
     rw [hf]; simp
    rw [h2, hf] at h1
    have hi' : i < (canStep mv c).length := by rw [canStep_len]; exact hi
    have h3 := hf i
    rw [List.getD_eq_getElem?_getD, List.getElem?_eq_getElem hi'] at h1
    rw [List.getD_eq_getElem?_getD, List.getElem?_eq_getElem hi] at h3
    rw [List.getElem?_eq_getElem hi, List.getElem?_eq_getElem hi']
    simp only [Option.getD_some, Bool.or_false] at h1 h3
    rw [h1, h3]
   ·rw [List.getElem?_eq_none hi, List.getElem?_eq_none (by rw [canStep_len]; exact hi)]
  rw [canIter_fix hs]
  exact hs
inductive CanR (mv : List Mv) (fin : Nat → Prop) : Nat → Prop where
 | here {i : Nat} (h : fin i) : CanR mv fin i
 | go {m : Mv} (hm : m ∈ mv) (h : CanR mv fin m.dst) : CanR mv fin m.src
theorem canIter_sound {fin : Nat → Prop} : ∀ (k : Nat) (c : List Bool), (∀ i, c.getD i false = true → CanR mv fin i) → ∀ i, (canIter mv k c).getD i false = true → CanR mv fin i
 | 0, c, h, i, hi => h i hi
 | k + 1, c, h, i, hi => by
  rw [canIter] at hi
  refine canIter_sound k (canStep mv c) (fun j hj => ?_) i hi
  have hl : j < c.length := by
   rcases Nat.lt_or_ge j c.length with h' | h'
   ·exact h'
   ·rw [List.getD_eq_getElem?_getD, List.getElem?_eq_none (by rw [canStep_len]; exact h')] at hj; cases hj
  rw [canStep_get c hl, Bool.or_eq_true] at hj
  rcases hj with hj | hj
  ·exact h j hj
  ·rw [List.any_eq_true] at hj
   obtain ⟨m, hm, hj⟩ := hj
   simp only [Bool.and_eq_true, decide_eq_true_eq] at hj
   obtain ⟨rfl, hj⟩ := hj
   exact .go hm (h _ hj)
theorem canIter_ge : ∀ (k : Nat) (c : List Bool) (i : Nat), c.getD i false = true → (canIter mv k c).getD i false = true
 | 0, _, _, h => h
 | k + 1, c, i, h => canIter_ge k (canStep mv c) i (canStep_ge c i h)
theorem can_iff {fin : Nat → Prop} {c : List Bool} (hc : ∀ i, i < c.length → (c.getD i false = true ↔ fin i)) (hf : ∀ i, fin i → i < c.length) (hm : ∀ m ∈ mv, m.src < c.length) (i : Nat) :
  (canIter mv c.length c).getD i false = true ↔ CanR mv fin i := by
 constructor
 ·refine canIter_sound _ _ (fun j hj => ?_) i
  have hl : j < c.length := by
   rcases Nat.lt_or_ge j c.length with h' | h'
   ·exact h'
   ·rw [List.getD_eq_getElem?_getD, List.getElem?_eq_none h'] at hj; cases hj
  exact .here ((hc j hl).1 hj)
 ·intro h
  induction h with
  | here h => exact canIter_ge _ _ _ ((hc _ (hf _ h)).2 h)
  | @go m hm' _ ih =>
   have hd := canIter_done (mv := mv) c
   have hl : m.src < (canIter mv c.length c).length := by rw [canIter_len]; exact hm m hm'
   have := canStep_get (mv := mv) (canIter mv c.length c) hl
   rw [hd] at this
   rw [this, Bool.or_eq_true]
   refine .inr ?_
   rw [List.any_eq_true]
   exact ⟨m, hm', by rw [ih]; simp⟩
end
def CanF (n : DNet) (p : Sp) : Nat → Prop := CanR p.moves fun j => ∃ s, p.states[j]? = some s ∧ finalM n s.marks = true
theorem good_iff {n : DNet} {p : Sp} (hm : ∀ m ∈ p.moves, m.src < p.states.length) (i : Nat) : (goodL n p).getD i false = true ↔ CanF n p i := by
 have hl : (p.states.map fun s => finalM n s.marks).length = p.states.length := by simp
 have := can_iff (mv := p.moves) (c := p.states.map fun s => finalM n s.marks) (fin := fun j => ∃ s, p.states[j]? = some s ∧ finalM n s.marks = true) (fun j hj => by
  rw [hl] at hj
  rw [List.getD_eq_getElem?_getD, List.getElem?_map, List.getElem?_eq_getElem hj]
  simp) (fun j ⟨s, h, _⟩ => by rw [hl]; exact lt_of_get h) (fun m h => by rw [hl]; exact hm m h) i
 rw [hl] at this
 exact this
theorem goodL_len (n : DNet) (p : Sp) : (goodL n p).length = p.states.length := by unfold goodL; rw [canIter_len]; simp
def Off (X : Nat → Prop) (w : World) (v : Value) (b : Nat) : Prop := b < w.heap.size ∧ v.ownBlock ≠ some b ∧ ¬ X b
def OwnR {α : Type} (size : Nat) (R : ElemR α) (X : Nat → Prop) (w : World) (base t : Nat) (v : Value) (xs : List α) : Prop :=
 ∃ cs, w.ownsRow base t size v xs.length cs ∧ ∀ (i : Nat) (x : α), xs[i]? = some x → ∃ es : List Value, es.length = size ∧ (∀ j u, es[j]? = some u → cs[i * size + j]? = some u) ∧ R (Off X w v) w x es
section
variable {α : Type} {size : Nat} {R : ElemR α} {X : Nat → Prop} {w w' : World} {base t : Nat} {v v' : Value} {xs : List α}
theorem OwnR.nil : OwnR size R X w base t (.slice none 0 0) ([] : List α) := ⟨[], World.ownsRow_nil _ _ _ _, fun i x hx => by simp at hx⟩
theorem OwnR.lt (h : OwnR size R X w base t v xs) : ∀ g, v.ownBlock = some g → base ≤ g ∧ g < w.heap.size := by
 obtain ⟨cs, h, _⟩ := h
 exact h.lt
theorem OwnR.sl (h : OwnR size R X w base t v xs) (hR : ElemR.Kept R) : Sl size R (Lt w.heap.size) w v xs := by
 obtain ⟨cs, h, he⟩ := h
 refine Sl.of_own h rfl (own_lt h) fun i x hx => ?_
 obtain ⟨es, h1, h2, h3⟩ := he i x hx
 exact ⟨es, h1, h2, hR _ _ _ _ _ _ (fun b hb => hb.1) (Same.refl _ _) h3⟩
theorem OwnR.open_ (h : OwnR size R X w base t v xs) : ∃ A c, v = .slice A xs.length c := by
 obtain ⟨cs, h, _⟩ := h
 rcases h.2 with ⟨rfl, h0⟩ | ⟨g, cap, cur, rfl, _⟩
 ·exact ⟨none, 0, by rw [h0]⟩
 ·exact ⟨_, _, rfl⟩
theorem OwnR.grown {row : Option Nat} (h : OwnR size R X w base t v xs) (hR : ElemR.Kept R) (hb : w.grownBy w' row) (hr : ∀ g, row = some g → X g ∧ v.ownBlock ≠ some g) : OwnR size R X w' base t v xs := by
 obtain ⟨cs, h, he⟩ := h
 refine ⟨cs, h.kept hb ?_, fun i x hx => ?_⟩
 ·cases e : v.ownBlock with
  | none => exact .inl rfl
  | some g => exact .inr (fun h' => (hr g h'.symm).2 e)
 ·obtain ⟨es, h1, h2, h3⟩ := he i x hx
  refine ⟨es, h1, h2, hR _ _ _ _ _ _ (fun b hb' => ⟨Nat.lt_of_lt_of_le hb'.1 hb.size, hb'.2⟩) (fun b hb' => hb.block b hb'.1 ?_) h3⟩
  exact fun e => hb'.2.2 (hr b e.symm).1
theorem OwnR.now (h : OwnR size R X w base t v xs) (hR : ElemR.Kept R) (hb : Below w.heap.size w w') : OwnR size R X w' base t v xs :=
 h.grown hR (grown_of_below hb none) (fun _ e => by cases e)
theorem OwnR.drewN (h : OwnR size R X w base t v xs) (hR : ElemR.Kept R) (q : Nat) : OwnR size R X (w.drewN q) base t v xs := h.now hR (bdrawn (Below.refl _ _) q)
theorem OwnR.far (h : OwnR size R X w base t v xs) (hR : ElemR.Kept R) {p : Addr} (hX : X p.block) (hv : v.ownBlock ≠ some p.block) (u : Value) : OwnR size R X (w.setCell p u) base t v xs :=
 h.grown hR (row := some p.block) ⟨rfl, rfl, rfl, by simp, fun i _ hne => Below.heap_setCell w p u i (fun e => hne (by rw [e]))⟩ (fun g e => by injection e with e; subst e; exact ⟨hX, hv⟩)
theorem OwnR.pushed {x : α} {es cs : List Value} (h : w.ownsRow base t size v xs.length cs) (he : ∀ (i : Nat) (x : α), xs[i]? = some x → ∃ es : List Value, es.length = size ∧ (∀ j u, es[j]? = some u → cs[i * size + j]? = some u) ∧ R (Off X w v) w x es)
    (hR : ElemR.Kept R) (hl : es.length = size) (hx : R (Off X w v) w x es)
    (ho : w'.ownsRow base t size v' (xs.length + 1) (cs ++ es)) (hg : w.grownBy w' v.ownBlock) (hat : v'.ownBlock = v.ownBlock ∨ v'.ownBlock = some (w.heap.size + 1)) : OwnR size R X w' base t v' (xs ++ [x]) := by
  have keep : ∀ y cs, R (Off X w v) w y cs → R (Off X w' v') w' y cs := fun y cs hy =>
    hR _ _ _ _ _ _ (fun b hb => ⟨Nat.lt_of_lt_of_le hb.1 hg.size, (by rcases hat with e | e
                                                                      · rw [e]; exact hb.2.1
                                                                      · rw [e]; intro e'; injection e' with e'; have := hb.1; omega), hb.2.2⟩)
      (fun b hb => hg.block b hb.1 (fun e => hb.2.1 e.symm)) hy
  refine ⟨cs ++ es, by simpa using ho, fun i y hy => ?_⟩
  rcases Nat.lt_or_ge i xs.length with hi | hi
  · rw [List.getElem?_append_left hi] at hy
    obtain ⟨es', h1, h2, h3⟩ := he i y hy
    refine ⟨es', h1, fun j u hu => ?_, keep _ _ h3⟩
    have := h2 j u hu
    rw [List.getElem?_append_left]
    · exact this
    · rcases Nat.lt_or_ge (i * size + j) cs.length with h' | h'
      · exact h'
      · rw [List.getElem?_eq_none h'] at this; cases this
  · rw [List.getElem?_append_right hi] at hy
    have hi0 : i - xs.length = 0 := by
      rcases Nat.eq_zero_or_pos (i - xs.length) with h' | h'
      · exact h'
      · rw [List.getElem?_eq_none (by simpa using Nat.succ_le_of_lt h')] at hy; cases hy
    rw [hi0] at hy
    injection hy with hy
    subst hy
    obtain rfl : i = xs.length := by omega
    refine ⟨es, hl, fun j u hu => ?_, keep _ _ hx⟩
    have hc : cs.length = xs.length * size := h.1
    rw [List.getElem?_append_right (by omega), hc, Nat.add_sub_cancel_left]
    exact hu
end
section
variable {P : Program} {t e size base : Nat} {α : Type} {R : ElemR α} {X : Nat → Prop}
theorem wp_pushR {o : Oper} {a : Act} {K : Act → World → Prop} {Q : Exit → Act → World → Prop} (hI : AppInfo P t e size) (hR : ElemR.Kept R) (s x : Operand)
  (ho : o.op = .call { callee := .builtin .append, args := #[s, x], argTypes := #[t, t] }) (w0 : World) (es : List Value) (hes : es.length = size) (h1 : ∀ u ∈ es, u.oneCell' = true)
  (v : Value) (xs : List α) (y : α) (hs : a.eval s = v) (hown : OwnR size R X w0 base e v xs) (hy : R (Off X w0 v) w0 y es) (hx : a.eval x = .slice (some ⟨w0.heap.size, 0, none⟩) 1 1) (hn : xs.length < 10000000) (hbase : base ≤ w0.heap.size)
  (h : ∀ v' w', OwnR size R X w' base e v' (xs ++ [y]) → w0.grownBy w' v.ownBlock → (v'.ownBlock = v.ownBlock ∨ v'.ownBlock = some (w0.heap.size + 1)) → K (a.put o.dst v') w') : o.wp P a (w0.alloc (.cells es.toArray e)) K Q := by
 obtain ⟨cs, h2, h3⟩ := hown
 exact wp_push hI s x ho w0 es hes h1 v xs.length cs hs h2 hx hn hbase fun v' w' a1 a2 a3 => h v' w' (OwnR.pushed h2 h3 hR hes hy a1 a2 a3) a2 a3
theorem wpList_pushR {ops : Array Oper} {rest : List Oper} {o : Oper} {a : Act} {Q : Exit → Act → World → Prop} (hI : AppInfo P t e size) (hR : ElemR.Kept R) (hgd : o.guard = none) (s x : Operand)
  (ho : o.op = .call { callee := .builtin .append, args := #[s, x], argTypes := #[t, t] }) (w0 : World) (es : List Value) (hes : es.length = size) (h1 : ∀ u ∈ es, u.oneCell' = true)
  (v : Value) (xs : List α) (y : α) (hs : a.eval s = v) (hown : OwnR size R X w0 base e v xs) (hy : R (Off X w0 v) w0 y es) (hx : a.eval x = .slice (some ⟨w0.heap.size, 0, none⟩) 1 1) (hn : xs.length < 10000000) (hbase : base ≤ w0.heap.size)
  (h : ∀ v' w', OwnR size R X w' base e v' (xs ++ [y]) → w0.grownBy w' v.ownBlock → (v'.ownBlock = v.ownBlock ∨ v'.ownBlock = some (w0.heap.size + 1)) → wpList P ops Q rest (a.put o.dst v') w') : wpList P ops Q (o :: rest) a (w0.alloc (.cells es.toArray e)) :=
 wpList_plain hgd fun _ hK => wp_pushR hI hR s x ho w0 es hes h1 v xs y hs hown hy hx hn hbase fun v' w' h2 h3 h4 => hK _ _ (h v' w' h2 h3 h4)
end
def arcOf (back : Bool) (t : Tr) : List Int × List Int := if back then (t.outs, t.ins) else (t.ins, t.outs)
def arcs (back : Bool) (n : Net) : List (List Int × List Int) := n.trans.map (arcOf back)
def Reach (ts : List (List Int × List Int)) (a p : Int) : Prop := ∀ S : Int → Prop, S a → (∀ t ∈ ts, ∀ q ∈ t.1, S q → ∀ r ∈ t.2, S r) → S p
theorem Reach.start (ts : List (List Int × List Int)) (a : Int) : Reach ts a a := fun _ h _ => h
theorem Reach.step {ts : List (List Int × List Int)} {a q r : Int} {t : List Int × List Int} (ht : t ∈ ts) (hq : q ∈ t.1) (h : Reach ts a q) (hr : r ∈ t.2) : Reach ts a r :=
 fun S h1 h2 => h2 t ht q hq (h S h1 h2) r hr
def setAll (pl : List Bool) (ps : List Int) : List Bool := ps.foldl (fun l p => l.set p.toNat true) pl
theorem setAll_length (ps : List Int) : ∀ pl, (setAll pl ps).length = pl.length := by
 unfold setAll
 induction ps with
 | nil => intro pl; rfl
 | cons p ps ih => intro pl; rw [List.foldl_cons, ih, List.length_set]
theorem setAll_get (ps : List Int) : ∀ (pl : List Bool) (k : Nat), (∀ p ∈ ps, 0 ≤ p ∧ p.toNat < pl.length) → ((setAll pl ps).getD k false = true ↔ pl.getD k false = true ∨ (k : Int) ∈ ps) := by
 induction ps with
 | nil => intro pl k _; simp [setAll]
 | cons p ps ih =>
  intro pl k h
  have e : setAll pl (p :: ps) = setAll (pl.set p.toNat true) ps := rfl
  rw [e, ih (pl.set p.toNat true) k (fun q hq => by rw [List.length_set]; exact h q (by simp [hq]))]
  have hp := h p (by simp)
  simp only [List.getD_eq_getElem?_getD, List.getElem?_set, List.mem_cons]
  by_cases hk : p.toNat = k
  ·subst hk
   have : ((p.toNat : Nat) : Int) = p := by omega
   simp [hp.2, this]
  ·have : ¬ (k : Int) = p := by omega
   simp [hk, this]
structure Inv (ts : List (List Int × List Int)) (P : Nat) (a : Int) (pl tr : List Bool) : Prop where
 lp : pl.length = P
 lt : tr.length = ts.length
 has : pl.getD a.toNat false = true
 ok : ∀ k, pl.getD k false = true → Reach ts a k
 done : ∀ i t, ts[i]? = some t → tr.getD i false = true → (∃ q ∈ t.1, Reach ts a q) ∧ ∀ r ∈ t.2, pl.getD r.toNat false = true
def anyIn (pl : List Bool) (ps : List Int) : Bool := ps.any fun p => pl.getD p.toNat false
def InPl (P : Nat) (ts : List (List Int × List Int)) : Prop := ∀ t ∈ ts, (∀ q ∈ t.1, 0 ≤ q ∧ q.toNat < P) ∧ (∀ r ∈ t.2, 0 ≤ r ∧ r.toNat < P)
theorem getD_set_bool (l : List Bool) (i j : Nat) : (l.set i true).getD j false = true ↔ (i = j ∧ i < l.length) ∨ l.getD j false = true := by
 simp only [List.getD_eq_getElem?_getD, List.getElem?_set]
 by_cases h : i = j
 ·subst h
  by_cases hl : i < l.length
  ·simp [hl]
  ·simp [hl]
 ·simp [h]
theorem Inv.start {ts : List (List Int × List Int)} {P : Nat} {a : Int} (h0 : 0 ≤ a) (h1 : a.toNat < P) : Inv ts P a ((List.replicate P false).set a.toNat true) (List.replicate ts.length false) := by
 refine ⟨by simp, by simp, ?_, ?_, ?_⟩
 ·rw [getD_set_bool]; left; simp [h1]
 ·intro k hk
  rw [getD_set_bool] at hk
  rcases hk with ⟨h, _⟩ | h
  ·have : (k : Int) = a := by omega
   rw [this]; exact Reach.start ts a
  ·simp only [List.getD_eq_getElem?_getD, List.getElem?_replicate] at h
   split at h <;> simp at h
 ·intro i t _ h
  simp only [List.getD_eq_getElem?_getD, List.getElem?_replicate] at h
  split at h <;> simp at h
theorem Inv.step {ts : List (List Int × List Int)} {P : Nat} {a : Int} {pl tr : List Bool} (h : Inv ts P a pl tr) (hin : InPl P ts) {i : Nat} {t : List Int × List Int} (ht : ts[i]? = some t) (hany : anyIn pl t.1 = true) :
  Inv ts P a (setAll pl t.2) (tr.set i true) := by
 obtain ⟨h1, h2⟩ := hin t (List.mem_of_getElem? ht)
 have hg := fun k => setAll_get t.2 pl k (fun p hp => by rw [h.lp]; exact h2 p hp)
 have hq : ∃ q ∈ t.1, Reach ts a q := by
  unfold anyIn at hany
  rw [List.any_eq_true] at hany
  obtain ⟨q, hq, hq2⟩ := hany
  refine ⟨q, hq, ?_⟩
  have := h.ok q.toNat hq2
  rwa [show ((q.toNat : Nat) : Int) = q from by have := h1 q hq; omega] at this
 refine ⟨by rw [setAll_length]; exact h.lp, by rw [List.length_set]; exact h.lt, ?_, ?_, ?_⟩
 ·rw [hg]; exact .inl h.has
 ·intro k hk
  rw [hg] at hk
  rcases hk with hk | hk
  ·exact h.ok k hk
  ·obtain ⟨q, hq, hr⟩ := hq
   exact Reach.step (List.mem_of_getElem? ht) hq hr hk
 ·intro j u hu hj
  rw [getD_set_bool] at hj
  rcases hj with ⟨rfl, _⟩ | hj
  ·rw [ht] at hu
   injection hu with hu
   subst hu
   refine ⟨hq, fun r hr => ?_⟩
   rw [hg]; right
   rwa [show ((r.toNat : Nat) : Int) = r from by have := h2 r hr; omega]
  ·obtain ⟨a1, a2⟩ := h.done j u hu hj
   exact ⟨a1, fun r hr => by rw [hg]; exact .inl (a2 r hr)⟩
def Found (ts : List (List Int × List Int)) (P : Nat) (a : Int) (pl tr : List Bool) : Prop :=
 pl.length = P ∧ tr.length = ts.length ∧ (∀ k, pl.getD k false = true ↔ Reach ts a k) ∧ (∀ i t, ts[i]? = some t → (tr.getD i false = true ↔ ∃ q ∈ t.1, Reach ts a q))
def falses (tr : List Bool) : Nat := (tr.filter (fun b => !b)).length
theorem falses_set (tr : List Bool) : ∀ i, i < tr.length → tr.getD i false = false → falses (tr.set i true) + 1 = falses tr := by
 unfold falses
 induction tr with
 | nil => intro i hi; simp at hi
 | cons b tr ih =>
  intro i hi h
  cases i with
  | zero => simp at h; subst h; simp
  | succ i =>
   have := ih i (by simpa using hi) (by simpa using h)
   cases b
   ·simp only [List.set_cons_succ, List.filter_cons, Bool.not_false, if_true, List.length_cons]; omega
   ·simp only [List.set_cons_succ, List.filter_cons, Bool.not_true, Bool.false_eq_true, if_false]; omega
theorem drewN_add' (w : World) (a b : Nat) : (w.drewN a).drewN b = w.drewN (a + b) := by simp [World.drewN, Nat.add_assoc]
theorem eq_of_gets {α : Type} {xs ys : List α} (hl : xs.length = ys.length) (h : ∀ j, j < xs.length → xs[j]? = ys[j]?) : xs = ys := by
 apply List.ext_getElem? 
 intro j
 rcases Nat.lt_or_ge j xs.length with hj | hj
 ·exact h j hj
 ·rw [List.getElem?_eq_none hj, List.getElem?_eq_none (by omega)]
set_option maxHeartbeats 1000000 in
theorem sameM_ref (u v : Value) (xs ys : List Int) (w : World) (hu : SlI (Lt w.heap.size) w u xs) (hv : SlI (Lt w.heap.size) w v ys) :
  Calls Tryz.prog 33 #[u, v] w fun e w' => e = .returned (.bool (xs == ys)) ∧ ∃ q, w' = w.drewN q := by
 obtain ⟨A, c, rfl, h1, h2, hu⟩ := hu.open_
 obtain ⟨A', c', rfl, h1', h2', hv⟩ := hv.open_
 by_cases hl : xs.length = ys.length
 ·have hl' : ((xs.length : Int) != (ys.length : Int)) = false := by simp [hl]
  have HL := Lib.hid hl
  have hle1 : xs.length ≤ ys.length := by omega
  clear hl
  go_enter Tryz.func33, Tryz.ntmps33
  go_wp2_with fail
  go_loopw [5] (fun i wr => ∃ k q : Nat, k ≤ xs.length ∧ i = .int .i64 k ∧ (∀ j, j < k → xs[j]? = ys[j]?) ∧ wr = w.drewN q) (fun i _ => xs.length - (intOf i).toNat)
  case atStart => exact ⟨0, 0, Nat.zero_le _, rfl, fun j h => absurd h (by omega), rfl⟩
  case round =>
   obtain ⟨k, q, hk, rfl, hp, rfl⟩ := hrel
   have HP := Lib.hid hp
   clear hp
   have hu' : SlI (Lt (w.drewN q).heap.size) (w.drewN q) (.slice A xs.length c) xs := hu
   have hv' : SlI (Lt (w.drewN q).heap.size) (w.drewN q) (.slice A' ys.length c') ys := hv
   by_cases hlt : k < xs.length
   ·obtain ⟨b, o, x, rfl, hD, hx, hf, hcell⟩ := hu'.at_ hlt
    obtain ⟨b', o', y, rfl, hD', hy, hf', hcell'⟩ := hv'.at_ (k := k) (by omega)
    have i1 : (0 : Int) ≤ k := by omega
    have i2 : (k : Int) < (xs.length : Int) := by omega
    have i3 : (k : Int) < (ys.length : Int) := by omega
    have HX := Lib.hid hx
    have HY := Lib.hid hy
    generalize hwd : w.drewN q = wd at *
    have HW := Lib.hid hwd
    clear hwd hu' hv' hx hy hD hD'
    by_cases hxy : x = y
    ·have t1 : (x != y) = false := by simpa using hxy
     have HXY := Lib.hid hxy
     clear hxy
     go_wp2
     go_quiet (fail)
     go_wp2
     go_roundw
     case rel => exact ⟨k + 1, _, by omega, by go_num, fun j hj => by
      by_cases e : j = k
      ·subst e; rw [HX.out, HY.out, HXY.out]
      ·exact HP.out j (by omega), by rw [← HW.out]; exact drewN_add' _ _ _⟩
     case measure => simp [intOf]; omega
    ·have t1 : (x != y) = true := by simpa using hxy
     have HE : Hid ((xs == ys) = false) := by
      show (xs == ys) = false
      rw [beq_eq_false_iff_ne]
      intro e
      have hX := HX.out
      rw [e, HY.out] at hX
      injection hX with hX
      exact hxy hX.symm
     clear hxy
     go_wp2
     go_quiet (fail)
     go_wp2
     go_ret
     exact ⟨ret_bool HE.out.symm, _, by rw [← HW.out]; exact drewN_add' _ _ _⟩
   ·have HE : Hid ((xs == ys) = true) := by
     show (xs == ys) = true
     rw [beq_iff_eq]
     exact eq_of_gets HL.out (fun j hj => HP.out j (by omega))
    go_wp2
    go_ret
    exact ⟨ret_bool HE.out.symm, q, rfl⟩
 ·have hl' : ((xs.length : Int) != (ys.length : Int)) = true := by simp; omega
  have HE : Hid ((xs == ys) = false) := by
   show (xs == ys) = false
   rw [beq_eq_false_iff_ne]
   exact fun e => hl (by rw [e])
  clear hl
  go_enter Tryz.func33, Tryz.ntmps33
  go_wp2_with fail
  go_ret
  exact ⟨ret_bool HE.out.symm, 0, rfl⟩
def sameSt (a b : St) : Bool := (a.marks == b.marks) && decide (a.vals = b.vals)
theorem sameSt_self (a : St) : sameSt a a = true := by unfold sameSt; simp
theorem sameSt_iff {a b : St} : sameSt a b = true ↔ a = b := by
 obtain ⟨m, v⟩ := a
 obtain ⟨m', v'⟩ := b
 unfold sameSt
 simp
set_option maxHeartbeats 1000000 in
theorem sameSt_ref (a b : St) (u v : Value) (w : World) (hu : IsSt (Lt w.heap.size) w u a) (hv : IsSt (Lt w.heap.size) w v b) :
  Calls Tryz.prog 16 #[u, v] w fun e w' => e = .returned (.bool (sameSt a b)) ∧ Below w.heap.size w w' := by
 obtain ⟨mv, vv, rfl, s1, s2⟩ := hu
 obtain ⟨mv', vv', rfl, s3, s4⟩ := hv
 have HE : Hid (sameSt a b = ((a.marks == b.marks) && decide (a.vals = b.vals))) := rfl
 have hb0 := bone w (.cells #[mv, vv] 33)
 have hb := bbox hb0 (.cells #[mv', vv'] 33)
 have HM := Lib.hid (sameM_ref _ _ _ _ _ (s1.now hb) (s3.now hb))
 have HS := Lib.hid (fun q => same_ref _ _ _ _ _ ((s2.now hb).now (bdrawn (Below.refl _ _) q)) ((s4.now hb).now (bdrawn (Below.refl _ _) q)))
 clear s1 s2 s3 s4
 generalize sameSt a b = q0 at *
 generalize (a.marks == b.marks) = q1 at *
 generalize decide (a.vals = b.vals) = q2 at *
 go_enter Tryz.func16, Tryz.ntmps16
 go_wp2_with fail
 refine HM.out.mono ?_
 rintro e w2 ⟨rfl, q, rfl⟩
 have HB := Lib.hid (bdrawn hb q)
 cases q1
 ·go_wp2_with fail
  go_ret
  exact ⟨ret_bool (by rw [HE.out]; rfl), HB.out⟩
 ·go_wp2_with fail
  refine (HS.out q).mono ?_
  rintro e w3 ⟨rfl, hb3⟩
  go_wp2_with fail
  go_ret
  exact ⟨ret_bool (by rw [HE.out]; rfl), bthen HB.out hb3⟩
end Go.Proofs.YtlmenhjlgmejkaaGreatDoor
namespace Go.Proofs.YtlmenhjlgmejkaaGreatDoor
theorem drun_snoc {d : DNet} {t : Int} : ∀ (l : List Int) (s now : St) (k : Nat), drunFrom d s l k = (now, k + l.length, 0) → (fireD d now t).2 = 0 → drunFrom d s (l ++ [t]) k = ((fireD d now t).1, k + (l ++ [t]).length, 0) := by
 intro l
 induction l with
 | nil =>
  intro s now k h hf
  rw [drunFrom] at h
  injection h with h _
  subst h
  rw [List.nil_append, drunFrom, if_neg (by simpa using hf), drunFrom]
  simp
 | cons a l ih =>
  intro s now k h hf
  rw [drunFrom] at h
  by_cases ha : (fireD d s a).2 ≠ 0
  ·rw [if_pos ha] at h
   injection h with _ h
   injection h with _ h
   exact absurd h ha
  ·rw [if_neg ha] at h
   rw [List.cons_append, drunFrom, if_neg ha, ih _ now (k + 1) (by rw [h]; simp; omega) hf]
   simp
   omega
theorem prun_snoc {n : Net} {t : Int} : ∀ (l m now : List Int) (k : Nat), runFrom n m l k = (now, k + l.length, 0) → (fireB n now t).2 = 0 → runFrom n m (l ++ [t]) k = ((fireB n now t).1, k + (l ++ [t]).length, 0) := by
 intro l
 induction l with
 | nil =>
  intro s now k h hf
  rw [runFrom] at h
  injection h with h _
  subst h
  rw [List.nil_append, runFrom, if_pos hf, runFrom]
  simp
 | cons a l ih =>
  intro s now k h hf
  rw [runFrom] at h
  by_cases ha : (fireB n s a).2 = 0
  ·rw [if_pos ha] at h
   rw [List.cons_append, runFrom, if_pos ha, ih _ now (k + 1) (by rw [h]; simp; omega) hf]
   simp
   omega
  ·rw [if_neg ha] at h
   injection h with _ h
   injection h with _ h
   exact absurd h ha
structure Ins (d : DNet) (s now : St) (l : List Int) : Prop where
 valid : dvalidB d = true
 start : stateB d s = true
 st : stateB d now = true
 run : drunFrom d s l 0 = (now, 0 + l.length, 0)
 prun : runFrom d.net s.marks l 0 = (now.marks, 0 + l.length, 0)
variable {d : DNet} {s now : St} {l : List Int} {t : Int}
theorem Ins.marks (_ : Ins d s now l) (hf : (fireD d now t).2 = 0) : (fireB d.net now.marks t).2 = 0 ∧ (fireD d now t).1.marks = (fireB d.net now.marks t).1 := by
 obtain ⟨_, _, f3, _, vs, _, e⟩ := fire_parts hf
 exact ⟨f3, by rw [e]⟩
theorem Ins.step (h : Ins d s now l) (hf : (fireD d now t).2 = 0) : Ins d s (fireD d now t).1 (l ++ [t]) := by
 obtain ⟨f1, f2⟩ := h.marks hf
 exact ⟨h.valid, h.start, fire_state h.valid h.st hf, drun_snoc _ _ _ _ h.run hf, by rw [f2]; exact prun_snoc _ _ _ _ h.prun f1⟩
theorem Ins.inside (h : Ins d s now l) : inAllE d.vars now.vals = (true, 0) := by
 obtain ⟨_, _, s3⟩ := state_parts h.st
 unfold asgB at s3
 rw [Bool.and_eq_true, decide_eq_true_eq] at s3
 exact Prod.ext s3.2 s3.1
end Go.Proofs.YtlmenhjlgmejkaaGreatDoor
namespace Go.Proofs.YtlmenhjlgmejkaaGreatDoor
open Go.RowKit
inductive Rch (n : DNet) : St → St → Prop where
 | refl (s : St) : Rch n s s
 | step {s x : St} {t : Nat} (ht : t < n.net.trans.length) (h : (fireD n s (t : Int)).2 = 0) (hx : Rch n (fireD n s (t : Int)).1 x) : Rch n s x
def ShutS (n : DNet) (P : List St) : Prop := ∀ s ∈ P, ∀ t : Nat, t < n.net.trans.length → (fireD n s (t : Int)).2 ≠ 5 ∧ ((fireD n s (t : Int)).2 = 0 → (fireD n s (t : Int)).1 ∈ P)
section
variable {n : DNet} {s0 s x : St} {most : Nat} {p q : Sp}
structure InL (P : List St) (q : Sp) (b : Nat) : Prop where
 sub : ∀ s ∈ q.states, s ∈ P
 full : q.full = true
 mvs : q.moves.length ≤ b
 nd : q.states.Nodup
theorem InL.more {P : List St} {b c : Nat} (h : InL P q b) (hc : b ≤ c) : InL P q c := ⟨h.sub, h.full, Nat.le_trans h.mvs hc, h.nd⟩
end
structure Ord (mv : List Mv) (N : Nat) : Prop where
 srt : ∀ (a b : Nat) (m m' : Mv), a ≤ b → mv[a]? = some m → mv[b]? = some m' → m.src ≤ m'.src
 dst : ∀ (b : Nat) (m : Mv), mv[b]? = some m → ∀ j, 0 < j → j < m.dst → ∃ a m', a < b ∧ mv[a]? = some m' ∧ m'.dst = j
 src : ∀ (b : Nat) (m : Mv), mv[b]? = some m → 0 < m.src → ∃ a m', a < b ∧ mv[a]? = some m' ∧ m'.dst = m.src
 all : ∀ j, 0 < j → j < N → ∃ (a : Nat) (m : Mv), mv[a]? = some m ∧ m.dst = j
 inn : ∀ m ∈ mv, m.src < N ∧ m.dst < N
structure OrdI (p : Sp) (i : Nat) : Prop where
 ord : Ord p.moves p.states.length
 top : ∀ m ∈ p.moves, m.src ≤ i
theorem get_snoc {α : Type} {l : List α} {x y : α} {a : Nat} (h : (l ++ [x])[a]? = some y) : l[a]? = some y ∨ (a = l.length ∧ y = x) := by
 rcases Nat.lt_or_ge a l.length with h1 | h1
 ·rw [List.getElem?_append_left h1] at h; exact .inl h
 ·rw [List.getElem?_append_right h1] at h
  cases hz : a - l.length with
  | zero => rw [hz] at h; injection h with h; exact .inr ⟨by omega, h.symm⟩
  | succ z => rw [hz] at h; simp at h
theorem get_pre {α : Type} {l : List α} {x y : α} {a : Nat} (h : l[a]? = some y) : (l ++ [x])[a]? = some y := by
 rw [List.getElem?_append_left (lt_of_get h)]; exact h
theorem ord_push {mv : List Mv} {N N' i k t : Nat} (ho : Ord mv N) (ht : ∀ m ∈ mv, m.src ≤ i) (hi : i < N) (hk : k < N') (hkN : k ≤ N) (hN : N' = N ∨ (N' = N + 1 ∧ k = N)) : Ord (mv ++ [⟨i, k, t⟩]) N' := by
 refine ⟨fun a b m m' hab h1 h2 => ?_, fun b m h1 j hj hjd => ?_, fun b m h1 h0 => ?_, fun j h0 hj => ?_, fun m hm => ?_⟩
 ·rcases get_snoc h1 with h1 | ⟨e1, rfl⟩
  ·rcases get_snoc h2 with h2 | ⟨e2, rfl⟩
   ·exact ho.srt a b m m' hab h1 h2
   ·exact ht m (List.mem_of_getElem? h1)
  ·rcases get_snoc h2 with h2 | ⟨e2, rfl⟩
   ·have := lt_of_get h2; omega
   ·exact Nat.le_refl _
 ·rcases get_snoc h1 with h1 | ⟨e1, rfl⟩
  ·obtain ⟨a, m', h2, h3, h4⟩ := ho.dst b m h1 j hj hjd
   exact ⟨a, m', h2, get_pre h3, h4⟩
  ·obtain ⟨a, m', h3, h4⟩ := ho.all j hj (by dsimp only at hjd; omega)
   exact ⟨a, m', by rw [e1]; exact lt_of_get h3, get_pre h3, h4⟩
 ·rcases get_snoc h1 with h1 | ⟨e1, rfl⟩
  ·obtain ⟨a, m', h2, h3, h4⟩ := ho.src b m h1 h0
   exact ⟨a, m', h2, get_pre h3, h4⟩
  ·obtain ⟨a, m', h3, h4⟩ := ho.all i h0 hi
   exact ⟨a, m', by rw [e1]; exact lt_of_get h3, get_pre h3, h4⟩
 ·by_cases hjN : j < N
  ·obtain ⟨a, m, h3, h4⟩ := ho.all j h0 hjN
   exact ⟨a, m, get_pre h3, h4⟩
  ·exact ⟨mv.length, ⟨i, k, t⟩, by simp, by dsimp only; omega⟩
 ·rcases List.mem_append.1 hm with hm | hm
  ·have := ho.inn m hm; omega
  ·rw [List.mem_singleton] at hm; subst hm; dsimp only; omega
section
variable {n : DNet} {most i t : Nat} {s : St} {p q : Sp}
theorem exT_ord (hi : i < p.states.length) (ho : OrdI p i) (h : exT n most i s t p = some q) : OrdI q i ∧ p.states.length ≤ q.states.length := by
 unfold exT at h
 split at h
 ·injection h with h; subst h; exact ⟨⟨ho.ord, ho.top⟩, Nat.le_refl _⟩
 ·split at h
  ·rename_i k hk
   split at h
   ·injection h with h
    subst h
    have hk2 := (idxS_some hk).2
    refine ⟨⟨ord_push ho.ord ho.top hi hk2 (by omega) (.inl rfl), fun m hm => ?_⟩, Nat.le_refl _⟩
    rcases List.mem_append.1 hm with hm | hm
    ·exact ho.top m hm
    ·rw [List.mem_singleton] at hm; subst hm; exact Nat.le_refl _
   ·cases h
  ·split at h
   ·split at h
    ·injection h with h
     subst h
     refine ⟨⟨ord_push ho.ord ho.top hi (by simp) (by omega) (.inr ⟨by simp, rfl⟩), fun m hm => ?_⟩, by simp⟩
     rcases List.mem_append.1 hm with hm | hm
     ·exact ho.top m hm
     ·rw [List.mem_singleton] at hm; subst hm; exact Nat.le_refl _
    ·cases h
   ·injection h with h; subst h; exact ⟨⟨ho.ord, ho.top⟩, Nat.le_refl _⟩
theorem exRow_ord : ∀ (f t : Nat) (p : Sp), i < p.states.length → OrdI p i → exRow n most i s f t p = some q → OrdI q i ∧ p.states.length ≤ q.states.length
 | 0, _, p, _, ho, h => by rw [exRow] at h; injection h with h; subst h; exact ⟨ho, Nat.le_refl _⟩
 | f + 1, t, p, hi, ho, h => by
  rw [exRow] at h
  cases hq : exT n most i s t p with
  | none => rw [hq] at h; cases h
  | some r =>
   rw [hq] at h
   obtain ⟨h1, h2⟩ := exT_ord hi ho hq
   obtain ⟨h3, h4⟩ := exRow_ord f (t + 1) r (by omega) h1 h
   exact ⟨h3, by omega⟩
theorem exAll_ord : ∀ (f i : Nat) (p : Sp), OrdI p i → exAll n most f i p = some q → Ord q.moves q.states.length
 | 0, _, p, ho, h => by rw [exAll] at h; injection h with h; subst h; exact ho.ord
 | f + 1, i, p, ho, h => by
  rw [exAll] at h
  cases hs : p.states[i]? with
  | none => rw [hs] at h; injection h with h; subst h; exact ho.ord
  | some s =>
   rw [hs] at h
   dsimp only at h
   cases hq : exRow n most i s n.net.trans.length 0 p with
   | none => rw [hq] at h; cases h
   | some r =>
    rw [hq] at h
    obtain ⟨h1, _⟩ := exRow_ord (n.net.trans.length) 0 p (lt_of_get hs) ho hq
    exact exAll_ord f (i + 1) r ⟨h1.ord, fun m hm => Nat.le_succ_of_le (h1.top m hm)⟩ h
theorem exFrom_ord (h : exFrom n s most = some q) : Ord q.moves q.states.length := by
 refine exAll_ord (most + 1) 0 ⟨[s], [], true⟩ ⟨⟨?_, ?_, ?_, ?_, ?_⟩, ?_⟩ h
 ·intro a b m m' _ h; simp at h
 ·intro b m h; simp at h
 ·intro b m h; simp at h
 ·intro j h0 hj; simp at hj; omega
 ·intro m h; simp at h
 ·intro m h; simp at h
end
def FirstD (mv : List Mv) (j a : Nat) : Prop := (∃ m, mv[a]? = some m ∧ m.dst = j) ∧ ∀ a' m', a' < a → mv[a']? = some m' → m'.dst ≠ j
section
variable {mv : List Mv} {N i k j a : Nat}
theorem first_of (h : ∃ (a : Nat) (m : Mv), mv[a]? = some m ∧ m.dst = j) : ∃ a, FirstD mv j a := by
 obtain ⟨a, m, h1, h2⟩ := h
 induction a using Nat.strongRecOn generalizing m with
 | _ a ih =>
  by_cases hc : ∃ a' m', a' < a ∧ mv[a']? = some m' ∧ m'.dst = j
  ·obtain ⟨a', m', h3, h4, h5⟩ := hc
   exact ih a' h3 m' h4 h5
  ·exact ⟨a, ⟨m, h1, h2⟩, fun a' m' h3 h4 h5 => hc ⟨a', m', h3, h4, h5⟩⟩
theorem first_src (ho : Ord mv N) (h : FirstD mv j a) (h0 : 0 < j) {m : Mv} (hm : mv[a]? = some m) : m.src < j := by
 obtain ⟨⟨m', h1, h2⟩, h3⟩ := h
 rw [hm] at h1
 injection h1 with h1
 subst h1
 apply Classical.byContradiction
 intro hge
 obtain ⟨b, x, hb, hx, hd⟩ := ho.src a m hm (by omega)
 rcases Nat.lt_or_ge j m.src with hlt | hge2
 ·obtain ⟨c, z, hc, hz, hzd⟩ := ho.dst b x hx j h0 (by omega)
  exact h3 c z (by omega) hz hzd
 ·exact h3 b x hb hx (by omega)
theorem first_byM (ho : Ord mv N) (h : FirstD mv j a) (h0 : 0 < j) {m : Mv} (hm : mv[a]? = some m) : byM mv j = some m := by
 have hs := first_src ho h h0 hm
 obtain ⟨⟨m', h1, h2⟩, h3⟩ := h
 rw [hm] at h1
 injection h1 with h1
 subst h1
 have ha := lt_of_get hm
 have hg := List.getElem?_eq_getElem ha
 rw [hm] at hg
 injection hg with hg
 unfold byM
 rw [List.find?_eq_some_iff_getElem]
 refine ⟨by simp [h2, hs], a, ha, hg.symm, fun b hb => ?_⟩
 have hb2 := List.getElem?_eq_getElem (Nat.lt_trans hb ha)
 have := h3 b _ hb hb2
 simp [this]
def Proc (mv : List Mv) (i k j : Nat) : Prop := ∃ (a : Nat) (m : Mv), mv[a]? = some m ∧ m.dst = j ∧ (m.src < i ∨ (m.src = i ∧ a < k))
structure Bfs (mv : List Mv) (N i k : Nat) (b : List Int) (c : Nat) : Prop where
 len : b.length = N
 pos : 1 ≤ c
 le : c ≤ N
 que : ∀ j, 0 < j → j < N → (j < c ↔ Proc mv i k j)
 yes : ∀ j, 0 < j → j < N → Proc mv i k j → ∃ a : Nat, FirstD mv j a ∧ b[j]? = some (a : Int)
 no : ∀ j, 0 < j → j < N → ¬ Proc mv i k j → b[j]? = some (-1)
theorem bfs_start (hN : 1 ≤ N) : Bfs mv N 0 0 (List.replicate N (-1)) 1 := by
 have hp : ∀ j, ¬ Proc mv 0 0 j := fun j ⟨a, m, _, _, h⟩ => by omega
 exact ⟨by simp, Nat.le_refl _, hN, fun j h0 _ => ⟨fun h => by omega, fun h => absurd h (hp j)⟩, fun j _ _ h => absurd h (hp j), fun j _ h1 _ => by simp [h1]⟩
theorem proc_succ {m : Mv} (hm : mv[k]? = some m) : Proc mv i (k + 1) j ↔ Proc mv i k j ∨ (m.src = i ∧ m.dst = j) := by
 constructor
 ·rintro ⟨a, x, h1, h2, h3⟩
  rcases h3 with h3 | ⟨h3, h4⟩
  ·exact .inl ⟨a, x, h1, h2, .inl h3⟩
  ·rcases Nat.lt_or_ge a k with h5 | h5
   ·exact .inl ⟨a, x, h1, h2, .inr ⟨h3, h5⟩⟩
   ·obtain rfl : a = k := by omega
    rw [hm] at h1
    injection h1 with h1
    subst h1
    exact .inr ⟨h3, h2⟩
 ·rintro (⟨a, x, h1, h2, h3⟩ | ⟨h1, h2⟩)
  ·exact ⟨a, x, h1, h2, by omega⟩
  ·exact ⟨k, m, hm, h2, .inr ⟨h1, by omega⟩⟩
theorem bfs_same {b : List Int} {c i' k' : Nat} (h : Bfs mv N i k b c) (he : ∀ j, 0 < j → j < N → (Proc mv i' k' j ↔ Proc mv i k j)) : Bfs mv N i' k' b c :=
 ⟨h.len, h.pos, h.le, fun j h0 h1 => (h.que j h0 h1).trans (he j h0 h1).symm, fun j h0 h1 hp => h.yes j h0 h1 ((he j h0 h1).1 hp), fun j h0 h1 hp => h.no j h0 h1 (fun hq => hp ((he j h0 h1).2 hq))⟩
theorem bfs_skip {b : List Int} {c : Nat} {m : Mv} (h : Bfs mv N i k b c) (hm : mv[k]? = some m) (hs : m.src ≠ i ∨ m.dst = 0 ∨ ∃ z : Int, 0 ≤ z ∧ b[m.dst]? = some z) (hd : m.dst < N) : Bfs mv N i (k + 1) b c := by
 refine bfs_same h fun j h0 h1 => (proc_succ hm).trans ⟨fun hp => ?_, .inl⟩
 rcases hp with hp | ⟨e1, e2⟩
 ·exact hp
 ·rcases hs with hs | hs | ⟨z, hz, hb⟩
  ·exact absurd e1 hs
  ·omega
  ·apply Classical.byContradiction
   intro hn
   have := h.no j h0 h1 hn
   rw [← e2, hb] at this
   injection this with this
   omega
theorem bfs_take {b : List Int} {c : Nat} {m : Mv} {z : Int} (ho : Ord mv N) (h : Bfs mv N i k b c) (hm : mv[k]? = some m) (h1 : m.src = i) (h2 : m.dst ≠ 0) (hb : b[m.dst]? = some z) (hz : z < 0) :
  m.dst = c ∧ Bfs mv N i (k + 1) (b.set m.dst (k : Int)) (c + 1) := by
 have hd : m.dst < N := (ho.inn m (List.mem_of_getElem? hm)).2
 have hnp : ¬ Proc mv i k m.dst := fun hp => by
  obtain ⟨a, _, ha⟩ := h.yes m.dst (by omega) hd hp
  rw [hb] at ha
  injection ha with ha
  omega
 have hsm : ∀ a x, a < k → mv[a]? = some x → Proc mv i k x.dst := fun a x ha hx => by
  have := ho.srt a k x m (by omega) hx hm
  exact ⟨a, x, hx, rfl, by omega⟩
 have hfirst : FirstD mv m.dst k := ⟨⟨m, hm, rfl⟩, fun a x ha hx e => hnp (by rw [← e]; exact hsm a x ha hx)⟩
 have hmc : m.dst = c := by
  have h3 : ¬ m.dst < c := fun hlt => hnp ((h.que m.dst (by omega) hd).1 hlt)
  have h4 : m.dst ≤ c := by
   apply Classical.byContradiction
   intro hgt
   obtain ⟨a, x, ha, hx, hxd⟩ := ho.dst k m hm c (by have := h.pos; omega) (by omega)
   have := (h.que c (by have := h.pos; omega) (by omega)).2 (by rw [← hxd]; exact hsm a x ha hx)
   omega
  omega
 refine ⟨hmc, by simpa using h.len, by omega, by omega, fun j j0 jN => ?_, fun j j0 jN hp => ?_, fun j j0 jN hp => ?_⟩
 ·rw [proc_succ hm]
  constructor
  ·intro hj
   by_cases e : j = c
   ·exact .inr ⟨h1, by omega⟩
   ·exact .inl ((h.que j j0 jN).1 (by omega))
  ·rintro (hp | ⟨_, e⟩)
   ·have := (h.que j j0 jN).2 hp; omega
   ·omega
 ·by_cases e : j = m.dst
  ·subst e
   exact ⟨k, hfirst, List.getElem?_set_self (by rw [h.len]; exact hd)⟩
  ·rcases (proc_succ hm).1 hp with hp | ⟨_, e2⟩
   ·obtain ⟨a, ha, hba⟩ := h.yes j j0 jN hp
    exact ⟨a, ha, by rw [List.getElem?_set_ne (Ne.symm e)]; exact hba⟩
   ·exact absurd e2.symm e
 ·have hne : m.dst ≠ j := fun e => hp ((proc_succ hm).2 (.inr ⟨h1, e⟩))
  rw [List.getElem?_set_ne hne]
  exact h.no j j0 jN (fun hq => hp ((proc_succ hm).2 (.inl hq)))
theorem bfs_row {b : List Int} {c : Nat} (h : Bfs mv N i mv.length b c) : Bfs mv N (i + 1) 0 b c := by
 refine bfs_same h fun j _ _ => ⟨?_, ?_⟩
 ·rintro ⟨a, m, h1, h2, h3⟩
  have := lt_of_get h1
  exact ⟨a, m, h1, h2, by omega⟩
 ·rintro ⟨a, m, h1, h2, h3⟩
  exact ⟨a, m, h1, h2, by omega⟩
theorem bfs_done {b : List Int} {c : Nat} (ho : Ord mv N) (h : Bfs mv N c 0 b c) : c = N ∧ ∀ j, 0 < j → j < N → ∃ (a : Nat) (m : Mv), b[j]? = some (a : Int) ∧ mv[a]? = some m ∧ byM mv j = some m := by
 have hc : c = N := by
  apply Classical.byContradiction
  intro hn
  have hlt : c < N := by have := h.le; omega
  obtain ⟨a, ha⟩ := first_of (ho.all c h.pos hlt)
  obtain ⟨m, hm, hmd⟩ := ha.1
  have hs := first_src ho ha h.pos hm
  have := (h.que c h.pos hlt).2 ⟨a, m, hm, hmd, .inl hs⟩
  omega
 refine ⟨hc, fun j h0 hj => ?_⟩
 obtain ⟨a, ha, hb⟩ := h.yes j h0 hj ((h.que j h0 hj).1 (by omega))
 obtain ⟨m, hm, _⟩ := ha.1
 exact ⟨a, m, hb, hm, first_byM ho ha h0 hm⟩
end
end Go.Proofs.YtlmenhjlgmejkaaGreatDoor
namespace Go.Proofs.YtlmenhjlgmejkaaGreatDoor
open Go.ChangeShapes Go.WideShapes Go.RowKit Go.Deep
theorem add_lit' (b o n j : Nat) : ((⟨b, o, none⟩ : Addr).add n).add j = ⟨b, o + n + j, none⟩ := by
 rw [add_add']; unfold Addr.add
 by_cases h : n + j = 0
 ·have h1 : n = 0 := by omega
  have h2 : j = 0 := by omega
  subst h1 h2; rfl
 ·rw [if_neg h]; simp [Nat.add_assoc]
theorem cell_spot {w : World} {a : Addr} {u : Value} (h : w.cell? a = some u) : a = ⟨a.block, a.off, none⟩ ∧ a.block < w.heap.size := by
 obtain ⟨b, o, s⟩ := a
 unfold World.cell? at h
 cases s with
 | none =>
  refine ⟨rfl, ?_⟩
  rcases Nat.lt_or_ge b w.heap.size with h' | h'
  ·exact h'
  ·simp [Array.getElem?_eq_none h'] at h
 | some s => split at h <;> simp at h
section
variable {H : Type} {enc : TypeId × Value → H} {P : Program} {w : World} {base : Nat} {spare : Nat → Bool} {held : Bool}
theorem Sl.of_trod {α : Type} [Inhabited α] {size : Nat} {R : ElemR α} {t e : TypeId} {fuel : Nat} {v : Value} {x : DataW H × List MemPlace} (ht : P.underlying t = some (.slice e)) (hsz : P.cellsOf e = size) (hs0 : 0 < size)
  (hR : ∀ (fuel' : Nat) (cs : List Value) (y : DataW H × List MemPlace), DataW.trod enc P w base spare held fuel' e cs = some y → ∃ z, R (Lt w.heap.size) w z cs)
  (h : DataW.trod enc P w base spare held fuel t [v] = some x) : ∃ xs, Sl size R (Lt w.heap.size) w v xs := by
 rcases open_slice ht h with ⟨hv, _⟩ | ⟨a, len, cap, m, n, D, Pl, hv, _, hl, hm, hmm, _, hi⟩
 ·injection hv with hv; subst hv; exact ⟨[], Sl.none_⟩
 ·injection hv with hv
  subst hv
  have hlm : len ≤ m := by rw [hmm]; split <;> omega
  have key : ∀ i, ∃ z : α, i < len → ∃ cs : List Value, cs.length = size ∧ R (Lt w.heap.size) w z cs ∧ ∀ j, j < size → w.cell? ((a.add (i * size)).add j) = cs[j]? := by
   intro i
   by_cases hlt : i < len
   ·obtain ⟨cs', hc, htr⟩ := hi i (by omega)
    rw [hsz] at hc
    obtain ⟨z, hz⟩ := hR _ _ _ htr
    obtain ⟨_, hcl, hat⟩ := World.cells?_some hc
    exact ⟨z, fun _ => ⟨cs', hcl, hz, hat⟩⟩
   ·exact ⟨default, fun h' => absurd h' hlt⟩
  refine ⟨(List.range len).map fun i => Classical.choose (key i), some a, cap, by simp, by simpa using hl, hm, fun i z hz => ?_⟩
  rw [List.getElem?_map] at hz
  have hlt : i < len := by
   rcases Nat.lt_or_ge i len with h' | h'
   ·exact h'
   ·rw [List.getElem?_eq_none (by simpa using h')] at hz; simp at hz
  rw [List.getElem?_range hlt] at hz
  injection hz with hz
  obtain ⟨cs, hcl, hr, hat⟩ := Classical.choose_spec (key i) hlt
  obtain ⟨cs0, hcl0, _, hat0⟩ := Classical.choose_spec (key 0) (by omega)
  have h00 := hat0 0 hs0
  have hc0 : cs0[0]? = some (cs0[0]'(by omega)) := List.getElem?_eq_getElem (by omega)
  rw [hc0] at h00
  have ha0 : (a.add (0 * size)).add 0 = a := by simp [Addr.add]
  rw [ha0] at h00
  obtain ⟨ha, hblk⟩ := cell_spot h00
  replace hz : Classical.choose (key i) = z := hz
  rw [hz] at hr
  refine ⟨a.block, a.off, cs, by rw [← ha], hblk, hcl, hr, fun j u hu => ?_⟩
  have hj : j < size := by
   rcases Nat.lt_or_ge j cs.length with h' | h'
   ·omega
   ·rw [List.getElem?_eq_none h'] at hu; cases hu
  have := hat j hj
  rw [ha, add_lit'] at this
  rw [this, hu]
theorem fit_of_wf {n : Int} (h : (Lit.int .i64 n).wf = true) : Fit n := by
 have h' : decide ((-9223372036854775808 : Int) ≤ n) = true ∧ decide (n ≤ (9223372036854775807 : Int)) = true := by
  rw [← Bool.and_eq_true]; exact h
 unfold Fit
 simpa using h'
theorem SlI.of_trod {t e : TypeId} {fuel : Nat} {v : Value} {x : DataW H × List MemPlace} (ht : P.underlying t = some (.slice e)) (he : P.underlying e = some (.int .i64)) (hc : P.cellsOf e = 1)
  (h : DataW.trod enc P w base spare held fuel t [v] = some x) : ∃ zs, SlI (Lt w.heap.size) w v zs :=
 Sl.of_trod ht hc (by omega) (fun _ cs y hy => by
  obtain ⟨k, e1, e2, e3⟩ := DataW.trod_int he hy
  exact ⟨k, e1, fit_of_wf e3⟩) h
theorem SlS.of_trod {t e : TypeId} {fuel : Nat} {v : Value} {x : DataW H × List MemPlace} (ht : P.underlying t = some (.slice e)) (he : P.underlying e = some .string) (hc : P.cellsOf e = 1)
  (h : DataW.trod enc P w base spare held fuel t [v] = some x) : ∃ zs, SlS (Lt w.heap.size) w v zs :=
 Sl.of_trod ht hc (by omega) (fun _ cs y hy => by
  obtain ⟨k, e1, e2, e3⟩ := DataW.trod_string he hy
  exact ⟨k, e1, e3⟩) h
theorem post_of_below {f : Func} {s : ChangeSpec} {apart fresh handsOn again : Bool} {W W' : World} {args : Array Value} {v : Value} {ds gs : List (DataW H)} {before pa pv : List MemPlace}
  (hW : DataW.Whole enc P f.params.toList s.vars apart W args.toList ds gs before)
  (hres : ∀ (b : Nat) (sp : Nat → Bool) (hd : Bool), DataW.TrodAll enc P W' b sp hd f.resultTypes.toList (v.resultList f.resultTypes.size) (s.fn H (ds ++ gs)).results [])
  (hargs : ∀ sp : Nat → Bool, (∀ p ∈ before, sp p.block = true) → DataW.TrodAll enc P W' 0 sp true f.params.toList args.toList (s.fn H (ds ++ gs)).args pa)
  (hvars : ∀ sp : Nat → Bool, (∀ p ∈ before, sp p.block = true) → DataW.TrodVars enc P W' sp s.vars (s.fn H (ds ++ gs)).vars pv)
  (hps : before = pa ++ pv) (hb : Below W.heap.size W W')
  (hok : ∀ (j : Nat) (t : TypeId) (r : Value), f.resultTypes[j]? = some t → (v.resultList f.resultTypes.size)[j]? = some r → Value.okWide P W' .any 0 t r) :
  s.post enc P f apart fresh handsOn again W args v W' := by
 have hlt : ∀ p ∈ before, p.block < W.heap.size := fun p hp => hW.lt p hp
 have hold : ∀ p ∈ before, (fun b => decide (b < W.heap.size)) p.block = true := fun p hp => by simpa using hlt p hp
 refine ⟨ds, gs, before, [], pa, pv, hW, hres _ _ _, hargs _ hold, hvars _ hold, World.keptBut_mono (fun p hp => ⟨hp, ?_⟩) (hb.frame (· ∈ before)), fun _ => ?_⟩
 ·rw [hps, List.mem_append] at hp
  exact Or.inr hp
 ·obtain ⟨_, _, _, _, _, hz, hn⟩ := hW
  refine ⟨hok, _, _, ([] ++ pa) ++ pv, ⟨[] ++ pa, pv, trodAll_append (hargs _ (fun _ _ => rfl)) (hres _ _ _), hvars _ (fun _ _ => rfl), rfl, ?_, ?_⟩, ?_⟩
  ·intro b off hp
   have hin : MemPlace.cell b off ∈ before := by rw [hps]; simpa using hp
   rw [hb.frozen (hlt _ hin)]
   exact hz b off hin
  ·intro ha
   have := hn ha
   rw [hps] at this
   simpa using this
  ·intro p hp _
   rw [hps]
   simpa using hp
end
theorem cellsInt : Tryz.prog.cellsOf 3 = 1 := by kernel_rfl
theorem cellsStr : Tryz.prog.cellsOf 9 = 1 := by kernel_rfl
theorem cellsTrans : Tryz.prog.cellsOf 112 = 3 := by kernel_rfl
theorem cellsInts : Tryz.prog.cellsOf 31 = 1 := by kernel_rfl
theorem cellsNet : Tryz.prog.cellsOf 24 = 4 := by kernel_rfl
instance : Inhabited Tr := ⟨⟨ByteArray.empty, [], []⟩⟩
section
variable {H : Type} {enc : TypeId × Value → H} {w : World} {base : Nat} {spare : Nat → Bool} {held : Bool}
theorem ints_of {fuel : Nat} {v : Value} {x : DataW H × List MemPlace} (h : DataW.trod enc Tryz.prog w base spare held fuel 31 [v] = some x) : ∃ zs, SlI (Lt w.heap.size) w v zs :=
 SlI.of_trod Tryz.underlying31 Tryz.underlying3 cellsInt h
set_option maxRecDepth 100000 in
theorem tr_of (fuel : Nat) (cs : List Value) (y : DataW H × List MemPlace) (h : DataW.trod enc Tryz.prog w base spare held fuel 112 cs = some y) : ∃ t, RTr (Lt w.heap.size) w t cs := by
 obtain ⟨y0, y1, y2, n, _, hl, h0, h1, h2⟩ := trod_struct3 Tryz.underlying112 h
 rw [cellsTrans] at hl
 match cs, hl with
 | [c0, c1, c2], _ =>
  simp only [cellsStr, cellsInts, List.drop_zero, List.take_succ_cons, List.take_zero, List.drop_succ_cons] at h0 h1 h2
  obtain ⟨s, e0, _, hs⟩ := DataW.trod_string Tryz.underlying9 h0
  injection e0 with e0
  subst e0
  obtain ⟨is, hi⟩ := ints_of h1
  obtain ⟨os, ho⟩ := ints_of h2
  exact ⟨⟨s, is, os⟩, c1, c2, rfl, hs, hi, ho⟩
end
section
variable {H : Type} {enc : TypeId × Value → H} {P : Program} {w : World} {base : Nat} {spare : Nat → Bool} {held : Bool}
theorem Sl.of_trodN {α : Type} [Inhabited α] {size : Nat} {R : ElemR α} {t e : TypeId} {fuel : Nat} {v : Value} {x : DataW H × List MemPlace} (ht : P.underlying t = some (.slice e)) (hsz : P.cellsOf e = size) (hs0 : 0 < size)
  (hR : ∀ (fuel' : Nat), fuel' < fuel → ∀ (cs : List Value) (y : DataW H × List MemPlace), DataW.trod enc P w base spare held fuel' e cs = some y → ∃ z, R (Lt w.heap.size) w z cs)
  (h : DataW.trod enc P w base spare held fuel t [v] = some x) : ∃ xs, Sl size R (Lt w.heap.size) w v xs := by
 rcases DataW.trod_slice ht h with ⟨hv, _⟩ | ⟨a, len, cap, elems, rest, n, hfu, hv, _, _, hl, hm, hlen, hi, _, _⟩
 ·injection hv with hv; subst hv; exact ⟨[], Sl.none_⟩
 ·injection hv with hv
  subst hv
  have key : ∀ i, ∃ z : α, i < len → ∃ cs : List Value, cs.length = size ∧ R (Lt w.heap.size) w z cs ∧ ∀ j, j < size → w.cell? ((a.add (i * size)).add j) = cs[j]? := by
   intro i
   by_cases hlt : i < len
   ·have hh := hi i hlt
    rw [List.getElem?_eq_getElem (by omega)] at hh
    obtain ⟨cs', hc, htr⟩ := Option.bind_eq_some_iff.1 hh
    rw [hsz] at hc
    obtain ⟨z, hz⟩ := hR n (by omega) _ _ htr
    obtain ⟨_, hcl, hat⟩ := World.cells?_some hc
    exact ⟨z, fun _ => ⟨cs', hcl, hz, hat⟩⟩
   ·exact ⟨default, fun h' => absurd h' hlt⟩
  refine ⟨(List.range len).map fun i => Classical.choose (key i), some a, cap, by simp, by simpa using hl, hm, fun i z hz => ?_⟩
  rw [List.getElem?_map] at hz
  have hlt : i < len := by
   rcases Nat.lt_or_ge i len with h' | h'
   ·exact h'
   ·rw [List.getElem?_eq_none (by simpa using h')] at hz; simp at hz
  rw [List.getElem?_range hlt] at hz
  injection hz with hz
  obtain ⟨cs, hcl, hr, hat⟩ := Classical.choose_spec (key i) hlt
  obtain ⟨cs0, hcl0, _, hat0⟩ := Classical.choose_spec (key 0) (by omega)
  have h00 := hat0 0 hs0
  have hc0 : cs0[0]? = some (cs0[0]'(by omega)) := List.getElem?_eq_getElem (by omega)
  rw [hc0] at h00
  have ha0 : (a.add (0 * size)).add 0 = a := by simp [Addr.add]
  rw [ha0] at h00
  obtain ⟨ha, hblk⟩ := cell_spot h00
  replace hz : Classical.choose (key i) = z := hz
  rw [hz] at hr
  refine ⟨a.block, a.off, cs, by rw [← ha], hblk, hcl, hr, fun j u hu => ?_⟩
  have hj : j < size := by
   rcases Nat.lt_or_ge j cs.length with h' | h'
   ·omega
   ·rw [List.getElem?_eq_none h'] at hu; cases hu
  have := hat j hj
  rw [ha, add_lit'] at this
  rw [this, hu]
theorem trod_struct2 {t : TypeId} {f0 f1 : Field} {fuel : Nat} {cs : List Value} {x : DataW H × List MemPlace} (ht : P.underlying t = some (.struct #[f0, f1])) (h : DataW.trod enc P w base spare held fuel t cs = some x) :
  ∃ y0 y1 n, fuel = n + 1 ∧ cs.length = P.cellsOf t ∧ DataW.trod enc P w base spare held n f0.type ((cs.drop f0.offset).take (P.cellsOf f0.type)) = some y0 ∧
   DataW.trod enc P w base spare held n f1.type ((cs.drop f1.offset).take (P.cellsOf f1.type)) = some y1 := by
 obtain ⟨xs, n, hn, rfl, hl, hlen, hf⟩ := DataW.trod_struct ht h
 match xs, hlen with
 | [y0, y1], _ => exact ⟨y0, y1, n, hn, hl, by simpa using hf 0 f0 rfl, by simpa using hf 1 f1 rfl⟩
theorem trod_struct4N {t : TypeId} {f0 f1 f2 f3 : Field} {fuel : Nat} {cs : List Value} {x : DataW H × List MemPlace} (ht : P.underlying t = some (.struct #[f0, f1, f2, f3])) (h : DataW.trod enc P w base spare held fuel t cs = some x) :
  ∃ y0 y1 y2 y3 n, fuel = n + 1 ∧ cs.length = P.cellsOf t ∧ DataW.trod enc P w base spare held n f0.type ((cs.drop f0.offset).take (P.cellsOf f0.type)) = some y0 ∧
   DataW.trod enc P w base spare held n f1.type ((cs.drop f1.offset).take (P.cellsOf f1.type)) = some y1 ∧ DataW.trod enc P w base spare held n f2.type ((cs.drop f2.offset).take (P.cellsOf f2.type)) = some y2 ∧
   DataW.trod enc P w base spare held n f3.type ((cs.drop f3.offset).take (P.cellsOf f3.type)) = some y3 := by
 obtain ⟨xs, n, hn, rfl, hl, hlen, hf⟩ := DataW.trod_struct ht h
 match xs, hlen with
 | [y0, y1, y2, y3], _ => exact ⟨y0, y1, y2, y3, n, hn, hl, by simpa using hf 0 f0 rfl, by simpa using hf 1 f1 rfl, by simpa using hf 2 f2 rfl, by simpa using hf 3 f3 rfl⟩
theorem trod_struct5N {t : TypeId} {f0 f1 f2 f3 f4 : Field} {fuel : Nat} {cs : List Value} {x : DataW H × List MemPlace} (ht : P.underlying t = some (.struct #[f0, f1, f2, f3, f4])) (h : DataW.trod enc P w base spare held fuel t cs = some x) :
  ∃ y0 y1 y2 y3 y4 n, fuel = n + 1 ∧ cs.length = P.cellsOf t ∧ DataW.trod enc P w base spare held n f0.type ((cs.drop f0.offset).take (P.cellsOf f0.type)) = some y0 ∧
   DataW.trod enc P w base spare held n f1.type ((cs.drop f1.offset).take (P.cellsOf f1.type)) = some y1 ∧ DataW.trod enc P w base spare held n f2.type ((cs.drop f2.offset).take (P.cellsOf f2.type)) = some y2 ∧
   DataW.trod enc P w base spare held n f3.type ((cs.drop f3.offset).take (P.cellsOf f3.type)) = some y3 ∧ DataW.trod enc P w base spare held n f4.type ((cs.drop f4.offset).take (P.cellsOf f4.type)) = some y4 := by
 obtain ⟨xs, n, hn, rfl, hl, hlen, hf⟩ := DataW.trod_struct ht h
 match xs, hlen with
 | [y0, y1, y2, y3, y4], _ => exact ⟨y0, y1, y2, y3, y4, n, hn, hl, by simpa using hf 0 f0 rfl, by simpa using hf 1 f1 rfl, by simpa using hf 2 f2 rfl, by simpa using hf 3 f3 rfl, by simpa using hf 4 f4 rfl⟩
end
end Go.Proofs.YtlmenhjlgmejkaaGreatDoor
