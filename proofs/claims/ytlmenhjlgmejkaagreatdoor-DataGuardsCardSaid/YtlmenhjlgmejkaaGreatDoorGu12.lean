/- Texts of this seat, merged. -/
import Derived.Test.YtlmenhjlgmejkaaGreatDoorIn28
import Derived.Test.YtlmenhjlgmejkaaGreatDoorIn18
import Derived.Test.YtlmenhjlgmejkaaGreatDoorIn10
import Derived.Test.YtlmenhjlgmejkaaGreatDoorIn06
import Derived.Test.YtlmenhjlgmejkaaGreatDoorIn05
import Derived.Test.YtlmenhjlgmejkaaGreatDoorIn02
import Derived.WalkKit
import Derived.WalkSpells
import Derived.WalkLawsBesides
import Derived.Lib.Hide
import Derived.Deep.Draws
import Derived.Deep.OwnRows
import Derived.Test.YtlmenhjlgmejkaaGreatDoorIn01
import Derived.Test.YtlmenhjlgmejkaaGreatDoorProg
import Derived.Outline
import Derived.Deep.Light
import Derived.Lib.SlicesCompact
import Derived.Deep.RegionWith
import Derived.Test.YtlmenhjlgmejkaaGreatDoorIn04
import Derived.Deep.QuietTactic
import Derived.BigQuiet
import Derived.Deep.RegionHeld3
import Derived.Test.YtlmenhjlgmejkaaGreatDoorIn03
import Derived.Shelf.Abstract
import Derived.Laws.IdiomStrings
import Derived.Maps.AppendAt
import Derived.Deep.AppendLies
import Derived.RegionTactic
import Derived.OwnWalk
import Derived.Sort.OwnSorted
import Derived.Lib.Bytes
import Derived.Shelf.Strings.Builder1
import Derived.Shelf.Small.Bits
import Derived.Shelf.Small.Wraps
import Derived.Shelf.Strings.BuilderF
import Derived.Shelf.Strings.BuilderK
import Derived.Shelf.Strconv.Itoa0
import Derived.Shelf.Strconv.Itoa1
import Derived.Shelf.LaysM
import Derived.Shelf.Strconv.Itoa2
import Derived.Shelf.Strconv.Itoa3
import Derived.Shelf.Sort.Plain
import Derived.Shelf.Strings.BuilderCap
import Derived.Shelf.Slices.Turned
import Derived.Shelf.Slices.Reverse
import Derived.Shelf.Slices.Equal
import Derived.Ground.Names2Prog
import Derived.Shelf.Slices.Clone
import Derived.Shelf.Slices.CompactS
import Derived.Shelf.Slices.Cells
import Derived.Shelf.Slices.In.SortNone
import Derived.Shelf.Slices.Empties2
import Derived.Maps.OwnOps
import Derived.Maps.OwnSet
import Derived.Maps.Views
import Derived.StringKeys
import Derived.Lib.Builder
import Derived.Lib.AppendStr
import Derived.Lib.UnsafeStr
import Derived.Lib.FrozenHead2
import Derived.Lib.OthersKept
import Derived.Laws.Externs
import Derived.Lib.Slices
import Derived.Test.YtlmenhjlgmejkaaGreatDoorIn09
import Derived.Test.YtlmenhjlgmejkaaGreatDoorIn08
import Derived.Test.YtlmenhjlgmejkaaGreatDoorIn07
import Derived.Laws.MakeOwn
import Derived.Laws.Entries
import Derived.Lib.ItoaNum
import Derived.Lib.ItoaMem
import Derived.Lib.AtoiTie
import Derived.Test.YtlmenhjlgmejkaaGreatDoorIn17
import Derived.Test.YtlmenhjlgmejkaaGreatDoorIn16
import Derived.Test.YtlmenhjlgmejkaaGreatDoorIn15
import Derived.Test.YtlmenhjlgmejkaaGreatDoorIn14
import Derived.Test.YtlmenhjlgmejkaaGreatDoorIn13
import Derived.Test.YtlmenhjlgmejkaaGreatDoorIn12
import Derived.Test.YtlmenhjlgmejkaaGreatDoorIn11
import Derived.StillTailTactics
import Derived.Test.YtlmenhjlgmejkaaGreatDoorIn25
import Derived.Test.YtlmenhjlgmejkaaGreatDoorIn24
import Derived.Orders
import Derived.Deep.Quiet
import Derived.StillTail
import Derived.Deep.LoopGhost
import Derived.Test.YtlmenhjlgmejkaaGreatDoorIn23
import Derived.Deep.DeepCutAuto
import Derived.Test.YtlmenhjlgmejkaaGreatDoorIn22
import Derived.Test.YtlmenhjlgmejkaaGreatDoorIn21
import Derived.Test.YtlmenhjlgmejkaaGreatDoorIn20
import Derived.Test.YtlmenhjlgmejkaaGreatDoorIn19
import Derived.Deep.RegionHeld
import Derived.Maps.Keyed
import Derived.Test.YtlmenhjlgmejkaaGreatDoorGu01
import Derived.Test.YtlmenhjlgmejkaaGreatDoorGu02
import Derived.Test.YtlmenhjlgmejkaaGreatDoorGu03
import Derived.Test.YtlmenhjlgmejkaaGreatDoorGu04
import Derived.Test.YtlmenhjlgmejkaaGreatDoorGu05
import Derived.Test.YtlmenhjlgmejkaaGreatDoorGu06
import Derived.Test.YtlmenhjlgmejkaaGreatDoorGu07
import Derived.Test.YtlmenhjlgmejkaaGreatDoorGu08
import Derived.Test.YtlmenhjlgmejkaaGreatDoorGu09
import Derived.Test.YtlmenhjlgmejkaaGreatDoorGu10
set_option linter.unusedSimpArgs false
set_option linter.unusedVariables false
namespace Go.Proofs.YtlmenhjlgmejkaaGreatDoor
open Go.RowKit
inductive Rch (n : DNet) : St → St → Prop where
  | refl (s : St) : Rch n s s
  | step {s x : St} {t : Nat} (ht : t < n.net.trans.length) (h : (fireD n s (t : Int)).2 = 0) (hx : Rch n (fireD n s (t : Int)).1 x) : Rch n s x
theorem Rch.snoc {n : DNet} {s x : St} {t : Nat} (h : Rch n s x) (ht : t < n.net.trans.length) (hf : (fireD n x (t : Int)).2 = 0) : Rch n s (fireD n x (t : Int)).1 := by
  induction h with
  | refl s => exact .step ht hf (.refl _)
  | step a b _ ih => exact .step a b (ih hf)
theorem sym_lt {n : DNet} {s s' : St} {t : Nat} (h : fireD n s (t : Int) = (s', 0)) : t < n.net.trans.length := by
  have := (fire_parts (n := n) (s := s) (t := (t : Int)) (by rw [h])).2.1
  omega
def ShutS (n : DNet) (P : List St) : Prop := ∀ s ∈ P, ∀ t : Nat, t < n.net.trans.length → (fireD n s (t : Int)).2 ≠ 5 ∧ ((fireD n s (t : Int)).2 = 0 → (fireD n s (t : Int)).1 ∈ P)
section
variable {n : DNet} {s0 s x : St} {most : Nat} {p q : Sp}
theorem shut_of (h : DShut n p p.states.length 0) (hf : p.full = true) : ShutS n p.states := by
  intro s hs t ht
  obtain ⟨i, hi⟩ := List.mem_iff_getElem?.1 hs
  obtain ⟨a, b⟩ := h i t s (.inl (lt_of_get hi)) ht hi hf
  refine ⟨a, fun hc => ?_⟩
  obtain ⟨k, _, k2⟩ := b hc
  exact List.mem_of_getElem? k2
theorem rch_in {P : List St} (hsh : ShutS n P) (h : Rch n s x) (hs : s ∈ P) : x ∈ P := by
  induction h with
  | refl s => exact hs
  | step ht hc _ ih => exact ih ((hsh _ hs _ ht).2 hc)
theorem inv_rch (h : DInv n s0 most q) : ∀ (k : Nat) (s : St), q.states[k]? = some s → Rch n s0 s := by
  intro k
  induction k using Nat.strongRecOn with
  | _ k ih =>
    intro s hs
    by_cases h0 : k = 0
    · subst h0
      rw [h.head] at hs
      injection hs with hs
      subst hs
      exact .refl _
    · obtain ⟨m, hm⟩ := h.met k (by omega) (lt_of_get hs)
      obtain ⟨m1, m2, m3⟩ := byM_some hm
      obtain ⟨a, b, h1, h2, h3⟩ := h.mv m m1
      rw [m2, hs] at h2
      injection h2 with h2
      subst h2
      have h4 := (ih m.src m3 a h1).snoc (t := m.sym) (sym_lt h3) (by rw [h3])
      rwa [h3] at h4
theorem inv_rch_mem (h : DInv n s0 most q) (hx : x ∈ q.states) : Rch n s0 x := by
  obtain ⟨k, hk⟩ := List.mem_iff_getElem?.1 hx
  exact inv_rch h k x hk
theorem nodup_sub {α : Type} [DecidableEq α] : ∀ (l P : List α), l.Nodup → (∀ z ∈ l, z ∈ P) → l.length ≤ P.length
  | [], _, _, _ => Nat.zero_le _
  | a :: l, P, hn, h => by
    rw [List.nodup_cons] at hn
    have ha := h a (by simp)
    have := nodup_sub l (P.erase a) hn.2 fun z hz => (List.mem_erase_of_ne (fun e => hn.1 (by rw [← e]; exact hz))).2 (h z (by simp [hz]))
    rw [List.length_erase_of_mem ha] at this
    have := List.length_pos_of_mem ha
    simp
    omega
structure InL (P : List St) (q : Sp) (b : Nat) : Prop where
  sub : ∀ s ∈ q.states, s ∈ P
  full : q.full = true
  mvs : q.moves.length ≤ b
  nd : q.states.Nodup
theorem exT_go {i t b : Nat} (hq : q.moves.length ≤ b) (hb : b < 20000) : ∃ r, exT n most i s t q = some r ∧ r.moves.length ≤ b + 1 := by
  unfold exT
  split
  · exact ⟨_, rfl, by dsimp only; omega⟩
  · split
    · rw [if_pos (by omega)]
      exact ⟨_, rfl, by simp; omega⟩
    · split
      · rw [if_pos (by omega)]
        exact ⟨_, rfl, by simp; omega⟩
      · exact ⟨_, rfl, by dsimp only; omega⟩
theorem exRow_go {i : Nat} : ∀ (f t : Nat) (q : Sp) (b : Nat), q.moves.length ≤ b → b + f ≤ 20000 → ∃ r, exRow n most i s f t q = some r ∧ r.moves.length ≤ b + f
  | 0, _, q, b, hq, _ => ⟨q, rfl, hq⟩
  | f + 1, t, q, b, hq, hb => by
    obtain ⟨r, h1, h2⟩ := exT_go (n := n) (most := most) (s := s) (i := i) (t := t) hq (by omega)
    obtain ⟨r2, h3, h4⟩ := exRow_go (i := i) f (t + 1) r (b + 1) h2 (by omega)
    exact ⟨r2, by rw [exRow, h1]; exact h3, by omega⟩
theorem exAll_go : ∀ (f i : Nat) (q : Sp) (b : Nat), q.moves.length ≤ b → b + f * n.net.trans.length ≤ 20000 → ∃ r, exAll n most f i q = some r
  | 0, _, q, b, hq, _ => ⟨q, rfl⟩
  | f + 1, i, q, b, hq, hb => by
    rw [Nat.succ_mul] at hb
    rw [exAll]
    cases hs : q.states[i]? with
    | none => exact ⟨q, rfl⟩
    | some s =>
      obtain ⟨r, h1, h2⟩ := exRow_go (n := n) (most := most) (s := s) (i := i) n.net.trans.length 0 q b hq (by omega)
      obtain ⟨r2, h3⟩ := exAll_go f (i + 1) r _ h2 (by omega)
      exact ⟨r2, by dsimp only; rw [h1]; exact h3⟩
theorem exFrom_go (hb : (most + 1) * n.net.trans.length ≤ 20000) : ∃ r, exFrom n s most = some r :=
  exAll_go (most + 1) 0 _ 0 (by simp) (by omega)
end
end Go.Proofs.YtlmenhjlgmejkaaGreatDoor

namespace Go.Proofs.YtlmenhjlgmejkaaGreatDoor
open Go.RowKit
def andX (a b : Ex) : Ex := .mk 4 noV emptyS [a, b]
def stronger (n : DNet) (k : Nat) (x : Ex) : DNet := { n with guards := n.guards.set k x }
theorem guard_and {vs : List Var} {vals : List Val} {a b : Ex} (h : guardB vs vals (andX a b) = true) : guardB vs vals b = true := by
  unfold guardB at h ⊢
  have e : evX vs vals (andX a b) = match evX vs vals a with | none => none | some c => if c.n = 1 then evX vs vals b else some c := by
    unfold andX
    rw [evX_eq, evL_eq]
    show evO vs vals (.mk 4 noV emptyS [a, b]) [evX vs vals a, evX vs vals b] = _
    unfold evO
    cases evX vs vals a <;> rfl
  rw [e] at h
  cases ha : evX vs vals a with
  | none => rw [ha] at h; cases h
  | some c =>
    rw [ha] at h
    dsimp only at h
    by_cases hc : c.n = 1
    · rw [if_pos hc] at h; exact h
    · rw [if_neg hc] at h
      dsimp only at h
      rw [decide_eq_true_eq] at h
      exact absurd h hc
section
variable {n : DNet} {k : Nat} {a b : Ex} {s s0 x : St} {most : Nat} {p q : Sp}
theorem stronger_guard (hk : n.guards[k]? = some b) (vals : List Val) (t : Nat) (h : guardB n.vars vals (((stronger n k (andX a b)).guards[t]?).getD (.mk 0 noV emptyS [])) = true) : guardB n.vars vals ((n.guards[t]?).getD (.mk 0 noV emptyS [])) = true := by
  unfold stronger at h
  dsimp only at h
  by_cases e : k = t
  · subst e
    rw [List.getElem?_set_self (lt_of_get hk)] at h
    rw [hk]
    exact guard_and h
  · rwa [List.getElem?_set_ne e] at h
theorem fire_weaker {t : Int} (hk : n.guards[k]? = some b) (h : (fireD (stronger n k (andX a b)) s t).2 = 0) : fireD n s t = fireD (stronger n k (andX a b)) s t := by
  obtain ⟨h1, h2, h3, h4, vs, h5, h6⟩ := fire_parts h
  have h4 := stronger_guard hk s.vals t.toNat h4
  have h2 : t < (n.net.trans.length : Int) := h2
  have h3 : (fireB n.net s.marks t).2 = 0 := h3
  have h5 : wrsV n.vars s.vals ((n.writes[t.toNat]?).getD []) s.vals = some vs := h5
  rw [h6]
  show fireD n s t = (⟨(fireB n.net s.marks t).1, vs⟩, 0)
  unfold fireD
  rw [if_neg (by omega), if_neg (by omega), if_neg (by rw [h4]; simp), h5]
  dsimp only
  rw [if_neg (by omega)]
theorem rch_weaker (hk : n.guards[k]? = some b) (h : Rch (stronger n k (andX a b)) s x) : Rch n s x := by
  induction h with
  | refl s => exact .refl _
  | step ht hc _ ih => exact .step ht (by rw [fire_weaker hk hc]; exact hc) (by rw [fire_weaker hk hc]; exact ih)
theorem stronger_valid {y : Ex} (hv : dvalidB n = true) (hk : k < n.guards.length) : dvalidB (stronger n k y) = typedB n.vars y 1 := by
  obtain ⟨v1, v2, v3, v4, v5, v6⟩ := dvalid_parts hv
  have hall : ((stronger n k y).guards.all fun x => typedB n.vars x 1) = typedB n.vars y 1 := by
    rw [Bool.eq_iff_iff, List.all_eq_true]
    rw [List.all_eq_true] at v5
    constructor
    · intro h
      exact h y (List.mem_iff_getElem?.2 ⟨k, List.getElem?_set_self hk⟩)
    · intro h z hz
      rcases List.mem_or_eq_of_mem_set hz with hz | rfl
      · exact v5 z hz
      · exact h
  unfold dvalidB
  show (validB n.net && asgB n.vars n.init && decide ((n.guards.set k y).length = n.net.trans.length) && decide (n.writes.length = n.net.trans.length) && ((stronger n k y).guards.all fun x => typedB n.vars x 1) && n.writes.all (wrsB n.vars (-1))) = _
  rw [v1, v2, List.length_set, decide_eq_true v3, decide_eq_true v4, hall, v6]
  simp
theorem expl_code {m : Int} (hs : vstateB n s = true) (hm : m ≤ 60) (hT : n.net.trans.length ≤ 16) : (m < 1 ∧ dexplE n s m = (noSp, 2)) ∨ (1 ≤ m ∧ ∃ p, exFrom n s m.toNat = some p ∧ dexplE n s m = (p, 0)) := by
  unfold dexplE
  rw [hs, if_neg (by simp)]
  by_cases h : m < 1
  · rw [if_pos (.inl h)]; exact .inl ⟨h, rfl⟩
  · rw [if_neg (by omega)]
    have hb : (m.toNat + 1) * n.net.trans.length ≤ 20000 := by
      have := Nat.mul_le_mul (show m.toNat + 1 ≤ 61 by omega) hT
      omega
    obtain ⟨p, hp⟩ := exFrom_go (n := n) (s := s) hb
    rw [hp]
    exact .inr ⟨by omega, p, rfl, rfl⟩
theorem weaker_space (hv : dvalidB n = true) (hk : n.guards[k]? = some b) (hw : dvalidB (stronger n k (andX a b)) = true) (hs : stateB n s0 = true) (hm : 1 ≤ most) (h1 : exFrom n s0 most = some p) (h2 : exFrom (stronger n k (andX a b)) s0 most = some q) (hf : p.full = true) :
    (∀ x ∈ q.states, x ∈ p.states) ∧ q.states.length ≤ p.states.length ∧ q.states[0]? = some s0 ∧ (∀ m ∈ q.moves, m.src < q.states.length ∧ ∃ x, q.states[m.src]? = some x ∧ stateB n x = true ∧ (m.sym : Int) ∈ firesTo n x n.net.trans.length) := by
  have hp := exFrom_inv hv hs hm h1
  have hps := shut_of (exFrom_shut hv hs hm h1) hf
  have hq := exFrom_inv hw (show stateB (stronger n k (andX a b)) s0 = true from hs) hm h2
  have hsub : ∀ x ∈ q.states, x ∈ p.states := fun x hx => rch_in hps (rch_weaker hk (inv_rch_mem hq hx)) (List.mem_of_getElem? hp.head)
  refine ⟨hsub, nodup_sub _ _ hq.nodup hsub, hq.head, fun m hm => ?_⟩
  obtain ⟨x, y, e1, e2, e3⟩ := hq.mv m hm
  have hc : (fireD (stronger n k (andX a b)) x (m.sym : Int)).2 = 0 := by rw [e3]
  refine ⟨lt_of_get e1, x, e1, hq.ok x (List.mem_of_getElem? e1), ?_⟩
  unfold firesTo
  refine List.mem_map.2 ⟨m.sym, List.mem_filter.2 ⟨List.mem_range.2 (sym_lt ((fire_weaker hk hc).trans e3)), ?_⟩, rfl⟩
  rw [decide_eq_true_eq, fire_weaker hk hc, hc]
end
end Go.Proofs.YtlmenhjlgmejkaaGreatDoor

namespace Go.Proofs.YtlmenhjlgmejkaaGreatDoor
open Go.RowKit
structure Raw6 where
  val : List Value
  property : val.length = 6 ∧ ∀ u ∈ val, u.oneCell' = true
def RRaw : ElemR Raw6 := fun _ _ y c => c = y.val
theorem RRaw.kept : ElemR.Kept RRaw := fun _ _ _ _ _ _ _ _ h => h
def cellsRaw (r : Raw6) : List Value := r.val
theorem cellsRaw_len (r : Raw6) : (cellsRaw r).length = 6 := r.property.1
theorem appExs : AppInfo Tryz.prog 27 65 6 := AppInfo.mk' (z := .agg #[.int .i64 0, .int .i64 0, .int .i64 0, .string ⟨#[]⟩, .string ⟨#[]⟩, .slice none 0 0]) (bytes := 80) Tryz.underlying27 (by kernel_rfl) (by decide) rfl (by decide)
theorem rex_raw {n : Nat} {D : Nat → Prop} {w : World} {x : Ex} {cs : List Value} (h : RExN n D w x cs) : cs.length = 6 ∧ ∀ u ∈ cs, u.oneCell' = true := by
  cases n with
  | zero => exact h.elim
  | succ n =>
    obtain ⟨lv, rfl, _, _, _, A, c, rfl, _⟩ := h
    refine ⟨rfl, fun u hu => ?_⟩
    simp only [List.mem_cons, List.not_mem_nil, or_false] at hu
    rcases hu with rfl | rfl | rfl | rfl | rfl | rfl <;> rfl
theorem raws_of {n : Nat} {D : Nat → Prop} {w : World} {A : Option Addr} {m c : Nat} {gs : List Ex} (h : SlE n D w (.slice A m c) gs) :
    ∃ rows : List Raw6, rows.length = gs.length ∧ Sl 6 RRaw D w (.slice A m c) rows ∧ ∀ (i : Nat) (x : Ex) (r : Raw6), gs[i]? = some x → rows[i]? = some r → RExN n D w x r.val := by
  obtain ⟨A', c', hv, h1, h2, h3⟩ := h
  have hex : ∀ i : Fin gs.length, ∃ r : Raw6, ∃ b o, A' = some ⟨b, o, none⟩ ∧ D b ∧ RExN n D w gs[i] r.val ∧ ∀ j u, r.val[j]? = some u → w.cell? ⟨b, o + i * 6 + j, none⟩ = some u := fun i => by
    obtain ⟨b, o, cs, hA, hD, hl, hr, hc⟩ := h3 i gs[i] (List.getElem?_eq_getElem i.2)
    exact ⟨⟨cs, rex_raw hr⟩, b, o, hA, hD, hr, hc⟩
  have hf : ∀ i : Fin gs.length, ∃ b o, A' = some ⟨b, o, none⟩ ∧ D b ∧ RExN n D w gs[i] (Classical.choose (hex i)).val ∧ ∀ j u, (Classical.choose (hex i)).val[j]? = some u → w.cell? ⟨b, o + i * 6 + j, none⟩ = some u := fun i => Classical.choose_spec (hex i)
  have hget : ∀ (i : Nat) (r : Raw6), (List.ofFn fun i => Classical.choose (hex i))[i]? = some r → ∃ hi : i < gs.length, r = Classical.choose (hex ⟨i, hi⟩) := fun i r hr => by
    have hi := lt_of_get hr
    rw [List.getElem?_eq_getElem hi, List.getElem_ofFn] at hr
    injection hr with hr
    exact ⟨by simpa using hi, hr.symm⟩
  refine ⟨List.ofFn fun i => Classical.choose (hex i), by simp, ⟨A', c', by rw [List.length_ofFn]; exact hv, by rw [List.length_ofFn]; exact h1, h2, fun i r hr => ?_⟩, fun i x r hx hr => ?_⟩
  · obtain ⟨hi, rfl⟩ := hget i r hr
    obtain ⟨b, o, hA, hD, hr, hc⟩ := hf ⟨i, hi⟩
    exact ⟨b, o, _, hA, hD, (Classical.choose (hex ⟨i, hi⟩)).property.1, rfl, hc⟩
  · obtain ⟨hi, rfl⟩ := hget i r hr
    obtain ⟨b, o, hA, hD, hr, hc⟩ := hf ⟨i, hi⟩
    rw [List.getElem?_eq_getElem hi] at hx
    injection hx with hx
    subst hx
    exact hr
set_option maxHeartbeats 2000000 in
set_option maxRecDepth 100000 in
theorem cloneE (n : Nat) (v : Value) (gs : List Ex) (wd w : World) (h : SlE n (Lt wd.heap.size) wd v gs) (hbd : Below wd.heap.size wd w) (hl : gs.length ≤ 1000000) :
    Calls Tryz.prog 27 #[v] w fun e w' => ∃ v' rows, e = .returned v' ∧ OwnW 6 cellsRaw w' w.heap.size 65 v' rows ∧ rows.length = gs.length ∧ (∀ (i : Nat) (x : Ex) (r : Raw6), gs[i]? = some x → rows[i]? = some r → RExN n (Lt wd.heap.size) wd x r.val) ∧ Below w.heap.size w w' := by
  obtain ⟨A, c, rfl, h1, h2, ht⟩ := SlE.open_ h
  clear h
  obtain ⟨rows, hr1, hr2, hr3⟩ := raws_of ht
  have hr2 : Sl 6 RRaw (Lt w.heap.size) w (.slice A gs.length c) rows := Sl.below hr2 RRaw.kept hbd hbd.size
  have HR3 := Lib.hid hr3
  have hrl : rows.length ≤ 1000000 := by omega
  have HR1 := Lib.hid hr1
  have qeq : ∀ (w : World) (a : Option Addr) (n c n' c' : Nat), (binOp .eql 27 (.slice a n c) (.slice none n' c')).run Tryz.prog w = .ok (.bool a.isNone) w := fun w a n c n' c' => Lib.run_eql_slice_nil w _ _ a n c n' c' Tryz.underlying27
  clear hr3 hr1
  go_enter Tryz.func27, Tryz.ntmps27
  cases A with
  | none =>
    have h0 : gs = [] := by
      match gs, ht with
      | [], _ => rfl
      | x :: xs, ht => obtain ⟨b, o, _, _, _, _, e, _⟩ := SlE.at_ (k := 0) ht (by simp); cases e
    subst h0
    go_wp2_with fail
    go_ret
    exact ⟨_, [], rfl, OwnW.nil, rfl, fun i x r hx => by simp at hx, Below.refl _ _⟩
  | some a =>
    have hb := bone w (.cells #[] 65)
    have htb : Sl 6 RRaw (Lt (w.alloc (.cells #[] 65)).heap.size) (w.alloc (.cells #[] 65)) (.slice (some a) gs.length c) rows := Sl.below hr2 RRaw.kept hb hb.size
    go_wp2_with (at_builtin; refine wpList_appendAllW (fc := cellsRaw) (R := RRaw) appExs rfl (.tmp 5) (.tmp 6) rfl _ cellsRaw_len [] _ rfl (World.ownsRow_lit (base := w.heap.size) (e := 65) (size := 6) w #[] 0 (Nat.le_refl _) (by unfold maxLen; omega) rfl) _ rows rfl htb (fun y c h => h) (fun y => y.property.2) (by simp; omega) (by simp) ?_; intro v' w' hown' hgr hat)
    have hbw : Below w.heap.size w w' := hb.trans (below_of_grown hgr (by simp) (fun g hg => by injection hg with hg; exact Nat.le_of_eq hg))
    go_wp2_with fail
    go_ret
    exact ⟨_, rows, rfl, hown', HR1.out, HR3.out, hbw⟩
theorem flat6_set (xs : List Raw6) : ∀ (k : Nat) (y : Raw6) (u0 u1 u2 u3 u4 u5 : Value), y.val = [u0, u1, u2, u3, u4, u5] → k < xs.length → flat cellsRaw (xs.set k y) = ((((((flat cellsRaw xs).set (k * 6) u0).set (k * 6 + 1) u1).set (k * 6 + 2) u2).set (k * 6 + 3) u3).set (k * 6 + 4) u4).set (k * 6 + 5) u5 := by
  induction xs with
  | nil => intro k y u0 u1 u2 u3 u4 u5 hy h; simp at h
  | cons x xs ih =>
    intro k y u0 u1 u2 u3 u4 u5 hy h
    obtain ⟨l, hl, hp⟩ := x
    match l, hl with
    | [a0, a1, a2, a3, a4, a5], hl =>
      cases k with
      | zero =>
        have e : flat cellsRaw (y :: xs) = y.val ++ flat cellsRaw xs := rfl
        show flat cellsRaw (y :: xs) = _
        rw [e, hy]
        rfl
      | succ k =>
        have e : ∀ zs, flat cellsRaw ((⟨[a0, a1, a2, a3, a4, a5], hl, hp⟩ : Raw6) :: zs) = a0 :: a1 :: a2 :: a3 :: a4 :: a5 :: flat cellsRaw zs := fun zs => rfl
        rw [List.set_cons_succ, e, e, ih k y u0 u1 u2 u3 u4 u5 hy (by simpa using h)]
        have b0 : (k + 1) * 6 = k * 6 + 1 + 1 + 1 + 1 + 1 + 1 := by omega
        have b1 : (k + 1) * 6 + 1 = k * 6 + 1 + 1 + 1 + 1 + 1 + 1 + 1 := by omega
        have b2 : (k + 1) * 6 + 2 = k * 6 + 2 + 1 + 1 + 1 + 1 + 1 + 1 := by omega
        have b3 : (k + 1) * 6 + 3 = k * 6 + 3 + 1 + 1 + 1 + 1 + 1 + 1 := by omega
        have b4 : (k + 1) * 6 + 4 = k * 6 + 4 + 1 + 1 + 1 + 1 + 1 + 1 := by omega
        have b5 : (k + 1) * 6 + 5 = k * 6 + 5 + 1 + 1 + 1 + 1 + 1 + 1 := by omega
        rw [b1, b2, b3, b4, b5, b0]
        simp only [List.set_cons_succ]
def put6 (w : World) (g k : Nat) (u0 u1 u2 u3 u4 u5 : Value) : World := (((((w.setCell ⟨g, k * 6, none⟩ u0).setCell ⟨g, k * 6 + 1, none⟩ u1).setCell ⟨g, k * 6 + 2, none⟩ u2).setCell ⟨g, k * 6 + 3, none⟩ u3).setCell ⟨g, k * 6 + 4, none⟩ u4).setCell ⟨g, k * 6 + 5, none⟩ u5
section
variable {w w1 : World} {base g h k cap : Nat} {u0 u1 u2 u3 u4 u5 : Value} {rows : List Raw6}
theorem put6_own (ho : OwnW 6 cellsRaw w base 65 (.slice (some ⟨g, 0, none⟩) rows.length cap) rows) (hk : k < rows.length) (y : Raw6) (hy : y.val = [u0, u1, u2, u3, u4, u5]) :
    OwnW 6 cellsRaw (put6 w g k u0 u1 u2 u3 u4 u5) base 65 (.slice (some ⟨g, 0, none⟩) rows.length cap) (rows.set k y) := by
  have := ((((((World.ownsRow.stored ho (k * 6) u0).1.stored (k * 6 + 1) u1).1.stored (k * 6 + 2) u2).1.stored (k * 6 + 3) u3).1.stored (k * 6 + 4) u4).1.stored (k * 6 + 5) u5).1
  unfold OwnW
  rw [List.length_set, flat6_set rows k y u0 u1 u2 u3 u4 u5 hy hk]
  exact this
theorem put6_cells (ho : OwnW 6 cellsRaw w base 65 (.slice (some ⟨g, 0, none⟩) rows.length cap) rows) (hk : k < rows.length) :
    ∃ v0 v1 v2 v3 v4 v5, w.cell? ⟨g, k * 6, none⟩ = some v0 ∧ w.cell? ⟨g, k * 6 + 1, none⟩ = some v1 ∧ w.cell? ⟨g, k * 6 + 2, none⟩ = some v2 ∧ w.cell? ⟨g, k * 6 + 3, none⟩ = some v3 ∧ w.cell? ⟨g, k * 6 + 4, none⟩ = some v4 ∧ w.cell? ⟨g, k * 6 + 5, none⟩ = some v5 ∧
      (∀ j, w.frozen? ⟨g, j, none⟩ = false) ∧ (∀ u ∈ [v0, v1, v2, v3, v4, v5], u.oneCell' = true) := by
  have hx := List.getElem?_eq_getElem hk
  obtain ⟨l, hl, hp⟩ : ∃ l : List Value, l.length = 6 ∧ l = (rows[k]).val := ⟨_, (rows[k]).property.1, rfl⟩
  match l, hl with
  | [v0, v1, v2, v3, v4, v5], hl =>
    have hat : ∀ j, j < 6 → w.cell? ⟨g, k * 6 + j, none⟩ = [v0, v1, v2, v3, v4, v5][j]? := fun j hj => by
      rw [World.ownsRow.cellAt ho (k * 6 + j) (by omega), flat_get cellsRaw_len rows k j _ hx hj]
      show (rows[k]).val[j]? = _
      rw [← hp]
    exact ⟨v0, v1, v2, v3, v4, v5, hat 0 (by omega), hat 1 (by omega), hat 2 (by omega), hat 3 (by omega), hat 4 (by omega), hat 5 (by omega), fun j => World.ownsRow.frozenAt ho j, fun u hu => (rows[k]).property.2 u (by rw [← hp]; exact hu)⟩
theorem put6_far {t : TypeId} {cs : Array Value} (hB : Blk w h t cs) (hh : h ≠ g) : Blk (put6 w g k u0 u1 u2 u3 u4 u5) h t cs :=
  (((((hB.far (p := ⟨g, k * 6, none⟩) hh u0).far (p := ⟨g, k * 6 + 1, none⟩) hh u1).far (p := ⟨g, k * 6 + 2, none⟩) hh u2).far (p := ⟨g, k * 6 + 3, none⟩) hh u3).far (p := ⟨g, k * 6 + 4, none⟩) hh u4).far (p := ⟨g, k * 6 + 5, none⟩) hh u5
theorem put6_below {B : Nat} (hb : Below B w1 w) (hg : B ≤ g) : Below B w1 (put6 w g k u0 u1 u2 u3 u4 u5) :=
  (((((hb.setCell (p := ⟨g, k * 6, none⟩) hg u0).setCell (p := ⟨g, k * 6 + 1, none⟩) hg u1).setCell (p := ⟨g, k * 6 + 2, none⟩) hg u2).setCell (p := ⟨g, k * 6 + 3, none⟩) hg u3).setCell (p := ⟨g, k * 6 + 4, none⟩) hg u4).setCell (p := ⟨g, k * 6 + 5, none⟩) hg u5
end
theorem stronger_sl {N B base g h k cap : Nat} {W0 W : World} {rows : List Raw6} {gs : List Ex} {a b : Ex} {ca cb : List Value} (hbW : Below B W0 W) (ho : OwnW 6 cellsRaw W base 65 (.slice (some ⟨g, 0, none⟩) rows.length cap) rows) (hlen : rows.length = gs.length)
    (hr : ∀ (i : Nat) (x : Ex) (r : Raw6), gs[i]? = some x → rows[i]? = some r → RExN N (Lt B) W0 x r.val) (hg : B ≤ g) (hB0 : B ≤ W0.heap.size) (hk : k < gs.length) (hH : Blk W h 65 (ca ++ cb).toArray) (hh : h ≠ g) (ra : RExN N (Lt B) W0 a ca) (rb : RExN N (Lt B) W0 b cb) :
    SlE (N + 1) (Lt (put6 W g k (.int .i64 4) (.int .i64 0) (.int .i64 0) (.string ⟨#[]⟩) (.string ⟨#[]⟩) (.slice (some ⟨h, 0, none⟩) 2 2)).heap.size) (put6 W g k (.int .i64 4) (.int .i64 0) (.int .i64 0) (.string ⟨#[]⟩) (.string ⟨#[]⟩) (.slice (some ⟨h, 0, none⟩) 2 2)) (.slice (some ⟨g, 0, none⟩) gs.length cap) (gs.set k (andX a b)) := by
  have hkr : k < rows.length := by omega
  let y : Raw6 := ⟨[.int .i64 4, .int .i64 0, .int .i64 0, .string ⟨#[]⟩, .string ⟨#[]⟩, .slice (some ⟨h, 0, none⟩) 2 2], rfl, fun u hu => by
    simp only [List.mem_cons, List.not_mem_nil, or_false] at hu
    rcases hu with rfl | rfl | rfl | rfl | rfl | rfl <;> rfl⟩
  have hown := put6_own ho hkr y rfl
  have hbp : Below B W0 (put6 W g k (.int .i64 4) (.int .i64 0) (.int .i64 0) (.string ⟨#[]⟩) (.string ⟨#[]⟩) (.slice (some ⟨h, 0, none⟩) 2 2)) := put6_below hbW hg
  have hHp := put6_far (k := k) (u0 := .int .i64 4) (u1 := .int .i64 0) (u2 := .int .i64 0) (u3 := .string ⟨#[]⟩) (u4 := .string ⟨#[]⟩) (u5 := .slice (some ⟨h, 0, none⟩) 2 2) hH hh
  generalize put6 W g k (.int .i64 4) (.int .i64 0) (.int .i64 0) (.string ⟨#[]⟩) (.string ⟨#[]⟩) (.slice (some ⟨h, 0, none⟩) 2 2) = W' at *
  have hd : ∀ q, Lt B q → Lt W'.heap.size q := fun q hq => Nat.lt_of_lt_of_le hq (Nat.le_trans hB0 hbp.size)
  have hs : Same (Lt B) W0 W' := fun q hq => hbp.block q hq
  have ra' : RExN N (Lt W'.heap.size) W' a ca := RExN.kept N _ _ _ _ _ _ hd hs ra
  have rb' : RExN N (Lt W'.heap.size) W' b cb := RExN.kept N _ _ _ _ _ _ hd hs rb
  have hla : ca.length = 6 := (rex_raw ra).1
  have hlb : cb.length = 6 := (rex_raw rb).1
  have hpair : SlE N (Lt W'.heap.size) W' (.slice (some ⟨h, 0, none⟩) 2 2) [a, b] := by
    refine Sl.ofBlk (xs := [a, b]) hHp (by unfold maxLen; simp) fun i x hx => ?_
    match i, hx with
    | 0, hx =>
      injection hx with hx
      subst hx
      exact ⟨ca, hla, fun j u hu => by rw [Nat.zero_mul, Nat.zero_add, List.getElem?_append_left (lt_of_get hu)]; exact hu, ra'⟩
    | 1, hx =>
      injection hx with hx
      subst hx
      exact ⟨cb, hlb, fun j u hu => by rw [List.getElem?_append_right (by omega)]; rw [show 1 * 6 + j - ca.length = j by omega]; exact hu, rb'⟩
  have key : SlE (N + 1) (Lt W'.heap.size) W' (.slice (some ⟨g, 0, none⟩) rows.length cap) (gs.set k (andX a b)) := by
    have hown' : World.ownsRow W' base 65 6 (.slice (some ⟨g, 0, none⟩) rows.length cap) (rows.set k y).length (flat cellsRaw (rows.set k y)) := hown
    refine Sl.of_own hown' (by simp [hlen]) (own_lt hown') fun i x hx => ?_
    by_cases e : i = k
    · subst e
      rw [List.getElem?_set_self hk] at hx
      injection hx with hx
      subst hx
      refine ⟨y.val, rfl, fun j u hu => ?_, ?_⟩
      · rw [flat_get cellsRaw_len (rows.set i y) i j y (List.getElem?_set_self hkr) (by have := lt_of_get hu; rw [y.property.1] at this; exact this)]
        exact hu
      · exact ⟨_, rfl, fit_small 4 (by decide) (by decide), ⟨kinds.2.2.1, kinds.2.2.1, size_small emptyS (by decide)⟩, size_small emptyS (by decide), hpair⟩
    · rw [List.getElem?_set_ne (Ne.symm e)] at hx
      have hir : i < rows.length := by have := lt_of_get hx; omega
      have hrr := List.getElem?_eq_getElem hir
      refine ⟨rows[i].val, rows[i].property.1, fun j u hu => ?_, ?_⟩
      · rw [flat_get cellsRaw_len (rows.set k y) i j rows[i] (by rw [List.getElem?_set_ne (Ne.symm e)]; exact hrr) (by have := lt_of_get hu; rw [rows[i].property.1] at this; exact this)]
        exact hu
      · exact RExN.up N (N + 1) (by omega) _ _ _ _ (RExN.kept N _ _ _ _ _ _ hd hs (hr i x _ hx hrr))
  rw [← hlen]
  exact key
theorem rex_of_is {n : Nat} {D : Nat → Prop} {w : World} {x : Ex} {lv : Value} (h : IsEx n D w (.agg #[.int .i64 x.op, .int .i64 x.v.kind, .int .i64 x.v.n, .string x.v.s, .string x.s, lv]) x) : RExN (n + 1) D w x [.int .i64 x.op, .int .i64 x.v.kind, .int .i64 x.v.n, .string x.v.s, .string x.s, lv] := by
  obtain ⟨lv', e, a1, a2, a3, a4⟩ := h
  simp only [Value.agg.injEq, Array.mk.injEq, List.cons.injEq, and_true, true_and] at e
  subst e
  exact ⟨lv, rfl, a1, a2, a3, a4⟩
theorem dn_parts {n : Nat} {D : Nat → Prop} {w : World} {a b c d e f g h : Value} {t : DNet} (hd : IsDn n D w (.agg #[a, b, c, d, e, f, g, h]) t) : IsNet D w (.agg #[a, b, c, d]) t.net ∧ SlX D w e t.vars ∧ SlV D w f t.init ∧ SlE n D w g t.guards ∧ SlWW n D w h t.writes := by
  obtain ⟨tv, xv, iv, gv, wv, ev, p1, p2, p3, p4, p5⟩ := hd
  simp only [Value.agg.injEq, Array.mk.injEq, List.cons.injEq, and_true] at ev
  obtain ⟨rfl, rfl, rfl, rfl, rfl, rfl, rfl, rfl⟩ := ev
  exact ⟨p1, p2, p3, p4, p5⟩
theorem SlW.up {n m : Nat} (h : n ≤ m) {D : Nat → Prop} {w : World} {u : Value} {zs : List Wr} (hs : SlW n D w u zs) : SlW m D w u zs := by
  obtain ⟨A, c, hv, h4, h5, h6⟩ := hs
  refine ⟨A, c, hv, h4, h5, fun i y hy => ?_⟩
  obtain ⟨b, o, cs', hA, hD, hl, ⟨lv, e, hf, lv', he, a1, a2, a3, a4⟩, hc⟩ := h6 i y hy
  exact ⟨b, o, cs', hA, hD, hl, ⟨lv, e, hf, lv', he, a1, a2, a3, SlE.up h a4⟩, hc⟩
theorem SlWW.up {n m : Nat} (h : n ≤ m) {D : Nat → Prop} {w : World} {u : Value} {zs : List (List Wr)} (hs : SlWW n D w u zs) : SlWW m D w u zs := by
  obtain ⟨A, c, hv, h4, h5, h6⟩ := hs
  refine ⟨A, c, hv, h4, h5, fun i y hy => ?_⟩
  obtain ⟨b, o, cs', hA, hD, hl, ⟨v, e, hf⟩, hc⟩ := h6 i y hy
  exact ⟨b, o, cs', hA, hD, hl, ⟨v, e, SlW.up h hf⟩, hc⟩
end Go.Proofs.YtlmenhjlgmejkaaGreatDoor

namespace Go.Proofs.YtlmenhjlgmejkaaGreatDoor
open Go.RowKit
def putsAll (σ : Nat → Value) : List Oper → Act → Act
  | [], a => a
  | o :: l, a => putsAll σ l (a.put o.dst (σ (o.dst.getD 0)))
theorem puts_size (σ : Nat → Value) : ∀ (l : List Oper) (a : Act), (putsAll σ l a).tmps.size = a.tmps.size
  | [], a => rfl
  | o :: l, a => by rw [putsAll, puts_size σ l, size_put]
theorem puts_defers (σ : Nat → Value) : ∀ (l : List Oper) (a : Act), (putsAll σ l a).defers = a.defers
  | [], a => rfl
  | o :: l, a => by rw [putsAll, puts_defers σ l, defers_put]
theorem puts_slot (σ : Nat → Value) : ∀ (l : List Oper) (a : Act), (∀ o ∈ l, ∀ k, o.dst = some k → k < a.tmps.size) → ∀ s, Act.slot (putsAll σ l a) s = if (l.any fun o => o.dst == some s) = true then σ s else Act.slot a s
  | [], a, _, s => by simp [putsAll]
  | o :: l, a, h, s => by
    rw [putsAll, puts_slot σ l _ (fun o' ho' k hk => by rw [size_put]; exact h o' (by simp [ho']) k hk) s, slot_put (h o (by simp)), List.any_cons]
    cases hd : o.dst with
    | none => simp [upd]
    | some d =>
      by_cases hs : s = d
      · subst hs; simp [upd]
      · have hds : (some d == some s) = false := by simpa using fun e => hs e.symm
        simp [upd, hs, hds]
theorem act_ext {a b : Act} (h1 : a.tmps.size = b.tmps.size) (h2 : a.defers = b.defers) (h3 : ∀ s, Act.slot a s = Act.slot b s) : a = b := by
  obtain ⟨t, d⟩ := a
  obtain ⟨t', d'⟩ := b
  dsimp only at h1 h2
  subst h2
  congr 1
  refine Array.ext h1 fun i hi hi' => ?_
  have := h3 i
  simpa [Act.slot, hi, hi'] using this
theorem Kin.form {l : List Oper} {a0 a : Act} (h : Kin l a0 a) (hB : dstsB l a0.tmps.size = true) : a = putsAll (Act.slot a) l a0 := by
  have hd : ∀ o ∈ l, ∀ k, o.dst = some k → k < a0.tmps.size := fun o ho k hk => by
    unfold dstsB at hB
    rw [List.all_eq_true] at hB
    have := hB o ho
    rw [Bool.and_eq_true, hk] at this
    simpa using this.2
  refine act_ext ?_ ?_ fun s => ?_
  · rw [puts_size]; exact h.size
  · rw [puts_defers]; exact h.defers
  · rw [puts_slot _ _ _ hd]
    split
    · rfl
    · rename_i hn
      refine h.slots s fun o ho e => hn ?_
      rw [List.any_eq_true]
      exact ⟨o, ho, by rw [e]; simp⟩
section
variable {P : Program} {o : Oper} {a : Act} {w : World} {K : Act → World → Prop} {Q : Exit → Act → World → Prop}
theorem wpM_field (t : TypeId) (x : Operand) (f : Nat) (p V : Value) (ho : o.op = .fieldAddr t x f) (hv : a.eval x = p) (hr : (Instr.fieldAt t p f).run P w = .ok V w) (h : K (a.put o.dst V) w) : o.wp P a w K Q := by
  unfold Oper.wp execOp
  simp only [ho, hv, Sem.run_bind, hr, Result.andThen_ok]
  exact h
theorem wpM_run (V : Value) (w' : World) (hr : (execOp a.eval o).run P w = .ok (.value V) w') (h : K (a.put o.dst V) w') : o.wp P a w K Q := by
  unfold Oper.wp
  rw [hr]
  exact h
end
def cpF (s : St) (p0 p1 v0 v1 : Value) (B j : Nat) (v : Value) (W : World) : Prop := match j with
  | 0 => ∃ g, v = .slice (some ⟨g, 0, none⟩) 0 0 ∧ W.ownsRow B 3 1 v 0 []
  | 1 => v = p0
  | 2 => v = v0
  | 3 => ∃ A c, v = .slice A s.marks.length c ∧ SlI (Fr B W) W v s.marks
  | 4 => ∃ g, v = .slice (some ⟨g, 0, none⟩) 0 0 ∧ OwnV W B v []
  | 5 => v = p1
  | 6 => v = v1
  | 7 => ∃ A c, v = .slice A s.vals.length c ∧ SlV (Fr B W) W v s.vals
  | 8 => ∃ A c A' c', v = .agg #[.slice A s.marks.length c, .slice A' s.vals.length c'] ∧ SlI (Fr B W) W (.slice A s.marks.length c) s.marks ∧ SlV (Fr B W) W (.slice A' s.vals.length c') s.vals
  | 9 => ∃ g, v = .pointer (some ⟨g, 0, none⟩) ∧ B ≤ g ∧ Blk W g 33 #[.slice none 0 0, .slice none 0 0]
  | _ => True
end Go.Proofs.YtlmenhjlgmejkaaGreatDoor

namespace Go.Proofs.YtlmenhjlgmejkaaGreatDoor
open Go.RowKit
def Can (d : DNet) (x : St) : Prop := ∃ y, Rch d x y ∧ finalM d y.marks = true
section
variable {d : DNet} {s0 s : St} {most i : Nat} {p : Sp}
end
def firstS (d : DNet) : St := ⟨oneB d.net d.net.source, d.init⟩
structure Tells (d : DNet) (m : Int) (x : St) (q : Sp) : Prop where
  expl : dexplE d x m = (q, 0)
  full : q.full = true
  len : q.states.length ≤ 2000
  ok : ∀ y ∈ q.states, vstateB d y = true
  fin : (∃ y ∈ q.states, finalM d y.marks = true) ↔ Can d x
structure Wit (d : DNet) (m : Int) (ok : Bool) (path : List Int) (p : Sp) : Prop where
  valid : dvalidB d = true
  start : vstateB d (firstS d) = true
  tells : Tells d m (firstS d) p
  each : ∀ x ∈ p.states, ∃ q, Tells d m x q
  pos : 1 ≤ m
  yes : ok = true → path = [] ∧ ∀ x ∈ p.states, Can d x
  no : ok = false → path.length ≤ 60 ∧ ∃ x, x ∈ p.states ∧ drunB d (firstS d) path = (x, path.length, 0) ∧ (Can d x → finalM d x.marks = false ∧ 0 < x.marks.getD d.net.sink.toNat 0)
end Go.Proofs.YtlmenhjlgmejkaaGreatDoor
