/- Texts of this seat, merged. -/
import Derived.Test.YtlmenhjlgmejkaaGreatDoorIn28
import Derived.Test.YtlmenhjlgmejkaaGreatDoorIn18
import Derived.Test.YtlmenhjlgmejkaaGreatDoorIn10
import Derived.Test.YtlmenhjlgmejkaaGreatDoorIn06
import Derived.Test.YtlmenhjlgmejkaaGreatDoorIn05
import Derived.Test.YtlmenhjlgmejkaaGreatDoorIn02
import Derived.WalkKit
import Derived.WalkSpells
import Derived.WalkLawsBesides
import Derived.Lib.Hide
import Derived.Deep.Draws
import Derived.Deep.OwnRows
import Derived.Test.YtlmenhjlgmejkaaGreatDoorIn01
import Derived.Test.YtlmenhjlgmejkaaGreatDoorProg
import Derived.Outline
import Derived.Deep.Light
import Derived.Lib.SlicesCompact
import Derived.Deep.RegionWith
import Derived.Test.YtlmenhjlgmejkaaGreatDoorIn04
import Derived.Deep.QuietTactic
import Derived.BigQuiet
import Derived.Deep.RegionHeld3
import Derived.Test.YtlmenhjlgmejkaaGreatDoorIn03
import Derived.Shelf.Abstract
import Derived.Laws.IdiomStrings
import Derived.Maps.AppendAt
import Derived.Deep.AppendLies
import Derived.RegionTactic
import Derived.OwnWalk
import Derived.Sort.OwnSorted
import Derived.Lib.Bytes
import Derived.Shelf.Strings.Builder1
import Derived.Shelf.Small.Bits
import Derived.Shelf.Small.Wraps
import Derived.Shelf.Strings.BuilderF
import Derived.Shelf.Strings.BuilderK
import Derived.Shelf.Strconv.Itoa0
import Derived.Shelf.Strconv.Itoa1
import Derived.Shelf.LaysM
import Derived.Shelf.Strconv.Itoa2
import Derived.Shelf.Strconv.Itoa3
import Derived.Shelf.Sort.Plain
import Derived.Shelf.Strings.BuilderCap
import Derived.Shelf.Slices.Turned
import Derived.Shelf.Slices.Reverse
import Derived.Shelf.Slices.Equal
import Derived.Ground.Names2Prog
import Derived.Shelf.Slices.Clone
import Derived.Shelf.Slices.CompactS
import Derived.Shelf.Slices.Cells
import Derived.Shelf.Slices.In.SortNone
import Derived.Shelf.Slices.Empties2
import Derived.Maps.OwnOps
import Derived.Maps.OwnSet
import Derived.Maps.Views
import Derived.StringKeys
import Derived.Lib.Builder
import Derived.Lib.AppendStr
import Derived.Lib.UnsafeStr
import Derived.Lib.FrozenHead2
import Derived.Lib.OthersKept
import Derived.Laws.Externs
import Derived.Lib.Slices
import Derived.Test.YtlmenhjlgmejkaaGreatDoorIn09
import Derived.Test.YtlmenhjlgmejkaaGreatDoorIn08
import Derived.Test.YtlmenhjlgmejkaaGreatDoorIn07
import Derived.Laws.MakeOwn
import Derived.Laws.Entries
import Derived.Lib.ItoaNum
import Derived.Lib.ItoaMem
import Derived.Lib.AtoiTie
import Derived.Test.YtlmenhjlgmejkaaGreatDoorIn23
import Derived.Deep.DeepCutAuto
import Derived.Test.YtlmenhjlgmejkaaGreatDoorIn22
import Derived.Test.YtlmenhjlgmejkaaGreatDoorIn21
import Derived.Test.YtlmenhjlgmejkaaGreatDoorIn20
import Derived.Test.YtlmenhjlgmejkaaGreatDoorIn19
import Derived.Test.YtlmenhjlgmejkaaGreatDoorIn17
import Derived.Test.YtlmenhjlgmejkaaGreatDoorIn16
import Derived.Test.YtlmenhjlgmejkaaGreatDoorIn15
import Derived.Test.YtlmenhjlgmejkaaGreatDoorIn14
import Derived.Test.YtlmenhjlgmejkaaGreatDoorIn13
import Derived.Test.YtlmenhjlgmejkaaGreatDoorIn12
import Derived.Test.YtlmenhjlgmejkaaGreatDoorIn11
import Derived.StillTailTactics
import Derived.Deep.RegionHeld
import Derived.Orders
import Derived.Deep.Quiet
import Derived.StillTail
import Derived.Maps.Keyed
import Derived.Test.YtlmenhjlgmejkaaGreatDoorIn25
import Derived.Test.YtlmenhjlgmejkaaGreatDoorIn24
import Derived.Deep.LoopGhost
import Derived.Test.YtlmenhjlgmejkaaGreatDoorIn27
import Derived.Test.YtlmenhjlgmejkaaGreatDoorIn26
import Derived.Test.YtlmenhjlgmejkaaGreatDoorIn29
import Derived.IntWalk
import Derived.Test.YtlmenhjlgmejkaaGreatDoorWi01
import Derived.Test.YtlmenhjlgmejkaaGreatDoorWi02
import Derived.Test.YtlmenhjlgmejkaaGreatDoorWi03
import Derived.Test.YtlmenhjlgmejkaaGreatDoorWi04
import Derived.Test.YtlmenhjlgmejkaaGreatDoorWi05
import Derived.Test.YtlmenhjlgmejkaaGreatDoorWi06
import Derived.Test.YtlmenhjlgmejkaaGreatDoorWi07
import Derived.Test.YtlmenhjlgmejkaaGreatDoorWi08
set_option linter.unusedSimpArgs false
set_option linter.unusedVariables false
namespace Go.Proofs.YtlmenhjlgmejkaaGreatDoor
open Go.RowKit
inductive Rch (n : DNet) : St → St → Prop where
  | refl (s : St) : Rch n s s
  | step {s x : St} {t : Nat} (ht : t < n.net.trans.length) (h : (fireD n s (t : Int)).2 = 0) (hx : Rch n (fireD n s (t : Int)).1 x) : Rch n s x
theorem Rch.snoc {n : DNet} {s x : St} {t : Nat} (h : Rch n s x) (ht : t < n.net.trans.length) (hf : (fireD n x (t : Int)).2 = 0) : Rch n s (fireD n x (t : Int)).1 := by
  induction h with
  | refl s => exact .step ht hf (.refl _)
  | step a b _ ih => exact .step a b (ih hf)
theorem sym_lt {n : DNet} {s s' : St} {t : Nat} (h : fireD n s (t : Int) = (s', 0)) : t < n.net.trans.length := by
  have := (fire_parts (n := n) (s := s) (t := (t : Int)) (by rw [h])).2.1
  omega
def ShutS (n : DNet) (P : List St) : Prop := ∀ s ∈ P, ∀ t : Nat, t < n.net.trans.length → (fireD n s (t : Int)).2 ≠ 5 ∧ ((fireD n s (t : Int)).2 = 0 → (fireD n s (t : Int)).1 ∈ P)
section
variable {n : DNet} {s0 s x : St} {most : Nat} {p q : Sp}
theorem shut_of (h : DShut n p p.states.length 0) (hf : p.full = true) : ShutS n p.states := by
  intro s hs t ht
  obtain ⟨i, hi⟩ := List.mem_iff_getElem?.1 hs
  obtain ⟨a, b⟩ := h i t s (.inl (lt_of_get hi)) ht hi hf
  refine ⟨a, fun hc => ?_⟩
  obtain ⟨k, _, k2⟩ := b hc
  exact List.mem_of_getElem? k2
theorem rch_in {P : List St} (hsh : ShutS n P) (h : Rch n s x) (hs : s ∈ P) : x ∈ P := by
  induction h with
  | refl s => exact hs
  | step ht hc _ ih => exact ih ((hsh _ hs _ ht).2 hc)
theorem canF_rch (hmv : ∀ m ∈ p.moves, MvOk n p.states m) {i : Nat} (h : CanF n p i) : ∀ s, p.states[i]? = some s → ∃ x, Rch n s x ∧ finalM n x.marks = true := by
  unfold CanF at h
  induction h with
  | here h =>
    intro s hs
    obtain ⟨y, h1, h2⟩ := h
    rw [hs] at h1
    injection h1 with h1
    subst h1
    exact ⟨_, .refl _, h2⟩
  | @go m hm _ ih =>
    intro s hs
    obtain ⟨a, b, h1, h2, h3⟩ := hmv m hm
    rw [hs] at h1
    injection h1 with h1
    subst h1
    obtain ⟨x, hx, hfx⟩ := ih b h2
    exact ⟨x, .step (t := m.sym) (sym_lt h3) (by rw [h3]) (by rw [h3]; exact hx), hfx⟩
theorem rch_canF (hsh : DShut n p p.states.length 0) (hf : p.full = true) (h : Rch n s x) (hx : finalM n x.marks = true) : ∀ i, p.states[i]? = some s → CanF n p i := by
  induction h with
  | refl s => intro i hi; exact .here ⟨_, hi, hx⟩
  | step ht hc _ ih =>
    intro i hi
    obtain ⟨_, b⟩ := hsh i _ _ (.inl (lt_of_get hi)) ht hi hf
    obtain ⟨k, k1, k2⟩ := b hc
    exact CanR.go k1 (ih hx k k2)
theorem inv_rch (h : DInv n s0 most q) : ∀ (k : Nat) (s : St), q.states[k]? = some s → Rch n s0 s := by
  intro k
  induction k using Nat.strongRecOn with
  | _ k ih =>
    intro s hs
    by_cases h0 : k = 0
    · subst h0
      rw [h.head] at hs
      injection hs with hs
      subst hs
      exact .refl _
    · obtain ⟨m, hm⟩ := h.met k (by omega) (lt_of_get hs)
      obtain ⟨m1, m2, m3⟩ := byM_some hm
      obtain ⟨a, b, h1, h2, h3⟩ := h.mv m m1
      rw [m2, hs] at h2
      injection h2 with h2
      subst h2
      have h4 := (ih m.src m3 a h1).snoc (t := m.sym) (sym_lt h3) (by rw [h3])
      rwa [h3] at h4
theorem inv_rch_mem (h : DInv n s0 most q) (hx : x ∈ q.states) : Rch n s0 x := by
  obtain ⟨k, hk⟩ := List.mem_iff_getElem?.1 hx
  exact inv_rch h k x hk
theorem nodup_sub {α : Type} [DecidableEq α] : ∀ (l P : List α), l.Nodup → (∀ z ∈ l, z ∈ P) → l.length ≤ P.length
  | [], _, _, _ => Nat.zero_le _
  | a :: l, P, hn, h => by
    rw [List.nodup_cons] at hn
    have ha := h a (by simp)
    have := nodup_sub l (P.erase a) hn.2 fun z hz => (List.mem_erase_of_ne (fun e => hn.1 (by rw [← e]; exact hz))).2 (h z (by simp [hz]))
    rw [List.length_erase_of_mem ha] at this
    have := List.length_pos_of_mem ha
    simp
    omega
structure InL (P : List St) (q : Sp) (b : Nat) : Prop where
  sub : ∀ s ∈ q.states, s ∈ P
  full : q.full = true
  mvs : q.moves.length ≤ b
  nd : q.states.Nodup
theorem InL.more {P : List St} {b c : Nat} (h : InL P q b) (hc : b ≤ c) : InL P q c := ⟨h.sub, h.full, Nat.le_trans h.mvs hc, h.nd⟩
theorem exT_in {P : List St} {i t b : Nat} (hP : ShutS n P) (hl : P.length ≤ most) (hq : InL P q b) (hb : b < 20000) (hs : s ∈ P) (ht : t < n.net.trans.length) : ∃ r, exT n most i s t q = some r ∧ InL P r (b + 1) := by
  obtain ⟨h5, h0⟩ := hP s hs t ht
  have hm := hq.mvs
  unfold exT
  by_cases hc : (fireD n s (t : Int)).2 ≠ 0
  · rw [if_pos hc]
    exact ⟨_, rfl, hq.sub, by simp [hq.full, h5], by dsimp only; omega, hq.nd⟩
  · rw [if_neg hc]
    have hin := h0 (by simpa using hc)
    cases hk : idxS q.states (fireD n s (t : Int)).1 with
    | some k =>
      dsimp only
      rw [if_pos (by omega)]
      exact ⟨_, rfl, hq.sub, hq.full, by simp; omega, hq.nd⟩
    | none =>
      have hn := idxS_none hk
      have hnd : (q.states ++ [(fireD n s (t : Int)).1]).Nodup := by
        rw [List.nodup_append]
        refine ⟨hq.nd, by simp, fun a ha b hb => ?_⟩
        rw [List.mem_singleton] at hb
        subst hb
        rintro rfl
        exact hn ha
      have hsub : ∀ z ∈ q.states ++ [(fireD n s (t : Int)).1], z ∈ P := fun z hz => by
        rcases List.mem_append.1 hz with hz | hz
        · exact hq.sub z hz
        · rw [List.mem_singleton] at hz; subst hz; exact hin
      have hlen := nodup_sub _ P hnd hsub
      rw [List.length_append, List.length_singleton] at hlen
      dsimp only
      rw [if_pos (by omega), if_pos (by omega)]
      exact ⟨_, rfl, hsub, hq.full, by simp; omega, hnd⟩
theorem exRow_in {P : List St} {i : Nat} (hP : ShutS n P) (hl : P.length ≤ most) (hs : s ∈ P) : ∀ (f t : Nat) (q : Sp) (b : Nat), InL P q b → b + f ≤ 20000 → t + f ≤ n.net.trans.length → ∃ r, exRow n most i s f t q = some r ∧ InL P r (b + f)
  | 0, _, q, b, hq, _, _ => ⟨q, rfl, hq⟩
  | f + 1, t, q, b, hq, hb, ht => by
    obtain ⟨r, h1, h2⟩ := exT_in (i := i) (t := t) hP hl hq (by omega) hs (by omega)
    obtain ⟨r2, h3, h4⟩ := exRow_in (i := i) hP hl hs f (t + 1) r (b + 1) h2 (by omega) (by omega)
    exact ⟨r2, by rw [exRow, h1]; exact h3, h4.more (by omega)⟩
theorem exAll_in {P : List St} (hP : ShutS n P) (hl : P.length ≤ most) : ∀ (f i : Nat) (q : Sp) (b : Nat), InL P q b → b + f * n.net.trans.length ≤ 20000 → ∃ r, exAll n most f i q = some r ∧ InL P r (b + f * n.net.trans.length)
  | 0, _, q, b, hq, _ => ⟨q, rfl, hq.more (by omega)⟩
  | f + 1, i, q, b, hq, hb => by
    rw [Nat.succ_mul] at hb
    rw [exAll, Nat.succ_mul]
    cases hs : q.states[i]? with
    | none => exact ⟨q, rfl, hq.more (by omega)⟩
    | some s =>
      obtain ⟨r, h1, h2⟩ := exRow_in (i := i) hP hl (hq.sub s (List.mem_of_getElem? hs)) n.net.trans.length 0 q b hq (by omega) (by omega)
      obtain ⟨r2, h3, h4⟩ := exAll_in hP hl f (i + 1) r _ h2 (by omega)
      exact ⟨r2, by dsimp only; rw [h1]; exact h3, h4.more (by omega)⟩
theorem exFrom_in {P : List St} (hP : ShutS n P) (hl : P.length ≤ most) (hs : s ∈ P) (hb : (most + 1) * n.net.trans.length ≤ 20000) : ∃ r, exFrom n s most = some r ∧ r.full = true := by
  obtain ⟨r, h1, h2⟩ := exAll_in (q := ⟨[s], [], true⟩) hP hl (most + 1) 0 0 ⟨fun z hz => by rw [List.mem_singleton] at hz; subst hz; exact hs, rfl, by simp, by simp⟩ (by omega)
  exact ⟨r, h1, h2.full⟩
end
theorem from_state {n : DNet} {s0 s : St} {most i : Nat} {p : Sp} (hv : dvalidB n = true) (hp : DInv n s0 most p) (hsh : DShut n p p.states.length 0) (hf : p.full = true) (hi : p.states[i]? = some s) (hm : 1 ≤ most) (hm2 : most ≤ 2000)
    (hb : (most + 1) * n.net.trans.length ≤ 20000) : ∃ q, dexplE n s (most : Int) = (q, 0) ∧ q.full = true ∧ q.states.length ≤ 2000 ∧ (∀ x ∈ q.states, stateB n x = true) ∧ ((∃ x ∈ q.states, finalM n x.marks = true) ↔ CanF n p i) := by
  have hP := shut_of hsh hf
  have hmem := List.mem_of_getElem? hi
  have hst := hp.ok s hmem
  obtain ⟨q, h1, h2⟩ := exFrom_in (most := most) hP hp.le hmem hb
  have hq := exFrom_inv hv hst hm h1
  have hqs := exFrom_shut hv hst hm h1
  refine ⟨q, ?_, h2, by have := hq.le; omega, hq.ok, ?_⟩
  · unfold dexplE vstateB
    rw [hv, hst, if_neg (by simp), if_neg (by omega), Int.toNat_natCast, h1]
  · constructor
    · rintro ⟨x, hx, hfx⟩
      exact rch_canF hsh hf (inv_rch_mem hq hx) hfx i hi
    · intro h
      obtain ⟨x, hx, hfx⟩ := canF_rch hp.mv h s hi
      exact ⟨x, rch_in (shut_of hqs h2) hx (List.mem_of_getElem? hq.head), hfx⟩
theorem backD_len (mv : List Mv) : ∀ (f k : Nat), (backD mv f k).length ≤ f
  | 0, _ => by simp [backD]
  | f + 1, k => by
    rw [backD]
    split
    · simp
    · split
      · simp
      · have := backD_len mv f
        simp [this]
theorem backD_run {n : DNet} {s0 : St} {most : Nat} {p : Sp} (hp : DInv n s0 most p) : ∀ (f k : Nat) (s : St), k ≤ f → p.states[k]? = some s →
    drunFrom n s0 ((backD p.moves f k).reverse.map fun (t : Nat) => (t : Int)) 0 = (s, 0 + ((backD p.moves f k).reverse.map fun (t : Nat) => (t : Int)).length, 0)
  | 0, k, s, hk, hs => by
    obtain rfl : k = 0 := by omega
    rw [hp.head] at hs
    injection hs with hs
    subst hs
    rfl
  | f + 1, k, s, hk, hs => by
    rw [backD]
    by_cases h0 : k = 0
    · subst h0
      rw [hp.head] at hs
      injection hs with hs
      subst hs
      rfl
    · rw [if_neg h0]
      obtain ⟨m, hm⟩ := hp.met k (by omega) (lt_of_get hs)
      obtain ⟨m1, m2, m3⟩ := byM_some hm
      obtain ⟨a, b, h1, h2, h3⟩ := hp.mv m m1
      rw [m2, hs] at h2
      injection h2 with h2
      subst h2
      have ih := backD_run hp f m.src a (by omega) h1
      rw [hm]
      dsimp only
      rw [List.reverse_cons, List.map_append]
      have := drun_snoc _ _ _ _ ih (t := (m.sym : Int)) (by rw [h3])
      rw [h3] at this
      exact this
theorem pathD_run {n : DNet} {s0 s : St} {most k : Nat} {p : Sp} (hp : DInv n s0 most p) (hs : p.states[k]? = some s) : drunFrom n s0 (pathD p.moves k) 0 = (s, 0 + (pathD p.moves k).length, 0) := backD_run hp k k s (Nat.le_refl _) hs
theorem pathD_len (mv : List Mv) (k : Nat) : (pathD mv k).length ≤ k := by
  unfold pathD
  rw [List.length_map, List.length_reverse]
  exact backD_len mv k k
end Go.Proofs.YtlmenhjlgmejkaaGreatDoor

namespace Go.Proofs.YtlmenhjlgmejkaaGreatDoor
open Go.RowKit
def Can (d : DNet) (x : St) : Prop := ∃ y, Rch d x y ∧ finalM d y.marks = true
section
variable {d : DNet} {s0 s : St} {most i : Nat} {p : Sp}
theorem canF_can (hp : DInv d s0 most p) (hsh : DShut d p p.states.length 0) (hf : p.full = true) (hi : p.states[i]? = some s) : CanF d p i ↔ Can d s :=
  ⟨fun h => canF_rch hp.mv h s hi, fun ⟨_, hy, hfy⟩ => rch_canF hsh hf hy hfy i hi⟩
end
def firstS (d : DNet) : St := ⟨oneB d.net d.net.source, d.init⟩
structure Tells (d : DNet) (m : Int) (x : St) (q : Sp) : Prop where
  expl : dexplE d x m = (q, 0)
  full : q.full = true
  len : q.states.length ≤ 2000
  ok : ∀ y ∈ q.states, vstateB d y = true
  fin : (∃ y ∈ q.states, finalM d y.marks = true) ↔ Can d x
structure Wit (d : DNet) (m : Int) (ok : Bool) (path : List Int) (p : Sp) : Prop where
  valid : dvalidB d = true
  start : vstateB d (firstS d) = true
  tells : Tells d m (firstS d) p
  each : ∀ x ∈ p.states, ∃ q, Tells d m x q
  pos : 1 ≤ m
  yes : ok = true → path = [] ∧ ∀ x ∈ p.states, Can d x
  no : ok = false → path.length ≤ 60 ∧ ∃ x, x ∈ p.states ∧ drunB d (firstS d) path = (x, path.length, 0) ∧ (Can d x → finalM d x.marks = false ∧ 0 < x.marks.getD d.net.sink.toNat 0)
theorem wit_of {d : DNet} {m : Int} {ok : Bool} {path : List Int} (h : dsoundE d m = (ok, path, 0)) (hm : m ≤ 60) (hT : d.net.trans.length ≤ 16) : ∃ p, Wit d m ok path p := by
  have hc : (dwholeE d m).2 = 0 := by
    by_cases hc : (dwholeE d m).2 = 0
    · exact hc
    · rw [dsound_err hc] at h
      injection h with _ h
      injection h with _ h
  obtain ⟨mo, hmo, hinv, hv, hfull, hex, hvst, hm1, rfl⟩ := whole_inv hc
  have hst := (vstate_parts hvst).2
  have hb : (mo + 1) * d.net.trans.length ≤ 20000 := by
    have := Nat.mul_le_mul (show mo + 1 ≤ 61 by omega) hT
    omega
  have hsh := exFrom_shut hv hst hm1 hex
  have hmv : ∀ m ∈ (dwholeE d (mo : Int)).1.moves, m.src < (dwholeE d (mo : Int)).1.states.length := fun m hm => by
    obtain ⟨s, s', a, _, _⟩ := hinv.mv m hm
    exact lt_of_get a
  have htell : ∀ (i : Nat) (x : St), (dwholeE d (mo : Int)).1.states[i]? = some x → ∃ q, Tells d mo x q := fun i x hx => by
    obtain ⟨q, e1, e2, e5, e3, e4⟩ := from_state hv hinv hsh hfull hx hm1 hmo hb
    exact ⟨q, e1, e2, e5, fun y hy => by unfold vstateB; rw [hv, e3 y hy]; rfl, e4.trans (canF_can hinv hsh hfull hx)⟩
  have hgood : ∀ (i : Nat) (x : St), (dwholeE d (mo : Int)).1.states[i]? = some x → ((goodL d (dwholeE d (mo : Int)).1).getD i false = true ↔ Can d x) := fun i x hx => (good_iff hmv i).trans (canF_can hinv hsh hfull hx)
  have hwe : dexplE d (firstS d) (mo : Int) = ((dwholeE d (mo : Int)).1, 0) := dexplE_some hvst ⟨hm1, hmo⟩ hex
  refine ⟨(dwholeE d (mo : Int)).1, hv, hvst, ?_, fun x hx => ?_, by omega, fun e => ?_, fun e => ?_⟩
  · obtain ⟨q, hq⟩ := htell 0 _ hinv.head
    have : q = (dwholeE d (mo : Int)).1 := by
      have h1 := hq.expl
      rw [show (⟨oneB d.net d.net.source, d.init⟩ : St) = firstS d from rfl, hwe] at h1
      injection h1 with h1
      exact h1.symm
    rw [← this]; exact hq
  · obtain ⟨i, hi⟩ := List.mem_iff_getElem?.1 hx
    exact htell i x hi
  · subst e
    cases hf : firstBad d (dwholeE d (mo : Int)).1 with
    | some k => rw [dsound_no hc hf] at h; injection h with h; cases h
    | none =>
      rw [dsound_yes hc hf] at h
      injection h with _ h
      injection h with h _
      refine ⟨h.symm, fun x hx => ?_⟩
      obtain ⟨i, hi⟩ := List.mem_iff_getElem?.1 hx
      unfold firstBad at hf
      rw [List.find?_eq_none] at hf
      have h1 := hf i (List.mem_range.2 (lt_of_get hi))
      rw [bad_at hi] at h1
      refine (hgood i x hi).1 ?_
      unfold badS at h1
      cases hg : (goodL d (dwholeE d (mo : Int)).1).getD i false
      · rw [hg] at h1; simp at h1
      · rfl
  · subst e
    cases hf : firstBad d (dwholeE d (mo : Int)).1 with
    | none => rw [dsound_yes hc hf] at h; injection h with h; cases h
    | some k =>
      rw [dsound_no hc hf] at h
      injection h with _ h
      injection h with h _
      subst h
      unfold firstBad at hf
      have hk1 := List.mem_range.1 (List.mem_of_find?_eq_some hf)
      have hk2 := List.find?_some hf
      have hx : (dwholeE d (mo : Int)).1.states[k]? = some ((dwholeE d (mo : Int)).1.states[k]) := List.getElem?_eq_getElem hk1
      generalize (dwholeE d (mo : Int)).1.states[k] = x at hx
      rw [bad_at hx] at hk2
      have hkl := pathD_len (dwholeE d (mo : Int)).1.moves k
      have hle := hinv.le
      refine ⟨by omega, x, List.mem_of_getElem? hx, ?_, fun hcan => ?_⟩
      · unfold drunB
        rw [show vstateB d (firstS d) = true from hvst, if_neg (by simp), if_neg (by omega)]
        have := pathD_run hinv hx
        rwa [Nat.zero_add] at this
      · unfold badS at hk2
        rw [(hgood k x hx).2 hcan] at hk2
        simp at hk2
        exact ⟨hk2.2, hk2.1⟩
end Go.Proofs.YtlmenhjlgmejkaaGreatDoor

namespace Go.Proofs.YtlmenhjlgmejkaaGreatDoor
open Go.RowKit
def endB (d : DNet) (q : Sp) : Bool := q.states.any fun y => finalM d y.marks
theorem endB_can {d : DNet} {m : Int} {x : St} {q : Sp} (h : Tells d m x q) : endB d q = true ↔ Can d x := by
  rw [← h.fin]
  unfold endB
  rw [List.any_eq_true]
theorem endB_yes {d : DNet} {q : Sp} {j : Nat} {y : St} (h : q.states[j]? = some y) (hf : finalM d y.marks = true) : endB d q = true := by
  unfold endB; rw [List.any_eq_true]; exact ⟨y, List.mem_of_getElem? h, hf⟩
theorem endB_no {d : DNet} {q : Sp} (h : ∀ (k : Nat) (y : St), k < q.states.length → q.states[k]? = some y → finalM d y.marks = false) : endB d q = false := by
  unfold endB
  rw [List.any_eq_false]
  intro y hy
  obtain ⟨k, hk⟩ := List.mem_iff_getElem?.1 hy
  rw [h k y (lt_of_get hk) hk]; simp
theorem dfinal_ok {d : DNet} {s : St} (h : vstateB d s = true) : dfinalE d s = (finalM d s.marks, 0) := by unfold dfinalE; rw [if_pos h]
set_option maxHeartbeats 8000000 in
set_option maxRecDepth 100000 in
theorem completes_any (n : Nat) (d : DNet) (m : Int) (x : St) (q : Sp) (us : Value) (gd gm : Nat) (At : Option Addr) (ct : Nat) (Ax : Option Addr) (cx : Nat) (iv : Value) (Ag : Option Addr) (cg : Nat) (Aw : Option Addr) (cw : Nat) (w : World)
    (h : IsDn n (Lt w.heap.size) w (.agg #[.int .i64 d.net.places, .slice At d.net.trans.length ct, .int .i64 d.net.source, .int .i64 d.net.sink, .slice Ax d.vars.length cx, iv, .slice Ag d.guards.length cg, .slice Aw d.writes.length cw]) d) (hB : Blk w gd 30 #[.int .i64 d.net.places, .slice At d.net.trans.length ct, .int .i64 d.net.source, .int .i64 d.net.sink, .slice Ax d.vars.length cx, iv, .slice Ag d.guards.length cg, .slice Aw d.writes.length cw]) (hM : Blk w gm 3 #[.int .i64 m]) (hs : IsSt (Lt w.heap.size) w us x) (hl : d.vars.length ≤ 1000000) (ha : Amb w) (ht : Tells d m x q) :
    Calls Tryz.prog 24 #[us, .pointer (some ⟨gd, 0, none⟩), .pointer (some ⟨gm, 0, none⟩)] w fun e w' => e = .returned (.tuple #[.bool (endB d q), .bool true]) ∧ Below w.heap.size w w' := by
  have hs0 := hs
  obtain ⟨Am, cm, Av, cv, rfl, s1, s2, ⟨t3, t4⟩, t5, t6⟩ := hs.open_
  clear hs s1 s2
  have HT := Lib.hid ht
  have hb := bone w (.cells #[.slice Am x.marks.length cm, .slice Av x.vals.length cv] 33)
  have hC := Blk.new w 33 #[.slice Am x.marks.length cm, .slice Av x.vals.length cv]
  have hB1 := hB.now hb
  have hM1 := hM.now hb
  have hd1 := h.now hb
  have hs1 := hs0.now hb
  have ha1 := ha.now hb
  have HEX := dexplore_any n d x m _ _ _ hd1 hs1 hl ha1
  rw [ht.expl] at HEX
  have HEX := Lib.hid HEX
  have HF := Lib.hid ht.full
  have hgd := hB.lt
  clear ht hB hM h hs0 ha ha1
  go_enter Tryz.func24, Tryz.ntmps24
  go_upto_region 1 with fail
  generalize hw1e : w.alloc (.cells #[.slice Am x.marks.length cm, .slice Av x.vals.length cv] 33) = w1 at *
  clear hw1e
  obtain ⟨q0, q1, q2, q3, q4, q5, q6, q7⟩ := hB1.c8
  obtain ⟨y0, y1⟩ := hC.c2
  have m0 : w1.cell? ⟨gm, 0, none⟩ = some (.int .i64 m) := hM1.cell 0
  go_wp2_with fail
  refine HEX.out.mono ?_
  rintro e w2 ⟨sv, mv, rfl, h1, h2, hb2⟩
  have hbw2 := bthen hb hb2
  have hB2 := hB1.now hb2
  have hd2 := hd1.now hb2
  clear HEX q0 q1 q2 q3 q4 q5 q6 q7 y0 y1 m0 hB1 hM1 hC hd1 hs1 h2
  obtain ⟨As, cs, rfl, sc1, sc2, h1⟩ := Sl.open_ h1
  have h1 : SlSt (Lt w2.heap.size) w2 (.slice As q.states.length cs) q.states := h1
  dsimp only
  rw [HF.out]
  go_wp2_with fail
  go_loopw [31] (fun i wr => ∃ j : Nat, j ≤ q.states.length ∧ i = .int .i64 j ∧ (∀ (k : Nat) (y : St), k < j → q.states[k]? = some y → finalM d y.marks = false) ∧ Below w2.heap.size w2 wr) (fun i _ => q.states.length - (intOf i).toNat)
  case atStart => exact ⟨0, Nat.zero_le _, rfl, fun k y hk => absurd hk (by omega), Below.refl _ _⟩
  case round =>
    obtain ⟨j, hj, rfl, hno, hbr⟩ := hrel
    have hbwr := bthen hbw2 hbr
    have HNO := Lib.hid hno
    clear hno
    by_cases hlt : j < q.states.length
    · obtain ⟨b, o, y, mv, vv, rfl, hD, hy, y1, y2, c0, c1⟩ := (h1.now hbr).at_ hlt
      have hv := HT.out.ok y (List.mem_of_getElem? hy)
      have HY := Lib.hid hy
      clear hy
      have hsy : IsSt (Lt wr.heap.size) wr (.agg #[mv, vv]) y := ⟨_, _, rfl, y1, y2⟩
      obtain ⟨A1, c1', e1, _, _, y1⟩ := Sl.open_ y1
      obtain ⟨A2, c2', e2, _, _, y2⟩ := Sl.open_ y2
      subst e1 e2
      clear y1 y2
      have hb3 := bone wr (.cells #[.slice A1 y.marks.length c1', .slice A2 y.vals.length c2'] 33)
      have hY := Blk.new wr 33 #[.slice A1 y.marks.length c1', .slice A2 y.vals.length c2']
      have hB3 := (hB2.now hbr).now hb3
      have hd3 := (hd2.now hbr).now hb3
      have hs3 := hsy.now hb3
      have hbw3 := bthen hbwr hb3
      have hb23 : Below w2.heap.size w2 (wr.alloc (.cells #[.slice A1 y.marks.length c1', .slice A2 y.vals.length c2'] 33)) := hbr.trans (hb3.mono hbr.size)
      have i1 : (0 : Int) ≤ (j : Int) := by omega
      have i2 : (j : Int) < (q.states.length : Int) := by omega
      go_upto_region 7 with fail
      generalize hw3 : wr.alloc (.cells #[.slice A1 y.marks.length c1', .slice A2 y.vals.length c2'] 33) = w3 at *
      clear hw3 c0 c1 hsy
      obtain ⟨q0, q1, q2, q3, q4, q5, q6, q7⟩ := hB3.c8
      obtain ⟨y0, y1⟩ := hY.c2
      have HFI := dfinal_any n d y _ _ w3 hd3 hs3 hl
      rw [dfinal_ok hv] at HFI
      have HFI := Lib.hid HFI
      clear hv
      go_wp2_with fail
      refine HFI.out.mono ?_
      rintro e w4 ⟨rfl, hb4⟩
      clear HFI q0 q1 q2 q3 q4 q5 q6 q7 y0 y1
      cases hf : finalM d y.marks with
      | true =>
        have HE := Lib.hid (endB_yes HY.out hf)
        clear hf
        go_wp2_with fail
        go_ret2
        rw [HE.out]
        exact ⟨rfl, bthen hbw3 hb4⟩
      | false =>
        have HFF := Lib.hid hf
        clear hf
        go_wp2_with fail
        go_roundw
        case rel =>
          refine ⟨j + 1, by omega, by go_num, fun k z hk hz => ?_, hb23.trans (hb4.mono hb23.size)⟩
          by_cases e : k < j
          · exact HNO.out k z e hz
          · obtain rfl : k = j := by omega
            rw [HY.out] at hz
            injection hz with hz
            subst hz
            exact HFF.out
        case measure => simp [intOf]; omega
    · obtain rfl : j = q.states.length := by omega
      have HE := Lib.hid (endB_no HNO.out)
      clear hlt
      go_wp2_with fail
      go_ret2
      rw [HE.out]
      exact ⟨rfl, hbwr⟩
end Go.Proofs.YtlmenhjlgmejkaaGreatDoor

namespace Go.Proofs.YtlmenhjlgmejkaaGreatDoor
open Go.RowKit
theorem wit_err {d : DNet} {m : Int} {p : Bool × List Int × Int} (h : dsoundE d m = p) (hc : p.2.2 ≠ 0) : p.1 = false ∧ p.2.1 = [] := by
  subst h
  unfold dsoundE at hc ⊢
  split at hc
  · rename_i h0; rw [if_pos h0]; exact ⟨rfl, rfl⟩
  · split at hc <;> exact absurd rfl hc
theorem initE_ok {d : DNet} (h : dvalidB d = true) : dinitE d = (firstS d, 0) := by unfold dinitE; rw [h]; rfl
set_option maxHeartbeats 16000000 in
set_option maxRecDepth 100000 in
theorem witness_any {n : Nat} (d : DNet) (m : Int) (u : Value) (w : World) (h : IsDn n (Lt w.heap.size) w u d) (ha : Amb w) :
    Calls Tryz.prog 5 #[u, .int .i64 m] w (RetTrue w) := by
  have h0 := h
  obtain ⟨At, ct, Ax, cx, iv, Ag, cg, Aw, cw, rfl, dn1, dn2, dn3, dn4, dn5, ⟨t1, t2⟩, ⟨x1, x2⟩, ⟨g1, g2⟩, v1, v2⟩ := h.open_
  clear h dn1 dn2 dn3 dn4 dn5
  have hb0 := bone w (.cells #[.int .i64 d.net.places, .slice At d.net.trans.length ct, .int .i64 d.net.source, .int .i64 d.net.sink, .slice Ax d.vars.length cx, iv, .slice Ag d.guards.length cg, .slice Aw d.writes.length cw] 30)
  have hb := bbox hb0 (.cells #[.int .i64 m] 3)
  have hB := (Blk.new w 30 #[.int .i64 d.net.places, .slice At d.net.trans.length ct, .int .i64 d.net.source, .int .i64 d.net.sink, .slice Ax d.vars.length cx, iv, .slice Ag d.guards.length cg, .slice Aw d.writes.length cw]).alloc (.cells #[.int .i64 m] 3)
  have hM := Blk.new_at (t := 3) (cs := #[.int .i64 m]) (w := w.alloc (.cells #[.int .i64 d.net.places, .slice At d.net.trans.length ct, .int .i64 d.net.source, .int .i64 d.net.sink, .slice Ax d.vars.length cx, iv, .slice Ag d.guards.length cg, .slice Aw d.writes.length cw] 30)) (s := w.heap.size + 1) (by simp)
  have hd1 := h0.now hb
  have ha1 := ha.now hb
  go_enter Tryz.func5, Tryz.ntmps5
  go_upto_region 1 with fail
  generalize hw1e : (w.alloc (.cells #[.int .i64 d.net.places, .slice At d.net.trans.length ct, .int .i64 d.net.source, .int .i64 d.net.sink, .slice Ax d.vars.length cx, iv, .slice Ag d.guards.length cg, .slice Aw d.writes.length cw] 30)).alloc (.cells #[.int .i64 m] 3) = w1 at *
  clear hw1e h0 ha hb0
  go_wp2_with fail
  refine (awake_any w1 ha1).mono ?_
  rintro e w2 ⟨rfl, hb2⟩
  have hbw2 := bthen hb hb2
  have hB2 := hB.now hb2
  have hM2 := hM.now hb2
  have hd2 := hd1.now hb2
  have ha2 := ha1.now hb2
  clear hB hM hd1 ha1 hb
  obtain ⟨q0, q1, q2, q3, q4, q5, q6, q7⟩ := hB2.c8
  have m0 : w2.cell? ⟨w.heap.size + 1, 0, none⟩ = some (.int .i64 m) := hM2.cell 0
  go_wp2_with fail
  refine (few_any n d _ w2 hd2).mono ?_
  rintro e w3 ⟨q, rfl, hq, hb3⟩
  have hbw3 := bthen hbw2 hb3
  have hB3 := hB2.now hb3
  have hM3 := hM2.now hb3
  have hd3 := hd2.now hb3
  have ha3 := ha2.now hb3
  clear hB2 hM2 hd2 ha2 q0 q1 q2 q3 q4 q5 q6 q7 m0 hbw2
  obtain ⟨q0, q1, q2, q3, q4, q5, q6, q7⟩ := hB3.c8
  have m0 : w3.cell? ⟨w.heap.size + 1, 0, none⟩ = some (.int .i64 m) := hM3.cell 0
  cases q
  · go_wp2_with fail
    go_ret
    exact ⟨rfl, hbw3⟩
  obtain ⟨_, hT, hl, _⟩ := hq rfl
  have hl : d.vars.length ≤ 1000000 := by omega
  clear hq
  by_cases c1 : m > 60
  · go_wp2_with fail
    go_ret
    exact ⟨rfl, hbw3⟩
  have HM := Lib.hid (show m ≤ 60 by omega)
  have HTR := Lib.hid hT
  have HSD := Lib.hid (dsound_any n d m _ w3 hd3 hl ha3)
  go_wp2_with fail
  clear c1
  refine HSD.out.mono ?_
  rintro e w4 ⟨pv, rfl, hpv, hb4⟩
  have hbw4 := bthen hbw3 hb4
  have hB4 := hB3.now hb4
  have hM4 := hM3.now hb4
  have hd4 := hd3.now hb4
  have ha4 := ha3.now hb4
  clear HSD hB3 hM3 hd3 ha3 q0 q1 q2 q3 q4 q5 q6 q7 m0 hbw3
  obtain ⟨Ap, cp, rfl, p1, p2, hpv⟩ := Sl.open_ hpv
  have hpv : SlI (Lt w4.heap.size) w4 (.slice Ap (dsoundE d m).2.1.length cp) (dsoundE d m).2.1 := hpv
  obtain ⟨q0, q1, q2, q3, q4, q5, q6, q7⟩ := hB4.c8
  generalize hsd : dsoundE d m = sd at *
  obtain ⟨ok, path, c⟩ := sd
  dsimp only at *
  by_cases hc : c = 0
  rotate_left
  · obtain ⟨rfl, rfl⟩ := wit_err hsd hc
    have bc : (c != 0) = true := by simpa using hc
    clear hsd hc
    go_wp2_with fail
    go_ret
    exact ⟨rfl, hbw4⟩
  subst hc
  obtain ⟨p, hwit⟩ := wit_of hsd HM.out HTR.out
  have HW := Lib.hid hwit
  have HIN := dinit_any n d _ w4 hd4 hl
  rw [initE_ok hwit.valid] at HIN
  have HIN := Lib.hid HIN
  clear hsd hwit
  go_wp2_with fail
  refine HIN.out.mono ?_
  rintro e w5 ⟨fv, rfl, hfv, hb5⟩
  have hbw5 := bthen hbw4 hb5
  obtain ⟨Af, cf, Bf, df, rfl, f1, f2, ⟨f3, f4⟩, f5, f6⟩ := hfv.open_
  have hb6 := bone w5 (.cells #[.slice Af (firstS d).marks.length cf, .slice Bf (firstS d).vals.length df] 33)
  have hF := Blk.new w5 33 #[.slice Af (firstS d).marks.length cf, .slice Bf (firstS d).vals.length df]
  have hB6 := (hB4.now hb5).now hb6
  have hM6 := (hM4.now hb5).now hb6
  have hd6 := (hd4.now hb5).now hb6
  have ha6 := (ha4.now hb5).now hb6
  have hfv6 := hfv.now hb6
  have hpv6 := (hpv.now hb5).now hb6
  have hbw6 := bthen hbw5 hb6
  clear HIN f1 f2 hfv hpv hB4 hM4 hd4 ha4 q0 q1 q2 q3 q4 q5 q6 q7
  try dsimp only at hfv6 ⊢
  go_upto_region 9 with fail
  generalize hw6 : w5.alloc (.cells #[.slice Af (firstS d).marks.length cf, .slice Bf (firstS d).vals.length df] 33) = w6 at *
  clear hw6
  have hsz6 := hF.lt
  obtain ⟨q0, q1, q2, q3, q4, q5, q6, q7⟩ := hB6.c8
  have HV := dvalid_ref n d _ w6 hd6
  rw [HW.out.valid] at HV
  have HV := Lib.hid HV
  go_wp2_with fail
  refine HV.out.mono ?_
  rintro e w7 ⟨rfl, hb7⟩
  have hbw7 := bthen hbw6 hb7
  have hB7 := hB6.now hb7
  have hM7 := hM6.now hb7
  have hd7 := hd6.now hb7
  have ha7 := ha6.now hb7
  have hF7 := hF.now hb7
  have hfv7 := hfv6.now hb7
  have hpv7 := hpv6.now hb7
  clear HV hB6 hM6 hd6 ha6 hF hfv6 hpv6 q0 q1 q2 q3 q4 q5 q6 q7 hbw5 hbw4 hbw6
  obtain ⟨q0, q1, q2, q3, q4, q5, q6, q7⟩ := hB7.c8
  obtain ⟨y0, y1⟩ := hF7.c2
  have m0 : w7.cell? ⟨w.heap.size + 1, 0, none⟩ = some (.int .i64 m) := hM7.cell 0
  cases ok with
  | false =>
    obtain ⟨hpl, x, hx, hrun, hbad⟩ := HW.out.no rfl
    obtain ⟨qx, htx⟩ := HW.out.each x hx
    have HTX := Lib.hid htx
    have HRN := drun_any n d (firstS d) path _ _ _ w7 hd7 hfv7 hpv7 hl
    rw [hrun] at HRN
    have HRN := Lib.hid HRN
    have HBAD := Lib.hid hbad
    have hvx : vstateB d x = true := HW.out.tells.ok x hx
    have HVX := Lib.hid hvx
    clear hx hrun htx hbad hpl hvx
    go_wp2_with fail
    refine HRN.out.mono ?_
    rintro e w8 ⟨xv, rfl, hxv, hb8⟩
    obtain ⟨Ay, cy, By, dy, rfl, k1, k2, ⟨k3, k4⟩, k5, k6⟩ := hxv.open_
    have hb9 := bone w8 (.cells #[.slice Ay x.marks.length cy, .slice By x.vals.length dy] 33)
    have hY := Blk.new w8 33 #[.slice Ay x.marks.length cy, .slice By x.vals.length dy]
    have hB9 := (hB7.now hb8).now hb9
    have hM9 := (hM7.now hb8).now hb9
    have hd9 := (hd7.now hb8).now hb9
    have ha9 := (ha7.now hb8).now hb9
    have hxv9 := hxv.now hb9
    have hk9 := k1.now hb9
    have hbw9 := bthen (bthen hbw7 hb8) hb9
    obtain ⟨hml, hmw⟩ := markOk (state_parts (vstate_parts HVX.out).2).2.1
    obtain ⟨_, hsk0, hsk1⟩ := insideOk (dvalid_parts HW.out.valid).1
    clear HRN hB7 hM7 hd7 ha7 hF7 hfv7 hpv7 q0 q1 q2 q3 q4 q5 q6 q7 y0 y1 m0 hbw7 hxv k1 k2
    go_upto_region 14 with fail
    generalize hw9 : w8.alloc (.cells #[.slice Ay x.marks.length cy, .slice By x.vals.length dy] 33) = w9 at *
    clear hw9 hb9 hb8
    obtain ⟨q0, q1, q2, q3, q4, q5, q6, q7⟩ := hB9.c8
    obtain ⟨y0, y1⟩ := hY.c2
    have e1 : (((path.length : Nat) : Int) != ((path.length : Nat) : Int)) = false := by simp
    have e2 : (((x.marks.length : Nat) : Int) != d.net.places) = false := by rw [hml]; simp
    have HFI := dfinal_any n d x _ _ w9 hd9 hxv9 hl
    rw [dfinal_ok HVX.out] at HFI
    have HFI := Lib.hid HFI
    obtain ⟨sk, hsk⟩ := Int.eq_ofNat_of_zero_le hsk0
    have hskl : sk < x.marks.length := by omega
    have HSK := Lib.hid hsk
    clear hsk
    have HML := Lib.hid hml
    clear hml
    go_wp2_with fail
    refine HFI.out.mono ?_
    rintro e w10 ⟨rfl, hb10⟩
    have hB10 := hB9.now hb10
    have hM10 := hM9.now hb10
    have hd10 := hd9.now hb10
    have ha10 := ha9.now hb10
    have hY10 := hY.now hb10
    have hxv10 := hxv9.now hb10
    have hk10 := hk9.now hb10
    have hbw10 := bthen hbw9 hb10
    clear HFI hB9 hM9 hd9 ha9 hY hxv9 hk9 q0 q1 q2 q3 q4 q5 q6 q7 y0 y1 hbw9 e1 e2
    obtain ⟨q0, q1, q2, q3, q4, q5, q6, q7⟩ := hB10.c8
    obtain ⟨y0, y1⟩ := hY10.c2
    have HCO := Lib.hid (completes_any n d m x qx _ _ _ At ct Ax cx iv Ag cg Aw cw w10 hd10 hB10 hM10 hxv10 hl ha10 HTX.out)
    go_wp2_with fail
    refine HCO.out.mono ?_
    rintro e w11 ⟨rfl, hb11⟩
    have hB11 := hB10.now hb11
    have hY11 := hY10.now hb11
    have hk11 := hk10.now hb11
    have hbw11 := bthen hbw10 hb11
    clear HCO hB10 hM10 hd10 ha10 hY10 hxv10 hk10 q0 q1 q2 q3 q4 q5 q6 q7 y0 y1 hbw10
    obtain ⟨q0, q1, q2, q3, q4, q5, q6, q7⟩ := hB11.c8
    obtain ⟨y0, y1⟩ := hY11.c2
    obtain ⟨b, o, z, rfl, hD, hz, hfz, c0⟩ := hk11.at_ hskl
    have HZ := Lib.hid hz
    rw [HSK.out] at q3
    have j1 : (0 : Int) ≤ (sk : Int) := by omega
    have j2 : (sk : Int) < (x.marks.length : Int) := by omega
    cases hen : endB d qx with
    | true =>
      obtain ⟨g1, g2⟩ := HBAD.out ((endB_can HTX.out).1 hen)
      rw [HSK.out, Int.toNat_natCast, List.getD_eq_getElem?_getD, HZ.out] at g2
      have g3 : 0 < z := g2
      have HG := Lib.hid g1
      rw [g1]
      clear hen g1 g2 hz hfz
      go_wp2_with fail
      go_ret
      exact ⟨rfl, hbw11⟩
    | false =>
      clear hen hz hfz
      cases finalM d x.marks
      · by_cases g3 : 0 < z
        · go_wp2_with fail
          go_ret
          exact ⟨rfl, hbw11⟩
        · go_wp2_with fail
          go_ret
          exact ⟨rfl, hbw11⟩
      · go_wp2_with fail
        go_ret
        exact ⟨rfl, hbw11⟩
  | true =>
    obtain ⟨rfl, hall⟩ := HW.out.yes rfl
    have HALL := Lib.hid hall
    have HEX := dexplore_any n d (firstS d) m _ _ w7 hd7 hfv7 hl ha7
    rw [HW.out.tells.expl] at HEX
    have HEX := Lib.hid HEX
    have HF := Lib.hid HW.out.tells.full
    have hlen := HW.out.tells.len
    clear hall hpv7
    go_wp2_with fail
    refine HEX.out.mono ?_
    rintro e w8 ⟨sv, mv, rfl, h1, h2, hb8⟩
    have hB8 := hB7.now hb8
    have hM8 := hM7.now hb8
    have hd8 := hd7.now hb8
    have ha8 := ha7.now hb8
    have hbw8 := bthen hbw7 hb8
    clear HEX hB7 hM7 hd7 ha7 hF7 hfv7 q0 q1 q2 q3 q4 q5 q6 q7 y0 y1 m0 hbw7 h2
    obtain ⟨As, cs, rfl, sc1, sc2, h1⟩ := Sl.open_ h1
    have h1 : SlSt (Lt w8.heap.size) w8 (.slice As p.states.length cs) p.states := h1
    dsimp only
    rw [HF.out]
    go_wp2_with fail
    go_loopw [148] (fun i wr => ∃ j : Nat, j ≤ p.states.length ∧ i = .int .i64 j ∧ Below w8.heap.size w8 wr) (fun i _ => p.states.length - (intOf i).toNat)
    case atStart => exact ⟨0, Nat.zero_le _, rfl, Below.refl _ _⟩
    case round =>
      obtain ⟨j, hj, rfl, hbr⟩ := hrel
      have hbwr := bthen hbw8 hbr
      by_cases hlt : j < p.states.length
      · obtain ⟨b, o, y, mv, vv, rfl, hD, hy, y1, y2, c0, c1⟩ := (h1.now hbr).at_ hlt
        obtain ⟨qy, hty⟩ := HW.out.each y (List.mem_of_getElem? hy)
        have hcy := (endB_can hty).2 (HALL.out y (List.mem_of_getElem? hy))
        have HTY := Lib.hid hty
        have HCY := Lib.hid hcy
        clear hy hty hcy
        have hsy : IsSt (Lt wr.heap.size) wr (.agg #[mv, vv]) y := ⟨_, _, rfl, y1, y2⟩
        obtain ⟨A1, c1', e1, _, _, y1⟩ := Sl.open_ y1
        obtain ⟨A2, c2', e2, _, _, y2⟩ := Sl.open_ y2
        subst e1 e2
        clear y1 y2
        have hb3 := bone wr (.cells #[.slice A1 y.marks.length c1', .slice A2 y.vals.length c2'] 33)
        have hY := Blk.new wr 33 #[.slice A1 y.marks.length c1', .slice A2 y.vals.length c2']
        have hB3 := (hB8.now hbr).now hb3
        have hM3 := (hM8.now hbr).now hb3
        have hd3 := (hd8.now hbr).now hb3
        have ha3 := (ha8.now hbr).now hb3
        have hs3 := hsy.now hb3
        have hb23 : Below w8.heap.size w8 (wr.alloc (.cells #[.slice A1 y.marks.length c1', .slice A2 y.vals.length c2'] 33)) := hbr.trans (hb3.mono hbr.size)
        have i1 : (0 : Int) ≤ (j : Int) := by omega
        have i2 : (j : Int) < (p.states.length : Int) := by omega
        go_upto_region 25 with fail
        generalize hw3 : wr.alloc (.cells #[.slice A1 y.marks.length c1', .slice A2 y.vals.length c2'] 33) = wq at *
        clear hw3 c0 c1 hsy
        obtain ⟨y0, y1⟩ := hY.c2
        have HCO := completes_any n d m y qy _ _ _ At ct Ax cx iv Ag cg Aw cw wq hd3 hB3 hM3 hs3 hl ha3 HTY.out
        rw [HCY.out] at HCO
        have HCO := Lib.hid HCO
        go_wp2_with fail
        refine HCO.out.mono ?_
        rintro e w4 ⟨rfl, hb4⟩
        clear HCO y0 y1
        go_wp2_with fail
        go_roundw
        case rel => exact ⟨j + 1, by omega, by go_num, hb23.trans (hb4.mono hb23.size)⟩
        case measure => simp [intOf]; omega
      · obtain rfl : j = p.states.length := by omega
        clear hlt
        go_wp2_with fail
        go_ret
        exact ⟨rfl, hbwr⟩
end Go.Proofs.YtlmenhjlgmejkaaGreatDoor
