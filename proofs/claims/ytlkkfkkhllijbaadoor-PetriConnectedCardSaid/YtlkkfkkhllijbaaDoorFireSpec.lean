/- Firing, plainly: lists of numbers, no program in sight. -/
import Derived.Test.YtlkkfkkhllijbaaDoorMarking
import Derived.Lib.Slices
namespace Go.Proofs.YtlkkfkkhllijbaaDoor
open Go.RowKit

def bump1 (d : Int) (m : List Int) (p : Int) : List Int := m.set p.toNat (m.getD p.toNat 0 + d)
def bump (d : Int) (m ps : List Int) : List Int := ps.foldl (bump1 d) m

theorem bump1_length (d : Int) (m : List Int) (p : Int) : (bump1 d m p).length = m.length := by unfold bump1; simp
theorem bump_length (d : Int) (ps : List Int) : ∀ m, (bump d m ps).length = m.length := by
  unfold bump
  induction ps with
  | nil => intro m; rfl
  | cons p ps ih => intro m; rw [List.foldl_cons, ih, bump1_length]
theorem bump_snoc (d : Int) (m ps : List Int) (k : Nat) (p : Int) (h : ps[k]? = some p) : bump d m (ps.take (k + 1)) = bump1 d (bump d m (ps.take k)) p := by
  unfold bump
  have hk : k < ps.length := by
    rcases Nat.lt_or_ge k ps.length with h' | h'
    · exact h'
    · rw [List.getElem?_eq_none h'] at h; cases h
  rw [List.getElem?_eq_getElem hk] at h
  injection h with h
  rw [List.take_succ_eq_append_getElem hk, List.foldl_append, h]
  rfl
/-- Between lo and hi, all of them. -/
def Within (lo hi : Int) (m : List Int) : Prop := ∀ z ∈ m, lo ≤ z ∧ z ≤ hi
theorem within_get {lo hi : Int} {m : List Int} (h : Within lo hi m) {k : Nat} (hk : k < m.length) : lo ≤ m.getD k 0 ∧ m.getD k 0 ≤ hi := by
  rw [List.getD_eq_getElem?_getD, List.getElem?_eq_getElem hk]; exact h _ (List.getElem_mem hk)
theorem within_set {lo hi : Int} {m : List Int} (h : Within lo hi m) (k : Nat) (x : Int) (hx : lo ≤ x ∧ x ≤ hi) : Within lo hi (m.set k x) := by
  intro z hz
  rcases List.mem_or_eq_of_mem_set hz with h' | h'
  · exact h z h'
  · subst h'; exact hx
theorem within_mono {lo hi lo' hi' : Int} {m : List Int} (h : Within lo hi m) (h1 : lo' ≤ lo) (h2 : hi ≤ hi') : Within lo' hi' m := fun z hz => by have := h z hz; omega
theorem within_bump (d : Int) (hd : d = 1 ∨ d = -1) (ps : List Int) : ∀ (lo hi : Int) (m : List Int), Within lo hi m → lo ≤ 0 → 0 ≤ hi → (∀ p ∈ ps, p.toNat < m.length) → Within (lo - ps.length) (hi + ps.length) (bump d m ps) := by
  unfold bump
  induction ps with
  | nil => intro lo hi m h _ _ _; exact within_mono h (by simp) (by simp)
  | cons p ps ih =>
    intro lo hi m h h0 h1 hp
    rw [List.foldl_cons]
    have hg := within_get h (hp p (by simp))
    have h2 : Within (lo - 1) (hi + 1) (bump1 d m p) := by
      unfold bump1
      exact within_set (within_mono h (by omega) (by omega)) _ _ (by rcases hd with rfl | rfl <;> omega)
    have := ih (lo - 1) (hi + 1) _ h2 (by omega) (by omega) (fun q hq => by rw [bump1_length]; exact hp q (by simp [hq]))
    exact within_mono this (by simp; omega) (by simp; omega)

theorem places_spec {P : Int} {zs : List Int} (h : placesB P zs = true) : (∀ (k : Nat) (x : Int), zs[k]? = some x → 0 ≤ x ∧ x < P) ∧ (∀ (k : Nat) (x y : Int), zs[k]? = some x → zs[k+1]? = some y → x < y) := by
  unfold placesB at h
  rw [List.all_eq_true] at h
  have hl : ∀ (k : Nat) (x : Int), zs[k]? = some x → k < zs.length := fun k x hx => by
    rcases Nat.lt_or_ge k zs.length with h' | h'
    · exact h'
    · rw [List.getElem?_eq_none h'] at hx; cases hx
  refine ⟨fun k x hx => ?_, fun k x y hx hy => ?_⟩
  · have := h k (List.mem_range.2 (hl k x hx))
    unfold placeAt at this
    rw [getD_of hx] at this
    simp at this
    omega
  · have := h (k + 1) (List.mem_range.2 (hl (k + 1) y hy))
    unfold placeAt at this
    rw [Nat.add_sub_cancel, getD_of hx, getD_of hy] at this
    simp at this
    omega
theorem places_asc {P : Int} {zs : List Int} (h : placesB P zs = true) : ∀ (d k : Nat) (x y : Int), zs[k]? = some x → zs[k + (d + 1)]? = some y → x + d < y := by
  obtain ⟨_, h2⟩ := places_spec h
  intro d
  induction d with
  | zero => intro k x y hx hy; have := h2 k x y hx hy; omega
  | succ d ih =>
    intro k x y hx hy
    have hm : ∃ z, zs[k + (d + 1)]? = some z := by
      have : k + (d + 1 + 1) < zs.length := by
        rcases Nat.lt_or_ge (k + (d + 1 + 1)) zs.length with h' | h'
        · exact h'
        · rw [List.getElem?_eq_none h'] at hy; cases hy
      exact ⟨_, List.getElem?_eq_getElem (by omega)⟩
    obtain ⟨z, hz⟩ := hm
    have a := ih k x z hx hz
    have b := h2 (k + (d + 1)) z y hz hy
    omega
theorem places_len {P : Int} {zs : List Int} (h : placesB P zs = true) : zs.length ≤ P.toNat := by
  rcases Nat.eq_zero_or_pos zs.length with h0 | h0
  · omega
  · obtain ⟨h1, _⟩ := places_spec h
    rcases Nat.eq_zero_or_pos (zs.length - 1) with h3 | h3
    · have := h1 0 zs[0] (List.getElem?_eq_getElem h0); omega
    · have a := places_asc h (zs.length - 2) 0 zs[0] zs[zs.length - 1] (List.getElem?_eq_getElem h0) (by rw [show 0 + (zs.length - 2 + 1) = zs.length - 1 from by omega]; exact List.getElem?_eq_getElem (by omega))
      have b := h1 0 zs[0] (List.getElem?_eq_getElem h0)
      have c := h1 (zs.length - 1) zs[zs.length - 1] (List.getElem?_eq_getElem (by omega))
      omega
theorem places_mem {P : Int} {zs : List Int} (h : placesB P zs = true) : ∀ p ∈ zs, 0 ≤ p ∧ p < P := by
  intro p hp
  obtain ⟨q, hq, rfl⟩ := List.mem_iff_getElem.1 hp
  exact (places_spec h).1 q _ (List.getElem?_eq_getElem hq)
theorem places_tail {P a : Int} {zs : List Int} (h : placesB P (a :: zs) = true) : placesB P zs = true ∧ a ∉ zs := by
  obtain ⟨h1, h2⟩ := places_spec h
  refine ⟨?_, fun hm => ?_⟩
  · apply places_ok
    intro j hj
    rcases Nat.eq_zero_or_pos j with h0 | h0
    · subst h0
      rw [placeAt_zero (x := zs[0]) (List.getElem?_eq_getElem hj)]
      have := h1 1 zs[0] (by simp)
      simpa using this
    · obtain ⟨i, rfl⟩ : ∃ i, j = i + 1 := ⟨j - 1, by omega⟩
      rw [placeAt_pos (x := zs[i + 1]) (y := zs[i]) (List.getElem?_eq_getElem hj) (List.getElem?_eq_getElem (by omega)) h0]
      have a1 := h1 (i + 1 + 1) zs[i + 1] (by simp [hj])
      have a2 := h2 (i + 1) zs[i] zs[i + 1] (by simp) (by simp [hj])
      simp
      omega
  · obtain ⟨q, hq, e⟩ := List.mem_iff_getElem.1 hm
    have := places_asc h q 0 a zs[q] (by simp) (by simp [hq])
    omega
theorem getD_bump1 (d : Int) (m : List Int) (p : Int) (k : Nat) (hp : p.toNat < m.length) : (bump1 d m p).getD k 0 = if p.toNat = k then m.getD k 0 + d else m.getD k 0 := by
  unfold bump1
  simp only [List.getD_eq_getElem?_getD, List.getElem?_set]
  by_cases h : p.toNat = k
  · subst h; simp [hp]
  · simp [h]
theorem getD_bump (d : Int) (P : Int) (ps : List Int) : ∀ (m : List Int), (m.length : Int) = P → placesB P ps = true → ∀ k, (bump d m ps).getD k 0 = m.getD k 0 + (if (k : Int) ∈ ps then d else 0) := by
  induction ps with
  | nil => intro m _ _ k; simp [bump]
  | cons p ps ih =>
    intro m hm hp k
    obtain ⟨ht, hn⟩ := places_tail hp
    have hp0 := places_mem hp p (by simp)
    have e : bump d m (p :: ps) = bump d (bump1 d m p) ps := rfl
    rw [e, ih (bump1 d m p) (by rw [bump1_length]; exact hm) ht k, getD_bump1 d m p k (by omega)]
    by_cases h : p.toNat = k
    · have hk : (k : Int) = p := by omega
      rw [if_pos h, hk, if_neg hn, if_pos (by simp)]
      omega
    · have hk : ¬ (k : Int) = p := by omega
      rw [if_neg h]
      simp [hk]

theorem foldl_max_gt (c : Int) (zs : List Int) : ∀ a : Int, c < zs.foldl max a ↔ c < a ∨ ∃ z ∈ zs, c < z := by
  induction zs with
  | nil => intro a; simp
  | cons z zs ih =>
    intro a
    rw [List.foldl_cons, ih]
    constructor
    · rintro (h | ⟨y, hy, h⟩)
      · rcases (show c < a ∨ c < z from by omega) with h' | h'
        · exact .inl h'
        · exact .inr ⟨z, by simp, h'⟩
      · exact .inr ⟨y, by simp [hy], h⟩
    · rintro (h | ⟨y, hy, h⟩)
      · exact .inl (by omega)
      · rcases List.mem_cons.1 hy with rfl | hy
        · exact .inl (by omega)
        · exact .inr ⟨y, hy, h⟩
theorem maxOf_gt (c : Int) (zs : List Int) (h : 0 < zs.length) : c < Lib.maxOf zs ↔ ∃ z ∈ zs, c < z := by
  unfold Lib.maxOf
  match zs, h with
  | z :: zs, _ =>
    rw [List.headD_cons, foldl_max_gt]
    constructor
    · rintro (h | h)
      · exact ⟨z, by simp, h⟩
      · exact h
    · exact .inr

def outOf (t : Tr) (m : List Int) : List Int := bump 1 (bump (-1) m t.ins) t.outs
/-- What firing gives: the marking, or an error's number. -/
def fireT (t : Tr) (m : List Int) : List Int × Int :=
  if canB t.ins m = false then ([], 12) else if 100 < Lib.maxOf (outOf t m) then ([], 5) else (outOf t m, 0)
def fireB (n : Net) (m : List Int) (t : Int) : List Int × Int :=
  if t < 0 then ([], 2) else match n.trans[t.toNat]? with
    | none => ([], 2)
    | some x => fireT x m
end Go.Proofs.YtlkkfkkhllijbaaDoor
