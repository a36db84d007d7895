/- Texts of this seat, merged. -/
import Derived.Test.YtoalecalahkblaaGreatDoorIy01
import Derived.Test.YtoalecalahkblaaGreatDoorIy02
import Derived.Test.YtoalecalahkblaaGreatDoorIy03
import Derived.Test.YtoalecalahkblaaGreatDoorIy04
import Derived.Test.YtoalecalahkblaaGreatDoorIy05
import Derived.Test.YtoalecalahkblaaGreatDoorIy06
import Derived.Test.YtoalecalahkblaaGreatDoorIy07
import Derived.Test.YtoalecalahkblaaGreatDoorIy09
import Derived.Test.YtoalecalahkblaaGreatDoorIy11
import Derived.Test.YtoalecalahkblaaGreatDoorIy12
import Derived.Test.YtoalecalahkblaaGreatDoorIy14
import Derived.Test.YtoalecalahkblaaGreatDoorIy16
import Derived.Test.YtoalecalahkblaaGreatDoorIy17
import Derived.Test.YtoalecalahkblaaGreatDoorIy18
set_option linter.all false
set_option linter.all false
namespace Go.Proofs.YtoalecalahkblaaGreatDoor
open Go.RowKit
def noEv : Ev := ⟨⟨#[]⟩, ⟨#[]⟩, ⟨#[]⟩, 0, 0, []⟩
def lifeI (s : Bt) : Int := if s ∈ lifeW then (lifeW.idxOf s : Int) else -1
theorem lifeI_lt (s : Bt) : -1 ≤ lifeI s ∧ lifeI s < 6 := by
  unfold lifeI
  split
  · rename_i h
    have := List.idxOf_lt_length_of_mem h
    have e : lifeW.length = 6 := rfl
    omega
  · omega
def fldsD (r hd : List Bt) : List Fld → List (Int × Int) → List Fld × Int × Int
  | acc, [] => (acc, 0, 0)
  | acc, (k, q) :: l =>
    if cellAt r k = [] then fldsD r hd acc l
    else if (datE (bsOf (cellAt r k)) q).2 = 0 then fldsD r hd (acc ++ [⟨bsOf (cellAt hd k), (datE (bsOf (cellAt r k)) q).1⟩]) l
    else (acc, k, (datE (bsOf (cellAt r k)) q).2)
def evEnd (r : List Bt) (m : Mp) (res : Bt) (life t : Int) (d : List Fld × Int × Int) : Ev × Int × Int :=
  if d.2.2 = 0 then (⟨bsOf (cellAt r m.cas), bsOf (cellAt r m.act), bsOf res, life, t, sortS nlt d.1⟩, 0, 0) else (noEv, d.2.1, d.2.2)
def evT (r hd : List Bt) (m : Mp) (res : Bt) (life : Int) : Ev × Int × Int :=
  if (natE (cellAt r m.time)).2 = 0 then evEnd r m res life (natE (cellAt r m.time)).1 (fldsD r hd [] (m.data.zip m.kinds)) else (noEv, m.time, (natE (cellAt r m.time)).2)
def evL (r hd : List Bt) (m : Mp) (res : Bt) : Ev × Int × Int :=
  if m.life < 0 then evT r hd m res 5 else if lifeI (cellAt r m.life) < 0 then (noEv, m.life, 20) else evT r hd m res (1 + lifeI (cellAt r m.life))
def evR (r hd : List Bt) (m : Mp) : Ev × Int × Int :=
  if m.res < 0 then evL r hd m [] else if cellAt r m.res ≠ [] ∧ isNameB (bsOf (cellAt r m.res)) = false then (noEv, m.res, 8) else evL r hd m (cellAt r m.res)
def evE (r hd : List Bt) (m : Mp) : Ev × Int × Int :=
  if isNameB (bsOf (cellAt r m.cas)) = false then (noEv, m.cas, 8)
  else if isNameB (bsOf (cellAt r m.act)) = false then (noEv, m.act, 8)
  else evR r hd m
theorem index_life (u : Value) (x : Bt) (w : World) (h : SlP (Lt w.heap.size) w u lifeW) :
    Calls Tryz.prog 97 #[u, .string (bsOf x)] w fun e w' => e = .returned (.int .i64 (lifeI x)) ∧ w = w' := by
  by_cases hx : x ∈ lifeW
  · have := index_any u lifeW x w h hx
    unfold lifeI
    rw [if_pos hx]
    exact this
  · obtain ⟨A, c, rfl, h1, h2, hu⟩ := SlS.open_ h
    have hlm : (lifeW.map bsOf).length = lifeW.length := List.length_map _
    obtain ⟨b, o, rfl, hD, _, hc⟩ := hu.cells (by decide)
    refine (Tryz.slices_Index_string b o (lifeW.map bsOf).length c (lifeW.map bsOf) (bsOf x) w (Nat.le_refl _) (by omega) hc).mono ?_
    rintro e w' ⟨rfl, hq⟩
    rw [Lib.idxOfS_miss (lifeW.map bsOf) (lifeW.map bsOf).length (bsOf x) (fun j hj e => by
      rw [hlm] at hj
      rw [names_at hj] at e
      exact hx (bsOf_inj e ▸ List.getElem_mem hj))]
    unfold lifeI
    rw [if_neg hx]
    exact ⟨rfl, hq.symm⟩
theorem zip_at {a b : List Int} {i : Nat} {x y : Int} (hx : a[i]? = some x) (hy : b[i]? = some y) : (a.zip b).drop i = (x, y) :: (a.zip b).drop (i + 1) :=
  drop_cons (List.getElem?_zip_eq_some.2 ⟨hx, hy⟩)
theorem parse_valid (s : ByteArray) (h : (parseE s).2 = 0) : validV (parseE s).1 = true := by
  by_cases h1 : s = trueS
  · rw [parse_true h1]; decide +kernel
  by_cases h2 : s = falseS
  · rw [parse_false h2]; decide +kernel
  cases hn : numOf s with
  | some n =>
    obtain ⟨hb, _⟩ := num_some.1 hn
    rw [parse_num h1 h2 hn]
    show (numB n && noS ⟨#[]⟩) = true
    rw [hb]; decide +kernel
  | none =>
    cases ht : txtOf s with
    | none => rw [parse_none h1 h2 hn ht] at h; cases h
    | some t =>
      obtain ⟨_, hb⟩ := txt_some.1 ht
      rw [parse_txt h1 h2 hn ht]
      show (decide ((0 : Int) = 0) && textB t) = true
      rw [hb]; rfl
theorem dat_valid {s : ByteArray} {k : Int} (h : (datE s k).2 = 0) : validV (datE s k).1 = true := by
  unfold datE at h ⊢
  by_cases h3 : k = 3
  · rw [if_pos h3] at h ⊢
    by_cases hv : validV (txtV s) = true
    · rw [if_pos hv]; exact hv
    · rw [if_neg hv] at h; cases h
  · rw [if_neg h3] at h ⊢
    by_cases hp : (parseE s).2 ≠ 0 ∨ (parseE s).1.kind ≠ k
    · rw [if_pos hp] at h; cases h
    · rw [if_neg hp]
      exact parse_valid s (by rcases Classical.em ((parseE s).2 = 0) with h | h; exact h; exact absurd (.inl h) hp)
theorem noS_sizeV {s : ByteArray} (h : noS s = true) : s.size = 0 := by
  unfold noS at h
  rw [Lib.toList_data] at h
  have h := List.isEmpty_iff.1 h
  have := size_list s
  rw [h] at this
  exact this.symm
theorem fit_valid {v : Val} (h : validV v = true) : FitV v := by
  unfold validV at h
  split at h
  · rename_i h1
    simp only [Bool.and_eq_true, decide_eq_true_eq] at h
    have h2 := h.1
    have := noS_sizeV h.2
    exact ⟨by unfold Fit; omega, by unfold Fit; omega, by rw [this]; exact Nat.zero_le _⟩
  · split at h
    · simp only [Bool.and_eq_true] at h
      have hn := h.1
      unfold numB at hn
      simp only [decide_eq_true_eq] at hn
      have := noS_sizeV h.2
      exact ⟨by unfold Fit; omega, by unfold Fit; omega, by rw [this]; exact Nat.zero_le _⟩
    · split at h
      · simp only [Bool.and_eq_true, decide_eq_true_eq] at h
        have h2 := h.2
        unfold textB at h2
        simp only [Bool.and_eq_true, decide_eq_true_eq] at h2
        exact ⟨by unfold Fit; omega, by unfold Fit; omega, by have := h2.1; unfold maxLen; omega⟩
      · cases h
structure FldsOk (hd : List Bt) (ks : List Int) (fs : List Fld) : Prop where
  valid : ∀ f ∈ fs, validV f.v = true
  sub : (fs.map nmOf).Sublist (ks.map (cellAt hd))
theorem FldsOk.nil (hd : List Bt) : FldsOk hd [] [] := ⟨fun _ h => absurd h (by simp), List.Sublist.refl _⟩
theorem FldsOk.skip {hd : List Bt} {ks : List Int} {fs : List Fld} (h : FldsOk hd ks fs) (k : Int) : FldsOk hd (ks ++ [k]) fs :=
  ⟨h.valid, by rw [List.map_append]; exact h.sub.trans (List.sublist_append_left _ _)⟩
theorem FldsOk.more {hd : List Bt} {ks : List Int} {fs : List Fld} (h : FldsOk hd ks fs) (k : Int) {v : Val} (hv : validV v = true) : FldsOk hd (ks ++ [k]) (fs ++ [⟨bsOf (cellAt hd k), v⟩]) :=
  ⟨fun f hf => by
    rcases List.mem_append.1 hf with hf | hf
    · exact h.valid f hf
    · rw [List.mem_singleton] at hf; rw [hf]; exact hv, by rw [List.map_append, List.map_append]; exact h.sub.append (List.Sublist.refl _)⟩
theorem FldsOk.len {hd : List Bt} {ks : List Int} {fs : List Fld} (h : FldsOk hd ks fs) : fs.length ≤ ks.length := by
  have := h.sub.length_le
  rwa [List.length_map, List.length_map] at this
theorem cellAt_le {r : List Bt} {n : Nat} (h : ∀ c ∈ r, c.length ≤ n) (k : Int) : (cellAt r k).length ≤ n := by
  unfold cellAt
  rw [List.getD_eq_getElem?_getD]
  cases e : r[k.toNat]? with
  | none => exact Nat.zero_le _
  | some c => exact h c (List.mem_of_getElem? e)
theorem FldsOk.fit {hd : List Bt} {ks : List Int} {fs : List Fld} (h : FldsOk hd ks fs) (hl : ∀ c ∈ hd, c.length ≤ maxLen) : ∀ f ∈ fs, FitFl f := fun f hf => ⟨by
  have h1 : nmOf f ∈ ks.map (cellAt hd) := h.sub.subset (List.mem_map_of_mem hf)
  obtain ⟨k, _, hk⟩ := List.mem_map.1 h1
  have h2 := cellAt_le hl k
  rw [hk] at h2
  unfold nmOf at h2
  rwa [size_list] at h2, fit_valid (h.valid f hf)⟩
end Go.Proofs.YtoalecalahkblaaGreatDoor
