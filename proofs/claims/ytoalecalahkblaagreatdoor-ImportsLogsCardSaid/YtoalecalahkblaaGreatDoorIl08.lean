/- Texts of this seat, merged. -/
import Derived.Deep.QuietTactic
import Derived.BigQuiet
import Derived.Orders
import Derived.Deep.Quiet
import Derived.StillTail
import Derived.Deep.RegionHeld
import Derived.Deep.RegionHeld3
import Derived.Laws.MakeOwn
import Derived.Laws.Entries
import Derived.Test.YtoalecalahkblaaGreatDoorIl01
import Derived.Test.YtoalecalahkblaaGreatDoorIl02
import Derived.Test.YtoalecalahkblaaGreatDoorIl03
import Derived.Test.YtoalecalahkblaaGreatDoorIl04
import Derived.Test.YtoalecalahkblaaGreatDoorIl05
import Derived.Test.YtoalecalahkblaaGreatDoorIl06
import Derived.Test.YtoalecalahkblaaGreatDoorIl07
set_option linter.all false
set_option linter.all false
namespace Go.Proofs.YtoalecalahkblaaGreatDoor
open Go.RowKit
theorem bsOf_inj {a b : Bt} (h : bsOf a = bsOf b) : a = b := by
  have := congrArg (fun x : ByteArray => x.data.toList) h
  simpa [bs_list] using this
end Go.Proofs.YtoalecalahkblaaGreatDoor

set_option linter.all false
namespace Go.Proofs.YtoalecalahkblaaGreatDoor
open Go.RowKit
def sameS (s : ByteArray) (y : ByteArray) : Bool := y.toList == s.toList
end Go.Proofs.YtoalecalahkblaaGreatDoor

set_option linter.all false
namespace Go.Proofs.YtoalecalahkblaaGreatDoor
open Go.RowKit
theorem names_at {names : List Bs} {j : Nat} (hj : j < names.length) : (names.map bsOf).getD j ByteArray.empty = bsOf names[j] := by
  rw [List.getD_eq_getElem?_getD, List.getElem?_map, List.getElem?_eq_getElem hj]; rfl
theorem idx_ne {names : List Bs} {x : Bs} {j : Nat} (hj : j < names.idxOf x) : ∃ h : j < names.length, names[j] ≠ x := by
  have hl : j < names.length := Nat.lt_of_lt_of_le hj List.idxOf_le_length
  refine ⟨hl, fun e => ?_⟩
  have := List.not_of_lt_findIdx hj
  simp only [beq_eq_false_iff_ne, ne_eq] at this
  exact this e
theorem index_any (u : Value) (names : List Bs) (x : Bs) (w : World) (h : SlP (Lt w.heap.size) w u names) (hx : x ∈ names) :
    Calls Tryz.prog 97 #[u, .string (bsOf x)] w fun e w' => e = .returned (.int .i64 (names.idxOf x : Int)) ∧ w = w' := by
  have hk : names.idxOf x < names.length := List.idxOf_lt_length_of_mem hx
  obtain ⟨A, c, rfl, h1, h2, hu⟩ := SlS.open_ h
  have hlm : (names.map bsOf).length = names.length := List.length_map _
  obtain ⟨b, o, rfl, hD, _, hc⟩ := hu.cells (by omega)
  refine (Tryz.slices_Index_string b o (names.map bsOf).length c (names.map bsOf) (bsOf x) w (Nat.le_refl _) (by omega) hc).mono ?_
  rintro e w' ⟨rfl, hq⟩
  rw [Lib.idxOfS_hit (names.map bsOf) (names.map bsOf).length (names.idxOf x) (bsOf x) (by omega) (Nat.le_refl _) (by rw [names_at hk, List.getElem_idxOf]) (fun j hj => by
    obtain ⟨hl, hne⟩ := idx_ne hj
    rw [names_at hl]
    exact fun e => hne (bsOf_inj e))]
  exact ⟨rfl, hq.symm⟩
end Go.Proofs.YtoalecalahkblaaGreatDoor

set_option linter.all false
namespace Go.Proofs.YtoalecalahkblaaGreatDoor
open Go.RowKit
def noEv : Ev := ⟨⟨#[]⟩, ⟨#[]⟩, ⟨#[]⟩, 0, 0, []⟩
def lifeI (s : Bt) : Int := if s ∈ lifeW then (lifeW.idxOf s : Int) else -1
theorem lifeI_lt (s : Bt) : -1 ≤ lifeI s ∧ lifeI s < 6 := by
  unfold lifeI
  split
  · rename_i h
    have := List.idxOf_lt_length_of_mem h
    have e : lifeW.length = 6 := rfl
    omega
  · omega
def fldsD (r hd : List Bt) : List Fld → List (Int × Int) → List Fld × Int × Int
  | acc, [] => (acc, 0, 0)
  | acc, (k, q) :: l =>
    if cellAt r k = [] then fldsD r hd acc l
    else if (datE (bsOf (cellAt r k)) q).2 = 0 then fldsD r hd (acc ++ [⟨bsOf (cellAt hd k), (datE (bsOf (cellAt r k)) q).1⟩]) l
    else (acc, k, (datE (bsOf (cellAt r k)) q).2)
def evEnd (r : List Bt) (m : Mp) (res : Bt) (life t : Int) (d : List Fld × Int × Int) : Ev × Int × Int :=
  if d.2.2 = 0 then (⟨bsOf (cellAt r m.cas), bsOf (cellAt r m.act), bsOf res, life, t, sortS nlt d.1⟩, 0, 0) else (noEv, d.2.1, d.2.2)
def evT (r hd : List Bt) (m : Mp) (res : Bt) (life : Int) : Ev × Int × Int :=
  if (natE (cellAt r m.time)).2 = 0 then evEnd r m res life (natE (cellAt r m.time)).1 (fldsD r hd [] (m.data.zip m.kinds)) else (noEv, m.time, (natE (cellAt r m.time)).2)
def evL (r hd : List Bt) (m : Mp) (res : Bt) : Ev × Int × Int :=
  if m.life < 0 then evT r hd m res 5 else if lifeI (cellAt r m.life) < 0 then (noEv, m.life, 20) else evT r hd m res (1 + lifeI (cellAt r m.life))
def evR (r hd : List Bt) (m : Mp) : Ev × Int × Int :=
  if m.res < 0 then evL r hd m [] else if cellAt r m.res ≠ [] ∧ isNameB (bsOf (cellAt r m.res)) = false then (noEv, m.res, 8) else evL r hd m (cellAt r m.res)
def evE (r hd : List Bt) (m : Mp) : Ev × Int × Int :=
  if isNameB (bsOf (cellAt r m.cas)) = false then (noEv, m.cas, 8)
  else if isNameB (bsOf (cellAt r m.act)) = false then (noEv, m.act, 8)
  else evR r hd m
theorem index_life (u : Value) (x : Bt) (w : World) (h : SlP (Lt w.heap.size) w u lifeW) :
    Calls Tryz.prog 97 #[u, .string (bsOf x)] w fun e w' => e = .returned (.int .i64 (lifeI x)) ∧ w = w' := by
  by_cases hx : x ∈ lifeW
  · have := index_any u lifeW x w h hx
    unfold lifeI
    rw [if_pos hx]
    exact this
  · obtain ⟨A, c, rfl, h1, h2, hu⟩ := SlS.open_ h
    have hlm : (lifeW.map bsOf).length = lifeW.length := List.length_map _
    obtain ⟨b, o, rfl, hD, _, hc⟩ := hu.cells (by decide)
    refine (Tryz.slices_Index_string b o (lifeW.map bsOf).length c (lifeW.map bsOf) (bsOf x) w (Nat.le_refl _) (by omega) hc).mono ?_
    rintro e w' ⟨rfl, hq⟩
    rw [Lib.idxOfS_miss (lifeW.map bsOf) (lifeW.map bsOf).length (bsOf x) (fun j hj e => by
      rw [hlm] at hj
      rw [names_at hj] at e
      exact hx (bsOf_inj e ▸ List.getElem_mem hj))]
    unfold lifeI
    rw [if_neg hx]
    exact ⟨rfl, hq.symm⟩
theorem zip_at {a b : List Int} {i : Nat} {x y : Int} (hx : a[i]? = some x) (hy : b[i]? = some y) : (a.zip b).drop i = (x, y) :: (a.zip b).drop (i + 1) :=
  drop_cons (List.getElem?_zip_eq_some.2 ⟨hx, hy⟩)
theorem parse_valid (s : ByteArray) (h : (parseE s).2 = 0) : validV (parseE s).1 = true := by
  by_cases h1 : s = trueS
  · rw [parse_true h1]; decide +kernel
  by_cases h2 : s = falseS
  · rw [parse_false h2]; decide +kernel
  cases hn : numOf s with
  | some n =>
    obtain ⟨hb, _⟩ := num_some.1 hn
    rw [parse_num h1 h2 hn]
    show (numB n && noS ⟨#[]⟩) = true
    rw [hb]; decide +kernel
  | none =>
    cases ht : txtOf s with
    | none => rw [parse_none h1 h2 hn ht] at h; cases h
    | some t =>
      obtain ⟨_, hb⟩ := txt_some.1 ht
      rw [parse_txt h1 h2 hn ht]
      show (decide ((0 : Int) = 0) && textB t) = true
      rw [hb]; rfl
theorem dat_valid {s : ByteArray} {k : Int} (h : (datE s k).2 = 0) : validV (datE s k).1 = true := by
  unfold datE at h ⊢
  by_cases h3 : k = 3
  · rw [if_pos h3] at h ⊢
    by_cases hv : validV (txtV s) = true
    · rw [if_pos hv]; exact hv
    · rw [if_neg hv] at h; cases h
  · rw [if_neg h3] at h ⊢
    by_cases hp : (parseE s).2 ≠ 0 ∨ (parseE s).1.kind ≠ k
    · rw [if_pos hp] at h; cases h
    · rw [if_neg hp]
      exact parse_valid s (by rcases Classical.em ((parseE s).2 = 0) with h | h; exact h; exact absurd (.inl h) hp)
theorem noS_sizeV {s : ByteArray} (h : noS s = true) : s.size = 0 := by
  unfold noS at h
  rw [Lib.toList_data] at h
  have h := List.isEmpty_iff.1 h
  have := size_list s
  rw [h] at this
  exact this.symm
theorem fit_valid {v : Val} (h : validV v = true) : FitV v := by
  unfold validV at h
  split at h
  · rename_i h1
    simp only [Bool.and_eq_true, decide_eq_true_eq] at h
    have h2 := h.1
    have := noS_sizeV h.2
    exact ⟨by unfold Fit; omega, by unfold Fit; omega, by rw [this]; exact Nat.zero_le _⟩
  · split at h
    · simp only [Bool.and_eq_true] at h
      have hn := h.1
      unfold numB at hn
      simp only [decide_eq_true_eq] at hn
      have := noS_sizeV h.2
      exact ⟨by unfold Fit; omega, by unfold Fit; omega, by rw [this]; exact Nat.zero_le _⟩
    · split at h
      · simp only [Bool.and_eq_true, decide_eq_true_eq] at h
        have h2 := h.2
        unfold textB at h2
        simp only [Bool.and_eq_true, decide_eq_true_eq] at h2
        exact ⟨by unfold Fit; omega, by unfold Fit; omega, by have := h2.1; unfold maxLen; omega⟩
      · cases h
structure FldsOk (hd : List Bt) (ks : List Int) (fs : List Fld) : Prop where
  valid : ∀ f ∈ fs, validV f.v = true
  sub : (fs.map nmOf).Sublist (ks.map (cellAt hd))
theorem FldsOk.nil (hd : List Bt) : FldsOk hd [] [] := ⟨fun _ h => absurd h (by simp), List.Sublist.refl _⟩
theorem FldsOk.skip {hd : List Bt} {ks : List Int} {fs : List Fld} (h : FldsOk hd ks fs) (k : Int) : FldsOk hd (ks ++ [k]) fs :=
  ⟨h.valid, by rw [List.map_append]; exact h.sub.trans (List.sublist_append_left _ _)⟩
theorem FldsOk.more {hd : List Bt} {ks : List Int} {fs : List Fld} (h : FldsOk hd ks fs) (k : Int) {v : Val} (hv : validV v = true) : FldsOk hd (ks ++ [k]) (fs ++ [⟨bsOf (cellAt hd k), v⟩]) :=
  ⟨fun f hf => by
    rcases List.mem_append.1 hf with hf | hf
    · exact h.valid f hf
    · rw [List.mem_singleton] at hf; rw [hf]; exact hv, by rw [List.map_append, List.map_append]; exact h.sub.append (List.Sublist.refl _)⟩
theorem FldsOk.len {hd : List Bt} {ks : List Int} {fs : List Fld} (h : FldsOk hd ks fs) : fs.length ≤ ks.length := by
  have := h.sub.length_le
  rwa [List.length_map, List.length_map] at this
theorem cellAt_le {r : List Bt} {n : Nat} (h : ∀ c ∈ r, c.length ≤ n) (k : Int) : (cellAt r k).length ≤ n := by
  unfold cellAt
  rw [List.getD_eq_getElem?_getD]
  cases e : r[k.toNat]? with
  | none => exact Nat.zero_le _
  | some c => exact h c (List.mem_of_getElem? e)
theorem FldsOk.fit {hd : List Bt} {ks : List Int} {fs : List Fld} (h : FldsOk hd ks fs) (hl : ∀ c ∈ hd, c.length ≤ maxLen) : ∀ f ∈ fs, FitFl f := fun f hf => ⟨by
  have h1 : nmOf f ∈ ks.map (cellAt hd) := h.sub.subset (List.mem_map_of_mem hf)
  obtain ⟨k, _, hk⟩ := List.mem_map.1 h1
  have h2 := cellAt_le hl k
  rw [hk] at h2
  unfold nmOf at h2
  rwa [size_list] at h2, fit_valid (h.valid f hf)⟩
end Go.Proofs.YtoalecalahkblaaGreatDoor

namespace Go.Proofs.YtoalecalahkblaaGreatDoor
def unlisted (listed : Array Bool) : Nat := (listed.toList.filter (fun b => !b)).length
theorem unlisted_list (l : List Bool) : ∀ i, l[i]? = some false → ((l.set i true).filter (fun b => !b)).length + 1 = (l.filter (fun b => !b)).length := by
  induction l with
  | nil => intro i h; simp at h
  | cons b l ih =>
    intro i h
    cases i with
    | zero => simp at h; subst h; simp
    | succ i =>
      have := ih i (by simpa using h)
      cases b
      · simp only [List.set_cons_succ, List.filter_cons, Bool.not_false, if_true, List.length_cons]; omega
      · simp only [List.set_cons_succ, List.filter_cons, Bool.not_true, Bool.false_eq_true, if_false]; omega
theorem unlisted_set {listed : Array Bool} {i : Nat} (h : listed.getD i true = false) : unlisted (listed.setIfInBounds i true) + 1 = unlisted listed := by
  have hi : i < listed.size := by
    rcases Nat.lt_or_ge i listed.size with h' | h'
    · exact h'
    · simp [Array.getElem?_eq_none h'] at h
  have hb : listed[i] = false := by simpa [hi] using h
  unfold unlisted
  rw [Array.toList_setIfInBounds]
  exact unlisted_list _ i (by simp [hi, hb])
theorem wpAny_inv {P : Program} {ops : Array Oper} {md : Region.Mode} {Q : Exit → Act → World → Prop} (J : Array Bool → Act → World → Prop)
    (hstep : ∀ listed a w i, J listed a w → i ∈ Region.ready md ops listed → wpOp P ops Q i (J (listed.setIfInBounds i true)) a w)
    (hend : ∀ listed a w, J listed a w → Region.ready md ops listed = [] → Q .normal a w) :
    ∀ (fuel : Nat) (listed : Array Bool) (a : Act) (w : World), unlisted listed ≤ fuel → J listed a w → wpAny P md ops Q fuel listed a w := by
  intro fuel
  induction fuel with
  | zero =>
    intro listed a w hf hJ
    have hr : Region.ready md ops listed = [] := by
      cases h : Region.ready md ops listed with
      | nil => rfl
      | cons i l =>
        have hi : i ∈ Region.ready md ops listed := by rw [h]; simp
        have := unlisted_set (mem_ready.1 hi).1
        omega
    exact ⟨hr, hend _ _ _ hJ hr⟩
  | succ fuel ih =>
    intro listed a w hf hJ
    refine ⟨fun hr => hend _ _ _ hJ hr, fun i hi => ?_⟩
    exact wpOp_mono (fun a' w' h' => ih _ a' w' (by have := unlisted_set (mem_ready.1 hi).1; omega) h') (hstep listed a w i hJ hi)
theorem wp_region_inv {P : Program} {ops : Array Oper} {id : Nat} {Q : Exit → Act → World → Prop} {a : Act} {w : World} (hm : P.follows .mixedOrders = true) (J : Array Bool → Act → World → Prop)
    (h0 : J (Array.replicate ops.size false) a w.drew)
    (hstep : ∀ listed a w i, J listed a w → i ∈ Region.ready .any ops listed → wpOp P ops Q i (J (listed.setIfInBounds i true)) a w)
    (hend : ∀ listed a w, J listed a w → Region.ready .any ops listed = [] → Q .normal a w) : (Code.region id ops true).wp P Q a w := by
  refine wp_region_any hm (wpAny_inv J hstep hend _ _ _ _ ?_ h0)
  unfold unlisted
  exact Nat.le_trans (List.length_filter_le _ _) (by simp)
def Act.slot (a : Act) (s : Nat) : Value := a.tmps.getD s undef
def upd (σ : Nat → Value) (d : Option Tmp) (v : Value) : Nat → Value := match d with | some d => fun s => if s = d then v else σ s | none => σ
theorem slot_put {a : Act} {d : Option Tmp} {v : Value} (h : ∀ k, d = some k → k < a.tmps.size) : Act.slot (a.put d v) = upd (Act.slot a) d v := by
  cases d with
  | none => rfl
  | some d =>
    funext s
    have hd := h d rfl
    simp only [Act.slot, Act.put, upd, Array.getD_eq_getD_getElem?, Array.getElem?_setIfInBounds]
    by_cases hs : s = d
    · subst hs; simp [hd]
    · rw [if_neg (fun e => hs e.symm), if_neg hs]
theorem size_put (a : Act) (d : Option Tmp) (v : Value) : (a.put d v).tmps.size = a.tmps.size := by cases d <;> simp [Act.put]
theorem defers_put (a : Act) (d : Option Tmp) (v : Value) : (a.put d v).defers = a.defers := by cases d <;> rfl
structure Kin (l : List Oper) (a0 a : Act) : Prop where
  size : a.tmps.size = a0.tmps.size
  defers : a.defers = a0.defers
  slots : ∀ s, (∀ o ∈ l, o.dst ≠ some s) → Act.slot a s = Act.slot a0 s
theorem Kin.refl (l : List Oper) (a : Act) : Kin l a a := ⟨rfl, rfl, fun _ _ => rfl⟩
theorem Kin.put {l : List Oper} {a0 a : Act} (h : Kin l a0 a) (hd : ∀ o ∈ l, ∀ k, o.dst = some k → k < a0.tmps.size) {o : Oper} (ho : o ∈ l) (v : Value) : Kin l a0 (a.put o.dst v) ∧ Act.slot (a.put o.dst v) = upd (Act.slot a) o.dst v := by
  have e := slot_put (a := a) (d := o.dst) (v := v) (fun k hk => by rw [h.size]; exact hd o ho k hk)
  refine ⟨⟨(size_put _ _ _).trans h.size, (defers_put _ _ _).trans h.defers, fun s hs => ?_⟩, e⟩
  rw [e, ← h.slots s hs]
  have := hs o ho
  cases hk : o.dst with
  | none => rfl
  | some d =>
    simp only [upd]
    rw [if_neg]
    intro e'
    subst e'
    exact this hk
def Up (listed : Array Bool) (j : Nat) : Prop := listed.getD j false = true
structure Shut (l : List Oper) (listed : Array Bool) : Prop where
  size : listed.size = l.length
  closed : ∀ j oj, l[j]? = some oj → Up listed j → ∀ e ∈ oj.after, Region.binds .any e = true → Up listed e.on
theorem Shut.start (l : List Oper) : Shut l (Array.replicate l.length false) :=
  ⟨by simp, fun j oj _ hl => by unfold Up at hl; rw [getD_replicate_false] at hl; cases hl⟩
theorem Shut.up {l : List Oper} {listed : Array Bool} {j i : Nat} (h : Shut l listed) (hj : Up listed j) (hw : Region.waitsFor .any l.toArray j i = true) : Up listed i := by
  obtain ⟨oj, hoj, e, he, hb, rfl⟩ := Region.waitsFor_spec hw
  exact h.closed j oj (by simpa using hoj) hj e he hb
theorem ready_up {l : List Oper} {listed : Array Bool} {i j : Nat} (hi : i ∈ Region.ready .any l.toArray listed) (hw : Region.waitsFor .any l.toArray i j = true) : Up listed j := by
  obtain ⟨_, o, ho, hall⟩ := mem_ready.1 hi
  obtain ⟨oj, hoj, e, he, hb, rfl⟩ := Region.waitsFor_spec hw
  have : oj = o := Option.some.inj (hoj.symm.trans ho)
  subst this
  exact hall e he hb
theorem ready_not {l : List Oper} {listed : Array Bool} {i : Nat} (hi : i ∈ Region.ready .any l.toArray listed) : ¬ Up listed i := by
  unfold Up
  rw [getD_both (mem_ready.1 hi).1]
  simp
theorem Shut.set {l : List Oper} {listed : Array Bool} {i : Nat} (h : Shut l listed) (hi : i ∈ Region.ready .any l.toArray listed) : Shut l (listed.setIfInBounds i true) := by
  obtain ⟨_, oi, hoi, hall⟩ := mem_ready.1 hi
  refine ⟨by simp [h.size], fun j oj hj hl e he hb => ?_⟩
  unfold Up at hl ⊢
  by_cases hij : i = j
  · subst hij
    have : oj = oi := Option.some.inj ((show l.toArray[i]? = some oj by simpa using hj).symm.trans hoi)
    subst this
    exact getD_set_true (hall e he hb)
  · rw [getD_set_ne false hij] at hl
    exact getD_set_true (h.closed j oj hj hl e he hb)
theorem up_set {listed : Array Bool} {i j : Nat} (h : Up (listed.setIfInBounds i true) j) (hij : i ≠ j) : Up listed j := by
  unfold Up at *
  rwa [getD_set_ne false hij] at h
def Steps (P : Program) (l : List Oper) (Q : Exit → Act → World → Prop) (a0 : Act) (K : Array Bool → (Nat → Value) → World → Prop) : Nat → List Oper → Prop
  | _, [] => True
  | i, o :: rest => (∀ listed (a : Act) w, Shut l listed → i ∈ Region.ready .any l.toArray listed → Kin l a0 a → K listed (Act.slot a) w →
      o.wp P a w (fun a' w' => ∃ v, a' = a.put o.dst v ∧ K (listed.setIfInBounds i true) (upd (Act.slot a) o.dst v) w') Q) ∧ Steps P l Q a0 K (i + 1) rest
theorem Steps.at_ {P : Program} {l : List Oper} {Q : Exit → Act → World → Prop} {a0 : Act} {K : Array Bool → (Nat → Value) → World → Prop} : ∀ (m : List Oper) (k i : Nat) (o : Oper), Steps P l Q a0 K k m → m[i]? = some o →
    ∀ listed (a : Act) w, Shut l listed → (k + i) ∈ Region.ready .any l.toArray listed → Kin l a0 a → K listed (Act.slot a) w →
      o.wp P a w (fun a' w' => ∃ v, a' = a.put o.dst v ∧ K (listed.setIfInBounds (k + i) true) (upd (Act.slot a) o.dst v) w') Q := by
  intro m
  induction m with
  | nil => intro k i o _ h; simp at h
  | cons x m ih =>
    intro k i o hs h
    cases i with
    | zero => injection h with h; subst h; exact hs.1
    | succ i =>
      have := ih (k + 1) i o hs.2 (by simpa using h)
      rwa [show k + 1 + i = k + (i + 1) from by omega] at this
def dstsB (l : List Oper) (n : Nat) : Bool := l.all fun o => o.guard.isNone && match o.dst with | some k => decide (k < n) | none => true
theorem wp_region_slots {P : Program} {l : List Oper} {id : Nat} {Q : Exit → Act → World → Prop} {a0 : Act} {w : World} (hm : P.follows .mixedOrders = true)
    (hB : dstsB l a0.tmps.size = true) (K : Array Bool → (Nat → Value) → World → Prop)
    (h0 : K (Array.replicate l.length false) (Act.slot a0) w.drew) (hstep : Steps P l Q a0 K 0 l)
    (hend : ∀ listed (a : Act) w, (∀ i, i < l.length → Up listed i) → Kin l a0 a → K listed (Act.slot a) w → Q .normal a w) (hall : ∀ listed, Shut l listed → Region.ready .any l.toArray listed = [] → ∀ i, i < l.length → Up listed i) : (Code.region id l.toArray true).wp P Q a0 w := by
  unfold dstsB at hB
  rw [List.all_eq_true] at hB
  refine wp_region_inv hm (fun listed a w => Shut l listed ∧ Kin l a0 a ∧ K listed (Act.slot a) w) ⟨by simpa using Shut.start l, Kin.refl _ _, by simpa using h0⟩ ?_ (fun listed a w h hr => hend listed a w (hall listed h.1 hr) h.2.1 h.2.2)
  rintro listed a w i ⟨hsh, hk, hK⟩ hi
  obtain ⟨_, o, ho, _⟩ := mem_ready.1 hi
  have ho' : l[i]? = some o := by simpa using ho
  have hmem : o ∈ l := List.mem_of_getElem? ho'
  have hb := hB o hmem
  rw [Bool.and_eq_true] at hb
  unfold wpOp
  rw [ho]
  have hw : Region.wanted o (yielded l.toArray a.tmps) = true := by simp [Region.wanted, Option.isNone_iff_eq_none.1 hb.1]
  simp only [hw, if_true]
  left
  refine Oper.wp_mono ?_ (by have := hstep.at_ l 0 i o ho' listed a w hsh (by rwa [Nat.zero_add]) hk hK; rwa [Nat.zero_add] at this)
  rintro a' w' ⟨v, rfl, h⟩
  obtain ⟨k1, k2⟩ := hk.put (fun o' ho' k hk' => by
    have := hB o' ho'
    rw [Bool.and_eq_true, hk'] at this
    simpa using this.2) hmem v
  exact ⟨hsh.set hi, k1, by rw [k2]; exact h⟩
end Go.Proofs.YtoalecalahkblaaGreatDoor

namespace Go.Proofs.YtoalecalahkblaaGreatDoor
open Go.RowKit
def dstOf (l : List Oper) (j : Nat) : Nat := ((l[j]?).bind (·.dst)).getD 0
def apartB (l : List Oper) (n : Nat) : Bool := (List.range n).all fun i => match (l[i]?).bind (·.dst) with
  | none => false
  | some a => (List.range l.length).all fun j => i == j || match (l[j]?).bind (·.dst) with
    | none => true
    | some b => a != b
def lastB (l : List Oper) (n : Nat) : Bool := (List.range n).all fun i => Region.waitsFor .any l.toArray n i
def StepsM (P : Program) (l : List Oper) (Q : Exit → Act → World → Prop) (a0 : Act) (w0 : World) (F : Nat → Value → World → Prop) : Nat → List Oper → Prop
  | _, [] => True
  | i, o :: rest => (∀ (a : Act) W, Kin l a0 a → Below w0.heap.size w0 W → (∀ j, Region.waitsFor .any l.toArray i j = true → F j (Act.slot a (dstOf l j)) W) →
      o.wp P a W (fun a' W' => ∃ v, a' = a.put o.dst v ∧ Below W.heap.size W W' ∧ F i v W') Q) ∧ StepsM P l Q a0 w0 F (i + 1) rest
theorem StepsM.at_ {P : Program} {l : List Oper} {Q : Exit → Act → World → Prop} {a0 : Act} {w0 : World} {F : Nat → Value → World → Prop} : ∀ (m : List Oper) (k i : Nat) (o : Oper), StepsM P l Q a0 w0 F k m → m[i]? = some o →
    ∀ (a : Act) W, Kin l a0 a → Below w0.heap.size w0 W → (∀ j, Region.waitsFor .any l.toArray (k + i) j = true → F j (Act.slot a (dstOf l j)) W) →
      o.wp P a W (fun a' W' => ∃ v, a' = a.put o.dst v ∧ Below W.heap.size W W' ∧ F (k + i) v W') Q := by
  intro m
  induction m with
  | nil => intro k i o _ h; simp at h
  | cons x m ih =>
    intro k i o hs h
    cases i with
    | zero => injection h with h; subst h; exact hs.1
    | succ i =>
      have := ih (k + 1) i o hs.2 (by simpa using h)
      rwa [show k + 1 + i = k + (i + 1) from by omega] at this
theorem steps_all {P : Program} {l : List Oper} {Q : Exit → Act → World → Prop} {a0 : Act} {K : Array Bool → (Nat → Value) → World → Prop} (h : ∀ (i : Nat) (o : Oper), l[i]? = some o →
    ∀ listed (a : Act) w, Shut l listed → i ∈ Region.ready .any l.toArray listed → Kin l a0 a → K listed (Act.slot a) w →
      o.wp P a w (fun a' w' => ∃ v, a' = a.put o.dst v ∧ K (listed.setIfInBounds i true) (upd (Act.slot a) o.dst v) w') Q) : Steps P l Q a0 K 0 l := by
  have gen : ∀ (m : List Oper) (k : Nat), (∀ i o, m[i]? = some o → l[k + i]? = some o) → Steps P l Q a0 K k m := by
    intro m
    induction m with
    | nil => intro k _; trivial
    | cons x m ih =>
      intro k hk
      refine ⟨fun listed a w => h k x (by simpa using hk 0 x rfl) listed a w, ih (k + 1) fun i o ho => ?_⟩
      have := hk (i + 1) o (by simpa using ho)
      rwa [show k + (i + 1) = k + 1 + i by omega] at this
  exact gen l 0 (fun i o ho => by rw [Nat.zero_add]; exact ho)
end Go.Proofs.YtoalecalahkblaaGreatDoor

namespace Go.Proofs.YtoalecalahkblaaGreatDoor
def TailPost (P : Program) (l : List Oper) (n : Nat) (Q : Exit → Act → World → Prop) : Exit → Act → World → Prop
  | .normal, a, w => wpList P l.toArray Q (l.drop n) a w
  | e, a, w => Q e a w
def earlyB (l : List Oper) : Bool := (List.range l.length).all fun j => match l[j]? with
  | some o => o.guard.isNone && o.after.all fun e => !Region.binds .any e || decide (e.on < j)
  | none => true
theorem early_spec {l : List Oper} (h : earlyB l = true) {j : Nat} {o : Oper} (hj : l[j]? = some o) : o.guard = none ∧ ∀ e ∈ o.after, Region.binds .any e = true → e.on < j := by
  have hlt : j < l.length := by
    rcases Nat.lt_or_ge j l.length with h' | h'
    · exact h'
    · rw [List.getElem?_eq_none h'] at hj; cases hj
  have h1 := List.all_eq_true.1 h j (List.mem_range.2 hlt)
  rw [hj] at h1
  simp only [Bool.and_eq_true, Array.all_eq_true_iff_forall_mem, Bool.or_eq_true, Bool.not_eq_true', decide_eq_true_eq] at h1
  refine ⟨Option.isNone_iff_eq_none.1 h1.1, fun e he hb => (h1.2 e he).resolve_left (by rw [hb]; simp)⟩
def tailB (l : List Oper) (n : Nat) : Bool := earlyB l && decide (n < l.length) && Region.sinkB .any l.toArray n && Region.chainB .any l.toArray n && Region.seqB .any l.toArray (l.length - n) n (Array.replicate n true ++ Array.replicate (l.length - n) false)
section
variable {P : Program} {l : List Oper} {n : Nat} {Q : Exit → Act → World → Prop}
theorem first_ready (hE : earlyB l = true) {L : Array Bool} (hs : L.size = l.length) : ∀ (i : Nat), i < L.size → L.getD i true = false → ∃ j, j ≤ i ∧ j ∈ Region.ready .any l.toArray L := by
  intro i
  induction i using Nat.strongRecOn with
  | _ i ih =>
    intro hi hun
    have hi' : i < l.length := by omega
    by_cases hr : i ∈ Region.ready .any l.toArray L
    · exact ⟨i, Nat.le_refl _, hr⟩
    · have ho : l[i]? = some l[i] := List.getElem?_eq_getElem hi'
      have hsp := early_spec hE ho
      have : ∃ e ∈ l[i].after, Region.binds .any e = true ∧ L.getD e.on false = false := by
        apply Classical.byContradiction
        intro hno
        refine hr (mem_ready.2 ⟨hun, l[i], by simp, fun e he hb => ?_⟩)
        cases h : L.getD e.on false with
        | true => rfl
        | false => exact absurd ⟨e, he, hb, h⟩ hno
      obtain ⟨e, he, hb, hf⟩ := this
      have hlt := hsp.2 e he hb
      obtain ⟨j, hj, hr'⟩ := ih e.on hlt (by omega) (getD_in (by omega) hf)
      exact ⟨j, by omega, hr'⟩
end
end Go.Proofs.YtoalecalahkblaaGreatDoor

namespace Go.Proofs.YtoalecalahkblaaGreatDoor
open Go.RowKit
section
variable {P : Program} {o : Oper} {a : Act} {w : World} {K : Act → World → Prop} {Q : Exit → Act → World → Prop}
theorem wpM_load (t : TypeId) (x : Operand) (p V : Value) (ho : o.op = .load t x) (hv : a.eval x = p) (hr : (Instr.loadAt t p).run P w = .ok V w) (h : K (a.put o.dst V) w) : o.wp P a w K Q := by
  unfold Oper.wp execOp
  simp only [ho, hv, Sem.run_bind, hr, Result.andThen_ok]
  exact h
theorem wpM_slice (t : TypeId) (n : Nat) (parts : Array (Nat × Operand)) (V : Value) (w' : World) (vals : Array (Nat × Value)) (ho : o.op = .buildSlice t n parts) (hv : (parts.map fun (i, x) => (i, a.eval x)) = vals) (hr : (Instr.buildSlice t n vals).run P w = .ok V w') (h : K (a.put o.dst V) w') : o.wp P a w K Q := by
  unfold Oper.wp execOp
  simp only [ho, hv, Sem.run_bind, hr, Result.andThen_ok]
  exact h
theorem wpM_alloc (t : TypeId) (V : Value) (w' : World) (ho : o.op = .alloc t) (hr : (Instr.alloc t true (.tuple #[])).run P w = .ok V w') (h : K (a.put o.dst V) w') : o.wp P a w K Q := by
  unfold Oper.wp execOp
  simp only [ho, Sem.run_bind, hr, Result.andThen_ok]
  exact h
theorem wpM_store (t : TypeId) (x y : Operand) (p V : Value) (w' : World) (u : Unit) (ho : o.op = .store t x y) (hv : a.eval x = p) (hv2 : a.eval y = V) (hr : (Instr.storeAt t p V).run P w = .ok u w') (h : K (a.put o.dst undef) w') : o.wp P a w K Q := by
  unfold Oper.wp execOp
  simp only [ho, hv, hv2, Sem.run_bind, hr, Result.andThen_ok]
  exact h
theorem wpM_run (V : Value) (w' : World) (hr : (execOp a.eval o).run P w = .ok (.value V) w') (h : K (a.put o.dst V) w') : o.wp P a w K Q := by
  unfold Oper.wp
  rw [hr]
  exact h
end
def noDstB (l : List Oper) (s : Nat) : Bool := l.all fun o => o.dst != some s
theorem Kin.same {l : List Oper} {a0 a : Act} (h : Kin l a0 a) {s : Nat} (hs : noDstB l s = true) : Act.slot a s = Act.slot a0 s :=
  h.slots s fun o ho e => by
    have := List.all_eq_true.1 hs o ho
    rw [e] at this
    simp at this
theorem hall_of {l : List Oper} (hE : earlyB l = true) : ∀ listed, Shut l listed → Region.ready .any l.toArray listed = [] → ∀ i, i < l.length → Up listed i := by
  intro listed hs hr i hi
  have hsz := hs.size
  cases h : listed.getD i true with
  | true =>
    unfold Up
    rw [Array.getD_eq_getD_getElem?, Array.getElem?_eq_getElem (by omega)] at h ⊢
    exact h
  | false =>
    obtain ⟨j, _, hj⟩ := first_ready hE hsz i (by omega) h
    rw [hr] at hj; cases hj
def putsAll (σ : Nat → Value) : List Oper → Act → Act
  | [], a => a
  | o :: l, a => putsAll σ l (a.put o.dst (σ (o.dst.getD 0)))
theorem puts_size (σ : Nat → Value) : ∀ (l : List Oper) (a : Act), (putsAll σ l a).tmps.size = a.tmps.size
  | [], a => rfl
  | o :: l, a => by rw [putsAll, puts_size σ l, size_put]
theorem puts_defers (σ : Nat → Value) : ∀ (l : List Oper) (a : Act), (putsAll σ l a).defers = a.defers
  | [], a => rfl
  | o :: l, a => by rw [putsAll, puts_defers σ l, defers_put]
theorem puts_slot (σ : Nat → Value) : ∀ (l : List Oper) (a : Act), (∀ o ∈ l, ∀ k, o.dst = some k → k < a.tmps.size) → ∀ s, Act.slot (putsAll σ l a) s = if (l.any fun o => o.dst == some s) = true then σ s else Act.slot a s
  | [], a, _, s => by simp [putsAll]
  | o :: l, a, h, s => by
    rw [putsAll, puts_slot σ l _ (fun o' ho' k hk => by rw [size_put]; exact h o' (by simp [ho']) k hk) s, slot_put (h o (by simp)), List.any_cons]
    cases hd : o.dst with
    | none => simp [upd]
    | some d =>
      by_cases hs : s = d
      · subst hs; simp [upd]
      · have hds : (some d == some s) = false := by simpa using fun e => hs e.symm
        simp [upd, hs, hds]
theorem act_ext {a b : Act} (h1 : a.tmps.size = b.tmps.size) (h2 : a.defers = b.defers) (h3 : ∀ s, Act.slot a s = Act.slot b s) : a = b := by
  obtain ⟨t, d⟩ := a
  obtain ⟨t', d'⟩ := b
  dsimp only at h1 h2
  subst h2
  congr 1
  refine Array.ext h1 fun i hi hi' => ?_
  have := h3 i
  simpa [Act.slot, hi, hi'] using this
theorem Kin.form {l : List Oper} {a0 a : Act} (h : Kin l a0 a) (hB : dstsB l a0.tmps.size = true) : a = putsAll (Act.slot a) l a0 := by
  have hd : ∀ o ∈ l, ∀ k, o.dst = some k → k < a0.tmps.size := fun o ho k hk => by
    unfold dstsB at hB
    rw [List.all_eq_true] at hB
    have := hB o ho
    rw [Bool.and_eq_true, hk] at this
    simpa using this.2
  refine act_ext ?_ ?_ fun s => ?_
  · rw [puts_size]; exact h.size
  · rw [puts_defers]; exact h.defers
  · rw [puts_slot _ _ _ hd]
    split
    · rfl
    · rename_i hn
      refine h.slots s fun o ho e => hn ?_
      rw [List.any_eq_true]
      exact ⟨o, ho, by rw [e]; simp⟩
theorem wpM_assign {P : Program} {o : Oper} {a : Act} {w : World} {K : Act → World → Prop} {Q : Exit → Act → World → Prop} (x : Operand) (V : Value) (ho : o.op = .assign x) (hv : a.eval x = V) (h : K (a.put o.dst V) w) : o.wp P a w K Q := by
  unfold Oper.wp execOp
  simp only [ho, hv]
  exact h
def blkOf : Value → Nat
  | .pointer (some a) => a.block
  | .slice (some a) _ _ => a.block
  | _ => 0
def vOf (l : List Oper) (σ : Nat → Value) (j : Nat) : Value := match (l[j]?).bind (·.dst) with
  | some d => σ d
  | none => undef
def dsts2B (l : List Oper) : Bool := (List.range l.length).all fun i => (List.range l.length).all fun j => i == j || match (l[i]?).bind (·.dst), (l[j]?).bind (·.dst) with
  | some a, some b => a != b
  | _, _ => true
theorem vOf_put {l : List Oper} (hD : dsts2B l = true) {i : Nat} {o : Oper} (ho : l[i]? = some o) (σ : Nat → Value) (v : Value) : (o.dst ≠ none → vOf l (upd σ o.dst v) i = v) ∧ ∀ j, j < l.length → j ≠ i → vOf l (upd σ o.dst v) j = vOf l σ j := by
  have hil : i < l.length := by
    rcases Nat.lt_or_ge i l.length with h | h
    · exact h
    · rw [List.getElem?_eq_none h] at ho; cases ho
  constructor
  · intro hd
    unfold vOf
    rw [ho]
    cases e : o.dst with
    | none => exact absurd e hd
    | some d => simp [e, upd]
  · intro j hj hji
    unfold vOf
    unfold dsts2B at hD
    rw [List.all_eq_true] at hD
    have h1 := hD i (List.mem_range.2 hil)
    rw [List.all_eq_true] at h1
    have h2 := h1 j (List.mem_range.2 hj)
    rw [ho] at h2
    cases e : o.dst with
    | none => rfl
    | some d =>
      cases e2 : (l[j]?).bind (·.dst) with
      | none => rfl
      | some d' =>
        simp only [Option.bind_some, e, e2, Bool.or_eq_true, beq_iff_eq, bne_iff_ne] at h2
        have hne : d ≠ d' := by
          rcases h2 with h2 | h2
          · exact absurd h2.symm hji
          · exact h2
        simp only [upd]
        rw [if_neg (fun h => hne h.symm)]
structure MkSt (n : Nat) (mk : Nat → Bool) (w0 : World) (F : Nat → (Nat → Value) → World → Prop) (listed : Array Bool) (τ : Nat → Value) (W : World) : Prop where
  below : Below w0.heap.size w0 W
  lo : ∀ i, i < n → mk i = true → Up listed i → w0.heap.size ≤ blkOf (τ i) ∧ blkOf (τ i) < W.heap.size
  apart : ∀ i j, i < n → j < n → mk i = true → mk j = true → Up listed i → Up listed j → i ≠ j → blkOf (τ i) ≠ blkOf (τ j)
  facts : ∀ j, j < n → Up listed j → F j τ W
theorem wp_region_mk {P : Program} {l : List Oper} {id : Nat} {Q : Exit → Act → World → Prop} {a0 : Act} {w : World} (hm : P.follows .mixedOrders = true)
    (hB : dstsB l a0.tmps.size = true) (hD : dsts2B l = true) (mk : Nat → Bool) (F : Nat → (Nat → Value) → World → Prop)
    (hstep : ∀ (i : Nat) (o : Oper), l[i]? = some o → ∀ listed (a : Act) W, Shut l listed → i ∈ Region.ready .any l.toArray listed → Kin l a0 a → MkSt l.length mk w.drew F listed (vOf l (Act.slot a)) W →
      o.wp P a W (fun a' W' => ∃ v, a' = a.put o.dst v ∧ Below w.drew.heap.size W W' ∧ (mk i = true → W.heap.size ≤ blkOf v ∧ blkOf v < W'.heap.size) ∧
        ∀ τ', (o.dst ≠ none → τ' i = v) → (∀ j, j < l.length → j ≠ i → τ' j = vOf l (Act.slot a) j) → F i τ' W' ∧ ∀ j, j < l.length → j ≠ i → Up listed j → F j τ' W') Q)
    (hmk : ∀ (i : Nat) (o : Oper), l[i]? = some o → mk i = true → o.dst ≠ none)
    (hend : ∀ listed (a : Act) W, (∀ i, i < l.length → Up listed i) → Kin l a0 a → MkSt l.length mk w.drew F listed (vOf l (Act.slot a)) W → Q .normal a W)
    (hall : ∀ listed, Shut l listed → Region.ready .any l.toArray listed = [] → ∀ i, i < l.length → Up listed i) : (Code.region id l.toArray true).wp P Q a0 w := by
  refine wp_region_slots hm hB (fun listed σ W => MkSt l.length mk w.drew F listed (vOf l σ) W) ⟨Below.refl _ _, fun i _ _ hu => ?_, fun i j _ _ _ _ hu => ?_, fun j _ hu => ?_⟩ (steps_all fun i o ho listed a W hsh hi hk hK => ?_) hend hall
  · unfold Up at hu; rw [getD_replicate_false] at hu; cases hu
  · unfold Up at hu; rw [getD_replicate_false] at hu; cases hu
  · unfold Up at hu; rw [getD_replicate_false] at hu; cases hu
  · refine Oper.wp_mono ?_ (hstep i o ho listed a W hsh hi hk hK)
    rintro a' W' ⟨v, rfl, hb, hnew, hf⟩
    refine ⟨v, rfl, ?_⟩
    obtain ⟨p1, p2⟩ := vOf_put hD ho (Act.slot a) v
    generalize vOf l (upd (Act.slot a) o.dst v) = τ' at *
    obtain ⟨f1, f2⟩ := hf τ' p1 p2
    refine ⟨hK.below.trans hb, fun j hj hm' hu => ?_, fun j k hj hk' hmj hmk' huj huk hjk => ?_, fun j hj hu => ?_⟩
    · by_cases e : j = i
      · subst e
        rw [p1 (hmk j o ho hm')]
        have := hnew hm'
        have := hK.below.size
        omega
      · rw [p2 j hj e]
        have := hK.lo j hj hm' (up_set hu (fun h => e h.symm))
        have := hb.size
        omega
    · by_cases e1 : j = i
      · subst e1
        have e2 : k ≠ j := fun h => hjk h.symm
        rw [p1 (hmk j o ho hmj), p2 k hk' e2]
        have h1 := hnew hmj
        have h2 := hK.lo k hk' hmk' (up_set huk (fun h => e2 h.symm))
        omega
      · by_cases e2 : k = i
        · subst e2
          rw [p1 (hmk k o ho hmk'), p2 j hj e1]
          have h1 := hnew hmk'
          have h2 := hK.lo j hj hmj (up_set huj (fun h => e1 h.symm))
          omega
        · rw [p2 j hj e1, p2 k hk' e2]
          exact hK.apart j k hj hk' hmj hmk' (up_set huj (fun h => e1 h.symm)) (up_set huk (fun h => e2 h.symm)) hjk
    · by_cases e : j = i
      · subst e; exact f1
      · exact f2 j hj e (up_set hu (fun h => e h.symm))
end Go.Proofs.YtoalecalahkblaaGreatDoor

namespace Go.Proofs.YtoalecalahkblaaGreatDoor
open Go.RowKit
def OwnF {α : Type} (f : α → Value) (w : World) (base t g cap : Nat) (xs : List α) : Prop :=
  w.ownsRow base t 1 (.slice (some ⟨g, 0, none⟩) xs.length cap) xs.length (xs.map f) ∧ g < w.heap.size ∧ base ≤ g
section
variable {α : Type} {f : α → Value} {w w' : World} {base t g cap : Nat} {xs : List α}
theorem OwnF.cell (h : OwnF f w base t g cap xs) {k : Nat} {x : α} (hx : xs[k]? = some x) : w.cell? ⟨g, k, none⟩ = some (f x) := by
  have hk : k < xs.length := by
    rcases Nat.lt_or_ge k xs.length with h | h
    · exact h
    · rw [List.getElem?_eq_none h] at hx; cases hx
  rw [h.1.cellAt k (by omega)]; simp [hx]
theorem OwnF.frozen (h : OwnF f w base t g cap xs) (k : Nat) : w.frozen? ⟨g, k, none⟩ = false := h.1.frozenAt k
theorem OwnF.set_ (h : OwnF f w base t g cap xs) (k : Nat) (x : α) : OwnF f (w.setCell ⟨g, k, none⟩ (f x)) base t g cap (xs.set k x) := by
  refine ⟨?_, by simpa using h.2.1, h.2.2⟩
  have := (h.1.stored k (f x)).1
  rw [List.length_set, List.map_set]
  exact this
theorem OwnF.now (h : OwnF f w base t g cap xs) (hb : Below w.heap.size w w') : OwnF f w' base t g cap xs := ⟨own_now h.1 hb, Nat.lt_of_lt_of_le h.2.1 hb.size, h.2.2⟩
theorem OwnF.drew (h : OwnF f w base t g cap xs) : OwnF f w.drew base t g cap xs := h
theorem OwnF.drewN (h : OwnF f w base t g cap xs) (n : Nat) : OwnF f (w.drewN n) base t g cap xs := h
theorem OwnF.far (h : OwnF f w base t g cap xs) {p : Addr} (hp : p.block ≠ g) (u : Value) : OwnF f (w.setCell p u) base t g cap xs :=
  ⟨ownsRow_setCell_other h.1 (fun e => by injection e with e; exact hp e.symm) u, by simpa using h.2.1, h.2.2⟩
theorem OwnF.lt (h : OwnF f w base t g cap xs) : g < w.heap.size := h.2.1
theorem OwnF.from_ (h : OwnF f w base t g cap xs) : base ≤ g := h.2.2
theorem OwnF.mono {base' : Nat} (h : OwnF f w base t g cap xs) (hb : base' ≤ base) : OwnF f w base' t g cap xs := by
  refine ⟨⟨h.1.1, ?_⟩, h.2.1, Nat.le_trans hb h.2.2⟩
  rcases h.1.2 with h' | ⟨g', c', cur, e, h1, h2⟩
  · exact .inl h'
  · exact .inr ⟨g', c', cur, e, Nat.le_trans hb h1, h2⟩
end
end Go.Proofs.YtoalecalahkblaaGreatDoor

namespace Go.Proofs.YtoalecalahkblaaGreatDoor
open Go.RowKit
theorem wp_region_rel {P : Program} {l : List Oper} {id : Nat} {Q : Exit → Act → World → Prop} {a0 : Act} {w : World} (hm : P.follows .mixedOrders = true)
    (hB : dstsB l a0.tmps.size = true) (hD : dsts2B l = true) (R : World → Prop) (F : Nat → Value → World → Prop) (h0 : R w.drew)
    (hstep : ∀ (i : Nat) (o : Oper), l[i]? = some o → ∀ listed (a : Act) W, Shut l listed → i ∈ Region.ready .any l.toArray listed → Kin l a0 a → R W →
      (∀ j, j < l.length → Up listed j → F j (vOf l (Act.slot a) j) W) →
      o.wp P a W (fun a' W' => ∃ v, a' = a.put o.dst v ∧ R W' ∧ (∀ u, (o.dst ≠ none → u = v) → F i u W') ∧ ∀ j, j < l.length → j ≠ i → Up listed j → ∀ u, F j u W → F j u W') Q)
    (hend : ∀ (a : Act) W, Kin l a0 a → R W → (∀ j, j < l.length → F j (vOf l (Act.slot a) j) W) → Q .normal a W)
    (hall : ∀ listed, Shut l listed → Region.ready .any l.toArray listed = [] → ∀ i, i < l.length → Up listed i) : (Code.region id l.toArray true).wp P Q a0 w := by
  refine wp_region_slots hm hB (fun listed σ W => R W ∧ ∀ j, j < l.length → Up listed j → F j (vOf l σ j) W) ⟨h0, fun j _ hu => ?_⟩ (steps_all fun i o ho listed a W hsh hi hk hK => ?_) (fun listed a W hu hk hK => hend a W hk hK.1 fun j hj => hK.2 j hj (hu j hj)) hall
  · unfold Up at hu; rw [getD_replicate_false] at hu; cases hu
  · refine Oper.wp_mono ?_ (hstep i o ho listed a W hsh hi hk hK.1 hK.2)
    rintro a' W' ⟨v, rfl, hR, hf, hkeep⟩
    refine ⟨v, rfl, hR, fun j hj hu => ?_⟩
    obtain ⟨p1, p2⟩ := vOf_put hD ho (Act.slot a) v
    by_cases e : j = i
    · subst e; exact hf _ p1
    · rw [p2 j hj e]
      have hu' := up_set hu (fun h => e h.symm)
      exact hkeep j hj e hu' _ (hK.2 j hj hu')
theorem wp_region_rel2 {P : Program} {l : List Oper} {id : Nat} {Q : Exit → Act → World → Prop} {a0 : Act} {w : World} (hm : P.follows .mixedOrders = true)
    (hB : dstsB l a0.tmps.size = true) (hD : dsts2B l = true) (R : World → Prop) (F : Nat → Value → World → Prop) (dead : Nat → Nat → Bool) (h0 : R w.drew)
    (hstep : ∀ (i : Nat) (o : Oper), l[i]? = some o → ∀ listed (a : Act) W, Shut l listed → i ∈ Region.ready .any l.toArray listed → Kin l a0 a → R W →
      (∀ j, j < l.length → Up listed j → (∀ k, dead j k = true → ¬ Up listed k) → F j (vOf l (Act.slot a) j) W) →
      o.wp P a W (fun a' W' => ∃ v, a' = a.put o.dst v ∧ R W' ∧ (∀ u, (o.dst ≠ none → u = v) → F i u W') ∧ ∀ j, j < l.length → j ≠ i → Up listed j → dead j i = false → ∀ u, F j u W → F j u W') Q)
    (hend : ∀ (a : Act) W, Kin l a0 a → R W → (∀ j, j < l.length → (∀ k, dead j k = false) → F j (vOf l (Act.slot a) j) W) → Q .normal a W)
    (hall : ∀ listed, Shut l listed → Region.ready .any l.toArray listed = [] → ∀ i, i < l.length → Up listed i) : (Code.region id l.toArray true).wp P Q a0 w := by
  refine wp_region_slots hm hB (fun listed σ W => R W ∧ ∀ j, j < l.length → Up listed j → (∀ k, dead j k = true → ¬ Up listed k) → F j (vOf l σ j) W) ⟨h0, fun j _ hu => ?_⟩ (steps_all fun i o ho listed a W hsh hi hk hK => ?_) (fun listed a W hu hk hK => hend a W hk hK.1 fun j hj hd => hK.2 j hj (hu j hj) fun k hk' => by rw [hd k] at hk'; cases hk') hall
  · unfold Up at hu; rw [getD_replicate_false] at hu; cases hu
  · have hil : i < l.length := (List.getElem?_eq_some_iff.1 ho).1
    refine Oper.wp_mono ?_ (hstep i o ho listed a W hsh hi hk hK.1 hK.2)
    rintro a' W' ⟨v, rfl, hR, hf, hkeep⟩
    refine ⟨v, rfl, hR, fun j hj hu hd => ?_⟩
    obtain ⟨p1, p2⟩ := vOf_put hD ho (Act.slot a) v
    by_cases e : j = i
    · subst e; exact hf _ p1
    · rw [p2 j hj e]
      have hu' := up_set hu (fun h => e h.symm)
      have hdi : dead j i = false := by
        cases hq : dead j i with
        | false => rfl
        | true =>
          refine absurd ?_ (hd i hq)
          unfold Up
          have hsz := hsh.size
          rw [Array.getD_eq_getD_getElem?, Array.getElem?_setIfInBounds]
          simp [hsz, hil]
      refine hkeep j hj e hu' hdi _ (hK.2 j hj hu' fun k hk' hu2 => hd k hk' ?_)
      unfold Up at hu2 ⊢
      rw [Array.getD_eq_getD_getElem?, Array.getElem?_setIfInBounds]
      rw [Array.getD_eq_getD_getElem?] at hu2
      by_cases ek : i = k
      · subst ek; simp [hsh.size, hil]
      · rw [if_neg ek]; exact hu2
theorem wp_region_rel3 {P : Program} {l : List Oper} {id : Nat} {Q : Exit → Act → World → Prop} {a0 : Act} {w : World} (hm : P.follows .mixedOrders = true)
    (hB : dstsB l a0.tmps.size = true) (hD : dsts2B l = true) (R : (Nat → Prop) → World → Prop) (F : Nat → Value → World → Prop) (dead : Nat → Nat → Bool) (h0 : R (fun _ => False) w.drew)
    (hstep : ∀ (i : Nat) (o : Oper), l[i]? = some o → ∀ listed (a : Act) W, Shut l listed → i ∈ Region.ready .any l.toArray listed → Kin l a0 a → R (Up listed) W →
      (∀ j, j < l.length → Up listed j → (∀ k, dead j k = true → ¬ Up listed k) → F j (vOf l (Act.slot a) j) W) →
      o.wp P a W (fun a' W' => ∃ v, a' = a.put o.dst v ∧ R (fun j => j = i ∨ Up listed j) W' ∧ (∀ u, (o.dst ≠ none → u = v) → F i u W') ∧ ∀ j, j < l.length → j ≠ i → Up listed j → dead j i = false → ∀ u, F j u W → F j u W') Q)
    (hend : ∀ (a : Act) W U, Kin l a0 a → R U W → (∀ j, j < l.length → (∀ k, dead j k = false) → F j (vOf l (Act.slot a) j) W) → Q .normal a W)
    (hall : ∀ listed, Shut l listed → Region.ready .any l.toArray listed = [] → ∀ i, i < l.length → Up listed i) : (Code.region id l.toArray true).wp P Q a0 w := by
  refine wp_region_slots hm hB (fun listed σ W => R (Up listed) W ∧ ∀ j, j < l.length → Up listed j → (∀ k, dead j k = true → ¬ Up listed k) → F j (vOf l σ j) W) ⟨?_, fun j _ hu => ?_⟩ (steps_all fun i o ho listed a W hsh hi hk hK => ?_) (fun listed a W hu hk hK => hend a W _ hk hK.1 fun j hj hd => hK.2 j hj (hu j hj) fun k hk' => by rw [hd k] at hk'; cases hk') hall
  · have e : Up (Array.replicate l.length false) = fun _ => False := funext fun j => propext ⟨fun h => (by unfold Up at h; rw [getD_replicate_false] at h; cases h), False.elim⟩
    rw [e]; exact h0
  · unfold Up at hu; rw [getD_replicate_false] at hu; cases hu
  · have hil : i < l.length := (List.getElem?_eq_some_iff.1 ho).1
    refine Oper.wp_mono ?_ (hstep i o ho listed a W hsh hi hk hK.1 hK.2)
    rintro a' W' ⟨v, rfl, hR, hf, hkeep⟩
    have eU : Up (listed.setIfInBounds i true) = fun j => j = i ∨ Up listed j := funext fun j => propext (by
      unfold Up
      rw [Array.getD_eq_getD_getElem?, Array.getD_eq_getD_getElem?, Array.getElem?_setIfInBounds]
      by_cases ek : i = j
      · subst ek; simp [hsh.size, hil]
      · rw [if_neg ek]; exact ⟨.inr, fun h => h.elim (fun h => absurd h.symm ek) (fun h => h)⟩)
    refine ⟨v, rfl, by rw [eU]; exact hR, fun j hj hu hd => ?_⟩
    obtain ⟨p1, p2⟩ := vOf_put hD ho (Act.slot a) v
    by_cases e : j = i
    · subst e; exact hf _ p1
    · rw [p2 j hj e]
      have hu' := up_set hu (fun h => e h.symm)
      have hdi : dead j i = false := by
        cases hq : dead j i with
        | false => rfl
        | true =>
          refine absurd ?_ (hd i hq)
          unfold Up
          have hsz := hsh.size
          rw [Array.getD_eq_getD_getElem?, Array.getElem?_setIfInBounds]
          simp [hsz, hil]
      refine hkeep j hj e hu' hdi _ (hK.2 j hj hu' fun k hk' hu2 => hd k hk' ?_)
      unfold Up at hu2 ⊢
      rw [Array.getD_eq_getD_getElem?, Array.getElem?_setIfInBounds]
      rw [Array.getD_eq_getD_getElem?] at hu2
      by_cases ek : i = k
      · subst ek; simp [hsh.size, hil]
      · rw [if_neg ek]; exact hu2
structure RelR {α : Type} (f : α → Value) (w0 : World) (base t g cap : Nat) (r0 : List α) (I : Nat → Prop) (W : World) : Prop where
  below : Below base w0 W
  row : ∃ r, OwnF f W base t g cap r ∧ r.length = r0.length ∧ ∀ k, ¬ I k → r[k]? = r0[k]?
section
variable {α : Type} {f : α → Value} {w0 W W' : World} {base t g cap : Nat} {r0 : List α} {I : Nat → Prop}
theorem RelR.start (h : OwnF f w0 base t g cap r0) : RelR f w0 base t g cap r0 I w0.drew := ⟨(Below.refl _ _).drew, r0, h.drew, rfl, fun _ _ => rfl⟩
theorem RelR.now (h : RelR f w0 base t g cap r0 I W) (hb : Below W.heap.size W W') (h0 : base ≤ w0.heap.size) : RelR f w0 base t g cap r0 I W' := by
  obtain ⟨r, h1, h2, h3⟩ := h.row
  exact ⟨h.below.trans (hb.mono (Nat.le_trans h0 h.below.size)), r, h1.now hb, h2, h3⟩
theorem RelR.set_ (h : RelR f w0 base t g cap r0 I W) {k : Nat} (hk : I k) (x : α) : RelR f w0 base t g cap r0 I (W.setCell ⟨g, k, none⟩ (f x)) := by
  obtain ⟨r, h1, h2, h3⟩ := h.row
  refine ⟨h.below.setCell (p := ⟨g, k, none⟩) h1.from_ _, r.set k x, h1.set_ k x, by simpa using h2, fun j hj => ?_⟩
  rw [List.getElem?_set_ne (fun (e : k = j) => hj (by rw [← e]; exact hk))]
  exact h3 j hj
theorem RelR.cell (h : RelR f w0 base t g cap r0 I W) {k : Nat} (hk : k < r0.length) : ∃ u, W.cell? ⟨g, k, none⟩ = some u := by
  obtain ⟨r, h1, h2, h3⟩ := h.row
  exact ⟨_, h1.cell (List.getElem?_eq_getElem (by omega))⟩
theorem RelR.frozen (h : RelR f w0 base t g cap r0 I W) (k : Nat) : W.frozen? ⟨g, k, none⟩ = false := by
  obtain ⟨r, h1, _, _⟩ := h.row
  exact h1.frozen k
end
theorem wpM_callF {P : Program} {f : FuncId} {o : Oper} {a : Act} {w : World} {K : Act → World → Prop} {Q : Exit → Act → World → Prop} (he : ∀ args w, (callFunc f args).run P w = .ok (.enter f args) w) (x : Operand) (args : Array Operand) (vals : Array Value) (ts : Array TypeId) (ho : o.op = .call { callee := .value x, args := args, argTypes := ts }) (hx : a.eval x = .func (.func f) #[] #[]) (hv : args.map a.eval = vals)
    (h : Calls P f vals w fun e w' => ∃ v, e = .returned v ∧ K (a.put o.dst v) w') : o.wp P a w K Q := by
  unfold Oper.wp execOp
  simp only [ho]
  generalize a.eval = ρ at hx hv ⊢
  simp [hx, hv, go_sem]
  rw [he]
  refine Calls.mono h ?_
  rintro e w' ⟨v, rfl, hK⟩
  exact hK
theorem wpM_moveG {P : Program} {o : Oper} {a : Act} {w : World} {K : Act → World → Prop} {Q : Exit → Act → World → Prop} (x : Operand) (ho : o.op = .move x) (h : K (a.put o.dst (a.eval x)) w) : o.wp P a w K Q := by
  unfold Oper.wp execOp
  simp only [ho]
  exact h
end Go.Proofs.YtoalecalahkblaaGreatDoor

set_option linter.all false
namespace Go.Proofs.YtoalecalahkblaaGreatDoor
open Go.RowKit
theorem ins_place {l : List Fld} {f : Fld} {k : Nat} (hs : AscM nlt l) (hn : ∀ x ∈ l, nmOf x ≠ nmOf f) (h1 : ∀ x ∈ l.take k, nlt x f = true) (h2 : ∀ y, l[k]? = some y → nlt y f = false) : l.take k ++ [f] ++ l.drop k = insL nlt l f := by
  have hb : ∀ x ∈ l.drop k, nlt f x = true := by
    intro x hx
    obtain ⟨i, hi, rfl⟩ := List.mem_iff_getElem.1 hx
    rw [List.length_drop] at hi
    rw [List.getElem_drop]
    have hk : k < l.length := by omega
    have hy := h2 l[k] (List.getElem?_eq_getElem hk)
    have hfy : nmOf f < nmOf l[k] := by
      unfold nlt at hy
      exact bs_total (of_decide_eq_false hy) (hn _ (List.getElem_mem hk))
    unfold nlt
    refine decide_eq_true ?_
    rcases Nat.eq_zero_or_pos i with h0 | h0
    · subst h0; exact hfy
    · have h3 := List.pairwise_iff_getElem.1 hs k (k + i) hk (by omega) (by omega)
      unfold nlt at h3
      have h4 := of_decide_eq_false h3
      by_cases h5 : nmOf l[k + i] = nmOf l[k]
      · rw [h5]; exact hfy
      · exact List.lt_trans hfy (bs_total h4 h5)
  have := mg_last (lt := nlt) (y := f) (X1 := l.take k) (X2 := l.drop k) (fun x hx => by
    have := h1 x hx
    unfold nlt at this ⊢
    exact decide_eq_false (fun h9 => List.lt_irrefl _ (List.lt_trans h9 (of_decide_eq_true this)))) hb
  rw [List.take_append_drop] at this
  unfold insL
  rw [this, List.append_assoc]
  rfl
def fdF (B : Nat) (V1 V3 V10 : Value) (k : Nat) (l : List Fld) (fn fi' : ByteArray) (fk fi : Int) : Nat → Value → World → Prop
  | 0, u, W => ∃ g : Nat, u = .slice (some ⟨g, 0, none⟩) 0 0 ∧ Blk W g 123 #[] ∧ B ≤ g
  | 1, u, _ => u = V1
  | 2, u, _ => u = .int .i64 (k : Int)
  | 3, u, _ => u = V3
  | 4, u, W => OwnFl W B u (l.take k)
  | 5, u, _ => u = .agg #[.string fn, .int .i64 fk, .int .i64 fi, .string fi']
  | 6, u, W => ∃ g : Nat, u = .slice (some ⟨g, 0, none⟩) 1 1 ∧ Blk W g 123 #[.string fn, .int .i64 fk, .int .i64 fi, .string fi']
  | 7, u, W => OwnFl W B u (l.take k ++ [(⟨fn, ⟨fk, fi, fi'⟩⟩ : Fld)])
  | 8, u, _ => u = V1
  | 9, u, _ => u = .int .i64 (k : Int)
  | 10, u, _ => u = V10
  | 11, u, W => OwnFl W B u (l.take k ++ [(⟨fn, ⟨fk, fi, fi'⟩⟩ : Fld)] ++ l.drop k)
  | 12, u, W => OwnFl W B u (l.take k ++ [(⟨fn, ⟨fk, fi, fi'⟩⟩ : Fld)] ++ l.drop k)
  | _, _, _ => True
def fdD (j k : Nat) : Bool := (j == 0 && (k == 4 || k == 7 || k == 11)) || ((j == 4 || j == 6) && (k == 7 || k == 11)) || (j == 7 && k == 11)
theorem fdKeep {B : Nat} {V1 V3 V10 : Value} {k : Nat} {l : List Fld} {fn fi' : ByteArray} {fk fi : Int} {W W' : World} (hb : Below W.heap.size W W') : ∀ j u, fdF B V1 V3 V10 k l fn fi' fk fi j u W → fdF B V1 V3 V10 k l fn fi' fk fi j u W' := by
  intro j u h
  match j, h with
  | 0, ⟨g, h1, h2, h3⟩ => exact ⟨g, h1, h2.now hb, h3⟩
  | 1, h => exact h
  | 2, h => exact h
  | 3, h => exact h
  | 4, h => exact OwnW.now h hb
  | 5, h => exact h
  | 6, ⟨g, h1, h2⟩ => exact ⟨g, h1, h2.now hb⟩
  | 7, h => exact OwnW.now h hb
  | 8, h => exact h
  | 9, h => exact h
  | 10, h => exact h
  | 11, h => exact OwnW.now h hb
  | 12, h => exact OwnW.now h hb
  | n + 13, h => exact trivial
theorem wpM_moveF {P : Program} {o : Oper} {a : Act} {w : World} {K : Act → World → Prop} {Q : Exit → Act → World → Prop} (x : Operand) (V : Value) (ho : o.op = .move x) (hv : a.eval x = V) (h : K (a.put o.dst V) w) : o.wp P a w K Q := by
  unfold Oper.wp execOp
  simp only [ho, hv]
  exact h
theorem bsFd0 (W : World) : (Instr.buildSlice 67 0 #[]).run Tryz.prog W = .ok (.slice (some ⟨W.heap.size, 0, none⟩) 0 0) (W.alloc (.cells #[] 123)) := by kernel_rfl
theorem bsFd1 (fn fi' : ByteArray) (fk fi : Int) (W : World) : (Instr.buildSlice 67 1 #[(0, .agg #[.string fn, .int .i64 fk, .int .i64 fi, .string fi'])]).run Tryz.prog W = .ok (.slice (some ⟨W.heap.size, 0, none⟩) 1 1) (W.alloc (.cells #[.string fn, .int .i64 fk, .int .i64 fi, .string fi'] 123)) := by kernel_rfl
theorem own_lowF {w : World} {base : Nat} {v : Value} {L : List Fld} {G : Nat} (h : OwnFl w base v L) (hG : G ≤ base) : OwnFl w G v L := by
  rcases h.2 with h0 | ⟨g, cap, cur, h1, h2, h3⟩
  · exact ⟨h.1, .inl h0⟩
  · exact ⟨h.1, .inr ⟨g, cap, cur, h1, Nat.le_trans hG h2, h3⟩⟩
theorem appFldR : AppInfo Tryz.prog 67 123 4 := AppInfo.mk' (z := .agg #[.string ⟨#[]⟩, .int .i64 0, .int .i64 0, .string ⟨#[]⟩]) (bytes := 48) Tryz.underlying67 (by kernel_rfl) (by decide) rfl (by decide)
theorem Sl.drop4 {D : Nat → Prop} {w : World} {g n c k : Nat} {l : List Fld} (h : Sl 4 RFld D w (.slice (some ⟨g, 0, none⟩) n c) l) (hk : k ≤ l.length) : Sl 4 RFld D w (.slice (some ⟨g, 0 + k * 4, none⟩) (n - k) (c - k)) (l.drop k) := by
  obtain ⟨A', c', hv, h1, h2, h3⟩ := h
  injection hv with e1 e2 e3
  subst e1 e2 e3
  refine ⟨_, _, by rw [List.length_drop], by rw [List.length_drop]; omega, by omega, fun i x hx => ?_⟩
  rw [List.getElem?_drop] at hx
  obtain ⟨b, o, cs, hA, hD, hl, hr, hc⟩ := h3 (k + i) x hx
  injection hA with hA
  injection hA with e1 e2 _
  subst e1 e2
  refine ⟨g, 0 + k * 4, cs, rfl, hD, hl, hr, fun j u hu => ?_⟩
  have := hc j u hu
  rw [show 0 + k * 4 + i * 4 + j = 0 + (k + i) * 4 + j by omega]
  exact this
def RetFd (l : List Fld) (f : Fld) (w : World) (e : Ending) (w' : World) : Prop := ∃ (k : Nat) (v : Value), k ≤ l.length ∧ (∀ x ∈ l.take k, nlt x f = true) ∧ (∀ y, l[k]? = some y → nlt y f = false) ∧ e = .returned v ∧ OwnFl w' w.heap.size v (l.take k ++ [f] ++ l.drop k) ∧ Below w.heap.size w w'
set_option maxHeartbeats 8000000 in
set_option maxRecDepth 100000 in
theorem field_ref (l : List Fld) (f : Fld) (lv : Value) (w : World) (hl : SlFl (Lt w.heap.size) w lv l) (hll : l.length ≤ 1000) (hf : FitFl f) (hform : (l = [] ∧ lv = .slice none 0 0) ∨ ∃ g c, lv = .slice (some ⟨g, 0, none⟩) l.length c) :
    Calls Tryz.prog 112 #[lv, fldV f] w (RetFd l f w) := by
  have HL := Lib.hid hl
  have HFF := Lib.hid hf
  obtain ⟨Al, cl, rfl, hc1, hc2, hl⟩ := hl.open_
  have HSL : Hid (∀ k, k ≤ l.length → ∀ W, SlFl (Lt W.heap.size) W (.slice Al l.length cl) l → ∃ V3 V10, (∀ W', (Instr.slice 67 (.slice Al l.length cl) none (some (.int .i64 (k : Int))) none).run Tryz.prog W' = .ok V3 W') ∧ (∀ W', (Instr.slice 67 (.slice Al l.length cl) (some (.int .i64 (k : Int))) none none).run Tryz.prog W' = .ok V10 W') ∧ SlFl (Lt W.heap.size) W V3 (l.take k) ∧ SlFl (Lt W.heap.size) W V10 (l.drop k)) := Lib.hid (by
    intro k hk W hW
    have hz : ∀ W', (sizeOf (Tryz.prog.elem 67)).run Tryz.prog W' = .ok 4 W' := fun W' => by kernel_rfl
    have hu : Tryz.prog.underlying 67 = some (.slice (Tryz.prog.elem 67)) := by kernel_rfl
    refine ⟨sliced Al 0 k cl 4, sliced Al k l.length cl 4, fun W' => ?_, fun W' => ?_, ?_, ?_⟩
    · rw [run_slice_h _ _ _ _ _ hu .i64 (k : Int) (by omega) (by omega), hz]; rfl
    · rw [run_slice_l _ _ _ _ _ hu .i64 (k : Int) (by omega) (by omega), hz]; rfl
    · rcases hform with ⟨h0, h1⟩ | ⟨g, c, h1⟩
      · injection h1 with e1 e2 e3
        subst e1 e3 h0
        obtain rfl : k = 0 := Nat.le_zero.1 hk
        exact Sl.none_
      · injection h1 with e1 e2 e3
        subst e1 e3
        show Sl 4 RFld _ W (.slice (if cl = 0 then _ else _) (k - 0) (cl - 0)) _
        split
        · exact Sl.take_ hW hk
        · exact Sl.take_ hW hk
    · rcases hform with ⟨h0, h1⟩ | ⟨g, c, h1⟩
      · injection h1 with e1 e2 e3
        subst e1 e3 h0
        obtain rfl : k = 0 := Nat.le_zero.1 hk
        exact Sl.none_
      · injection h1 with e1 e2 e3
        subst e1 e3
        show Sl 4 RFld _ W (.slice (if cl = k then _ else _) (l.length - k) (cl - k)) _
        split
        · rename_i hck
          have hlk : l.length = k := by omega
          rw [List.drop_eq_nil_of_le (by omega), hlk, hck, Nat.sub_self]
          exact ⟨_, 0, rfl, Nat.le_refl _, by decide, fun i x hx => by simp at hx⟩
        · have h9 := Sl.drop4 hW hk
          rw [Nat.zero_add] at h9
          have h8 : (Option.map (fun x => Addr.add x (k * 4)) (some (⟨g, 0, none⟩ : Addr)) : Option Addr) = some ⟨g, k * 4, none⟩ := by
            by_cases h0 : k = 0
            · subst h0; rfl
            · have h1 : ¬ k * 4 = 0 := by omega
              simp [Addr.add, h1]
          rw [h8]
          exact h9)
  clear hform
  obtain ⟨fn, fk, fi, fs⟩ : ∃ (a : ByteArray) (b c : Int) (d : ByteArray), f = ⟨a, ⟨b, c, d⟩⟩ := ⟨f.nm, f.v.kind, f.v.n, f.v.s, rfl⟩
  obtain ⟨fi', hfe⟩ := fs
  subst hfe
  show Calls _ _ #[_, .agg #[.string fn, .int .i64 fk, .int .i64 fi, .string fi']] _ _
  have hb1 := bone w (.cells #[.string fn, .int .i64 fk, .int .i64 fi, .string fi'] 123)
  have hB1 := Blk.new w 123 #[.string fn, .int .i64 fk, .int .i64 fi, .string fi']
  clear hl
  go_enter Tryz.func112, Tryz.ntmps112
  go_upto_region 1 with fail
  obtain ⟨w1, hw1⟩ : ∃ w1, w.alloc (.cells #[.string fn, .int .i64 fk, .int .i64 fi, .string fi'] 123) = w1 := ⟨_, rfl⟩
  rw [hw1] at hb1 hB1 ⊢
  have HB1 := Lib.hid hb1
  have HX1 := Lib.hid hB1
  clear hw1 hb1 hB1
  go_wp2_with fail
  go_loopw [5] (fun iv wr => ∃ k : Nat, iv = .int .i64 (k : Int) ∧ k ≤ l.length ∧ Hid (∀ x ∈ l.take k, nlt x ⟨fn, ⟨fk, fi, fi'⟩⟩ = true) ∧ Hid (Below w1.heap.size w1 wr)) (fun iv _ => l.length - (intOf iv).toNat)
  case atStart => exact ⟨0, rfl, Nat.zero_le _, Lib.hid (fun x hx => by simp at hx), Lib.hid (Below.refl _ _)⟩
  case round =>
    obtain ⟨k, rfl, hk, HK, HB⟩ := hrel
    obtain ⟨wo, hwo⟩ : ∃ wo, wr = wo := ⟨_, rfl⟩
    rw [hwo] at HB ⊢
    clear hwo
    have HBW := Lib.hid (bthen HB1.out HB.out)
    have HXo := Lib.hid (HX1.out.now HB.out)
    obtain ⟨x0, x1, x2, x3⟩ := HXo.out.c4
    by_cases hlt : k < l.length
    · obtain ⟨b, o, g, hA, hD, hgx, hgf, g0, g1, g2, g3⟩ := SlFl.at_ (HL.out.now HBW.out) hlt
      subst hA
      have HGX := Lib.hid hgx
      have i0 : (0 : Int) ≤ (k : Int) := by omega
      have i1 : (k : Int) < (l.length : Int) := by omega
      have hls : Op.bytesLess g.nm.toList fn.toList = decide (nmOf g < fn.data.toList) := by rw [Lib.toList_data, Lib.toList_data]; exact less_eq _ _
      have HNL : Hid (nlt g ⟨fn, ⟨fk, fi, fi'⟩⟩ = decide (nmOf g < fn.data.toList)) := rfl
      obtain ⟨q, hq⟩ : ∃ q, decide (nmOf g < fn.data.toList) = q := ⟨_, rfl⟩
      rw [hq] at hls HNL
      clear hgx hgf hq
      cases q with
      | true =>
        go_upto_region 2 with fail
        go_quiet (fail)
        obtain ⟨w6, hw6⟩ : ∃ w6, wo.drewN nq = w6 := ⟨_, rfl⟩
        have hb6 : Below wo.heap.size wo w6 := by rw [← hw6]; exact bdrawn (Below.refl _ _) _
        rw [hw6]
        have HB6 := Lib.hid (bthen HB.out hb6)
        have HK2 : Hid (∀ x ∈ l.take (k + 1), nlt x ⟨fn, ⟨fk, fi, fi'⟩⟩ = true) := Lib.hid fun x hx => by
          rw [List.take_add_one, HGX.out] at hx
          rcases List.mem_append.1 hx with hx | hx
          · exact HK.out x hx
          · have hx : x ∈ [g] := hx
            rw [List.mem_singleton] at hx
            rw [hx, HNL.out]
        clear hw6 hb6 g0 g1 g2 g3 x0 x1 x2 x3
        go_wp2_with fail
        go_roundw
        case rel => exact ⟨k + 1, by go_num, by omega, HK2, HB6⟩
        case measure => simp [intOf]; omega
      | false =>
        go_upto_region 2 with fail
        go_quiet (fail)
        obtain ⟨w6, hw6⟩ : ∃ w6, wo.drewN nq = w6 := ⟨_, rfl⟩
        have hb6 : Below wo.heap.size wo w6 := by rw [← hw6]; exact bdrawn (Below.refl _ _) _
        rw [hw6]
        have HB6 := Lib.hid (bthen HB.out hb6)
        have HST : Hid (∀ y, l[k]? = some y → nlt y ⟨fn, ⟨fk, fi, fi'⟩⟩ = false) := Lib.hid fun y hy => by
          rw [HGX.out] at hy; injection hy with hy; rw [← hy, HNL.out]
        clear hw6 hb6 g0 g1 g2 g3 x0 x1 x2 x3
        have HBW6 := Lib.hid (bthen HB1.out HB6.out)
        have HX6 := Lib.hid (HX1.out.now HB6.out)
        have HL6 := Lib.hid (HL.out.now HBW6.out)
        obtain ⟨V3, V10, hs3, hs10, ht3, ht10⟩ := HSL.out k hk w6 HL6.out
        have HS3 := Lib.hid hs3
        have HS10 := Lib.hid hs10
        have HT3 := Lib.hid ht3
        have HT10 := Lib.hid ht10
        obtain ⟨V1, hV1⟩ : ∃ V1, Value.slice (some ⟨b, o, none⟩) l.length cl = V1 := ⟨_, rfl⟩
        rw [hV1] at HS3 HS10
        have HV1 := Lib.hid hV1
        clear hs3 hs10 ht3 ht10
        go_upto_region 4 with fail
        rw [hV1]
        clear hV1
        refine wp_region_rel2 (by kernel_rfl) (by kernel_rfl) (by kernel_rfl) (fun W => Below w6.heap.size w6 W) (fdF w6.heap.size V1 V3 V10 k l fn fi' fk fi) fdD ?h0 ?hstep ?hend ?hall
        case hall => exact hall_of (by kernel_rfl)
        case h0 => exact (Below.refl _ _).drew
        case hstep =>
          intro i o ho listed ac W hsh hi hk' hR hM
          have hni := ready_not hi
          obtain ⟨x0, x1, x2, x3⟩ := (HX6.out.now hR).c4
          have nd : ∀ j : Nat, (j == 0) = false → (j == 4) = false → (j == 6) = false → (j == 7) = false → ∀ q, fdD j q = true → ¬ Up listed q := fun j h0 h4 h6 h7 q h => by unfold fdD at h; rw [h0, h4, h6, h7] at h; cases h
          match i, ho with
          | 0, ho =>
            injection ho with ho
            subst ho
            refine wpM_slice _ _ _ (.slice (some ⟨W.heap.size, 0, none⟩) 0 0) _ #[] rfl (by simp) (bsFd0 W) ⟨_, rfl, hR.trans ((bone W _).mono hR.size), fun u hu => ⟨W.heap.size, hu (by simp), Blk.new _ _ _, hR.size⟩, fun j _ _ _ _ u h => fdKeep (bone W _) j u h⟩
          | 1, ho =>
            injection ho with ho
            subst ho
            have e0 : ac.eval (.tmp 0) = V1 := hk'.same (s := 0) (by kernel_rfl)
            exact wpM_moveF _ _ rfl e0 ⟨_, rfl, hR, fun u hu => hu (by simp), fun j _ _ _ _ u h => h⟩
          | 2, ho =>
            injection ho with ho
            subst ho
            have e0 : ac.eval (.tmp 5) = .int .i64 (k : Int) := hk'.same (s := 5) (by kernel_rfl)
            exact wpM_moveF _ _ rfl e0 ⟨_, rfl, hR, fun u hu => hu (by simp), fun j _ _ _ _ u h => h⟩
          | 3, ho =>
            injection ho with ho
            subst ho
            have e0 : ac.eval (.tmp 23) = V1 := hM 1 (by decide) (ready_up hi (by kernel_rfl)) (nd 1 rfl rfl rfl rfl)
            have e1 : ac.eval (.tmp 24) = .int .i64 (k : Int) := hM 2 (by decide) (ready_up hi (by kernel_rfl)) (nd 2 rfl rfl rfl rfl)
            exact wpM_run V3 W (by generalize ac.eval = ρ at e0 e1 ⊢; simp only [execOp]; simp [e0, e1, HS3.out, go_sem]) ⟨_, rfl, hR, fun u hu => hu (by simp), fun j _ _ _ _ u h => h⟩
          | 4, ho =>
            injection ho with ho
            subst ho
            obtain ⟨g, e0, hg, hgB⟩ := hM 0 (by decide) (ready_up hi (by kernel_rfl)) (fun q h => by have h : q = 4 ∨ q = 7 ∨ q = 11 := (by simp [fdD] at h; omega); rcases h with rfl | rfl | rfl; { exact hni }; { exact (fun h9 => hni (hsh.up h9 (show Region.waitsFor .any _ 7 4 = true by kernel_rfl))) }; { exact (fun h9 => hni (hsh.up (hsh.up h9 (show Region.waitsFor .any _ 11 7 = true by kernel_rfl)) (show Region.waitsFor .any _ 7 4 = true by kernel_rfl))) })
            have e0 : ac.eval (.tmp 22) = .slice (some ⟨g, 0, none⟩) 0 0 := e0
            have e1 : ac.eval (.tmp 25) = V3 := hM 3 (by decide) (ready_up hi (by kernel_rfl)) (nd 3 rfl rfl rfl rfl)
            have hown : OwnFl W w6.heap.size (.slice (some ⟨g, 0, none⟩) 0 0) [] := ⟨rfl, .inr ⟨g, 0, #[], rfl, hgB, hg, Nat.le_refl _, Nat.zero_le _, rfl, rfl⟩⟩
            refine wp_appendAllW appFldR (.tmp 22) (.tmp 25) rfl W (fun _ => rfl) [] _ e0 hown V3 (l.take k) e1 (Sl.keep (HT3.out) RFld.kept (fun _ => id) (Same.of_below hR)) (fun y c h => h.1) fldC_one (by rw [List.length_take, List.length_nil]; omega) hR.size ?_
            intro v' W' hown' hgr hat
            have hbW : Below w6.heap.size W W' := below_of_grown hgr hR.size (fun g' hg' => by injection hg' with hg'; have hg' : g = g' := hg'; omega)
            refine ⟨_, rfl, hR.trans hbW, fun u hu => ?_, fun j hj hji hu hd u h => ?_⟩
            · rw [hu (by simp)]; exact hown'
            · match j, hj, hji, hd, h with
              | 0, _, _, hd, _ => exact absurd hd (by decide)
              | 1, _, _, _, h => exact h
              | 2, _, _, _, h => exact h
              | 3, _, _, _, h => exact h
              | 4, _, hji, _, _ => exact absurd rfl hji
              | 5, _, _, _, h => exact h
              | 6, _, _, _, h =>
                obtain ⟨b, h1, h2⟩ := h
                refine ⟨b, h1, h2.grown hgr (fun e => ?_)⟩
                injection e with e
                have e : b = g := e
                subst e
                unfold Blk at h2 hg
                rw [h2] at hg
                injection hg with hg
                injection hg with hg _ _
                exact absurd (congrArg Array.size hg) (by simp)
              | 7, _, _, _, _ => exact absurd hu (fun h9 => hni (hsh.up h9 (by kernel_rfl)))
              | 8, _, _, _, h => exact h
              | 9, _, _, _, h => exact h
              | 10, _, _, _, h => exact h
              | 11, _, _, _, _ => exact absurd hu (fun h9 => hni (hsh.up (hsh.up h9 (show Region.waitsFor .any _ 11 7 = true by kernel_rfl)) (by kernel_rfl)))
              | 12, _, _, _, _ => exact absurd hu (fun h9 => hni (hsh.up (hsh.up (hsh.up h9 (show Region.waitsFor .any _ 12 11 = true by kernel_rfl)) (show Region.waitsFor .any _ 11 7 = true by kernel_rfl)) (by kernel_rfl)))
              | n + 13, hj, _, _, _ => exact absurd hj (by simp)
          | 5, ho =>
            injection ho with ho
            subst ho
            have e0 : ac.eval (.tmp 3) = .pointer (some ⟨w.heap.size, 0, none⟩) := hk'.same (s := 3) (by kernel_rfl)
            exact wpM_load _ _ _ (.agg #[.string fn, .int .i64 fk, .int .i64 fi, .string fi']) rfl e0 (by simp [go_sem, x0, x1, x2, x3]) ⟨_, rfl, hR, fun u hu => hu (by simp), fun j _ _ _ _ u h => h⟩
          | 6, ho =>
            injection ho with ho
            subst ho
            have e0 : ac.eval (.tmp 27) = .agg #[.string fn, .int .i64 fk, .int .i64 fi, .string fi'] := hM 5 (by decide) (ready_up hi (by kernel_rfl)) (nd 5 rfl rfl rfl rfl)
            refine wpM_slice _ _ _ (.slice (some ⟨W.heap.size, 0, none⟩) 1 1) _ #[(0, .agg #[.string fn, .int .i64 fk, .int .i64 fi, .string fi'])] rfl (by simp [e0]) (bsFd1 fn fi' fk fi W) ⟨_, rfl, hR.trans ((bone W _).mono hR.size), fun u hu => ⟨W.heap.size, hu (by simp), Blk.new _ _ _⟩, fun j _ _ _ _ u h => fdKeep (bone W _) j u h⟩
          | 7, ho =>
            injection ho with ho
            subst ho
            have hown : OwnFl W w6.heap.size (ac.eval (.tmp 26)) (l.take k) := hM 4 (by decide) (ready_up hi (by kernel_rfl)) (fun q h => by have h : q = 7 ∨ q = 11 := (by simp [fdD] at h; omega); rcases h with rfl | rfl; { exact hni }; { exact (fun h9 => hni (hsh.up h9 (show Region.waitsFor .any _ 11 7 = true by kernel_rfl))) })
            obtain ⟨b, e1, hb⟩ := hM 6 (by decide) (ready_up hi (by kernel_rfl)) (fun q h => by have h : q = 7 ∨ q = 11 := (by simp [fdD] at h; omega); rcases h with rfl | rfl; { exact hni }; { exact (fun h9 => hni (hsh.up h9 (show Region.waitsFor .any _ 11 7 = true by kernel_rfl))) })
            have e1 : ac.eval (.tmp 28) = .slice (some ⟨b, 0, none⟩) 1 1 := e1
            have hsl : Sl 4 RFld (Lt W.heap.size) W (.slice (some ⟨b, 0, none⟩) 1 1) [(⟨fn, ⟨fk, fi, fi'⟩⟩ : Fld)] := Sl.ofBlk (cs := [.string fn, .int .i64 fk, .int .i64 fi, .string fi']) (xs := [(⟨fn, ⟨fk, fi, fi'⟩⟩ : Fld)]) hb (by unfold maxLen; simp) (fun i x hx => by
              match i, hx with
              | 0, hx => injection hx with hx; subst hx; exact ⟨[.string fn, .int .i64 fk, .int .i64 fi, .string fi'], rfl, fun j u hu => by simpa using hu, rfl, HFF.out⟩
              | i + 1, hx => simp at hx)
            refine wp_appendAllW appFldR (.tmp 26) (.tmp 28) rfl W (fun _ => rfl) (l.take k) _ rfl hown _ ([(⟨fn, ⟨fk, fi, fi'⟩⟩ : Fld)]) e1 (hsl) (fun y c h => h.1) fldC_one (by rw [List.length_take]; simp; omega) hR.size ?_
            intro v' W' hown' hgr hat
            have hbW : Below w6.heap.size W W' := below_of_grown hgr hR.size (fun g hg => (World.ownsRow.lt hown g hg).1)
            refine ⟨_, rfl, hR.trans hbW, fun u hu => ?_, fun j hj hji hu hd u h => ?_⟩
            · rw [hu (by simp)]; exact hown'
            · match j, hj, hji, hd, h with
              | 0, _, _, hd, _ => exact absurd hd (by decide)
              | 1, _, _, _, h => exact h
              | 2, _, _, _, h => exact h
              | 3, _, _, _, h => exact h
              | 4, _, _, hd, _ => exact absurd hd (by decide)
              | 5, _, _, _, h => exact h
              | 6, _, _, hd, _ => exact absurd hd (by decide)
              | 7, _, hji, _, _ => exact absurd rfl hji
              | 8, _, _, _, h => exact h
              | 9, _, _, _, h => exact h
              | 10, _, _, _, h => exact h
              | 11, _, _, _, _ => exact absurd hu (fun h9 => hni (hsh.up h9 (by kernel_rfl)))
              | 12, _, _, _, _ => exact absurd hu (fun h9 => hni (hsh.up (hsh.up h9 (show Region.waitsFor .any _ 12 11 = true by kernel_rfl)) (show Region.waitsFor .any _ 11 7 = true by kernel_rfl)))
              | n + 13, hj, _, _, _ => exact absurd hj (by simp)
          | 8, ho =>
            injection ho with ho
            subst ho
            have e0 : ac.eval (.tmp 0) = V1 := hk'.same (s := 0) (by kernel_rfl)
            exact wpM_moveF _ _ rfl e0 ⟨_, rfl, hR, fun u hu => hu (by simp), fun j _ _ _ _ u h => h⟩
          | 9, ho =>
            injection ho with ho
            subst ho
            have e0 : ac.eval (.tmp 5) = .int .i64 (k : Int) := hk'.same (s := 5) (by kernel_rfl)
            exact wpM_moveF _ _ rfl e0 ⟨_, rfl, hR, fun u hu => hu (by simp), fun j _ _ _ _ u h => h⟩
          | 10, ho =>
            injection ho with ho
            subst ho
            have e0 : ac.eval (.tmp 30) = V1 := hM 8 (by decide) (ready_up hi (by kernel_rfl)) (nd 8 rfl rfl rfl rfl)
            have e1 : ac.eval (.tmp 31) = .int .i64 (k : Int) := hM 9 (by decide) (ready_up hi (by kernel_rfl)) (nd 9 rfl rfl rfl rfl)
            exact wpM_run V10 W (by generalize ac.eval = ρ at e0 e1 ⊢; simp only [execOp]; simp [e0, e1, HS10.out, go_sem]) ⟨_, rfl, hR, fun u hu => hu (by simp), fun j _ _ _ _ u h => h⟩
          | 11, ho =>
            injection ho with ho
            subst ho
            have hown : OwnFl W w6.heap.size (ac.eval (.tmp 29)) (l.take k ++ [(⟨fn, ⟨fk, fi, fi'⟩⟩ : Fld)]) := hM 7 (by decide) (ready_up hi (by kernel_rfl)) (fun q h => by have h : q = 11 := (by simp [fdD] at h; omega); rw [h]; exact hni)
            have e1 : ac.eval (.tmp 32) = V10 := hM 10 (by decide) (ready_up hi (by kernel_rfl)) (nd 10 rfl rfl rfl rfl)
            refine wp_appendAllW appFldR (.tmp 29) (.tmp 32) rfl W (fun _ => rfl) (l.take k ++ [(⟨fn, ⟨fk, fi, fi'⟩⟩ : Fld)]) _ rfl hown _ (l.drop k) e1 (Sl.keep (HT10.out) RFld.kept (fun _ => id) (Same.of_below hR)) (fun y c h => h.1) fldC_one (by rw [List.length_append, List.length_take, List.length_drop]; simp; omega) hR.size ?_
            intro v' W' hown' hgr hat
            have hbW : Below w6.heap.size W W' := below_of_grown hgr hR.size (fun g hg => (World.ownsRow.lt hown g hg).1)
            refine ⟨_, rfl, hR.trans hbW, fun u hu => ?_, fun j hj hji hu hd u h => ?_⟩
            · rw [hu (by simp)]; exact hown'
            · match j, hj, hji, hd, h with
              | 0, _, _, hd, _ => exact absurd hd (by decide)
              | 1, _, _, _, h => exact h
              | 2, _, _, _, h => exact h
              | 3, _, _, _, h => exact h
              | 4, _, _, hd, _ => exact absurd hd (by decide)
              | 5, _, _, _, h => exact h
              | 6, _, _, hd, _ => exact absurd hd (by decide)
              | 7, _, _, hd, _ => exact absurd hd (by decide)
              | 8, _, _, _, h => exact h
              | 9, _, _, _, h => exact h
              | 10, _, _, _, h => exact h
              | 11, _, hji, _, _ => exact absurd rfl hji
              | 12, _, _, _, _ => exact absurd hu (fun h9 => hni (hsh.up h9 (show Region.waitsFor .any _ 12 11 = true by kernel_rfl)))
              | n + 13, hj, _, _, _ => exact absurd hj (by simp)
          | 12, ho =>
            injection ho with ho
            subst ho
            have e0 : OwnFl W w6.heap.size (ac.eval (.tmp 33)) (l.take k ++ [(⟨fn, ⟨fk, fi, fi'⟩⟩ : Fld)] ++ l.drop k) := hM 11 (by decide) (ready_up hi (by kernel_rfl)) (nd 11 rfl rfl rfl rfl)
            exact wpM_assign _ _ rfl rfl ⟨_, rfl, hR, fun u hu => by rw [hu (by simp)]; exact e0, fun j _ _ _ _ u h => h⟩
          | n + 13, ho => simp at ho
        case hend =>
          intro ac W hk' hR hM
          have h12 : OwnFl W w6.heap.size (Act.slot ac 4) (l.take k ++ [(⟨fn, ⟨fk, fi, fi'⟩⟩ : Fld)] ++ l.drop k) := hM 12 (by decide) (fun q => rfl)
          obtain ⟨vv, hvv⟩ : ∃ vv, Act.slot ac 4 = vv := ⟨_, rfl⟩
          rw [hvv] at h12
          have H12 := Lib.hid h12
          have HBZ := Lib.hid (bthen HBW6.out hR)
          have HB6S := Lib.hid HBW6.out.size
          rw [hk'.form (by kernel_rfl)]
          simp only [putsAll, Option.getD_some, Act.put, List.setIfInBounds_toArray, List.set_cons_zero, List.set_cons_succ, hvv]
          clear h12
          go_wp2_with fail
          go_ret
          exact ⟨k, vv, hk, HK.out, HST.out, rfl, own_lowF H12.out HB6S.out, HBZ.out⟩
    · have n0 : ¬ (k : Int) < (l.length : Int) := by omega
      have HST : Hid (∀ y, l[k]? = some y → nlt y ⟨fn, ⟨fk, fi, fi'⟩⟩ = false) := Lib.hid fun y hy => by
        rw [List.getElem?_eq_none (by omega)] at hy; cases hy
      go_upto_region 2 with fail
      go_quiet (fail)
      obtain ⟨w6, hw6⟩ : ∃ w6, wo.drewN nq = w6 := ⟨_, rfl⟩
      have hb6 : Below wo.heap.size wo w6 := by rw [← hw6]; exact bdrawn (Below.refl _ _) _
      rw [hw6]
      have HB6 := Lib.hid (bthen HB.out hb6)
      clear hw6 hb6 x0 x1 x2 x3
      have HBW6 := Lib.hid (bthen HB1.out HB6.out)
      have HX6 := Lib.hid (HX1.out.now HB6.out)
      have HL6 := Lib.hid (HL.out.now HBW6.out)
      obtain ⟨V3, V10, hs3, hs10, ht3, ht10⟩ := HSL.out k hk w6 HL6.out
      have HS3 := Lib.hid hs3
      have HS10 := Lib.hid hs10
      have HT3 := Lib.hid ht3
      have HT10 := Lib.hid ht10
      obtain ⟨V1, hV1⟩ : ∃ V1, Value.slice (Al) l.length cl = V1 := ⟨_, rfl⟩
      rw [hV1] at HS3 HS10
      have HV1 := Lib.hid hV1
      clear hs3 hs10 ht3 ht10
      go_upto_region 4 with fail
      rw [hV1]
      clear hV1
      refine wp_region_rel2 (by kernel_rfl) (by kernel_rfl) (by kernel_rfl) (fun W => Below w6.heap.size w6 W) (fdF w6.heap.size V1 V3 V10 k l fn fi' fk fi) fdD ?h0 ?hstep ?hend ?hall
      case hall => exact hall_of (by kernel_rfl)
      case h0 => exact (Below.refl _ _).drew
      case hstep =>
        intro i o ho listed ac W hsh hi hk' hR hM
        have hni := ready_not hi
        obtain ⟨x0, x1, x2, x3⟩ := (HX6.out.now hR).c4
        have nd : ∀ j : Nat, (j == 0) = false → (j == 4) = false → (j == 6) = false → (j == 7) = false → ∀ q, fdD j q = true → ¬ Up listed q := fun j h0 h4 h6 h7 q h => by unfold fdD at h; rw [h0, h4, h6, h7] at h; cases h
        match i, ho with
        | 0, ho =>
          injection ho with ho
          subst ho
          refine wpM_slice _ _ _ (.slice (some ⟨W.heap.size, 0, none⟩) 0 0) _ #[] rfl (by simp) (bsFd0 W) ⟨_, rfl, hR.trans ((bone W _).mono hR.size), fun u hu => ⟨W.heap.size, hu (by simp), Blk.new _ _ _, hR.size⟩, fun j _ _ _ _ u h => fdKeep (bone W _) j u h⟩
        | 1, ho =>
          injection ho with ho
          subst ho
          have e0 : ac.eval (.tmp 0) = V1 := hk'.same (s := 0) (by kernel_rfl)
          exact wpM_moveF _ _ rfl e0 ⟨_, rfl, hR, fun u hu => hu (by simp), fun j _ _ _ _ u h => h⟩
        | 2, ho =>
          injection ho with ho
          subst ho
          have e0 : ac.eval (.tmp 5) = .int .i64 (k : Int) := hk'.same (s := 5) (by kernel_rfl)
          exact wpM_moveF _ _ rfl e0 ⟨_, rfl, hR, fun u hu => hu (by simp), fun j _ _ _ _ u h => h⟩
        | 3, ho =>
          injection ho with ho
          subst ho
          have e0 : ac.eval (.tmp 23) = V1 := hM 1 (by decide) (ready_up hi (by kernel_rfl)) (nd 1 rfl rfl rfl rfl)
          have e1 : ac.eval (.tmp 24) = .int .i64 (k : Int) := hM 2 (by decide) (ready_up hi (by kernel_rfl)) (nd 2 rfl rfl rfl rfl)
          exact wpM_run V3 W (by generalize ac.eval = ρ at e0 e1 ⊢; simp only [execOp]; simp [e0, e1, HS3.out, go_sem]) ⟨_, rfl, hR, fun u hu => hu (by simp), fun j _ _ _ _ u h => h⟩
        | 4, ho =>
          injection ho with ho
          subst ho
          obtain ⟨g, e0, hg, hgB⟩ := hM 0 (by decide) (ready_up hi (by kernel_rfl)) (fun q h => by have h : q = 4 ∨ q = 7 ∨ q = 11 := (by simp [fdD] at h; omega); rcases h with rfl | rfl | rfl; { exact hni }; { exact (fun h9 => hni (hsh.up h9 (show Region.waitsFor .any _ 7 4 = true by kernel_rfl))) }; { exact (fun h9 => hni (hsh.up (hsh.up h9 (show Region.waitsFor .any _ 11 7 = true by kernel_rfl)) (show Region.waitsFor .any _ 7 4 = true by kernel_rfl))) })
          have e0 : ac.eval (.tmp 22) = .slice (some ⟨g, 0, none⟩) 0 0 := e0
          have e1 : ac.eval (.tmp 25) = V3 := hM 3 (by decide) (ready_up hi (by kernel_rfl)) (nd 3 rfl rfl rfl rfl)
          have hown : OwnFl W w6.heap.size (.slice (some ⟨g, 0, none⟩) 0 0) [] := ⟨rfl, .inr ⟨g, 0, #[], rfl, hgB, hg, Nat.le_refl _, Nat.zero_le _, rfl, rfl⟩⟩
          refine wp_appendAllW appFldR (.tmp 22) (.tmp 25) rfl W (fun _ => rfl) [] _ e0 hown V3 (l.take k) e1 (Sl.keep (HT3.out) RFld.kept (fun _ => id) (Same.of_below hR)) (fun y c h => h.1) fldC_one (by rw [List.length_take, List.length_nil]; omega) hR.size ?_
          intro v' W' hown' hgr hat
          have hbW : Below w6.heap.size W W' := below_of_grown hgr hR.size (fun g' hg' => by injection hg' with hg'; have hg' : g = g' := hg'; omega)
          refine ⟨_, rfl, hR.trans hbW, fun u hu => ?_, fun j hj hji hu hd u h => ?_⟩
          · rw [hu (by simp)]; exact hown'
          · match j, hj, hji, hd, h with
            | 0, _, _, hd, _ => exact absurd hd (by decide)
            | 1, _, _, _, h => exact h
            | 2, _, _, _, h => exact h
            | 3, _, _, _, h => exact h
            | 4, _, hji, _, _ => exact absurd rfl hji
            | 5, _, _, _, h => exact h
            | 6, _, _, _, h =>
              obtain ⟨b, h1, h2⟩ := h
              refine ⟨b, h1, h2.grown hgr (fun e => ?_)⟩
              injection e with e
              have e : b = g := e
              subst e
              unfold Blk at h2 hg
              rw [h2] at hg
              injection hg with hg
              injection hg with hg _ _
              exact absurd (congrArg Array.size hg) (by simp)
            | 7, _, _, _, _ => exact absurd hu (fun h9 => hni (hsh.up h9 (by kernel_rfl)))
            | 8, _, _, _, h => exact h
            | 9, _, _, _, h => exact h
            | 10, _, _, _, h => exact h
            | 11, _, _, _, _ => exact absurd hu (fun h9 => hni (hsh.up (hsh.up h9 (show Region.waitsFor .any _ 11 7 = true by kernel_rfl)) (by kernel_rfl)))
            | 12, _, _, _, _ => exact absurd hu (fun h9 => hni (hsh.up (hsh.up (hsh.up h9 (show Region.waitsFor .any _ 12 11 = true by kernel_rfl)) (show Region.waitsFor .any _ 11 7 = true by kernel_rfl)) (by kernel_rfl)))
            | n + 13, hj, _, _, _ => exact absurd hj (by simp)
        | 5, ho =>
          injection ho with ho
          subst ho
          have e0 : ac.eval (.tmp 3) = .pointer (some ⟨w.heap.size, 0, none⟩) := hk'.same (s := 3) (by kernel_rfl)
          exact wpM_load _ _ _ (.agg #[.string fn, .int .i64 fk, .int .i64 fi, .string fi']) rfl e0 (by simp [go_sem, x0, x1, x2, x3]) ⟨_, rfl, hR, fun u hu => hu (by simp), fun j _ _ _ _ u h => h⟩
        | 6, ho =>
          injection ho with ho
          subst ho
          have e0 : ac.eval (.tmp 27) = .agg #[.string fn, .int .i64 fk, .int .i64 fi, .string fi'] := hM 5 (by decide) (ready_up hi (by kernel_rfl)) (nd 5 rfl rfl rfl rfl)
          refine wpM_slice _ _ _ (.slice (some ⟨W.heap.size, 0, none⟩) 1 1) _ #[(0, .agg #[.string fn, .int .i64 fk, .int .i64 fi, .string fi'])] rfl (by simp [e0]) (bsFd1 fn fi' fk fi W) ⟨_, rfl, hR.trans ((bone W _).mono hR.size), fun u hu => ⟨W.heap.size, hu (by simp), Blk.new _ _ _⟩, fun j _ _ _ _ u h => fdKeep (bone W _) j u h⟩
        | 7, ho =>
          injection ho with ho
          subst ho
          have hown : OwnFl W w6.heap.size (ac.eval (.tmp 26)) (l.take k) := hM 4 (by decide) (ready_up hi (by kernel_rfl)) (fun q h => by have h : q = 7 ∨ q = 11 := (by simp [fdD] at h; omega); rcases h with rfl | rfl; { exact hni }; { exact (fun h9 => hni (hsh.up h9 (show Region.waitsFor .any _ 11 7 = true by kernel_rfl))) })
          obtain ⟨b, e1, hb⟩ := hM 6 (by decide) (ready_up hi (by kernel_rfl)) (fun q h => by have h : q = 7 ∨ q = 11 := (by simp [fdD] at h; omega); rcases h with rfl | rfl; { exact hni }; { exact (fun h9 => hni (hsh.up h9 (show Region.waitsFor .any _ 11 7 = true by kernel_rfl))) })
          have e1 : ac.eval (.tmp 28) = .slice (some ⟨b, 0, none⟩) 1 1 := e1
          have hsl : Sl 4 RFld (Lt W.heap.size) W (.slice (some ⟨b, 0, none⟩) 1 1) [(⟨fn, ⟨fk, fi, fi'⟩⟩ : Fld)] := Sl.ofBlk (cs := [.string fn, .int .i64 fk, .int .i64 fi, .string fi']) (xs := [(⟨fn, ⟨fk, fi, fi'⟩⟩ : Fld)]) hb (by unfold maxLen; simp) (fun i x hx => by
            match i, hx with
            | 0, hx => injection hx with hx; subst hx; exact ⟨[.string fn, .int .i64 fk, .int .i64 fi, .string fi'], rfl, fun j u hu => by simpa using hu, rfl, HFF.out⟩
            | i + 1, hx => simp at hx)
          refine wp_appendAllW appFldR (.tmp 26) (.tmp 28) rfl W (fun _ => rfl) (l.take k) _ rfl hown _ ([(⟨fn, ⟨fk, fi, fi'⟩⟩ : Fld)]) e1 (hsl) (fun y c h => h.1) fldC_one (by rw [List.length_take]; simp; omega) hR.size ?_
          intro v' W' hown' hgr hat
          have hbW : Below w6.heap.size W W' := below_of_grown hgr hR.size (fun g hg => (World.ownsRow.lt hown g hg).1)
          refine ⟨_, rfl, hR.trans hbW, fun u hu => ?_, fun j hj hji hu hd u h => ?_⟩
          · rw [hu (by simp)]; exact hown'
          · match j, hj, hji, hd, h with
            | 0, _, _, hd, _ => exact absurd hd (by decide)
            | 1, _, _, _, h => exact h
            | 2, _, _, _, h => exact h
            | 3, _, _, _, h => exact h
            | 4, _, _, hd, _ => exact absurd hd (by decide)
            | 5, _, _, _, h => exact h
            | 6, _, _, hd, _ => exact absurd hd (by decide)
            | 7, _, hji, _, _ => exact absurd rfl hji
            | 8, _, _, _, h => exact h
            | 9, _, _, _, h => exact h
            | 10, _, _, _, h => exact h
            | 11, _, _, _, _ => exact absurd hu (fun h9 => hni (hsh.up h9 (by kernel_rfl)))
            | 12, _, _, _, _ => exact absurd hu (fun h9 => hni (hsh.up (hsh.up h9 (show Region.waitsFor .any _ 12 11 = true by kernel_rfl)) (show Region.waitsFor .any _ 11 7 = true by kernel_rfl)))
            | n + 13, hj, _, _, _ => exact absurd hj (by simp)
        | 8, ho =>
          injection ho with ho
          subst ho
          have e0 : ac.eval (.tmp 0) = V1 := hk'.same (s := 0) (by kernel_rfl)
          exact wpM_moveF _ _ rfl e0 ⟨_, rfl, hR, fun u hu => hu (by simp), fun j _ _ _ _ u h => h⟩
        | 9, ho =>
          injection ho with ho
          subst ho
          have e0 : ac.eval (.tmp 5) = .int .i64 (k : Int) := hk'.same (s := 5) (by kernel_rfl)
          exact wpM_moveF _ _ rfl e0 ⟨_, rfl, hR, fun u hu => hu (by simp), fun j _ _ _ _ u h => h⟩
        | 10, ho =>
          injection ho with ho
          subst ho
          have e0 : ac.eval (.tmp 30) = V1 := hM 8 (by decide) (ready_up hi (by kernel_rfl)) (nd 8 rfl rfl rfl rfl)
          have e1 : ac.eval (.tmp 31) = .int .i64 (k : Int) := hM 9 (by decide) (ready_up hi (by kernel_rfl)) (nd 9 rfl rfl rfl rfl)
          exact wpM_run V10 W (by generalize ac.eval = ρ at e0 e1 ⊢; simp only [execOp]; simp [e0, e1, HS10.out, go_sem]) ⟨_, rfl, hR, fun u hu => hu (by simp), fun j _ _ _ _ u h => h⟩
        | 11, ho =>
          injection ho with ho
          subst ho
          have hown : OwnFl W w6.heap.size (ac.eval (.tmp 29)) (l.take k ++ [(⟨fn, ⟨fk, fi, fi'⟩⟩ : Fld)]) := hM 7 (by decide) (ready_up hi (by kernel_rfl)) (fun q h => by have h : q = 11 := (by simp [fdD] at h; omega); rw [h]; exact hni)
          have e1 : ac.eval (.tmp 32) = V10 := hM 10 (by decide) (ready_up hi (by kernel_rfl)) (nd 10 rfl rfl rfl rfl)
          refine wp_appendAllW appFldR (.tmp 29) (.tmp 32) rfl W (fun _ => rfl) (l.take k ++ [(⟨fn, ⟨fk, fi, fi'⟩⟩ : Fld)]) _ rfl hown _ (l.drop k) e1 (Sl.keep (HT10.out) RFld.kept (fun _ => id) (Same.of_below hR)) (fun y c h => h.1) fldC_one (by rw [List.length_append, List.length_take, List.length_drop]; simp; omega) hR.size ?_
          intro v' W' hown' hgr hat
          have hbW : Below w6.heap.size W W' := below_of_grown hgr hR.size (fun g hg => (World.ownsRow.lt hown g hg).1)
          refine ⟨_, rfl, hR.trans hbW, fun u hu => ?_, fun j hj hji hu hd u h => ?_⟩
          · rw [hu (by simp)]; exact hown'
          · match j, hj, hji, hd, h with
            | 0, _, _, hd, _ => exact absurd hd (by decide)
            | 1, _, _, _, h => exact h
            | 2, _, _, _, h => exact h
            | 3, _, _, _, h => exact h
            | 4, _, _, hd, _ => exact absurd hd (by decide)
            | 5, _, _, _, h => exact h
            | 6, _, _, hd, _ => exact absurd hd (by decide)
            | 7, _, _, hd, _ => exact absurd hd (by decide)
            | 8, _, _, _, h => exact h
            | 9, _, _, _, h => exact h
            | 10, _, _, _, h => exact h
            | 11, _, hji, _, _ => exact absurd rfl hji
            | 12, _, _, _, _ => exact absurd hu (fun h9 => hni (hsh.up h9 (show Region.waitsFor .any _ 12 11 = true by kernel_rfl)))
            | n + 13, hj, _, _, _ => exact absurd hj (by simp)
        | 12, ho =>
          injection ho with ho
          subst ho
          have e0 : OwnFl W w6.heap.size (ac.eval (.tmp 33)) (l.take k ++ [(⟨fn, ⟨fk, fi, fi'⟩⟩ : Fld)] ++ l.drop k) := hM 11 (by decide) (ready_up hi (by kernel_rfl)) (nd 11 rfl rfl rfl rfl)
          exact wpM_assign _ _ rfl rfl ⟨_, rfl, hR, fun u hu => by rw [hu (by simp)]; exact e0, fun j _ _ _ _ u h => h⟩
        | n + 13, ho => simp at ho
      case hend =>
        intro ac W hk' hR hM
        have h12 : OwnFl W w6.heap.size (Act.slot ac 4) (l.take k ++ [(⟨fn, ⟨fk, fi, fi'⟩⟩ : Fld)] ++ l.drop k) := hM 12 (by decide) (fun q => rfl)
        obtain ⟨vv, hvv⟩ : ∃ vv, Act.slot ac 4 = vv := ⟨_, rfl⟩
        rw [hvv] at h12
        have H12 := Lib.hid h12
        have HBZ := Lib.hid (bthen HBW6.out hR)
        have HB6S := Lib.hid HBW6.out.size
        rw [hk'.form (by kernel_rfl)]
        simp only [putsAll, Option.getD_some, Act.put, List.setIfInBounds_toArray, List.set_cons_zero, List.set_cons_succ, hvv]
        clear h12
        go_wp2_with fail
        go_ret
        exact ⟨k, vv, hk, HK.out, HST.out, rfl, own_lowF H12.out HB6S.out, HBZ.out⟩
end Go.Proofs.YtoalecalahkblaaGreatDoor
