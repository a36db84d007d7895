/- Texts of this seat, merged. -/
import Derived.Deep.QuietTactic
import Derived.BigQuiet
import Derived.Test.YtoalecalahkblaaGreatDoorIy01
import Derived.Test.YtoalecalahkblaaGreatDoorIy02
import Derived.Test.YtoalecalahkblaaGreatDoorIy03
import Derived.Test.YtoalecalahkblaaGreatDoorIy04
import Derived.Test.YtoalecalahkblaaGreatDoorIy05
import Derived.Test.YtoalecalahkblaaGreatDoorIy06
import Derived.Test.YtoalecalahkblaaGreatDoorIy07
import Derived.Test.YtoalecalahkblaaGreatDoorIy08
set_option linter.all false
set_option linter.all false
namespace Go.Proofs.YtoalecalahkblaaGreatDoor
open Go.RowKit
def Btw (a b : Nat) : Nat → Prop := fun g => a ≤ g ∧ g < b
def RetRow (p : List Bt × Int) (w : World) (e : Ending) (w' : World) : Prop := ∃ v, e = .returned (.tuple #[v, .int .i64 p.2]) ∧ SlP (Btw w.heap.size w'.heap.size) w' v p.1 ∧ Below w.heap.size w w'
set_option maxHeartbeats 2000000 in
set_option maxRecDepth 100000 in
theorem row_err (vt : Val → Bt) (names : List Bs) (m : Mp) (width : Nat) (e : Ev) (ue un um : Value) (w : World) (he : IsEv (Lt w.heap.size) w ue e) (hm : IsMp (Lt w.heap.size) w um m)
    (hbad : (m.res < 0 ∧ e.res.data.toList ≠ []) ∨ (m.life < 0 ∧ e.life ≠ 5)) :
    Calls Tryz.prog 88 #[ue, un, um, .int .i64 (width : Int)] w (RetRow (rowX vt names m width e) w) := by
  obtain ⟨dv, rfl, hfe, hd⟩ := he
  obtain ⟨mv, kv, rfl, _, hmd, hmk⟩ := hm
  obtain ⟨Ad, cd, rfl, _, _, _⟩ := hd.open_
  obtain ⟨Am, cm, rfl, _, _, _⟩ := hmd.open_
  obtain ⟨Ak, ck, rfl, _, _, _⟩ := hmk.open_
  unfold evV mpV
  obtain ⟨z, hz⟩ : ∃ z, (m.sep.toNat : Int) = z := ⟨_, rfl⟩
  rw [hz]
  have hb1 := bone w (.cells #[.string e.cas, .string e.act, .string e.res, .int .i64 e.life, .int .i64 e.time, .slice Ad e.data.length cd] 69)
  have k1 := Blk.new w 69 #[.string e.cas, .string e.act, .string e.res, .int .i64 e.life, .int .i64 e.time, .slice Ad e.data.length cd]
  clear hd hmd hmk hz hfe
  go_enter Tryz.func88, Tryz.ntmps88
  go_upto_region 1 with fail
  obtain ⟨w1, hw1⟩ : ∃ w1, w.alloc (.cells #[.string e.cas, .string e.act, .string e.res, .int .i64 e.life, .int .i64 e.time, .slice Ad e.data.length cd] 69) = w1 := ⟨_, rfl⟩
  have z1 : w1.heap.size = w.heap.size + 1 := by rw [← hw1]; simp
  rw [hw1] at hb1 k1 ⊢
  clear hw1
  have hb2 := bone w1 (.cells #[.int .i64 m.cas, .int .i64 m.act, .int .i64 m.res, .int .i64 m.life, .int .i64 m.time, .slice Am m.data.length cm, .slice Ak m.kinds.length ck, .int .u8 z] 33)
  have k2 := Blk.new w1 33 #[.int .i64 m.cas, .int .i64 m.act, .int .i64 m.res, .int .i64 m.life, .int .i64 m.time, .slice Am m.data.length cm, .slice Ak m.kinds.length ck, .int .u8 z]
  have k1 := k1.now hb2
  have hB := Lib.hid (bthen hb1 hb2)
  obtain ⟨w2, hw2⟩ : ∃ w2, w1.alloc (.cells #[.int .i64 m.cas, .int .i64 m.act, .int .i64 m.res, .int .i64 m.life, .int .i64 m.time, .slice Am m.data.length cm, .slice Ak m.kinds.length ck, .int .u8 z] 33) = w2 := ⟨_, rfl⟩
  rw [hw2] at hB k1 k2 ⊢
  rw [z1] at k2
  clear hw2 z1 hb1 hb2
  obtain ⟨a0, a1, a2, a3, a4, a5⟩ := k1.c6
  obtain ⟨c0, c1, c2, c3, c4, c5, c6, c7⟩ := k2.c8m
  clear k1 k2
  by_cases h1 : m.res < 0 ∧ e.res.data.toList ≠ []
  · have HE : Hid (rowX vt names m width e = ([], 12)) := by show _ = _; unfold rowX; rw [if_pos h1]
    obtain ⟨h1, h2⟩ := h1
    have x1 : (!e.res.toList.isEmpty) = true := by
      rw [Lib.toList_data]
      cases hq : e.res.data.toList with
      | nil => exact absurd hq h2
      | cons a l => rfl
    have x2 : e.res.toList ≠ [] := by rw [Lib.toList_data]; exact h2
    clear h2 hbad
    go_wp2_with fail
    go_ret2
    show RetRow _ _ _ _
    rw [HE.out]
    exact ⟨_, rfl, Sl.none_, hB.out⟩
  · have h2 := hbad.resolve_left h1
    have HE : Hid (rowX vt names m width e = ([], 20)) := by show _ = _; unfold rowX; rw [if_neg h1, if_pos h2]
    obtain ⟨h3, h4⟩ := h2
    have x4 : (e.life != 5) = true := by simpa using h4
    by_cases h5 : m.res < 0
    · have h6 : e.res.data.toList = [] := by
        rcases Classical.em (e.res.data.toList = []) with h | h
        · exact h
        · exact absurd ⟨h5, h⟩ h1
      have x1 : e.res.toList = [] := by rw [Lib.toList_data]; exact h6
      have x2 : (!e.res.toList.isEmpty) = false := by rw [x1]; rfl
      clear h1 h4 h6 hbad
      go_wp2_with fail
      go_ret2
      show RetRow _ _ _ _
      rw [HE.out]
      exact ⟨_, rfl, Sl.none_, hB.out⟩
    · clear h1 h4 hbad
      go_wp2_with fail
      go_ret2
      show RetRow _ _ _ _
      rw [HE.out]
      exact ⟨_, rfl, Sl.none_, hB.out⟩
end Go.Proofs.YtoalecalahkblaaGreatDoor

set_option linter.all false
namespace Go.Proofs.YtoalecalahkblaaGreatDoor
open Go.RowKit
structure MpOk (m : Mp) : Prop where
  cas : 0 ≤ m.cas ∧ m.cas < 40
  act : 0 ≤ m.act ∧ m.act < 40
  time : 0 ≤ m.time ∧ m.time < 40
  res : m.res = -1 ∨ (0 ≤ m.res ∧ m.res < 40)
  life : m.life = -1 ∨ (0 ≤ m.life ∧ m.life < 40)
  data : ∀ k ∈ m.data, 0 ≤ k ∧ k < 40
  len : m.data.length ≤ 8
  kinds : m.kinds.length = m.data.length
  dist : m.cas ≠ m.act ∧ m.cas ≠ m.time ∧ m.act ≠ m.time
theorem mpOk {m : Mp} (h : mapB m = true) : MpOk m := by
  unfold mapB at h
  simp only [Bool.and_eq_true, decide_eq_true_eq, List.all_eq_true] at h
  have hc := h.1.1.2
  unfold colsB at hc
  refine ⟨hc _ (by simp), hc _ (by simp), hc _ (by simp), ?_, ?_, fun k hk => hc _ (by simp [hk]), h.1.1.1.1.2, h.1.1.1.2, ?_⟩
  · by_cases e : m.res = -1
    · exact .inl e
    · exact .inr (hc _ (by simp [e]))
  · by_cases e : m.life = -1
    · exact .inl e
    · exact .inr (hc _ (by simp [e]))
  · have hn := h.1.2
    unfold colsB at hn
    simp only [List.cons_append, List.nil_append, List.nodup_cons, List.mem_cons, not_or] at hn
    exact ⟨hn.1.1, hn.1.2.1, hn.2.1.1⟩
theorem foldW : ∀ (xs : List Int) (a : Int), a ≤ xs.foldl (fun a k => max a (k + 1)) a ∧ (∀ k ∈ xs, k + 1 ≤ xs.foldl (fun a k => max a (k + 1)) a) ∧ (∀ B, a ≤ B → (∀ k ∈ xs, k + 1 ≤ B) → xs.foldl (fun a k => max a (k + 1)) a ≤ B)
  | [], a => ⟨Int.le_refl _, fun k hk => absurd hk (by simp), fun B h _ => h⟩
  | x :: xs, a => by
    obtain ⟨h1, h2, h3⟩ := foldW xs (max a (x + 1))
    rw [List.foldl_cons]
    refine ⟨by omega, fun k hk => ?_, fun B hB hk => h3 B (by have := hk x (by simp); omega) fun k h => hk k (by simp [h])⟩
    rcases List.mem_cons.1 hk with rfl | hk
    · omega
    · exact h2 k hk
theorem foldW_max : ∀ (xs : List Int) (a : Int), xs.foldl (fun a k => max a (k + 1)) (a + 1) = xs.foldl max a + 1
  | [], a => rfl
  | x :: xs, a => by
    rw [List.foldl_cons, List.foldl_cons, ← foldW_max xs (max a x)]
    congr 1
    omega
def colsX (m : Mp) : List Int := fieldsB m ++ m.data
theorem colsX_ok {m : Mp} (h : MpOk m) : ∀ k ∈ colsX m, 0 ≤ k ∧ k < 40 := by
  intro k hk
  unfold colsX fieldsB at hk
  rcases List.mem_append.1 hk with hk | hk
  · obtain ⟨hk, h0⟩ := List.mem_filter.1 hk
    have h0 : 0 ≤ k := of_decide_eq_true h0
    simp only [List.mem_cons, List.not_mem_nil, or_false] at hk
    rcases hk with rfl | rfl | rfl | rfl | rfl
    · exact h.cas
    · exact h.act
    · rcases h.res with e | e
      · omega
      · exact e
    · rcases h.life with e | e
      · omega
      · exact e
    · exact h.time
  · exact h.data k hk
theorem colsX_mem {m : Mp} {k : Int} (h0 : 0 ≤ k) (h : k = m.cas ∨ k = m.act ∨ k = m.res ∨ k = m.life ∨ k = m.time ∨ k ∈ m.data) : k ∈ colsX m := by
  unfold colsX fieldsB
  rw [List.mem_append, List.mem_filter]
  simp only [List.mem_cons, List.not_mem_nil, or_false]
  rcases h with h | h | h | h | h | h
  · exact .inl ⟨.inl h, decide_eq_true h0⟩
  · exact .inl ⟨.inr (.inl h), decide_eq_true h0⟩
  · exact .inl ⟨.inr (.inr (.inl h)), decide_eq_true h0⟩
  · exact .inl ⟨.inr (.inr (.inr (.inl h))), decide_eq_true h0⟩
  · exact .inl ⟨.inr (.inr (.inr (.inr h))), decide_eq_true h0⟩
  · exact .inr h
theorem widthX_col {m : Mp} {k : Int} (h0 : 0 ≤ k) (h : k = m.cas ∨ k = m.act ∨ k = m.res ∨ k = m.life ∨ k = m.time ∨ k ∈ m.data) : k < (widthX m : Int) := by
  have h1 := (foldW (colsX m) 0).2.1 k (colsX_mem h0 h)
  unfold colsX at h1
  unfold widthX
  omega
theorem widthX_le {m : Mp} (h : MpOk m) : widthX m ≤ 40 := by
  have h1 := (foldW (colsX m) 0).2.2 40 (by omega) fun k hk => by have := colsX_ok h k hk; omega
  unfold colsX at h1
  unfold widthX
  omega
theorem colsX_cons {m : Mp} (h : MpOk m) : ∃ r, colsX m = m.cas :: r := by
  unfold colsX fieldsB
  rw [show ([m.cas, m.act, m.res, m.life, m.time].filter fun k => decide (0 ≤ k)) = m.cas :: ([m.act, m.res, m.life, m.time].filter fun k => decide (0 ≤ k)) from List.filter_cons_of_pos (decide_eq_true h.cas.1)]
  exact ⟨_, rfl⟩
theorem widthX_max {m : Mp} (h : MpOk m) : Lib.maxOf (colsX m) + 1 = (widthX m : Int) := by
  have hok := colsX_ok h
  obtain ⟨r, hr⟩ := colsX_cons h
  have h1 : (widthX m : Int) = ((colsX m).foldl (fun a k => max a (k + 1)) 0) := by
    have h2 := (foldW (colsX m) 0).1
    have h3 : widthX m = ((colsX m).foldl (fun a k => max a (k + 1)) 0).toNat := rfl
    rw [h3]
    omega
  rw [h1]
  rw [hr] at hok ⊢
  have h0 := hok m.cas (by simp)
  unfold Lib.maxOf
  rw [List.foldl_cons, List.foldl_cons, List.headD_cons, show max (0 : Int) (m.cas + 1) = m.cas + 1 by omega, foldW_max, show max m.cas m.cas = m.cas by omega]
def startX (m : Mp) (width : Nat) (e : Ev) : List Bt := setZ (setZ (setZ (List.replicate width []) m.cas e.cas.data.toList) m.act e.act.data.toList) m.time (Lib.itoa e.time)
def resX (m : Mp) (e : Ev) (r : List Bt) : List Bt := if 0 ≤ m.res then setZ r m.res e.res.data.toList else r
def lifeX (m : Mp) (e : Ev) (r : List Bt) : List Bt := if 0 ≤ m.life then setZ r m.life (lifeW.getD (e.life - 1).toNat []) else r
theorem rowX_ok {vt : Val → Bt} {names : List Bs} {m : Mp} {width : Nat} {e : Ev} (h1 : ¬ (m.res < 0 ∧ e.res.data.toList ≠ [])) (h2 : ¬ (m.life < 0 ∧ e.life ≠ 5)) :
    rowX vt names m width e = match datR vt names m e.data (lifeX m e (resX m e (startX m width e))) with
      | none => ([], 11)
      | some r => (r, 0) := by
  unfold rowX
  rw [if_neg h1, if_neg h2]
  rfl
theorem drop_cons {α : Type} {l : List α} {j : Nat} {x : α} (h : l[j]? = some x) : l.drop j = x :: l.drop (j + 1) := by
  obtain ⟨hj, he⟩ := List.getElem?_eq_some_iff.1 h
  rw [List.drop_eq_getElem_cons hj, he]
theorem datR_bad {vt : Val → Bt} {names : List Bs} {m : Mp} {fs : List Fld} {j : Nat} {f : Fld} {r : List Bt} (h : fs[j]? = some f) (hb : f.v.kind ≠ m.kinds.getD (names.idxOf (nmOf f)) 0 ∨ cellV vt f.v = []) : datR vt names m (fs.drop j) r = none := by
  rw [drop_cons h]
  unfold datR
  rw [if_pos hb]
theorem datR_good {vt : Val → Bt} {names : List Bs} {m : Mp} {fs : List Fld} {j : Nat} {f : Fld} {r : List Bt} (h : fs[j]? = some f) (hb : ¬ (f.v.kind ≠ m.kinds.getD (names.idxOf (nmOf f)) 0 ∨ cellV vt f.v = [])) : datR vt names m (fs.drop j) r = datR vt names m (fs.drop (j + 1)) (setZ r (m.data.getD (names.idxOf (nmOf f)) 0) (cellV vt f.v)) := by
  rw [drop_cons h]
  conv => lhs; unfold datR
  rw [if_neg hb]
def vtN (v : Val) : Bt := (textNV v).data.toList
theorem kind_cases {v : Val} (h : validV v = true) : v.kind = 1 ∨ v.kind = 2 ∨ v.kind = 3 := by
  unfold validV at h
  by_cases k1 : v.kind = 1
  · exact .inl k1
  · by_cases k2 : v.kind = 2
    · exact .inr (.inl k2)
    · by_cases k3 : v.kind = 3
      · exact .inr (.inr k3)
      · rw [if_neg k1, if_neg k2, if_neg k3] at h; cases h
def CLe (r : List Bt) : Prop := ∀ b ∈ r, b.length ≤ 1000000
theorem CLe.setZ {r : List Bt} (h : CLe r) (k : Int) {s : Bt} (hs : s.length ≤ 1000000) : CLe (setZ r k s) := by
  intro b hb
  unfold Go.Proofs.YtoalecalahkblaaGreatDoor.setZ at hb
  rcases List.mem_or_eq_of_mem_set hb with hb | rfl
  · exact h b hb
  · exact hs
theorem cle_none (n : Nat) : CLe (List.replicate n []) := fun b hb => by rw [(List.mem_replicate.1 hb).2]; exact Nat.zero_le _
theorem lifeW_le (i : Nat) : (lifeW.getD i []).length ≤ 1000000 := by
  have hall : ∀ b ∈ lifeW, b.length ≤ 1000000 := by decide
  rw [List.getD_eq_getElem?_getD]
  cases h : lifeW[i]? with
  | none => exact Nat.zero_le _
  | some b => exact hall b (List.mem_of_getElem? h)
theorem digits_le : ∀ (k u : Nat), u < 10 ^ (k + 1) → (Lib.decDigits u).length ≤ k + 1
  | 0, u, h => by rw [Lib.decDigits, dif_pos (by omega)]; simp
  | k + 1, u, h => by
    rw [Lib.decDigits]
    by_cases h10 : u < 10
    · rw [dif_pos h10]; simp
    · rw [dif_neg h10, List.length_append]
      have := digits_le k (u / 10) (by rw [Nat.pow_succ] at h; omega)
      simp only [List.length_singleton]
      omega
theorem itoa_le {n : Int} (h : Fit n) : (Lib.itoa n).length ≤ 1000000 := by
  obtain ⟨h1, h2⟩ := h
  have hd : ∀ u : Nat, u ≤ 9223372036854775808 → (Lib.decDigits u).length ≤ 100 := fun u hu => by
    have := digits_le 18 u (by rw [show 10 ^ (18 + 1) = 10000000000000000000 by decide]; omega)
    omega
  unfold Lib.itoa
  split
  · have := hd n.natAbs (by omega)
    simp only [List.length_cons]
    omega
  · have := hd n.toNat (by omega)
    omega
structure EvLe (e : Ev) : Prop where
  cas : e.cas.size ≤ 1000000
  act : e.act.size ≤ 1000000
  res : e.res.size ≤ 1000000
  time : Fit e.time
  life : 1 ≤ e.life ∧ e.life ≤ 6
  flds : ∀ f ∈ e.data, fldB f = true
theorem name_le {s : ByteArray} (h : isNameB s = true) : s.size ≤ 40 := by
  unfold isNameB at h
  simp only [Bool.and_eq_true, decide_eq_true_eq] at h
  exact h.1.1.2
theorem evLe {e : Ev} (h : evB e = true) : EvLe e := by
  unfold evB at h
  simp only [Bool.and_eq_true, decide_eq_true_eq] at h
  obtain ⟨⟨⟨⟨⟨⟨h1, h2⟩, h3⟩, h4⟩, h5⟩, h6⟩, h7⟩ := h
  refine ⟨by have := name_le h1; omega, by have := name_le h2; omega, ?_, ⟨by omega, by omega⟩, h4, fun f hf => ?_⟩
  · rw [Bool.or_eq_true] at h3
    rcases h3 with h3 | h3
    · unfold noS at h3
      have h0 : e.res.toList = [] := List.isEmpty_iff.1 h3
      rw [Lib.toList_data] at h0
      have h4 : e.res.data.toList.length = 0 := by rw [h0]; rfl
      have h5 : e.res.data.toList.length = e.res.size := Array.length_toList
      omega
    · have := name_le h3; omega
  · obtain ⟨i, hi⟩ := List.mem_iff_getElem?.1 hf
    have hl := (List.getElem?_eq_some_iff.1 hi).1
    unfold fldsB at h7
    have := List.all_eq_true.1 h7 i (List.mem_range.2 hl)
    unfold fldAt at this
    rw [hi] at this
    simp only [Bool.and_eq_true] at this
    exact this.1
theorem logB_ev {l : List Ev} (h : logB l = true) {i : Nat} {e : Ev} (he : l[i]? = some e) : evB e = true := by
  have hl := (List.getElem?_eq_some_iff.1 he).1
  unfold logB at h
  rw [Bool.and_eq_true] at h
  have := List.all_eq_true.1 h.2 i (List.mem_range.2 hl)
  unfold evAt at this
  rw [he] at this
  simp only [Bool.and_eq_true] at this
  exact this.1
theorem cellV_le {v : Val} (h : validV v = true) : (cellV vtN v).length ≤ 1000000 := by
  unfold cellV
  unfold validV at h
  by_cases k1 : v.kind = 1
  · rw [if_neg (by omega)]
    unfold vtN textNV
    rw [if_pos k1]
    cases decide (v.n = 1) <;> decide
  rw [if_neg k1] at h
  by_cases k2 : v.kind = 2
  · rw [if_neg (by omega)]
    rw [if_pos k2, Bool.and_eq_true] at h
    unfold vtN textNV
    rw [if_neg k1]
    refine itoa_le ?_
    have := h.1
    unfold numB at this
    have := of_decide_eq_true this
    exact ⟨by omega, by omega⟩
  rw [if_neg k2] at h
  by_cases k3 : v.kind = 3
  · rw [if_pos k3]
    rw [if_pos k3, Bool.and_eq_true] at h
    have := h.2
    unfold textB at this
    simp only [Bool.and_eq_true, decide_eq_true_eq] at this
    have := this.1
    simp only [Array.length_toList]
    have : v.s.data.size = v.s.size := rfl
    omega
  · rw [if_neg k3] at h; cases h
theorem datR_le {names : List Bs} {m : Mp} : ∀ (fs : List Fld) (r r' : List Bt), (∀ f ∈ fs, fldB f = true) → CLe r → datR vtN names m fs r = some r' → CLe r'
  | [], r, r', _, h, he => by unfold datR at he; injection he with he; rw [← he]; exact h
  | f :: fs, r, r', hf, h, he => by
    unfold datR at he
    simp only at he
    split at he
    · cases he
    · refine datR_le fs _ _ (fun g hg => hf g (by simp [hg])) (h.setZ _ (cellV_le ?_)) he
      have := hf f (by simp)
      unfold fldB at this
      rw [Bool.and_eq_true] at this
      exact this.2
theorem rowX_le {names : List Bs} {m : Mp} {width : Nat} {e : Ev} (h : EvLe e) (h0 : (rowX vtN names m width e).2 = 0) : (rowX vtN names m width e).1.length = width ∧ CLe (rowX vtN names m width e).1 := by
  by_cases h1 : m.res < 0 ∧ e.res.data.toList ≠ []
  · unfold rowX at h0; rw [if_pos h1] at h0; exact absurd h0 (by decide)
  by_cases h2 : m.life < 0 ∧ e.life ≠ 5
  · unfold rowX at h0; rw [if_neg h1, if_pos h2] at h0; exact absurd h0 (by decide)
  rw [rowX_ok h1 h2] at h0 ⊢
  have hlen : (lifeX m e (resX m e (startX m width e))).length = width := by
    unfold lifeX resX startX
    split <;> split <;> simp [setZ_len]
  have hst : CLe (startX m width e) := by
    unfold startX
    refine ((CLe.setZ (cle_none _) _ ?_).setZ _ ?_).setZ _ (itoa_le h.time)
    · rw [Array.length_toList]; exact h.cas
    · rw [Array.length_toList]; exact h.act
  have hre : CLe (resX m e (startX m width e)) := by
    unfold resX
    split
    · refine hst.setZ _ ?_
      rw [Array.length_toList]; exact h.res
    · exact hst
  have hli : CLe (lifeX m e (resX m e (startX m width e))) := by
    unfold lifeX
    split
    · exact hre.setZ _ (lifeW_le _)
    · exact hre
  cases hd : datR vtN names m e.data (lifeX m e (resX m e (startX m width e))) with
  | none => rw [hd] at h0; exact absurd h0 (by decide)
  | some r => exact ⟨(datR_len _ _ _ hd).trans hlen, datR_le _ _ _ h.flds hli hd⟩
theorem rowsX_step {f : Ev → List Bt × Int} {l : List Ev} {i : Nat} {e : Ev} {acc : List (List Bt)} (h : l[i]? = some e) : rowsX f (l.drop i) acc = if (f e).2 ≠ 0 then ([], (f e).2) else rowsX f (l.drop (i + 1)) (acc ++ [(f e).1]) := by
  rw [drop_cons h]
  conv => lhs; unfold rowsX
end Go.Proofs.YtoalecalahkblaaGreatDoor

set_option linter.all false
namespace Go.Proofs.YtoalecalahkblaaGreatDoor
open Go.RowKit
def sameS (s : ByteArray) (y : ByteArray) : Bool := y.toList == s.toList
end Go.Proofs.YtoalecalahkblaaGreatDoor

set_option linter.all false
namespace Go.Proofs.YtoalecalahkblaaGreatDoor
open Go.RowKit
theorem names_at {names : List Bs} {j : Nat} (hj : j < names.length) : (names.map bsOf).getD j ByteArray.empty = bsOf names[j] := by
  rw [List.getD_eq_getElem?_getD, List.getElem?_map, List.getElem?_eq_getElem hj]; rfl
theorem idx_ne {names : List Bs} {x : Bs} {j : Nat} (hj : j < names.idxOf x) : ∃ h : j < names.length, names[j] ≠ x := by
  have hl : j < names.length := Nat.lt_of_lt_of_le hj List.idxOf_le_length
  refine ⟨hl, fun e => ?_⟩
  have := List.not_of_lt_findIdx hj
  simp only [beq_eq_false_iff_ne, ne_eq] at this
  exact this e
theorem index_any (u : Value) (names : List Bs) (x : Bs) (w : World) (h : SlP (Lt w.heap.size) w u names) (hx : x ∈ names) :
    Calls Tryz.prog 97 #[u, .string (bsOf x)] w fun e w' => e = .returned (.int .i64 (names.idxOf x : Int)) ∧ w = w' := by
  have hk : names.idxOf x < names.length := List.idxOf_lt_length_of_mem hx
  obtain ⟨A, c, rfl, h1, h2, hu⟩ := SlS.open_ h
  have hlm : (names.map bsOf).length = names.length := List.length_map _
  obtain ⟨b, o, rfl, hD, _, hc⟩ := hu.cells (by omega)
  refine (Tryz.slices_Index_string b o (names.map bsOf).length c (names.map bsOf) (bsOf x) w (Nat.le_refl _) (by omega) hc).mono ?_
  rintro e w' ⟨rfl, hq⟩
  rw [Lib.idxOfS_hit (names.map bsOf) (names.map bsOf).length (names.idxOf x) (bsOf x) (by omega) (Nat.le_refl _) (by rw [names_at hk, List.getElem_idxOf]) (fun j hj => by
    obtain ⟨hl, hne⟩ := idx_ne hj
    rw [names_at hl]
    exact fun e => hne (bsOf_inj e))]
  exact ⟨rfl, hq.symm⟩
end Go.Proofs.YtoalecalahkblaaGreatDoor

namespace Go.Proofs.YtoalecalahkblaaGreatDoor
open Go.RowKit
def dstOf (l : List Oper) (j : Nat) : Nat := ((l[j]?).bind (·.dst)).getD 0
def apartB (l : List Oper) (n : Nat) : Bool := (List.range n).all fun i => match (l[i]?).bind (·.dst) with
  | none => false
  | some a => (List.range l.length).all fun j => i == j || match (l[j]?).bind (·.dst) with
    | none => true
    | some b => a != b
def lastB (l : List Oper) (n : Nat) : Bool := (List.range n).all fun i => Region.waitsFor .any l.toArray n i
def StepsM (P : Program) (l : List Oper) (Q : Exit → Act → World → Prop) (a0 : Act) (w0 : World) (F : Nat → Value → World → Prop) : Nat → List Oper → Prop
  | _, [] => True
  | i, o :: rest => (∀ (a : Act) W, Kin l a0 a → Below w0.heap.size w0 W → (∀ j, Region.waitsFor .any l.toArray i j = true → F j (Act.slot a (dstOf l j)) W) →
      o.wp P a W (fun a' W' => ∃ v, a' = a.put o.dst v ∧ Below W.heap.size W W' ∧ F i v W') Q) ∧ StepsM P l Q a0 w0 F (i + 1) rest
theorem StepsM.at_ {P : Program} {l : List Oper} {Q : Exit → Act → World → Prop} {a0 : Act} {w0 : World} {F : Nat → Value → World → Prop} : ∀ (m : List Oper) (k i : Nat) (o : Oper), StepsM P l Q a0 w0 F k m → m[i]? = some o →
    ∀ (a : Act) W, Kin l a0 a → Below w0.heap.size w0 W → (∀ j, Region.waitsFor .any l.toArray (k + i) j = true → F j (Act.slot a (dstOf l j)) W) →
      o.wp P a W (fun a' W' => ∃ v, a' = a.put o.dst v ∧ Below W.heap.size W W' ∧ F (k + i) v W') Q := by
  intro m
  induction m with
  | nil => intro k i o _ h; simp at h
  | cons x m ih =>
    intro k i o hs h
    cases i with
    | zero => injection h with h; subst h; exact hs.1
    | succ i =>
      have := ih (k + 1) i o hs.2 (by simpa using h)
      rwa [show k + 1 + i = k + (i + 1) from by omega] at this
theorem steps_all {P : Program} {l : List Oper} {Q : Exit → Act → World → Prop} {a0 : Act} {K : Array Bool → (Nat → Value) → World → Prop} (h : ∀ (i : Nat) (o : Oper), l[i]? = some o →
    ∀ listed (a : Act) w, Shut l listed → i ∈ Region.ready .any l.toArray listed → Kin l a0 a → K listed (Act.slot a) w →
      o.wp P a w (fun a' w' => ∃ v, a' = a.put o.dst v ∧ K (listed.setIfInBounds i true) (upd (Act.slot a) o.dst v) w') Q) : Steps P l Q a0 K 0 l := by
  have gen : ∀ (m : List Oper) (k : Nat), (∀ i o, m[i]? = some o → l[k + i]? = some o) → Steps P l Q a0 K k m := by
    intro m
    induction m with
    | nil => intro k _; trivial
    | cons x m ih =>
      intro k hk
      refine ⟨fun listed a w => h k x (by simpa using hk 0 x rfl) listed a w, ih (k + 1) fun i o ho => ?_⟩
      have := hk (i + 1) o (by simpa using ho)
      rwa [show k + (i + 1) = k + 1 + i by omega] at this
  exact gen l 0 (fun i o ho => by rw [Nat.zero_add]; exact ho)
end Go.Proofs.YtoalecalahkblaaGreatDoor

namespace Go.Proofs.YtoalecalahkblaaGreatDoor
open Go.RowKit
section
variable {P : Program} {o : Oper} {a : Act} {w : World} {K : Act → World → Prop} {Q : Exit → Act → World → Prop}
theorem wpM_load (t : TypeId) (x : Operand) (p V : Value) (ho : o.op = .load t x) (hv : a.eval x = p) (hr : (Instr.loadAt t p).run P w = .ok V w) (h : K (a.put o.dst V) w) : o.wp P a w K Q := by
  unfold Oper.wp execOp
  simp only [ho, hv, Sem.run_bind, hr, Result.andThen_ok]
  exact h
theorem wpM_slice (t : TypeId) (n : Nat) (parts : Array (Nat × Operand)) (V : Value) (w' : World) (vals : Array (Nat × Value)) (ho : o.op = .buildSlice t n parts) (hv : (parts.map fun (i, x) => (i, a.eval x)) = vals) (hr : (Instr.buildSlice t n vals).run P w = .ok V w') (h : K (a.put o.dst V) w') : o.wp P a w K Q := by
  unfold Oper.wp execOp
  simp only [ho, hv, Sem.run_bind, hr, Result.andThen_ok]
  exact h
theorem wpM_alloc (t : TypeId) (V : Value) (w' : World) (ho : o.op = .alloc t) (hr : (Instr.alloc t true (.tuple #[])).run P w = .ok V w') (h : K (a.put o.dst V) w') : o.wp P a w K Q := by
  unfold Oper.wp execOp
  simp only [ho, Sem.run_bind, hr, Result.andThen_ok]
  exact h
theorem wpM_store (t : TypeId) (x y : Operand) (p V : Value) (w' : World) (u : Unit) (ho : o.op = .store t x y) (hv : a.eval x = p) (hv2 : a.eval y = V) (hr : (Instr.storeAt t p V).run P w = .ok u w') (h : K (a.put o.dst undef) w') : o.wp P a w K Q := by
  unfold Oper.wp execOp
  simp only [ho, hv, hv2, Sem.run_bind, hr, Result.andThen_ok]
  exact h
theorem wpM_run (V : Value) (w' : World) (hr : (execOp a.eval o).run P w = .ok (.value V) w') (h : K (a.put o.dst V) w') : o.wp P a w K Q := by
  unfold Oper.wp
  rw [hr]
  exact h
end
def noDstB (l : List Oper) (s : Nat) : Bool := l.all fun o => o.dst != some s
theorem Kin.same {l : List Oper} {a0 a : Act} (h : Kin l a0 a) {s : Nat} (hs : noDstB l s = true) : Act.slot a s = Act.slot a0 s :=
  h.slots s fun o ho e => by
    have := List.all_eq_true.1 hs o ho
    rw [e] at this
    simp at this
theorem hall_of {l : List Oper} (hE : earlyB l = true) : ∀ listed, Shut l listed → Region.ready .any l.toArray listed = [] → ∀ i, i < l.length → Up listed i := by
  intro listed hs hr i hi
  have hsz := hs.size
  cases h : listed.getD i true with
  | true =>
    unfold Up
    rw [Array.getD_eq_getD_getElem?, Array.getElem?_eq_getElem (by omega)] at h ⊢
    exact h
  | false =>
    obtain ⟨j, _, hj⟩ := first_ready hE hsz i (by omega) h
    rw [hr] at hj; cases hj
def putsAll (σ : Nat → Value) : List Oper → Act → Act
  | [], a => a
  | o :: l, a => putsAll σ l (a.put o.dst (σ (o.dst.getD 0)))
theorem puts_size (σ : Nat → Value) : ∀ (l : List Oper) (a : Act), (putsAll σ l a).tmps.size = a.tmps.size
  | [], a => rfl
  | o :: l, a => by rw [putsAll, puts_size σ l, size_put]
theorem puts_defers (σ : Nat → Value) : ∀ (l : List Oper) (a : Act), (putsAll σ l a).defers = a.defers
  | [], a => rfl
  | o :: l, a => by rw [putsAll, puts_defers σ l, defers_put]
theorem puts_slot (σ : Nat → Value) : ∀ (l : List Oper) (a : Act), (∀ o ∈ l, ∀ k, o.dst = some k → k < a.tmps.size) → ∀ s, Act.slot (putsAll σ l a) s = if (l.any fun o => o.dst == some s) = true then σ s else Act.slot a s
  | [], a, _, s => by simp [putsAll]
  | o :: l, a, h, s => by
    rw [putsAll, puts_slot σ l _ (fun o' ho' k hk => by rw [size_put]; exact h o' (by simp [ho']) k hk) s, slot_put (h o (by simp)), List.any_cons]
    cases hd : o.dst with
    | none => simp [upd]
    | some d =>
      by_cases hs : s = d
      · subst hs; simp [upd]
      · have hds : (some d == some s) = false := by simpa using fun e => hs e.symm
        simp [upd, hs, hds]
theorem act_ext {a b : Act} (h1 : a.tmps.size = b.tmps.size) (h2 : a.defers = b.defers) (h3 : ∀ s, Act.slot a s = Act.slot b s) : a = b := by
  obtain ⟨t, d⟩ := a
  obtain ⟨t', d'⟩ := b
  dsimp only at h1 h2
  subst h2
  congr 1
  refine Array.ext h1 fun i hi hi' => ?_
  have := h3 i
  simpa [Act.slot, hi, hi'] using this
theorem Kin.form {l : List Oper} {a0 a : Act} (h : Kin l a0 a) (hB : dstsB l a0.tmps.size = true) : a = putsAll (Act.slot a) l a0 := by
  have hd : ∀ o ∈ l, ∀ k, o.dst = some k → k < a0.tmps.size := fun o ho k hk => by
    unfold dstsB at hB
    rw [List.all_eq_true] at hB
    have := hB o ho
    rw [Bool.and_eq_true, hk] at this
    simpa using this.2
  refine act_ext ?_ ?_ fun s => ?_
  · rw [puts_size]; exact h.size
  · rw [puts_defers]; exact h.defers
  · rw [puts_slot _ _ _ hd]
    split
    · rfl
    · rename_i hn
      refine h.slots s fun o ho e => hn ?_
      rw [List.any_eq_true]
      exact ⟨o, ho, by rw [e]; simp⟩
theorem wpM_assign {P : Program} {o : Oper} {a : Act} {w : World} {K : Act → World → Prop} {Q : Exit → Act → World → Prop} (x : Operand) (V : Value) (ho : o.op = .assign x) (hv : a.eval x = V) (h : K (a.put o.dst V) w) : o.wp P a w K Q := by
  unfold Oper.wp execOp
  simp only [ho, hv]
  exact h
def blkOf : Value → Nat
  | .pointer (some a) => a.block
  | .slice (some a) _ _ => a.block
  | _ => 0
def vOf (l : List Oper) (σ : Nat → Value) (j : Nat) : Value := match (l[j]?).bind (·.dst) with
  | some d => σ d
  | none => undef
def dsts2B (l : List Oper) : Bool := (List.range l.length).all fun i => (List.range l.length).all fun j => i == j || match (l[i]?).bind (·.dst), (l[j]?).bind (·.dst) with
  | some a, some b => a != b
  | _, _ => true
theorem vOf_put {l : List Oper} (hD : dsts2B l = true) {i : Nat} {o : Oper} (ho : l[i]? = some o) (σ : Nat → Value) (v : Value) : (o.dst ≠ none → vOf l (upd σ o.dst v) i = v) ∧ ∀ j, j < l.length → j ≠ i → vOf l (upd σ o.dst v) j = vOf l σ j := by
  have hil : i < l.length := by
    rcases Nat.lt_or_ge i l.length with h | h
    · exact h
    · rw [List.getElem?_eq_none h] at ho; cases ho
  constructor
  · intro hd
    unfold vOf
    rw [ho]
    cases e : o.dst with
    | none => exact absurd e hd
    | some d => simp [e, upd]
  · intro j hj hji
    unfold vOf
    unfold dsts2B at hD
    rw [List.all_eq_true] at hD
    have h1 := hD i (List.mem_range.2 hil)
    rw [List.all_eq_true] at h1
    have h2 := h1 j (List.mem_range.2 hj)
    rw [ho] at h2
    cases e : o.dst with
    | none => rfl
    | some d =>
      cases e2 : (l[j]?).bind (·.dst) with
      | none => rfl
      | some d' =>
        simp only [Option.bind_some, e, e2, Bool.or_eq_true, beq_iff_eq, bne_iff_ne] at h2
        have hne : d ≠ d' := by
          rcases h2 with h2 | h2
          · exact absurd h2.symm hji
          · exact h2
        simp only [upd]
        rw [if_neg (fun h => hne h.symm)]
structure MkSt (n : Nat) (mk : Nat → Bool) (w0 : World) (F : Nat → (Nat → Value) → World → Prop) (listed : Array Bool) (τ : Nat → Value) (W : World) : Prop where
  below : Below w0.heap.size w0 W
  lo : ∀ i, i < n → mk i = true → Up listed i → w0.heap.size ≤ blkOf (τ i) ∧ blkOf (τ i) < W.heap.size
  apart : ∀ i j, i < n → j < n → mk i = true → mk j = true → Up listed i → Up listed j → i ≠ j → blkOf (τ i) ≠ blkOf (τ j)
  facts : ∀ j, j < n → Up listed j → F j τ W
theorem wp_region_mk {P : Program} {l : List Oper} {id : Nat} {Q : Exit → Act → World → Prop} {a0 : Act} {w : World} (hm : P.follows .mixedOrders = true)
    (hB : dstsB l a0.tmps.size = true) (hD : dsts2B l = true) (mk : Nat → Bool) (F : Nat → (Nat → Value) → World → Prop)
    (hstep : ∀ (i : Nat) (o : Oper), l[i]? = some o → ∀ listed (a : Act) W, Shut l listed → i ∈ Region.ready .any l.toArray listed → Kin l a0 a → MkSt l.length mk w.drew F listed (vOf l (Act.slot a)) W →
      o.wp P a W (fun a' W' => ∃ v, a' = a.put o.dst v ∧ Below w.drew.heap.size W W' ∧ (mk i = true → W.heap.size ≤ blkOf v ∧ blkOf v < W'.heap.size) ∧
        ∀ τ', (o.dst ≠ none → τ' i = v) → (∀ j, j < l.length → j ≠ i → τ' j = vOf l (Act.slot a) j) → F i τ' W' ∧ ∀ j, j < l.length → j ≠ i → Up listed j → F j τ' W') Q)
    (hmk : ∀ (i : Nat) (o : Oper), l[i]? = some o → mk i = true → o.dst ≠ none)
    (hend : ∀ listed (a : Act) W, (∀ i, i < l.length → Up listed i) → Kin l a0 a → MkSt l.length mk w.drew F listed (vOf l (Act.slot a)) W → Q .normal a W)
    (hall : ∀ listed, Shut l listed → Region.ready .any l.toArray listed = [] → ∀ i, i < l.length → Up listed i) : (Code.region id l.toArray true).wp P Q a0 w := by
  refine wp_region_slots hm hB (fun listed σ W => MkSt l.length mk w.drew F listed (vOf l σ) W) ⟨Below.refl _ _, fun i _ _ hu => ?_, fun i j _ _ _ _ hu => ?_, fun j _ hu => ?_⟩ (steps_all fun i o ho listed a W hsh hi hk hK => ?_) hend hall
  · unfold Up at hu; rw [getD_replicate_false] at hu; cases hu
  · unfold Up at hu; rw [getD_replicate_false] at hu; cases hu
  · unfold Up at hu; rw [getD_replicate_false] at hu; cases hu
  · refine Oper.wp_mono ?_ (hstep i o ho listed a W hsh hi hk hK)
    rintro a' W' ⟨v, rfl, hb, hnew, hf⟩
    refine ⟨v, rfl, ?_⟩
    obtain ⟨p1, p2⟩ := vOf_put hD ho (Act.slot a) v
    generalize vOf l (upd (Act.slot a) o.dst v) = τ' at *
    obtain ⟨f1, f2⟩ := hf τ' p1 p2
    refine ⟨hK.below.trans hb, fun j hj hm' hu => ?_, fun j k hj hk' hmj hmk' huj huk hjk => ?_, fun j hj hu => ?_⟩
    · by_cases e : j = i
      · subst e
        rw [p1 (hmk j o ho hm')]
        have := hnew hm'
        have := hK.below.size
        omega
      · rw [p2 j hj e]
        have := hK.lo j hj hm' (up_set hu (fun h => e h.symm))
        have := hb.size
        omega
    · by_cases e1 : j = i
      · subst e1
        have e2 : k ≠ j := fun h => hjk h.symm
        rw [p1 (hmk j o ho hmj), p2 k hk' e2]
        have h1 := hnew hmj
        have h2 := hK.lo k hk' hmk' (up_set huk (fun h => e2 h.symm))
        omega
      · by_cases e2 : k = i
        · subst e2
          rw [p1 (hmk k o ho hmk'), p2 j hj e1]
          have h1 := hnew hmk'
          have h2 := hK.lo j hj hmj (up_set huj (fun h => e1 h.symm))
          omega
        · rw [p2 j hj e1, p2 k hk' e2]
          exact hK.apart j k hj hk' hmj hmk' (up_set huj (fun h => e1 h.symm)) (up_set huk (fun h => e2 h.symm)) hjk
    · by_cases e : j = i
      · subst e; exact f1
      · exact f2 j hj e (up_set hu (fun h => e h.symm))
end Go.Proofs.YtoalecalahkblaaGreatDoor

namespace Go.Proofs.YtoalecalahkblaaGreatDoor
open Go.RowKit
theorem wp_region_rel {P : Program} {l : List Oper} {id : Nat} {Q : Exit → Act → World → Prop} {a0 : Act} {w : World} (hm : P.follows .mixedOrders = true)
    (hB : dstsB l a0.tmps.size = true) (hD : dsts2B l = true) (R : World → Prop) (F : Nat → Value → World → Prop) (h0 : R w.drew)
    (hstep : ∀ (i : Nat) (o : Oper), l[i]? = some o → ∀ listed (a : Act) W, Shut l listed → i ∈ Region.ready .any l.toArray listed → Kin l a0 a → R W →
      (∀ j, j < l.length → Up listed j → F j (vOf l (Act.slot a) j) W) →
      o.wp P a W (fun a' W' => ∃ v, a' = a.put o.dst v ∧ R W' ∧ (∀ u, (o.dst ≠ none → u = v) → F i u W') ∧ ∀ j, j < l.length → j ≠ i → Up listed j → ∀ u, F j u W → F j u W') Q)
    (hend : ∀ (a : Act) W, Kin l a0 a → R W → (∀ j, j < l.length → F j (vOf l (Act.slot a) j) W) → Q .normal a W)
    (hall : ∀ listed, Shut l listed → Region.ready .any l.toArray listed = [] → ∀ i, i < l.length → Up listed i) : (Code.region id l.toArray true).wp P Q a0 w := by
  refine wp_region_slots hm hB (fun listed σ W => R W ∧ ∀ j, j < l.length → Up listed j → F j (vOf l σ j) W) ⟨h0, fun j _ hu => ?_⟩ (steps_all fun i o ho listed a W hsh hi hk hK => ?_) (fun listed a W hu hk hK => hend a W hk hK.1 fun j hj => hK.2 j hj (hu j hj)) hall
  · unfold Up at hu; rw [getD_replicate_false] at hu; cases hu
  · refine Oper.wp_mono ?_ (hstep i o ho listed a W hsh hi hk hK.1 hK.2)
    rintro a' W' ⟨v, rfl, hR, hf, hkeep⟩
    refine ⟨v, rfl, hR, fun j hj hu => ?_⟩
    obtain ⟨p1, p2⟩ := vOf_put hD ho (Act.slot a) v
    by_cases e : j = i
    · subst e; exact hf _ p1
    · rw [p2 j hj e]
      have hu' := up_set hu (fun h => e h.symm)
      exact hkeep j hj e hu' _ (hK.2 j hj hu')
theorem wp_region_rel2 {P : Program} {l : List Oper} {id : Nat} {Q : Exit → Act → World → Prop} {a0 : Act} {w : World} (hm : P.follows .mixedOrders = true)
    (hB : dstsB l a0.tmps.size = true) (hD : dsts2B l = true) (R : World → Prop) (F : Nat → Value → World → Prop) (dead : Nat → Nat → Bool) (h0 : R w.drew)
    (hstep : ∀ (i : Nat) (o : Oper), l[i]? = some o → ∀ listed (a : Act) W, Shut l listed → i ∈ Region.ready .any l.toArray listed → Kin l a0 a → R W →
      (∀ j, j < l.length → Up listed j → (∀ k, dead j k = true → ¬ Up listed k) → F j (vOf l (Act.slot a) j) W) →
      o.wp P a W (fun a' W' => ∃ v, a' = a.put o.dst v ∧ R W' ∧ (∀ u, (o.dst ≠ none → u = v) → F i u W') ∧ ∀ j, j < l.length → j ≠ i → Up listed j → dead j i = false → ∀ u, F j u W → F j u W') Q)
    (hend : ∀ (a : Act) W, Kin l a0 a → R W → (∀ j, j < l.length → (∀ k, dead j k = false) → F j (vOf l (Act.slot a) j) W) → Q .normal a W)
    (hall : ∀ listed, Shut l listed → Region.ready .any l.toArray listed = [] → ∀ i, i < l.length → Up listed i) : (Code.region id l.toArray true).wp P Q a0 w := by
  refine wp_region_slots hm hB (fun listed σ W => R W ∧ ∀ j, j < l.length → Up listed j → (∀ k, dead j k = true → ¬ Up listed k) → F j (vOf l σ j) W) ⟨h0, fun j _ hu => ?_⟩ (steps_all fun i o ho listed a W hsh hi hk hK => ?_) (fun listed a W hu hk hK => hend a W hk hK.1 fun j hj hd => hK.2 j hj (hu j hj) fun k hk' => by rw [hd k] at hk'; cases hk') hall
  · unfold Up at hu; rw [getD_replicate_false] at hu; cases hu
  · have hil : i < l.length := (List.getElem?_eq_some_iff.1 ho).1
    refine Oper.wp_mono ?_ (hstep i o ho listed a W hsh hi hk hK.1 hK.2)
    rintro a' W' ⟨v, rfl, hR, hf, hkeep⟩
    refine ⟨v, rfl, hR, fun j hj hu hd => ?_⟩
    obtain ⟨p1, p2⟩ := vOf_put hD ho (Act.slot a) v
    by_cases e : j = i
    · subst e; exact hf _ p1
    · rw [p2 j hj e]
      have hu' := up_set hu (fun h => e h.symm)
      have hdi : dead j i = false := by
        cases hq : dead j i with
        | false => rfl
        | true =>
          refine absurd ?_ (hd i hq)
          unfold Up
          have hsz := hsh.size
          rw [Array.getD_eq_getD_getElem?, Array.getElem?_setIfInBounds]
          simp [hsz, hil]
      refine hkeep j hj e hu' hdi _ (hK.2 j hj hu' fun k hk' hu2 => hd k hk' ?_)
      unfold Up at hu2 ⊢
      rw [Array.getD_eq_getD_getElem?, Array.getElem?_setIfInBounds]
      rw [Array.getD_eq_getD_getElem?] at hu2
      by_cases ek : i = k
      · subst ek; simp [hsh.size, hil]
      · rw [if_neg ek]; exact hu2
theorem wp_region_rel3 {P : Program} {l : List Oper} {id : Nat} {Q : Exit → Act → World → Prop} {a0 : Act} {w : World} (hm : P.follows .mixedOrders = true)
    (hB : dstsB l a0.tmps.size = true) (hD : dsts2B l = true) (R : (Nat → Prop) → World → Prop) (F : Nat → Value → World → Prop) (dead : Nat → Nat → Bool) (h0 : R (fun _ => False) w.drew)
    (hstep : ∀ (i : Nat) (o : Oper), l[i]? = some o → ∀ listed (a : Act) W, Shut l listed → i ∈ Region.ready .any l.toArray listed → Kin l a0 a → R (Up listed) W →
      (∀ j, j < l.length → Up listed j → (∀ k, dead j k = true → ¬ Up listed k) → F j (vOf l (Act.slot a) j) W) →
      o.wp P a W (fun a' W' => ∃ v, a' = a.put o.dst v ∧ R (fun j => j = i ∨ Up listed j) W' ∧ (∀ u, (o.dst ≠ none → u = v) → F i u W') ∧ ∀ j, j < l.length → j ≠ i → Up listed j → dead j i = false → ∀ u, F j u W → F j u W') Q)
    (hend : ∀ (a : Act) W U, Kin l a0 a → R U W → (∀ j, j < l.length → (∀ k, dead j k = false) → F j (vOf l (Act.slot a) j) W) → Q .normal a W)
    (hall : ∀ listed, Shut l listed → Region.ready .any l.toArray listed = [] → ∀ i, i < l.length → Up listed i) : (Code.region id l.toArray true).wp P Q a0 w := by
  refine wp_region_slots hm hB (fun listed σ W => R (Up listed) W ∧ ∀ j, j < l.length → Up listed j → (∀ k, dead j k = true → ¬ Up listed k) → F j (vOf l σ j) W) ⟨?_, fun j _ hu => ?_⟩ (steps_all fun i o ho listed a W hsh hi hk hK => ?_) (fun listed a W hu hk hK => hend a W _ hk hK.1 fun j hj hd => hK.2 j hj (hu j hj) fun k hk' => by rw [hd k] at hk'; cases hk') hall
  · have e : Up (Array.replicate l.length false) = fun _ => False := funext fun j => propext ⟨fun h => (by unfold Up at h; rw [getD_replicate_false] at h; cases h), False.elim⟩
    rw [e]; exact h0
  · unfold Up at hu; rw [getD_replicate_false] at hu; cases hu
  · have hil : i < l.length := (List.getElem?_eq_some_iff.1 ho).1
    refine Oper.wp_mono ?_ (hstep i o ho listed a W hsh hi hk hK.1 hK.2)
    rintro a' W' ⟨v, rfl, hR, hf, hkeep⟩
    have eU : Up (listed.setIfInBounds i true) = fun j => j = i ∨ Up listed j := funext fun j => propext (by
      unfold Up
      rw [Array.getD_eq_getD_getElem?, Array.getD_eq_getD_getElem?, Array.getElem?_setIfInBounds]
      by_cases ek : i = j
      · subst ek; simp [hsh.size, hil]
      · rw [if_neg ek]; exact ⟨.inr, fun h => h.elim (fun h => absurd h.symm ek) (fun h => h)⟩)
    refine ⟨v, rfl, by rw [eU]; exact hR, fun j hj hu hd => ?_⟩
    obtain ⟨p1, p2⟩ := vOf_put hD ho (Act.slot a) v
    by_cases e : j = i
    · subst e; exact hf _ p1
    · rw [p2 j hj e]
      have hu' := up_set hu (fun h => e h.symm)
      have hdi : dead j i = false := by
        cases hq : dead j i with
        | false => rfl
        | true =>
          refine absurd ?_ (hd i hq)
          unfold Up
          have hsz := hsh.size
          rw [Array.getD_eq_getD_getElem?, Array.getElem?_setIfInBounds]
          simp [hsz, hil]
      refine hkeep j hj e hu' hdi _ (hK.2 j hj hu' fun k hk' hu2 => hd k hk' ?_)
      unfold Up at hu2 ⊢
      rw [Array.getD_eq_getD_getElem?, Array.getElem?_setIfInBounds]
      rw [Array.getD_eq_getD_getElem?] at hu2
      by_cases ek : i = k
      · subst ek; simp [hsh.size, hil]
      · rw [if_neg ek]; exact hu2
structure RelR {α : Type} (f : α → Value) (w0 : World) (base t g cap : Nat) (r0 : List α) (I : Nat → Prop) (W : World) : Prop where
  below : Below base w0 W
  row : ∃ r, OwnF f W base t g cap r ∧ r.length = r0.length ∧ ∀ k, ¬ I k → r[k]? = r0[k]?
section
variable {α : Type} {f : α → Value} {w0 W W' : World} {base t g cap : Nat} {r0 : List α} {I : Nat → Prop}
theorem RelR.start (h : OwnF f w0 base t g cap r0) : RelR f w0 base t g cap r0 I w0.drew := ⟨(Below.refl _ _).drew, r0, h.drew, rfl, fun _ _ => rfl⟩
theorem RelR.now (h : RelR f w0 base t g cap r0 I W) (hb : Below W.heap.size W W') (h0 : base ≤ w0.heap.size) : RelR f w0 base t g cap r0 I W' := by
  obtain ⟨r, h1, h2, h3⟩ := h.row
  exact ⟨h.below.trans (hb.mono (Nat.le_trans h0 h.below.size)), r, h1.now hb, h2, h3⟩
theorem RelR.set_ (h : RelR f w0 base t g cap r0 I W) {k : Nat} (hk : I k) (x : α) : RelR f w0 base t g cap r0 I (W.setCell ⟨g, k, none⟩ (f x)) := by
  obtain ⟨r, h1, h2, h3⟩ := h.row
  refine ⟨h.below.setCell (p := ⟨g, k, none⟩) h1.from_ _, r.set k x, h1.set_ k x, by simpa using h2, fun j hj => ?_⟩
  rw [List.getElem?_set_ne (fun (e : k = j) => hj (by rw [← e]; exact hk))]
  exact h3 j hj
theorem RelR.cell (h : RelR f w0 base t g cap r0 I W) {k : Nat} (hk : k < r0.length) : ∃ u, W.cell? ⟨g, k, none⟩ = some u := by
  obtain ⟨r, h1, h2, h3⟩ := h.row
  exact ⟨_, h1.cell (List.getElem?_eq_getElem (by omega))⟩
theorem RelR.frozen (h : RelR f w0 base t g cap r0 I W) (k : Nat) : W.frozen? ⟨g, k, none⟩ = false := by
  obtain ⟨r, h1, _, _⟩ := h.row
  exact h1.frozen k
theorem RelR.end_ (hf : ∀ x y, f x = f y → x = y) (h : RelR f w0 base t g cap r0 I W) {r1 : List α} (hl : r1.length = r0.length) (hn : ∀ k, ¬ I k → r1[k]? = r0[k]?) (hc : ∀ k x, I k → r1[k]? = some x → W.cell? ⟨g, k, none⟩ = some (f x)) : OwnF f W base t g cap r1 := by
  obtain ⟨r, h1, h2, h3⟩ := h.row
  have e : r = r1 := by
    refine List.ext_getElem? fun k => ?_
    by_cases hk : I k
    · rcases Nat.lt_or_ge k r0.length with hl' | hl'
      · have e1 := List.getElem?_eq_getElem (l := r1) (i := k) (by omega)
        have e2 := List.getElem?_eq_getElem (l := r) (i := k) (by omega)
        have c1 := hc k _ hk e1
        rw [h1.cell e2] at c1
        injection c1 with c1
        rw [e1, e2, hf _ _ c1]
      · rw [List.getElem?_eq_none (by omega), List.getElem?_eq_none (by omega)]
    · rw [h3 k hk, hn k hk]
  rw [← e]
  exact h1
theorem cell_far (W : World) {g k k' : Nat} (h : k ≠ k') (u : Value) : (W.setCell ⟨g, k, none⟩ u).cell? ⟨g, k', none⟩ = W.cell? ⟨g, k', none⟩ := by
  simp [go_sem, h]
end
theorem cell_put (W : World) {g k : Nat} {y : Value} (h : W.cell? ⟨g, k, none⟩ = some y) (u : Value) : (W.setCell ⟨g, k, none⟩ u).cell? ⟨g, k, none⟩ = some u := by
  simp [go_sem, h]
theorem wpM_callF {P : Program} {f : FuncId} {o : Oper} {a : Act} {w : World} {K : Act → World → Prop} {Q : Exit → Act → World → Prop} (he : ∀ args w, (callFunc f args).run P w = .ok (.enter f args) w) (x : Operand) (args : Array Operand) (vals : Array Value) (ts : Array TypeId) (ho : o.op = .call { callee := .value x, args := args, argTypes := ts }) (hx : a.eval x = .func (.func f) #[] #[]) (hv : args.map a.eval = vals)
    (h : Calls P f vals w fun e w' => ∃ v, e = .returned v ∧ K (a.put o.dst v) w') : o.wp P a w K Q := by
  unfold Oper.wp execOp
  simp only [ho]
  generalize a.eval = ρ at hx hv ⊢
  simp [hx, hv, go_sem]
  rw [he]
  refine Calls.mono h ?_
  rintro e w' ⟨v, rfl, hK⟩
  exact hK
theorem str_inj : ∀ x y : Bt, Value.string (bsOf x) = Value.string (bsOf y) → x = y := by
  intro x y h
  injection h with h
  exact congrArg (fun s : ByteArray => s.data.toList) h
theorem setZ3_end {w0 W : World} {base t g cap : Nat} {r0 : List Bt} {c a k : Nat} {x y z : Bt} (h : RelR (fun l : Bt => Value.string (bsOf l)) w0 base t g cap r0 (fun j => j = c ∨ j = a ∨ j = k) W)
    (hca : c ≠ a) (hck : c ≠ k) (hak : a ≠ k) (h1 : W.cell? ⟨g, c, none⟩ = some (.string (bsOf x))) (h2 : W.cell? ⟨g, a, none⟩ = some (.string (bsOf y))) (h3 : W.cell? ⟨g, k, none⟩ = some (.string (bsOf z))) :
    OwnF (fun l : Bt => Value.string (bsOf l)) W base t g cap (((r0.set c x).set a y).set k z) := by
  refine h.end_ str_inj (by simp) (fun j hj => ?_) (fun j v hj hv => ?_)
  · rw [List.getElem?_set_ne (fun e => hj (.inr (.inr e.symm))), List.getElem?_set_ne (fun e => hj (.inr (.inl e.symm))), List.getElem?_set_ne (fun e => hj (.inl e.symm))]
  · rcases hj with rfl | rfl | rfl
    · rw [List.getElem?_set_ne (Ne.symm hck), List.getElem?_set_ne (Ne.symm hca)] at hv
      rcases Nat.lt_or_ge j r0.length with hl | hl
      · rw [List.getElem?_set_self hl] at hv; injection hv with hv; rw [← hv]; exact h1
      · rw [List.getElem?_eq_none (by simpa using hl)] at hv; cases hv
    · rw [List.getElem?_set_ne (Ne.symm hak)] at hv
      rcases Nat.lt_or_ge j r0.length with hl | hl
      · rw [List.getElem?_set_self (by simpa using hl)] at hv; injection hv with hv; rw [← hv]; exact h2
      · rw [List.getElem?_eq_none (by simpa using hl)] at hv; cases hv
    · rcases Nat.lt_or_ge j r0.length with hl | hl
      · rw [List.getElem?_set_self (by simpa using hl)] at hv; injection hv with hv; rw [← hv]; exact h3
      · rw [List.getElem?_eq_none (by simpa using hl)] at hv; cases hv
end Go.Proofs.YtoalecalahkblaaGreatDoor
