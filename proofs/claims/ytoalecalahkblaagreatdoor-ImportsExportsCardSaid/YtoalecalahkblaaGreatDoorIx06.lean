/- Texts of this seat, merged. -/
import Derived.Deep.QuietTactic
import Derived.BigQuiet
import Derived.Test.YtoalecalahkblaaGreatDoorIx01
import Derived.Test.YtoalecalahkblaaGreatDoorIx02
import Derived.Test.YtoalecalahkblaaGreatDoorIx03
import Derived.Test.YtoalecalahkblaaGreatDoorIx04
import Derived.Test.YtoalecalahkblaaGreatDoorIx05
set_option linter.all false
set_option linter.all false
namespace Go.Proofs.YtoalecalahkblaaGreatDoor
open Go.RowKit
structure MpOk (m : Mp) : Prop where
  cas : 0 ≤ m.cas ∧ m.cas < 40
  act : 0 ≤ m.act ∧ m.act < 40
  time : 0 ≤ m.time ∧ m.time < 40
  res : m.res = -1 ∨ (0 ≤ m.res ∧ m.res < 40)
  life : m.life = -1 ∨ (0 ≤ m.life ∧ m.life < 40)
  data : ∀ k ∈ m.data, 0 ≤ k ∧ k < 40
  len : m.data.length ≤ 8
  kinds : m.kinds.length = m.data.length
  dist : m.cas ≠ m.act ∧ m.cas ≠ m.time ∧ m.act ≠ m.time
theorem mpOk {m : Mp} (h : mapB m = true) : MpOk m := by
  unfold mapB at h
  simp only [Bool.and_eq_true, decide_eq_true_eq, List.all_eq_true] at h
  have hc := h.1.1.2
  unfold colsB at hc
  refine ⟨hc _ (by simp), hc _ (by simp), hc _ (by simp), ?_, ?_, fun k hk => hc _ (by simp [hk]), h.1.1.1.1.2, h.1.1.1.2, ?_⟩
  · by_cases e : m.res = -1
    · exact .inl e
    · exact .inr (hc _ (by simp [e]))
  · by_cases e : m.life = -1
    · exact .inl e
    · exact .inr (hc _ (by simp [e]))
  · have hn := h.1.2
    unfold colsB at hn
    simp only [List.cons_append, List.nil_append, List.nodup_cons, List.mem_cons, not_or] at hn
    exact ⟨hn.1.1, hn.1.2.1, hn.2.1.1⟩
theorem foldW : ∀ (xs : List Int) (a : Int), a ≤ xs.foldl (fun a k => max a (k + 1)) a ∧ (∀ k ∈ xs, k + 1 ≤ xs.foldl (fun a k => max a (k + 1)) a) ∧ (∀ B, a ≤ B → (∀ k ∈ xs, k + 1 ≤ B) → xs.foldl (fun a k => max a (k + 1)) a ≤ B)
  | [], a => ⟨Int.le_refl _, fun k hk => absurd hk (by simp), fun B h _ => h⟩
  | x :: xs, a => by
    obtain ⟨h1, h2, h3⟩ := foldW xs (max a (x + 1))
    rw [List.foldl_cons]
    refine ⟨by omega, fun k hk => ?_, fun B hB hk => h3 B (by have := hk x (by simp); omega) fun k h => hk k (by simp [h])⟩
    rcases List.mem_cons.1 hk with rfl | hk
    · omega
    · exact h2 k hk
theorem foldW_max : ∀ (xs : List Int) (a : Int), xs.foldl (fun a k => max a (k + 1)) (a + 1) = xs.foldl max a + 1
  | [], a => rfl
  | x :: xs, a => by
    rw [List.foldl_cons, List.foldl_cons, ← foldW_max xs (max a x)]
    congr 1
    omega
def colsX (m : Mp) : List Int := fieldsB m ++ m.data
theorem colsX_ok {m : Mp} (h : MpOk m) : ∀ k ∈ colsX m, 0 ≤ k ∧ k < 40 := by
  intro k hk
  unfold colsX fieldsB at hk
  rcases List.mem_append.1 hk with hk | hk
  · obtain ⟨hk, h0⟩ := List.mem_filter.1 hk
    have h0 : 0 ≤ k := of_decide_eq_true h0
    simp only [List.mem_cons, List.not_mem_nil, or_false] at hk
    rcases hk with rfl | rfl | rfl | rfl | rfl
    · exact h.cas
    · exact h.act
    · rcases h.res with e | e
      · omega
      · exact e
    · rcases h.life with e | e
      · omega
      · exact e
    · exact h.time
  · exact h.data k hk
theorem colsX_mem {m : Mp} {k : Int} (h0 : 0 ≤ k) (h : k = m.cas ∨ k = m.act ∨ k = m.res ∨ k = m.life ∨ k = m.time ∨ k ∈ m.data) : k ∈ colsX m := by
  unfold colsX fieldsB
  rw [List.mem_append, List.mem_filter]
  simp only [List.mem_cons, List.not_mem_nil, or_false]
  rcases h with h | h | h | h | h | h
  · exact .inl ⟨.inl h, decide_eq_true h0⟩
  · exact .inl ⟨.inr (.inl h), decide_eq_true h0⟩
  · exact .inl ⟨.inr (.inr (.inl h)), decide_eq_true h0⟩
  · exact .inl ⟨.inr (.inr (.inr (.inl h))), decide_eq_true h0⟩
  · exact .inl ⟨.inr (.inr (.inr (.inr h))), decide_eq_true h0⟩
  · exact .inr h
theorem widthX_col {m : Mp} {k : Int} (h0 : 0 ≤ k) (h : k = m.cas ∨ k = m.act ∨ k = m.res ∨ k = m.life ∨ k = m.time ∨ k ∈ m.data) : k < (widthX m : Int) := by
  have h1 := (foldW (colsX m) 0).2.1 k (colsX_mem h0 h)
  unfold colsX at h1
  unfold widthX
  omega
theorem widthX_le {m : Mp} (h : MpOk m) : widthX m ≤ 40 := by
  have h1 := (foldW (colsX m) 0).2.2 40 (by omega) fun k hk => by have := colsX_ok h k hk; omega
  unfold colsX at h1
  unfold widthX
  omega
theorem colsX_cons {m : Mp} (h : MpOk m) : ∃ r, colsX m = m.cas :: r := by
  unfold colsX fieldsB
  rw [show ([m.cas, m.act, m.res, m.life, m.time].filter fun k => decide (0 ≤ k)) = m.cas :: ([m.act, m.res, m.life, m.time].filter fun k => decide (0 ≤ k)) from List.filter_cons_of_pos (decide_eq_true h.cas.1)]
  exact ⟨_, rfl⟩
theorem widthX_max {m : Mp} (h : MpOk m) : Lib.maxOf (colsX m) + 1 = (widthX m : Int) := by
  have hok := colsX_ok h
  obtain ⟨r, hr⟩ := colsX_cons h
  have h1 : (widthX m : Int) = ((colsX m).foldl (fun a k => max a (k + 1)) 0) := by
    have h2 := (foldW (colsX m) 0).1
    have h3 : widthX m = ((colsX m).foldl (fun a k => max a (k + 1)) 0).toNat := rfl
    rw [h3]
    omega
  rw [h1]
  rw [hr] at hok ⊢
  have h0 := hok m.cas (by simp)
  unfold Lib.maxOf
  rw [List.foldl_cons, List.foldl_cons, List.headD_cons, show max (0 : Int) (m.cas + 1) = m.cas + 1 by omega, foldW_max, show max m.cas m.cas = m.cas by omega]
def startX (m : Mp) (width : Nat) (e : Ev) : List Bt := setZ (setZ (setZ (List.replicate width []) m.cas e.cas.data.toList) m.act e.act.data.toList) m.time (Lib.itoa e.time)
def resX (m : Mp) (e : Ev) (r : List Bt) : List Bt := if 0 ≤ m.res then setZ r m.res e.res.data.toList else r
def lifeX (m : Mp) (e : Ev) (r : List Bt) : List Bt := if 0 ≤ m.life then setZ r m.life (lifeW.getD (e.life - 1).toNat []) else r
theorem rowX_ok {vt : Val → Bt} {names : List Bs} {m : Mp} {width : Nat} {e : Ev} (h1 : ¬ (m.res < 0 ∧ e.res.data.toList ≠ [])) (h2 : ¬ (m.life < 0 ∧ e.life ≠ 5)) :
    rowX vt names m width e = match datR vt names m e.data (lifeX m e (resX m e (startX m width e))) with
      | none => ([], 11)
      | some r => (r, 0) := by
  unfold rowX
  rw [if_neg h1, if_neg h2]
  rfl
theorem drop_cons {α : Type} {l : List α} {j : Nat} {x : α} (h : l[j]? = some x) : l.drop j = x :: l.drop (j + 1) := by
  obtain ⟨hj, he⟩ := List.getElem?_eq_some_iff.1 h
  rw [List.drop_eq_getElem_cons hj, he]
theorem datR_bad {vt : Val → Bt} {names : List Bs} {m : Mp} {fs : List Fld} {j : Nat} {f : Fld} {r : List Bt} (h : fs[j]? = some f) (hb : f.v.kind ≠ m.kinds.getD (names.idxOf (nmOf f)) 0 ∨ cellV vt f.v = []) : datR vt names m (fs.drop j) r = none := by
  rw [drop_cons h]
  unfold datR
  rw [if_pos hb]
theorem datR_good {vt : Val → Bt} {names : List Bs} {m : Mp} {fs : List Fld} {j : Nat} {f : Fld} {r : List Bt} (h : fs[j]? = some f) (hb : ¬ (f.v.kind ≠ m.kinds.getD (names.idxOf (nmOf f)) 0 ∨ cellV vt f.v = [])) : datR vt names m (fs.drop j) r = datR vt names m (fs.drop (j + 1)) (setZ r (m.data.getD (names.idxOf (nmOf f)) 0) (cellV vt f.v)) := by
  rw [drop_cons h]
  conv => lhs; unfold datR
  rw [if_neg hb]
def vtN (v : Val) : Bt := (textNV v).data.toList
theorem vtN_ne {v : Val} (h : validV v = true) (hk : v.kind ≠ 3) : vtN v ≠ [] := by
  have hlen : ∀ n : Int, Lib.itoa n ≠ [] := fun n h => by
    have hd : ∀ u : Nat, Lib.decDigits u ≠ [] := fun u => by rw [Lib.decDigits]; split <;> simp
    unfold Lib.itoa at h
    split at h
    · simp at h
    · exact hd _ h
  unfold vtN textNV
  by_cases k1 : v.kind = 1
  · rw [if_pos k1]
    cases decide (v.n = 1) <;> decide
  · rw [if_neg k1]
    exact hlen _
theorem kind_cases {v : Val} (h : validV v = true) : v.kind = 1 ∨ v.kind = 2 ∨ v.kind = 3 := by
  unfold validV at h
  by_cases k1 : v.kind = 1
  · exact .inl k1
  · by_cases k2 : v.kind = 2
    · exact .inr (.inl k2)
    · by_cases k3 : v.kind = 3
      · exact .inr (.inr k3)
      · rw [if_neg k1, if_neg k2, if_neg k3] at h; cases h
def CLe (r : List Bt) : Prop := ∀ b ∈ r, b.length ≤ 1000000
theorem CLe.setZ {r : List Bt} (h : CLe r) (k : Int) {s : Bt} (hs : s.length ≤ 1000000) : CLe (setZ r k s) := by
  intro b hb
  unfold Go.Proofs.YtoalecalahkblaaGreatDoor.setZ at hb
  rcases List.mem_or_eq_of_mem_set hb with hb | rfl
  · exact h b hb
  · exact hs
theorem cle_none (n : Nat) : CLe (List.replicate n []) := fun b hb => by rw [(List.mem_replicate.1 hb).2]; exact Nat.zero_le _
theorem lifeW_le (i : Nat) : (lifeW.getD i []).length ≤ 1000000 := by
  have hall : ∀ b ∈ lifeW, b.length ≤ 1000000 := by decide
  rw [List.getD_eq_getElem?_getD]
  cases h : lifeW[i]? with
  | none => exact Nat.zero_le _
  | some b => exact hall b (List.mem_of_getElem? h)
theorem digits_le : ∀ (k u : Nat), u < 10 ^ (k + 1) → (Lib.decDigits u).length ≤ k + 1
  | 0, u, h => by rw [Lib.decDigits, dif_pos (by omega)]; simp
  | k + 1, u, h => by
    rw [Lib.decDigits]
    by_cases h10 : u < 10
    · rw [dif_pos h10]; simp
    · rw [dif_neg h10, List.length_append]
      have := digits_le k (u / 10) (by rw [Nat.pow_succ] at h; omega)
      simp only [List.length_singleton]
      omega
theorem itoa_le {n : Int} (h : Fit n) : (Lib.itoa n).length ≤ 1000000 := by
  obtain ⟨h1, h2⟩ := h
  have hd : ∀ u : Nat, u ≤ 9223372036854775808 → (Lib.decDigits u).length ≤ 100 := fun u hu => by
    have := digits_le 18 u (by rw [show 10 ^ (18 + 1) = 10000000000000000000 by decide]; omega)
    omega
  unfold Lib.itoa
  split
  · have := hd n.natAbs (by omega)
    simp only [List.length_cons]
    omega
  · have := hd n.toNat (by omega)
    omega
structure EvLe (e : Ev) : Prop where
  cas : e.cas.size ≤ 1000000
  act : e.act.size ≤ 1000000
  res : e.res.size ≤ 1000000
  time : Fit e.time
  life : 1 ≤ e.life ∧ e.life ≤ 6
  flds : ∀ f ∈ e.data, fldB f = true
theorem name_le {s : ByteArray} (h : isNameB s = true) : s.size ≤ 40 := by
  unfold isNameB at h
  simp only [Bool.and_eq_true, decide_eq_true_eq] at h
  exact h.1.1.2
theorem evLe {e : Ev} (h : evB e = true) : EvLe e := by
  unfold evB at h
  simp only [Bool.and_eq_true, decide_eq_true_eq] at h
  obtain ⟨⟨⟨⟨⟨⟨h1, h2⟩, h3⟩, h4⟩, h5⟩, h6⟩, h7⟩ := h
  refine ⟨by have := name_le h1; omega, by have := name_le h2; omega, ?_, ⟨by omega, by omega⟩, h4, fun f hf => ?_⟩
  · rw [Bool.or_eq_true] at h3
    rcases h3 with h3 | h3
    · unfold noS at h3
      have h0 : e.res.toList = [] := List.isEmpty_iff.1 h3
      rw [Lib.toList_data] at h0
      have h4 : e.res.data.toList.length = 0 := by rw [h0]; rfl
      have h5 : e.res.data.toList.length = e.res.size := Array.length_toList
      omega
    · have := name_le h3; omega
  · obtain ⟨i, hi⟩ := List.mem_iff_getElem?.1 hf
    have hl := (List.getElem?_eq_some_iff.1 hi).1
    unfold fldsB at h7
    have := List.all_eq_true.1 h7 i (List.mem_range.2 hl)
    unfold fldAt at this
    rw [hi] at this
    simp only [Bool.and_eq_true] at this
    exact this.1
theorem logB_ev {l : List Ev} (h : logB l = true) {i : Nat} {e : Ev} (he : l[i]? = some e) : evB e = true := by
  have hl := (List.getElem?_eq_some_iff.1 he).1
  unfold logB at h
  rw [Bool.and_eq_true] at h
  have := List.all_eq_true.1 h.2 i (List.mem_range.2 hl)
  unfold evAt at this
  rw [he] at this
  simp only [Bool.and_eq_true] at this
  exact this.1
theorem cellV_le {v : Val} (h : validV v = true) : (cellV vtN v).length ≤ 1000000 := by
  unfold cellV
  unfold validV at h
  by_cases k1 : v.kind = 1
  · rw [if_neg (by omega)]
    unfold vtN textNV
    rw [if_pos k1]
    cases decide (v.n = 1) <;> decide
  rw [if_neg k1] at h
  by_cases k2 : v.kind = 2
  · rw [if_neg (by omega)]
    rw [if_pos k2, Bool.and_eq_true] at h
    unfold vtN textNV
    rw [if_neg k1]
    refine itoa_le ?_
    have := h.1
    unfold numB at this
    have := of_decide_eq_true this
    exact ⟨by omega, by omega⟩
  rw [if_neg k2] at h
  by_cases k3 : v.kind = 3
  · rw [if_pos k3]
    rw [if_pos k3, Bool.and_eq_true] at h
    have := h.2
    unfold textB at this
    simp only [Bool.and_eq_true, decide_eq_true_eq] at this
    have := this.1
    simp only [Array.length_toList]
    have : v.s.data.size = v.s.size := rfl
    omega
  · rw [if_neg k3] at h; cases h
theorem datR_le {names : List Bs} {m : Mp} : ∀ (fs : List Fld) (r r' : List Bt), (∀ f ∈ fs, fldB f = true) → CLe r → datR vtN names m fs r = some r' → CLe r'
  | [], r, r', _, h, he => by unfold datR at he; injection he with he; rw [← he]; exact h
  | f :: fs, r, r', hf, h, he => by
    unfold datR at he
    simp only at he
    split at he
    · cases he
    · refine datR_le fs _ _ (fun g hg => hf g (by simp [hg])) (h.setZ _ (cellV_le ?_)) he
      have := hf f (by simp)
      unfold fldB at this
      rw [Bool.and_eq_true] at this
      exact this.2
theorem rowX_le {names : List Bs} {m : Mp} {width : Nat} {e : Ev} (h : EvLe e) (h0 : (rowX vtN names m width e).2 = 0) : (rowX vtN names m width e).1.length = width ∧ CLe (rowX vtN names m width e).1 := by
  by_cases h1 : m.res < 0 ∧ e.res.data.toList ≠ []
  · unfold rowX at h0; rw [if_pos h1] at h0; exact absurd h0 (by decide)
  by_cases h2 : m.life < 0 ∧ e.life ≠ 5
  · unfold rowX at h0; rw [if_neg h1, if_pos h2] at h0; exact absurd h0 (by decide)
  rw [rowX_ok h1 h2] at h0 ⊢
  have hlen : (lifeX m e (resX m e (startX m width e))).length = width := by
    unfold lifeX resX startX
    split <;> split <;> simp [setZ_len]
  have hst : CLe (startX m width e) := by
    unfold startX
    refine ((CLe.setZ (cle_none _) _ ?_).setZ _ ?_).setZ _ (itoa_le h.time)
    · rw [Array.length_toList]; exact h.cas
    · rw [Array.length_toList]; exact h.act
  have hre : CLe (resX m e (startX m width e)) := by
    unfold resX
    split
    · refine hst.setZ _ ?_
      rw [Array.length_toList]; exact h.res
    · exact hst
  have hli : CLe (lifeX m e (resX m e (startX m width e))) := by
    unfold lifeX
    split
    · exact hre.setZ _ (lifeW_le _)
    · exact hre
  cases hd : datR vtN names m e.data (lifeX m e (resX m e (startX m width e))) with
  | none => rw [hd] at h0; exact absurd h0 (by decide)
  | some r => exact ⟨(datR_len _ _ _ hd).trans hlen, datR_le _ _ _ h.flds hli hd⟩
theorem rowsX_step {f : Ev → List Bt × Int} {l : List Ev} {i : Nat} {e : Ev} {acc : List (List Bt)} (h : l[i]? = some e) : rowsX f (l.drop i) acc = if (f e).2 ≠ 0 then ([], (f e).2) else rowsX f (l.drop (i + 1)) (acc ++ [(f e).1]) := by
  rw [drop_cons h]
  conv => lhs; unfold rowsX
end Go.Proofs.YtoalecalahkblaaGreatDoor

set_option linter.all false
namespace Go.Proofs.YtoalecalahkblaaGreatDoor
open Go.RowKit
def sameS (s : ByteArray) (y : ByteArray) : Bool := y.toList == s.toList
theorem atS_hit (l : List ByteArray) (s : ByteArray) (j : Nat) (y : ByteArray) (hy : l[j]? = some y) (h : sameS s y = true) (hn : ∀ q z, q < j → l[q]? = some z → sameS s z = false) : atS l s = j := by
  have hj : j < l.length := by
    rcases Nat.lt_or_ge j l.length with h | h
    · exact h
    · rw [List.getElem?_eq_none h] at hy; cases hy
  have : l.findIdx? (fun y => y.toList == s.toList) = some j := by
    rw [List.findIdx?_eq_some_iff_getElem]
    refine ⟨hj, ?_, fun q hq => ?_⟩
    · rw [List.getElem?_eq_getElem hj] at hy; injection hy with hy; rw [hy]; exact h
    · have := hn q _ hq (List.getElem?_eq_getElem (by omega)); simpa [sameS] using this
  unfold atS; rw [this]
theorem atS_miss (l : List ByteArray) (s : ByteArray) (hn : ∀ q z, q < l.length → l[q]? = some z → sameS s z = false) : atS l s = -1 := by
  have : l.findIdx? (fun y => y.toList == s.toList) = none := by
    rw [List.findIdx?_eq_none_iff]
    intro x hx
    obtain ⟨q, hq, rfl⟩ := List.mem_iff_getElem.1 hx
    exact hn q _ hq (List.getElem?_eq_getElem hq)
  unfold atS; rw [this]
theorem atS_any (l : List ByteArray) (s : ByteArray) : decide (0 ≤ atS l s) = l.any (sameS s) := by
  unfold atS
  cases h : l.findIdx? (fun y => y.toList == s.toList) with
  | none =>
    rw [List.findIdx?_eq_none_iff] at h
    rw [Bool.eq_iff_iff]
    simp
    exact fun x hx => by have := h x hx; simpa [sameS] using this
  | some i =>
    rw [List.findIdx?_eq_some_iff_getElem] at h
    obtain ⟨h1, h2, _⟩ := h
    rw [Bool.eq_iff_iff]
    simp
    exact ⟨_, List.getElem_mem h1, h2⟩
set_option maxHeartbeats 400000 in
theorem index_ref (v : Value) (l : List ByteArray) (s : ByteArray) (w : World) (hv : SlS (Lt w.heap.size) w v l) :
    Calls Tryz.prog 78 #[v, .string s] w fun e w' => e = .returned (.int .i64 (atS l s)) ∧ w = w' := by
  obtain ⟨A, c, rfl, h1, h2, hv⟩ := hv.open_
  go_enter Tryz.func78, Tryz.ntmps78
  go_wp2_with fail
  go_loop [5] (fun i => ∃ k : Nat, k ≤ l.length ∧ i = .int .i64 k ∧ ∀ j y, j < k → l[j]? = some y → sameS s y = false) (fun i => l.length - (intOf i).toNat)
  case atStart => exact ⟨0, Nat.zero_le _, rfl, fun j _ h => absurd h (by omega)⟩
  case round =>
    obtain ⟨k, hk, rfl, hp⟩ := hrel
    have HP := Lib.hid hp
    clear hp
    by_cases hlt : k < l.length
    · obtain ⟨b, o, y, rfl, hD, hx, hf, hcell⟩ := hv.at_ hlt
      have HX := Lib.hid hx
      clear hx
      cases hq : (y.toList == s.toList) with
      | true =>
        have HE := Lib.hid (atS_hit l s k y HX.out hq HP.out)
        go_wp2_with fail
        go_ret
        exact ⟨ret_int HE.out.symm, rfl⟩
      | false =>
        have HQ : Hid (sameS s y = false) := hq
        go_wp2_with fail
        go_round
        case rel => exact ⟨k + 1, by omega, by go_num, fun j z hj hz => by
          by_cases e : j = k
          · subst e; rw [HX.out] at hz; injection hz with hz; rw [← hz]; exact HQ.out
          · exact HP.out j z (by omega) hz⟩
        case measure => simp [intOf]; omega
    · have HE := Lib.hid (atS_miss l s (fun q z hq hz => HP.out q z (by omega) hz))
      go_wp2_with fail
      go_ret
      exact ⟨ret_int HE.out.symm, rfl⟩
theorem atS_mem (ls : List Bt) (l : Bt) : decide (0 ≤ atS (ls.map bsOf) (bsOf l)) = decide (l ∈ ls) := by
  rw [atS_any, Bool.eq_iff_iff, decide_eq_true_eq, List.any_eq_true]
  have key : ∀ y : Bt, sameS (bsOf l) (bsOf y) = true ↔ y = l := fun y => by
    unfold sameS
    rw [beq_iff_eq, Lib.toList_data, Lib.toList_data, bs_list, bs_list]
  constructor
  · rintro ⟨x, hx, h⟩
    obtain ⟨y, hy, rfl⟩ := List.mem_map.1 hx
    rw [(key y).1 h] at hy; exact hy
  · intro h
    exact ⟨bsOf l, List.mem_map.2 ⟨l, h, rfl⟩, (key l).2 rfl⟩
end Go.Proofs.YtoalecalahkblaaGreatDoor

set_option linter.all false
namespace Go.Proofs.YtoalecalahkblaaGreatDoor
open Go.RowKit
theorem names_at {names : List Bs} {j : Nat} (hj : j < names.length) : (names.map bsOf).getD j ByteArray.empty = bsOf names[j] := by
  rw [List.getD_eq_getElem?_getD, List.getElem?_map, List.getElem?_eq_getElem hj]; rfl
theorem idx_ne {names : List Bs} {x : Bs} {j : Nat} (hj : j < names.idxOf x) : ∃ h : j < names.length, names[j] ≠ x := by
  have hl : j < names.length := Nat.lt_of_lt_of_le hj List.idxOf_le_length
  refine ⟨hl, fun e => ?_⟩
  have := List.not_of_lt_findIdx hj
  simp only [beq_eq_false_iff_ne, ne_eq] at this
  exact this e
theorem index_any (u : Value) (names : List Bs) (x : Bs) (w : World) (h : SlP (Lt w.heap.size) w u names) (hx : x ∈ names) :
    Calls Tryz.prog 97 #[u, .string (bsOf x)] w fun e w' => e = .returned (.int .i64 (names.idxOf x : Int)) ∧ w = w' := by
  have hk : names.idxOf x < names.length := List.idxOf_lt_length_of_mem hx
  obtain ⟨A, c, rfl, h1, h2, hu⟩ := SlS.open_ h
  have hlm : (names.map bsOf).length = names.length := List.length_map _
  obtain ⟨b, o, rfl, hD, _, hc⟩ := hu.cells (by omega)
  refine (Tryz.slices_Index_string b o (names.map bsOf).length c (names.map bsOf) (bsOf x) w (Nat.le_refl _) (by omega) hc).mono ?_
  rintro e w' ⟨rfl, hq⟩
  rw [Lib.idxOfS_hit (names.map bsOf) (names.map bsOf).length (names.idxOf x) (bsOf x) (by omega) (Nat.le_refl _) (by rw [names_at hk, List.getElem_idxOf]) (fun j hj => by
    obtain ⟨hl, hne⟩ := idx_ne hj
    rw [names_at hl]
    exact fun e => hne (bsOf_inj e))]
  exact ⟨rfl, hq.symm⟩
theorem atS_idx {names : List Bs} {x : Bs} (hx : x ∈ names) : atS (names.map bsOf) (bsOf x) = (names.idxOf x : Int) := by
  have hk : names.idxOf x < names.length := List.idxOf_lt_length_of_mem hx
  refine atS_hit _ _ _ (bsOf x) (by rw [List.getElem?_map, List.getElem?_eq_getElem hk, List.getElem_idxOf]; rfl) (by unfold sameS; simp) (fun j z hj hz => ?_)
  obtain ⟨hl, hne⟩ := idx_ne hj
  rw [List.getElem?_map, List.getElem?_eq_getElem hl] at hz
  injection hz with hz
  subst hz
  unfold sameS
  rw [Lib.toList_data, Lib.toList_data]
  simp only [beq_eq_false_iff_ne, ne_eq]
  exact hne
end Go.Proofs.YtoalecalahkblaaGreatDoor

namespace Go.Proofs.YtoalecalahkblaaGreatDoor
open Go.RowKit
def dstOf (l : List Oper) (j : Nat) : Nat := ((l[j]?).bind (·.dst)).getD 0
def apartB (l : List Oper) (n : Nat) : Bool := (List.range n).all fun i => match (l[i]?).bind (·.dst) with
  | none => false
  | some a => (List.range l.length).all fun j => i == j || match (l[j]?).bind (·.dst) with
    | none => true
    | some b => a != b
def lastB (l : List Oper) (n : Nat) : Bool := (List.range n).all fun i => Region.waitsFor .any l.toArray n i
def StepsM (P : Program) (l : List Oper) (Q : Exit → Act → World → Prop) (a0 : Act) (w0 : World) (F : Nat → Value → World → Prop) : Nat → List Oper → Prop
  | _, [] => True
  | i, o :: rest => (∀ (a : Act) W, Kin l a0 a → Below w0.heap.size w0 W → (∀ j, Region.waitsFor .any l.toArray i j = true → F j (Act.slot a (dstOf l j)) W) →
      o.wp P a W (fun a' W' => ∃ v, a' = a.put o.dst v ∧ Below W.heap.size W W' ∧ F i v W') Q) ∧ StepsM P l Q a0 w0 F (i + 1) rest
theorem StepsM.at_ {P : Program} {l : List Oper} {Q : Exit → Act → World → Prop} {a0 : Act} {w0 : World} {F : Nat → Value → World → Prop} : ∀ (m : List Oper) (k i : Nat) (o : Oper), StepsM P l Q a0 w0 F k m → m[i]? = some o →
    ∀ (a : Act) W, Kin l a0 a → Below w0.heap.size w0 W → (∀ j, Region.waitsFor .any l.toArray (k + i) j = true → F j (Act.slot a (dstOf l j)) W) →
      o.wp P a W (fun a' W' => ∃ v, a' = a.put o.dst v ∧ Below W.heap.size W W' ∧ F (k + i) v W') Q := by
  intro m
  induction m with
  | nil => intro k i o _ h; simp at h
  | cons x m ih =>
    intro k i o hs h
    cases i with
    | zero => injection h with h; subst h; exact hs.1
    | succ i =>
      have := ih (k + 1) i o hs.2 (by simpa using h)
      rwa [show k + 1 + i = k + (i + 1) from by omega] at this
theorem steps_all {P : Program} {l : List Oper} {Q : Exit → Act → World → Prop} {a0 : Act} {K : Array Bool → (Nat → Value) → World → Prop} (h : ∀ (i : Nat) (o : Oper), l[i]? = some o →
    ∀ listed (a : Act) w, Shut l listed → i ∈ Region.ready .any l.toArray listed → Kin l a0 a → K listed (Act.slot a) w →
      o.wp P a w (fun a' w' => ∃ v, a' = a.put o.dst v ∧ K (listed.setIfInBounds i true) (upd (Act.slot a) o.dst v) w') Q) : Steps P l Q a0 K 0 l := by
  have gen : ∀ (m : List Oper) (k : Nat), (∀ i o, m[i]? = some o → l[k + i]? = some o) → Steps P l Q a0 K k m := by
    intro m
    induction m with
    | nil => intro k _; trivial
    | cons x m ih =>
      intro k hk
      refine ⟨fun listed a w => h k x (by simpa using hk 0 x rfl) listed a w, ih (k + 1) fun i o ho => ?_⟩
      have := hk (i + 1) o (by simpa using ho)
      rwa [show k + (i + 1) = k + 1 + i by omega] at this
  exact gen l 0 (fun i o ho => by rw [Nat.zero_add]; exact ho)
end Go.Proofs.YtoalecalahkblaaGreatDoor

namespace Go.Proofs.YtoalecalahkblaaGreatDoor
open Go.RowKit
section
variable {P : Program} {o : Oper} {a : Act} {w : World} {K : Act → World → Prop} {Q : Exit → Act → World → Prop}
theorem wpM_load (t : TypeId) (x : Operand) (p V : Value) (ho : o.op = .load t x) (hv : a.eval x = p) (hr : (Instr.loadAt t p).run P w = .ok V w) (h : K (a.put o.dst V) w) : o.wp P a w K Q := by
  unfold Oper.wp execOp
  simp only [ho, hv, Sem.run_bind, hr, Result.andThen_ok]
  exact h
theorem wpM_slice (t : TypeId) (n : Nat) (parts : Array (Nat × Operand)) (V : Value) (w' : World) (vals : Array (Nat × Value)) (ho : o.op = .buildSlice t n parts) (hv : (parts.map fun (i, x) => (i, a.eval x)) = vals) (hr : (Instr.buildSlice t n vals).run P w = .ok V w') (h : K (a.put o.dst V) w') : o.wp P a w K Q := by
  unfold Oper.wp execOp
  simp only [ho, hv, Sem.run_bind, hr, Result.andThen_ok]
  exact h
theorem wpM_alloc (t : TypeId) (V : Value) (w' : World) (ho : o.op = .alloc t) (hr : (Instr.alloc t true (.tuple #[])).run P w = .ok V w') (h : K (a.put o.dst V) w') : o.wp P a w K Q := by
  unfold Oper.wp execOp
  simp only [ho, Sem.run_bind, hr, Result.andThen_ok]
  exact h
theorem wpM_store (t : TypeId) (x y : Operand) (p V : Value) (w' : World) (u : Unit) (ho : o.op = .store t x y) (hv : a.eval x = p) (hv2 : a.eval y = V) (hr : (Instr.storeAt t p V).run P w = .ok u w') (h : K (a.put o.dst undef) w') : o.wp P a w K Q := by
  unfold Oper.wp execOp
  simp only [ho, hv, hv2, Sem.run_bind, hr, Result.andThen_ok]
  exact h
theorem wpM_run (V : Value) (w' : World) (hr : (execOp a.eval o).run P w = .ok (.value V) w') (h : K (a.put o.dst V) w') : o.wp P a w K Q := by
  unfold Oper.wp
  rw [hr]
  exact h
end
def noDstB (l : List Oper) (s : Nat) : Bool := l.all fun o => o.dst != some s
theorem Kin.same {l : List Oper} {a0 a : Act} (h : Kin l a0 a) {s : Nat} (hs : noDstB l s = true) : Act.slot a s = Act.slot a0 s :=
  h.slots s fun o ho e => by
    have := List.all_eq_true.1 hs o ho
    rw [e] at this
    simp at this
theorem hall_of {l : List Oper} (hE : earlyB l = true) : ∀ listed, Shut l listed → Region.ready .any l.toArray listed = [] → ∀ i, i < l.length → Up listed i := by
  intro listed hs hr i hi
  have hsz := hs.size
  cases h : listed.getD i true with
  | true =>
    unfold Up
    rw [Array.getD_eq_getD_getElem?, Array.getElem?_eq_getElem (by omega)] at h ⊢
    exact h
  | false =>
    obtain ⟨j, _, hj⟩ := first_ready hE hsz i (by omega) h
    rw [hr] at hj; cases hj
def putsAll (σ : Nat → Value) : List Oper → Act → Act
  | [], a => a
  | o :: l, a => putsAll σ l (a.put o.dst (σ (o.dst.getD 0)))
theorem puts_size (σ : Nat → Value) : ∀ (l : List Oper) (a : Act), (putsAll σ l a).tmps.size = a.tmps.size
  | [], a => rfl
  | o :: l, a => by rw [putsAll, puts_size σ l, size_put]
theorem puts_defers (σ : Nat → Value) : ∀ (l : List Oper) (a : Act), (putsAll σ l a).defers = a.defers
  | [], a => rfl
  | o :: l, a => by rw [putsAll, puts_defers σ l, defers_put]
theorem puts_slot (σ : Nat → Value) : ∀ (l : List Oper) (a : Act), (∀ o ∈ l, ∀ k, o.dst = some k → k < a.tmps.size) → ∀ s, Act.slot (putsAll σ l a) s = if (l.any fun o => o.dst == some s) = true then σ s else Act.slot a s
  | [], a, _, s => by simp [putsAll]
  | o :: l, a, h, s => by
    rw [putsAll, puts_slot σ l _ (fun o' ho' k hk => by rw [size_put]; exact h o' (by simp [ho']) k hk) s, slot_put (h o (by simp)), List.any_cons]
    cases hd : o.dst with
    | none => simp [upd]
    | some d =>
      by_cases hs : s = d
      · subst hs; simp [upd]
      · have hds : (some d == some s) = false := by simpa using fun e => hs e.symm
        simp [upd, hs, hds]
theorem act_ext {a b : Act} (h1 : a.tmps.size = b.tmps.size) (h2 : a.defers = b.defers) (h3 : ∀ s, Act.slot a s = Act.slot b s) : a = b := by
  obtain ⟨t, d⟩ := a
  obtain ⟨t', d'⟩ := b
  dsimp only at h1 h2
  subst h2
  congr 1
  refine Array.ext h1 fun i hi hi' => ?_
  have := h3 i
  simpa [Act.slot, hi, hi'] using this
theorem Kin.form {l : List Oper} {a0 a : Act} (h : Kin l a0 a) (hB : dstsB l a0.tmps.size = true) : a = putsAll (Act.slot a) l a0 := by
  have hd : ∀ o ∈ l, ∀ k, o.dst = some k → k < a0.tmps.size := fun o ho k hk => by
    unfold dstsB at hB
    rw [List.all_eq_true] at hB
    have := hB o ho
    rw [Bool.and_eq_true, hk] at this
    simpa using this.2
  refine act_ext ?_ ?_ fun s => ?_
  · rw [puts_size]; exact h.size
  · rw [puts_defers]; exact h.defers
  · rw [puts_slot _ _ _ hd]
    split
    · rfl
    · rename_i hn
      refine h.slots s fun o ho e => hn ?_
      rw [List.any_eq_true]
      exact ⟨o, ho, by rw [e]; simp⟩
theorem wpM_assign {P : Program} {o : Oper} {a : Act} {w : World} {K : Act → World → Prop} {Q : Exit → Act → World → Prop} (x : Operand) (V : Value) (ho : o.op = .assign x) (hv : a.eval x = V) (h : K (a.put o.dst V) w) : o.wp P a w K Q := by
  unfold Oper.wp execOp
  simp only [ho, hv]
  exact h
def blkOf : Value → Nat
  | .pointer (some a) => a.block
  | .slice (some a) _ _ => a.block
  | _ => 0
def vOf (l : List Oper) (σ : Nat → Value) (j : Nat) : Value := match (l[j]?).bind (·.dst) with
  | some d => σ d
  | none => undef
def dsts2B (l : List Oper) : Bool := (List.range l.length).all fun i => (List.range l.length).all fun j => i == j || match (l[i]?).bind (·.dst), (l[j]?).bind (·.dst) with
  | some a, some b => a != b
  | _, _ => true
theorem vOf_put {l : List Oper} (hD : dsts2B l = true) {i : Nat} {o : Oper} (ho : l[i]? = some o) (σ : Nat → Value) (v : Value) : (o.dst ≠ none → vOf l (upd σ o.dst v) i = v) ∧ ∀ j, j < l.length → j ≠ i → vOf l (upd σ o.dst v) j = vOf l σ j := by
  have hil : i < l.length := by
    rcases Nat.lt_or_ge i l.length with h | h
    · exact h
    · rw [List.getElem?_eq_none h] at ho; cases ho
  constructor
  · intro hd
    unfold vOf
    rw [ho]
    cases e : o.dst with
    | none => exact absurd e hd
    | some d => simp [e, upd]
  · intro j hj hji
    unfold vOf
    unfold dsts2B at hD
    rw [List.all_eq_true] at hD
    have h1 := hD i (List.mem_range.2 hil)
    rw [List.all_eq_true] at h1
    have h2 := h1 j (List.mem_range.2 hj)
    rw [ho] at h2
    cases e : o.dst with
    | none => rfl
    | some d =>
      cases e2 : (l[j]?).bind (·.dst) with
      | none => rfl
      | some d' =>
        simp only [Option.bind_some, e, e2, Bool.or_eq_true, beq_iff_eq, bne_iff_ne] at h2
        have hne : d ≠ d' := by
          rcases h2 with h2 | h2
          · exact absurd h2.symm hji
          · exact h2
        simp only [upd]
        rw [if_neg (fun h => hne h.symm)]
structure MkSt (n : Nat) (mk : Nat → Bool) (w0 : World) (F : Nat → (Nat → Value) → World → Prop) (listed : Array Bool) (τ : Nat → Value) (W : World) : Prop where
  below : Below w0.heap.size w0 W
  lo : ∀ i, i < n → mk i = true → Up listed i → w0.heap.size ≤ blkOf (τ i) ∧ blkOf (τ i) < W.heap.size
  apart : ∀ i j, i < n → j < n → mk i = true → mk j = true → Up listed i → Up listed j → i ≠ j → blkOf (τ i) ≠ blkOf (τ j)
  facts : ∀ j, j < n → Up listed j → F j τ W
theorem wp_region_mk {P : Program} {l : List Oper} {id : Nat} {Q : Exit → Act → World → Prop} {a0 : Act} {w : World} (hm : P.follows .mixedOrders = true)
    (hB : dstsB l a0.tmps.size = true) (hD : dsts2B l = true) (mk : Nat → Bool) (F : Nat → (Nat → Value) → World → Prop)
    (hstep : ∀ (i : Nat) (o : Oper), l[i]? = some o → ∀ listed (a : Act) W, Shut l listed → i ∈ Region.ready .any l.toArray listed → Kin l a0 a → MkSt l.length mk w.drew F listed (vOf l (Act.slot a)) W →
      o.wp P a W (fun a' W' => ∃ v, a' = a.put o.dst v ∧ Below w.drew.heap.size W W' ∧ (mk i = true → W.heap.size ≤ blkOf v ∧ blkOf v < W'.heap.size) ∧
        ∀ τ', (o.dst ≠ none → τ' i = v) → (∀ j, j < l.length → j ≠ i → τ' j = vOf l (Act.slot a) j) → F i τ' W' ∧ ∀ j, j < l.length → j ≠ i → Up listed j → F j τ' W') Q)
    (hmk : ∀ (i : Nat) (o : Oper), l[i]? = some o → mk i = true → o.dst ≠ none)
    (hend : ∀ listed (a : Act) W, (∀ i, i < l.length → Up listed i) → Kin l a0 a → MkSt l.length mk w.drew F listed (vOf l (Act.slot a)) W → Q .normal a W)
    (hall : ∀ listed, Shut l listed → Region.ready .any l.toArray listed = [] → ∀ i, i < l.length → Up listed i) : (Code.region id l.toArray true).wp P Q a0 w := by
  refine wp_region_slots hm hB (fun listed σ W => MkSt l.length mk w.drew F listed (vOf l σ) W) ⟨Below.refl _ _, fun i _ _ hu => ?_, fun i j _ _ _ _ hu => ?_, fun j _ hu => ?_⟩ (steps_all fun i o ho listed a W hsh hi hk hK => ?_) hend hall
  · unfold Up at hu; rw [getD_replicate_false] at hu; cases hu
  · unfold Up at hu; rw [getD_replicate_false] at hu; cases hu
  · unfold Up at hu; rw [getD_replicate_false] at hu; cases hu
  · refine Oper.wp_mono ?_ (hstep i o ho listed a W hsh hi hk hK)
    rintro a' W' ⟨v, rfl, hb, hnew, hf⟩
    refine ⟨v, rfl, ?_⟩
    obtain ⟨p1, p2⟩ := vOf_put hD ho (Act.slot a) v
    generalize vOf l (upd (Act.slot a) o.dst v) = τ' at *
    obtain ⟨f1, f2⟩ := hf τ' p1 p2
    refine ⟨hK.below.trans hb, fun j hj hm' hu => ?_, fun j k hj hk' hmj hmk' huj huk hjk => ?_, fun j hj hu => ?_⟩
    · by_cases e : j = i
      · subst e
        rw [p1 (hmk j o ho hm')]
        have := hnew hm'
        have := hK.below.size
        omega
      · rw [p2 j hj e]
        have := hK.lo j hj hm' (up_set hu (fun h => e h.symm))
        have := hb.size
        omega
    · by_cases e1 : j = i
      · subst e1
        have e2 : k ≠ j := fun h => hjk h.symm
        rw [p1 (hmk j o ho hmj), p2 k hk' e2]
        have h1 := hnew hmj
        have h2 := hK.lo k hk' hmk' (up_set huk (fun h => e2 h.symm))
        omega
      · by_cases e2 : k = i
        · subst e2
          rw [p1 (hmk k o ho hmk'), p2 j hj e1]
          have h1 := hnew hmk'
          have h2 := hK.lo j hj hmj (up_set huj (fun h => e1 h.symm))
          omega
        · rw [p2 j hj e1, p2 k hk' e2]
          exact hK.apart j k hj hk' hmj hmk' (up_set huj (fun h => e1 h.symm)) (up_set huk (fun h => e2 h.symm)) hjk
    · by_cases e : j = i
      · subst e; exact f1
      · exact f2 j hj e (up_set hu (fun h => e h.symm))
end Go.Proofs.YtoalecalahkblaaGreatDoor

namespace Go.Proofs.YtoalecalahkblaaGreatDoor
open Go.RowKit
theorem wp_region_rel {P : Program} {l : List Oper} {id : Nat} {Q : Exit → Act → World → Prop} {a0 : Act} {w : World} (hm : P.follows .mixedOrders = true)
    (hB : dstsB l a0.tmps.size = true) (hD : dsts2B l = true) (R : World → Prop) (F : Nat → Value → World → Prop) (h0 : R w.drew)
    (hstep : ∀ (i : Nat) (o : Oper), l[i]? = some o → ∀ listed (a : Act) W, Shut l listed → i ∈ Region.ready .any l.toArray listed → Kin l a0 a → R W →
      (∀ j, j < l.length → Up listed j → F j (vOf l (Act.slot a) j) W) →
      o.wp P a W (fun a' W' => ∃ v, a' = a.put o.dst v ∧ R W' ∧ (∀ u, (o.dst ≠ none → u = v) → F i u W') ∧ ∀ j, j < l.length → j ≠ i → Up listed j → ∀ u, F j u W → F j u W') Q)
    (hend : ∀ (a : Act) W, Kin l a0 a → R W → (∀ j, j < l.length → F j (vOf l (Act.slot a) j) W) → Q .normal a W)
    (hall : ∀ listed, Shut l listed → Region.ready .any l.toArray listed = [] → ∀ i, i < l.length → Up listed i) : (Code.region id l.toArray true).wp P Q a0 w := by
  refine wp_region_slots hm hB (fun listed σ W => R W ∧ ∀ j, j < l.length → Up listed j → F j (vOf l σ j) W) ⟨h0, fun j _ hu => ?_⟩ (steps_all fun i o ho listed a W hsh hi hk hK => ?_) (fun listed a W hu hk hK => hend a W hk hK.1 fun j hj => hK.2 j hj (hu j hj)) hall
  · unfold Up at hu; rw [getD_replicate_false] at hu; cases hu
  · refine Oper.wp_mono ?_ (hstep i o ho listed a W hsh hi hk hK.1 hK.2)
    rintro a' W' ⟨v, rfl, hR, hf, hkeep⟩
    refine ⟨v, rfl, hR, fun j hj hu => ?_⟩
    obtain ⟨p1, p2⟩ := vOf_put hD ho (Act.slot a) v
    by_cases e : j = i
    · subst e; exact hf _ p1
    · rw [p2 j hj e]
      have hu' := up_set hu (fun h => e h.symm)
      exact hkeep j hj e hu' _ (hK.2 j hj hu')
theorem wp_region_rel2 {P : Program} {l : List Oper} {id : Nat} {Q : Exit → Act → World → Prop} {a0 : Act} {w : World} (hm : P.follows .mixedOrders = true)
    (hB : dstsB l a0.tmps.size = true) (hD : dsts2B l = true) (R : World → Prop) (F : Nat → Value → World → Prop) (dead : Nat → Nat → Bool) (h0 : R w.drew)
    (hstep : ∀ (i : Nat) (o : Oper), l[i]? = some o → ∀ listed (a : Act) W, Shut l listed → i ∈ Region.ready .any l.toArray listed → Kin l a0 a → R W →
      (∀ j, j < l.length → Up listed j → (∀ k, dead j k = true → ¬ Up listed k) → F j (vOf l (Act.slot a) j) W) →
      o.wp P a W (fun a' W' => ∃ v, a' = a.put o.dst v ∧ R W' ∧ (∀ u, (o.dst ≠ none → u = v) → F i u W') ∧ ∀ j, j < l.length → j ≠ i → Up listed j → dead j i = false → ∀ u, F j u W → F j u W') Q)
    (hend : ∀ (a : Act) W, Kin l a0 a → R W → (∀ j, j < l.length → (∀ k, dead j k = false) → F j (vOf l (Act.slot a) j) W) → Q .normal a W)
    (hall : ∀ listed, Shut l listed → Region.ready .any l.toArray listed = [] → ∀ i, i < l.length → Up listed i) : (Code.region id l.toArray true).wp P Q a0 w := by
  refine wp_region_slots hm hB (fun listed σ W => R W ∧ ∀ j, j < l.length → Up listed j → (∀ k, dead j k = true → ¬ Up listed k) → F j (vOf l σ j) W) ⟨h0, fun j _ hu => ?_⟩ (steps_all fun i o ho listed a W hsh hi hk hK => ?_) (fun listed a W hu hk hK => hend a W hk hK.1 fun j hj hd => hK.2 j hj (hu j hj) fun k hk' => by rw [hd k] at hk'; cases hk') hall
  · unfold Up at hu; rw [getD_replicate_false] at hu; cases hu
  · have hil : i < l.length := (List.getElem?_eq_some_iff.1 ho).1
    refine Oper.wp_mono ?_ (hstep i o ho listed a W hsh hi hk hK.1 hK.2)
    rintro a' W' ⟨v, rfl, hR, hf, hkeep⟩
    refine ⟨v, rfl, hR, fun j hj hu hd => ?_⟩
    obtain ⟨p1, p2⟩ := vOf_put hD ho (Act.slot a) v
    by_cases e : j = i
    · subst e; exact hf _ p1
    · rw [p2 j hj e]
      have hu' := up_set hu (fun h => e h.symm)
      have hdi : dead j i = false := by
        cases hq : dead j i with
        | false => rfl
        | true =>
          refine absurd ?_ (hd i hq)
          unfold Up
          have hsz := hsh.size
          rw [Array.getD_eq_getD_getElem?, Array.getElem?_setIfInBounds]
          simp [hsz, hil]
      refine hkeep j hj e hu' hdi _ (hK.2 j hj hu' fun k hk' hu2 => hd k hk' ?_)
      unfold Up at hu2 ⊢
      rw [Array.getD_eq_getD_getElem?, Array.getElem?_setIfInBounds]
      rw [Array.getD_eq_getD_getElem?] at hu2
      by_cases ek : i = k
      · subst ek; simp [hsh.size, hil]
      · rw [if_neg ek]; exact hu2
theorem wp_region_rel3 {P : Program} {l : List Oper} {id : Nat} {Q : Exit → Act → World → Prop} {a0 : Act} {w : World} (hm : P.follows .mixedOrders = true)
    (hB : dstsB l a0.tmps.size = true) (hD : dsts2B l = true) (R : (Nat → Prop) → World → Prop) (F : Nat → Value → World → Prop) (dead : Nat → Nat → Bool) (h0 : R (fun _ => False) w.drew)
    (hstep : ∀ (i : Nat) (o : Oper), l[i]? = some o → ∀ listed (a : Act) W, Shut l listed → i ∈ Region.ready .any l.toArray listed → Kin l a0 a → R (Up listed) W →
      (∀ j, j < l.length → Up listed j → (∀ k, dead j k = true → ¬ Up listed k) → F j (vOf l (Act.slot a) j) W) →
      o.wp P a W (fun a' W' => ∃ v, a' = a.put o.dst v ∧ R (fun j => j = i ∨ Up listed j) W' ∧ (∀ u, (o.dst ≠ none → u = v) → F i u W') ∧ ∀ j, j < l.length → j ≠ i → Up listed j → dead j i = false → ∀ u, F j u W → F j u W') Q)
    (hend : ∀ (a : Act) W U, Kin l a0 a → R U W → (∀ j, j < l.length → (∀ k, dead j k = false) → F j (vOf l (Act.slot a) j) W) → Q .normal a W)
    (hall : ∀ listed, Shut l listed → Region.ready .any l.toArray listed = [] → ∀ i, i < l.length → Up listed i) : (Code.region id l.toArray true).wp P Q a0 w := by
  refine wp_region_slots hm hB (fun listed σ W => R (Up listed) W ∧ ∀ j, j < l.length → Up listed j → (∀ k, dead j k = true → ¬ Up listed k) → F j (vOf l σ j) W) ⟨?_, fun j _ hu => ?_⟩ (steps_all fun i o ho listed a W hsh hi hk hK => ?_) (fun listed a W hu hk hK => hend a W _ hk hK.1 fun j hj hd => hK.2 j hj (hu j hj) fun k hk' => by rw [hd k] at hk'; cases hk') hall
  · have e : Up (Array.replicate l.length false) = fun _ => False := funext fun j => propext ⟨fun h => (by unfold Up at h; rw [getD_replicate_false] at h; cases h), False.elim⟩
    rw [e]; exact h0
  · unfold Up at hu; rw [getD_replicate_false] at hu; cases hu
  · have hil : i < l.length := (List.getElem?_eq_some_iff.1 ho).1
    refine Oper.wp_mono ?_ (hstep i o ho listed a W hsh hi hk hK.1 hK.2)
    rintro a' W' ⟨v, rfl, hR, hf, hkeep⟩
    have eU : Up (listed.setIfInBounds i true) = fun j => j = i ∨ Up listed j := funext fun j => propext (by
      unfold Up
      rw [Array.getD_eq_getD_getElem?, Array.getD_eq_getD_getElem?, Array.getElem?_setIfInBounds]
      by_cases ek : i = j
      · subst ek; simp [hsh.size, hil]
      · rw [if_neg ek]; exact ⟨.inr, fun h => h.elim (fun h => absurd h.symm ek) (fun h => h)⟩)
    refine ⟨v, rfl, by rw [eU]; exact hR, fun j hj hu hd => ?_⟩
    obtain ⟨p1, p2⟩ := vOf_put hD ho (Act.slot a) v
    by_cases e : j = i
    · subst e; exact hf _ p1
    · rw [p2 j hj e]
      have hu' := up_set hu (fun h => e h.symm)
      have hdi : dead j i = false := by
        cases hq : dead j i with
        | false => rfl
        | true =>
          refine absurd ?_ (hd i hq)
          unfold Up
          have hsz := hsh.size
          rw [Array.getD_eq_getD_getElem?, Array.getElem?_setIfInBounds]
          simp [hsz, hil]
      refine hkeep j hj e hu' hdi _ (hK.2 j hj hu' fun k hk' hu2 => hd k hk' ?_)
      unfold Up at hu2 ⊢
      rw [Array.getD_eq_getD_getElem?, Array.getElem?_setIfInBounds]
      rw [Array.getD_eq_getD_getElem?] at hu2
      by_cases ek : i = k
      · subst ek; simp [hsh.size, hil]
      · rw [if_neg ek]; exact hu2
structure RelR {α : Type} (f : α → Value) (w0 : World) (base t g cap : Nat) (r0 : List α) (I : Nat → Prop) (W : World) : Prop where
  below : Below base w0 W
  row : ∃ r, OwnF f W base t g cap r ∧ r.length = r0.length ∧ ∀ k, ¬ I k → r[k]? = r0[k]?
section
variable {α : Type} {f : α → Value} {w0 W W' : World} {base t g cap : Nat} {r0 : List α} {I : Nat → Prop}
theorem RelR.start (h : OwnF f w0 base t g cap r0) : RelR f w0 base t g cap r0 I w0.drew := ⟨(Below.refl _ _).drew, r0, h.drew, rfl, fun _ _ => rfl⟩
theorem RelR.now (h : RelR f w0 base t g cap r0 I W) (hb : Below W.heap.size W W') (h0 : base ≤ w0.heap.size) : RelR f w0 base t g cap r0 I W' := by
  obtain ⟨r, h1, h2, h3⟩ := h.row
  exact ⟨h.below.trans (hb.mono (Nat.le_trans h0 h.below.size)), r, h1.now hb, h2, h3⟩
theorem RelR.set_ (h : RelR f w0 base t g cap r0 I W) {k : Nat} (hk : I k) (x : α) : RelR f w0 base t g cap r0 I (W.setCell ⟨g, k, none⟩ (f x)) := by
  obtain ⟨r, h1, h2, h3⟩ := h.row
  refine ⟨h.below.setCell (p := ⟨g, k, none⟩) h1.from_ _, r.set k x, h1.set_ k x, by simpa using h2, fun j hj => ?_⟩
  rw [List.getElem?_set_ne (fun (e : k = j) => hj (by rw [← e]; exact hk))]
  exact h3 j hj
theorem RelR.cell (h : RelR f w0 base t g cap r0 I W) {k : Nat} (hk : k < r0.length) : ∃ u, W.cell? ⟨g, k, none⟩ = some u := by
  obtain ⟨r, h1, h2, h3⟩ := h.row
  exact ⟨_, h1.cell (List.getElem?_eq_getElem (by omega))⟩
theorem RelR.frozen (h : RelR f w0 base t g cap r0 I W) (k : Nat) : W.frozen? ⟨g, k, none⟩ = false := by
  obtain ⟨r, h1, _, _⟩ := h.row
  exact h1.frozen k
theorem RelR.end_ (hf : ∀ x y, f x = f y → x = y) (h : RelR f w0 base t g cap r0 I W) {r1 : List α} (hl : r1.length = r0.length) (hn : ∀ k, ¬ I k → r1[k]? = r0[k]?) (hc : ∀ k x, I k → r1[k]? = some x → W.cell? ⟨g, k, none⟩ = some (f x)) : OwnF f W base t g cap r1 := by
  obtain ⟨r, h1, h2, h3⟩ := h.row
  have e : r = r1 := by
    refine List.ext_getElem? fun k => ?_
    by_cases hk : I k
    · rcases Nat.lt_or_ge k r0.length with hl' | hl'
      · have e1 := List.getElem?_eq_getElem (l := r1) (i := k) (by omega)
        have e2 := List.getElem?_eq_getElem (l := r) (i := k) (by omega)
        have c1 := hc k _ hk e1
        rw [h1.cell e2] at c1
        injection c1 with c1
        rw [e1, e2, hf _ _ c1]
      · rw [List.getElem?_eq_none (by omega), List.getElem?_eq_none (by omega)]
    · rw [h3 k hk, hn k hk]
  rw [← e]
  exact h1
theorem cell_far (W : World) {g k k' : Nat} (h : k ≠ k') (u : Value) : (W.setCell ⟨g, k, none⟩ u).cell? ⟨g, k', none⟩ = W.cell? ⟨g, k', none⟩ := by
  simp [go_sem, h]
end
theorem cell_put (W : World) {g k : Nat} {y : Value} (h : W.cell? ⟨g, k, none⟩ = some y) (u : Value) : (W.setCell ⟨g, k, none⟩ u).cell? ⟨g, k, none⟩ = some u := by
  simp [go_sem, h]
theorem wpM_callF {P : Program} {f : FuncId} {o : Oper} {a : Act} {w : World} {K : Act → World → Prop} {Q : Exit → Act → World → Prop} (he : ∀ args w, (callFunc f args).run P w = .ok (.enter f args) w) (x : Operand) (args : Array Operand) (vals : Array Value) (ts : Array TypeId) (ho : o.op = .call { callee := .value x, args := args, argTypes := ts }) (hx : a.eval x = .func (.func f) #[] #[]) (hv : args.map a.eval = vals)
    (h : Calls P f vals w fun e w' => ∃ v, e = .returned v ∧ K (a.put o.dst v) w') : o.wp P a w K Q := by
  unfold Oper.wp execOp
  simp only [ho]
  generalize a.eval = ρ at hx hv ⊢
  simp [hx, hv, go_sem]
  rw [he]
  refine Calls.mono h ?_
  rintro e w' ⟨v, rfl, hK⟩
  exact hK
theorem wpM_moveG {P : Program} {o : Oper} {a : Act} {w : World} {K : Act → World → Prop} {Q : Exit → Act → World → Prop} (x : Operand) (ho : o.op = .move x) (h : K (a.put o.dst (a.eval x)) w) : o.wp P a w K Q := by
  unfold Oper.wp execOp
  simp only [ho]
  exact h
theorem str_inj : ∀ x y : Bt, Value.string (bsOf x) = Value.string (bsOf y) → x = y := by
  intro x y h
  injection h with h
  exact congrArg (fun s : ByteArray => s.data.toList) h
theorem setZ3_end {w0 W : World} {base t g cap : Nat} {r0 : List Bt} {c a k : Nat} {x y z : Bt} (h : RelR (fun l : Bt => Value.string (bsOf l)) w0 base t g cap r0 (fun j => j = c ∨ j = a ∨ j = k) W)
    (hca : c ≠ a) (hck : c ≠ k) (hak : a ≠ k) (h1 : W.cell? ⟨g, c, none⟩ = some (.string (bsOf x))) (h2 : W.cell? ⟨g, a, none⟩ = some (.string (bsOf y))) (h3 : W.cell? ⟨g, k, none⟩ = some (.string (bsOf z))) :
    OwnF (fun l : Bt => Value.string (bsOf l)) W base t g cap (((r0.set c x).set a y).set k z) := by
  refine h.end_ str_inj (by simp) (fun j hj => ?_) (fun j v hj hv => ?_)
  · rw [List.getElem?_set_ne (fun e => hj (.inr (.inr e.symm))), List.getElem?_set_ne (fun e => hj (.inr (.inl e.symm))), List.getElem?_set_ne (fun e => hj (.inl e.symm))]
  · rcases hj with rfl | rfl | rfl
    · rw [List.getElem?_set_ne (Ne.symm hck), List.getElem?_set_ne (Ne.symm hca)] at hv
      rcases Nat.lt_or_ge j r0.length with hl | hl
      · rw [List.getElem?_set_self hl] at hv; injection hv with hv; rw [← hv]; exact h1
      · rw [List.getElem?_eq_none (by simpa using hl)] at hv; cases hv
    · rw [List.getElem?_set_ne (Ne.symm hak)] at hv
      rcases Nat.lt_or_ge j r0.length with hl | hl
      · rw [List.getElem?_set_self (by simpa using hl)] at hv; injection hv with hv; rw [← hv]; exact h2
      · rw [List.getElem?_eq_none (by simpa using hl)] at hv; cases hv
    · rcases Nat.lt_or_ge j r0.length with hl | hl
      · rw [List.getElem?_set_self (by simpa using hl)] at hv; injection hv with hv; rw [← hv]; exact h3
      · rw [List.getElem?_eq_none (by simpa using hl)] at hv; cases hv
end Go.Proofs.YtoalecalahkblaaGreatDoor

set_option linter.all false
namespace Go.Proofs.YtoalecalahkblaaGreatDoor
open Go.RowKit
theorem enters_itoa : ∀ args w, (callFunc 131 args).run Tryz.prog w = .ok (.enter 131 args) w := enters_of Tryz.func131 (by kernel_rfl) rfl
theorem enters_words : ∀ args w, (callFunc 98 args).run Tryz.prog w = .ok (.enter 98 args) w := enters_of Tryz.func98 (by kernel_rfl) rfl
theorem words_blk (w : World) : Calls Tryz.prog 98 #[] w fun e w' => e = .returned (.slice (some ⟨w.heap.size, 0, none⟩) 6 6) ∧ Below w.heap.size w w' ∧ Blk w' w.heap.size 9 #[.string ⟨#[115, 99, 104, 101, 100, 117, 108, 101]⟩, .string ⟨#[115, 116, 97, 114, 116]⟩, .string ⟨#[115, 117, 115, 112, 101, 110, 100]⟩, .string ⟨#[114, 101, 115, 117, 109, 101]⟩, .string ⟨#[99, 111, 109, 112, 108, 101, 116, 101]⟩, .string ⟨#[97, 98, 111, 114, 116]⟩] := by
  have h := Blk.new w 9 #[.string ⟨#[115, 99, 104, 101, 100, 117, 108, 101]⟩, .string ⟨#[115, 116, 97, 114, 116]⟩, .string ⟨#[115, 117, 115, 112, 101, 110, 100]⟩, .string ⟨#[114, 101, 115, 117, 109, 101]⟩, .string ⟨#[99, 111, 109, 112, 108, 101, 116, 101]⟩, .string ⟨#[97, 98, 111, 114, 116]⟩]
  have hb := bone w (.cells #[.string ⟨#[115, 99, 104, 101, 100, 117, 108, 101]⟩, .string ⟨#[115, 116, 97, 114, 116]⟩, .string ⟨#[115, 117, 115, 112, 101, 110, 100]⟩, .string ⟨#[114, 101, 115, 117, 109, 101]⟩, .string ⟨#[99, 111, 109, 112, 108, 101, 116, 101]⟩, .string ⟨#[97, 98, 111, 114, 116]⟩] 9)
  go_enter Tryz.func98, Tryz.ntmps98
  go_wp2_with fail
  go_ret
  exact ⟨rfl, hb, h⟩
theorem lifeW_cell : ∀ q, q < 6 → (#[.string ⟨#[115, 99, 104, 101, 100, 117, 108, 101]⟩, .string ⟨#[115, 116, 97, 114, 116]⟩, .string ⟨#[115, 117, 115, 112, 101, 110, 100]⟩, .string ⟨#[114, 101, 115, 117, 109, 101]⟩, .string ⟨#[99, 111, 109, 112, 108, 101, 116, 101]⟩, .string ⟨#[97, 98, 111, 114, 116]⟩] : Array Value)[q]? = some (.string (bsOf (lifeW.getD q []))) := by
  intro q hq
  match q, hq with
  | 0, _ => rfl
  | 1, _ => rfl
  | 2, _ => rfl
  | 3, _ => rfl
  | 4, _ => rfl
  | 5, _ => rfl
def rowF6 (w : World) (g c a t wd : Nat) (xc xa : Bt) (e : Ev) : Nat → Value → World → Prop
  | 0, u, _ => u = .slice (some ⟨g, 0, none⟩) wd wd
  | 1, u, _ => u = .pointer (some ⟨w.heap.size + 1, 0, none⟩)
  | 2, u, _ => u = .int .i64 (c : Int)
  | 3, u, _ => u = .slice (some ⟨g, 0, none⟩) wd wd
  | 4, u, _ => u = .pointer (some ⟨w.heap.size + 1, 1, none⟩)
  | 5, u, _ => u = .int .i64 (a : Int)
  | 6, u, _ => u = .slice (some ⟨g, 0, none⟩) wd wd
  | 7, u, _ => u = .pointer (some ⟨w.heap.size + 1, 4, none⟩)
  | 8, u, _ => u = .int .i64 (t : Int)
  | 9, u, _ => u = .pointer (some ⟨w.heap.size, 0, none⟩)
  | 10, u, _ => u = .string (bsOf xc)
  | 11, u, _ => u = .pointer (some ⟨w.heap.size, 1, none⟩)
  | 12, u, _ => u = .string (bsOf xa)
  | 13, u, _ => u = .pointer (some ⟨w.heap.size, 4, none⟩)
  | 14, u, _ => u = .int .i64 e.time
  | 15, u, _ => u = .string (bsOf (Lib.itoa e.time))
  | 16, u, _ => u = .pointer (some ⟨g, c, none⟩)
  | 17, _, W => W.cell? ⟨g, c, none⟩ = some (.string (bsOf xc))
  | 18, u, _ => u = .pointer (some ⟨g, a, none⟩)
  | 19, _, W => W.cell? ⟨g, a, none⟩ = some (.string (bsOf xa))
  | 20, u, _ => u = .pointer (some ⟨g, t, none⟩)
  | 21, _, W => W.cell? ⟨g, t, none⟩ = some (.string (bsOf (Lib.itoa e.time)))
  | _, _, _ => True
def rowF10 (w : World) (g l q wd : Nat) : Nat → Value → World → Prop
  | 0, u, _ => u = .slice (some ⟨g, 0, none⟩) wd wd
  | 1, u, _ => u = .pointer (some ⟨w.heap.size + 1, 3, none⟩)
  | 2, u, _ => u = .int .i64 (l : Int)
  | 3, u, W => ∃ p : Nat, u = .slice (some ⟨p, 0, none⟩) 6 6 ∧ p ≠ g ∧ Blk W p 9 #[.string ⟨#[115, 99, 104, 101, 100, 117, 108, 101]⟩, .string ⟨#[115, 116, 97, 114, 116]⟩, .string ⟨#[115, 117, 115, 112, 101, 110, 100]⟩, .string ⟨#[114, 101, 115, 117, 109, 101]⟩, .string ⟨#[99, 111, 109, 112, 108, 101, 116, 101]⟩, .string ⟨#[97, 98, 111, 114, 116]⟩]
  | 4, u, _ => u = .pointer (some ⟨w.heap.size, 3, none⟩)
  | 5, u, _ => u = .int .i64 ((q : Int) + 1)
  | 6, u, _ => u = .int .i64 (q : Int)
  | 7, u, W => ∃ p : Nat, u = .pointer (some ⟨p, q, none⟩) ∧ p ≠ g ∧ Blk W p 9 #[.string ⟨#[115, 99, 104, 101, 100, 117, 108, 101]⟩, .string ⟨#[115, 116, 97, 114, 116]⟩, .string ⟨#[115, 117, 115, 112, 101, 110, 100]⟩, .string ⟨#[114, 101, 115, 117, 109, 101]⟩, .string ⟨#[99, 111, 109, 112, 108, 101, 116, 101]⟩, .string ⟨#[97, 98, 111, 114, 116]⟩]
  | 8, u, _ => u = .string (bsOf (lifeW.getD q []))
  | 9, u, _ => u = .pointer (some ⟨g, l, none⟩)
  | 10, _, W => W.cell? ⟨g, l, none⟩ = some (.string (bsOf (lifeW.getD q [])))
  | _, _, _ => True
set_option maxHeartbeats 8000000 in
set_option maxRecDepth 100000 in
theorem row_any (names : List Bs) (m : Mp) (e : Ev) (ue un um : Value) (w : World) (he : IsEv (Lt w.heap.size) w ue e) (hn : SlP (Lt w.heap.size) w un names) (hm : IsMp (Lt w.heap.size) w um m) (hok : MpOk m) (hev : EvLe e) (hnm : ∀ f ∈ e.data, nmOf f ∈ names) (hln : names.length = m.data.length) (ha : AmbP w) :
    Calls Tryz.prog 88 #[ue, un, um, .int .i64 (widthX m : Int)] w (RetRow (rowX vtN names m (widthX m) e) w) := by
  by_cases hbad : (m.res < 0 ∧ e.res.data.toList ≠ []) ∨ (m.life < 0 ∧ e.life ≠ 5)
  · exact row_err vtN names m (widthX m) e ue un um w he hm hbad
  have HN1 : Hid (m.res < 0 → e.res.data.toList = []) := Lib.hid fun h => by
    rcases Classical.em (e.res.data.toList = []) with h' | h'
    · exact h'
    · exact absurd (.inl ⟨h, h'⟩) hbad
  have HN2 : Hid (m.life < 0 → e.life = 5) := Lib.hid fun h => by
    rcases Classical.em (e.life = 5) with h' | h'
    · exact h'
    · exact absurd (.inr ⟨h, h'⟩) hbad
  have HE : Hid _ := rowX_ok (vt := vtN) (names := names) (m := m) (width := widthX m) (e := e) (fun h => hbad (.inl h)) (fun h => hbad (.inr h))
  have HRL0 : Hid ((rowX vtN names m (widthX m) e).2 = 0 → (rowX vtN names m (widthX m) e).1.length = widthX m ∧ CLe (rowX vtN names m (widthX m) e).1) := Lib.hid fun h => rowX_le hev h
  obtain ⟨dv, rfl, hfe, hd⟩ := he
  obtain ⟨mv, kv, rfl, hfm, hmd, hmk⟩ := hm
  obtain ⟨Ad, cd, rfl, _, _, hd⟩ := hd.open_
  obtain ⟨Am, cm, rfl, _, _, hmd⟩ := hmd.open_
  obtain ⟨Ak, ck, rfl, _, _, hmk⟩ := hmk.open_
  obtain ⟨An, cn, rfl, _, _, hn⟩ := hn.open_
  have HN := Lib.hid hn
  have HDT := Lib.hid hd
  have HMD := Lib.hid hmd
  have HMK := Lib.hid hmk
  have HOK := Lib.hid hok
  have HEV := Lib.hid hev
  have HNM := Lib.hid hnm
  have HLN := Lib.hid hln
  have HAM := Lib.hid ha
  have HW40 := Lib.hid (widthX_le hok)
  obtain ⟨c, hc⟩ : ∃ c : Nat, m.cas = (c : Int) := ⟨m.cas.toNat, by have := hok.cas; omega⟩
  obtain ⟨a, ha⟩ : ∃ a : Nat, m.act = (a : Int) := ⟨m.act.toNat, by have := hok.act; omega⟩
  obtain ⟨t, ht⟩ : ∃ t : Nat, m.time = (t : Int) := ⟨m.time.toNat, by have := hok.time; omega⟩
  obtain ⟨xc, hxc⟩ : ∃ x : Bt, e.cas = bsOf x := ⟨_, (bs_of e.cas).symm⟩
  obtain ⟨xa, hxa⟩ : ∃ x : Bt, e.act = bsOf x := ⟨_, (bs_of e.act).symm⟩
  obtain ⟨xr, hxr⟩ : ∃ x : Bt, e.res = bsOf x := ⟨_, (bs_of e.res).symm⟩
  have HLc : Hid (c < widthX m) := by have := widthX_col (m := m) (k := m.cas) hok.cas.1 (.inl rfl); show c < _; omega
  have HLa : Hid (a < widthX m) := by have := widthX_col (m := m) (k := m.act) hok.act.1 (.inr (.inl rfl)); show a < _; omega
  have HLt : Hid (t < widthX m) := by have := widthX_col (m := m) (k := m.time) hok.time.1 (.inr (.inr (.inr (.inr (.inl rfl))))); show t < _; omega
  have HCR := Lib.hid (fun (h : 0 ≤ m.res) => widthX_col (m := m) (k := m.res) h (.inr (.inr (.inl rfl))))
  have HCL := Lib.hid (fun (h : 0 ≤ m.life) => widthX_col (m := m) (k := m.life) h (.inr (.inr (.inr (.inl rfl)))))
  have HCD := Lib.hid (fun k (hk : k ∈ m.data) => widthX_col (m := m) (k := k) (hok.data k hk).1 (.inr (.inr (.inr (.inr (.inr hk))))))
  have HD1 : Hid (c ≠ a) := Lib.hid fun h => hok.dist.1 (by rw [hc, ha, h])
  have HD2 : Hid (c ≠ t) := Lib.hid fun h => hok.dist.2.1 (by rw [hc, ht, h])
  have HD3 : Hid (a ≠ t) := Lib.hid fun h => hok.dist.2.2 (by rw [ha, ht, h])
  have HST : Hid (startX m (widthX m) e = (((List.replicate (widthX m) []).set c xc).set a xa).set t (Lib.itoa e.time)) := by
    show _ = _
    unfold startX setZ
    rw [hc, ha, ht, hxc, hxa]
    rfl
  have HRS := Lib.hid hxr
  have HIT : Hid (∀ W, AmbP W → Calls Tryz.prog 131 #[.int .i64 e.time] W fun e' w' => e' = .returned (.string (bsOf (Lib.itoa e.time))) ∧ Below W.heap.size W w') := Lib.hid fun W hW => itoa_any e.time W hfe.time hW
  obtain ⟨q, hq⟩ : ∃ q : Nat, e.life = (q : Int) + 1 := ⟨(e.life - 1).toNat, by have := hev.life; omega⟩
  have HQ := Lib.hid hq
  have HQ6 : Hid (q < 6) := by have := hev.life; show q < 6; omega
  have HLG : Hid (lifeW.getD (e.life - 1).toNat [] = lifeW.getD q []) := by show _ = _; rw [hq, show ((q : Int) + 1 - 1).toNat = q by omega]
  obtain ⟨z, hz⟩ : ∃ z, (m.sep.toNat : Int) = z := ⟨_, rfl⟩
  obtain ⟨p, hp⟩ : ∃ p, rowX vtN names m (widthX m) e = p := ⟨_, rfl⟩
  obtain ⟨R0, hR0⟩ : ∃ R0, startX m (widthX m) e = R0 := ⟨_, rfl⟩
  unfold evV mpV
  rw [hp] at HE HRL0 ⊢
  rw [hc, ha, ht, hxc, hxa, hxr, hz]
  obtain ⟨wd, hwd⟩ : ∃ wd, widthX m = wd := ⟨_, rfl⟩
  rw [hwd] at HE HRL0 HW40 HLc HLa HLt HCR HCL HCD HST ⊢
  have hmk0 := fun w => run_make_n (P := Tryz.prog) 51 9 (.string ⟨#[]⟩) 16 Tryz.underlying51 (by kernel_rfl) wd (by have := HW40.out; omega) (by decide) rfl w
  clear hc ha ht hxc hxa hxr hq hz hp hwd hR0 R0 hok hev hnm hln hfe hfm hd hmd hmk hn hbad
  have hb1 := bone w (.cells #[.string (bsOf xc), .string (bsOf xa), .string (bsOf xr), .int .i64 e.life, .int .i64 e.time, .slice Ad e.data.length cd] 69)
  have k1 := Blk.new w 69 #[.string (bsOf xc), .string (bsOf xa), .string (bsOf xr), .int .i64 e.life, .int .i64 e.time, .slice Ad e.data.length cd]
  go_enter Tryz.func88, Tryz.ntmps88
  go_upto_region 1 with fail
  obtain ⟨w1, hw1⟩ : ∃ w1, w.alloc (.cells #[.string (bsOf xc), .string (bsOf xa), .string (bsOf xr), .int .i64 e.life, .int .i64 e.time, .slice Ad e.data.length cd] 69) = w1 := ⟨_, rfl⟩
  have z1 : w1.heap.size = w.heap.size + 1 := by rw [← hw1]; simp
  rw [hw1] at hb1 k1 ⊢
  clear hw1
  have hb2 := bone w1 (.cells #[.int .i64 (c : Int), .int .i64 (a : Int), .int .i64 m.res, .int .i64 m.life, .int .i64 (t : Int), .slice Am m.data.length cm, .slice Ak m.kinds.length ck, .int .u8 z] 33)
  have k2 := Blk.new w1 33 #[.int .i64 (c : Int), .int .i64 (a : Int), .int .i64 m.res, .int .i64 m.life, .int .i64 (t : Int), .slice Am m.data.length cm, .slice Ak m.kinds.length ck, .int .u8 z]
  have k1 := k1.now hb2
  have HB := Lib.hid (bthen hb1 hb2)
  obtain ⟨w2, hw2⟩ : ∃ w2, w1.alloc (.cells #[.int .i64 (c : Int), .int .i64 (a : Int), .int .i64 m.res, .int .i64 m.life, .int .i64 (t : Int), .slice Am m.data.length cm, .slice Ak m.kinds.length ck, .int .u8 z] 33) = w2 := ⟨_, rfl⟩
  rw [hw2] at HB k1 k2 ⊢
  rw [z1] at k2
  have HK1 := Lib.hid k1
  have HK2 := Lib.hid k2
  have HA2 := Lib.hid (HAM.out.now HB.out)
  clear hw2 z1 hb1 hb2 k1 k2
  go_cut [15] from 15 to 23 (fun b W => b = .bool false ∧ w2 = W)
  case first =>
    obtain ⟨a0, a1, a2, a3, a4, a5⟩ := HK1.out.c6
    obtain ⟨c0, c1, c2, c3, c4, c5, c6, c7⟩ := HK2.out.c8m
    by_cases hr : m.res < 0
    · have x0 : xr = [] := by have := HN1.out hr; rw [HRS.out] at this; exact this
      subst x0
      have x1 : (bsOf []).toList = [] := by rw [Lib.toList_data]; rfl
      go_wp2_with fail
      go_meet
      exact ⟨rfl, rfl⟩
    · go_wp2_with fail
      go_meet
      exact ⟨rfl, rfl⟩
  case rest =>
  obtain ⟨rfl, rfl⟩ := hcut
  go_upto_region 3 with fail
  go_cut [24] from 24 to 32 (fun b W => b = .bool false ∧ w2 = W)
  case first =>
    obtain ⟨a0, a1, a2, a3, a4, a5⟩ := HK1.out.c6
    obtain ⟨c0, c1, c2, c3, c4, c5, c6, c7⟩ := HK2.out.c8m
    by_cases hr : m.life < 0
    · have x0 := HN2.out hr
      rw [x0] at a3
      clear x0
      go_wp2_with fail
      go_meet
      exact ⟨rfl, rfl⟩
    · go_wp2_with fail
      go_meet
      exact ⟨rfl, rfl⟩
  case rest =>
  obtain ⟨rfl, rfl⟩ := hcut
  go_upto_region 6 with fail
  have hb3 := bone w2 (.cells (madeCells #[.string ⟨#[]⟩] wd) 9)
  have m3 := OwnF.made (f := fun l : Bt => Value.string (bsOf l)) w2 9 wd [] (by have := HW40.out; unfold maxLen; omega)
  obtain ⟨w3, hw3⟩ : ∃ w3, w2.alloc (.cells (madeCells #[.string ⟨#[]⟩] wd) 9) = w3 := ⟨_, rfl⟩
  have hw3' : w2.alloc (.cells (madeCells #[(fun l : Bt => Value.string (bsOf l)) []] wd) 9) = w3 := hw3
  rw [hw3'] at m3
  rw [hw3] at hb3 ⊢
  clear hw3 hw3' hmk0
  obtain ⟨g, hg⟩ : ∃ g, w2.heap.size = g := ⟨_, rfl⟩
  have HG := Lib.hid hg
  rw [hg] at hb3 m3 ⊢
  have HR0 : Hid (RelR (fun l : Bt => Value.string (bsOf l)) w2 g 9 g wd (List.replicate wd []) (fun j => j = c ∨ j = a ∨ j = t) w3.drew) := Lib.hid ⟨hb3.drew, _, m3.drew, rfl, fun _ _ => rfl⟩
  have ic0 : (0 : Int) ≤ (c : Int) := by omega
  have ia0 : (0 : Int) ≤ (a : Int) := by omega
  have it0 : (0 : Int) ≤ (t : Int) := by omega
  have ic1 : (c : Int) < (wd : Int) := by have := HLc.out; omega
  have ia1 : (a : Int) < (wd : Int) := by have := HLa.out; omega
  have it1 : (t : Int) < (wd : Int) := by have := HLt.out; omega
  clear hb3 m3 hg
  go_cut [] from 35 to 53 (fun W => OwnCells W g g wd (startX m wd e) ∧ Below g w2 W)
  case first =>
    rename_i J1 K1 hJ hK
    refine wp_region_rel (by kernel_rfl) (by kernel_rfl) (by kernel_rfl) (RelR (fun l : Bt => Value.string (bsOf l)) w2 g 9 g wd (List.replicate wd []) (fun j => j = c ∨ j = a ∨ j = t)) (rowF6 w g c a t wd xc xa e) ?h0 ?hstep ?hend ?hall
    case hall => exact hall_of (by kernel_rfl)
    case h0 => exact HR0.out
    case hstep =>
      intro i o ho listed ac W hsh hi hk hR hM
      have hb2 : Below w2.heap.size w2 W := by rw [HG.out]; exact hR.below
      have hgW : g < W.heap.size := by obtain ⟨_, h1, _, _⟩ := hR.row; exact h1.lt
      obtain ⟨a0, a1, a2, a3, a4, a5⟩ := (HK1.out.now hb2).c6
      obtain ⟨c0, c1, c2, c3, c4, c5, c6, c7⟩ := (HK2.out.now hb2).c8m
      match i, ho with
      | 0, ho =>
        injection ho with ho
        subst ho
        have e0 : ac.eval (.tmp 10) = .slice (some ⟨g, 0, none⟩) wd wd := hk.same (s := 10) (by kernel_rfl)
        exact wpM_run (.slice (some ⟨g, 0, none⟩) wd wd) W (by simp only [execOp, e0]; simp [go_sem]) ⟨_, rfl, hR, fun u hu => hu (by simp), fun j _ _ _ u h => h⟩
      | 1, ho =>
        injection ho with ho
        subst ho
        have e0 : ac.eval (.tmp 6) = .pointer (some ⟨w.heap.size + 1, 0, none⟩) := hk.same (s := 6) (by kernel_rfl)
        exact wpM_run (.pointer (some ⟨w.heap.size + 1, 0, none⟩)) W (by simp only [execOp, e0]; simp [go_sem]) ⟨_, rfl, hR, fun u hu => hu (by simp), fun j _ _ _ u h => h⟩
      | 2, ho =>
        injection ho with ho
        subst ho
        have e0 : ac.eval (.tmp 36) = .pointer (some ⟨w.heap.size + 1, 0, none⟩) := hM 1 (by decide) (ready_up hi (by kernel_rfl))
        exact wpM_run (.int .i64 (c : Int)) W (by simp only [execOp, e0]; simp [go_sem, c0]) ⟨_, rfl, hR, fun u hu => hu (by simp), fun j _ _ _ u h => h⟩
      | 3, ho =>
        injection ho with ho
        subst ho
        have e0 : ac.eval (.tmp 10) = .slice (some ⟨g, 0, none⟩) wd wd := hk.same (s := 10) (by kernel_rfl)
        exact wpM_run (.slice (some ⟨g, 0, none⟩) wd wd) W (by simp only [execOp, e0]; simp [go_sem]) ⟨_, rfl, hR, fun u hu => hu (by simp), fun j _ _ _ u h => h⟩
      | 4, ho =>
        injection ho with ho
        subst ho
        have e0 : ac.eval (.tmp 6) = .pointer (some ⟨w.heap.size + 1, 0, none⟩) := hk.same (s := 6) (by kernel_rfl)
        exact wpM_run (.pointer (some ⟨w.heap.size + 1, 1, none⟩)) W (by simp only [execOp, e0]; simp [go_sem]) ⟨_, rfl, hR, fun u hu => hu (by simp), fun j _ _ _ u h => h⟩
      | 5, ho =>
        injection ho with ho
        subst ho
        have e0 : ac.eval (.tmp 39) = .pointer (some ⟨w.heap.size + 1, 1, none⟩) := hM 4 (by decide) (ready_up hi (by kernel_rfl))
        exact wpM_run (.int .i64 (a : Int)) W (by simp only [execOp, e0]; simp [go_sem, c1]) ⟨_, rfl, hR, fun u hu => hu (by simp), fun j _ _ _ u h => h⟩
      | 6, ho =>
        injection ho with ho
        subst ho
        have e0 : ac.eval (.tmp 10) = .slice (some ⟨g, 0, none⟩) wd wd := hk.same (s := 10) (by kernel_rfl)
        exact wpM_run (.slice (some ⟨g, 0, none⟩) wd wd) W (by simp only [execOp, e0]; simp [go_sem]) ⟨_, rfl, hR, fun u hu => hu (by simp), fun j _ _ _ u h => h⟩
      | 7, ho =>
        injection ho with ho
        subst ho
        have e0 : ac.eval (.tmp 6) = .pointer (some ⟨w.heap.size + 1, 0, none⟩) := hk.same (s := 6) (by kernel_rfl)
        exact wpM_run (.pointer (some ⟨w.heap.size + 1, 4, none⟩)) W (by simp only [execOp, e0]; simp [go_sem]) ⟨_, rfl, hR, fun u hu => hu (by simp), fun j _ _ _ u h => h⟩
      | 8, ho =>
        injection ho with ho
        subst ho
        have e0 : ac.eval (.tmp 42) = .pointer (some ⟨w.heap.size + 1, 4, none⟩) := hM 7 (by decide) (ready_up hi (by kernel_rfl))
        exact wpM_run (.int .i64 (t : Int)) W (by simp only [execOp, e0]; simp [go_sem, c4]) ⟨_, rfl, hR, fun u hu => hu (by simp), fun j _ _ _ u h => h⟩
      | 9, ho =>
        injection ho with ho
        subst ho
        have e0 : ac.eval (.tmp 4) = .pointer (some ⟨w.heap.size, 0, none⟩) := hk.same (s := 4) (by kernel_rfl)
        exact wpM_run (.pointer (some ⟨w.heap.size, 0, none⟩)) W (by simp only [execOp, e0]; simp [go_sem]) ⟨_, rfl, hR, fun u hu => hu (by simp), fun j _ _ _ u h => h⟩
      | 10, ho =>
        injection ho with ho
        subst ho
        have e0 : ac.eval (.tmp 44) = .pointer (some ⟨w.heap.size, 0, none⟩) := hM 9 (by decide) (ready_up hi (by kernel_rfl))
        exact wpM_run (.string (bsOf xc)) W (by simp only [execOp, e0]; simp [go_sem, a0]) ⟨_, rfl, hR, fun u hu => hu (by simp), fun j _ _ _ u h => h⟩
      | 11, ho =>
        injection ho with ho
        subst ho
        have e0 : ac.eval (.tmp 4) = .pointer (some ⟨w.heap.size, 0, none⟩) := hk.same (s := 4) (by kernel_rfl)
        exact wpM_run (.pointer (some ⟨w.heap.size, 1, none⟩)) W (by simp only [execOp, e0]; simp [go_sem]) ⟨_, rfl, hR, fun u hu => hu (by simp), fun j _ _ _ u h => h⟩
      | 12, ho =>
        injection ho with ho
        subst ho
        have e0 : ac.eval (.tmp 46) = .pointer (some ⟨w.heap.size, 1, none⟩) := hM 11 (by decide) (ready_up hi (by kernel_rfl))
        exact wpM_run (.string (bsOf xa)) W (by simp only [execOp, e0]; simp [go_sem, a1]) ⟨_, rfl, hR, fun u hu => hu (by simp), fun j _ _ _ u h => h⟩
      | 13, ho =>
        injection ho with ho
        subst ho
        have e0 : ac.eval (.tmp 4) = .pointer (some ⟨w.heap.size, 0, none⟩) := hk.same (s := 4) (by kernel_rfl)
        exact wpM_run (.pointer (some ⟨w.heap.size, 4, none⟩)) W (by simp only [execOp, e0]; simp [go_sem]) ⟨_, rfl, hR, fun u hu => hu (by simp), fun j _ _ _ u h => h⟩
      | 14, ho =>
        injection ho with ho
        subst ho
        have e0 : ac.eval (.tmp 48) = .pointer (some ⟨w.heap.size, 4, none⟩) := hM 13 (by decide) (ready_up hi (by kernel_rfl))
        exact wpM_run (.int .i64 e.time) W (by simp only [execOp, e0]; simp [go_sem, a4]) ⟨_, rfl, hR, fun u hu => hu (by simp), fun j _ _ _ u h => h⟩
      | 15, ho =>
        injection ho with ho
        subst ho
        have e0 : ac.eval (.tmp 49) = .int .i64 e.time := hM 14 (by decide) (ready_up hi (by kernel_rfl))
        refine wpM_callF (f := 131) enters_itoa _ _ #[.int .i64 e.time] _ rfl rfl (by simp only [List.map_toArray, List.map_cons, List.map_nil, e0]) ((HIT.out W (HA2.out.now hb2)).mono ?_)
        rintro e W' ⟨rfl, hb⟩
        refine ⟨_, rfl, _, rfl, hR.now hb (by rw [HG.out]; exact Nat.le_refl _), fun u hu => hu (by simp), fun j hj hji hu u h => ?_⟩
        match j, hj, hji, h with
        | 0, _, _, h => exact h
        | 1, _, _, h => exact h
        | 2, _, _, h => exact h
        | 3, _, _, h => exact h
        | 4, _, _, h => exact h
        | 5, _, _, h => exact h
        | 6, _, _, h => exact h
        | 7, _, _, h => exact h
        | 8, _, _, h => exact h
        | 9, _, _, h => exact h
        | 10, _, _, h => exact h
        | 11, _, _, h => exact h
        | 12, _, _, h => exact h
        | 13, _, _, h => exact h
        | 14, _, _, h => exact h
        | 15, _, hji, _ => exact absurd rfl hji
        | 16, _, _, h => exact h
        | 17, _, _, h => exact (hb.cell (p := ⟨g, c, none⟩) hgW).trans h
        | 18, _, _, h => exact h
        | 19, _, _, h => exact (hb.cell (p := ⟨g, a, none⟩) hgW).trans h
        | 20, _, _, h => exact h
        | 21, _, _, h => exact (hb.cell (p := ⟨g, t, none⟩) hgW).trans h
        | n + 22, hj, _, _ => exact absurd hj (by simp)
      | 16, ho =>
        injection ho with ho
        subst ho
        have e0 : ac.eval (.tmp 35) = .slice (some ⟨g, 0, none⟩) wd wd := hM 0 (by decide) (ready_up hi (by kernel_rfl))
        have e1 : ac.eval (.tmp 37) = .int .i64 (c : Int) := hM 2 (by decide) (ready_up hi (by kernel_rfl))
        exact wpM_run (.pointer (some ⟨g, c, none⟩)) W (by simp only [execOp, e0, e1]; simp [go_sem, ic0, ic1]) ⟨_, rfl, hR, fun u hu => hu (by simp), fun j _ _ _ u h => h⟩
      | 17, ho =>
        injection ho with ho
        subst ho
        have e0 : ac.eval (.tmp 51) = .pointer (some ⟨g, c, none⟩) := hM 16 (by decide) (ready_up hi (by kernel_rfl))
        have e1 : ac.eval (.tmp 45) = .string (bsOf xc) := hM 10 (by decide) (ready_up hi (by kernel_rfl))
        obtain ⟨y, hy⟩ := hR.cell (k := c) (by rw [List.length_replicate]; exact HLc.out)
        have fz := hR.frozen c
        refine wpM_store _ _ _ _ _ (W.setCell ⟨g, c, none⟩ (.string (bsOf xc))) () rfl e0 e1 (by simp [go_sem, hy, fz]) ⟨_, rfl, hR.set_ (.inl rfl) xc, fun u _ => cell_put W hy _, fun j hj hji hu u h => ?_⟩
        match j, hj, hji, h with
        | 0, _, _, h => exact h
        | 1, _, _, h => exact h
        | 2, _, _, h => exact h
        | 3, _, _, h => exact h
        | 4, _, _, h => exact h
        | 5, _, _, h => exact h
        | 6, _, _, h => exact h
        | 7, _, _, h => exact h
        | 8, _, _, h => exact h
        | 9, _, _, h => exact h
        | 10, _, _, h => exact h
        | 11, _, _, h => exact h
        | 12, _, _, h => exact h
        | 13, _, _, h => exact h
        | 14, _, _, h => exact h
        | 15, _, _, h => exact h
        | 16, _, _, h => exact h
        | 17, _, hji, _ => exact absurd rfl hji
        | 18, _, _, h => exact h
        | 19, _, _, h => exact (cell_far W HD1.out _).trans h
        | 20, _, _, h => exact h
        | 21, _, _, h => exact (cell_far W HD2.out _).trans h
        | n + 22, hj, _, _ => exact absurd hj (by simp)
      | 18, ho =>
        injection ho with ho
        subst ho
        have e0 : ac.eval (.tmp 38) = .slice (some ⟨g, 0, none⟩) wd wd := hM 3 (by decide) (ready_up hi (by kernel_rfl))
        have e1 : ac.eval (.tmp 40) = .int .i64 (a : Int) := hM 5 (by decide) (ready_up hi (by kernel_rfl))
        exact wpM_run (.pointer (some ⟨g, a, none⟩)) W (by simp only [execOp, e0, e1]; simp [go_sem, ia0, ia1]) ⟨_, rfl, hR, fun u hu => hu (by simp), fun j _ _ _ u h => h⟩
      | 19, ho =>
        injection ho with ho
        subst ho
        have e0 : ac.eval (.tmp 52) = .pointer (some ⟨g, a, none⟩) := hM 18 (by decide) (ready_up hi (by kernel_rfl))
        have e1 : ac.eval (.tmp 47) = .string (bsOf xa) := hM 12 (by decide) (ready_up hi (by kernel_rfl))
        obtain ⟨y, hy⟩ := hR.cell (k := a) (by rw [List.length_replicate]; exact HLa.out)
        have fz := hR.frozen a
        refine wpM_store _ _ _ _ _ (W.setCell ⟨g, a, none⟩ (.string (bsOf xa))) () rfl e0 e1 (by simp [go_sem, hy, fz]) ⟨_, rfl, hR.set_ (.inr (.inl rfl)) xa, fun u _ => cell_put W hy _, fun j hj hji hu u h => ?_⟩
        match j, hj, hji, h with
        | 0, _, _, h => exact h
        | 1, _, _, h => exact h
        | 2, _, _, h => exact h
        | 3, _, _, h => exact h
        | 4, _, _, h => exact h
        | 5, _, _, h => exact h
        | 6, _, _, h => exact h
        | 7, _, _, h => exact h
        | 8, _, _, h => exact h
        | 9, _, _, h => exact h
        | 10, _, _, h => exact h
        | 11, _, _, h => exact h
        | 12, _, _, h => exact h
        | 13, _, _, h => exact h
        | 14, _, _, h => exact h
        | 15, _, _, h => exact h
        | 16, _, _, h => exact h
        | 17, _, _, h => exact (cell_far W (Ne.symm HD1.out) _).trans h
        | 18, _, _, h => exact h
        | 19, _, hji, _ => exact absurd rfl hji
        | 20, _, _, h => exact h
        | 21, _, _, h => exact (cell_far W HD3.out _).trans h
        | n + 22, hj, _, _ => exact absurd hj (by simp)
      | 20, ho =>
        injection ho with ho
        subst ho
        have e0 : ac.eval (.tmp 41) = .slice (some ⟨g, 0, none⟩) wd wd := hM 6 (by decide) (ready_up hi (by kernel_rfl))
        have e1 : ac.eval (.tmp 43) = .int .i64 (t : Int) := hM 8 (by decide) (ready_up hi (by kernel_rfl))
        exact wpM_run (.pointer (some ⟨g, t, none⟩)) W (by simp only [execOp, e0, e1]; simp [go_sem, it0, it1]) ⟨_, rfl, hR, fun u hu => hu (by simp), fun j _ _ _ u h => h⟩
      | 21, ho =>
        injection ho with ho
        subst ho
        have e0 : ac.eval (.tmp 53) = .pointer (some ⟨g, t, none⟩) := hM 20 (by decide) (ready_up hi (by kernel_rfl))
        have e1 : ac.eval (.tmp 50) = .string (bsOf (Lib.itoa e.time)) := hM 15 (by decide) (ready_up hi (by kernel_rfl))
        obtain ⟨y, hy⟩ := hR.cell (k := t) (by rw [List.length_replicate]; exact HLt.out)
        have fz := hR.frozen t
        refine wpM_store _ _ _ _ _ (W.setCell ⟨g, t, none⟩ (.string (bsOf (Lib.itoa e.time)))) () rfl e0 e1 (by simp [go_sem, hy, fz]) ⟨_, rfl, hR.set_ (.inr (.inr rfl)) (Lib.itoa e.time), fun u _ => cell_put W hy _, fun j hj hji hu u h => ?_⟩
        match j, hj, hji, h with
        | 0, _, _, h => exact h
        | 1, _, _, h => exact h
        | 2, _, _, h => exact h
        | 3, _, _, h => exact h
        | 4, _, _, h => exact h
        | 5, _, _, h => exact h
        | 6, _, _, h => exact h
        | 7, _, _, h => exact h
        | 8, _, _, h => exact h
        | 9, _, _, h => exact h
        | 10, _, _, h => exact h
        | 11, _, _, h => exact h
        | 12, _, _, h => exact h
        | 13, _, _, h => exact h
        | 14, _, _, h => exact h
        | 15, _, _, h => exact h
        | 16, _, _, h => exact h
        | 17, _, _, h => exact (cell_far W (Ne.symm HD2.out) _).trans h
        | 18, _, _, h => exact h
        | 19, _, _, h => exact (cell_far W (Ne.symm HD3.out) _).trans h
        | 20, _, _, h => exact h
        | 21, _, hji, _ => exact absurd rfl hji
        | n + 22, hj, _, _ => exact absurd hj (by simp)
      | n + 22, ho => simp at ho
    case hend =>
      intro ac W hk hR hM
      have hrow : OwnCells W g g wd (startX m wd e) := by
        rw [HST.out]
        exact setZ3_end hR HD1.out HD2.out HD3.out (hM 17 (by decide)) (hM 19 (by decide)) (hM 21 (by decide))
      have hbw := hR.below
      have x35 := hM 0 (by decide)
      have x36 := hM 1 (by decide)
      have x37 := hM 2 (by decide)
      have x38 := hM 3 (by decide)
      have x39 := hM 4 (by decide)
      have x40 := hM 5 (by decide)
      have x41 := hM 6 (by decide)
      have x42 := hM 7 (by decide)
      have x43 := hM 8 (by decide)
      have x44 := hM 9 (by decide)
      have x45 := hM 10 (by decide)
      have x46 := hM 11 (by decide)
      have x47 := hM 12 (by decide)
      have x48 := hM 13 (by decide)
      have x49 := hM 14 (by decide)
      have x50 := hM 15 (by decide)
      have x51 := hM 16 (by decide)
      have x52 := hM 18 (by decide)
      have x53 := hM 20 (by decide)
      refine hK _ _ ?_
      rw [hk.form (by kernel_rfl)]
      simp only [putsAll, Option.getD_some, Act.put, List.setIfInBounds_toArray, List.set_cons_zero, List.set_cons_succ]
      go_meet
      exact ⟨hrow, hbw⟩
  case rest =>
  obtain ⟨hrow, hbw⟩ := hcut
  obtain ⟨w4, hw4⟩ : ∃ w4, wc = w4 := ⟨_, rfl⟩
  rw [hw4] at hrow hbw ⊢
  have HO4 := Lib.hid hrow
  have HB4 := Lib.hid hbw
  clear hw4 hrow hbw ic0 ia0 it0 ic1 ia1 it1 HR0
  have hbb : Below w2.heap.size w2 w4 := by rw [HG.out]; exact HB4.out
  obtain ⟨a0, a1, a2, a3, a4, a5⟩ := (HK1.out.now hbb).c6
  obtain ⟨c0, c1, c2, c3, c4, c5, c6, c7⟩ := (HK2.out.now hbb).c8m
  clear hbb
  have HLR4 : Hid ((startX m wd e).length = wd) := by show _ = _; unfold startX; simp [setZ_len]
  obtain ⟨r0, hr0⟩ : ∃ r0, startX m wd e = r0 := ⟨_, rfl⟩
  rw [hr0] at HO4 HLR4 HE
  clear hr0 HST
  obtain ⟨qr, hqr⟩ : ∃ qr, decide (0 ≤ m.res) = qr := ⟨_, rfl⟩
  go_upto_if 56 with fail
  have HQR := Lib.hid hqr
  clear hqr
  go_cut [] from 57 to 62 (fun W => OwnCells W g g wd (resX m e r0) ∧ Below g w2 W)
  case first =>
    have HRX : Hid (resX m e r0 = if qr = true then setZ r0 m.res xr else r0) := by
      show _ = _
      unfold resX
      rw [HRS.out, ← HQR.out]
      by_cases h : 0 ≤ m.res
      · rw [if_pos h, if_pos (decide_eq_true h)]; rfl
      · rw [if_neg h, if_neg (by rw [decide_eq_false h]; decide)]
    cases qr with
    | false =>
      go_wp2_with fail
      go_meet
      rw [HRX.out]
      exact ⟨HO4.out, HB4.out⟩
    | true =>
      obtain ⟨r, hr⟩ : ∃ r : Nat, m.res = (r : Int) := ⟨m.res.toNat, by have := of_decide_eq_true HQR.out; omega⟩
      have HLr : Hid (r < wd) := by have := HCR.out (of_decide_eq_true HQR.out); show r < wd; omega
      have HRX2 : Hid (resX m e r0 = r0.set r xr) := by show _ = _; rw [HRX.out, if_pos rfl]; unfold setZ; rw [hr]; rfl
      have HS4 := Lib.hid (HO4.out.set_ r xr)
      have HSB : Hid (Below g w2 (w4.setCell ⟨g, r, none⟩ (.string (bsOf xr)))) := Lib.hid (HB4.out.setCell (p := ⟨g, r, none⟩) (Nat.le_refl _) _)
      have hcl := HO4.out.cell (k := r) (List.getElem?_eq_getElem (by rw [HLR4.out]; exact HLr.out))
      have hfz := HO4.out.frozen r
      rw [hr] at c2
      have ir0 : (0 : Int) ≤ (r : Int) := by omega
      have ir1 : (r : Int) < (wd : Int) := by have := HLr.out; omega
      clear hr HRX
      go_wp2_with fail
      go_meet
      rw [HRX2.out]
      exact ⟨HS4.out, HSB.out⟩
  case rest =>
  obtain ⟨hrow, hbw⟩ := hcut
  obtain ⟨w5, hw5⟩ : ∃ w5, wc = w5 := ⟨_, rfl⟩
  rw [hw5] at hrow hbw ⊢
  have HO5 := Lib.hid hrow
  have HB5 := Lib.hid hbw
  clear hw5 hrow hbw a0 a1 a2 a3 a4 a5 c0 c1 c2 c3 c4 c5 c6 c7 HQR
  have hbb : Below w2.heap.size w2 w5 := by rw [HG.out]; exact HB5.out
  obtain ⟨a0, a1, a2, a3, a4, a5⟩ := (HK1.out.now hbb).c6
  obtain ⟨c0, c1, c2, c3, c4, c5, c6, c7⟩ := (HK2.out.now hbb).c8m
  clear hbb
  have HLR5 : Hid ((resX m e r0).length = wd) := by show _ = _; rw [← HLR4.out]; unfold resX; split <;> simp [setZ_len]
  obtain ⟨r1, hr1⟩ : ∃ r1, resX m e r0 = r1 := ⟨_, rfl⟩
  rw [hr1] at HO5 HLR5 HE
  clear hr1 HO4 HB4 HLR4
  obtain ⟨ql, hql⟩ : ∃ ql, decide (0 ≤ m.life) = ql := ⟨_, rfl⟩
  go_upto_if 65 with fail
  have HQL := Lib.hid hql
  clear hql
  go_cut [] from 66 to 75 (fun W => OwnCells W g g wd (lifeX m e r1) ∧ Below g w2 W)
  case first =>
    have HRX : Hid (lifeX m e r1 = if ql = true then setZ r1 m.life (lifeW.getD q []) else r1) := by
      show _ = _
      unfold lifeX
      rw [HLG.out, ← HQL.out]
      by_cases h : 0 ≤ m.life
      · rw [if_pos h, if_pos (decide_eq_true h)]
      · rw [if_neg h, if_neg (by rw [decide_eq_false h]; decide)]
    cases ql with
    | false =>
      go_wp2_with fail
      go_meet
      rw [HRX.out]
      exact ⟨HO5.out, HB5.out⟩
    | true =>
      obtain ⟨l, hl⟩ : ∃ l : Nat, m.life = (l : Int) := ⟨m.life.toNat, by have := of_decide_eq_true HQL.out; omega⟩
      have HLC := Lib.hid hl
      have HLl : Hid (l < wd) := by have := HCL.out (of_decide_eq_true HQL.out); show l < wd; omega
      have HLX : Hid (lifeX m e r1 = r1.set l (lifeW.getD q [])) := by show _ = _; rw [HRX.out, if_pos rfl]; unfold setZ; rw [hl]; rfl
      have HRL := HLR5
      have HQW := Lib.hid (lifeW_cell q HQ6.out)
      have HR0 : Hid (RelR (fun l : Bt => Value.string (bsOf l)) w2 g 9 g wd r1 (fun j => j = l) w5.drew) := Lib.hid ⟨HB5.out.drew, _, HO5.out.drew, rfl, fun _ _ => rfl⟩
      have il0 : (0 : Int) ≤ (l : Int) := by omega
      have il1 : (l : Int) < (wd : Int) := by have := HLl.out; omega
      have iq0 : (0 : Int) ≤ (q : Int) := by omega
      have iq1 : (q : Int) < 6 := by have := HQ6.out; omega
      have hwr : IntKind.i64.wrap (q : Int) = (q : Int) := i64wrap ⟨by omega, by omega⟩
      clear hl HRX a0 a1 a2 a3 a4 a5 c0 c1 c2 c3 c4 c5 c6 c7
      go_upto_region 10 with fail
      refine wp_region_rel (by kernel_rfl) (by kernel_rfl) (by kernel_rfl) (RelR (fun l : Bt => Value.string (bsOf l)) w2 g 9 g wd r1 (fun j => j = l)) (rowF10 w g l q wd) ?h0 ?hstep ?hend ?hall
      case hall => exact hall_of (by kernel_rfl)
      case h0 => exact HR0.out
      case hstep =>
        intro i o ho listed ac W hsh hi hk hR hM
        have hb2 : Below w2.heap.size w2 W := by rw [HG.out]; exact hR.below
        have hgW : g < W.heap.size := by obtain ⟨_, h1, _, _⟩ := hR.row; exact h1.lt
        obtain ⟨a0, a1, a2, a3, a4, a5⟩ := (HK1.out.now hb2).c6
        obtain ⟨c0, c1, c2, c3, c4, c5, c6, c7⟩ := (HK2.out.now hb2).c8m
        rw [HQ.out] at a3
        rw [HLC.out] at c3
        match i, ho with
        | 0, ho =>
          injection ho with ho
          subst ho
          have e0 : ac.eval (.tmp 10) = .slice (some ⟨g, 0, none⟩) wd wd := hk.same (s := 10) (by kernel_rfl)
          exact wpM_run (.slice (some ⟨g, 0, none⟩) wd wd) W (by simp only [execOp, e0]; simp [go_sem]) ⟨_, rfl, hR, fun u hu => hu (by simp), fun j _ _ _ u h => h⟩
        | 1, ho =>
          injection ho with ho
          subst ho
          have e0 : ac.eval (.tmp 6) = .pointer (some ⟨w.heap.size + 1, 0, none⟩) := hk.same (s := 6) (by kernel_rfl)
          exact wpM_run (.pointer (some ⟨w.heap.size + 1, 3, none⟩)) W (by simp only [execOp, e0]; simp [go_sem]) ⟨_, rfl, hR, fun u hu => hu (by simp), fun j _ _ _ u h => h⟩
        | 2, ho =>
          injection ho with ho
          subst ho
          have e0 : ac.eval (.tmp 67) = .pointer (some ⟨w.heap.size + 1, 3, none⟩) := hM 1 (by decide) (ready_up hi (by kernel_rfl))
          exact wpM_run (.int .i64 (l : Int)) W (by simp only [execOp, e0]; simp [go_sem, c3]) ⟨_, rfl, hR, fun u hu => hu (by simp), fun j _ _ _ u h => h⟩
        | 3, ho =>
          injection ho with ho
          subst ho
          refine wpM_callF (f := 98) enters_words _ _ #[] _ rfl rfl (by simp only [List.map_toArray, List.map_cons, List.map_nil]) ((words_blk W).mono ?_)
          rintro e W' ⟨rfl, hb, hBw⟩
          refine ⟨_, rfl, _, rfl, hR.now hb (by rw [HG.out]; exact Nat.le_refl _), fun u hu => ⟨_, hu (by simp), Nat.ne_of_gt hgW, hBw⟩, fun j hj hji hu u h => ?_⟩
          match j, hj, hji, h with
          | 0, _, _, h => exact h
          | 1, _, _, h => exact h
          | 2, _, _, h => exact h
          | 3, _, hji, _ => exact absurd rfl hji
          | 4, _, _, h => exact h
          | 5, _, _, h => exact h
          | 6, _, _, h => exact h
          | 7, _, _, h => exact (by obtain ⟨p, e1, e2, e3⟩ := h; exact ⟨p, e1, e2, e3.now hb⟩)
          | 8, _, _, h => exact h
          | 9, _, _, h => exact h
          | 10, _, _, h => exact (hb.cell (p := ⟨g, l, none⟩) hgW).trans h
          | n + 11, hj, _, _ => exact absurd hj (by simp)
        | 4, ho =>
          injection ho with ho
          subst ho
          have e0 : ac.eval (.tmp 4) = .pointer (some ⟨w.heap.size, 0, none⟩) := hk.same (s := 4) (by kernel_rfl)
          exact wpM_run (.pointer (some ⟨w.heap.size, 3, none⟩)) W (by simp only [execOp, e0]; simp [go_sem]) ⟨_, rfl, hR, fun u hu => hu (by simp), fun j _ _ _ u h => h⟩
        | 5, ho =>
          injection ho with ho
          subst ho
          have e0 : ac.eval (.tmp 70) = .pointer (some ⟨w.heap.size, 3, none⟩) := hM 4 (by decide) (ready_up hi (by kernel_rfl))
          exact wpM_run (.int .i64 ((q : Int) + 1)) W (by simp only [execOp, e0]; simp [go_sem, a3]) ⟨_, rfl, hR, fun u hu => hu (by simp), fun j _ _ _ u h => h⟩
        | 6, ho =>
          injection ho with ho
          subst ho
          have e0 : ac.eval (.tmp 71) = .int .i64 ((q : Int) + 1) := hM 5 (by decide) (ready_up hi (by kernel_rfl))
          exact wpM_run (.int .i64 (q : Int)) W (by simp only [execOp, e0]; simp [go_sem, hwr]) ⟨_, rfl, hR, fun u hu => hu (by simp), fun j _ _ _ u h => h⟩
        | 7, ho =>
          injection ho with ho
          subst ho
          obtain ⟨p, e0, hpg, hBw⟩ := hM 3 (by decide) (ready_up hi (by kernel_rfl))
          have e0 : ac.eval (.tmp 69) = .slice (some ⟨p, 0, none⟩) 6 6 := e0
          have e1 : ac.eval (.tmp 72) = .int .i64 (q : Int) := hM 6 (by decide) (ready_up hi (by kernel_rfl))
          exact wpM_run (.pointer (some ⟨p, q, none⟩)) W (by simp only [execOp, e0, e1]; simp [go_sem, iq0, iq1]) ⟨_, rfl, hR, fun u hu => ⟨p, hu (by simp), hpg, hBw⟩, fun j _ _ _ u h => h⟩
        | 8, ho =>
          injection ho with ho
          subst ho
          obtain ⟨p, e0, hpg, hBw⟩ := hM 7 (by decide) (ready_up hi (by kernel_rfl))
          have e0 : ac.eval (.tmp 73) = .pointer (some ⟨p, q, none⟩) := e0
          have cq : W.cell? ⟨p, q, none⟩ = some (.string (bsOf (lifeW.getD q []))) := (hBw.cell q).trans HQW.out
          exact wpM_run (.string (bsOf (lifeW.getD q []))) W (by simp only [execOp, e0]; simp [go_sem, cq]) ⟨_, rfl, hR, fun u hu => hu (by simp), fun j _ _ _ u h => h⟩
        | 9, ho =>
          injection ho with ho
          subst ho
          have e0 : ac.eval (.tmp 66) = .slice (some ⟨g, 0, none⟩) wd wd := hM 0 (by decide) (ready_up hi (by kernel_rfl))
          have e1 : ac.eval (.tmp 68) = .int .i64 (l : Int) := hM 2 (by decide) (ready_up hi (by kernel_rfl))
          exact wpM_run (.pointer (some ⟨g, l, none⟩)) W (by simp only [execOp, e0, e1]; simp [go_sem, il0, il1]) ⟨_, rfl, hR, fun u hu => hu (by simp), fun j _ _ _ u h => h⟩
        | 10, ho =>
          injection ho with ho
          subst ho
          have e0 : ac.eval (.tmp 75) = .pointer (some ⟨g, l, none⟩) := hM 9 (by decide) (ready_up hi (by kernel_rfl))
          have e1 : ac.eval (.tmp 74) = .string (bsOf (lifeW.getD q [])) := hM 8 (by decide) (ready_up hi (by kernel_rfl))
          obtain ⟨y, hy⟩ := hR.cell (k := l) (by rw [HRL.out]; exact HLl.out)
          have fz := hR.frozen l
          refine wpM_store _ _ _ _ _ (W.setCell ⟨g, l, none⟩ (.string (bsOf (lifeW.getD q [])))) () rfl e0 e1 (by simp [go_sem, hy, fz]) ⟨_, rfl, hR.set_ rfl (lifeW.getD q []), fun u _ => cell_put W hy _, fun j hj hji hu u h => ?_⟩
          match j, hj, hji, h with
          | 0, _, _, h => exact h
          | 1, _, _, h => exact h
          | 2, _, _, h => exact h
          | 3, _, _, h => exact (by obtain ⟨p, e1, e2, e3⟩ := h; exact ⟨p, e1, e2, e3.far (p := ⟨g, l, none⟩) e2 _⟩)
          | 4, _, _, h => exact h
          | 5, _, _, h => exact h
          | 6, _, _, h => exact h
          | 7, _, _, h => exact (by obtain ⟨p, e1, e2, e3⟩ := h; exact ⟨p, e1, e2, e3.far (p := ⟨g, l, none⟩) e2 _⟩)
          | 8, _, _, h => exact h
          | 9, _, _, h => exact h
          | 10, _, hji, _ => exact absurd rfl hji
          | n + 11, hj, _, _ => exact absurd hj (by simp)
        | n + 11, ho => simp at ho
      case hend =>
        intro ac W hk hR hM
        have hrow : OwnCells W g g wd (r1.set l (lifeW.getD q [])) := by
          refine hR.end_ str_inj (by simp) (fun j hj => List.getElem?_set_ne (fun e => hj e.symm)) (fun j x hj hx => ?_)
          subst hj
          have hl1 : j < r1.length := by rw [HRL.out]; exact HLl.out
          rw [List.getElem?_set_self hl1] at hx
          injection hx with hx
          rw [← hx]
          exact hM 10 (by decide)
        have hbw := hR.below
        rw [hk.form (by kernel_rfl)]
        simp only [putsAll, Option.getD_some, Act.put, List.setIfInBounds_toArray, List.set_cons_zero, List.set_cons_succ]
        go_wp2_with fail
        go_meet
        rw [HLX.out]
        exact ⟨hrow, hbw⟩
  case rest =>
  obtain ⟨hrow, hbw⟩ := hcut
  obtain ⟨w6, hw6⟩ : ∃ w6, wc = w6 := ⟨_, rfl⟩
  rw [hw6] at hrow hbw ⊢
  have HO6 := Lib.hid hrow
  have HB6 := Lib.hid hbw
  clear hw6 hrow hbw a0 a1 a2 a3 a4 a5 c0 c1 c2 c3 c4 c5 c6 c7 HQL
  have hbb : Below w2.heap.size w2 w6 := by rw [HG.out]; exact HB6.out
  obtain ⟨a0, a1, a2, a3, a4, a5⟩ := (HK1.out.now hbb).c6
  clear hbb
  have HLR6 : Hid ((lifeX m e r1).length = wd) := by show _ = _; rw [← HLR5.out]; unfold lifeX; split <;> simp [setZ_len]
  obtain ⟨R2, hR2⟩ : ∃ R2, lifeX m e r1 = R2 := ⟨_, rfl⟩
  rw [hR2] at HO6 HLR6 HE
  clear hR2 HO5 HB5 HLR5
  go_wp2_with fail
  clear a0 a1 a2 a3 a4 a5
  go_loopw [79] (fun iv wr => ∃ (j : Nat) (r : List Bt), iv = .int .i64 (j : Int) ∧ j ≤ e.data.length ∧ Hid (OwnCells wr g g wd r) ∧ Hid (r.length = wd) ∧ Hid (datR vtN names m e.data R2 = datR vtN names m (e.data.drop j) r) ∧ Hid (Below g w2 wr)) (fun iv _ => e.data.length - (intOf iv).toNat)
  case atStart => exact ⟨0, R2, rfl, Nat.zero_le _, HO6, HLR6, Lib.hid rfl, HB6⟩
  case round =>
    obtain ⟨j, r, rfl, hj, HO, HLR, HDR, HBr⟩ := hrel
    obtain ⟨wo, hwo⟩ : ∃ wo, wr = wo := ⟨_, rfl⟩
    rw [hwo] at HO HBr ⊢
    clear hwo HO6 HB6 HLR6
    have HBR : Hid (Below w2.heap.size w2 wo) := by show Below _ _ _; rw [HG.out]; exact HBr.out
    by_cases hlt : j < e.data.length
    · obtain ⟨bf, of_, f, rfl, hDf, hx, hff, f0, f1, f2, f3⟩ := SlFl.at_ (SlFl.now (SlFl.now HDT.out HB.out) HBR.out) hlt
      have HX := Lib.hid hx
      have HFF := Lib.hid hff
      have HFB : Hid (fldB f = true) := Lib.hid (HEV.out.flds f (List.mem_of_getElem? hx))
      have HNF := Lib.hid (HNM.out f (List.mem_of_getElem? hx))
      have HVB : Hid (validV f.v = true) := by
        have := HFB.out
        unfold fldB at this
        rw [Bool.and_eq_true] at this
        exact this.2
      have hbf := bone wo (.cells #[.string f.nm, .int .i64 f.v.kind, .int .i64 f.v.n, .string f.v.s] 123)
      have kf := Blk.new wo 123 #[.string f.nm, .int .i64 f.v.kind, .int .i64 f.v.n, .string f.v.s]
      clear hx hff hDf
      go_upto_region 14 with fail
      obtain ⟨wf, hwf⟩ : ∃ wf, wo.alloc (.cells #[.string f.nm, .int .i64 f.v.kind, .int .i64 f.v.n, .string f.v.s] 123) = wf := ⟨_, rfl⟩
      rw [hwf] at hbf kf ⊢
      clear hwf f0 f1 f2 f3
      have HKF := Lib.hid kf
      have HBF := Lib.hid hbf
      have HBF2 : Hid (Below w2.heap.size w2 wf) := Lib.hid (bthen HBR.out hbf)
      have HOF := Lib.hid (HO.out.now hbf)
      obtain ⟨f0, f1, f2, f3⟩ := kf.c4
      have HIX := index_any _ names (nmOf f) wf (HN.out.now (bthen HB.out HBF2.out)) HNF.out
      rw [show bsOf (nmOf f) = f.nm from bs_of f.nm] at HIX
      have HIX := Lib.hid HIX
      have HKL : Hid (names.idxOf (nmOf f) < names.length) := List.idxOf_lt_length_of_mem HNF.out
      have HDB := Lib.hid (fun h => datR_bad (vt := vtN) (names := names) (m := m) (r := r) HX.out h)
      have HDG := Lib.hid (fun h => datR_good (vt := vtN) (names := names) (m := m) (r := r) HX.out h)
      obtain ⟨k, hk⟩ : ∃ k, names.idxOf (nmOf f) = k := ⟨_, rfl⟩
      rw [hk] at HIX HKL HDB HDG
      obtain ⟨gf, hgf⟩ : ∃ gf, wo.heap.size = gf := ⟨_, rfl⟩
      rw [hgf] at HKF f0 f1 f2 f3 ⊢
      clear hbf kf hk hgf HO HBr
      go_wp2_with fail
      (with_reducible refine HIX.out.mono ?_)
      rintro _ w7 ⟨rfl, rfl⟩
      have HCV := Lib.hid (cellV_le HVB.out)
      have HC3 : Hid (f.v.kind = 3 → bsOf (cellV vtN f.v) = f.v.s) := Lib.hid fun h => by unfold cellV; rw [if_pos h]; exact bs_of _
      have HCN : Hid (f.v.kind ≠ 3 → bsOf (cellV vtN f.v) = textNV f.v) := Lib.hid fun h => by unfold cellV; rw [if_neg h]; exact bs_of _
      have HTX : Hid (f.v.kind ≠ 3 → Calls Tryz.prog 132 #[.agg #[.int .i64 f.v.kind, .int .i64 f.v.n, .string f.v.s]] wf fun e' w' => e' = .returned (.tuple #[.string (textNV f.v), .int .i64 0]) ∧ Below wf.heap.size wf w') := Lib.hid fun h => textNV_any f.v wf HFF.out.v HVB.out (by rcases kind_cases HVB.out with h' | h' | h'; exact .inl h'; exact .inr h'; exact absurd h' h) (HA2.out.now HBF2.out)
      obtain ⟨xs, hxs⟩ : ∃ xs, cellV vtN f.v = xs := ⟨_, rfl⟩
      rw [hxs] at HCV HC3 HCN HDB HDG
      obtain ⟨qk, hqk⟩ : ∃ qk, (f.v.kind != 3) = qk := ⟨_, rfl⟩
      clear hxs
      go_upto_if 93 with fail
      have HQK := Lib.hid hqk
      clear hqk
      go_cut [14] from 94 to 99 (fun sv W => sv = .string (bsOf xs) ∧ Below wf.heap.size wf W)
      case first =>
        cases qk with
        | false =>
          have h3 : f.v.kind = 3 := by have := HQK.out; simpa using this
          go_wp2_with fail
          go_meet
          rw [HC3.out h3]
          exact ⟨rfl, Below.refl _ _⟩
        | true =>
          have h3 : f.v.kind ≠ 3 := by have := HQK.out; simpa using this
          have HT := Lib.hid (HTX.out h3)
          have HTN := Lib.hid (HCN.out h3)
          clear h3 HTX HCN
          go_wp2_with fail
          (with_reducible refine HT.out.mono ?_)
          rintro _ w8 ⟨rfl, hb8⟩
          have HB8 := Lib.hid hb8
          clear hb8
          go_wp2_with fail
          go_meet
          rw [HTN.out]
          exact ⟨rfl, HB8.out⟩
      case rest =>
      obtain ⟨rfl, hb8⟩ := hcut
      obtain ⟨w8, hw8⟩ : ∃ w8, wc = w8 := ⟨_, rfl⟩
      rw [hw8] at hb8 ⊢
      have HB8 : Hid (Below w2.heap.size w2 w8) := Lib.hid (bthen HBF2.out hb8)
      have HO8 := Lib.hid (HOF.out.now hb8)
      have HF8 := Lib.hid (HKF.out.now hb8)
      clear hw8 hb8 f0 f1 f2 f3 HQK HTX HC3 HCN HIX HOF HKF
      obtain ⟨f0, f1, f2, f3⟩ := HF8.out.c4
      obtain ⟨c0, c1, c2, c3, c4, c5, c6, c7⟩ := (HK2.out.now HB8.out).c8m
      have hkk : k < m.kinds.length := by have := HKL.out; have := HLN.out; have := HOK.out.kinds; omega
      obtain ⟨bk, ok, kz, rfl, hDk, hxk, _, ck0⟩ := SlI.at_ (SlI.now (SlI.now HMK.out HB.out) HB8.out) hkk
      have HKZ : Hid (m.kinds.getD k 0 = kz) := by show _ = _; rw [List.getD_eq_getElem?_getD, hxk]; rfl
      rw [HKZ.out] at HDB HDG
      have ik0 : (0 : Int) ≤ (k : Int) := by omega
      have ik1 : (k : Int) < (m.kinds.length : Int) := by omega
      have HXS : Hid ((bsOf xs).toList = xs) := by show _ = _; rw [Lib.toList_data]; rfl
      clear hxk hDk hkk
      go_upto_region 18 with fail
      by_cases hk1 : f.v.kind = kz
      · by_cases hk2 : xs = []
        · have HEND := Lib.hid (HDB.out (.inr hk2))
          have x1 : (f.v.kind != kz) = false := by simp [hk1]
          have x2 : decide (f.v.kind = kz) = true := decide_eq_true hk1
          have x3 : (bsOf xs).toList = [] := by rw [HXS.out]; exact hk2
          have x4 : (bsOf xs).toList.isEmpty = true := by rw [x3]; rfl
          clear hk1 hk2 HDG HDB
          go_quiet (fail)
          go_wp2_with fail
          go_ret2
          show RetRow _ _ _ _
          rw [HE.out, HDR.out, HEND.out]
          exact ⟨_, rfl, Sl.none_, bdrawn (HB.out.trans (HB8.out.mono HB.out.size)) _⟩
        · have HNX := Lib.hid (HDG.out (fun h => h.elim (fun h => h hk1) hk2))
          have x1 : (f.v.kind != kz) = false := by simp [hk1]
          have x2 : decide (f.v.kind = kz) = true := decide_eq_true hk1
          have x3 : (bsOf xs).toList ≠ [] := by rw [HXS.out]; exact hk2
          have x4 : (bsOf xs).toList.isEmpty = false := by rw [HXS.out]; cases xs with | nil => exact absurd rfl hk2 | cons a l => rfl
          clear hk1 hk2 HDG HDB
          go_quiet (fail)
          have hkd : k < m.data.length := by have := HKL.out; have := HLN.out; omega
          obtain ⟨bd, od, dz, rfl, hDd, hxd, _, cd0⟩ := SlI.at_ (SlI.now (SlI.now HMD.out HB.out) HB8.out) hkd
          have hdz : m.data.getD k 0 = dz := by rw [List.getD_eq_getElem?_getD, hxd]; rfl
          rw [hdz] at HNX
          have hdm : dz ∈ m.data := List.mem_of_getElem? hxd
          obtain ⟨d, rfl⟩ : ∃ d : Nat, dz = (d : Int) := ⟨dz.toNat, by have := (HOK.out.data dz hdm).1; omega⟩
          have HLd : Hid (d < wd) := by have := HCD.out _ hdm; show d < wd; omega
          have id0 : (0 : Int) ≤ (d : Int) := by omega
          have id1 : (d : Int) < (wd : Int) := by have := HLd.out; omega
          have ik2 : (k : Int) < (m.data.length : Int) := by omega
          have hcl := HO8.out.cell (k := d) (List.getElem?_eq_getElem (by rw [HLR.out]; exact HLd.out))
          have hfz := HO8.out.frozen d
          clear hxd hDd hdm hdz hkd
          go_wp2_with fail
          go_roundw
          case rel =>
            refine ⟨j + 1, setZ r (d : Int) xs, by go_num, by omega, Lib.hid (OwnCells.setZ (show OwnCells _ g g wd r from HO8.out.drewN _) (k := (d : Int)) rfl xs), Lib.hid ((setZ_len _ _ _).trans HLR.out), Lib.hid (HDR.out.trans HNX.out), Lib.hid ?_⟩
            have hb8 : Below g w2 w8 := by rw [← HG.out]; exact HB8.out
            exact (bdrawn hb8 _).setCell (p := ⟨g, d, none⟩) (Nat.le_refl _) _
          case measure => simp [intOf]; omega
      · have HEND := Lib.hid (HDB.out (.inl hk1))
        have x1 : (f.v.kind != kz) = true := by simp [hk1]
        have x2 : decide (f.v.kind = kz) = false := decide_eq_false hk1
        clear hk1 HDG HDB
        go_quiet (fail)
        go_wp2_with fail
        go_ret2
        show RetRow _ _ _ _
        rw [HE.out, HDR.out, HEND.out]
        exact ⟨_, rfl, Sl.none_, bdrawn (HB.out.trans (HB8.out.mono HB.out.size)) _⟩
    · have hje : j = e.data.length := by omega
      have HEND : Hid (datR vtN names m e.data R2 = some r) := by
        show _ = _
        rw [HDR.out, hje, List.drop_eq_nil_of_le (Nat.le_refl _)]
        rfl
      have hjn : ¬ (j : Int) < (e.data.length : Int) := by omega
      have hE := HE.out
      rw [HEND.out] at hE
      simp only at hE
      have HE2 := Lib.hid hE
      have HCL2 : Hid (CLe r) := by have := (HRL0.out (by rw [hE])).2; rw [hE] at this; exact this
      have HRET : Hid (SlP (Btw w.heap.size wo.heap.size) wo (.slice (some ⟨g, 0, none⟩) wd wd) r) := Lib.hid (by
        have h1 := HO.out.1
        have hg1 : w.heap.size ≤ g := by rw [← HG.out]; exact HB.out.size
        have hg2 := HO.out.lt
        rw [HLR.out] at h1
        refine Sl.of_own1 h1 (by rw [List.length_map]; exact HLR.out) (fun g' e => by injection e with e; subst e; exact ⟨hg1, hg2⟩) (fun i x hx => ?_)
        rw [List.getElem?_map] at hx
        obtain ⟨b, hb, rfl⟩ := Option.map_eq_some_iff.1 hx
        refine ⟨.string (bsOf b), by rw [List.getElem?_map, hb]; rfl, rfl, ?_⟩
        have := HCL2.out b (List.mem_of_getElem? hb)
        rw [bs_size]
        unfold maxLen; omega)
      clear hje hlt hE
      go_wp2_with fail
      go_ret2
      show RetRow _ _ _ _
      rw [HE2.out]
      exact ⟨_, rfl, HRET.out, HB.out.trans (HBR.out.mono HB.out.size)⟩
end Go.Proofs.YtoalecalahkblaaGreatDoor

set_option linter.all false
namespace Go.Proofs.YtoalecalahkblaaGreatDoor
open Go.RowKit
def hvF (f : Fld) : Bool := decide (100 < f.nm.size) || decide (300 < f.v.s.size)
def hvE (e : Ev) : Bool := (((decide (100 < e.cas.size) || decide (100 < e.act.size)) || decide (100 < e.res.size)) || decide (20 < e.data.length)) || e.data.any hvF
def heavyB (l : List Ev) : Bool := ((decide (40 < l.length) && decide (l.length ≤ 2000)) || decide (3000 < l.length)) || l.any hvE
theorem sizeI (n k : Nat) : decide (k < n) = decide ((k : Int) < (n : Int)) := decide_eq_decide.2 (by omega)
theorem hvF_any (f : Fld) (w : World) : Calls Tryz.prog 84 #[.agg #[.string f.nm, .int .i64 f.v.kind, .int .i64 f.v.n, .string f.v.s]] w fun e w' => e = .returned (.bool (hvF f)) ∧ Below w.heap.size w w' := by
  have HE : Hid (hvF f = (decide ((100 : Int) < (f.nm.size : Int)) || decide ((300 : Int) < (f.v.s.size : Int)))) := by
    show _ = _
    unfold hvF
    rw [sizeI, sizeI]; rfl
  have hB := Blk.new w 123 #[.string f.nm, .int .i64 f.v.kind, .int .i64 f.v.n, .string f.v.s]
  have HB := Lib.hid (bone w (.cells #[.string f.nm, .int .i64 f.v.kind, .int .i64 f.v.n, .string f.v.s] 123))
  obtain ⟨c0, c1, c2, c3⟩ := hB.c4
  obtain ⟨q1, hq1⟩ : ∃ q1, decide ((100 : Int) < (f.nm.size : Int)) = q1 := ⟨_, rfl⟩
  obtain ⟨q2, hq2⟩ : ∃ q2, decide ((300 : Int) < (f.v.s.size : Int)) = q2 := ⟨_, rfl⟩
  rw [hq1, hq2] at HE
  clear hB
  cases q1
  · go_enter Tryz.func84, Tryz.ntmps84
    go_wp2_with fail
    go_ret
    exact ⟨ret_bool (by rw [HE.out]; rfl), HB.out⟩
  · go_enter Tryz.func84, Tryz.ntmps84
    go_wp2_with fail
    go_ret
    exact ⟨ret_bool (by rw [HE.out]; rfl), HB.out⟩
set_option maxHeartbeats 1000000 in
theorem idxFld (k : FuncId) (cb : Array Value) (eg : ∀ args w, (callFunc k args).run Tryz.prog w = .ok (.enter k args) w) (tv : Value) (ts : List Fld) (p : Fld → Bool) (w : World) (ht : SlFl (Lt w.heap.size) w tv ts)
    (hf : ∀ (x : Fld) (W : World), x ∈ ts → Below w.heap.size w W → Calls Tryz.prog k (#[.agg #[.string x.nm, .int .i64 x.v.kind, .int .i64 x.v.n, .string x.v.s]] ++ cb) W fun e w' => e = .returned (.bool (p x)) ∧ Below W.heap.size W w') :
    Calls Tryz.prog 127 #[tv, .func (.func k) #[] cb] w fun e w' => e = .returned (.int .i64 (firstF p ts)) ∧ Below w.heap.size w w' := by
  obtain ⟨A, c, rfl, h1, h2, ht⟩ := ht.open_
  have HF := Lib.hid hf
  have HT := Lib.hid ht
  clear hf ht
  go_enter Tryz.func127, Tryz.ntmps127
  go_wp2_with fail
  go_loopw [8] (fun i wr => ∃ j : Nat, j ≤ ts.length ∧ i = .int .i64 j ∧ Hid (∀ (q : Nat) t, q < j → ts[q]? = some t → p t = false) ∧ Hid (Below w.heap.size w wr)) (fun i _ => ts.length - (intOf i).toNat)
  case atStart => exact ⟨0, Nat.zero_le _, rfl, Lib.hid (fun q _ h => absurd h (by omega)), Lib.hid (Below.refl _ _)⟩
  case round =>
    obtain ⟨j, hj, rfl, HP, HB⟩ := hrel
    by_cases hlt : j < ts.length
    · obtain ⟨b, o, t, rfl, hD, hx, _, r0, r1, r2, r3⟩ := SlFl.at_ HT.out hlt
      have c0 := (HB.out.cell (p := ⟨b, o + j * 4, none⟩) hD).trans r0
      have c1 := (HB.out.cell (p := ⟨b, o + j * 4 + 1, none⟩) hD).trans r1
      have c2 := (HB.out.cell (p := ⟨b, o + j * 4 + 2, none⟩) hD).trans r2
      have c3 := (HB.out.cell (p := ⟨b, o + j * 4 + 3, none⟩) hD).trans r3
      have hcall := HF.out t wr (List.mem_of_getElem? hx) HB.out
      have HX := Lib.hid hx
      clear hx r0 r1 r2 r3
      generalize hq : p t = q' at *
      have HQ := Lib.hid hq
      have HC := Lib.hid hcall
      clear hcall hq
      cases q'
      · go_wp2_with (go_at_fn k; (with_reducible refine HC.out.mono ?_); rintro e w' ⟨rfl, hb'⟩; have HB' := Lib.hid (bthen HB.out hb'); clear hb')
        go_roundw
        case rel =>
          refine ⟨j + 1, by omega, by go_num, Lib.hid (fun q y hq hy => ?_), HB'⟩
          by_cases e : q = j
          · subst e; rw [HX.out] at hy; injection hy with hy; subst hy; exact HQ.out
          · exact HP.out q y (by omega) hy
        case measure => simp [intOf]; omega
      · go_wp2_with (go_at_fn k; (with_reducible refine HC.out.mono ?_); rintro e w' ⟨rfl, hb'⟩; have HB' := Lib.hid (bthen HB.out hb'); clear hb')
        go_ret
        exact ⟨ret_int (firstF_hit HX.out HQ.out HP.out).symm, HB'.out⟩
    · go_wp2_with fail
      go_ret
      exact ⟨ret_int (firstF_miss (fun q y hq hy => HP.out q y (by omega) hy)).symm, HB.out⟩
end Go.Proofs.YtoalecalahkblaaGreatDoor
