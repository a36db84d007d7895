/- Texts of this seat, merged. -/
import Derived.Test.YtijmnenojbfdnaaGreatDoorEq01
import Derived.Test.YtijmnenojbfdnaaGreatDoorEq02
import Derived.Test.YtijmnenojbfdnaaGreatDoorEq03
import Derived.Test.YtijmnenojbfdnaaGreatDoorEq04
import Derived.Test.YtijmnenojbfdnaaGreatDoorEq05
import Derived.Test.YtijmnenojbfdnaaGreatDoorEq06
import Derived.Test.YtijmnenojbfdnaaGreatDoorEq07
import Derived.Test.YtijmnenojbfdnaaGreatDoorEq08
import Derived.Test.YtijmnenojbfdnaaGreatDoorEq09
import Derived.Test.YtijmnenojbfdnaaGreatDoorEq10
import Derived.Test.YtijmnenojbfdnaaGreatDoorEq11
set_option linter.unusedSimpArgs false
set_option linter.unusedVariables false
namespace Go.Proofs.YtijmnenojbfdnaaGreatDoor
open Go.RowKit
structure Asg (vs : List Var) (vals : List Val) : Prop where
  len : vals.length = vs.length
  each : ∀ (i : Nat) (x : Var) (v : Val), vs[i]? = some x → vals[i]? = some v → v.kind = x.kind ∧ validV v = true
theorem find_at {vs : List Var} {s : ByteArray} (h : ¬ findV vs s < 0) : ∃ (i : Nat) (x : Var), findV vs s = i ∧ vs[i]? = some x := by
  unfold findV at h ⊢
  cases hf : vs.findIdx? (fun x => x.name.toList == s.toList) with
  | none => rw [hf] at h; exact absurd (by decide) h
  | some i =>
    rw [List.findIdx?_eq_some_iff_getElem] at hf
    obtain ⟨h1, _⟩ := hf
    exact ⟨i, vs[i], rfl, List.getElem?_eq_getElem h1⟩
theorem es_at {f : Ex → Option Val} {l : List Ex} {i : Nat} {a : Val} (h : (l.map f).getD i none = some a) : ∃ hi : i < l.length, f l[i] = some a := by
  rcases Nat.lt_or_ge i l.length with hi | hi
  · refine ⟨hi, ?_⟩
    rw [List.getD_eq_getElem?_getD, List.getElem?_map, List.getElem?_eq_getElem hi] at h
    exact h
  · rw [List.getD_eq_getElem?_getD, List.getElem?_eq_none (by simpa using hi)] at h
    cases h
theorem ks_at {f : Ex → Int} {l : List Ex} {i : Nat} (hi : i < l.length) : (l.map f).getD i 0 = f l[i] := by
  rw [List.getD_eq_getElem?_getD, List.getElem?_map, List.getElem?_eq_getElem hi]; rfl
theorem all_at {f : Ex → Int} {l : List Ex} {k : Int} (h : (l.map f).all (· == k) = true) {i : Nat} (hi : i < l.length) : f l[i] = k := by
  rw [List.all_eq_true] at h
  have := h (f l[i]) (List.mem_map.2 ⟨_, List.getElem_mem hi, rfl⟩)
  exact eq_of_beq this
theorem ev_node {vs : List Var} {vals : List Val} (hA : Asg vs vals) (x : Ex) (hs : shapeX x = true)
    (ih : ∀ y ∈ x.l, (typX vs y).2 = 0 → ∀ a, evX vs vals y = some a → a.kind = (typX vs y).1 ∧ validV a = true)
    (ht : (typX vs x).2 = 0) (a : Val) (ha : evX vs vals x = some a) : a.kind = (typX vs x).1 ∧ validV a = true := by
  obtain ⟨l1, l2, l3, l4, l5, l6, o1, o2⟩ := shape_len hs
  rw [typX_eq] at ht ⊢
  rw [evX_eq, evL_eq] at ha
  by_cases h0 : (typL vs x.l).2 ≠ 0
  · rw [if_pos h0] at ht; exact absurd ht h0
  rw [if_neg h0] at ht ⊢
  obtain ⟨k1, k2⟩ := typL_ok (vs := vs) (l := x.l) (by simpa using h0)
  rw [k1] at ht ⊢
  have ihat : ∀ (i : Nat) (hi : i < x.l.length) (b : Val), evX vs vals x.l[i] = some b → b.kind = (typX vs x.l[i]).1 ∧ validV b = true :=
    fun i hi b hb => ih _ (List.getElem_mem hi) (k2 _ (List.getElem_mem hi)) b hb
  unfold typO at ht ⊢
  unfold evO at ha
  by_cases c1 : x.op = 1
  · rw [if_pos c1] at ht ha ⊢
    injection ha with ha
    subst ha
    refine ⟨rfl, ?_⟩
    unfold shapeX at hs
    rw [if_pos c1] at hs
    simp only [Bool.and_eq_true] at hs
    exact hs.2
  rw [if_neg c1] at ht ha ⊢
  by_cases c2 : x.op = 2
  · rw [if_pos c2] at ht ha ⊢
    by_cases hf : findV vs x.s < 0
    · rw [if_pos hf] at ht; cases ht
    rw [if_neg hf] at ht ⊢
    obtain ⟨i, y, h1, h2⟩ := find_at hf
    injection ha with ha
    have hi : i < vals.length := by
      rw [hA.len]
      rcases Nat.lt_or_ge i vs.length with h | h
      · exact h
      · rw [List.getElem?_eq_none h] at h2; cases h2
    have hv : varV vs vals x.s = vals[i] := by
      unfold varV
      rw [h1, Int.toNat_natCast, List.getD_eq_getElem?_getD, List.getElem?_eq_getElem hi]; rfl
    have hk : kindAt vs (findV vs x.s) = y.kind := by unfold kindAt; rw [h1, Int.toNat_natCast, h2]; rfl
    rw [hv] at ha
    rw [hk, ← ha]
    exact hA.each i y _ h2 (List.getElem?_eq_getElem hi)
  rw [if_neg c2] at ht ha ⊢
  cases he : (x.l.map (evX vs vals)).getD 0 none with
  | none => rw [he] at ha; cases ha
  | some b =>
    rw [he] at ha
    simp only at ha
    obtain ⟨hi0, hb⟩ := es_at he
    have hb' := ihat 0 hi0 b hb
    by_cases c9 : x.op = 9 ∨ x.op = 10 ∨ x.op = 11
    · rw [if_pos c9] at ht ⊢
      split at ht
      · rename_i hall
        rw [if_pos hall]
        rw [if_neg (by omega), if_neg (by omega), if_neg (by omega), if_neg (by omega), if_neg (by omega)] at ha
        cases he1 : (x.l.map (evX vs vals)).getD 1 none with
        | none => rw [he1] at ha; cases ha
        | some c =>
          rw [he1] at ha
          simp only at ha
          rw [if_neg (by omega), if_neg (by omega), if_neg (by omega)] at ha
          split at ha
          · obtain ⟨e, h⟩ := numV_some ha; subst e; exact ⟨rfl, num_valid h⟩
          split at ha
          · obtain ⟨e, h⟩ := numV_some ha; subst e; exact ⟨rfl, num_valid h⟩
          · obtain ⟨e, h⟩ := numV_some ha; subst e; exact ⟨rfl, num_valid h⟩
      · cases ht
    rw [if_neg c9] at ht ⊢
    by_cases c7 : x.op = 7 ∨ x.op = 8
    · rw [if_pos c7] at ht ⊢
      split at ht
      · rename_i hall
        rw [if_pos hall]
        rw [if_neg (by omega), if_neg (by omega), if_neg (by omega), if_neg (by omega), if_neg (by omega)] at ha
        cases he1 : (x.l.map (evX vs vals)).getD 1 none with
        | none => rw [he1] at ha; cases ha
        | some c =>
          rw [he1] at ha
          simp only at ha
          rw [if_neg (by omega)] at ha
          split at ha
          · injection ha with ha; subst ha; exact ⟨rfl, truth_valid _⟩
          · rw [if_pos (by omega)] at ha
            injection ha with ha; subst ha; exact ⟨rfl, truth_valid _⟩
      · cases ht
    rw [if_neg c7] at ht ⊢
    by_cases c3 : x.op = 3 ∨ x.op = 4 ∨ x.op = 5
    · rw [if_pos c3] at ht ⊢
      split at ht
      · rename_i hall
        rw [if_pos hall]
        have hb1 : b.kind = 1 ∧ validV b = true := ⟨hb'.1.trans (all_at hall hi0), hb'.2⟩
        split at ha
        · injection ha with ha; subst ha; exact ⟨rfl, truth_valid _⟩
        have hsec : ∀ c, (x.l.map (evX vs vals)).getD 1 none = some c → c.kind = 1 ∧ validV c = true := by
          intro c hc
          obtain ⟨hi1, hc⟩ := es_at hc
          have := ihat 1 hi1 c hc
          exact ⟨this.1.trans (all_at hall hi1), this.2⟩
        split at ha
        · split at ha
          · exact hsec _ ha
          · injection ha with ha; subst ha; exact hb1
        · rw [if_pos (by omega)] at ha
          split at ha
          · injection ha with ha; subst ha; exact hb1
          · exact hsec _ ha
      · cases ht
    rw [if_neg c3] at ht ⊢
    by_cases c12 : x.op = 12
    · rw [if_pos c12] at ht ⊢
      split at ht
      · rename_i hall
        rw [if_pos hall]
        rw [if_neg (by omega), if_neg (by omega), if_neg (by omega), if_pos c12] at ha
        have h3 := l5 c12
        split at ha
        · obtain ⟨hi1, hc⟩ := es_at ha
          have := ihat 1 hi1 a hc
          exact ⟨by rw [this.1, ks_at hi1], this.2⟩
        · obtain ⟨hi2, hc⟩ := es_at ha
          have := ihat 2 hi2 a hc
          exact ⟨by rw [this.1, hall.2, ks_at hi2], this.2⟩
      · cases ht
    rw [if_neg c12] at ht ⊢
    split at ht
    · rename_i hall
      rw [if_pos hall]
      rw [if_neg (by omega), if_neg (by omega), if_neg (by omega), if_neg c12] at ha
      split at ha
      · injection ha with ha; subst ha; exact ⟨rfl, truth_valid _⟩
      · cases he1 : (x.l.map (evX vs vals)).getD 1 none with
        | none => rw [he1] at ha; cases ha
        | some c =>
          rw [he1] at ha
          simp only at ha
          rw [if_pos (by omega)] at ha
          injection ha with ha; subst ha; exact ⟨rfl, truth_valid _⟩
    · cases ht
mutual
theorem ev_typed {vs : List Var} {vals : List Val} (hA : Asg vs vals) : ∀ (x : Ex), okX x = true → (typX vs x).2 = 0 → ∀ a, evX vs vals x = some a → a.kind = (typX vs x).1 ∧ validV a = true
  | .mk o v s l, hok, ht, a, ha => by
    rw [okX, Bool.and_eq_true, Bool.and_eq_true] at hok
    exact ev_node hA (.mk o v s l) hok.1.1 (ev_typedL hA l hok.2) ht a ha
theorem ev_typedL {vs : List Var} {vals : List Val} (hA : Asg vs vals) : ∀ (l : List Ex), okL l = true → ∀ y ∈ l, (typX vs y).2 = 0 → ∀ a, evX vs vals y = some a → a.kind = (typX vs y).1 ∧ validV a = true
  | [], _, y, hy, _, _, _ => by simp at hy
  | x :: l, hok, y, hy, ht, a, ha => by
    rw [okL, Bool.and_eq_true] at hok
    rcases List.mem_cons.1 hy with h | h
    · rw [h] at ht ha ⊢; exact ev_typed hA x hok.1 ht a ha
    · exact ev_typedL hA l hok.2 y h ht a ha
end
theorem truth_range {a : Val} (h : validV a = true) (hk : a.kind = 1) : a.n = 0 ∨ a.n = 1 := by
  unfold validV at h
  rw [if_pos hk] at h
  simp only [Bool.and_eq_true, decide_eq_true_eq] at h
  exact h.1
theorem num_range {a : Val} (h : validV a = true) (hk : a.kind = 2) : -4503599627370496 ≤ a.n ∧ a.n ≤ 4503599627370496 := by
  unfold validV at h
  rw [if_neg (by omega), if_pos hk] at h
  simp only [Bool.and_eq_true] at h
  have := h.1
  unfold numB at this
  simpa using this
theorem asg_of {vs : List Var} {vals : List Val} (h : (inAllE vs vals).2 = 0 ∧ (inAllE vs vals).1 = true) : Asg vs vals := by
  unfold inAllE at h
  split at h
  · rename_i hok
    obtain ⟨_, h⟩ := h
    unfold okB at hok
    rw [Bool.and_eq_true] at hok
    have h : assignedB vs vals = true := h
    unfold assignedB at h
    rw [Bool.and_eq_true, decide_eq_true_eq] at h
    refine ⟨h.1, fun i x v hx hv => ?_⟩
    have hz : (vs.zip vals)[i]? = some (x, v) := by rw [List.getElem?_zip_eq_some]; exact ⟨hx, hv⟩
    have hp := List.all_eq_true.1 h.2 _ (List.mem_of_getElem? hz)
    refine ⟨?_, List.all_eq_true.1 hok.2 _ (List.mem_of_getElem? hv)⟩
    rcases Classical.em (v.kind = x.kind) with e | e
    · exact e
    · have : placeV x v = -1 := if_pos e
      simp only at hp
      rw [this] at hp
      simp at hp
  · cases h.1
end Go.Proofs.YtijmnenojbfdnaaGreatDoor

namespace Go.Proofs.YtijmnenojbfdnaaGreatDoor
open Go.RowKit
def RExN : Nat → ElemR Ex
  | 0 => fun _ _ _ _ => False
  | n + 1 => fun D w x cs => ∃ lv, cs = [.int .i64 x.op, .int .i64 x.v.kind, .int .i64 x.v.n, .string x.v.s, .string x.s, lv] ∧ Fit x.op ∧ FitV x.v ∧ x.s.size ≤ maxLen ∧ Sl 6 (RExN n) D w lv x.l
theorem RExN.kept : ∀ n, ElemR.Kept (RExN n)
  | 0 => fun _ _ _ _ _ _ _ _ h => h
  | n + 1 => by
    rintro D D' w w' x cs hd hs ⟨lv, rfl, h1, h2, h3, h4⟩
    exact ⟨lv, rfl, h1, h2, h3, Sl.keep h4 (RExN.kept n) hd hs⟩
def SlE (n : Nat) := Sl 6 (RExN n)
def IsEx (n : Nat) (D : Nat → Prop) (w : World) (u : Value) (x : Ex) : Prop :=
  ∃ lv, u = .agg #[.int .i64 x.op, .int .i64 x.v.kind, .int .i64 x.v.n, .string x.v.s, .string x.s, lv] ∧ Fit x.op ∧ FitV x.v ∧ x.s.size ≤ maxLen ∧ SlE n D w lv x.l
section
variable {D : Nat → Prop} {w w' : World} {u : Value} {n : Nat}
theorem IsEx.below {x : Ex} {B B' : Nat} (h : IsEx n (Lt B) w u x) (hb : Below B w w') (hB : B ≤ B') : IsEx n (Lt B') w' u x := by
  obtain ⟨lv, e, h1, h2, h3, h4⟩ := h
  exact ⟨lv, e, h1, h2, h3, Sl.below h4 (RExN.kept n) hb hB⟩
theorem IsEx.now {x : Ex} (h : IsEx n (Lt w.heap.size) w u x) (hb : Below w.heap.size w w') : IsEx n (Lt w'.heap.size) w' u x := h.below hb hb.size
theorem SlE.now {zs : List Ex} (h : SlE n (Lt w.heap.size) w u zs) (hb : Below w.heap.size w w') : SlE n (Lt w'.heap.size) w' u zs := Sl.below h (RExN.kept n) hb hb.size
theorem SlE.open_ {zs : List Ex} (h : SlE n D w u zs) : ∃ A c, u = .slice A zs.length c ∧ zs.length ≤ c ∧ c ≤ 9223372036854775807 ∧ SlE n D w (.slice A zs.length c) zs := Sl.open_ h
theorem Sl.at6 {α : Type} {R : ElemR α} {xs : List α} {A : Option Addr} {m c k : Nat} (h : Sl 6 R D w (.slice A m c) xs) (hk : k < m) :
    ∃ b o x u0 u1 u2 u3 u4 u5, A = some ⟨b, o, none⟩ ∧ D b ∧ xs[k]? = some x ∧ R D w x [u0, u1, u2, u3, u4, u5] ∧ w.cell? ⟨b, o + k * 6, none⟩ = some u0 ∧ w.cell? ⟨b, o + k * 6 + 1, none⟩ = some u1 ∧ w.cell? ⟨b, o + k * 6 + 2, none⟩ = some u2 ∧ w.cell? ⟨b, o + k * 6 + 3, none⟩ = some u3 ∧ w.cell? ⟨b, o + k * 6 + 4, none⟩ = some u4 ∧ w.cell? ⟨b, o + k * 6 + 5, none⟩ = some u5 := by
  obtain ⟨A', c', hv, h1, h2, h3⟩ := h
  injection hv with hA hn hc
  subst hA hn hc
  obtain ⟨b, o, cs, hA, hD, hl, hr, hcell⟩ := h3 k xs[k] (List.getElem?_eq_getElem hk)
  match cs, hl with
  | [u0, u1, u2, u3, u4, u5], _ => exact ⟨b, o, xs[k], u0, u1, u2, u3, u4, u5, hA, hD, List.getElem?_eq_getElem hk, hr, hcell 0 u0 rfl, hcell 1 u1 rfl, hcell 2 u2 rfl, hcell 3 u3 rfl, hcell 4 u4 rfl, hcell 5 u5 rfl⟩
theorem SlE.at_ {zs : List Ex} {A : Option Addr} {m c k : Nat} (h : SlE n D w (.slice A m c) zs) (hk : k < m) :
    ∃ b o x lv n', n = n' + 1 ∧ A = some ⟨b, o, none⟩ ∧ D b ∧ zs[k]? = some x ∧ IsEx n' D w (.agg #[.int .i64 x.op, .int .i64 x.v.kind, .int .i64 x.v.n, .string x.v.s, .string x.s, lv]) x ∧ FitV x.v ∧ SlE n' D w lv x.l ∧
      w.cell? ⟨b, o + k * 6, none⟩ = some (.int .i64 x.op) ∧ w.cell? ⟨b, o + k * 6 + 1, none⟩ = some (.int .i64 x.v.kind) ∧ w.cell? ⟨b, o + k * 6 + 2, none⟩ = some (.int .i64 x.v.n) ∧ w.cell? ⟨b, o + k * 6 + 3, none⟩ = some (.string x.v.s) ∧ w.cell? ⟨b, o + k * 6 + 4, none⟩ = some (.string x.s) ∧ w.cell? ⟨b, o + k * 6 + 5, none⟩ = some lv := by
  cases n with
  | zero => obtain ⟨_, _, _, _, _, _, _, _, _, _, _, _, hr, _⟩ := Sl.at6 h hk; exact hr.elim
  | succ n' =>
    obtain ⟨b, o, x, u0, u1, u2, u3, u4, u5, hA, hD, hx, ⟨lv, hu, a1, a2, a3, a4⟩, h0, h1, h2, h3, h4, h5⟩ := Sl.at6 h hk
    injection hu with e0 hu; injection hu with e1 hu; injection hu with e2 hu; injection hu with e3 hu; injection hu with e4 hu; injection hu with e5 hu
    subst e0 e1 e2 e3 e4 e5
    exact ⟨b, o, x, u5, n', rfl, hA, hD, hx, ⟨u5, rfl, a1, a2, a3, a4⟩, a2, a4, h0, h1, h2, h3, h4, h5⟩
end
theorem RExN.up : ∀ (n m : Nat), n ≤ m → ∀ D w x cs, RExN n D w x cs → RExN m D w x cs
  | 0, _, _, _, _, _, _, h => h.elim
  | n + 1, 0, h, _, _, _, _, _ => absurd h (by omega)
  | n + 1, m + 1, h, D, w, x, cs, hr => by
    obtain ⟨lv, e, h1, h2, h3, A, c, hv, h4, h5, h6⟩ := hr
    refine ⟨lv, e, h1, h2, h3, A, c, hv, h4, h5, fun i y hy => ?_⟩
    obtain ⟨b, o, cs', hA, hD, hl, hr, hc⟩ := h6 i y hy
    exact ⟨b, o, cs', hA, hD, hl, RExN.up n m (by omega) _ _ _ _ hr, hc⟩
theorem SlE.up {n m : Nat} (h : n ≤ m) {D : Nat → Prop} {w : World} {u : Value} {zs : List Ex} (hs : SlE n D w u zs) : SlE m D w u zs := by
  obtain ⟨A, c, hv, h4, h5, h6⟩ := hs
  refine ⟨A, c, hv, h4, h5, fun i y hy => ?_⟩
  obtain ⟨b, o, cs', hA, hD, hl, hr, hc⟩ := h6 i y hy
  exact ⟨b, o, cs', hA, hD, hl, RExN.up n m h _ _ _ _ hr, hc⟩
theorem IsEx.up {n m : Nat} (h : n ≤ m) {D : Nat → Prop} {w : World} {u : Value} {x : Ex} (hs : IsEx n D w u x) : IsEx m D w u x := by
  obtain ⟨lv, e, h1, h2, h3, h4⟩ := hs
  exact ⟨lv, e, h1, h2, h3, h4.up h⟩
theorem mul_quo {a b n : Int} (hb : -4503599627370496 ≤ b ∧ b ≤ 4503599627370496) (h0 : b ≠ 0)
    (hn : n = IntKind.i64.wrap (a * b)) (hq : Int.tdiv n b = a) : n = a * b := by
  have h1 := Int.mul_tdiv_add_tmod n b
  rw [hq] at h1
  have h2 : (Int.tmod n b).natAbs < b.natAbs := by
    rw [Int.natAbs_tmod]
    exact Nat.mod_lt _ (by omega)
  rw [IntKind.wrap_i64] at hn
  rw [Int.mul_comm b a] at h1
  generalize a * b = p at *
  generalize Int.tmod n b = r at *
  omega
theorem mul_fits {a b : Int} (hb0 : b ≠ 0) (h : -4503599627370496 ≤ a * b ∧ a * b ≤ 4503599627370496) : IntKind.i64.wrap (a * b) = a * b ∧ Int.tdiv (a * b) b = a :=
  ⟨IntWalk.i64_in _ (by omega), Int.mul_tdiv_cancel a hb0⟩
end Go.Proofs.YtijmnenojbfdnaaGreatDoor

namespace Go.Proofs.YtijmnenojbfdnaaGreatDoor
open Go.RowKit
theorem key_or (s : ByteArray) : keyB s = ((s.toList == [97, 110, 100]) || (s.toList == [101, 108, 115, 101]) || (s.toList == [102, 97, 108, 115, 101]) || (s.toList == [105, 102]) || (s.toList == [105, 110]) || (s.toList == [110, 111, 116]) || (s.toList == [111, 114]) || (s.toList == [116, 104, 101, 110]) || (s.toList == [116, 114, 117, 101])) := by
  show (s.toList == [97, 110, 100] || (s.toList == [101, 108, 115, 101] || (s.toList == [102, 97, 108, 115, 101] || (s.toList == [105, 102] || (s.toList == [105, 110] || (s.toList == [110, 111, 116] || (s.toList == [111, 114] || (s.toList == [116, 104, 101, 110] || (s.toList == [116, 114, 117, 101] || false))))))))) = _
  simp only [Bool.or_assoc, Bool.or_false]
set_option maxHeartbeats 1000000 in
theorem key_any (s : ByteArray) (w : World) : Calls Tryz.prog 147 #[.string s] w fun e w' => e = .returned (.bool (keyB s)) ∧ w = w' := by
  have hk := key_or s
  have HK := Lib.hid hk
  clear hk
  go_enter Tryz.func147, Tryz.ntmps147
  generalize h0 : (s.toList == [97, 110, 100]) = q0
  cases q0
  rotate_left
  · have HE : Hid (keyB s = true) := by
      show _ = _
      rw [HK.out, h0]; simp
    go_wp2_with fail
    go_ret
    exact ⟨ret_bool HE.out.symm, rfl⟩
  generalize h1 : (s.toList == [101, 108, 115, 101]) = q1
  cases q1
  rotate_left
  · have HE : Hid (keyB s = true) := by
      show _ = _
      rw [HK.out, h0, h1]; simp
    go_wp2_with fail
    go_ret
    exact ⟨ret_bool HE.out.symm, rfl⟩
  generalize h2 : (s.toList == [102, 97, 108, 115, 101]) = q2
  cases q2
  rotate_left
  · have HE : Hid (keyB s = true) := by
      show _ = _
      rw [HK.out, h0, h1, h2]; simp
    go_wp2_with fail
    go_ret
    exact ⟨ret_bool HE.out.symm, rfl⟩
  generalize h3 : (s.toList == [105, 102]) = q3
  cases q3
  rotate_left
  · have HE : Hid (keyB s = true) := by
      show _ = _
      rw [HK.out, h0, h1, h2, h3]; simp
    go_wp2_with fail
    go_ret
    exact ⟨ret_bool HE.out.symm, rfl⟩
  generalize h4 : (s.toList == [105, 110]) = q4
  cases q4
  rotate_left
  · have HE : Hid (keyB s = true) := by
      show _ = _
      rw [HK.out, h0, h1, h2, h3, h4]; simp
    go_wp2_with fail
    go_ret
    exact ⟨ret_bool HE.out.symm, rfl⟩
  generalize h5 : (s.toList == [110, 111, 116]) = q5
  cases q5
  rotate_left
  · have HE : Hid (keyB s = true) := by
      show _ = _
      rw [HK.out, h0, h1, h2, h3, h4, h5]; simp
    go_wp2_with fail
    go_ret
    exact ⟨ret_bool HE.out.symm, rfl⟩
  generalize h6 : (s.toList == [111, 114]) = q6
  cases q6
  rotate_left
  · have HE : Hid (keyB s = true) := by
      show _ = _
      rw [HK.out, h0, h1, h2, h3, h4, h5, h6]; simp
    go_wp2_with fail
    go_ret
    exact ⟨ret_bool HE.out.symm, rfl⟩
  generalize h7 : (s.toList == [116, 104, 101, 110]) = q7
  cases q7
  rotate_left
  · have HE : Hid (keyB s = true) := by
      show _ = _
      rw [HK.out, h0, h1, h2, h3, h4, h5, h6, h7]; simp
    go_wp2_with fail
    go_ret
    exact ⟨ret_bool HE.out.symm, rfl⟩
  generalize h8 : (s.toList == [116, 114, 117, 101]) = q8
  cases q8
  rotate_left
  · have HE : Hid (keyB s = true) := by
      show _ = _
      rw [HK.out, h0, h1, h2, h3, h4, h5, h6, h7, h8]; simp
    go_wp2_with fail
    go_ret
    exact ⟨ret_bool HE.out.symm, rfl⟩
  have HE : Hid (keyB s = false) := by
    show _ = _
    rw [HK.out, h0, h1, h2, h3, h4, h5, h6, h7, h8]; rfl
  go_wp2_with fail
  go_ret
  exact ⟨ret_bool HE.out.symm, rfl⟩
def keyBA : List ByteArray := [⟨#[97, 110, 100]⟩, ⟨#[101, 108, 115, 101]⟩, ⟨#[102, 97, 108, 115, 101]⟩, ⟨#[105, 102]⟩, ⟨#[105, 110]⟩, ⟨#[110, 111, 116]⟩, ⟨#[111, 114]⟩, ⟨#[116, 104, 101, 110]⟩, ⟨#[116, 114, 117, 101]⟩]
theorem key_at (s : ByteArray) : decide (0 ≤ atS keyBA s) = keyB s := by
  rw [atS_any, key_or]
  have t : ∀ (l : List UInt8), (⟨l.toArray⟩ : ByteArray).toList = l := fun l => by rw [Lib.toList_data]
  have e : ∀ l : List UInt8, (l == s.toList) = (s.toList == l) := fun l => by rw [Bool.eq_iff_iff]; simp only [beq_iff_eq]; exact eq_comm
  show ((⟨[97, 110, 100].toArray⟩ : ByteArray).toList == s.toList || ((⟨[101, 108, 115, 101].toArray⟩ : ByteArray).toList == s.toList || ((⟨[102, 97, 108, 115, 101].toArray⟩ : ByteArray).toList == s.toList || ((⟨[105, 102].toArray⟩ : ByteArray).toList == s.toList || ((⟨[105, 110].toArray⟩ : ByteArray).toList == s.toList || ((⟨[110, 111, 116].toArray⟩ : ByteArray).toList == s.toList || ((⟨[111, 114].toArray⟩ : ByteArray).toList == s.toList || ((⟨[116, 104, 101, 110].toArray⟩ : ByteArray).toList == s.toList || ((⟨[116, 114, 117, 101].toArray⟩ : ByteArray).toList == s.toList || false))))))))) = _
  rw [t [97, 110, 100], t [101, 108, 115, 101], t [102, 97, 108, 115, 101], t [105, 102], t [105, 110], t [110, 111, 116], t [111, 114], t [116, 104, 101, 110], t [116, 114, 117, 101], e [97, 110, 100], e [101, 108, 115, 101], e [102, 97, 108, 115, 101], e [105, 102], e [105, 110], e [110, 111, 116], e [111, 114], e [116, 104, 101, 110], e [116, 114, 117, 101], Bool.or_false]
  simp only [Bool.or_assoc]
theorem keys_ref (w : World) : Calls Tryz.prog 182 #[] w fun e w' => e = .returned (.slice (some ⟨w.heap.size, 0, none⟩) 9 9) ∧ w' = w.alloc (.cells #[.string ⟨#[97, 110, 100]⟩, .string ⟨#[101, 108, 115, 101]⟩, .string ⟨#[102, 97, 108, 115, 101]⟩, .string ⟨#[105, 102]⟩, .string ⟨#[105, 110]⟩, .string ⟨#[110, 111, 116]⟩, .string ⟨#[111, 114]⟩, .string ⟨#[116, 104, 101, 110]⟩, .string ⟨#[116, 114, 117, 101]⟩] 9) := by
  go_enter Tryz.func182, Tryz.ntmps182
  go_wp2_with fail
  go_ret
  exact ⟨rfl, rfl⟩
set_option maxHeartbeats 1000000 in
theorem key_ref (s : ByteArray) (w : World) : Calls Tryz.prog 145 #[.string s] w fun e w' => e = .returned (.bool (keyB s)) ∧ Below w.heap.size w w' := by
  have hB := Blk.new w 9 (keyBA.map Value.string).toArray
  have hb := bone w (.cells (keyBA.map Value.string).toArray 9)
  have hS : SlS (Lt _) _ _ keyBA := SlS.ofBlk hB (by unfold maxLen keyBA; simp) (by intro z hz; unfold maxLen; simp only [keyBA, List.mem_cons, List.not_mem_nil, or_false] at hz; rcases hz with rfl | rfl | rfl | rfl | rfl | rfl | rfl | rfl | rfl <;> simp [ByteArray.size])
  have hcells : (keyBA.map Value.string).toArray = #[.string ⟨#[97, 110, 100]⟩, .string ⟨#[101, 108, 115, 101]⟩, .string ⟨#[102, 97, 108, 115, 101]⟩, .string ⟨#[105, 102]⟩, .string ⟨#[105, 110]⟩, .string ⟨#[110, 111, 116]⟩, .string ⟨#[111, 114]⟩, .string ⟨#[116, 104, 101, 110]⟩, .string ⟨#[116, 114, 117, 101]⟩] := rfl
  have hlen : keyBA.length = 9 := rfl
  rw [hcells] at hB hb hS
  rw [hlen] at hS
  have hka := key_at s
  have HK := Lib.hid hka
  clear hka hcells
  go_enter Tryz.func145, Tryz.ntmps145
  go_wp2_with fail
  refine (keys_ref _).mono ?_
  rintro e w1 ⟨rfl, rfl⟩
  go_wp2_with fail
  refine (index_ref _ keyBA s _ hS).mono ?_
  rintro e w2 ⟨rfl, rfl⟩
  generalize atS keyBA s = z at *
  go_wp2_with fail
  go_ret
  exact ⟨ret_bool HK.out, hb⟩
end Go.Proofs.YtijmnenojbfdnaaGreatDoor
