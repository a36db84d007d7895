/- Texts of this seat, merged. -/
import Derived.Test.YtlmenhjlgmejkaaGreatDoorBa07
set_option linter.unusedSimpArgs false
set_option linter.unusedVariables false
namespace Go.Proofs.YtlmenhjlgmejkaaGreatDoor
open Go.RowKit
structure Asg (vs : List Var) (vals : List Val) : Prop where
  len : vals.length = vs.length
  each : ∀ (i : Nat) (x : Var) (v : Val), vs[i]? = some x → vals[i]? = some v → v.kind = x.kind ∧ validV v = true
theorem find_at {vs : List Var} {s : ByteArray} (h : ¬ findV vs s < 0) : ∃ (i : Nat) (x : Var), findV vs s = i ∧ vs[i]? = some x := by
  unfold findV at h ⊢
  cases hf : vs.findIdx? (fun x => x.name.toList == s.toList) with
  | none => rw [hf] at h; exact absurd (by decide) h
  | some i =>
    rw [List.findIdx?_eq_some_iff_getElem] at hf
    obtain ⟨h1, _⟩ := hf
    exact ⟨i, vs[i], rfl, List.getElem?_eq_getElem h1⟩
theorem es_at {f : Ex → Option Val} {l : List Ex} {i : Nat} {a : Val} (h : (l.map f).getD i none = some a) : ∃ hi : i < l.length, f l[i] = some a := by
  rcases Nat.lt_or_ge i l.length with hi | hi
  · refine ⟨hi, ?_⟩
    rw [List.getD_eq_getElem?_getD, List.getElem?_map, List.getElem?_eq_getElem hi] at h
    exact h
  · rw [List.getD_eq_getElem?_getD, List.getElem?_eq_none (by simpa using hi)] at h
    cases h
theorem ks_at {f : Ex → Int} {l : List Ex} {i : Nat} (hi : i < l.length) : (l.map f).getD i 0 = f l[i] := by
  rw [List.getD_eq_getElem?_getD, List.getElem?_map, List.getElem?_eq_getElem hi]; rfl
theorem all_at {f : Ex → Int} {l : List Ex} {k : Int} (h : (l.map f).all (· == k) = true) {i : Nat} (hi : i < l.length) : f l[i] = k := by
  rw [List.all_eq_true] at h
  have := h (f l[i]) (List.mem_map.2 ⟨_, List.getElem_mem hi, rfl⟩)
  exact eq_of_beq this
theorem ev_node {vs : List Var} {vals : List Val} (hA : Asg vs vals) (x : Ex) (hs : shapeX x = true)
    (ih : ∀ y ∈ x.l, (typX vs y).2 = 0 → ∀ a, evX vs vals y = some a → a.kind = (typX vs y).1 ∧ validV a = true)
    (ht : (typX vs x).2 = 0) (a : Val) (ha : evX vs vals x = some a) : a.kind = (typX vs x).1 ∧ validV a = true := by
  obtain ⟨l1, l2, l3, l4, l5, l6, o1, o2⟩ := shape_len hs
  rw [typX_eq] at ht ⊢
  rw [evX_eq, evL_eq] at ha
  by_cases h0 : (typL vs x.l).2 ≠ 0
  · rw [if_pos h0] at ht; exact absurd ht h0
  rw [if_neg h0] at ht ⊢
  obtain ⟨k1, k2⟩ := typL_ok (vs := vs) (l := x.l) (by simpa using h0)
  rw [k1] at ht ⊢
  have ihat : ∀ (i : Nat) (hi : i < x.l.length) (b : Val), evX vs vals x.l[i] = some b → b.kind = (typX vs x.l[i]).1 ∧ validV b = true :=
    fun i hi b hb => ih _ (List.getElem_mem hi) (k2 _ (List.getElem_mem hi)) b hb
  unfold typO at ht ⊢
  unfold evO at ha
  by_cases c1 : x.op = 1
  · rw [if_pos c1] at ht ha ⊢
    injection ha with ha
    subst ha
    refine ⟨rfl, ?_⟩
    unfold shapeX at hs
    rw [if_pos c1] at hs
    simp only [Bool.and_eq_true] at hs
    exact hs.2
  rw [if_neg c1] at ht ha ⊢
  by_cases c2 : x.op = 2
  · rw [if_pos c2] at ht ha ⊢
    by_cases hf : findV vs x.s < 0
    · rw [if_pos hf] at ht; cases ht
    rw [if_neg hf] at ht ⊢
    obtain ⟨i, y, h1, h2⟩ := find_at hf
    injection ha with ha
    have hi : i < vals.length := by
      rw [hA.len]
      rcases Nat.lt_or_ge i vs.length with h | h
      · exact h
      · rw [List.getElem?_eq_none h] at h2; cases h2
    have hv : varV vs vals x.s = vals[i] := by
      unfold varV
      rw [h1, Int.toNat_natCast, List.getD_eq_getElem?_getD, List.getElem?_eq_getElem hi]; rfl
    have hk : kindAt vs (findV vs x.s) = y.kind := by unfold kindAt; rw [h1, Int.toNat_natCast, h2]; rfl
    rw [hv] at ha
    rw [hk, ← ha]
    exact hA.each i y _ h2 (List.getElem?_eq_getElem hi)
  rw [if_neg c2] at ht ha ⊢
  cases he : (x.l.map (evX vs vals)).getD 0 none with
  | none => rw [he] at ha; cases ha
  | some b =>
    rw [he] at ha
    simp only at ha
    obtain ⟨hi0, hb⟩ := es_at he
    have hb' := ihat 0 hi0 b hb
    by_cases c9 : x.op = 9 ∨ x.op = 10 ∨ x.op = 11
    · rw [if_pos c9] at ht ⊢
      split at ht
      · rename_i hall
        rw [if_pos hall]
        rw [if_neg (by omega), if_neg (by omega), if_neg (by omega), if_neg (by omega), if_neg (by omega)] at ha
        cases he1 : (x.l.map (evX vs vals)).getD 1 none with
        | none => rw [he1] at ha; cases ha
        | some c =>
          rw [he1] at ha
          simp only at ha
          rw [if_neg (by omega), if_neg (by omega), if_neg (by omega)] at ha
          split at ha
          · obtain ⟨e, h⟩ := numV_some ha; subst e; exact ⟨rfl, num_valid h⟩
          split at ha
          · obtain ⟨e, h⟩ := numV_some ha; subst e; exact ⟨rfl, num_valid h⟩
          · obtain ⟨e, h⟩ := numV_some ha; subst e; exact ⟨rfl, num_valid h⟩
      · cases ht
    rw [if_neg c9] at ht ⊢
    by_cases c7 : x.op = 7 ∨ x.op = 8
    · rw [if_pos c7] at ht ⊢
      split at ht
      · rename_i hall
        rw [if_pos hall]
        rw [if_neg (by omega), if_neg (by omega), if_neg (by omega), if_neg (by omega), if_neg (by omega)] at ha
        cases he1 : (x.l.map (evX vs vals)).getD 1 none with
        | none => rw [he1] at ha; cases ha
        | some c =>
          rw [he1] at ha
          simp only at ha
          rw [if_neg (by omega)] at ha
          split at ha
          · injection ha with ha; subst ha; exact ⟨rfl, truth_valid _⟩
          · rw [if_pos (by omega)] at ha
            injection ha with ha; subst ha; exact ⟨rfl, truth_valid _⟩
      · cases ht
    rw [if_neg c7] at ht ⊢
    by_cases c3 : x.op = 3 ∨ x.op = 4 ∨ x.op = 5
    · rw [if_pos c3] at ht ⊢
      split at ht
      · rename_i hall
        rw [if_pos hall]
        have hb1 : b.kind = 1 ∧ validV b = true := ⟨hb'.1.trans (all_at hall hi0), hb'.2⟩
        split at ha
        · injection ha with ha; subst ha; exact ⟨rfl, truth_valid _⟩
        have hsec : ∀ c, (x.l.map (evX vs vals)).getD 1 none = some c → c.kind = 1 ∧ validV c = true := by
          intro c hc
          obtain ⟨hi1, hc⟩ := es_at hc
          have := ihat 1 hi1 c hc
          exact ⟨this.1.trans (all_at hall hi1), this.2⟩
        split at ha
        · split at ha
          · exact hsec _ ha
          · injection ha with ha; subst ha; exact hb1
        · rw [if_pos (by omega)] at ha
          split at ha
          · injection ha with ha; subst ha; exact hb1
          · exact hsec _ ha
      · cases ht
    rw [if_neg c3] at ht ⊢
    by_cases c12 : x.op = 12
    · rw [if_pos c12] at ht ⊢
      split at ht
      · rename_i hall
        rw [if_pos hall]
        rw [if_neg (by omega), if_neg (by omega), if_neg (by omega), if_pos c12] at ha
        have h3 := l5 c12
        split at ha
        · obtain ⟨hi1, hc⟩ := es_at ha
          have := ihat 1 hi1 a hc
          exact ⟨by rw [this.1, ks_at hi1], this.2⟩
        · obtain ⟨hi2, hc⟩ := es_at ha
          have := ihat 2 hi2 a hc
          exact ⟨by rw [this.1, hall.2, ks_at hi2], this.2⟩
      · cases ht
    rw [if_neg c12] at ht ⊢
    split at ht
    · rename_i hall
      rw [if_pos hall]
      rw [if_neg (by omega), if_neg (by omega), if_neg (by omega), if_neg c12] at ha
      split at ha
      · injection ha with ha; subst ha; exact ⟨rfl, truth_valid _⟩
      · cases he1 : (x.l.map (evX vs vals)).getD 1 none with
        | none => rw [he1] at ha; cases ha
        | some c =>
          rw [he1] at ha
          simp only at ha
          rw [if_pos (by omega)] at ha
          injection ha with ha; subst ha; exact ⟨rfl, truth_valid _⟩
    · cases ht
mutual
theorem ev_typed {vs : List Var} {vals : List Val} (hA : Asg vs vals) : ∀ (x : Ex), okX x = true → (typX vs x).2 = 0 → ∀ a, evX vs vals x = some a → a.kind = (typX vs x).1 ∧ validV a = true
  | .mk o v s l, hok, ht, a, ha => by
    rw [okX, Bool.and_eq_true, Bool.and_eq_true] at hok
    exact ev_node hA (.mk o v s l) hok.1.1 (ev_typedL hA l hok.2) ht a ha
theorem ev_typedL {vs : List Var} {vals : List Val} (hA : Asg vs vals) : ∀ (l : List Ex), okL l = true → ∀ y ∈ l, (typX vs y).2 = 0 → ∀ a, evX vs vals y = some a → a.kind = (typX vs y).1 ∧ validV a = true
  | [], _, y, hy, _, _, _ => by simp at hy
  | x :: l, hok, y, hy, ht, a, ha => by
    rw [okL, Bool.and_eq_true] at hok
    rcases List.mem_cons.1 hy with h | h
    · rw [h] at ht ha ⊢; exact ev_typed hA x hok.1 ht a ha
    · exact ev_typedL hA l hok.2 y h ht a ha
end
theorem truth_range {a : Val} (h : validV a = true) (hk : a.kind = 1) : a.n = 0 ∨ a.n = 1 := by
  unfold validV at h
  rw [if_pos hk] at h
  simp only [Bool.and_eq_true, decide_eq_true_eq] at h
  exact h.1
theorem num_range {a : Val} (h : validV a = true) (hk : a.kind = 2) : -4503599627370496 ≤ a.n ∧ a.n ≤ 4503599627370496 := by
  unfold validV at h
  rw [if_neg (by omega), if_pos hk] at h
  simp only [Bool.and_eq_true] at h
  have := h.1
  unfold numB at this
  simpa using this
theorem asg_of {vs : List Var} {vals : List Val} (h : (inAllE vs vals).2 = 0 ∧ (inAllE vs vals).1 = true) : Asg vs vals := by
  unfold inAllE at h
  split at h
  · rename_i hok
    obtain ⟨_, h⟩ := h
    unfold okB at hok
    rw [Bool.and_eq_true] at hok
    have h : assignedB vs vals = true := h
    unfold assignedB at h
    rw [Bool.and_eq_true, decide_eq_true_eq] at h
    refine ⟨h.1, fun i x v hx hv => ?_⟩
    have hz : (vs.zip vals)[i]? = some (x, v) := by rw [List.getElem?_zip_eq_some]; exact ⟨hx, hv⟩
    have hp := List.all_eq_true.1 h.2 _ (List.mem_of_getElem? hz)
    refine ⟨?_, List.all_eq_true.1 hok.2 _ (List.mem_of_getElem? hv)⟩
    rcases Classical.em (v.kind = x.kind) with e | e
    · exact e
    · have : placeV x v = -1 := if_pos e
      simp only at hp
      rw [this] at hp
      simp at hp
  · cases h.1
end Go.Proofs.YtlmenhjlgmejkaaGreatDoor

namespace Go.Proofs.YtlmenhjlgmejkaaGreatDoor
open Go.RowKit
def RExN : Nat → ElemR Ex
  | 0 => fun _ _ _ _ => False
  | n + 1 => fun D w x cs => ∃ lv, cs = [.int .i64 x.op, .int .i64 x.v.kind, .int .i64 x.v.n, .string x.v.s, .string x.s, lv] ∧ Fit x.op ∧ FitV x.v ∧ x.s.size ≤ maxLen ∧ Sl 6 (RExN n) D w lv x.l
theorem RExN.kept : ∀ n, ElemR.Kept (RExN n)
  | 0 => fun _ _ _ _ _ _ _ _ h => h
  | n + 1 => by
    rintro D D' w w' x cs hd hs ⟨lv, rfl, h1, h2, h3, h4⟩
    exact ⟨lv, rfl, h1, h2, h3, Sl.keep h4 (RExN.kept n) hd hs⟩
def SlE (n : Nat) := Sl 6 (RExN n)
def IsEx (n : Nat) (D : Nat → Prop) (w : World) (u : Value) (x : Ex) : Prop :=
  ∃ lv, u = .agg #[.int .i64 x.op, .int .i64 x.v.kind, .int .i64 x.v.n, .string x.v.s, .string x.s, lv] ∧ Fit x.op ∧ FitV x.v ∧ x.s.size ≤ maxLen ∧ SlE n D w lv x.l
section
variable {D : Nat → Prop} {w w' : World} {u : Value} {n : Nat}
theorem IsEx.below {x : Ex} {B B' : Nat} (h : IsEx n (Lt B) w u x) (hb : Below B w w') (hB : B ≤ B') : IsEx n (Lt B') w' u x := by
  obtain ⟨lv, e, h1, h2, h3, h4⟩ := h
  exact ⟨lv, e, h1, h2, h3, Sl.below h4 (RExN.kept n) hb hB⟩
theorem IsEx.now {x : Ex} (h : IsEx n (Lt w.heap.size) w u x) (hb : Below w.heap.size w w') : IsEx n (Lt w'.heap.size) w' u x := h.below hb hb.size
theorem SlE.now {zs : List Ex} (h : SlE n (Lt w.heap.size) w u zs) (hb : Below w.heap.size w w') : SlE n (Lt w'.heap.size) w' u zs := Sl.below h (RExN.kept n) hb hb.size
theorem SlE.open_ {zs : List Ex} (h : SlE n D w u zs) : ∃ A c, u = .slice A zs.length c ∧ zs.length ≤ c ∧ c ≤ 9223372036854775807 ∧ SlE n D w (.slice A zs.length c) zs := Sl.open_ h
theorem Sl.at6 {α : Type} {R : ElemR α} {xs : List α} {A : Option Addr} {m c k : Nat} (h : Sl 6 R D w (.slice A m c) xs) (hk : k < m) :
    ∃ b o x u0 u1 u2 u3 u4 u5, A = some ⟨b, o, none⟩ ∧ D b ∧ xs[k]? = some x ∧ R D w x [u0, u1, u2, u3, u4, u5] ∧ w.cell? ⟨b, o + k * 6, none⟩ = some u0 ∧ w.cell? ⟨b, o + k * 6 + 1, none⟩ = some u1 ∧ w.cell? ⟨b, o + k * 6 + 2, none⟩ = some u2 ∧ w.cell? ⟨b, o + k * 6 + 3, none⟩ = some u3 ∧ w.cell? ⟨b, o + k * 6 + 4, none⟩ = some u4 ∧ w.cell? ⟨b, o + k * 6 + 5, none⟩ = some u5 := by
  obtain ⟨A', c', hv, h1, h2, h3⟩ := h
  injection hv with hA hn hc
  subst hA hn hc
  obtain ⟨b, o, cs, hA, hD, hl, hr, hcell⟩ := h3 k xs[k] (List.getElem?_eq_getElem hk)
  match cs, hl with
  | [u0, u1, u2, u3, u4, u5], _ => exact ⟨b, o, xs[k], u0, u1, u2, u3, u4, u5, hA, hD, List.getElem?_eq_getElem hk, hr, hcell 0 u0 rfl, hcell 1 u1 rfl, hcell 2 u2 rfl, hcell 3 u3 rfl, hcell 4 u4 rfl, hcell 5 u5 rfl⟩
theorem SlE.at_ {zs : List Ex} {A : Option Addr} {m c k : Nat} (h : SlE n D w (.slice A m c) zs) (hk : k < m) :
    ∃ b o x lv n', n = n' + 1 ∧ A = some ⟨b, o, none⟩ ∧ D b ∧ zs[k]? = some x ∧ IsEx n' D w (.agg #[.int .i64 x.op, .int .i64 x.v.kind, .int .i64 x.v.n, .string x.v.s, .string x.s, lv]) x ∧ FitV x.v ∧ SlE n' D w lv x.l ∧
      w.cell? ⟨b, o + k * 6, none⟩ = some (.int .i64 x.op) ∧ w.cell? ⟨b, o + k * 6 + 1, none⟩ = some (.int .i64 x.v.kind) ∧ w.cell? ⟨b, o + k * 6 + 2, none⟩ = some (.int .i64 x.v.n) ∧ w.cell? ⟨b, o + k * 6 + 3, none⟩ = some (.string x.v.s) ∧ w.cell? ⟨b, o + k * 6 + 4, none⟩ = some (.string x.s) ∧ w.cell? ⟨b, o + k * 6 + 5, none⟩ = some lv := by
  cases n with
  | zero => obtain ⟨_, _, _, _, _, _, _, _, _, _, _, _, hr, _⟩ := Sl.at6 h hk; exact hr.elim
  | succ n' =>
    obtain ⟨b, o, x, u0, u1, u2, u3, u4, u5, hA, hD, hx, ⟨lv, hu, a1, a2, a3, a4⟩, h0, h1, h2, h3, h4, h5⟩ := Sl.at6 h hk
    injection hu with e0 hu; injection hu with e1 hu; injection hu with e2 hu; injection hu with e3 hu; injection hu with e4 hu; injection hu with e5 hu
    subst e0 e1 e2 e3 e4 e5
    exact ⟨b, o, x, u5, n', rfl, hA, hD, hx, ⟨u5, rfl, a1, a2, a3, a4⟩, a2, a4, h0, h1, h2, h3, h4, h5⟩
end
theorem RExN.up : ∀ (n m : Nat), n ≤ m → ∀ D w x cs, RExN n D w x cs → RExN m D w x cs
  | 0, _, _, _, _, _, _, h => h.elim
  | n + 1, 0, h, _, _, _, _, _ => absurd h (by omega)
  | n + 1, m + 1, h, D, w, x, cs, hr => by
    obtain ⟨lv, e, h1, h2, h3, A, c, hv, h4, h5, h6⟩ := hr
    refine ⟨lv, e, h1, h2, h3, A, c, hv, h4, h5, fun i y hy => ?_⟩
    obtain ⟨b, o, cs', hA, hD, hl, hr, hc⟩ := h6 i y hy
    exact ⟨b, o, cs', hA, hD, hl, RExN.up n m (by omega) _ _ _ _ hr, hc⟩
theorem SlE.up {n m : Nat} (h : n ≤ m) {D : Nat → Prop} {w : World} {u : Value} {zs : List Ex} (hs : SlE n D w u zs) : SlE m D w u zs := by
  obtain ⟨A, c, hv, h4, h5, h6⟩ := hs
  refine ⟨A, c, hv, h4, h5, fun i y hy => ?_⟩
  obtain ⟨b, o, cs', hA, hD, hl, hr, hc⟩ := h6 i y hy
  exact ⟨b, o, cs', hA, hD, hl, RExN.up n m h _ _ _ _ hr, hc⟩
theorem IsEx.up {n m : Nat} (h : n ≤ m) {D : Nat → Prop} {w : World} {u : Value} {x : Ex} (hs : IsEx n D w u x) : IsEx m D w u x := by
  obtain ⟨lv, e, h1, h2, h3, h4⟩ := hs
  exact ⟨lv, e, h1, h2, h3, h4.up h⟩
theorem mul_quo {a b n : Int} (hb : -4503599627370496 ≤ b ∧ b ≤ 4503599627370496) (h0 : b ≠ 0)
    (hn : n = IntKind.i64.wrap (a * b)) (hq : Int.tdiv n b = a) : n = a * b := by
  have h1 := Int.mul_tdiv_add_tmod n b
  rw [hq] at h1
  have h2 : (Int.tmod n b).natAbs < b.natAbs := by
    rw [Int.natAbs_tmod]
    exact Nat.mod_lt _ (by omega)
  rw [IntKind.wrap_i64] at hn
  rw [Int.mul_comm b a] at h1
  generalize a * b = p at *
  generalize Int.tmod n b = r at *
  omega
theorem mul_fits {a b : Int} (hb0 : b ≠ 0) (h : -4503599627370496 ≤ a * b ∧ a * b ≤ 4503599627370496) : IntKind.i64.wrap (a * b) = a * b ∧ Int.tdiv (a * b) b = a :=
  ⟨IntWalk.i64_in _ (by omega), Int.mul_tdiv_cancel a hb0⟩
end Go.Proofs.YtlmenhjlgmejkaaGreatDoor

namespace Go.Proofs.YtlmenhjlgmejkaaGreatDoor
open Go.RowKit
def placeAt (P : Int) (zs : List Int) (i : Nat) : Bool :=
  decide (0 ≤ zs.getD i 0) && decide (zs.getD i 0 < P) && (decide (i = 0) || decide (zs.getD (i-1) 0 < zs.getD i 0))
def placesB (P : Int) (zs : List Int) : Bool := (List.range zs.length).all (placeAt P zs)
theorem getD_of {zs : List Int} {k : Nat} {z : Int} (h : zs[k]? = some z) : zs.getD k 0 = z := by rw [List.getD_eq_getElem?_getD, h]; rfl
theorem places_bad {P : Int} {zs : List Int} {k : Nat} (hk : k < zs.length) (h : placeAt P zs k = false) : placesB P zs = false := by
  unfold placesB; rw [List.all_eq_false]; exact ⟨k, List.mem_range.2 hk, by simp [h]⟩
theorem places_ok {P : Int} {zs : List Int} (h : ∀ j, j < zs.length → placeAt P zs j = true) : placesB P zs = true := by
  unfold placesB; rw [List.all_eq_true]; exact fun j hj => h j (List.mem_range.1 hj)
theorem placeAt_pos {P : Int} {zs : List Int} {k : Nat} {x y : Int} (hx : zs[k]? = some x) (hy : zs[k-1]? = some y) (hk : 0 < k) :
    placeAt P zs k = decide (0 ≤ x ∧ x < P ∧ y < x) := by
  unfold placeAt; rw [getD_of hx, getD_of hy, Bool.eq_iff_iff]; simp; omega
theorem placeAt_zero {P : Int} {zs : List Int} {x : Int} (hx : zs[0]? = some x) : placeAt P zs 0 = decide (0 ≤ x ∧ x < P) := by
  unfold placeAt; rw [getD_of hx, Bool.eq_iff_iff]; simp
set_option maxHeartbeats 400000 in
theorem places_any (P s t : Int) (tv l : Value) (zs : List Int) (w : World) (hl : SlI (Lt w.heap.size) w l zs) :
    Calls Tryz.prog 95 #[.agg #[.int .i64 P, tv, .int .i64 s, .int .i64 t], l] w fun e w' => e = .returned (.bool (placesB P zs)) ∧ Below w.heap.size w w' := by
  obtain ⟨A, c, rfl, hc, hm, hl⟩ := hl.open_
  go_enter Tryz.func95, Tryz.ntmps95
  go_wp2_with fail
  have HB : Hid (Below w.heap.size w (w.alloc (Obj.cells #[Value.int IntKind.i64 P, tv, Value.int IntKind.i64 s, Value.int IntKind.i64 t] 24))) := (Below.refl _ _).alloc (Nat.le_refl _) _
  have hl' := hl.below HB.out (Nat.le_refl _)
  go_loop [9] (fun i => ∃ k : Nat, k ≤ zs.length ∧ i = .int .i64 k ∧ ∀ j, j < k → placeAt P zs j = true) (fun i => zs.length - (intOf i).toNat)
  case atStart => exact ⟨0, Nat.zero_le _, rfl, fun j h => absurd h (by omega)⟩
  case round =>
    obtain ⟨k, hk, rfl, hp⟩ := hrel
    have HP := Lib.hid hp
    clear hp
    by_cases hlt : k < zs.length
    · obtain ⟨b, o, x, rfl, hD, hx, hf, hcell⟩ := hl'.at_ hlt
      by_cases hk0 : 0 < k
      · obtain ⟨b', o', y, hA, _, hy, _, hcell'⟩ := hl'.at_ (k := k - 1) (by omega)
        injection hA with hA; injection hA with e1 e2 _; subst e1 e2
        have HQ := Lib.hid (placeAt_pos (P := P) hx hy hk0)
        have e3 : (k : Int) - 1 = ((k - 1 : Nat) : Int) := by omega
        clear hx hy hD
        have hcell2 : World.cell? (w.alloc (Obj.cells #[Value.int IntKind.i64 P, tv, Value.int IntKind.i64 s, Value.int IntKind.i64 t] 24)) { block := b, off := o + (k - 1) } = some (Value.int IntKind.i64 y) := hcell'
        clear hcell'
        by_cases h1 : 0 ≤ x ∧ x < P ∧ y < x
        · obtain ⟨h1, h2, h3⟩ := h1
          clear e3
          go_wp2
          go_round
          case rel => exact ⟨k + 1, by omega, by go_num, fun j hj => by
            by_cases e : j = k
            · subst e; rw [HQ.out]; simp [h1, h2, h3]
            · exact HP.out j (by omega)⟩
          case measure => simp [intOf]; omega
        · have HE : Hid (placesB P zs = false) := places_bad hlt (by rw [HQ.out]; simpa using h1)
          have h1' : ¬ (0 ≤ x ∧ x < P ∧ y < x) := h1
          clear h1 e3
          by_cases h2 : 0 ≤ x <;> by_cases h3 : x < P <;> by_cases h4 : y < x
          all_goals first
            | (exfalso; exact h1' ⟨h2, h3, h4⟩)
            | (clear h1'
               go_wp2
               go_ret
               exact ⟨ret_bool HE.out.symm, HB.out⟩)
      · have HQ : Hid (placeAt P zs k = decide (0 ≤ x ∧ x < P)) := by
          obtain rfl : k = 0 := by omega
          exact placeAt_zero (P := P) hx
        clear hx hD
        by_cases h1 : 0 ≤ x ∧ x < P
        · obtain ⟨h1, h2⟩ := h1
          go_wp2
          go_round
          case rel => exact ⟨k + 1, by omega, by go_num, fun j hj => by
            rw [show j = k from by omega, HQ.out]; simp [h1, h2]⟩
          case measure => simp [intOf]; omega
        · have HE : Hid (placesB P zs = false) := places_bad hlt (by rw [HQ.out]; simpa using h1)
          have h1' : ¬ (0 ≤ x ∧ x < P) := h1
          clear h1
          by_cases h2 : 0 ≤ x <;> by_cases h3 : x < P
          all_goals first
            | (exfalso; exact h1' ⟨h2, h3⟩)
            | (clear h1'
               go_wp2
               go_ret
               exact ⟨ret_bool HE.out.symm, HB.out⟩)
    · go_wp2
      go_ret
      exact ⟨ret_bool (places_ok (fun j hj => HP.out j (by omega))).symm, HB.out⟩
set_option maxHeartbeats 1000000 in
theorem places_ref (P : Int) (l : Value) (zs : List Int) (w : World) (hl : SlI (Lt w.heap.size) w l zs) :
    Calls Tryz.prog 121 #[.int .i64 P, l] w fun e w' => e = .returned (.bool (placesB P zs)) ∧ Below w.heap.size w w' := by
  obtain ⟨A, c, rfl, hc, hm, hl⟩ := hl.open_
  go_enter Tryz.func121, Tryz.ntmps121
  go_wp2_with fail
  go_loopw [5] (fun i wr => ∃ k : Nat, k ≤ zs.length ∧ i = .int .i64 k ∧ (∀ j, j < k → placeAt P zs j = true) ∧ Below w.heap.size w wr) (fun i _ => zs.length - (intOf i).toNat)
  case atStart => exact ⟨0, Nat.zero_le _, rfl, fun j h => absurd h (by omega), Below.refl _ _⟩
  case round =>
    obtain ⟨k, hk, rfl, hp, hb⟩ := hrel
    have HP := Lib.hid hp
    clear hp
    have hl' := hl.below hb (Nat.le_refl _)
    by_cases hlt : k < zs.length
    · obtain ⟨b, o, x, rfl, hD, hx, hf, hcell⟩ := hl'.at_ hlt
      have i1 : (0 : Int) ≤ k := by omega
      have i2 : (k : Int) < (zs.length : Int) := by omega
      by_cases hk0 : 0 < k
      · obtain ⟨b', o', y, hA, _, hy, _, hcell'⟩ := hl'.at_ (k := k - 1) (by omega)
        injection hA with hA; injection hA with e1 e2 _; subst e1 e2
        have HQ := Lib.hid (placeAt_pos (P := P) hx hy hk0)
        clear hx hy hD
        have w1 : IntKind.i64.wrap ((k : Int) - 1) = (k : Int) - 1 := IntWalk.i64_in _ (by omega)
        have w2 : (0 : Int) ≤ (k : Int) - 1 := by omega
        have w3 : ((k : Int) - 1).toNat = k - 1 := by omega
        have w4 : (1 : Int) ≤ k := by omega
        have w5 : (k : Int) - 1 < zs.length := by omega
        by_cases h1 : 0 ≤ x ∧ x < P ∧ y < x
        · obtain ⟨h1, h2, h3⟩ := h1
          go_wp2
          go_quiet (fail)
          clear w1 w2 w3 w4 w5
          go_wp2
          go_roundw
          case rel => exact ⟨k + 1, by omega, by go_num, fun j hj => by
            by_cases e : j = k
            · subst e; rw [HQ.out]; simp [h1, h2, h3]
            · exact HP.out j (by omega), below_drewN hb _⟩
          case measure => simp [intOf]; omega
        · have HE : Hid (placesB P zs = false) := places_bad hlt (by rw [HQ.out]; simpa using h1)
          have h1' : ¬ (0 ≤ x ∧ x < P ∧ y < x) := h1
          clear h1
          rcases Int.lt_or_le x 0 with h2 | h2
          · have b1 : decide (x < 0) = true := by simpa using h2
            clear h1'
            go_wp2
            go_quiet (fail)
            clear w1 w2 w3 w4 w5
            go_wp2
            go_ret
            exact ⟨ret_bool HE.out.symm, below_drewN hb _⟩
          · rcases Int.lt_or_le x P with h3 | h3
            · have h4 : x ≤ y := by omega
              have b1 : decide (x < 0) = false := by simpa using h2
              have b2 : decide (P ≤ x) = false := by simpa using h3
              have b3 : decide (x ≤ y) = true := by simpa using h4
              clear h1'
              go_wp2
              go_quiet (fail)
              clear w1 w2 w3 w4 w5
              go_wp2
              go_ret
              exact ⟨ret_bool HE.out.symm, below_drewN hb _⟩
            · have b1 : decide (x < 0) = false := by simpa using h2
              have b2 : decide (P ≤ x) = true := by simpa using h3
              clear h1'
              go_wp2
              go_quiet (fail)
              clear w1 w2 w3 w4 w5
              go_wp2
              go_ret
              exact ⟨ret_bool HE.out.symm, below_drewN hb _⟩
      · obtain rfl : k = 0 := by omega
        have HQ : Hid (placeAt P zs 0 = decide (0 ≤ x ∧ x < P)) := placeAt_zero (P := P) hx
        rw [Nat.add_zero] at hcell
        clear hx hD hk0 i1
        simp only [Int.natCast_zero] at i2 ⊢
        by_cases h1 : 0 ≤ x ∧ x < P
        · obtain ⟨h1, h2⟩ := h1
          have b1 : decide (x < 0) = false := by simpa using h1
          have b2 : decide (P ≤ x) = false := by simpa using h2
          go_wp2
          go_quiet (fail)
          go_wp2
          go_roundw
          case rel => exact ⟨0 + 1, by omega, by go_num, fun j hj => by
            rw [show j = 0 from by omega, HQ.out]; simp [h1, h2], below_drewN hb _⟩
          case measure => simp [intOf]; omega
        · have HE : Hid (placesB P zs = false) := places_bad hlt (by rw [HQ.out]; simpa using h1)
          have h1' : ¬ (0 ≤ x ∧ x < P) := h1
          clear h1
          rcases Int.lt_or_le x 0 with h2 | h2
          · have b1 : decide (x < 0) = true := by simpa using h2
            clear h1'
            go_wp2
            go_quiet (fail)
            go_wp2
            go_ret
            exact ⟨ret_bool HE.out.symm, below_drewN hb _⟩
          · have h3 : P ≤ x := by omega
            have b1 : decide (x < 0) = false := by simpa using h2
            have b2 : decide (P ≤ x) = true := by simpa using h3
            clear h1'
            go_wp2
            go_quiet (fail)
            go_wp2
            go_ret
            exact ⟨ret_bool HE.out.symm, below_drewN hb _⟩
    · go_wp2
      go_ret
      exact ⟨ret_bool (places_ok (fun j hj => HP.out j (by omega))).symm, hb⟩
end Go.Proofs.YtlmenhjlgmejkaaGreatDoor

namespace Go.Proofs.YtlmenhjlgmejkaaGreatDoor
open Go.RowKit
def labelOk (s : ByteArray) : Bool := decide (s.size = 0) || isNameB s
def trOk (P : Int) (t : Tr) : Bool := labelOk t.label && placesB P t.ins && placesB P t.outs
def inside (P x : Int) : Bool := decide (0 ≤ x) && decide (x < P)
def validB (n : Net) : Bool := decide (1 ≤ n.places) && decide (n.places ≤ 40) && decide (n.trans.length ≤ 60) && n.trans.all (trOk n.places) && inside n.places n.source && inside n.places n.sink
theorem size_toList (s : ByteArray) : s.toList = [] ↔ s.size = 0 := by
  rw [ByteArray.toList_eq, ← List.length_eq_zero_iff, Array.length_toList]; rfl
theorem labelOk_empty {s : ByteArray} (h : s.toList = []) : labelOk s = true := by
  rw [size_toList] at h; unfold labelOk; simp [h]
theorem labelOk_full {s : ByteArray} (h : ¬ s.toList = []) : labelOk s = isNameB s := by
  rw [size_toList] at h; unfold labelOk; simp [h]
theorem places_single (P x : Int) : placesB P [x] = inside P x := by
  unfold placesB inside placeAt; simp [List.range_succ]
theorem valid_bad_tr {n : Net} {k : Nat} {t : Tr} (hx : n.trans[k]? = some t) (h : trOk n.places t = false) : validB n = false := by
  have : n.trans.all (trOk n.places) = false := by rw [List.all_eq_false]; exact ⟨t, List.mem_of_getElem? hx, by simp [h]⟩
  unfold validB; simp [this]
theorem all_ok {n : Net} (h : ∀ j t, j < n.trans.length → n.trans[j]? = some t → trOk n.places t = true) : n.trans.all (trOk n.places) = true := by
  rw [List.all_eq_true]
  intro t ht
  obtain ⟨q, hq, rfl⟩ := List.mem_iff_getElem.1 ht
  exact h q _ hq (List.getElem?_eq_getElem hq)
set_option maxHeartbeats 1000000 in
theorem valid_any (n : Net) (v : Value) (w : World) (h : IsNet (Lt w.heap.size) w v n) :
    Calls Tryz.prog 51 #[v] w fun e w' => e = .returned (.bool (validB n)) ∧ Below w.heap.size w w' := by
  obtain ⟨tv, rfl, hp, hs, hk, ht⟩ := h
  obtain ⟨A, c, rfl, h1, h2, ht⟩ := ht.open_
  by_cases g1 : 1 ≤ n.places
  · by_cases g2 : n.places ≤ 40
    · by_cases g3 : n.trans.length ≤ 60
      · go_enter Tryz.func51, Tryz.ntmps51
        go_wp2_with fail
        go_loopw [22] (fun i wr => ∃ k : Nat, k ≤ n.trans.length ∧ i = .int .i64 k ∧ (∀ j t, j < k → n.trans[j]? = some t → trOk n.places t = true) ∧ Below w.heap.size w wr ∧ Blk wr w.heap.size 24 #[.int .i64 n.places, .slice A n.trans.length c, .int .i64 n.source, .int .i64 n.sink]) (fun i _ => n.trans.length - (intOf i).toNat)
        case atStart => exact ⟨0, Nat.zero_le _, rfl, fun j _ h => absurd h (by omega), (Below.refl _ _).alloc (Nat.le_refl _) _, Blk.new _ _ _⟩
        case round =>
          obtain ⟨k, hk', rfl, hp', hb, hB⟩ := hrel
          have HP := Lib.hid hp'
          clear hp'
          have hlt0 := hB.lt
          obtain ⟨q0, q1, q2, q3⟩ := hB.c4
          by_cases hlt : k < n.trans.length
          · obtain ⟨b, o, t, iv, ov, rfl, hD, hx, hl, hi, ho, c0, c1, c2⟩ := (ht.now hb).at_ hlt
            obtain ⟨Ai, ci, rfl, i1, i2, hi⟩ := hi.open_
            obtain ⟨Ao, co, rfl, o1, o2, ho⟩ := ho.open_
            have HX := Lib.hid hx
            clear hx
            by_cases hlab : t.label.toList = []
            have HLab := Lib.hid (labelOk_empty hlab)
            rotate_left
            go_wp2_with fail
            refine (isName_any _ _ hl).mono ?_
            rintro e w0 ⟨rfl, rfl⟩
            have HLab := Lib.hid (labelOk_full hlab)
            generalize isNameB t.label = q at HLab ⊢
            cases q
            · have HE : Hid (validB n = false) := valid_bad_tr HX.out (by unfold trOk; rw [HLab.out]; rfl)
              go_wp2_with fail
              go_ret
              exact ⟨ret_bool HE.out.symm, bbox hb _⟩
            clear hlab
            go_wp2_with fail
            rotate_left
            go_wp2_with fail
            all_goals
              have hB1 := hB.alloc (.cells #[.string t.label, .slice Ai t.ins.length ci, .slice Ao t.outs.length co] 112)
              have hT1 := Blk.new wr 112 #[.string t.label, .slice Ai t.ins.length ci, .slice Ao t.outs.length co]
              refine (places_any _ _ _ _ _ t.ins _ (by exact hi.now (bone _ _))).mono ?_
              rintro e w1 ⟨rfl, hb1⟩
              obtain ⟨p0, p1, p2, p3⟩ := (hB1.now hb1).c4
              obtain ⟨r0, r1, r2⟩ := (hT1.now hb1).c3
              have HB1 := Lib.hid (hB1.now hb1)
              clear hB1 hT1
              generalize hq : placesB n.places t.ins = qi
              have HI := Lib.hid hq
              clear hq
              cases qi
              · have HE : Hid (validB n = false) := valid_bad_tr HX.out (by unfold trOk; rw [HI.out]; simp)
                go_wp2_with fail
                go_ret
                exact ⟨ret_bool HE.out.symm, bthen (bbox hb _) hb1⟩
              · go_wp2_with fail
                refine (places_any _ _ _ _ _ t.outs _ (by exact ho.now (bthen (bone _ _) hb1))).mono ?_
                rintro e w2 ⟨rfl, hb2⟩
                generalize hq : placesB n.places t.outs = qo
                have HO := Lib.hid hq
                clear hq
                cases qo
                · have HE : Hid (validB n = false) := valid_bad_tr HX.out (by unfold trOk; rw [HO.out]; simp)
                  go_wp2_with fail
                  go_ret
                  exact ⟨ret_bool HE.out.symm, bthen (bthen (bbox hb _) hb1) hb2⟩
                · go_wp2_with fail
                  go_roundw
                  case rel => exact ⟨k + 1, by omega, by go_num, fun j t' hj ht' => by
                    by_cases e : j = k
                    · subst e; rw [HX.out] at ht'; injection ht' with ht'; subst ht'
                      unfold trOk; rw [HLab.out, HI.out, HO.out]; rfl
                    · exact HP.out j t' (by omega) ht', bthen (bthen (bbox hb _) hb1) hb2, HB1.out.now hb2⟩
                  case measure => simp [intOf]; omega
          · have HA := Lib.hid (all_ok (n := n) (fun j t hj => HP.out j t (by omega)))
            go_wp2_with fail
            refine (places_any _ _ _ _ _ [n.source] _ (by exact SlI.single hs)).mono ?_
            rintro e w1 ⟨rfl, hb1⟩
            have hB1 := (hB.alloc (.cells #[.int .i64 n.source] 3)).now hb1
            obtain ⟨p0, p1, p2, p3⟩ := hB1.c4
            have hsz1 := hB1.lt
            rw [places_single]
            generalize hq : inside n.places n.source = qs
            have HS := Lib.hid hq
            clear hq
            cases qs
            · have HE : Hid (validB n = false) := by show validB n = false; unfold validB; rw [HS.out]; simp
              go_wp2_with fail
              go_ret
              exact ⟨ret_bool HE.out.symm, bthen (bbox hb _) hb1⟩
            · go_wp2_with fail
              refine (places_any _ _ _ _ _ [n.sink] _ (by exact SlI.single ‹_›)).mono ?_
              rintro e w2 ⟨rfl, hb2⟩
              rw [places_single]
              have HE : Hid (validB n = inside n.places n.sink) := by show validB n = _; unfold validB; rw [HS.out, HA.out]; simp [g1, g2, g3]
              generalize inside n.places n.sink = qk at HE
              go_wp2_with fail
              go_ret
              exact ⟨ret_bool HE.out.symm, bthen (bbox (bthen (bbox hb _) hb1) _) hb2⟩
      · have HE : Hid (validB n = false) := by show validB n = false; unfold validB; simp [g3]
        go_enter Tryz.func51, Tryz.ntmps51
        go_wp2_with fail
        go_ret
        exact ⟨ret_bool HE.out.symm, bone _ _⟩
    · have HE : Hid (validB n = false) := by show validB n = false; unfold validB; simp [g2]
      go_enter Tryz.func51, Tryz.ntmps51
      go_wp2_with fail
      go_ret
      exact ⟨ret_bool HE.out.symm, bone _ _⟩
  · have HE : Hid (validB n = false) := by show validB n = false; unfold validB; simp [g1]
    go_enter Tryz.func51, Tryz.ntmps51
    go_wp2_with fail
    go_ret
    exact ⟨ret_bool HE.out.symm, bone _ _⟩
set_option maxHeartbeats 1000000 in
theorem valid_ref (n : Net) (v : Value) (w : World) (h : IsNet (Lt w.heap.size) w v n) :
    Calls Tryz.prog 74 #[v] w fun e w' => e = .returned (.bool (validB n)) ∧ Below w.heap.size w w' := by
  obtain ⟨tv, rfl, hp, hs, hk, ht⟩ := h
  obtain ⟨A, c, rfl, h1, h2, ht⟩ := ht.open_
  by_cases g : 1 ≤ n.places ∧ n.places ≤ 40 ∧ n.trans.length ≤ 60 ∧ 0 ≤ n.source ∧ n.source < n.places ∧ 0 ≤ n.sink ∧ n.sink < n.places
  · obtain ⟨g1, g2, g3, g4, g5, g6, g7⟩ := g
    go_enter Tryz.func74, Tryz.ntmps74
    go_wp2_with fail
    go_loopw [3] (fun i wr => ∃ k : Nat, k ≤ n.trans.length ∧ i = .int .i64 k ∧ (∀ j t, j < k → n.trans[j]? = some t → trOk n.places t = true) ∧ Below w.heap.size w wr ∧ Blk wr w.heap.size 24 #[.int .i64 n.places, .slice A n.trans.length c, .int .i64 n.source, .int .i64 n.sink]) (fun i _ => n.trans.length - (intOf i).toNat)
    case atStart => exact ⟨0, Nat.zero_le _, rfl, fun j _ h => absurd h (by omega), (Below.refl _ _).alloc (Nat.le_refl _) _, Blk.new _ _ _⟩
    case round =>
      obtain ⟨k, hk', rfl, hp', hb, hB⟩ := hrel
      have HP := Lib.hid hp'
      clear hp'
      have hlt0 := hB.lt
      obtain ⟨q0, q1, q2, q3⟩ := hB.c4
      by_cases hlt : k < n.trans.length
      · obtain ⟨b, o, t, iv, ov, rfl, hD, hx, hl, hi, ho, c0, c1, c2⟩ := (ht.now hb).at_ hlt
        obtain ⟨Ai, ci, rfl, i1, i2, hi⟩ := hi.open_
        obtain ⟨Ao, co, rfl, o1, o2, ho⟩ := ho.open_
        have HX := Lib.hid hx
        clear hx
        by_cases hlab : t.label.toList = []
        have HLab := Lib.hid (labelOk_empty hlab)
        rotate_left
        go_wp2_with fail
        refine (isName_ref _ _ hl).mono ?_
        rintro e w0 ⟨rfl, rfl⟩
        have HLab := Lib.hid (labelOk_full hlab)
        generalize isNameB t.label = q at HLab ⊢
        cases q
        · have HE : Hid (validB n = false) := valid_bad_tr HX.out (by unfold trOk; rw [HLab.out]; rfl)
          go_wp2_with fail
          go_ret
          exact ⟨ret_bool HE.out.symm, bbox hb _⟩
        clear hlab
        go_wp2_with fail
        rotate_left
        go_wp2_with fail
        all_goals
          have hB1 := hB.alloc (.cells #[.string t.label, .slice Ai t.ins.length ci, .slice Ao t.outs.length co] 112)
          have hT1 := Blk.new wr 112 #[.string t.label, .slice Ai t.ins.length ci, .slice Ao t.outs.length co]
          refine (places_ref _ _ t.ins _ (by exact hi.now (bone _ _))).mono ?_
          rintro e w1 ⟨rfl, hb1⟩
          obtain ⟨p0, p1, p2, p3⟩ := (hB1.now hb1).c4
          obtain ⟨r0, r1, r2⟩ := (hT1.now hb1).c3
          have HB1 := Lib.hid (hB1.now hb1)
          clear hB1 hT1
          generalize hq : placesB n.places t.ins = qi
          have HI := Lib.hid hq
          clear hq
          cases qi
          · have HE : Hid (validB n = false) := valid_bad_tr HX.out (by unfold trOk; rw [HI.out]; simp)
            go_wp2_with fail
            go_ret
            exact ⟨ret_bool HE.out.symm, bthen (bbox hb _) hb1⟩
          · go_wp2_with fail
            refine (places_ref _ _ t.outs _ (by exact ho.now (bthen (bone _ _) hb1))).mono ?_
            rintro e w2 ⟨rfl, hb2⟩
            generalize hq : placesB n.places t.outs = qo
            have HO := Lib.hid hq
            clear hq
            cases qo
            · have HE : Hid (validB n = false) := valid_bad_tr HX.out (by unfold trOk; rw [HO.out]; simp)
              go_wp2_with fail
              go_ret
              exact ⟨ret_bool HE.out.symm, bthen (bthen (bbox hb _) hb1) hb2⟩
            · go_wp2_with fail
              go_roundw
              case rel => exact ⟨k + 1, by omega, by go_num, fun j t' hj ht' => by
                by_cases e : j = k
                · subst e; rw [HX.out] at ht'; injection ht' with ht'; subst ht'
                  unfold trOk; rw [HLab.out, HI.out, HO.out]; rfl
                · exact HP.out j t' (by omega) ht', bthen (bthen (bbox hb _) hb1) hb2, HB1.out.now hb2⟩
              case measure => simp [intOf]; omega
      · have HA := Lib.hid (all_ok (n := n) (fun j t hj => HP.out j t (by omega)))
        have HE : Hid (validB n = true) := by show validB n = _; unfold validB inside; rw [HA.out]; simp [g1, g2, g3, g4, g5, g6, g7]
        go_wp2_with fail
        go_ret
        exact ⟨ret_bool HE.out.symm, hb⟩
  · have HE : Hid (validB n = false) := by
      show validB n = false
      cases e : validB n with
      | false => rfl
      | true => exact absurd (by unfold validB inside at e; simp at e; omega) g
    by_cases g1 : 1 ≤ n.places
    rotate_left
    · clear g
      go_enter Tryz.func74, Tryz.ntmps74
      go_wp2_with fail
      go_ret
      exact ⟨ret_bool HE.out.symm, bone _ _⟩
    by_cases g2 : n.places ≤ 40
    rotate_left
    · clear g
      go_enter Tryz.func74, Tryz.ntmps74
      go_wp2_with fail
      go_ret
      exact ⟨ret_bool HE.out.symm, bone _ _⟩
    by_cases g3 : n.trans.length ≤ 60
    rotate_left
    · clear g
      go_enter Tryz.func74, Tryz.ntmps74
      go_wp2_with fail
      go_ret
      exact ⟨ret_bool HE.out.symm, bone _ _⟩
    by_cases g4 : 0 ≤ n.source
    rotate_left
    · clear g
      go_enter Tryz.func74, Tryz.ntmps74
      go_wp2_with fail
      go_ret
      exact ⟨ret_bool HE.out.symm, bone _ _⟩
    by_cases g5 : n.source < n.places
    rotate_left
    · clear g
      go_enter Tryz.func74, Tryz.ntmps74
      go_wp2_with fail
      go_ret
      exact ⟨ret_bool HE.out.symm, bone _ _⟩
    by_cases g6 : 0 ≤ n.sink
    rotate_left
    · clear g
      go_enter Tryz.func74, Tryz.ntmps74
      go_wp2_with fail
      go_ret
      exact ⟨ret_bool HE.out.symm, bone _ _⟩
    have g7 : ¬ n.sink < n.places := by omega
    clear g
    go_enter Tryz.func74, Tryz.ntmps74
    go_wp2_with fail
    go_ret
    exact ⟨ret_bool HE.out.symm, bone _ _⟩
end Go.Proofs.YtlmenhjlgmejkaaGreatDoor
