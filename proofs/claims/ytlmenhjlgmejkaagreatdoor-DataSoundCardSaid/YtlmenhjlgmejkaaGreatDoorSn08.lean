/- Merged texts. -/
import Derived.Test.YtlmenhjlgmejkaaGreatDoorSn07
set_option linter.all false
namespace Go.Proofs.YtlmenhjlgmejkaaGreatDoor
open Go.RowKit
theorem num_yes {n : Int} (h : numB n = true) : numV n = some ⟨2, n, emptyS⟩ := by unfold numV; rw [if_pos h]
theorem num_no {n : Int} (h : numB n = false) : numV n = none := by unfold numV; rw [h]; rfl
set_option maxHeartbeats 400000 in
theorem truth_any (b : Bool) (w : World) : Calls Tryz.prog 167 #[.bool b] w fun e w' => e = .returned (valV (truthV b)) ∧ Below w.heap.size w w' := by
 have hb := bone w (.cells #[.int .i64 0, .int .i64 0, .string ⟨#[]⟩] 63)
 have hB := Blk.new w 63 #[.int .i64 0, .int .i64 0, .string ⟨#[]⟩]
 obtain ⟨x0, x1, x2⟩ := hB.c3
 have k0 := hB.frozen 0
 have k1 := hB.frozen 1
 have k2 := hB.frozen 2
 cases b
 ·go_enter Tryz.func167, Tryz.ntmps167
  go_upto_region 1 with fail
  generalize hw1 : w.alloc (.cells #[.int .i64 0, .int .i64 0, .string ⟨#[]⟩] 63) = w1 at *
  clear hw1
  go_wp2_with fail
  obtain ⟨t0, t1, t2⟩ := (hB.set3 (.int .i64 1) (.int .i64 0) (.string ⟨#[]⟩)).c3
  refine bodyPost_ret (v := .agg #[.int .i64 1, .int .i64 0, .string ⟨#[]⟩]) (by simp [results, Tryz.results167, go_sem, t0, t1, t2]) rfl ?_
  exact ⟨rfl, bset3 hb (Nat.le_refl _) _ _ _⟩
 ·go_enter Tryz.func167, Tryz.ntmps167
  go_upto_region 1 with fail
  generalize hw1 : w.alloc (.cells #[.int .i64 0, .int .i64 0, .string ⟨#[]⟩] 63) = w1 at *
  clear hw1
  go_wp2_with fail
  obtain ⟨t0, t1, t2⟩ := (hB.set3 (.int .i64 1) (.int .i64 1) (.string ⟨#[]⟩)).c3
  refine bodyPost_ret (v := .agg #[.int .i64 1, .int .i64 1, .string ⟨#[]⟩]) (by simp [results, Tryz.results167, go_sem, t0, t1, t2]) rfl ?_
  exact ⟨rfl, bset3 hb (Nat.le_refl _) _ _ _⟩
def RetO (o : Option Val) (w : World) (e : Ending) (w' : World) : Prop :=
 ∃ v : Val, e = .returned (.tuple #[.agg #[.int .i64 v.kind, .int .i64 v.n, .string v.s], .bool o.isSome]) ∧ (∀ a, o = some a → v = a) ∧ Below w.heap.size w w'
set_option maxHeartbeats 400000 in
theorem enumber_any (n : Int) (w : World) (hn : Fit n) : Calls Tryz.prog 169 #[.int .i64 n] w (RetO (numV n) w) := by
 unfold Fit at hn
 have hb := bone w (.cells #[.int .i64 0, .int .i64 0, .string ⟨#[]⟩] 63)
 have hB := Blk.new w 63 #[.int .i64 0, .int .i64 0, .string ⟨#[]⟩]
 obtain ⟨x0, x1, x2⟩ := hB.c3
 have k0 := hB.frozen 0
 have k1 := hB.frozen 1
 have k2 := hB.frozen 2
 by_cases h1 : -4503599627370496 ≤ n <;> by_cases h2 : n ≤ 4503599627370496
 ·have HN := Lib.hid (num_yes (numB_yes h1 h2))
  generalize numV n = r at *
  go_enter Tryz.func169, Tryz.ntmps169
  go_upto_region 1 with fail
  generalize hw1 : w.alloc (.cells #[.int .i64 0, .int .i64 0, .string ⟨#[]⟩] 63) = w1 at *
  clear hw1
  go_wp2_with fail
  obtain ⟨t0, t1, t2⟩ := (hB.set3 (.int .i64 2) (.int .i64 n) (.string ⟨#[]⟩)).c3
  refine bodyPost_ret (v := .tuple #[.agg #[.int .i64 2, .int .i64 n, .string ⟨#[]⟩], .bool true]) (by simp [results, Tryz.results169, go_sem, t0, t1, t2]) rfl ?_
  exact ⟨⟨2, n, ⟨#[]⟩⟩, by rw [HN.out]; rfl, fun a h => (by rw [HN.out] at h; injection h), bset3 hb (Nat.le_refl _) _ _ _⟩
 rotate_left 2
 ·exfalso; omega
 all_goals
  have HN := Lib.hid (num_no (numB_no (n := n) (fun h => by omega)))
  generalize numV n = r at *
  try (have h1' : n < -4503599627370496 := by omega)
  try (have h2' : 4503599627370496 < n := by omega)
  try (have d2 : decide (n ≤ 4503599627370496) = false := decide_eq_false (by omega))
  clear h1 h2
  try (have h1 : -4503599627370496 ≤ n := by omega)
  go_enter Tryz.func169, Tryz.ntmps169
  go_upto_region 1 with fail
  generalize hw1 : w.alloc (.cells #[.int .i64 0, .int .i64 0, .string ⟨#[]⟩] 63) = w1 at *
  clear hw1
  go_wp2_with fail
  obtain ⟨t0, t1, t2⟩ := (hB.set3 (.int .i64 2) (.int .i64 n) (.string ⟨#[]⟩)).c3
  refine bodyPost_ret (v := .tuple #[.agg #[.int .i64 2, .int .i64 n, .string ⟨#[]⟩], .bool false]) (by simp [results, Tryz.results169, go_sem, t0, t1, t2]) rfl ?_
  exact ⟨⟨2, n, ⟨#[]⟩⟩, by rw [HN.out]; rfl, fun a h => (by rw [HN.out] at h; cases h), bset3 hb (Nat.le_refl _) _ _ _⟩
theorem RetO.cast {o o' : Option Val} {w w' : World} {e : Ending} (h : o' = o) (k : RetO o w e w') : RetO o' w e w' := by rw [h]; exact k
set_option maxHeartbeats 1000000 in
theorem product_any (a b : Int) (w : World) (ha : -4503599627370496 ≤ a ∧ a ≤ 4503599627370496) (hb0 : -4503599627370496 ≤ b ∧ b ≤ 4503599627370496) :
  Calls Tryz.prog 170 #[.int .i64 a, .int .i64 b] w (RetO (numV (a * b)) w) := by
 have hb := bone w (.cells #[.int .i64 0, .int .i64 0, .string ⟨#[]⟩] 63)
 have hB := Blk.new w 63 #[.int .i64 0, .int .i64 0, .string ⟨#[]⟩]
 go_enter Tryz.func170, Tryz.ntmps170
 go_upto_region 1 with fail
 generalize hw1 : w.alloc (.cells #[.int .i64 0, .int .i64 0, .string ⟨#[]⟩] 63) = w1 at *
 clear hw1
 have HST : Hid (∀ (W : World) (x y z : Value), Below w1.heap.size w1 W →
   (W.frozen? ⟨w.heap.size, 0, none⟩ = false ∧ W.frozen? ⟨w.heap.size, 1, none⟩ = false ∧ W.frozen? ⟨w.heap.size, 2, none⟩ = false) ∧
   Blk (((W.setCell ⟨w.heap.size, 0, none⟩ x).setCell ⟨w.heap.size, 1, none⟩ y).setCell ⟨w.heap.size, 2, none⟩ z) w.heap.size 63 #[x, y, z] ∧
   (W.cell? ⟨w.heap.size, 0, none⟩ = some (.int .i64 0) ∧ W.cell? ⟨w.heap.size, 1, none⟩ = some (.int .i64 0) ∧ W.cell? ⟨w.heap.size, 2, none⟩ = some (.string ⟨#[]⟩)) ∧
   Below w.heap.size w (((W.setCell ⟨w.heap.size, 0, none⟩ x).setCell ⟨w.heap.size, 1, none⟩ y).setCell ⟨w.heap.size, 2, none⟩ z)) :=
  fun W x y z hW => ⟨⟨(hB.now hW).frozen 0, (hB.now hW).frozen 1, (hB.now hW).frozen 2⟩, (hB.now hW).set3 _ _ _, (hB.now hW).c3, bset3 (bthen hb hW) (Nat.le_refl _) _ _ _⟩
 clear hb hB
 by_cases hz : a = 0 ∨ b = 0
 ·have e0 : a * b = 0 := by rcases hz with h | h <;> simp [h]
  have HEE : Hid (numV (a * b) = numV 0) := by show _ = _; rw [e0]
  have HZ : Hid (∀ Q : Prop, ((a == 0) = true → Q) → ((a == 0) = false → (b == 0) = true → Q) → Q) := by
   intro Q h1 h2
   by_cases e : a = 0
   ·exact h1 (by simp [e])
   ·exact h2 (by simp [e]) (by rcases hz with h | h; exact absurd h e; simp [h])
  clear hz e0
  refine HZ.out _ (fun b1 => ?_) (fun b1 b2 => ?_)
  all_goals
   go_wp2_with fail
   refine (enumber_any 0 _ (by unfold Fit; omega)).mono ?_
   rintro e w2 ⟨v, rfl, hv, hb2⟩
   obtain ⟨⟨k0, k1, k2⟩, hS, ⟨y0, y1, y2⟩, hbS⟩ := HST.out _ (.int .i64 v.kind) (.int .i64 v.n) (.string v.s) hb2
   generalize numV 0 = r at *
   go_wp2_with fail
   obtain ⟨t0, t1, t2⟩ := hS.c3
   refine bodyPost_ret (v := .tuple #[.agg #[.int .i64 v.kind, .int .i64 v.n, .string v.s], .bool r.isSome]) (by simp [results, Tryz.results170, go_sem, t0, t1, t2]) rfl ?_
   exact RetO.cast HEE.out ⟨v, rfl, hv, hbS⟩
 ·have ha0 : a ≠ 0 := fun h => hz (.inl h)
  have hb1 : b ≠ 0 := fun h => hz (.inr h)
  have b1 : (a == 0) = false := by simp [ha0]
  have b2 : (b == 0) = false := by simp [hb1]
  have hMQ := fun hq => mul_quo (a := a) (b := b) (n := IntKind.i64.wrap (a * b)) hb0 hb1 rfl hq
  have hMF := fun h => mul_fits (a := a) (b := b) hb1 h
  have hwf : -9223372036854775808 ≤ IntKind.i64.wrap (a * b) ∧ IntKind.i64.wrap (a * b) ≤ 9223372036854775807 := by rw [IntKind.wrap_i64]; omega
  generalize hw : IntKind.i64.wrap (a * b) = n at *
  clear hz
  have hbn : ¬ b = -1 ∨ ¬ n = -9223372036854775808 := by
   rcases Classical.em (b = -1) with e | e
   ·right
    rw [e, IntWalk.i64_in _ (by omega)] at hw
    omega
   ·exact .inl e
  by_cases hq : Int.tdiv n b = a
  ·have e := hMQ hq
   have b3 : (Int.tdiv n b != a) = false := by simp [hq]
   have wq : IntKind.i64.wrap (Int.tdiv n b) = Int.tdiv n b := by rw [hq]; exact IntWalk.i64_in _ (by omega)
   have HEE : Hid (numV (a * b) = numV n) := by show _ = _; rw [← e]
   clear hMQ hMF hq e
   go_wp2_with fail
   refine (enumber_any n _ (by unfold Fit; omega)).mono ?_
   rintro e' w2 ⟨v, rfl, hv, hb2⟩
   obtain ⟨⟨k0, k1, k2⟩, hS, ⟨y0, y1, y2⟩, hbS⟩ := HST.out _ (.int .i64 v.kind) (.int .i64 v.n) (.string v.s) hb2
   generalize numV n = r at *
   go_wp2_with fail
   obtain ⟨t0, t1, t2⟩ := hS.c3
   refine bodyPost_ret (v := .tuple #[.agg #[.int .i64 v.kind, .int .i64 v.n, .string v.s], .bool r.isSome]) (by simp [results, Tryz.results170, go_sem, t0, t1, t2]) rfl ?_
   exact RetO.cast HEE.out ⟨v, rfl, hv, hbS⟩
  ·have HNO : Hid (numV (a * b) = none) := by
    refine num_no (numB_no (fun h => ?_))
    obtain ⟨e1, e2⟩ := hMF h
    rw [← e1] at e2
    exact hq e2
   have b3 : (Int.tdiv n b != a) = true := by simp [hq]
   have wq : IntKind.i64.wrap (Int.tdiv n b) = Int.tdiv n b := by
    have h1 := Int.natAbs_tdiv_le_natAbs n b
    refine IntWalk.i64_in _ ?_
    rcases hbn with h | h
    ·rcases Classical.em (n = -9223372036854775808) with e | e
     ·rcases Classical.em (b = 1) with e2 | e2
      ·rw [e2, Int.tdiv_one]; omega
      ·have h2 : (Int.tdiv n b).natAbs ≤ 4611686018427387904 := by
        rw [Int.natAbs_tdiv]
        exact Nat.le_trans (Nat.div_le_div_left (c := 2) (by omega) (by omega)) (by omega)
       omega
     ·omega
    ·omega
   clear hMQ hMF hq hbn
   obtain ⟨⟨k0, k1, k2⟩, hS, ⟨y0, y1, y2⟩, hbS⟩ := HST.out _ (.int .i64 0) (.int .i64 0) (.string ⟨#[]⟩) (Below.refl _ _)
   go_wp2_with fail
   obtain ⟨t0, t1, t2⟩ := hS.c3
   refine bodyPost_ret (v := .tuple #[.agg #[.int .i64 0, .int .i64 0, .string ⟨#[]⟩], .bool false]) (by simp [results, Tryz.results170, go_sem, t0, t1, t2]) rfl ?_
   exact ⟨⟨0, 0, ⟨#[]⟩⟩, by rw [HNO.out]; rfl, fun x h => (by rw [HNO.out] at h; cases h), hbS⟩
theorem findV_any (vs : List Var) (s : ByteArray) : findV vs s < 0 ∨ ∃ i : Nat, findV vs s = i ∧ i < vs.length := by
 unfold findV
 cases hf : vs.findIdx? (fun x => x.name.toList == s.toList) with
 | none => left; decide
 | some i =>
  rw [List.findIdx?_eq_some_iff_getElem] at hf
  obtain ⟨h1, _⟩ := hf
  exact .inr ⟨i, rfl, h1⟩
theorem findV_hit {vs : List Var} {s : ByteArray} {j : Nat} {x : Var} (hx : vs[j]? = some x) (h : (x.name.toList == s.toList) = true) (hp : ∀ q y, q < j → vs[q]? = some y → (y.name.toList == s.toList) = false) : findV vs s = j := by
 unfold findV
 have hj : j < vs.length := by
  rcases Nat.lt_or_ge j vs.length with h | h
  ·exact h
  ·rw [List.getElem?_eq_none h] at hx; cases hx
 rw [List.getElem?_eq_getElem hj] at hx
 injection hx with hx
 have : vs.findIdx? (fun x => x.name.toList == s.toList) = some j := by
  rw [List.findIdx?_eq_some_iff_getElem]
  refine ⟨hj, by rw [hx]; exact h, fun q hq => ?_⟩
  have := hp q vs[q] hq (List.getElem?_eq_getElem (by omega))
  rw [this]; simp
 rw [this]
theorem findV_none {vs : List Var} {s : ByteArray} (hp : ∀ q y, q < vs.length → vs[q]? = some y → (y.name.toList == s.toList) = false) : findV vs s = -1 := by
 unfold findV
 have : vs.findIdx? (fun x => x.name.toList == s.toList) = none := by
  rw [List.findIdx?_eq_none_iff]
  intro x hx
  obtain ⟨q, hq, rfl⟩ := List.mem_iff_getElem.1 hx
  exact hp q _ hq (List.getElem?_eq_getElem hq)
 rw [this]
set_option maxHeartbeats 400000 in
theorem find1_any (x : Var) (g : Nat) (s : ByteArray) (u : Value) (w : World) (h : IsVar (Lt w.heap.size) w u x) (hB : Blk w g 9 #[.string s]) :
  Calls Tryz.prog 187 #[u, .pointer (some ⟨g, 0, none⟩)] w fun e w' => e = .returned (.bool (x.name.toList == s.toList)) ∧ Below w.heap.size w w' := by
 obtain ⟨iv, rfl, h1, h2, h3, h4, h5⟩ := h
 have hb := bone w (.cells #[.string x.name, .int .i64 x.kind, .int .i64 x.low, .int .i64 x.high, iv] 117)
 have hB1 := hB.alloc (.cells #[.string x.name, .int .i64 x.kind, .int .i64 x.low, .int .i64 x.high, iv] 117)
 have c0 := hB1.c1
 go_enter Tryz.func187, Tryz.ntmps187
 go_wp2_with fail
 go_ret
 exact ⟨rfl, hb⟩
set_option maxHeartbeats 1000000 in
theorem indexFind (g : Nat) (s : ByteArray) (tv : Value) (ts : List Var) (w : World) (ht : SlX (Lt w.heap.size) w tv ts) (hB : Blk w g 9 #[.string s]) :
  Calls Tryz.prog 102 #[tv, .func (.func 187) #[] #[.pointer (some ⟨g, 0, none⟩)]] w fun e w' => e = .returned (.int .i64 (findV ts s)) ∧ Below w.heap.size w w' := by
 have eg : ∀ a w, (callFunc 187 #[a, .pointer (some ⟨g, 0, none⟩)]).run Tryz.prog w = .ok (.enter 187 #[a, .pointer (some ⟨g, 0, none⟩)]) w := fun a w => enters_of Tryz.func187 (by kernel_rfl) rfl _ w
 obtain ⟨A, c, rfl, h1, h2, ht⟩ := ht.open_
 go_enter Tryz.func102, Tryz.ntmps102
 go_wp2_with fail
 go_loopw [8] (fun i wr => ∃ j : Nat, j ≤ ts.length ∧ i = .int .i64 j ∧ (∀ q y, q < j → ts[q]? = some y → (y.name.toList == s.toList) = false) ∧ Below w.heap.size w wr) (fun i _ => ts.length - (intOf i).toNat)
 case atStart => exact ⟨0, Nat.zero_le _, rfl, fun q _ h => absurd h (by omega), Below.refl _ _⟩
 case round =>
  obtain ⟨j, hj, rfl, hp, hb⟩ := hrel
  have HP := Lib.hid hp
  clear hp
  by_cases hlt : j < ts.length
  ·obtain ⟨b, o, x, iv, rfl, hD, hx, hvar, hiv, c0, c1, c2, c3, c4⟩ := (ht.now hb).at_ hlt
   have hcall := find1_any x g s _ wr hvar (hB.now hb)
   have HX := Lib.hid hx
   clear hx hvar hiv
   generalize hq : (x.name.toList == s.toList) = q at *
   have HQ := Lib.hid hq
   have HC := Lib.hid hcall
   clear hcall hq
   cases q
   ·go_wp2_with (go_at_fn 187; refine HC.out.mono ?_; rintro e w' ⟨rfl, hb'⟩)
    go_roundw
    case rel =>
     refine ⟨j + 1, by omega, by go_num, fun q y hq hy => ?_, bthen hb hb'⟩
     by_cases e : q = j
     ·subst e; rw [HX.out] at hy; injection hy with hy; subst hy; exact HQ.out
     ·exact HP.out q y (by omega) hy
    case measure => simp [intOf]; omega
   ·have HF := Lib.hid (findV_hit HX.out HQ.out HP.out)
    go_wp2_with (go_at_fn 187; refine HC.out.mono ?_; rintro e w' ⟨rfl, hb'⟩)
    go_ret
    exact ⟨ret_int HF.out.symm, bthen hb hb'⟩
  ·obtain rfl : j = ts.length := by omega
   have HF := Lib.hid (findV_none HP.out)
   go_wp2_with fail
   go_ret
   exact ⟨ret_int HF.out.symm, hb⟩
theorem find_any (vs : List Var) (s : ByteArray) (u : Value) (w : World) (h : SlX (Lt w.heap.size) w u vs) :
  Calls Tryz.prog 166 #[u, .string s] w fun e w' => e = .returned (.int .i64 (findV vs s)) ∧ Below w.heap.size w w' := by
 have hb := bone w (.cells #[.string s] 9)
 have hB := Blk.new w 9 #[.string s]
 have HC := Lib.hid (indexFind w.heap.size s u vs _ (h.now hb) hB)
 clear hB h
 go_enter Tryz.func166, Tryz.ntmps166
 go_wp2_with fail
 refine HC.out.mono ?_
 rintro e w1 ⟨rfl, hb1⟩
 go_wp2_with fail
 go_ret
 exact ⟨rfl, bthen hb hb1⟩
set_option maxHeartbeats 400000 in
theorem find_ref (vs : List Var) (s : ByteArray) (u : Value) (w : World) (h : SlX (Lt w.heap.size) w u vs) :
  Calls Tryz.prog 146 #[u, .string s] w fun e w' => e = .returned (.int .i64 (findV vs s)) ∧ w = w' := by
 obtain ⟨A, c, rfl, h1, h2, ht⟩ := h.open_
 go_enter Tryz.func146, Tryz.ntmps146
 go_wp2_with fail
 go_loop [5] (fun i => ∃ j : Nat, j ≤ vs.length ∧ i = .int .i64 j ∧ (∀ q y, q < j → vs[q]? = some y → (y.name.toList == s.toList) = false)) (fun i => vs.length - (intOf i).toNat)
 case atStart => exact ⟨0, Nat.zero_le _, rfl, fun q _ h => absurd h (by omega)⟩
 case round =>
  obtain ⟨j, hj, rfl, hp⟩ := hrel
  have HP := Lib.hid hp
  clear hp
  by_cases hlt : j < vs.length
  ·obtain ⟨b, o, x, iv, rfl, hD, hx, hvar, hiv, c0, c1, c2, c3, c4⟩ := ht.at_ hlt
   have HX := Lib.hid hx
   clear hx hvar hiv
   cases hq : (x.name.toList == s.toList)
   ·have HQ := Lib.hid hq
    go_wp2_with fail
    go_round
    case rel =>
     refine ⟨j + 1, by omega, by go_num, fun q y hq hy => ?_⟩
     by_cases e : q = j
     ·subst e; rw [HX.out] at hy; injection hy with hy; subst hy; exact HQ.out
     ·exact HP.out q y (by omega) hy
    case measure => simp [intOf]; omega
   ·have HF := Lib.hid (findV_hit HX.out hq HP.out)
    go_wp2_with fail
    go_ret
    exact ⟨ret_int HF.out.symm, rfl⟩
  ·obtain rfl : j = vs.length := by omega
   have HF := Lib.hid (findV_none HP.out)
   go_wp2_with fail
   go_ret
   exact ⟨ret_int HF.out.symm, rfl⟩
theorem run_make_cap {P : Program} (t e : TypeId) (z : Value) (bytes : Nat) (ht : P.underlying t = some (.slice e)) (hi : (P.info? e).map (fun i => (i.zero, i.size, i.bytes)) = some (some z, 1, bytes)) (n : Nat) (hn : n ≤ 10000000) (hb : bytes ≤ 4096) (hzc : z.cells = #[z]) (w : World) :
  (Instr.makeSlice t (.int .i64 0) (.int .i64 (n : Int))).run P w = .ok (.slice (some ⟨w.heap.size, 0, none⟩) 0 n) (w.alloc (.cells (madeCells #[z] n) e)) := by
 obtain ⟨i, hi, hz, hs, hby⟩ := info_parts hi
 have hb' : (i.bytes : Int) * (n : Int) ≤ 281474976710656 := by
  have h1 : i.bytes * n ≤ 4096 * 10000000 := Nat.mul_le_mul (by omega) hn
  have h : ((i.bytes * n : Nat) : Int) ≤ 281474976710656 := by omega
  rwa [Int.natCast_mul] at h
 have hr := run_make (P := P) w t e i z ht hi hz .i64 .i64 0 n (by omega) (by omega) hb' (by omega)
 simp only [Int.toNat_natCast] at hr
 rw [hs, hzc, Nat.mul_one] at hr
 exact hr
theorem own_room (w : World) (t n : Nat) (hn : n ≤ maxLen) : (w.alloc (.cells (madeCells #[.int .i64 0] n) t)).ownsRow w.heap.size t 1 (.slice (some ⟨w.heap.size, 0, none⟩) 0 n) 0 [] :=
 ⟨rfl, .inr ⟨w.heap.size, n, madeCells #[.int .i64 0] n, rfl, Nat.le_refl _, heap_alloc_new w _, Nat.zero_le _, hn, by simp [madeCells], rfl⟩⟩
set_option maxHeartbeats 400000 in
theorem typed11_any (z k : Int) (g : Nat) (w : World) (hB : Blk w g 3 #[.int .i64 k]) :
  Calls Tryz.prog 186 #[.int .i64 z, .pointer (some ⟨g, 0, none⟩)] w fun e w' => e = .returned (.bool (!(z == k))) ∧ Below w.heap.size w w' := by
 have c0 := hB.c1
 generalize hq : (z == k) = q
 have b1 : (z != k) = !q := by rw [bne, hq]
 go_enter Tryz.func186, Tryz.ntmps186
 go_wp2_with fail
 go_ret
 exact ⟨rfl, Below.refl _ _⟩
theorem any_not_allI (l : List Int) (k : Int) : (l.any fun z => !(z == k)) = !(l.all (· == k)) := by
 induction l with
 | nil => rfl
 | cons a m ih => rw [List.any_cons, List.all_cons, ih]; simp
set_option maxHeartbeats 400000 in
theorem all_any (k : Int) (g : Nat) (kv : Value) (ks : List Int) (w : World) (hB : Blk w g 31 #[kv]) (hk : SlI (Lt w.heap.size) w kv ks) :
  Calls Tryz.prog 185 #[.int .i64 k, .pointer (some ⟨g, 0, none⟩)] w fun e w' => e = .returned (.bool (ks.all (· == k))) ∧ Below w.heap.size w w' := by
 have eg : ∀ args w, (callFunc 186 args).run Tryz.prog w = .ok (.enter 186 args) w := enters_of Tryz.func186 (by kernel_rfl) rfl
 have hb := bone w (.cells #[.int .i64 k] 3)
 have hK := Blk.new w 3 #[.int .i64 k]
 have hB1 := hB.alloc (.cells #[.int .i64 k] 3)
 have c0 := hB1.c1
 have HC := Lib.hid (containsFuncI 186 eg #[.pointer (some ⟨w.heap.size, 0, none⟩)] kv ks (fun z => !(z == k)) _ (hk.now hb) (fun z v w1 _ hb1 _ hv => by
  obtain ⟨rfl, _⟩ := hv
  exact typed11_any z k w.heap.size w1 (hK.now hb1)))
 have HN := Lib.hid (any_not_allI ks k)
 clear hB hB1 hK hk eg
 go_enter Tryz.func185, Tryz.ntmps185
 go_wp2_with fail
 refine HC.out.mono ?_
 rintro e w1 ⟨rfl, hb1⟩
 rw [HN.out]
 generalize hq : ks.all (fun x => x == k) = q
 clear c0
 go_wp2_with fail
 go_ret
 exact ⟨ret_bool (by rw [hq] <;> simp), bthen hb hb1⟩
def kindsOf (vs : List Var) (l : List Ex) : List Int := l.map fun x => (typX vs x).1
theorem kinds_snoc {vs : List Var} {l : List Ex} {k : Nat} {x : Ex} (hx : l[k]? = some x) : kindsOf vs (l.take (k + 1)) = kindsOf vs (l.take k) ++ [(typX vs x).1] := by
 unfold kindsOf
 rw [List.take_add_one, hx, List.map_append]; rfl
theorem typL_stop {vs : List Var} {l : List Ex} {k : Nat} {x : Ex} (hx : l[k]? = some x) (h : (typX vs x).2 ≠ 0) (hp : ∀ y ∈ l.take k, (typX vs y).2 = 0) : (typL vs l).2 = (typX vs x).2 := by
 induction l generalizing k with
 | nil => simp at hx
 | cons a l ih =>
  rw [typL_cons]
  cases k with
  | zero =>
   injection hx with hx
   rw [hx, if_pos h]
  | succ k =>
   have h0 : (typX vs a).2 = 0 := hp a (by simp)
   have h1 := ih (k := k) (by simpa using hx) (fun y hy => hp y (by simp [hy]))
   rw [if_neg (by simp [h0])]
   rw [if_pos (by rw [h1]; exact h)]
   exact h1
theorem typL_all {vs : List Var} {l : List Ex} (hp : ∀ y ∈ l, (typX vs y).2 = 0) : typL vs l = (kindsOf vs l, 0) := by
 induction l with
 | nil => exact typL_nil vs
 | cons a l ih =>
  rw [typL_cons, ih (fun y hy => hp y (by simp [hy])), if_neg (by simp [hp a (by simp)]), if_neg (by simp)]
  rfl
theorem typX_stop {vs : List Var} {x y : Ex} {k : Nat} (hx : x.l[k]? = some y) (h : (typX vs y).2 ≠ 0) (hp : ∀ y ∈ x.l.take k, (typX vs y).2 = 0) : typX vs x = (0, (typX vs y).2) := by
 rw [typX_eq, typL_stop hx h hp, if_pos h]
theorem typX_all {vs : List Var} {x : Ex} (hp : ∀ y ∈ x.l, (typX vs y).2 = 0) : typX vs x = typO vs x (kindsOf vs x.l) := by
 rw [typX_eq, typL_all hp, if_neg (by simp)]
def RetT (vs : List Var) (x : Ex) (w : World) (e : Ending) (w' : World) : Prop :=
 e = .returned (.tuple #[.int .i64 (typX vs x).1, .int .i64 (typX vs x).2]) ∧ Fit (typX vs x).1 ∧ Below w.heap.size w w'
theorem ret_T {vs : List Var} {x : Ex} {a b : Int} {w w' : World} (h : typX vs x = (a, b)) (hf : Fit a) (hb : Below w.heap.size w w') : RetT vs x w (.returned (.tuple #[.int .i64 a, .int .i64 b])) w' := by
 unfold RetT; rw [h]; exact ⟨rfl, hf, hb⟩
theorem typed_step {vs : List Var} {l : List Ex} {k : Nat} {x : Ex} (hx : l[k]? = some x) (h : (typX vs x).2 = 0) (hp : ∀ y ∈ l.take k, (typX vs y).2 = 0) : ∀ y ∈ l.take (k + 1), (typX vs y).2 = 0 := by
 intro y hy
 rw [List.take_add_one, hx, List.mem_append] at hy
 rcases hy with hy | hy
 ·exact hp y hy
 ·simp at hy; subst hy; exact h
theorem kinds_fit {vs : List Var} {l : List Ex} {k : Nat} {x : Ex} (hx : l[k]? = some x) (h : Fit (typX vs x).1) (hp : ∀ z ∈ kindsOf vs (l.take k), Fit z) : ∀ z ∈ kindsOf vs (l.take (k + 1)), Fit z := by
 intro z hz
 rw [kinds_snoc hx, List.mem_append] at hz
 rcases hz with hz | hz
 ·exact hp z hz
 ·simp at hz; subst hz; exact h
theorem own_ne {w : World} {base e size n g t : Nat} {v : Value} {xs : List Value} {cs : Array Value} (h : w.ownsRow base e size v n xs) (hB : Blk w g t cs) (ht : t ≠ e) : v.ownBlock ≠ some g := by
 rcases h.2 with ⟨rfl, _⟩ | ⟨g', cap, cur, rfl, _, hg, _⟩
 ·simp [Value.ownBlock]
 ·intro he
  simp only [Value.ownBlock, Option.some.injEq] at he
  subst he
  unfold Blk at hB
  rw [hB] at hg
  simp only [Option.some.injEq, Obj.cells.injEq] at hg
  exact ht hg.2.1
theorem kinds_len (vs : List Var) (l : List Ex) : (kindsOf vs l).length = l.length := by unfold kindsOf; simp
set_option maxHeartbeats 8000000 in
set_option maxRecDepth 100000 in
theorem typed_any : ∀ (n : Nat) (vs : List Var) (x : Ex) (uv u : Value) (w : World), SlX (Lt w.heap.size) w uv vs → IsEx n (Lt w.heap.size) w u x → okX x = true →
  Calls Tryz.prog 165 #[uv, u] w (RetT vs x w) := by
 intro n
 induction n using Nat.strongRecOn with
 | _ n ih =>
  intro vs x uv u w hvs h hok
  obtain ⟨Av, cv, rfl, v1, v2, hvs⟩ := hvs.open_
  obtain ⟨lv, rfl, h1, h2, h3, h4⟩ := h
  obtain ⟨A, c, rfl, l1, l2, h4⟩ := h4.open_
  have hk := okX_eq x
  rw [hok] at hk
  replace hk := hk.symm
  simp only [Bool.and_eq_true, decide_eq_true_eq] at hk
  obtain ⟨⟨hsh, hlen⟩, hokl⟩ := hk
  have HSH := Lib.hid (shape_len hsh)
  have HOK := Lib.hid (okL_mem hokl)
  clear hsh hokl hok
  have hmk := run_make_cap (P := Tryz.prog) 31 3 (.int .i64 0) 8 Tryz.underlying31 intInfo x.l.length (by omega) (by omega) rfl
  have hb0 := bone w (.cells #[.int .i64 x.op, .int .i64 x.v.kind, .int .i64 x.v.n, .string x.v.s, .string x.s, .slice A x.l.length c] 65)
  have hB0 := Blk.new w 65 #[.int .i64 x.op, .int .i64 x.v.kind, .int .i64 x.v.n, .string x.v.s, .string x.s, .slice A x.l.length c]
  have hl0 := SlE.now h4 hb0
  have hv0 := hvs.now hb0
  clear h4 hvs
  go_enter Tryz.func165, Tryz.ntmps165
  go_upto_region 1 with fail
  generalize hw1 : w.alloc (.cells #[.int .i64 x.op, .int .i64 x.v.kind, .int .i64 x.v.n, .string x.v.s, .string x.s, .slice A x.l.length c] 65) = w1 at *
  obtain ⟨q0, q1, q2, q3, q4, q5⟩ := hB0.c6
  clear hw1
  go_upto_region 2 with fail
  have hrow2 := (own_room w1 3 x.l.length (by unfold maxLen; omega)).alloc (.cells #[.slice (some ⟨w1.heap.size, 0, none⟩) 0 x.l.length] 31)
  have hK2 : Blk ((w1.alloc (.cells (madeCells #[.int .i64 0] x.l.length) 3)).alloc (.cells #[.slice (some ⟨w1.heap.size, 0, none⟩) 0 x.l.length] 31)) (w1.heap.size + 1) 31 #[.slice (some ⟨w1.heap.size, 0, none⟩) 0 x.l.length] := Blk.new_at (by simp)
  have hb2 := bbox (bone w1 (.cells (madeCells #[.int .i64 0] x.l.length) 3)) (.cells #[.slice (some ⟨w1.heap.size, 0, none⟩) 0 x.l.length] 31)
  generalize hw2 : (w1.alloc (.cells (madeCells #[.int .i64 0] x.l.length) 3)).alloc (.cells #[.slice (some ⟨w1.heap.size, 0, none⟩) 0 x.l.length] 31) = w2 at *
  clear hw2 hmk q0 q1 q2 q3 q4 q5
  have hB2 := hB0.now hb2
  obtain ⟨q0, q1, q2, q3, q4, q5⟩ := hB2.c6
  have eg : ∀ args w, (callFunc 185 args).run Tryz.prog w = .ok (.enter 185 args) w := enters_of Tryz.func185 (by kernel_rfl) rfl
  go_wp2_with fail
  go_loopw [22] (fun i wr => ∃ (k : Nat) (kv : Value), k ≤ x.l.length ∧ i = .int .i64 k ∧ Blk wr (w1.heap.size + 1) 31 #[kv] ∧ wr.ownsRow w1.heap.size 3 1 kv k ((kindsOf vs (x.l.take k)).map (Value.int .i64)) ∧ (∀ y ∈ x.l.take k, (typX vs y).2 = 0) ∧ (∀ z ∈ kindsOf vs (x.l.take k), Fit z) ∧ Below w1.heap.size w1 wr) (fun i _ => x.l.length - (intOf i).toNat)
  case atStart => exact ⟨0, _, Nat.zero_le _, rfl, hK2, hrow2, fun y hy => by simp at hy, fun z hz => by simp [kindsOf] at hz, hb2⟩
  case round =>
   obtain ⟨k, kv, hk, rfl, hK, hrow, hp, hfit, hb⟩ := hrel
   have HP := Lib.hid hp
   have HF := Lib.hid hfit
   clear hp hfit
   have hbw := bthen hb0 hb
   have hsz := hb.size
   by_cases hlt : k < x.l.length
   ·obtain ⟨b, o, y, lv, n', hn, rfl, hD, hx, hex, hfv, hsl, e0, e1, e2, e3, e4, e5⟩ := (SlE.now hl0 hb).at_ hlt
    have HX := Lib.hid hx
    have hoky := HOK.out y (List.mem_of_getElem? hx)
    obtain ⟨A2, c2', rfl, m1, m2, _⟩ := hsl.open_
    have hb3 := bone wr (.cells #[.int .i64 y.op, .int .i64 y.v.kind, .int .i64 y.v.n, .string y.v.s, .string y.s, .slice A2 y.l.length c2'] 65)
    have hcall := Lib.hid (ih n' (by omega) vs y _ _ _ ((hv0.now hb).now hb3) (hex.now hb3) hoky)
    clear hx hex hfv hsl hoky
    go_wp2_with fail
    refine hcall.out.mono ?_
    clear hcall
    rintro e w4 ⟨rfl, hft, hb4⟩
    have hbw4 := bthen hbw (bthen hb3 hb4)
    have hb4' := bthen hb (bthen hb3 hb4)
    have hK4 := (hK.now hb3).now hb4
    have hrow4 := own_now (own_now hrow hb3) hb4
    by_cases hz : (typX vs y).2 = 0
    ·have HST := Lib.hid (typed_step HX.out hz HP.out)
     have HFT := Lib.hid (kinds_fit HX.out hft HF.out)
     have HSN := Lib.hid (kinds_snoc (vs := vs) HX.out)
     rw [hz]
     clear hz
     generalize (typX vs y).1 = ty at *
     have c0 := hK4.c1
     have hsz4 := hb4'.size
     go_wp2_with (at_builtin; first | refine wpList_push appInts rfl (.tmp 35) (.tmp 37) rfl w4 [.int .i64 ty] rfl (by simp [Value.oneCell']) kv k _ rfl hrow4 rfl (by omega) hsz4 ?_)
     intro v5 w5 hrow5 hg5 _
     have hne4 := own_ne hrow4 hK4 (by decide)
     obtain ⟨ao, n5, cap5, rfl⟩ : ∃ ao n5 cap5, v5 = .slice ao n5 cap5 := by
      rcases hrow5.2 with ⟨hv, _⟩ | ⟨g, cap, cur, hv, _⟩
      ·exact ⟨_, _, _, hv⟩
      ·exact ⟨_, _, _, hv⟩
     have hK5 := hK4.grown hg5 (fun e => hne4 e.symm)
     have c1 := hK5.c1
     have z1 := hK5.frozen 0
     have hb5 : Below w1.heap.size w1 w5 := hb4'.trans (below_of_grown hg5 hsz4 (fun g hg => (World.ownsRow.lt hrow4 g hg).1))
     have hne5 := own_ne hrow5 hK5 (by decide)
     have hK6 := hK5.set_ 0 (.slice ao n5 cap5)
     have hb6 : Below w1.heap.size w1 (w5.setCell ⟨w1.heap.size + 1, 0, none⟩ (.slice ao n5 cap5)) := hb5.setCell (p := ⟨w1.heap.size + 1, 0, none⟩) (by show w1.heap.size ≤ w1.heap.size + 1; omega) (.slice ao n5 cap5)
     have hrow6 : (w5.setCell ⟨w1.heap.size + 1, 0, none⟩ (.slice ao n5 cap5)).ownsRow w1.heap.size 3 1 (.slice ao n5 cap5) (k + 1) _ := ownsRow_setCell_other hrow5 hne5 (.slice ao n5 cap5)
     clear c0
     go_wp2_with fail
     go_roundw
     case rel =>
      refine ⟨k + 1, .slice ao n5 cap5, by omega, by go_num, hK6, ?_, HST.out, HFT.out, hb6⟩
      rw [HSN.out, List.map_append]
      exact hrow6
     case measure => simp [intOf]; omega
    ·have HR := Lib.hid (typX_stop HX.out hz HP.out)
     have b1 : ((typX vs y).2 != 0) = true := by simpa using hz
     clear hz
     go_wp2_with fail
     go_ret2
     exact ret_T HR.out (by unfold Fit; omega) hbw4
   ·obtain rfl : k = x.l.length := by omega
    rw [List.take_of_length_le (Nat.le_refl _)] at hrow
    have hpp := HP.out
    have hff := HF.out
    rw [List.take_of_length_le (Nat.le_refl _)] at hpp hff
    have HT := Lib.hid (typX_all hpp)
    have hks := SlI.of_own hrow hff
    have HKL := Lib.hid (kinds_len vs x.l)
    clear hpp hff HP HF hrow
    generalize hkg : kindsOf vs x.l = ks at *
    clear hkg
    have HALL := Lib.hid (fun k => all_any k (w1.heap.size + 1) kv ks wr hK hks)
    have hBr := hB0.now hb
    have hvr := hv0.now hb
    clear q0 q1 q2 q3 q4 q5 hB2
    obtain ⟨q0, q1, q2, q3, q4, q5⟩ := hBr.c6
    have HTO := HT.out
    unfold typO at HTO
    have HTO := Lib.hid HTO
    have hfk := h2.kind
    have hK' := hK
    clear HT hK ih hl0 HOK
    generalize x.op = o at *
    by_cases c1 : o = 1
    ·subst c1
     have HR : Hid (typX vs x = (x.v.kind, 0)) := by show _ = _; rw [HTO.out, if_pos rfl]
     clear HTO
     go_wp2_with fail
     go_ret2
     exact ret_T HR.out hfk hbw
    by_cases c2 : o = 2
    ·subst c2
     have HR : Hid (typX vs x = if findV vs x.s < 0 then (0, 8) else (kindAt vs (findV vs x.s), 0)) := by show _ = _; rw [HTO.out, if_neg (by decide), if_pos rfl]
     have HFI := Lib.hid (findV_any vs x.s)
     clear HTO
     go_wp2_with fail
     refine (find_any vs x.s _ _ hvr).mono ?_
     rintro e w3 ⟨rfl, hb3⟩
     have hv3 := hvr.now hb3
     have hbw3 := bthen hbw hb3
     clear q0 q1 q2 q3 q4 q5 hBr
     generalize findV vs x.s = z at *
     rcases HFI.out with hz | ⟨i, rfl, hi⟩
     ·have HR : Hid (typX vs x = (0, 8)) := by show _ = _; rw [HR.out, if_pos hz]
      go_wp2_with fail
      go_ret2
      exact ret_T HR.out (by unfold Fit; omega) hbw3
     ·obtain ⟨b, o', y, iv, rfl, hD, hx, hvar, hiv, e0, e1, e2, e3, e4⟩ := hv3.at_ hi
      have hfy : Fit y.kind := by obtain ⟨_, _, _, hf, _⟩ := hvar; exact hf
      have HR : Hid (typX vs x = (y.kind, 0)) := by
       show _ = _
       rw [HR.out, if_neg (by omega)]
       unfold kindAt
       rw [Int.toNat_natCast, hx]; rfl
      have i1 : (0 : Int) ≤ (i : Int) := by omega
      have i2 : (i : Int) < (vs.length : Int) := by omega
      clear hx hvar hiv
      go_wp2_with fail
      go_ret2
      exact ret_T HR.out hfy hbw3
    by_cases c9 : o = 9
    ·subst c9
     have hcall := HALL.out 2
     generalize hq : ks.all (fun x => x == 2) = q at hcall
     have HC := Lib.hid hcall
     have HR : Hid (typX vs x = if q then (2, 0) else (0, 11)) := by show _ = _; rw [HTO.out, if_neg (by decide), if_neg (by decide), if_pos (by decide), hq]
     clear hcall hq HTO
     cases q
     ·have HR : Hid (typX vs x = (0, 11)) := HR.out
      go_wp2_with (go_at_fn 185; refine HC.out.mono ?_; rintro e w' ⟨rfl, hb'⟩)
      go_ret2
      exact ret_T HR.out (by unfold Fit; omega) (bthen hbw hb')
     ·have HR : Hid (typX vs x = (2, 0)) := HR.out
      go_wp2_with (go_at_fn 185; refine HC.out.mono ?_; rintro e w' ⟨rfl, hb'⟩)
      go_ret2
      exact ret_T HR.out (by unfold Fit; omega) (bthen hbw hb')
    by_cases c10 : o = 10
    ·subst c10
     have hcall := HALL.out 2
     generalize hq : ks.all (fun x => x == 2) = q at hcall
     have HC := Lib.hid hcall
     have HR : Hid (typX vs x = if q then (2, 0) else (0, 11)) := by show _ = _; rw [HTO.out, if_neg (by decide), if_neg (by decide), if_pos (by decide), hq]
     clear hcall hq HTO
     cases q
     ·have HR : Hid (typX vs x = (0, 11)) := HR.out
      go_wp2_with (go_at_fn 185; refine HC.out.mono ?_; rintro e w' ⟨rfl, hb'⟩)
      go_ret2
      exact ret_T HR.out (by unfold Fit; omega) (bthen hbw hb')
     ·have HR : Hid (typX vs x = (2, 0)) := HR.out
      go_wp2_with (go_at_fn 185; refine HC.out.mono ?_; rintro e w' ⟨rfl, hb'⟩)
      go_ret2
      exact ret_T HR.out (by unfold Fit; omega) (bthen hbw hb')
    by_cases c11 : o = 11
    ·subst c11
     have hcall := HALL.out 2
     generalize hq : ks.all (fun x => x == 2) = q at hcall
     have HC := Lib.hid hcall
     have HR : Hid (typX vs x = if q then (2, 0) else (0, 11)) := by show _ = _; rw [HTO.out, if_neg (by decide), if_neg (by decide), if_pos (by decide), hq]
     clear hcall hq HTO
     cases q
     ·have HR : Hid (typX vs x = (0, 11)) := HR.out
      go_wp2_with (go_at_fn 185; refine HC.out.mono ?_; rintro e w' ⟨rfl, hb'⟩)
      go_ret2
      exact ret_T HR.out (by unfold Fit; omega) (bthen hbw hb')
     ·have HR : Hid (typX vs x = (2, 0)) := HR.out
      go_wp2_with (go_at_fn 185; refine HC.out.mono ?_; rintro e w' ⟨rfl, hb'⟩)
      go_ret2
      exact ret_T HR.out (by unfold Fit; omega) (bthen hbw hb')
    by_cases c7 : o = 7
    ·subst c7
     have hcall := HALL.out 2
     generalize hq : ks.all (fun x => x == 2) = q at hcall
     have HC := Lib.hid hcall
     have HR : Hid (typX vs x = if q then (1, 0) else (0, 11)) := by show _ = _; rw [HTO.out, if_neg (by decide), if_neg (by decide), if_neg (by decide), if_pos (by decide), hq]
     clear hcall hq HTO
     cases q
     ·have HR : Hid (typX vs x = (0, 11)) := HR.out
      go_wp2_with (go_at_fn 185; refine HC.out.mono ?_; rintro e w' ⟨rfl, hb'⟩)
      go_ret2
      exact ret_T HR.out (by unfold Fit; omega) (bthen hbw hb')
     ·have HR : Hid (typX vs x = (1, 0)) := HR.out
      go_wp2_with (go_at_fn 185; refine HC.out.mono ?_; rintro e w' ⟨rfl, hb'⟩)
      go_ret2
      exact ret_T HR.out (by unfold Fit; omega) (bthen hbw hb')
    by_cases c8 : o = 8
    ·subst c8
     have hcall := HALL.out 2
     generalize hq : ks.all (fun x => x == 2) = q at hcall
     have HC := Lib.hid hcall
     have HR : Hid (typX vs x = if q then (1, 0) else (0, 11)) := by show _ = _; rw [HTO.out, if_neg (by decide), if_neg (by decide), if_neg (by decide), if_pos (by decide), hq]
     clear hcall hq HTO
     cases q
     ·have HR : Hid (typX vs x = (0, 11)) := HR.out
      go_wp2_with (go_at_fn 185; refine HC.out.mono ?_; rintro e w' ⟨rfl, hb'⟩)
      go_ret2
      exact ret_T HR.out (by unfold Fit; omega) (bthen hbw hb')
     ·have HR : Hid (typX vs x = (1, 0)) := HR.out
      go_wp2_with (go_at_fn 185; refine HC.out.mono ?_; rintro e w' ⟨rfl, hb'⟩)
      go_ret2
      exact ret_T HR.out (by unfold Fit; omega) (bthen hbw hb')
    by_cases c3 : o = 3
    ·subst c3
     have hcall := HALL.out 1
     generalize hq : ks.all (fun x => x == 1) = q at hcall
     have HC := Lib.hid hcall
     have HR : Hid (typX vs x = if q then (1, 0) else (0, 11)) := by show _ = _; rw [HTO.out, if_neg (by decide), if_neg (by decide), if_neg (by decide), if_neg (by decide), if_pos (by decide), hq]
     clear hcall hq HTO
     cases q
     ·have HR : Hid (typX vs x = (0, 11)) := HR.out
      go_wp2_with (go_at_fn 185; refine HC.out.mono ?_; rintro e w' ⟨rfl, hb'⟩)
      go_ret2
      exact ret_T HR.out (by unfold Fit; omega) (bthen hbw hb')
     ·have HR : Hid (typX vs x = (1, 0)) := HR.out
      go_wp2_with (go_at_fn 185; refine HC.out.mono ?_; rintro e w' ⟨rfl, hb'⟩)
      go_ret2
      exact ret_T HR.out (by unfold Fit; omega) (bthen hbw hb')
    by_cases c4 : o = 4
    ·subst c4
     have hcall := HALL.out 1
     generalize hq : ks.all (fun x => x == 1) = q at hcall
     have HC := Lib.hid hcall
     have HR : Hid (typX vs x = if q then (1, 0) else (0, 11)) := by show _ = _; rw [HTO.out, if_neg (by decide), if_neg (by decide), if_neg (by decide), if_neg (by decide), if_pos (by decide), hq]
     clear hcall hq HTO
     cases q
     ·have HR : Hid (typX vs x = (0, 11)) := HR.out
      go_wp2_with (go_at_fn 185; refine HC.out.mono ?_; rintro e w' ⟨rfl, hb'⟩)
      go_ret2
      exact ret_T HR.out (by unfold Fit; omega) (bthen hbw hb')
     ·have HR : Hid (typX vs x = (1, 0)) := HR.out
      go_wp2_with (go_at_fn 185; refine HC.out.mono ?_; rintro e w' ⟨rfl, hb'⟩)
      go_ret2
      exact ret_T HR.out (by unfold Fit; omega) (bthen hbw hb')
    by_cases c5 : o = 5
    ·subst c5
     have hcall := HALL.out 1
     generalize hq : ks.all (fun x => x == 1) = q at hcall
     have HC := Lib.hid hcall
     have HR : Hid (typX vs x = if q then (1, 0) else (0, 11)) := by show _ = _; rw [HTO.out, if_neg (by decide), if_neg (by decide), if_neg (by decide), if_neg (by decide), if_pos (by decide), hq]
     clear hcall hq HTO
     cases q
     ·have HR : Hid (typX vs x = (0, 11)) := HR.out
      go_wp2_with (go_at_fn 185; refine HC.out.mono ?_; rintro e w' ⟨rfl, hb'⟩)
      go_ret2
      exact ret_T HR.out (by unfold Fit; omega) (bthen hbw hb')
     ·have HR : Hid (typX vs x = (1, 0)) := HR.out
      go_wp2_with (go_at_fn 185; refine HC.out.mono ?_; rintro e w' ⟨rfl, hb'⟩)
      go_ret2
      exact ret_T HR.out (by unfold Fit; omega) (bthen hbw hb')
    obtain ⟨A3, c3', rfl, m1, m2, hks⟩ := hks.open_
    have c0 := hK'.c1
    by_cases c6 : o = 6
    ·subst c6
     have hln : 2 ≤ ks.length := by have := HKL.out; have := HSH.out; omega
     obtain ⟨b, o', z, rfl, hD, hx, hf, e0⟩ := hks.at_ (k := 0) (by omega)
     have hcall := HALL.out z
     have hz : ks.getD 0 0 = z := by rw [List.getD_eq_getElem?_getD, hx]; rfl
     generalize hq : ks.all (fun x => x == z) = q at hcall
     have HC := Lib.hid hcall
     have HR : Hid (typX vs x = if q then (1, 0) else (0, 11)) := by show _ = _; rw [HTO.out, if_neg (by decide), if_neg (by decide), if_neg (by decide), if_neg (by decide), if_neg (by decide), if_neg (by decide), hz, hq]
     have i2 : (0 : Int) < (ks.length : Int) := by omega
     have e0' : wr.cell? ⟨b, o', none⟩ = some (.int .i64 z) := e0
     clear hcall hq HTO hx hz e0
     cases q
     ·have HR : Hid (typX vs x = (0, 11)) := HR.out
      go_wp2_with (go_at_fn 185; refine HC.out.mono ?_; rintro e w' ⟨rfl, hb'⟩)
      go_ret2
      exact ret_T HR.out (by unfold Fit; omega) (bthen hbw hb')
     ·have HR : Hid (typX vs x = (1, 0)) := HR.out
      go_wp2_with (go_at_fn 185; refine HC.out.mono ?_; rintro e w' ⟨rfl, hb'⟩)
      go_ret2
      exact ret_T HR.out (by unfold Fit; omega) (bthen hbw hb')
    by_cases c13 : o = 13
    ·subst c13
     have hln : 2 ≤ ks.length := by have := HKL.out; have := HSH.out; omega
     obtain ⟨b, o', z, rfl, hD, hx, hf, e0⟩ := hks.at_ (k := 0) (by omega)
     have hcall := HALL.out z
     have hz : ks.getD 0 0 = z := by rw [List.getD_eq_getElem?_getD, hx]; rfl
     generalize hq : ks.all (fun x => x == z) = q at hcall
     have HC := Lib.hid hcall
     have HR : Hid (typX vs x = if q then (1, 0) else (0, 11)) := by show _ = _; rw [HTO.out, if_neg (by decide), if_neg (by decide), if_neg (by decide), if_neg (by decide), if_neg (by decide), if_neg (by decide), hz, hq]
     have i2 : (0 : Int) < (ks.length : Int) := by omega
     have e0' : wr.cell? ⟨b, o', none⟩ = some (.int .i64 z) := e0
     clear hcall hq HTO hx hz e0
     cases q
     ·have HR : Hid (typX vs x = (0, 11)) := HR.out
      go_wp2_with (go_at_fn 185; refine HC.out.mono ?_; rintro e w' ⟨rfl, hb'⟩)
      go_ret2
      exact ret_T HR.out (by unfold Fit; omega) (bthen hbw hb')
     ·have HR : Hid (typX vs x = (1, 0)) := HR.out
      go_wp2_with (go_at_fn 185; refine HC.out.mono ?_; rintro e w' ⟨rfl, hb'⟩)
      go_ret2
      exact ret_T HR.out (by unfold Fit; omega) (bthen hbw hb')
    obtain rfl : o = 12 := by have := HSH.out; omega
    have hln : ks.length = 3 := by have := HKL.out; have := HSH.out; omega
    obtain ⟨b, o', z0, rfl, hD, hx0, hf0, e0⟩ := hks.at_ (k := 0) (by omega)
    obtain ⟨b1, o1, z1, hA1, _, hx1, hf1, e1⟩ := hks.at_ (k := 1) (by omega)
    injection hA1 with hA1; injection hA1 with g1 g2 _; subst g1 g2
    obtain ⟨b2, o2, z2, hA2, _, hx2, hf2, e2⟩ := hks.at_ (k := 2) (by omega)
    injection hA2 with hA2; injection hA2 with g1 g2 _; subst g1 g2
    have d0 : ks.getD 0 0 = z0 := by rw [List.getD_eq_getElem?_getD, hx0]; rfl
    have d1 : ks.getD 1 0 = z1 := by rw [List.getD_eq_getElem?_getD, hx1]; rfl
    have d2 : ks.getD 2 0 = z2 := by rw [List.getD_eq_getElem?_getD, hx2]; rfl
    have HR : Hid (typX vs x = if z0 = 1 ∧ z1 = z2 then (z1, 0) else (0, 11)) := by show _ = _; rw [HTO.out, if_neg (by decide), if_neg (by decide), if_neg (by decide), if_neg (by decide), if_neg (by decide), if_pos (by decide), d0, d1, d2]
    have e0' : wr.cell? ⟨b, o', none⟩ = some (.int .i64 z0) := e0
    have i0 : (0 : Int) < (ks.length : Int) := by omega
    have i1 : (1 : Int) < (ks.length : Int) := by omega
    have i2 : (2 : Int) < (ks.length : Int) := by omega
    clear HTO hx0 hx1 hx2 d0 d1 d2 e0 hln
    by_cases hz0 : z0 = 1
    ·by_cases hz : z1 = z2
     ·have HR : Hid (typX vs x = (z1, 0)) := by show _ = _; rw [HR.out, if_pos ⟨hz0, hz⟩]
      have b0 : (z0 == 1) = true := by simp [hz0]
      have b1 : (z1 == z2) = true := by simp [hz]
      clear hz0 hz
      go_upto_region 35 with fail
      go_quiet (fail)
      go_wp2_with fail
      go_ret2
      exact ret_T HR.out hf1 (bdrawn hbw _)
     ·have HR : Hid (typX vs x = (0, 11)) := by show _ = _; rw [HR.out, if_neg (fun h => hz h.2)]
      have b0 : (z0 == 1) = true := by simp [hz0]
      have b1 : (z1 == z2) = false := by simp [hz]
      clear hz0 hz
      go_upto_region 35 with fail
      go_quiet (fail)
      go_wp2_with fail
      go_ret2
      exact ret_T HR.out (by unfold Fit; omega) (bdrawn hbw _)
    ·have HR : Hid (typX vs x = (0, 11)) := by show _ = _; rw [HR.out, if_neg (fun h => hz0 h.1)]
     have b0 : (z0 == 1) = false := by simp [hz0]
     clear hz0
     go_upto_region 35 with fail
     go_quiet (fail)
     go_wp2_with fail
     go_ret2
     exact ret_T HR.out (by unfold Fit; omega) (bdrawn hbw _)
set_option maxHeartbeats 1000000 in
theorem given_any (n : Nat) (vs : List Var) (x : Ex) (uv u : Value) (w : World) (hv : SlX (Lt w.heap.size) w uv vs) (h : IsEx n (Lt w.heap.size) w u x) (hl : vs.length ≤ 1000000) :
  Calls Tryz.prog 143 #[uv, u] w fun e w' => e = .returned (.tuple #[.int .i64 (givenE vs x).1, .int .i64 (givenE vs x).2]) ∧ Fit (givenE vs x).1 ∧ Below w.heap.size w w' := by
 have h0 := h
 obtain ⟨lv, rfl, h1, h2, h3, h4⟩ := h
 have hb := bone w (.cells #[.int .i64 x.op, .int .i64 x.v.kind, .int .i64 x.v.n, .string x.v.s, .string x.s, lv] 65)
 have hB := Blk.new w 65 #[.int .i64 x.op, .int .i64 x.v.kind, .int .i64 x.v.n, .string x.v.s, .string x.s, lv]
 have hx1 := h0.now hb
 have hv1 := hv.now hb
 have hx0 := Lib.hid (And.intro hx1 hv1)
 have HE : Hid (givenE vs x = if validX x && varsB vs then typX vs x else (0, 1)) := rfl
 clear h0 hv h4
 obtain ⟨q0, q1, q2, q3, q4, q5⟩ := hB.c6
 go_enter Tryz.func143, Tryz.ntmps143
 go_upto_region 1 with fail
 generalize hw1 : w.alloc (.cells #[.int .i64 x.op, .int .i64 x.v.kind, .int .i64 x.v.n, .string x.v.s, .string x.s, lv] 65) = w1 at *
 clear hw1
 go_wp2_with fail
 refine (validX_any n x _ _ hx1).mono ?_
 rintro e w2 ⟨rfl, hb2⟩
 have hbw2 := bthen hb hb2
 have hB2 := hB.now hb2
 have hx2 := hx1.now hb2
 have hv2 := hv1.now hb2
 generalize hq : validX x = q at *
 clear q0 q1 q2 q3 q4 q5 hx0
 obtain ⟨q0, q1, q2, q3, q4, q5⟩ := hB2.c6
 cases q
 ·have HR : Hid (givenE vs x = (0, 1)) := HE.out
  clear hx1 hv1 hx2 hv2
  go_wp2_with fail
  go_ret2
  rw [HR.out]
  exact ⟨rfl, by unfold Fit; omega, hbw2⟩
 clear hx1 hv1
 go_wp2_with fail
 refine (validVars_any vs _ _ hv2 hl).mono ?_
 rintro e w3 ⟨rfl, hb3⟩
 have hbw3 := bthen hbw2 hb3
 have hB3 := hB2.now hb3
 have hx3 := hx2.now hb3
 have hv3 := hv2.now hb3
 generalize hq2 : varsB vs = q at *
 clear q0 q1 q2 q3 q4 q5
 obtain ⟨q0, q1, q2, q3, q4, q5⟩ := hB3.c6
 cases q
 ·have HR : Hid (givenE vs x = (0, 1)) := HE.out
  clear hx2 hv2 hx3 hv3
  go_wp2_with fail
  go_ret2
  rw [HR.out]
  exact ⟨rfl, by unfold Fit; omega, hbw3⟩
 have HR : Hid (givenE vs x = typX vs x) := HE.out
 have HC := Lib.hid (typed_any n vs x _ _ _ hv3 hx3 (valid_ok hq))
 clear hx2 hv2 hx3 hv3 hq
 go_wp2_with fail
 refine HC.out.mono ?_
 rintro e w4 ⟨rfl, hf, hb4⟩
 go_wp2_with fail
 go_ret2
 rw [HR.out]
 exact ⟨rfl, hf, bthen hbw3 hb4⟩
theorem type_any (n : Nat) (vs : List Var) (x : Ex) (uv u : Value) (w : World) (hv : SlX (Lt w.heap.size) w uv vs) (h : IsEx n (Lt w.heap.size) w u x) (hl : vs.length ≤ 1000000) :
  Calls Tryz.prog 126 #[uv, u] w fun e w' => e = .returned (.tuple #[.int .i64 (givenE vs x).1, .int .i64 (givenE vs x).2]) ∧ Fit (givenE vs x).1 ∧ Below w.heap.size w w' := by
 have h0 := h
 obtain ⟨lv, rfl, h1, h2, h3, h4⟩ := h
 have hb := bone w (.cells #[.int .i64 x.op, .int .i64 x.v.kind, .int .i64 x.v.n, .string x.v.s, .string x.s, lv] 65)
 have HC := Lib.hid (given_any n vs x _ _ _ (hv.now hb) (h0.now hb) hl)
 clear h0 hv h4
 go_enter Tryz.func126, Tryz.ntmps126
 go_wp2_with fail
 refine HC.out.mono ?_
 rintro e w1 ⟨rfl, hf, hb1⟩
 go_wp2_with fail
 go_ret2
 exact ⟨rfl, hf, bthen hb hb1⟩
structure EvArgs (n : Nat) (vs : List Var) (vals : List Val) (x : Ex) (w : World) (uv vv u : Value) : Prop where
 hvs : SlX (Lt w.heap.size) w uv vs
 hvl : SlV (Lt w.heap.size) w vv vals
 hx : IsEx n (Lt w.heap.size) w u x
 hok : okX x = true
 hty : (typX vs x).2 = 0
 hA : Asg vs vals
def EvalAt (f : FuncId) (n : Nat) : Prop := ∀ (vs : List Var) (vals : List Val) (x : Ex) (w : World) (uv vv u : Value), EvArgs n vs vals x w uv vv u → Calls Tryz.prog f #[uv, vv, u] w (RetO (evX vs vals x) w)
theorem getD_map {f : Ex → Option Val} {l : List Ex} {i : Nat} {y : Ex} (h : l[i]? = some y) : (l.map f).getD i none = f y := by
 rw [List.getD_eq_getElem?_getD, List.getElem?_map, h]; rfl
theorem ev_key (vs : List Var) (vals : List Val) (x : Ex) : evX vs vals x = evO vs vals x (x.l.map (evX vs vals)) := by rw [evX_eq, evL_eq]
theorem types_of {vs : List Var} {x : Ex} (h : (typX vs x).2 = 0) : (∀ y ∈ x.l, (typX vs y).2 = 0) ∧ (typO vs x (kindsOf vs x.l)).2 = 0 := by
 rw [typX_eq] at h
 by_cases h0 : (typL vs x.l).2 ≠ 0
 ·rw [if_pos h0] at h; exact absurd h h0
 ·rw [if_neg h0] at h
  obtain ⟨k1, k2⟩ := typL_ok (vs := vs) (l := x.l) (by simpa using h0)
  rw [k1] at h
  exact ⟨k2, h⟩
theorem EvArgs.part {n n' : Nat} {vs : List Var} {vals : List Val} {x y : Ex} {w w' : World} {uv vv u u' : Value} (h : EvArgs n vs vals x w uv vv u) (hy : y ∈ x.l) (hb : Below w.heap.size w w') (hx : IsEx n' (Lt w'.heap.size) w' u' y) : EvArgs n' vs vals y w' uv vv u' :=
 ⟨h.hvs.now hb, h.hvl.now hb, hx, by
  have hk := okX_eq x
  rw [h.hok] at hk
  replace hk := hk.symm
  simp only [Bool.and_eq_true] at hk
  exact okL_mem hk.2 y hy, (types_of h.hty).1 y hy, h.hA⟩
theorem EvArgs.shape {n : Nat} {vs : List Var} {vals : List Val} {x : Ex} {w : World} {uv vv u : Value} (h : EvArgs n vs vals x w uv vv u) : shapeX x = true := by
 have hk := okX_eq x
 rw [h.hok] at hk
 replace hk := hk.symm
 simp only [Bool.and_eq_true] at hk
 exact hk.1.1
theorem kinds_at {vs : List Var} {l : List Ex} {i : Nat} {y : Ex} (h : l[i]? = some y) : (kindsOf vs l).getD i 0 = (typX vs y).1 := by
 unfold kindsOf
 rw [List.getD_eq_getElem?_getD, List.getElem?_map, h]; rfl
theorem kinds_all {vs : List Var} {l : List Ex} {k : Int} (h : (kindsOf vs l).all (fun z => z == k) = true) {y : Ex} (hy : y ∈ l) : (typX vs y).1 = k := by
 rw [List.all_eq_true] at h
 exact eq_of_beq (h _ (List.mem_map.2 ⟨y, hy, rfl⟩))
theorem EvArgs.val {n : Nat} {vs : List Var} {vals : List Val} {x y : Ex} {w : World} {uv vv u : Value} (h : EvArgs n vs vals x w uv vv u) (hy : y ∈ x.l) {a : Val} (ha : evX vs vals y = some a) : a.kind = (typX vs y).1 ∧ validV a = true := by
 have hk := okX_eq x
 rw [h.hok] at hk
 replace hk := hk.symm
 simp only [Bool.and_eq_true] at hk
 exact ev_typed h.hA y (okL_mem hk.2 y hy) ((types_of h.hty).1 y hy) a ha
theorem if_ok {p : Prop} [Decidable p] {k : Int} (h : (if p then (k, (0 : Int)) else (0, 11)).2 = 0) : p := by
 by_cases hp : p
 ·exact hp
 ·rw [if_neg hp] at h; cases h
theorem EvArgs.nums {n : Nat} {vs : List Var} {vals : List Val} {x : Ex} {w : World} {uv vv u : Value} (h : EvArgs n vs vals x w uv vv u) (ho : 7 ≤ x.op ∧ x.op ≤ 11) {y : Ex} (hy : y ∈ x.l) : (typX vs y).1 = 2 := by
 have ht := (types_of h.hty).2
 unfold typO at ht
 rw [if_neg (by omega), if_neg (by omega)] at ht
 by_cases h9 : x.op = 9 ∨ x.op = 10 ∨ x.op = 11
 ·rw [if_pos h9] at ht
  exact kinds_all (if_ok ht) hy
 ·rw [if_neg h9, if_pos (by omega)] at ht
  exact kinds_all (if_ok ht) hy
theorem EvArgs.truths {n : Nat} {vs : List Var} {vals : List Val} {x : Ex} {w : World} {uv vv u : Value} (h : EvArgs n vs vals x w uv vv u) (ho : 3 ≤ x.op ∧ x.op ≤ 5) {y : Ex} (hy : y ∈ x.l) : (typX vs y).1 = 1 := by
 have ht := (types_of h.hty).2
 unfold typO at ht
 rw [if_neg (by omega), if_neg (by omega), if_neg (by omega), if_neg (by omega), if_pos (by omega)] at ht
 exact kinds_all (if_ok ht) hy
theorem EvArgs.cond {n : Nat} {vs : List Var} {vals : List Val} {x : Ex} {w : World} {uv vv u : Value} (h : EvArgs n vs vals x w uv vv u) (ho : x.op = 12) {y : Ex} (hy : x.l[0]? = some y) : (typX vs y).1 = 1 := by
 have ht := (types_of h.hty).2
 unfold typO at ht
 rw [if_neg (by omega), if_neg (by omega), if_neg (by omega), if_neg (by omega), if_neg (by omega), if_pos ho] at ht
 have := (if_ok ht).1
 rwa [kinds_at hy] at this
set_option maxHeartbeats 4000000 in
set_option maxRecDepth 100000 in
theorem eval_const (n : Nat) (vs : List Var) (vals : List Val) (x : Ex) (w : World) (uv vv u : Value) (h : EvArgs n vs vals x w uv vv u) (ho : x.op = 1) : Calls Tryz.prog 144 #[uv, vv, u] w (RetO (evX vs vals x) w) := by
 have HO := Lib.hid ho
 clear ho
 have h0 := h
 obtain ⟨hvs, hvl, hx, _, _, hA⟩ := h
 obtain ⟨Av, cv, rfl, v1, v2, hvs⟩ := hvs.open_
 obtain ⟨Aw, cw, rfl, v3, v4, hvl⟩ := hvl.open_
 obtain ⟨lv, rfl, h1, h2, h3, h4⟩ := hx
 obtain ⟨A, c, rfl, l1, l2, h4⟩ := h4.open_
 have hb := bbox (bone w (.cells #[.int .i64 x.op, .int .i64 x.v.kind, .int .i64 x.v.n, .string x.v.s, .string x.s, .slice A x.l.length c] 65)) (.cells #[.int .i64 0, .int .i64 0, .string ⟨#[]⟩] 63)
 have hB := (Blk.new w 65 #[.int .i64 x.op, .int .i64 x.v.kind, .int .i64 x.v.n, .string x.v.s, .string x.s, .slice A x.l.length c]).alloc (.cells #[.int .i64 0, .int .i64 0, .string ⟨#[]⟩] 63)
 have hR := Blk.new_at (t := 63) (cs := #[.int .i64 0, .int .i64 0, .string ⟨#[]⟩]) (w := w.alloc (.cells #[.int .i64 x.op, .int .i64 x.v.kind, .int .i64 x.v.n, .string x.v.s, .string x.s, .slice A x.l.length c] 65)) (s := w.heap.size + 1) (by simp)
 have hl1 := SlE.now h4 hb
 have hv1 := hvs.now hb
 have hw1 := hvl.now hb
 clear h4 hvs hvl
 go_enter Tryz.func144, Tryz.ntmps144
 go_upto_region 1 with fail
 generalize hww : (w.alloc (.cells #[.int .i64 x.op, .int .i64 x.v.kind, .int .i64 x.v.n, .string x.v.s, .string x.s, .slice A x.l.length c] 65)).alloc (.cells #[.int .i64 0, .int .i64 0, .string ⟨#[]⟩] 63) = w1 at *
 clear hww
 have ho := HO.out
 have HST : Hid (∀ (W : World) (x y z : Value), Below w1.heap.size w1 W →
   (W.frozen? ⟨w.heap.size + 1, 0, none⟩ = false ∧ W.frozen? ⟨w.heap.size + 1, 1, none⟩ = false ∧ W.frozen? ⟨w.heap.size + 1, 2, none⟩ = false) ∧
   Blk (((W.setCell ⟨w.heap.size + 1, 0, none⟩ x).setCell ⟨w.heap.size + 1, 1, none⟩ y).setCell ⟨w.heap.size + 1, 2, none⟩ z) (w.heap.size + 1) 63 #[x, y, z] ∧
   (W.cell? ⟨w.heap.size + 1, 0, none⟩ = some (.int .i64 0) ∧ W.cell? ⟨w.heap.size + 1, 1, none⟩ = some (.int .i64 0) ∧ W.cell? ⟨w.heap.size + 1, 2, none⟩ = some (.string ⟨#[]⟩)) ∧
   Below w.heap.size w (((W.setCell ⟨w.heap.size + 1, 0, none⟩ x).setCell ⟨w.heap.size + 1, 1, none⟩ y).setCell ⟨w.heap.size + 1, 2, none⟩ z)) :=
  fun W x y z hW => ⟨⟨(hR.now hW).frozen 0, (hR.now hW).frozen 1, (hR.now hW).frozen 2⟩, (hR.now hW).set3 _ _ _, (hR.now hW).c3, bset3 (bthen hb hW) (by omega) _ _ _⟩
 obtain ⟨q0, q1, q2, q3, q4, q5⟩ := hB.c6
 have HKEY := Lib.hid (ev_key vs vals x)
 have HSL := Lib.hid (shape_len h0.shape)
 have HR : Hid (evX vs vals x = some x.v) := by show _ = _; rw [HKEY.out]; unfold evO; rw [if_pos ho]
 obtain ⟨⟨k0, k1, k2⟩, hS, ⟨y0, y1, y2⟩, hbS⟩ := HST.out w1 (.int .i64 x.v.kind) (.int .i64 x.v.n) (.string x.v.s) (Below.refl _ _)
 go_wp2_with fail
 obtain ⟨t0, t1, t2⟩ := hS.c3
 refine bodyPost_ret (v := .tuple #[.agg #[.int .i64 x.v.kind, .int .i64 x.v.n, .string x.v.s], .bool true]) (by simp [results, Tryz.results144, go_sem, t0, t1, t2]) rfl ?_
 exact RetO.cast HR.out ⟨x.v, rfl, fun a h => (by injection h), hbS⟩
set_option maxHeartbeats 4000000 in
set_option maxRecDepth 100000 in
theorem eval_var (n : Nat) (vs : List Var) (vals : List Val) (x : Ex) (w : World) (uv vv u : Value) (h : EvArgs n vs vals x w uv vv u) (ho : x.op = 2) : Calls Tryz.prog 144 #[uv, vv, u] w (RetO (evX vs vals x) w) := by
 have HO := Lib.hid ho
 clear ho
 have h0 := h
 obtain ⟨hvs, hvl, hx, _, _, hA⟩ := h
 obtain ⟨Av, cv, rfl, v1, v2, hvs⟩ := hvs.open_
 obtain ⟨Aw, cw, rfl, v3, v4, hvl⟩ := hvl.open_
 obtain ⟨lv, rfl, h1, h2, h3, h4⟩ := hx
 obtain ⟨A, c, rfl, l1, l2, h4⟩ := h4.open_
 have hb := bbox (bone w (.cells #[.int .i64 x.op, .int .i64 x.v.kind, .int .i64 x.v.n, .string x.v.s, .string x.s, .slice A x.l.length c] 65)) (.cells #[.int .i64 0, .int .i64 0, .string ⟨#[]⟩] 63)
 have hB := (Blk.new w 65 #[.int .i64 x.op, .int .i64 x.v.kind, .int .i64 x.v.n, .string x.v.s, .string x.s, .slice A x.l.length c]).alloc (.cells #[.int .i64 0, .int .i64 0, .string ⟨#[]⟩] 63)
 have hR := Blk.new_at (t := 63) (cs := #[.int .i64 0, .int .i64 0, .string ⟨#[]⟩]) (w := w.alloc (.cells #[.int .i64 x.op, .int .i64 x.v.kind, .int .i64 x.v.n, .string x.v.s, .string x.s, .slice A x.l.length c] 65)) (s := w.heap.size + 1) (by simp)
 have hl1 := SlE.now h4 hb
 have hv1 := hvs.now hb
 have hw1 := hvl.now hb
 clear h4 hvs hvl
 go_enter Tryz.func144, Tryz.ntmps144
 go_upto_region 1 with fail
 generalize hww : (w.alloc (.cells #[.int .i64 x.op, .int .i64 x.v.kind, .int .i64 x.v.n, .string x.v.s, .string x.s, .slice A x.l.length c] 65)).alloc (.cells #[.int .i64 0, .int .i64 0, .string ⟨#[]⟩] 63) = w1 at *
 clear hww
 have ho := HO.out
 have HST : Hid (∀ (W : World) (x y z : Value), Below w1.heap.size w1 W →
   (W.frozen? ⟨w.heap.size + 1, 0, none⟩ = false ∧ W.frozen? ⟨w.heap.size + 1, 1, none⟩ = false ∧ W.frozen? ⟨w.heap.size + 1, 2, none⟩ = false) ∧
   Blk (((W.setCell ⟨w.heap.size + 1, 0, none⟩ x).setCell ⟨w.heap.size + 1, 1, none⟩ y).setCell ⟨w.heap.size + 1, 2, none⟩ z) (w.heap.size + 1) 63 #[x, y, z] ∧
   (W.cell? ⟨w.heap.size + 1, 0, none⟩ = some (.int .i64 0) ∧ W.cell? ⟨w.heap.size + 1, 1, none⟩ = some (.int .i64 0) ∧ W.cell? ⟨w.heap.size + 1, 2, none⟩ = some (.string ⟨#[]⟩)) ∧
   Below w.heap.size w (((W.setCell ⟨w.heap.size + 1, 0, none⟩ x).setCell ⟨w.heap.size + 1, 1, none⟩ y).setCell ⟨w.heap.size + 1, 2, none⟩ z)) :=
  fun W x y z hW => ⟨⟨(hR.now hW).frozen 0, (hR.now hW).frozen 1, (hR.now hW).frozen 2⟩, (hR.now hW).set3 _ _ _, (hR.now hW).c3, bset3 (bthen hb hW) (by omega) _ _ _⟩
 obtain ⟨q0, q1, q2, q3, q4, q5⟩ := hB.c6
 have HKEY := Lib.hid (ev_key vs vals x)
 have HSL := Lib.hid (shape_len h0.shape)
 have hf : ¬ findV vs x.s < 0 := by
  intro hf
  have ht := (types_of h0.hty).2
  unfold typO at ht
  rw [if_neg (by omega), if_pos ho, if_pos hf] at ht
  cases ht
 obtain ⟨i, z, hi, hz⟩ := find_at hf
 have hil : i < vals.length := by
  rw [hA.len]
  rcases Nat.lt_or_ge i vs.length with h | h
  ·exact h
  ·rw [List.getElem?_eq_none h] at hz; cases hz
 have HFI := Lib.hid hi
 clear hf hi hz
 go_wp2_with fail
 refine (find_any vs x.s _ _ hv1).mono ?_
 rintro e w2 ⟨rfl, hb2⟩
 rw [HFI.out]
 obtain ⟨b, o, v, rfl, hD, hv, hfv, c0, c1, c2⟩ := (hw1.now hb2).at_ hil
 have HR : Hid (evX vs vals x = some v) := by
  show _ = _
  rw [HKEY.out]
  unfold evO
  rw [if_neg (by omega), if_pos ho]
  unfold varV
  rw [HFI.out, Int.toNat_natCast, List.getD_eq_getElem?_getD, hv]; rfl
 have i1 : (0 : Int) ≤ (i : Int) := by omega
 have i2 : (i : Int) < (vals.length : Int) := by omega
 clear hv q0 q1 q2 q3 q4 q5
 obtain ⟨⟨k0, k1, k2⟩, hS, ⟨y0, y1, y2⟩, hbS⟩ := HST.out w2 (.int .i64 v.kind) (.int .i64 v.n) (.string v.s) hb2
 go_wp2_with fail
 obtain ⟨t0, t1, t2⟩ := hS.c3
 refine bodyPost_ret (v := .tuple #[.agg #[.int .i64 v.kind, .int .i64 v.n, .string v.s], .bool true]) (by simp [results, Tryz.results144, go_sem, t0, t1, t2]) rfl ?_
 exact RetO.cast HR.out ⟨v, rfl, fun a h => (by injection h), hbS⟩
set_option maxHeartbeats 4000000 in
set_option maxRecDepth 100000 in
theorem eval_not (n : Nat) (ih : ∀ m, m < n → EvalAt 144 m) (vs : List Var) (vals : List Val) (x : Ex) (w : World) (uv vv u : Value) (h : EvArgs n vs vals x w uv vv u) (ho : x.op = 3) : Calls Tryz.prog 144 #[uv, vv, u] w (RetO (evX vs vals x) w) := by
 have HO := Lib.hid ho
 clear ho
 have h0 := h
 obtain ⟨hvs, hvl, hx, _, _, hA⟩ := h
 obtain ⟨Av, cv, rfl, v1, v2, hvs⟩ := hvs.open_
 obtain ⟨Aw, cw, rfl, v3, v4, hvl⟩ := hvl.open_
 obtain ⟨lv, rfl, h1, h2, h3, h4⟩ := hx
 obtain ⟨A, c, rfl, l1, l2, h4⟩ := h4.open_
 have hb := bbox (bone w (.cells #[.int .i64 x.op, .int .i64 x.v.kind, .int .i64 x.v.n, .string x.v.s, .string x.s, .slice A x.l.length c] 65)) (.cells #[.int .i64 0, .int .i64 0, .string ⟨#[]⟩] 63)
 have hB := (Blk.new w 65 #[.int .i64 x.op, .int .i64 x.v.kind, .int .i64 x.v.n, .string x.v.s, .string x.s, .slice A x.l.length c]).alloc (.cells #[.int .i64 0, .int .i64 0, .string ⟨#[]⟩] 63)
 have hR := Blk.new_at (t := 63) (cs := #[.int .i64 0, .int .i64 0, .string ⟨#[]⟩]) (w := w.alloc (.cells #[.int .i64 x.op, .int .i64 x.v.kind, .int .i64 x.v.n, .string x.v.s, .string x.s, .slice A x.l.length c] 65)) (s := w.heap.size + 1) (by simp)
 have hl1 := SlE.now h4 hb
 have hv1 := hvs.now hb
 have hw1 := hvl.now hb
 clear h4 hvs hvl
 go_enter Tryz.func144, Tryz.ntmps144
 go_upto_region 1 with fail
 generalize hww : (w.alloc (.cells #[.int .i64 x.op, .int .i64 x.v.kind, .int .i64 x.v.n, .string x.v.s, .string x.s, .slice A x.l.length c] 65)).alloc (.cells #[.int .i64 0, .int .i64 0, .string ⟨#[]⟩] 63) = w1 at *
 clear hww
 have ho := HO.out
 have HST : Hid (∀ (W : World) (x y z : Value), Below w1.heap.size w1 W →
   (W.frozen? ⟨w.heap.size + 1, 0, none⟩ = false ∧ W.frozen? ⟨w.heap.size + 1, 1, none⟩ = false ∧ W.frozen? ⟨w.heap.size + 1, 2, none⟩ = false) ∧
   Blk (((W.setCell ⟨w.heap.size + 1, 0, none⟩ x).setCell ⟨w.heap.size + 1, 1, none⟩ y).setCell ⟨w.heap.size + 1, 2, none⟩ z) (w.heap.size + 1) 63 #[x, y, z] ∧
   (W.cell? ⟨w.heap.size + 1, 0, none⟩ = some (.int .i64 0) ∧ W.cell? ⟨w.heap.size + 1, 1, none⟩ = some (.int .i64 0) ∧ W.cell? ⟨w.heap.size + 1, 2, none⟩ = some (.string ⟨#[]⟩)) ∧
   Below w.heap.size w (((W.setCell ⟨w.heap.size + 1, 0, none⟩ x).setCell ⟨w.heap.size + 1, 1, none⟩ y).setCell ⟨w.heap.size + 1, 2, none⟩ z)) :=
  fun W x y z hW => ⟨⟨(hR.now hW).frozen 0, (hR.now hW).frozen 1, (hR.now hW).frozen 2⟩, (hR.now hW).set3 _ _ _, (hR.now hW).c3, bset3 (bthen hb hW) (by omega) _ _ _⟩
 obtain ⟨q0, q1, q2, q3, q4, q5⟩ := hB.c6
 have HKEY := Lib.hid (ev_key vs vals x)
 have HSL := Lib.hid (shape_len h0.shape)
 have hlen : 1 ≤ x.l.length := by have := HSL.out; omega
 obtain ⟨b, o, y, ylv, n', hn, rfl, hD, hy, hex, hfv, hsl, e0, e1, e2, e3, e4, e5⟩ := hl1.at_ (k := 0) (by omega)
 have HY := Lib.hid hy
 have hym := List.mem_of_getElem? hy
 obtain ⟨A2, c2', rfl, m1, m2, _⟩ := hsl.open_
 have hcall := Lib.hid (ih n' (by omega) vs vals y _ _ _ _ (h0.part hym hb hex))
 have HV0 := Lib.hid (fun (a : Val) (h : evX vs vals y = some a) => h0.val hym h)
 have i0 : (0 : Int) < (x.l.length : Int) := by omega
 have e0' : w1.cell? ⟨b, o, none⟩ = some (.int .i64 y.op) := by simpa using e0
 have e1' : w1.cell? ⟨b, o + 1, none⟩ = some (.int .i64 y.v.kind) := by simpa using e1
 have e2' : w1.cell? ⟨b, o + 2, none⟩ = some (.int .i64 y.v.n) := by simpa using e2
 have e3' : w1.cell? ⟨b, o + 3, none⟩ = some (.string y.v.s) := by simpa using e3
 have e4' : w1.cell? ⟨b, o + 4, none⟩ = some (.string y.s) := by simpa using e4
 have e5' : w1.cell? ⟨b, o + 5, none⟩ = some (.slice A2 y.l.length c2') := by simpa using e5
 clear hy hex hsl hfv e0 e1 e2 e3 e4 e5 hn
 go_wp2_with fail
 refine hcall.out.mono ?_
 clear hcall e0' e1' e2' e3' e4' e5'
 rintro e w2 ⟨v0, rfl, hv0, hb2⟩
 have HG0 := Lib.hid (getD_map (f := evX vs vals) HY.out)
 generalize hr0 : evX vs vals y = r0 at *
 have hb3 := bone w2 (.cells #[.int .i64 v0.kind, .int .i64 v0.n, .string v0.s] 63)
 have hF := Blk.new w2 63 #[.int .i64 v0.kind, .int .i64 v0.n, .string v0.s]
 have hb13 := bthen hb2 hb3
 have hB3 := hB.now hb13
 have hl3 := SlE.now hl1 hb13
 clear q0 q1 q2 q3 q4 q5
 have l2' := hF.lt
 go_upto_region 7 with fail
 generalize hw3 : w2.alloc (.cells #[.int .i64 v0.kind, .int .i64 v0.n, .string v0.s] 63) = w3 at *
 clear hw3
 obtain ⟨q0, q1, q2, q3, q4, q5⟩ := hB3.c6
 obtain ⟨f0, f1, f2⟩ := hF.c3
 cases r0 with
 | none =>
  have HR : Hid (evX vs vals x = none) := by
   show _ = _
   rw [HKEY.out]
   unfold evO
   rw [if_neg (by omega), if_neg (by omega), HG0.out]
  clear f0 f1 f2 q0 q1 q2 q3 q4 q5
  obtain ⟨⟨k0, k1, k2⟩, hS, ⟨y0, y1, y2⟩, hbS⟩ := HST.out w3 (.int .i64 0) (.int .i64 0) (.string ⟨#[]⟩) hb13
  go_wp2_with fail
  obtain ⟨t0, t1, t2⟩ := hS.c3
  refine bodyPost_ret (v := .tuple #[.agg #[.int .i64 0, .int .i64 0, .string ⟨#[]⟩], .bool false]) (by simp [results, Tryz.results144, go_sem, t0, t1, t2]) rfl ?_
  exact RetO.cast HR.out ⟨⟨0, 0, ⟨#[]⟩⟩, rfl, fun a h => (by cases h), hbS⟩

 | some a =>
  obtain rfl : v0 = a := hv0 a rfl
  have HVA := Lib.hid (HV0.out _ rfl)
  clear hv0
  have HR : Hid (evX vs vals x = some (truthV (decide (v0.n = 0)))) := by
   show _ = _
   rw [HKEY.out]
   unfold evO
   rw [if_neg (by omega), if_neg (by omega), HG0.out]
   exact if_pos ho
  generalize hd : decide (v0.n = 0) = d at *
  have hd' : (v0.n == 0) = d := hd
  clear hd
  go_wp2_with fail
  refine (truth_any d _).mono ?_
  rintro e w4 ⟨rfl, hb4⟩
  clear f0 f1 f2 q0 q1 q2 q3 q4 q5
  have ev : valV (truthV d) = .agg #[.int .i64 (truthV d).kind, .int .i64 (truthV d).n, .string (truthV d).s] := rfl
  rw [ev]
  generalize truthV d = tv at *
  obtain ⟨⟨k0, k1, k2⟩, hS, ⟨y0, y1, y2⟩, hbS⟩ := HST.out w4 (.int .i64 tv.kind) (.int .i64 tv.n) (.string tv.s) (bthen hb13 hb4)
  go_wp2_with fail
  obtain ⟨t0, t1, t2⟩ := hS.c3
  refine bodyPost_ret (v := .tuple #[.agg #[.int .i64 tv.kind, .int .i64 tv.n, .string tv.s], .bool true]) (by simp [results, Tryz.results144, go_sem, t0, t1, t2]) rfl ?_
  exact RetO.cast HR.out ⟨tv, rfl, fun a h => (by injection h), hbS⟩
end Go.Proofs.YtlmenhjlgmejkaaGreatDoor
