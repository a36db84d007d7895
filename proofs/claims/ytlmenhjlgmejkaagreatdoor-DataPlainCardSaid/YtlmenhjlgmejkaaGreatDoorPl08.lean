/- Merged texts. -/
import Derived.Test.YtlmenhjlgmejkaaGreatDoorPl07
set_option linter.all false
namespace Go.Proofs.YtlmenhjlgmejkaaGreatDoor
open Go.RowKit
theorem eqV_bool (a b : Val) : decide (a = b) = (a.kind == b.kind && (a.n == b.n && a.s.toList == b.s.toList)) := by
  obtain ⟨k, n, s⟩ := a
  obtain ⟨k', n', s'⟩ := b
  rw [Bool.eq_iff_iff]
  simp only [decide_eq_true_eq, Val.mk.injEq, Bool.and_eq_true, beq_iff_eq]
  constructor
  · rintro ⟨rfl, rfl, rfl⟩; simp
  · rintro ⟨rfl, rfl, h⟩
    refine ⟨rfl, rfl, ?_⟩
    rw [Lib.toList_data, Lib.toList_data] at h
    cases s; cases s'
    congr 1
    exact Array.toList_inj.1 h
set_option maxRecDepth 100000 in
theorem run_eqV (w : World) (a b : Val) : (binOp .eql 63 (.agg #[.int .i64 a.kind, .int .i64 a.n, .string a.s]) (.agg #[.int .i64 b.kind, .int .i64 b.n, .string b.s])).run Tryz.prog w = .ok (.bool (decide (a = b))) w := by
  rw [eqV_bool, run_eql_struct, run_equalIn_struct w 9999 63 _ _ (by kernel_rfl) (by kernel_rfl)]
  unfold Program.fieldsOf
  rw [Tryz.underlying63]
  simp [Op.eqFields, go_sem, Tryz.underlying3, Tryz.underlying9]
  by_cases h1 : a.kind = b.kind <;> by_cases h2 : a.n = b.n <;> by_cases h3 : a.s.toList = b.s.toList <;> simp [h1, h2, h3]
set_option maxRecDepth 100000 in
theorem run_neV (w : World) (a b : Val) : (binOp .neq 63 (.agg #[.int .i64 a.kind, .int .i64 a.n, .string a.s]) (.agg #[.int .i64 b.kind, .int .i64 b.n, .string b.s])).run Tryz.prog w = .ok (.bool (!decide (a = b))) w := by
  have h := run_eqV w a b
  rw [run_eql_struct] at h
  rw [run_neq_struct]
  cases hr : (Op.equalIn 10000 63 (.agg #[.int .i64 a.kind, .int .i64 a.n, .string a.s]) (.agg #[.int .i64 b.kind, .int .i64 b.n, .string b.s])).run Tryz.prog w with
  | ok r w' =>
    rw [hr] at h
    simp only [Result.andThen_ok, Result.ok.injEq, Value.bool.injEq] at h
    obtain ⟨rfl, rfl⟩ := h
    simp only [Result.andThen_ok]
  | halt x w' => rw [hr] at h; simp [Result.andThen] at h
set_option maxHeartbeats 1000000 in
theorem same_ref (u v : Value) (xs ys : List Val) (w : World) (hu : SlV (Lt w.heap.size) w u xs) (hv : SlV (Lt w.heap.size) w v ys) :
    Calls Tryz.prog 34 #[u, v] w fun e w' => e = .returned (.bool (decide (xs = ys))) ∧ Below w.heap.size w w' := by
  obtain ⟨A, c, rfl, h1, h2, ht⟩ := hu.open_
  obtain ⟨Av, cv, rfl, h1v, h2v, htv⟩ := hv.open_
  clear hu hv
  go_enter Tryz.func34, Tryz.ntmps34
  by_cases hlen : xs.length = ys.length
  rotate_left
  · have HE : Hid (decide (xs = ys) = false) := decide_eq_false (fun e => hlen (by rw [e]))
    have h3 : ((xs.length : Int) != (ys.length : Int)) = true := by simp; omega
    clear hlen
    go_wp2_with fail
    go_ret
    exact ⟨ret_bool HE.out.symm, Below.refl _ _⟩
  rw [hlen] at ht h1
  rw [hlen]
  have HL := Lib.hid hlen
  clear hlen
  have h3 : ((ys.length : Int) != (ys.length : Int)) = false := by simp
  go_wp2_with fail
  go_loopw [5] (fun i wr => ∃ k : Nat, k ≤ ys.length ∧ i = .int .i64 k ∧ (∀ j, j < k → xs[j]? = ys[j]?) ∧ Below w.heap.size w wr) (fun i _ => ys.length - (intOf i).toNat)
  case atStart => exact ⟨0, Nat.zero_le _, rfl, fun j h => absurd h (by omega), Below.refl _ _⟩
  case round =>
    obtain ⟨k, hk, rfl, hp, hb⟩ := hrel
    have HP := Lib.hid hp
    clear hp
    by_cases hlt : k < ys.length
    · obtain ⟨b, o, x, rfl, hD, hx, hf, c0, c1, c2⟩ := (ht.now hb).at_ hlt
      obtain ⟨b', o', y, rfl, hD', hy, hf', d0, d1, d2⟩ := (htv.now hb).at_ hlt
      have i1 : (0 : Int) ≤ k := by omega
      have i2 : (k : Int) < (ys.length : Int) := by omega
      have HX := Lib.hid hx
      have HY := Lib.hid hy
      clear hx hy hD hD' hf hf'
      have hne := fun W => run_neV W x y
      by_cases hxy : x = y
      · subst hxy
        go_wp2
        go_quiet (fail)
        go_wp2
        go_roundw
        case rel => exact ⟨k + 1, by omega, by go_num, fun j hj => by
          by_cases e : j = k
          · subst e; rw [HX.out, HY.out]
          · exact HP.out j (by omega), bdrawn hb _⟩
        case measure => simp [intOf]; omega
      · have HE : Hid (decide (xs = ys) = false) := decide_eq_false (fun e => hxy (by
          have hX := HX.out
          rw [e, HY.out] at hX
          injection hX with hX
          exact hX.symm))
        have hd : decide (x = y) = false := decide_eq_false hxy
        rw [hd] at hne
        clear hxy hd
        go_wp2
        go_quiet (fail)
        go_wp2
        go_ret
        exact ⟨ret_bool HE.out.symm, bdrawn hb _⟩
    · obtain rfl : k = ys.length := by omega
      have HE : Hid (decide (xs = ys) = true) := decide_eq_true (List.ext_getElem? fun j => by
        rcases Nat.lt_or_ge j ys.length with h | h
        · exact HP.out j h
        · rw [List.getElem?_eq_none h, List.getElem?_eq_none (by have := HL.out; omega)])
      go_wp2_with fail
      go_ret
      exact ⟨ret_bool HE.out.symm, hb⟩
def AsksE (k : FuncId) (caps : Array Value) (n : Nat) (w : World) (xs : List Ex) (p : Ex → Bool) : Prop :=
  ∀ (x : Ex) (u : Value) (w1 : World), x ∈ xs → IsEx n (Lt w1.heap.size) w1 u x → Below w.heap.size w w1 → Calls Tryz.prog k (#[u] ++ caps) w1 fun e w2 => e = .returned (.bool (p x)) ∧ Below w1.heap.size w1 w2
set_option maxHeartbeats 400000 in
theorem formed1_any (n : Nat) (x : Ex) (u : Value) (w : World) (h : IsEx n (Lt w.heap.size) w u x) :
    Calls Tryz.prog 215 #[u] w fun e w' => e = .returned (.bool (!decide (x.op = 1))) ∧ Below w.heap.size w w' := by
  obtain ⟨lv, rfl, h1, h2, h3, h4⟩ := h
  have hb := bone w (.cells #[.int .i64 x.op, .int .i64 x.v.kind, .int .i64 x.v.n, .string x.v.s, .string x.s, lv] 65)
  by_cases h : x.op = 1
  · rw [decide_eq_true h]
    have b1 : (x.op != 1) = false := by simp [h]
    clear h
    go_enter Tryz.func215, Tryz.ntmps215
    go_wp2_with fail
    go_ret
    exact ⟨rfl, hb⟩
  · rw [decide_eq_false h]
    have b1 : (x.op != 1) = true := by simp [h]
    clear h
    go_enter Tryz.func215, Tryz.ntmps215
    go_wp2_with fail
    go_ret
    exact ⟨rfl, hb⟩
set_option maxHeartbeats 1000000 in
theorem indexFuncE (k : FuncId) (caps : Array Value) (n : Nat) (eg : ∀ a w, (callFunc k (#[a] ++ caps)).run Tryz.prog w = .ok (.enter k (#[a] ++ caps)) w) (tv : Value) (ts : List Ex) (p : Ex → Bool) (w : World) (ht : SlE n (Lt w.heap.size) w tv ts) (hf : AsksE k caps (n - 1) w ts p) :
    Calls Tryz.prog 125 #[tv, .func (.func k) #[] caps] w fun e w' => ∃ z : Int, e = .returned (.int .i64 z) ∧ decide (0 ≤ z) = ts.any p ∧ Below w.heap.size w w' := by
  obtain ⟨A, c, rfl, h1, h2, ht⟩ := ht.open_
  have HF := Lib.hid hf
  clear hf
  go_enter Tryz.func125, Tryz.ntmps125
  go_wp2_with fail
  go_loopw [8] (fun i wr => ∃ j : Nat, j ≤ ts.length ∧ i = .int .i64 j ∧ (∀ q t, q < j → ts[q]? = some t → p t = false) ∧ Below w.heap.size w wr) (fun i _ => ts.length - (intOf i).toNat)
  case atStart => exact ⟨0, Nat.zero_le _, rfl, fun q _ h => absurd h (by omega), Below.refl _ _⟩
  case round =>
    obtain ⟨j, hj, rfl, hp, hb⟩ := hrel
    have HP := Lib.hid hp
    clear hp
    by_cases hlt : j < ts.length
    · obtain ⟨b, o, t, lv, n', rfl, rfl, hD, hx, hex, hfv, hsl, c0, c1, c2, c3, c4, c5⟩ := (ht.now hb).at_ hlt
      have hcall := HF.out t _ wr (List.mem_of_getElem? hx) hex hb
      have HX := Lib.hid hx
      clear hx hex hsl hfv
      generalize hq : p t = q at *
      have HQ := Lib.hid hq
      have HC := Lib.hid hcall
      clear hcall hq
      cases q
      · go_wp2_with (go_at_fn k; refine HC.out.mono ?_; rintro e w' ⟨rfl, hb'⟩)
        go_roundw
        case rel =>
          refine ⟨j + 1, by omega, by go_num, fun q y hq hy => ?_, bthen hb hb'⟩
          by_cases e : q = j
          · subst e; rw [HX.out] at hy; injection hy with hy; subst hy; exact HQ.out
          · exact HP.out q y (by omega) hy
        case measure => simp [intOf]; omega
      · go_wp2_with (go_at_fn k; refine HC.out.mono ?_; rintro e w' ⟨rfl, hb'⟩)
        go_ret
        refine ⟨_, rfl, ?_, bthen hb hb'⟩
        rw [List.any_eq_true.2 ⟨t, List.mem_of_getElem? HX.out, HQ.out⟩]
        simp
    · go_wp2_with fail
      go_ret
      refine ⟨_, rfl, ?_, hb⟩
      rw [any_false_of _ ts (fun q y hq hy => HP.out q y (by omega) hy)]
      simp
theorem containsFuncE (k : FuncId) (caps : Array Value) (n : Nat) (eg : ∀ a w, (callFunc k (#[a] ++ caps)).run Tryz.prog w = .ok (.enter k (#[a] ++ caps)) w) (tv : Value) (ts : List Ex) (p : Ex → Bool) (w : World) (ht : SlE n (Lt w.heap.size) w tv ts) (hf : AsksE k caps (n - 1) w ts p) :
    Calls Tryz.prog 79 #[tv, .func (.func k) #[] caps] w fun e w' => e = .returned (.bool (ts.any p)) ∧ Below w.heap.size w w' := by
  have HC := Lib.hid (indexFuncE k caps n eg tv ts p w ht hf)
  clear hf ht
  go_enter Tryz.func79, Tryz.ntmps79
  go_wp2_with (go_at_call 125; refine HC.out.mono ?_; rintro e w' ⟨z, rfl, hz, hb'⟩)
  go_ret
  exact ⟨rfl, hb'⟩
theorem SlE.tail {n : Nat} {D : Nat → Prop} {w : World} {b o : Nat} {m c : Nat} {zs : List Ex} (h : SlE n D w (.slice (some ⟨b, o, none⟩) m c) zs) (hm : 1 ≤ m) :
    SlE n D w (.slice (some ⟨b, o + 6, none⟩) (m - 1) (c - 1)) (zs.drop 1) := by
  obtain ⟨A, c', hv, h1, h2, h3⟩ := h
  injection hv with hA hn hc
  subst hA hn hc
  have hl : (zs.drop 1).length = zs.length - 1 := List.length_drop
  refine ⟨some ⟨b, o + 6, none⟩, c - 1, by rw [hl], by rw [hl]; omega, by omega, fun i x hx => ?_⟩
  rw [List.getElem?_drop] at hx
  obtain ⟨b', o', cs, hA, hD, hlen, hr, hcell⟩ := h3 (1 + i) x hx
  injection hA with hA
  injection hA with e1 e2 _
  subst e1 e2
  refine ⟨b, o + 6, cs, rfl, hD, hlen, hr, fun j u hu => ?_⟩
  have := hcell j u hu
  have e : o + 6 + i * 6 + j = o + (1 + i) * 6 + j := by omega
  rw [e]; exact this
theorem drop_any_not (l : List Ex) : (l.any fun y => !decide (y.op = 1)) = !(l.all fun y => decide (y.op = 1)) := by
  induction l with
  | nil => rfl
  | cons a m ih => simp [List.any_cons, List.all_cons, ih]
set_option maxHeartbeats 8000000 in
theorem formed_any (n : Nat) (x : Ex) (u : Value) (w : World) (h : IsEx n (Lt w.heap.size) w u x) :
    Calls Tryz.prog 197 #[u] w fun e w' => e = .returned (.bool (shapeX x)) ∧ Below w.heap.size w w' := by
  have eg : ∀ a w, (callFunc 215 (#[a] ++ #[])).run Tryz.prog w = .ok (.enter 215 (#[a] ++ #[])) w := fun a w => enters_of Tryz.func215 (by kernel_rfl) rfl _ w
  obtain ⟨lv, rfl, h1, h2, h3, h4⟩ := h
  obtain ⟨A, c, rfl, l1, l2, h4⟩ := h4.open_
  obtain ⟨o, v, s, l⟩ := x
  simp only [Ex.op, Ex.v, Ex.s, Ex.l] at *
  have HE : Hid (shapeX (.mk o v s l) = if o = 1 then decide (l.length = 0) && noS s && validV v
    else if o = 2 then decide (l.length = 0) && zeroV v && isNameB s && !keyB s
    else zeroV v && noS s &&
      (if o = 3 then decide (l.length = 1)
       else if 4 ≤ o ∧ o ≤ 11 then decide (l.length = 2)
       else if o = 12 then decide (l.length = 3)
       else if o = 13 then decide (2 ≤ l.length) && (l.drop 1).all fun y => decide (y.op = 1)
       else false)) := rfl
  generalize shapeX (.mk o v s l) = R at *
  have hne : ∀ W, (binOp .neq 63 (.agg #[.int .i64 v.kind, .int .i64 v.n, .string v.s]) (.agg #[.int .i64 0, .int .i64 0, .string ⟨#[]⟩])).run Tryz.prog W = .ok (.bool (!zeroV v)) W := fun W => run_neV W v noV
  have hb := bone w (.cells #[.int .i64 o, .int .i64 v.kind, .int .i64 v.n, .string v.s, .string s, .slice A l.length c] 65)
  have hB := Blk.new w 65 #[.int .i64 o, .int .i64 v.kind, .int .i64 v.n, .string v.s, .string s, .slice A l.length c]
  have HL := Lib.hid (h4.now hb)
  clear h4
  generalize hw1 : w.alloc (.cells #[.int .i64 o, .int .i64 v.kind, .int .i64 v.n, .string v.s, .string s, .slice A l.length c] 65) = w1 at *
  obtain ⟨q0, q1, q2, q3, q4, q5⟩ := hB.c6
  have HS : Hid (noS s = s.toList.isEmpty) := rfl
  generalize hz : zeroV v = zv at *
  generalize hs : s.toList.isEmpty = sz at *
  have HLEN : Hid (∀ k : Nat, ((l.length : Int) == (k : Int)) = decide (l.length = k)) := fun k => by rw [Bool.eq_iff_iff]; simp only [beq_iff_eq, decide_eq_true_eq]; omega
  by_cases c1 : o = 1
  · subst c1
    cases sz
    · have HR : Hid (R = false) := by show _ = _; rw [HE.out, if_pos rfl, HS.out]; simp
      go_enter Tryz.func197, Tryz.ntmps197
      go_wp2_with fail
      go_ret
      exact ⟨ret_bool HR.out.symm, hb⟩
    · generalize hq : decide (l.length = 0) = q at *
      have b0 : ((l.length : Int) == 0) = q := (HLEN.out 0).trans hq
      have HR : Hid (R = (q && validV v)) := by show _ = _; rw [HE.out, if_pos rfl, HS.out, Bool.and_true]
      clear hq
      cases q
      · have HR : Hid (R = false) := HR.out
        go_enter Tryz.func197, Tryz.ntmps197
        go_wp2_with fail
        go_ret
        exact ⟨ret_bool HR.out.symm, hb⟩
      · have hcall := validV_any v w1 h2
        unfold valV at hcall
        have HC := Lib.hid hcall
        clear hcall
        go_enter Tryz.func197, Tryz.ntmps197
        go_wp2_with fail
        refine HC.out.mono ?_
        rintro e w2 ⟨rfl, hb2⟩
        generalize validV v = vv at *
        go_wp2_with fail
        go_ret
        exact ⟨ret_bool (by rw [HR.out]; rfl), bthen hb hb2⟩
  by_cases c2 : o = 2
  · subst c2
    clear c1
    cases zv
    · have HR : Hid (R = false) := by show _ = _; rw [HE.out, if_neg (by decide), if_pos rfl]; simp
      go_enter Tryz.func197, Tryz.ntmps197
      go_wp2_with fail
      go_ret
      exact ⟨ret_bool HR.out.symm, hb⟩
    · generalize hq : decide (l.length = 0) = q at *
      have b0 : ((l.length : Int) == 0) = q := (HLEN.out 0).trans hq
      have HR : Hid (R = (q && isNameB s && !keyB s)) := by show _ = _; rw [HE.out, if_neg (by decide), if_pos rfl, Bool.and_true]
      clear hq
      cases q
      · have HR : Hid (R = false) := HR.out
        go_enter Tryz.func197, Tryz.ntmps197
        go_wp2_with fail
        go_ret
        exact ⟨ret_bool HR.out.symm, hb⟩
      · have HC := Lib.hid (fun W => isName_any s W h3)
        have HK := Lib.hid (fun W => key_any s W)
        generalize isNameB s = nm at *
        generalize keyB s = ky at *
        go_enter Tryz.func197, Tryz.ntmps197
        go_wp2_with fail
        refine (HC.out _).mono ?_
        rintro e w2 ⟨rfl, rfl⟩
        cases nm
        · have HR : Hid (R = false) := HR.out
          go_wp2_with fail
          go_ret
          exact ⟨ret_bool HR.out.symm, hb⟩
        · go_wp2_with fail
          refine (HK.out _).mono ?_
          rintro e w2 ⟨rfl, rfl⟩
          go_wp2_with fail
          go_ret
          exact ⟨ret_bool (by rw [HR.out]; rfl), hb⟩
  cases zv
  · have HR : Hid (R = false) := by show _ = _; rw [HE.out, if_neg c1, if_neg c2]; rfl
    go_enter Tryz.func197, Tryz.ntmps197
    go_wp2_with fail
    go_ret
    exact ⟨ret_bool HR.out.symm, hb⟩
  cases sz
  · have HR : Hid (R = false) := by show _ = _; rw [HE.out, if_neg c1, if_neg c2, HS.out]; rfl
    go_enter Tryz.func197, Tryz.ntmps197
    go_wp2_with fail
    go_ret
    exact ⟨ret_bool HR.out.symm, hb⟩
  have HE2 : Hid (R = (if o = 3 then decide (l.length = 1)
       else if 4 ≤ o ∧ o ≤ 11 then decide (l.length = 2)
       else if o = 12 then decide (l.length = 3)
       else if o = 13 then decide (2 ≤ l.length) && (l.drop 1).all fun y => decide (y.op = 1)
       else false)) := by show _ = _; rw [HE.out, if_neg c1, if_neg c2, HS.out]; rfl
  clear HE HS
  by_cases c3 : o = 3
  · subst c3
    clear c1 c2
    generalize hq : decide (l.length = 1) = q at *
    have b0 : ((l.length : Int) == 1) = q := (HLEN.out 1).trans hq
    have HR : Hid (R = q) := by show _ = _; rw [HE2.out]; rw [if_pos rfl]
    clear hq HE2
    go_enter Tryz.func197, Tryz.ntmps197
    go_wp2_with fail
    go_ret
    exact ⟨ret_bool HR.out.symm, hb⟩
  by_cases c4 : o = 4
  · subst c4
    clear c1 c2
    generalize hq : decide (l.length = 2) = q at *
    have b0 : ((l.length : Int) == 2) = q := (HLEN.out 2).trans hq
    have HR : Hid (R = q) := by show _ = _; rw [HE2.out]; rw [if_neg (by decide), if_pos (by decide)]
    clear hq HE2
    go_enter Tryz.func197, Tryz.ntmps197
    go_wp2_with fail
    go_ret
    exact ⟨ret_bool HR.out.symm, hb⟩
  by_cases c5 : o = 5
  · subst c5
    clear c1 c2
    generalize hq : decide (l.length = 2) = q at *
    have b0 : ((l.length : Int) == 2) = q := (HLEN.out 2).trans hq
    have HR : Hid (R = q) := by show _ = _; rw [HE2.out]; rw [if_neg (by decide), if_pos (by decide)]
    clear hq HE2
    go_enter Tryz.func197, Tryz.ntmps197
    go_wp2_with fail
    go_ret
    exact ⟨ret_bool HR.out.symm, hb⟩
  by_cases c6 : o = 6
  · subst c6
    clear c1 c2
    generalize hq : decide (l.length = 2) = q at *
    have b0 : ((l.length : Int) == 2) = q := (HLEN.out 2).trans hq
    have HR : Hid (R = q) := by show _ = _; rw [HE2.out]; rw [if_neg (by decide), if_pos (by decide)]
    clear hq HE2
    go_enter Tryz.func197, Tryz.ntmps197
    go_wp2_with fail
    go_ret
    exact ⟨ret_bool HR.out.symm, hb⟩
  by_cases c7 : o = 7
  · subst c7
    clear c1 c2
    generalize hq : decide (l.length = 2) = q at *
    have b0 : ((l.length : Int) == 2) = q := (HLEN.out 2).trans hq
    have HR : Hid (R = q) := by show _ = _; rw [HE2.out]; rw [if_neg (by decide), if_pos (by decide)]
    clear hq HE2
    go_enter Tryz.func197, Tryz.ntmps197
    go_wp2_with fail
    go_ret
    exact ⟨ret_bool HR.out.symm, hb⟩
  by_cases c8 : o = 8
  · subst c8
    clear c1 c2
    generalize hq : decide (l.length = 2) = q at *
    have b0 : ((l.length : Int) == 2) = q := (HLEN.out 2).trans hq
    have HR : Hid (R = q) := by show _ = _; rw [HE2.out]; rw [if_neg (by decide), if_pos (by decide)]
    clear hq HE2
    go_enter Tryz.func197, Tryz.ntmps197
    go_wp2_with fail
    go_ret
    exact ⟨ret_bool HR.out.symm, hb⟩
  by_cases c9 : o = 9
  · subst c9
    clear c1 c2
    generalize hq : decide (l.length = 2) = q at *
    have b0 : ((l.length : Int) == 2) = q := (HLEN.out 2).trans hq
    have HR : Hid (R = q) := by show _ = _; rw [HE2.out]; rw [if_neg (by decide), if_pos (by decide)]
    clear hq HE2
    go_enter Tryz.func197, Tryz.ntmps197
    go_wp2_with fail
    go_ret
    exact ⟨ret_bool HR.out.symm, hb⟩
  by_cases c10 : o = 10
  · subst c10
    clear c1 c2
    generalize hq : decide (l.length = 2) = q at *
    have b0 : ((l.length : Int) == 2) = q := (HLEN.out 2).trans hq
    have HR : Hid (R = q) := by show _ = _; rw [HE2.out]; rw [if_neg (by decide), if_pos (by decide)]
    clear hq HE2
    go_enter Tryz.func197, Tryz.ntmps197
    go_wp2_with fail
    go_ret
    exact ⟨ret_bool HR.out.symm, hb⟩
  by_cases c11 : o = 11
  · subst c11
    clear c1 c2
    generalize hq : decide (l.length = 2) = q at *
    have b0 : ((l.length : Int) == 2) = q := (HLEN.out 2).trans hq
    have HR : Hid (R = q) := by show _ = _; rw [HE2.out]; rw [if_neg (by decide), if_pos (by decide)]
    clear hq HE2
    go_enter Tryz.func197, Tryz.ntmps197
    go_wp2_with fail
    go_ret
    exact ⟨ret_bool HR.out.symm, hb⟩
  by_cases c12 : o = 12
  · subst c12
    clear c1 c2
    generalize hq : decide (l.length = 3) = q at *
    have b0 : ((l.length : Int) == 3) = q := (HLEN.out 3).trans hq
    have HR : Hid (R = q) := by show _ = _; rw [HE2.out]; rw [if_neg (by decide), if_neg (by decide), if_pos rfl]
    clear hq HE2
    go_enter Tryz.func197, Tryz.ntmps197
    go_wp2_with fail
    go_ret
    exact ⟨ret_bool HR.out.symm, hb⟩
  by_cases c13 : o = 13
  · subst c13
    clear c1 c2 c3 c4 c5 c6 c7 c8 c9 c10 c11 c12
    have HR : Hid (R = (decide (2 ≤ l.length) && (l.drop 1).all fun y => decide (y.op = 1))) := by show _ = _; rw [HE2.out, if_neg (by decide), if_neg (by decide), if_neg (by decide), if_pos rfl]
    clear HE2
    by_cases h2l : 2 ≤ l.length
    · obtain ⟨b, o', _, _, _, _, rfl, _⟩ := HL.out.at_ (k := 0) (by omega)
      have HT := Lib.hid (SlE.tail HL.out (by omega))
      have HRR : Hid (R = (l.drop 1).all fun y => decide (y.op = 1)) := by show _ = _; rw [HR.out, decide_eq_true h2l, Bool.true_and]
      have i1 : (1 : Int) ≤ (l.length : Int) := by omega
      have i2 : (2 : Int) ≤ (l.length : Int) := by omega
      have i3 : (l.length : Int) ≤ (c : Int) := by omega
      go_enter Tryz.func197, Tryz.ntmps197
      go_wp2_with fail
      refine (containsFuncE 215 #[] n eg _ (l.drop 1) (fun y => !decide (y.op = 1)) w1 HT.out (fun y u W _ hex _ => by have := formed1_any _ y u W hex; exact this)).mono ?_
      rintro e w2 ⟨rfl, hb2⟩
      rw [drop_any_not]
      generalize (l.drop 1).all (fun y => decide (y.op = 1)) = q at *
      go_wp2_with fail
      go_ret
      exact ⟨ret_bool (by rw [HRR.out] <;> simp), bthen hb hb2⟩
    · have HRR : Hid (R = false) := by show _ = _; rw [HR.out, decide_eq_false h2l]; rfl
      have i2 : (l.length : Int) < 2 := by omega
      go_enter Tryz.func197, Tryz.ntmps197
      go_wp2_with fail
      go_ret
      exact ⟨ret_bool HRR.out.symm, hb⟩
  have HR : Hid (R = false) := by show _ = _; rw [HE2.out, if_neg c3, if_neg (by omega), if_neg c12, if_neg c13]
  clear HE2
  go_enter Tryz.func197, Tryz.ntmps197
  go_wp2_with fail
  go_ret
  exact ⟨ret_bool HR.out.symm, hb⟩
theorem cntL_nil (a d : Int) : cntL [] a d = a := by rw [cntL]
theorem cntL_cons (x : Ex) (l : List Ex) (a d : Int) : cntL (x :: l) a d = if cntX x a d < 0 then -1 else cntL l (cntX x a d) d := by rw [cntL]
theorem cnt_range : (∀ (x : Ex) (a d : Int), a ≤ 400 → cntX x a d < 0 ∨ cntX x a d ≤ 400) := fun x a d ha => by
  rcases Int.lt_or_le (cntX x a d) 0 with h | h
  · exact .inl h
  · have := (cntX_ok x a d ha h).2; exact .inr (by omega)
theorem cnt_low (x : Ex) (a d : Int) : cntX x a d < 0 → cntX x a d = -1 := by
  have key : (∀ x : Ex, ∀ a d, cntX x a d < 0 → cntX x a d = -1) := by
    intro x
    induction x using Ex.rec (motive_2 := fun l => ∀ a d, 0 ≤ a → cntL l a d < 0 → cntL l a d = -1) with
    | mk o v s l ih =>
      intro a d h
      rw [cntX] at h ⊢
      split
      · rfl
      · rename_i hc
        rw [if_neg hc] at h
        exact ih _ _ (by have : ¬ a ≤ 0 := fun e => hc (.inl e); omega) h
    | nil => rename_i a d ha h; rw [cntL_nil] at h ⊢; omega
    | cons x l ih1 ih2 =>
      rename_i a d ha h
      rw [cntL_cons] at h ⊢
      split
      · rfl
      · rename_i hc
        rw [if_neg hc] at h
        exact ih2 _ _ (by omega) h
  exact key x a d
theorem cntL_drop {l : List Ex} {k : Nat} {x : Ex} (hx : l[k]? = some x) (a d : Int) : cntL (l.drop k) a d = if cntX x a d < 0 then -1 else cntL (l.drop (k + 1)) (cntX x a d) d := by
  have hk : k < l.length := by
    rcases Nat.lt_or_ge k l.length with h | h
    · exact h
    · rw [List.getElem?_eq_none h] at hx; cases hx
  rw [List.getElem?_eq_getElem hk] at hx
  injection hx with hx
  rw [List.drop_eq_getElem_cons hk, hx, cntL_cons]
set_option maxHeartbeats 2000000 in
theorem count_any : ∀ (n : Nat) (x : Ex) (u : Value) (w : World) (a d : Int), IsEx n (Lt w.heap.size) w u x → -1 ≤ a → a ≤ 400 → -1 ≤ d → d ≤ 60 →
    Calls Tryz.prog 184 #[u, .int .i64 a, .int .i64 d] w fun e w' => e = .returned (.int .i64 (cntX x a d)) ∧ Below w.heap.size w w' := by
  intro n
  induction n using Nat.strongRecOn with
  | _ n ih =>
    intro x u w a d h ha1 ha2 hd1 hd2
    have h0 := h
    obtain ⟨lv, rfl, h1, h2, h3, h4⟩ := h
    obtain ⟨A, c, rfl, l1, l2, h4⟩ := h4.open_
    have HE := Lib.hid (cntX_eq x a d)
    have hb := bone w (.cells #[.int .i64 x.op, .int .i64 x.v.kind, .int .i64 x.v.n, .string x.v.s, .string x.s, .slice A x.l.length c] 65)
    have hB := Blk.new w 65 #[.int .i64 x.op, .int .i64 x.v.kind, .int .i64 x.v.n, .string x.v.s, .string x.s, .slice A x.l.length c]
    have hx1 := h0.now hb
    have hl1 := SlE.now h4 hb
    clear h0 h4
    generalize hw1 : w.alloc (.cells #[.int .i64 x.op, .int .i64 x.v.kind, .int .i64 x.v.n, .string x.v.s, .string x.s, .slice A x.l.length c] 65) = w1 at *
    obtain ⟨q0, q1, q2, q3, q4, q5⟩ := hB.c6
    by_cases c1 : a ≤ 0
    · have HR : Hid (cntX x a d = -1) := by show _ = _; rw [HE.out, if_pos (.inl c1)]
      go_enter Tryz.func184, Tryz.ntmps184
      go_wp2_with fail
      go_ret
      exact ⟨by rw [HR.out]; rfl, hb⟩
    by_cases c2 : d ≤ 0
    · have HR : Hid (cntX x a d = -1) := by show _ = _; rw [HE.out, if_pos (.inr (.inl c2))]
      go_enter Tryz.func184, Tryz.ntmps184
      go_wp2_with fail
      go_ret
      exact ⟨by rw [HR.out]; rfl, hb⟩
    go_enter Tryz.func184, Tryz.ntmps184
    go_wp2_with fail
    refine (formed_any _ x _ _ hx1).mono ?_
    rintro e w2 ⟨rfl, hb2⟩
    have hbw2 := bthen hb hb2
    have hl2 := SlE.now hl1 hb2
    have hB2 := hB.now hb2
    clear q0 q1 q2 q3 q4 q5 hB hl1 hx1
    obtain ⟨q0, q1, q2, q3, q4, q5⟩ := hB2.c6
    generalize hs : shapeX x = sh at *
    cases sh
    · have HR : Hid (cntX x a d = -1) := by show _ = _; rw [HE.out, if_pos (.inr (.inr rfl))]
      go_wp2_with fail
      go_ret
      exact ⟨by rw [HR.out]; rfl, hbw2⟩
    have HR : Hid (cntX x a d = cntL (x.l.drop 0) (a - 1) (d - 1)) := by show _ = _; rw [HE.out, if_neg (by simp [c1, c2]), List.drop_zero]
    clear HE hs
    have wa : IntKind.i64.wrap (a - 1) = a - 1 := IntWalk.i64_in _ (by omega)
    have wd : IntKind.i64.wrap (d - 1) = d - 1 := IntWalk.i64_in _ (by omega)
    go_wp2_with fail
    go_loopw [1, 25] (fun av i wr => ∃ (k : Nat) (a' : Int), k ≤ x.l.length ∧ i = .int .i64 k ∧ av = .int .i64 a' ∧ 0 ≤ a' ∧ a' ≤ 400 ∧ cntX x a d = cntL (x.l.drop k) a' (d - 1) ∧ Below w.heap.size w wr ∧ Below w2.heap.size w2 wr) (fun _ i _ => x.l.length - (intOf i).toNat)
    case atStart => exact ⟨0, a - 1, Nat.zero_le _, rfl, rfl, by omega, by omega, HR.out, hbw2, Below.refl _ _⟩
    case round =>
      obtain ⟨k, a', hk, rfl, rfl, a1, a2, hc, hbr, hbr2⟩ := hrel
      have HC := Lib.hid hc
      clear hc HR
      by_cases hlt : k < x.l.length
      · obtain ⟨b, o, y, lv, n', hn, rfl, hD, hx, hex, hfv, hsl, e0, e1, e2, e3, e4, e5⟩ := (SlE.now hl2 hbr2).at_ hlt
        have HX := Lib.hid (cntL_drop hx a' (d - 1))
        have HLO := Lib.hid (cnt_low y a' (d - 1))
        have HRG := Lib.hid (cnt_range y a' (d - 1) a2)
        obtain ⟨A2, c2', rfl, m1, m2, _⟩ := hsl.open_
        have hb3 := bone wr (.cells #[.int .i64 y.op, .int .i64 y.v.kind, .int .i64 y.v.n, .string y.v.s, .string y.s, .slice A2 y.l.length c2'] 65)
        have hcall := Lib.hid (ih n' (by omega) y _ _ a' (d - 1) (hex.now hb3) (by omega) a2 (by omega) (by omega))
        clear hx hex hfv hsl hn
        generalize cntX y a' (d - 1) = z at *
        go_wp2_with fail
        refine hcall.out.mono ?_
        rintro e w4 ⟨rfl, hb4⟩
        have hbw4 : Below w.heap.size w w4 := bthen hbr (bthen hb3 hb4)
        have hbw4' : Below w2.heap.size w2 w4 := bthen hbr2 (bthen hb3 hb4)
        by_cases hz : z < 0
        · have HRR : Hid (cntX x a d = -1) := by show _ = _; rw [HC.out, HX.out, if_pos hz]
          go_wp2_with fail
          go_ret
          exact ⟨by rw [HRR.out]; rfl, hbw4⟩
        · have HRR : Hid (cntX x a d = cntL (x.l.drop (k + 1)) z (d - 1)) := by show _ = _; rw [HC.out, HX.out, if_neg hz]
          go_wp2_with fail
          go_roundw
          case rel => exact ⟨k + 1, z, by omega, by go_num, rfl, by omega, by have := HRG.out; omega, HRR.out, hbw4, hbw4'⟩
          case measure => simp [intOf]; omega
      · have HRR : Hid (cntX x a d = a') := by show _ = _; rw [HC.out, List.drop_eq_nil_of_le (by omega), cntL_nil]
        go_wp2_with fail
        go_ret
        exact ⟨by rw [HRR.out]; rfl, hbr⟩
theorem validX_any (n : Nat) (x : Ex) (u : Value) (w : World) (h : IsEx n (Lt w.heap.size) w u x) :
    Calls Tryz.prog 164 #[u] w fun e w' => e = .returned (.bool (validX x)) ∧ Below w.heap.size w w' := by
  have h0 := h
  obtain ⟨lv, rfl, h1, h2, h3, h4⟩ := h
  have hb := bone w (.cells #[.int .i64 x.op, .int .i64 x.v.kind, .int .i64 x.v.n, .string x.v.s, .string x.s, lv] 65)
  have hc := count_any n x _ _ 400 60 (h0.now hb) (by omega) (by omega) (by omega) (by omega)
  have HC := Lib.hid hc
  have HV : Hid (validX x = decide (0 ≤ cntX x 400 60)) := rfl
  clear hc h4 h0
  generalize cntX x 400 60 = z at *
  go_enter Tryz.func164, Tryz.ntmps164
  go_wp2_with fail
  refine HC.out.mono ?_
  rintro e w2 ⟨rfl, hb2⟩
  have hbw := bthen hb hb2
  clear hb hb2 HC
  go_wp2_with fail
  go_ret
  exact ⟨ret_bool HV.out.symm, hbw⟩
theorem num_yes {n : Int} (h : numB n = true) : numV n = some ⟨2, n, emptyS⟩ := by unfold numV; rw [if_pos h]
theorem num_no {n : Int} (h : numB n = false) : numV n = none := by unfold numV; rw [h]; rfl
set_option maxHeartbeats 400000 in
theorem truth_any (b : Bool) (w : World) : Calls Tryz.prog 167 #[.bool b] w fun e w' => e = .returned (valV (truthV b)) ∧ Below w.heap.size w w' := by
  have hb := bone w (.cells #[.int .i64 0, .int .i64 0, .string ⟨#[]⟩] 63)
  have hB := Blk.new w 63 #[.int .i64 0, .int .i64 0, .string ⟨#[]⟩]
  obtain ⟨x0, x1, x2⟩ := hB.c3
  have k0 := hB.frozen 0
  have k1 := hB.frozen 1
  have k2 := hB.frozen 2
  cases b
  · go_enter Tryz.func167, Tryz.ntmps167
    go_upto_region 1 with fail
    generalize hw1 : w.alloc (.cells #[.int .i64 0, .int .i64 0, .string ⟨#[]⟩] 63) = w1 at *
    clear hw1
    go_wp2_with fail
    obtain ⟨t0, t1, t2⟩ := (hB.set3 (.int .i64 1) (.int .i64 0) (.string ⟨#[]⟩)).c3
    refine bodyPost_ret (v := .agg #[.int .i64 1, .int .i64 0, .string ⟨#[]⟩]) (by simp [results, Tryz.results167, go_sem, t0, t1, t2]) rfl ?_
    exact ⟨rfl, bset3 hb (Nat.le_refl _) _ _ _⟩
  · go_enter Tryz.func167, Tryz.ntmps167
    go_upto_region 1 with fail
    generalize hw1 : w.alloc (.cells #[.int .i64 0, .int .i64 0, .string ⟨#[]⟩] 63) = w1 at *
    clear hw1
    go_wp2_with fail
    obtain ⟨t0, t1, t2⟩ := (hB.set3 (.int .i64 1) (.int .i64 1) (.string ⟨#[]⟩)).c3
    refine bodyPost_ret (v := .agg #[.int .i64 1, .int .i64 1, .string ⟨#[]⟩]) (by simp [results, Tryz.results167, go_sem, t0, t1, t2]) rfl ?_
    exact ⟨rfl, bset3 hb (Nat.le_refl _) _ _ _⟩
def RetO (o : Option Val) (w : World) (e : Ending) (w' : World) : Prop :=
  ∃ v : Val, e = .returned (.tuple #[.agg #[.int .i64 v.kind, .int .i64 v.n, .string v.s], .bool o.isSome]) ∧ (∀ a, o = some a → v = a) ∧ Below w.heap.size w w'
set_option maxHeartbeats 400000 in
theorem enumber_any (n : Int) (w : World) (hn : Fit n) : Calls Tryz.prog 169 #[.int .i64 n] w (RetO (numV n) w) := by
  unfold Fit at hn
  have hb := bone w (.cells #[.int .i64 0, .int .i64 0, .string ⟨#[]⟩] 63)
  have hB := Blk.new w 63 #[.int .i64 0, .int .i64 0, .string ⟨#[]⟩]
  obtain ⟨x0, x1, x2⟩ := hB.c3
  have k0 := hB.frozen 0
  have k1 := hB.frozen 1
  have k2 := hB.frozen 2
  by_cases h1 : -4503599627370496 ≤ n <;> by_cases h2 : n ≤ 4503599627370496
  · have HN := Lib.hid (num_yes (numB_yes h1 h2))
    generalize numV n = r at *
    go_enter Tryz.func169, Tryz.ntmps169
    go_upto_region 1 with fail
    generalize hw1 : w.alloc (.cells #[.int .i64 0, .int .i64 0, .string ⟨#[]⟩] 63) = w1 at *
    clear hw1
    go_wp2_with fail
    obtain ⟨t0, t1, t2⟩ := (hB.set3 (.int .i64 2) (.int .i64 n) (.string ⟨#[]⟩)).c3
    refine bodyPost_ret (v := .tuple #[.agg #[.int .i64 2, .int .i64 n, .string ⟨#[]⟩], .bool true]) (by simp [results, Tryz.results169, go_sem, t0, t1, t2]) rfl ?_
    exact ⟨⟨2, n, ⟨#[]⟩⟩, by rw [HN.out]; rfl, fun a h => (by rw [HN.out] at h; injection h), bset3 hb (Nat.le_refl _) _ _ _⟩
  rotate_left 2
  · exfalso; omega
  all_goals
    have HN := Lib.hid (num_no (numB_no (n := n) (fun h => by omega)))
    generalize numV n = r at *
    try (have h1' : n < -4503599627370496 := by omega)
    try (have h2' : 4503599627370496 < n := by omega)
    try (have d2 : decide (n ≤ 4503599627370496) = false := decide_eq_false (by omega))
    clear h1 h2
    try (have h1 : -4503599627370496 ≤ n := by omega)
    go_enter Tryz.func169, Tryz.ntmps169
    go_upto_region 1 with fail
    generalize hw1 : w.alloc (.cells #[.int .i64 0, .int .i64 0, .string ⟨#[]⟩] 63) = w1 at *
    clear hw1
    go_wp2_with fail
    obtain ⟨t0, t1, t2⟩ := (hB.set3 (.int .i64 2) (.int .i64 n) (.string ⟨#[]⟩)).c3
    refine bodyPost_ret (v := .tuple #[.agg #[.int .i64 2, .int .i64 n, .string ⟨#[]⟩], .bool false]) (by simp [results, Tryz.results169, go_sem, t0, t1, t2]) rfl ?_
    exact ⟨⟨2, n, ⟨#[]⟩⟩, by rw [HN.out]; rfl, fun a h => (by rw [HN.out] at h; cases h), bset3 hb (Nat.le_refl _) _ _ _⟩
theorem RetO.cast {o o' : Option Val} {w w' : World} {e : Ending} (h : o' = o) (k : RetO o w e w') : RetO o' w e w' := by rw [h]; exact k
set_option maxHeartbeats 1000000 in
theorem product_any (a b : Int) (w : World) (ha : -4503599627370496 ≤ a ∧ a ≤ 4503599627370496) (hb0 : -4503599627370496 ≤ b ∧ b ≤ 4503599627370496) :
    Calls Tryz.prog 170 #[.int .i64 a, .int .i64 b] w (RetO (numV (a * b)) w) := by
  have hb := bone w (.cells #[.int .i64 0, .int .i64 0, .string ⟨#[]⟩] 63)
  have hB := Blk.new w 63 #[.int .i64 0, .int .i64 0, .string ⟨#[]⟩]
  go_enter Tryz.func170, Tryz.ntmps170
  go_upto_region 1 with fail
  generalize hw1 : w.alloc (.cells #[.int .i64 0, .int .i64 0, .string ⟨#[]⟩] 63) = w1 at *
  clear hw1
  have HST : Hid (∀ (W : World) (x y z : Value), Below w1.heap.size w1 W →
      (W.frozen? ⟨w.heap.size, 0, none⟩ = false ∧ W.frozen? ⟨w.heap.size, 1, none⟩ = false ∧ W.frozen? ⟨w.heap.size, 2, none⟩ = false) ∧
      Blk (((W.setCell ⟨w.heap.size, 0, none⟩ x).setCell ⟨w.heap.size, 1, none⟩ y).setCell ⟨w.heap.size, 2, none⟩ z) w.heap.size 63 #[x, y, z] ∧
      (W.cell? ⟨w.heap.size, 0, none⟩ = some (.int .i64 0) ∧ W.cell? ⟨w.heap.size, 1, none⟩ = some (.int .i64 0) ∧ W.cell? ⟨w.heap.size, 2, none⟩ = some (.string ⟨#[]⟩)) ∧
      Below w.heap.size w (((W.setCell ⟨w.heap.size, 0, none⟩ x).setCell ⟨w.heap.size, 1, none⟩ y).setCell ⟨w.heap.size, 2, none⟩ z)) :=
    fun W x y z hW => ⟨⟨(hB.now hW).frozen 0, (hB.now hW).frozen 1, (hB.now hW).frozen 2⟩, (hB.now hW).set3 _ _ _, (hB.now hW).c3, bset3 (bthen hb hW) (Nat.le_refl _) _ _ _⟩
  clear hb hB
  by_cases hz : a = 0 ∨ b = 0
  · have e0 : a * b = 0 := by rcases hz with h | h <;> simp [h]
    have HEE : Hid (numV (a * b) = numV 0) := by show _ = _; rw [e0]
    have HZ : Hid (∀ Q : Prop, ((a == 0) = true → Q) → ((a == 0) = false → (b == 0) = true → Q) → Q) := by
      intro Q h1 h2
      by_cases e : a = 0
      · exact h1 (by simp [e])
      · exact h2 (by simp [e]) (by rcases hz with h | h; exact absurd h e; simp [h])
    clear hz e0
    refine HZ.out _ (fun b1 => ?_) (fun b1 b2 => ?_)
    all_goals
      go_wp2_with fail
      refine (enumber_any 0 _ (by unfold Fit; omega)).mono ?_
      rintro e w2 ⟨v, rfl, hv, hb2⟩
      obtain ⟨⟨k0, k1, k2⟩, hS, ⟨y0, y1, y2⟩, hbS⟩ := HST.out _ (.int .i64 v.kind) (.int .i64 v.n) (.string v.s) hb2
      generalize numV 0 = r at *
      go_wp2_with fail
      obtain ⟨t0, t1, t2⟩ := hS.c3
      refine bodyPost_ret (v := .tuple #[.agg #[.int .i64 v.kind, .int .i64 v.n, .string v.s], .bool r.isSome]) (by simp [results, Tryz.results170, go_sem, t0, t1, t2]) rfl ?_
      exact RetO.cast HEE.out ⟨v, rfl, hv, hbS⟩
  · have ha0 : a ≠ 0 := fun h => hz (.inl h)
    have hb1 : b ≠ 0 := fun h => hz (.inr h)
    have b1 : (a == 0) = false := by simp [ha0]
    have b2 : (b == 0) = false := by simp [hb1]
    have hMQ := fun hq => mul_quo (a := a) (b := b) (n := IntKind.i64.wrap (a * b)) hb0 hb1 rfl hq
    have hMF := fun h => mul_fits (a := a) (b := b) hb1 h
    have hwf : -9223372036854775808 ≤ IntKind.i64.wrap (a * b) ∧ IntKind.i64.wrap (a * b) ≤ 9223372036854775807 := by rw [IntKind.wrap_i64]; omega
    generalize hw : IntKind.i64.wrap (a * b) = n at *
    clear hz
    have hbn : ¬ b = -1 ∨ ¬ n = -9223372036854775808 := by
      rcases Classical.em (b = -1) with e | e
      · right
        rw [e, IntWalk.i64_in _ (by omega)] at hw
        omega
      · exact .inl e
    by_cases hq : Int.tdiv n b = a
    · have e := hMQ hq
      have b3 : (Int.tdiv n b != a) = false := by simp [hq]
      have wq : IntKind.i64.wrap (Int.tdiv n b) = Int.tdiv n b := by rw [hq]; exact IntWalk.i64_in _ (by omega)
      have HEE : Hid (numV (a * b) = numV n) := by show _ = _; rw [← e]
      clear hMQ hMF hq e
      go_wp2_with fail
      refine (enumber_any n _ (by unfold Fit; omega)).mono ?_
      rintro e' w2 ⟨v, rfl, hv, hb2⟩
      obtain ⟨⟨k0, k1, k2⟩, hS, ⟨y0, y1, y2⟩, hbS⟩ := HST.out _ (.int .i64 v.kind) (.int .i64 v.n) (.string v.s) hb2
      generalize numV n = r at *
      go_wp2_with fail
      obtain ⟨t0, t1, t2⟩ := hS.c3
      refine bodyPost_ret (v := .tuple #[.agg #[.int .i64 v.kind, .int .i64 v.n, .string v.s], .bool r.isSome]) (by simp [results, Tryz.results170, go_sem, t0, t1, t2]) rfl ?_
      exact RetO.cast HEE.out ⟨v, rfl, hv, hbS⟩
    · have HNO : Hid (numV (a * b) = none) := by
        refine num_no (numB_no (fun h => ?_))
        obtain ⟨e1, e2⟩ := hMF h
        rw [← e1] at e2
        exact hq e2
      have b3 : (Int.tdiv n b != a) = true := by simp [hq]
      have wq : IntKind.i64.wrap (Int.tdiv n b) = Int.tdiv n b := by
        have h1 := Int.natAbs_tdiv_le_natAbs n b
        refine IntWalk.i64_in _ ?_
        rcases hbn with h | h
        · rcases Classical.em (n = -9223372036854775808) with e | e
          · rcases Classical.em (b = 1) with e2 | e2
            · rw [e2, Int.tdiv_one]; omega
            · have h2 : (Int.tdiv n b).natAbs ≤ 4611686018427387904 := by
                rw [Int.natAbs_tdiv]
                exact Nat.le_trans (Nat.div_le_div_left (c := 2) (by omega) (by omega)) (by omega)
              omega
          · omega
        · omega
      clear hMQ hMF hq hbn
      obtain ⟨⟨k0, k1, k2⟩, hS, ⟨y0, y1, y2⟩, hbS⟩ := HST.out _ (.int .i64 0) (.int .i64 0) (.string ⟨#[]⟩) (Below.refl _ _)
      go_wp2_with fail
      obtain ⟨t0, t1, t2⟩ := hS.c3
      refine bodyPost_ret (v := .tuple #[.agg #[.int .i64 0, .int .i64 0, .string ⟨#[]⟩], .bool false]) (by simp [results, Tryz.results170, go_sem, t0, t1, t2]) rfl ?_
      exact ⟨⟨0, 0, ⟨#[]⟩⟩, by rw [HNO.out]; rfl, fun x h => (by rw [HNO.out] at h; cases h), hbS⟩
theorem findV_any (vs : List Var) (s : ByteArray) : findV vs s < 0 ∨ ∃ i : Nat, findV vs s = i ∧ i < vs.length := by
  unfold findV
  cases hf : vs.findIdx? (fun x => x.name.toList == s.toList) with
  | none => left; decide
  | some i =>
    rw [List.findIdx?_eq_some_iff_getElem] at hf
    obtain ⟨h1, _⟩ := hf
    exact .inr ⟨i, rfl, h1⟩
theorem findV_hit {vs : List Var} {s : ByteArray} {j : Nat} {x : Var} (hx : vs[j]? = some x) (h : (x.name.toList == s.toList) = true) (hp : ∀ q y, q < j → vs[q]? = some y → (y.name.toList == s.toList) = false) : findV vs s = j := by
  unfold findV
  have hj : j < vs.length := by
    rcases Nat.lt_or_ge j vs.length with h | h
    · exact h
    · rw [List.getElem?_eq_none h] at hx; cases hx
  rw [List.getElem?_eq_getElem hj] at hx
  injection hx with hx
  have : vs.findIdx? (fun x => x.name.toList == s.toList) = some j := by
    rw [List.findIdx?_eq_some_iff_getElem]
    refine ⟨hj, by rw [hx]; exact h, fun q hq => ?_⟩
    have := hp q vs[q] hq (List.getElem?_eq_getElem (by omega))
    rw [this]; simp
  rw [this]
theorem findV_none {vs : List Var} {s : ByteArray} (hp : ∀ q y, q < vs.length → vs[q]? = some y → (y.name.toList == s.toList) = false) : findV vs s = -1 := by
  unfold findV
  have : vs.findIdx? (fun x => x.name.toList == s.toList) = none := by
    rw [List.findIdx?_eq_none_iff]
    intro x hx
    obtain ⟨q, hq, rfl⟩ := List.mem_iff_getElem.1 hx
    exact hp q _ hq (List.getElem?_eq_getElem hq)
  rw [this]
set_option maxHeartbeats 400000 in
theorem find1_any (x : Var) (g : Nat) (s : ByteArray) (u : Value) (w : World) (h : IsVar (Lt w.heap.size) w u x) (hB : Blk w g 9 #[.string s]) :
    Calls Tryz.prog 187 #[u, .pointer (some ⟨g, 0, none⟩)] w fun e w' => e = .returned (.bool (x.name.toList == s.toList)) ∧ Below w.heap.size w w' := by
  obtain ⟨iv, rfl, h1, h2, h3, h4, h5⟩ := h
  have hb := bone w (.cells #[.string x.name, .int .i64 x.kind, .int .i64 x.low, .int .i64 x.high, iv] 117)
  have hB1 := hB.alloc (.cells #[.string x.name, .int .i64 x.kind, .int .i64 x.low, .int .i64 x.high, iv] 117)
  have c0 := hB1.c1
  go_enter Tryz.func187, Tryz.ntmps187
  go_wp2_with fail
  go_ret
  exact ⟨rfl, hb⟩
set_option maxHeartbeats 1000000 in
theorem indexFind (g : Nat) (s : ByteArray) (tv : Value) (ts : List Var) (w : World) (ht : SlX (Lt w.heap.size) w tv ts) (hB : Blk w g 9 #[.string s]) :
    Calls Tryz.prog 102 #[tv, .func (.func 187) #[] #[.pointer (some ⟨g, 0, none⟩)]] w fun e w' => e = .returned (.int .i64 (findV ts s)) ∧ Below w.heap.size w w' := by
  have eg : ∀ a w, (callFunc 187 #[a, .pointer (some ⟨g, 0, none⟩)]).run Tryz.prog w = .ok (.enter 187 #[a, .pointer (some ⟨g, 0, none⟩)]) w := fun a w => enters_of Tryz.func187 (by kernel_rfl) rfl _ w
  obtain ⟨A, c, rfl, h1, h2, ht⟩ := ht.open_
  go_enter Tryz.func102, Tryz.ntmps102
  go_wp2_with fail
  go_loopw [8] (fun i wr => ∃ j : Nat, j ≤ ts.length ∧ i = .int .i64 j ∧ (∀ q y, q < j → ts[q]? = some y → (y.name.toList == s.toList) = false) ∧ Below w.heap.size w wr) (fun i _ => ts.length - (intOf i).toNat)
  case atStart => exact ⟨0, Nat.zero_le _, rfl, fun q _ h => absurd h (by omega), Below.refl _ _⟩
  case round =>
    obtain ⟨j, hj, rfl, hp, hb⟩ := hrel
    have HP := Lib.hid hp
    clear hp
    by_cases hlt : j < ts.length
    · obtain ⟨b, o, x, iv, rfl, hD, hx, hvar, hiv, c0, c1, c2, c3, c4⟩ := (ht.now hb).at_ hlt
      have hcall := find1_any x g s _ wr hvar (hB.now hb)
      have HX := Lib.hid hx
      clear hx hvar hiv
      generalize hq : (x.name.toList == s.toList) = q at *
      have HQ := Lib.hid hq
      have HC := Lib.hid hcall
      clear hcall hq
      cases q
      · go_wp2_with (go_at_fn 187; refine HC.out.mono ?_; rintro e w' ⟨rfl, hb'⟩)
        go_roundw
        case rel =>
          refine ⟨j + 1, by omega, by go_num, fun q y hq hy => ?_, bthen hb hb'⟩
          by_cases e : q = j
          · subst e; rw [HX.out] at hy; injection hy with hy; subst hy; exact HQ.out
          · exact HP.out q y (by omega) hy
        case measure => simp [intOf]; omega
      · have HF := Lib.hid (findV_hit HX.out HQ.out HP.out)
        go_wp2_with (go_at_fn 187; refine HC.out.mono ?_; rintro e w' ⟨rfl, hb'⟩)
        go_ret
        exact ⟨ret_int HF.out.symm, bthen hb hb'⟩
    · obtain rfl : j = ts.length := by omega
      have HF := Lib.hid (findV_none HP.out)
      go_wp2_with fail
      go_ret
      exact ⟨ret_int HF.out.symm, hb⟩
theorem find_any (vs : List Var) (s : ByteArray) (u : Value) (w : World) (h : SlX (Lt w.heap.size) w u vs) :
    Calls Tryz.prog 166 #[u, .string s] w fun e w' => e = .returned (.int .i64 (findV vs s)) ∧ Below w.heap.size w w' := by
  have hb := bone w (.cells #[.string s] 9)
  have hB := Blk.new w 9 #[.string s]
  have HC := Lib.hid (indexFind w.heap.size s u vs _ (h.now hb) hB)
  clear hB h
  go_enter Tryz.func166, Tryz.ntmps166
  go_wp2_with fail
  refine HC.out.mono ?_
  rintro e w1 ⟨rfl, hb1⟩
  go_wp2_with fail
  go_ret
  exact ⟨rfl, bthen hb hb1⟩
end Go.Proofs.YtlmenhjlgmejkaaGreatDoor
