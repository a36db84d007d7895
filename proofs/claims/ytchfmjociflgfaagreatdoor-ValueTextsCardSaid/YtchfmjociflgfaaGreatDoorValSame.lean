/- Values are compared; the reference's Same. -/
import Derived.Test.YtchfmjociflgfaaGreatDoorValNext4
namespace Go.Proofs.YtchfmjociflgfaaGreatDoor
open Go.RowKit

theorem eqV_bool (a b : Val) : decide (a = b) = (a.kind == b.kind && (a.n == b.n && a.s.toList == b.s.toList)) := by
  obtain ⟨k, n, s⟩ := a
  obtain ⟨k', n', s'⟩ := b
  rw [Bool.eq_iff_iff]
  simp only [decide_eq_true_eq, Val.mk.injEq, Bool.and_eq_true, beq_iff_eq]
  constructor
  · rintro ⟨rfl, rfl, rfl⟩; simp
  · rintro ⟨rfl, rfl, h⟩
    refine ⟨rfl, rfl, ?_⟩
    rw [Lib.toList_data, Lib.toList_data] at h
    cases s; cases s'
    congr 1
    exact Array.toList_inj.1 h
set_option maxRecDepth 100000 in
theorem run_eqV (w : World) (a b : Val) : (binOp .eql 23 (.agg #[.int .i64 a.kind, .int .i64 a.n, .string a.s]) (.agg #[.int .i64 b.kind, .int .i64 b.n, .string b.s])).run Tryz.prog w = .ok (.bool (decide (a = b))) w := by
  rw [eqV_bool, run_eql_struct, run_equalIn_struct w 9999 23 _ _ (by kernel_rfl) (by kernel_rfl)]
  unfold Program.fieldsOf
  rw [Tryz.underlying23]
  simp [Op.eqFields, go_sem, Tryz.underlying3, Tryz.underlying9]
  by_cases h1 : a.kind = b.kind <;> by_cases h2 : a.n = b.n <;> by_cases h3 : a.s.toList = b.s.toList <;> simp [h1, h2, h3]
set_option maxRecDepth 100000 in
theorem run_neV (w : World) (a b : Val) : (binOp .neq 23 (.agg #[.int .i64 a.kind, .int .i64 a.n, .string a.s]) (.agg #[.int .i64 b.kind, .int .i64 b.n, .string b.s])).run Tryz.prog w = .ok (.bool (!decide (a = b))) w := by
  have h := run_eqV w a b
  rw [run_eql_struct] at h
  rw [run_neq_struct]
  cases hr : (Op.equalIn 10000 23 (.agg #[.int .i64 a.kind, .int .i64 a.n, .string a.s]) (.agg #[.int .i64 b.kind, .int .i64 b.n, .string b.s])).run Tryz.prog w with
  | ok r w' =>
    rw [hr] at h
    simp only [Result.andThen_ok, Result.ok.injEq, Value.bool.injEq] at h
    obtain ⟨rfl, rfl⟩ := h
    simp only [Result.andThen_ok]
  | halt x w' => rw [hr] at h; simp [Result.andThen] at h

set_option maxHeartbeats 1000000 in
theorem same_ref (u v : Value) (xs ys : List Val) (w : World) (hu : SlV (Lt w.heap.size) w u xs) (hv : SlV (Lt w.heap.size) w v ys) :
    Calls Tryz.prog 24 #[u, v] w fun e w' => e = .returned (.bool (decide (xs = ys))) ∧ Below w.heap.size w w' := by
  obtain ⟨A, c, rfl, h1, h2, ht⟩ := hu.open_
  obtain ⟨Av, cv, rfl, h1v, h2v, htv⟩ := hv.open_
  clear hu hv
  go_enter Tryz.func24, Tryz.ntmps24
  by_cases hlen : xs.length = ys.length
  rotate_left
  · have HE : Hid (decide (xs = ys) = false) := decide_eq_false (fun e => hlen (by rw [e]))
    have h3 : ((xs.length : Int) != (ys.length : Int)) = true := by simp; omega
    clear hlen
    go_wp2_with fail
    go_ret
    exact ⟨ret_bool HE.out.symm, Below.refl _ _⟩
  rw [hlen] at ht h1
  rw [hlen]
  have HL := Lib.hid hlen
  clear hlen
  have h3 : ((ys.length : Int) != (ys.length : Int)) = false := by simp
  go_wp2_with fail
  go_loopw [5] (fun i wr => ∃ k : Nat, k ≤ ys.length ∧ i = .int .i64 k ∧ (∀ j, j < k → xs[j]? = ys[j]?) ∧ Below w.heap.size w wr) (fun i _ => ys.length - (intOf i).toNat)
  case atStart => exact ⟨0, Nat.zero_le _, rfl, fun j h => absurd h (by omega), Below.refl _ _⟩
  case round =>
    obtain ⟨k, hk, rfl, hp, hb⟩ := hrel
    have HP := Lib.hid hp
    clear hp
    by_cases hlt : k < ys.length
    · obtain ⟨b, o, x, rfl, hD, hx, hf, c0, c1, c2⟩ := (ht.now hb).at_ hlt
      obtain ⟨b', o', y, rfl, hD', hy, hf', d0, d1, d2⟩ := (htv.now hb).at_ hlt
      have i1 : (0 : Int) ≤ k := by omega
      have i2 : (k : Int) < (ys.length : Int) := by omega
      have HX := Lib.hid hx
      have HY := Lib.hid hy
      clear hx hy hD hD' hf hf'
      have hne := fun W => run_neV W x y
      by_cases hxy : x = y
      · subst hxy
        go_wp2
        go_quiet (fail)
        go_wp2
        go_roundw
        case rel => exact ⟨k + 1, by omega, by go_num, fun j hj => by
          by_cases e : j = k
          · subst e; rw [HX.out, HY.out]
          · exact HP.out j (by omega), bdrawn hb _⟩
        case measure => simp [intOf]; omega
      · have HE : Hid (decide (xs = ys) = false) := decide_eq_false (fun e => hxy (by
          have hX := HX.out
          rw [e, HY.out] at hX
          injection hX with hX
          exact hX.symm))
        have hd : decide (x = y) = false := decide_eq_false hxy
        rw [hd] at hne
        clear hxy hd
        go_wp2
        go_quiet (fail)
        go_wp2
        go_ret
        exact ⟨ret_bool HE.out.symm, bdrawn hb _⟩
    · obtain rfl : k = ys.length := by omega
      have HE : Hid (decide (xs = ys) = true) := decide_eq_true (List.ext_getElem? fun j => by
        rcases Nat.lt_or_ge j ys.length with h | h
        · exact HP.out j h
        · rw [List.getElem?_eq_none h, List.getElem?_eq_none (by have := HL.out; omega)])
      go_wp2_with fail
      go_ret
      exact ⟨ret_bool HE.out.symm, hb⟩
end Go.Proofs.YtchfmjociflgfaaGreatDoor
