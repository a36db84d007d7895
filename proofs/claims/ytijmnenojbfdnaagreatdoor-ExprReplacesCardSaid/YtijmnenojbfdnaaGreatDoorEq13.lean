/- Texts of this seat, merged. -/
import Derived.Test.YtijmnenojbfdnaaGreatDoorEq01
import Derived.Test.YtijmnenojbfdnaaGreatDoorEq02
import Derived.Test.YtijmnenojbfdnaaGreatDoorEq03
import Derived.Test.YtijmnenojbfdnaaGreatDoorEq04
import Derived.Test.YtijmnenojbfdnaaGreatDoorEq05
import Derived.Test.YtijmnenojbfdnaaGreatDoorEq06
import Derived.Test.YtijmnenojbfdnaaGreatDoorEq07
import Derived.Test.YtijmnenojbfdnaaGreatDoorEq08
import Derived.Test.YtijmnenojbfdnaaGreatDoorEq09
import Derived.Test.YtijmnenojbfdnaaGreatDoorEq10
import Derived.Test.YtijmnenojbfdnaaGreatDoorEq11
set_option linter.unusedSimpArgs false
set_option linter.unusedVariables false
namespace Go.Proofs.YtijmnenojbfdnaaGreatDoor
open Go.RowKit
set_option maxHeartbeats 400000 in
theorem inAllE_any (l : List Var) (vs : List Val) (u v : Value) (w : World) (h : SlX (Lt w.heap.size) w u l) (hv : SlV (Lt w.heap.size) w v vs) (hl : l.length ≤ 1000000) :
    Calls Tryz.prog 30 #[u, v] w fun e w' => e = .returned (.tuple #[.bool (inAllE l vs).1, .int .i64 (inAllE l vs).2]) ∧ Below w.heap.size w w' := by
  go_enter Tryz.func30, Tryz.ntmps30
  go_wp2_with fail
  refine (validVs_any l vs u v _ h hv hl).mono ?_
  rintro e w2 ⟨rfl, hb2⟩
  generalize hq : okB l vs = q
  have HQ := Lib.hid hq
  clear hq
  cases q
  · have HE : Hid ((false, 1) = ((inAllE l vs).1, (inAllE l vs).2)) := by show _ = _; unfold inAllE; rw [HQ.out]; rfl
    go_wp2_with fail
    go_ret2
    exact ⟨ret_bi HE.out, hb2⟩
  · have HE : Hid ((assignedB l vs, 0) = ((inAllE l vs).1, (inAllE l vs).2)) := by show _ = _; unfold inAllE; rw [HQ.out]; rfl
    go_wp2_with fail
    refine (assigned_any l vs u v _ (h.now hb2) (hv.now hb2) (ok_vars HQ.out).1).mono ?_
    rintro e w3 ⟨rfl, hb3⟩
    go_wp2_with fail
    go_ret2
    exact ⟨ret_bi HE.out, bthen hb2 hb3⟩
set_option maxHeartbeats 2000000 in
set_option maxRecDepth 100000 in
theorem cloneV (v : Value) (vs : List Val) (w : World) (h : SlV (Lt w.heap.size) w v vs) (hl : vs.length ≤ 1000000) :
    Calls Tryz.prog 31 #[v] w fun e w' => ∃ v', e = .returned v' ∧ OwnV w' w.heap.size v' vs ∧ Below w.heap.size w w' := by
  obtain ⟨A, c, rfl, h1, h2, ht⟩ := h.open_
  clear h
  have qeq : ∀ (w : World) (a : Option Addr) (n c n' c' : Nat), (binOp .eql 23 (.slice a n c) (.slice none n' c')).run Tryz.prog w = .ok (.bool a.isNone) w := fun w a n c n' c' => Lib.run_eql_slice_nil w _ _ a n c n' c' Tryz.underlying23
  go_enter Tryz.func31, Tryz.ntmps31
  cases A with
  | none =>
    have h0 : vs = [] := by
      match vs, ht with
      | [], _ => rfl
      | x :: xs, ht => obtain ⟨b, o, _, e, _⟩ := ht.at_ (k := 0) (by simp); cases e
    subst h0
    go_wp2_with fail
    go_ret
    exact ⟨_, rfl, OwnW.nil, Below.refl _ _⟩
  | some a =>
    have hb := bone w (.cells #[] 25)
    have htb := ht.now hb
    go_wp2_with (at_builtin; refine wpList_appendAllW (fc := cellsV) (R := RVal) appVals rfl (.tmp 5) (.tmp 6) rfl _ cellsV_len [] _ rfl (World.ownsRow_lit (base := w.heap.size) (e := 25) (size := 3) w #[] 0 (Nat.le_refl _) (by unfold maxLen; omega) rfl) _ vs rfl htb (fun y c h => h.1) cellsV_one (by simp; omega) (by simp) ?_; intro v' w' hown' hgr hat)
    have hbw : Below w.heap.size w w' := hb.trans (below_of_grown hgr (by simp) (fun g hg => by injection hg with hg; exact Nat.le_of_eq hg))
    go_wp2_with fail
    go_ret
    exact ⟨_, rfl, hown', hbw⟩
end Go.Proofs.YtijmnenojbfdnaaGreatDoor

namespace Go.Proofs.YtijmnenojbfdnaaGreatDoor
open Go.RowKit
theorem eqV_bool (a b : Val) : decide (a = b) = (a.kind == b.kind && (a.n == b.n && a.s.toList == b.s.toList)) := by
  obtain ⟨k, n, s⟩ := a
  obtain ⟨k', n', s'⟩ := b
  rw [Bool.eq_iff_iff]
  simp only [decide_eq_true_eq, Val.mk.injEq, Bool.and_eq_true, beq_iff_eq]
  constructor
  · rintro ⟨rfl, rfl, rfl⟩; simp
  · rintro ⟨rfl, rfl, h⟩
    refine ⟨rfl, rfl, ?_⟩
    rw [Lib.toList_data, Lib.toList_data] at h
    cases s; cases s'
    congr 1
    exact Array.toList_inj.1 h
set_option maxRecDepth 100000 in
theorem run_eqV (w : World) (a b : Val) : (binOp .eql 25 (.agg #[.int .i64 a.kind, .int .i64 a.n, .string a.s]) (.agg #[.int .i64 b.kind, .int .i64 b.n, .string b.s])).run Tryz.prog w = .ok (.bool (decide (a = b))) w := by
  rw [eqV_bool, run_eql_struct, run_equalIn_struct w 9999 25 _ _ (by kernel_rfl) (by kernel_rfl)]
  unfold Program.fieldsOf
  rw [Tryz.underlying25]
  simp [Op.eqFields, go_sem, Tryz.underlying3, Tryz.underlying9]
  by_cases h1 : a.kind = b.kind <;> by_cases h2 : a.n = b.n <;> by_cases h3 : a.s.toList = b.s.toList <;> simp [h1, h2, h3]
set_option maxRecDepth 100000 in
theorem run_neV (w : World) (a b : Val) : (binOp .neq 25 (.agg #[.int .i64 a.kind, .int .i64 a.n, .string a.s]) (.agg #[.int .i64 b.kind, .int .i64 b.n, .string b.s])).run Tryz.prog w = .ok (.bool (!decide (a = b))) w := by
  have h := run_eqV w a b
  rw [run_eql_struct] at h
  rw [run_neq_struct]
  cases hr : (Op.equalIn 10000 25 (.agg #[.int .i64 a.kind, .int .i64 a.n, .string a.s]) (.agg #[.int .i64 b.kind, .int .i64 b.n, .string b.s])).run Tryz.prog w with
  | ok r w' =>
    rw [hr] at h
    simp only [Result.andThen_ok, Result.ok.injEq, Value.bool.injEq] at h
    obtain ⟨rfl, rfl⟩ := h
    simp only [Result.andThen_ok]
  | halt x w' => rw [hr] at h; simp [Result.andThen] at h
end Go.Proofs.YtijmnenojbfdnaaGreatDoor
