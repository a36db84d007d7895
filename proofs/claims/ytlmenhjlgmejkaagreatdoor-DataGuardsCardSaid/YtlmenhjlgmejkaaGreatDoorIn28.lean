/- Texts of this seat, merged. -/
import Derived.Outline
import Derived.IntWalk
import Derived.Deep.QuietTactic
import Derived.BigQuiet
import Derived.Test.YtlmenhjlgmejkaaGreatDoorIn01
import Derived.Test.YtlmenhjlgmejkaaGreatDoorIn02
import Derived.Test.YtlmenhjlgmejkaaGreatDoorIn03
import Derived.Test.YtlmenhjlgmejkaaGreatDoorIn04
import Derived.Test.YtlmenhjlgmejkaaGreatDoorIn05
import Derived.Test.YtlmenhjlgmejkaaGreatDoorIn06
import Derived.Test.YtlmenhjlgmejkaaGreatDoorIn07
import Derived.Test.YtlmenhjlgmejkaaGreatDoorIn08
import Derived.Test.YtlmenhjlgmejkaaGreatDoorIn09
import Derived.Test.YtlmenhjlgmejkaaGreatDoorIn10
import Derived.Test.YtlmenhjlgmejkaaGreatDoorIn11
import Derived.Test.YtlmenhjlgmejkaaGreatDoorIn12
import Derived.Test.YtlmenhjlgmejkaaGreatDoorIn13
import Derived.Test.YtlmenhjlgmejkaaGreatDoorIn14
import Derived.Test.YtlmenhjlgmejkaaGreatDoorIn15
import Derived.Test.YtlmenhjlgmejkaaGreatDoorIn16
import Derived.Test.YtlmenhjlgmejkaaGreatDoorIn18
set_option linter.unusedSimpArgs false
set_option linter.unusedVariables false
namespace Go.Proofs.YtlmenhjlgmejkaaGreatDoor
open Go.RowKit
theorem drewN_add' (w : World) (a b : Nat) : (w.drewN a).drewN b = w.drewN (a + b) := by simp [World.drewN, Nat.add_assoc]
theorem eq_of_gets {α : Type} {xs ys : List α} (hl : xs.length = ys.length) (h : ∀ j, j < xs.length → xs[j]? = ys[j]?) : xs = ys := by
  apply List.ext_getElem? 
  intro j
  rcases Nat.lt_or_ge j xs.length with hj | hj
  · exact h j hj
  · rw [List.getElem?_eq_none hj, List.getElem?_eq_none (by omega)]
set_option maxHeartbeats 1000000 in
theorem sameM_ref (u v : Value) (xs ys : List Int) (w : World) (hu : SlI (Lt w.heap.size) w u xs) (hv : SlI (Lt w.heap.size) w v ys) :
    Calls Tryz.prog 33 #[u, v] w fun e w' => e = .returned (.bool (xs == ys)) ∧ ∃ q, w' = w.drewN q := by
  obtain ⟨A, c, rfl, h1, h2, hu⟩ := hu.open_
  obtain ⟨A', c', rfl, h1', h2', hv⟩ := hv.open_
  by_cases hl : xs.length = ys.length
  · have hl' : ((xs.length : Int) != (ys.length : Int)) = false := by simp [hl]
    have HL := Lib.hid hl
    have hle1 : xs.length ≤ ys.length := by omega
    clear hl
    go_enter Tryz.func33, Tryz.ntmps33
    go_wp2_with fail
    go_loopw [5] (fun i wr => ∃ k q : Nat, k ≤ xs.length ∧ i = .int .i64 k ∧ (∀ j, j < k → xs[j]? = ys[j]?) ∧ wr = w.drewN q) (fun i _ => xs.length - (intOf i).toNat)
    case atStart => exact ⟨0, 0, Nat.zero_le _, rfl, fun j h => absurd h (by omega), rfl⟩
    case round =>
      obtain ⟨k, q, hk, rfl, hp, rfl⟩ := hrel
      have HP := Lib.hid hp
      clear hp
      have hu' : SlI (Lt (w.drewN q).heap.size) (w.drewN q) (.slice A xs.length c) xs := hu
      have hv' : SlI (Lt (w.drewN q).heap.size) (w.drewN q) (.slice A' ys.length c') ys := hv
      by_cases hlt : k < xs.length
      · obtain ⟨b, o, x, rfl, hD, hx, hf, hcell⟩ := hu'.at_ hlt
        obtain ⟨b', o', y, rfl, hD', hy, hf', hcell'⟩ := hv'.at_ (k := k) (by omega)
        have i1 : (0 : Int) ≤ k := by omega
        have i2 : (k : Int) < (xs.length : Int) := by omega
        have i3 : (k : Int) < (ys.length : Int) := by omega
        have HX := Lib.hid hx
        have HY := Lib.hid hy
        generalize hwd : w.drewN q = wd at *
        have HW := Lib.hid hwd
        clear hwd hu' hv' hx hy hD hD'
        by_cases hxy : x = y
        · have t1 : (x != y) = false := by simpa using hxy
          have HXY := Lib.hid hxy
          clear hxy
          go_wp2
          go_quiet (fail)
          go_wp2
          go_roundw
          case rel => exact ⟨k + 1, _, by omega, by go_num, fun j hj => by
            by_cases e : j = k
            · subst e; rw [HX.out, HY.out, HXY.out]
            · exact HP.out j (by omega), by rw [← HW.out]; exact drewN_add' _ _ _⟩
          case measure => simp [intOf]; omega
        · have t1 : (x != y) = true := by simpa using hxy
          have HE : Hid ((xs == ys) = false) := by
            show (xs == ys) = false
            rw [beq_eq_false_iff_ne]
            intro e
            have hX := HX.out
            rw [e, HY.out] at hX
            injection hX with hX
            exact hxy hX.symm
          clear hxy
          go_wp2
          go_quiet (fail)
          go_wp2
          go_ret
          exact ⟨ret_bool HE.out.symm, _, by rw [← HW.out]; exact drewN_add' _ _ _⟩
      · have HE : Hid ((xs == ys) = true) := by
          show (xs == ys) = true
          rw [beq_iff_eq]
          exact eq_of_gets HL.out (fun j hj => HP.out j (by omega))
        go_wp2
        go_ret
        exact ⟨ret_bool HE.out.symm, q, rfl⟩
  · have hl' : ((xs.length : Int) != (ys.length : Int)) = true := by simp; omega
    have HE : Hid ((xs == ys) = false) := by
      show (xs == ys) = false
      rw [beq_eq_false_iff_ne]
      exact fun e => hl (by rw [e])
    clear hl
    go_enter Tryz.func33, Tryz.ntmps33
    go_wp2_with fail
    go_ret
    exact ⟨ret_bool HE.out.symm, 0, rfl⟩
def sameSt (a b : St) : Bool := (a.marks == b.marks) && decide (a.vals = b.vals)
theorem sameSt_self (a : St) : sameSt a a = true := by unfold sameSt; simp
set_option maxHeartbeats 1000000 in
theorem sameSt_ref (a b : St) (u v : Value) (w : World) (hu : IsSt (Lt w.heap.size) w u a) (hv : IsSt (Lt w.heap.size) w v b) :
    Calls Tryz.prog 16 #[u, v] w fun e w' => e = .returned (.bool (sameSt a b)) ∧ Below w.heap.size w w' := by
  obtain ⟨mv, vv, rfl, s1, s2⟩ := hu
  obtain ⟨mv', vv', rfl, s3, s4⟩ := hv
  have HE : Hid (sameSt a b = ((a.marks == b.marks) && decide (a.vals = b.vals))) := rfl
  have hb0 := bone w (.cells #[mv, vv] 33)
  have hb := bbox hb0 (.cells #[mv', vv'] 33)
  have HM := Lib.hid (sameM_ref _ _ _ _ _ (s1.now hb) (s3.now hb))
  have HS := Lib.hid (fun q => same_ref _ _ _ _ _ ((s2.now hb).now (bdrawn (Below.refl _ _) q)) ((s4.now hb).now (bdrawn (Below.refl _ _) q)))
  clear s1 s2 s3 s4
  generalize sameSt a b = q0 at *
  generalize (a.marks == b.marks) = q1 at *
  generalize decide (a.vals = b.vals) = q2 at *
  go_enter Tryz.func16, Tryz.ntmps16
  go_wp2_with fail
  refine HM.out.mono ?_
  rintro e w2 ⟨rfl, q, rfl⟩
  have HB := Lib.hid (bdrawn hb q)
  cases q1
  · go_wp2_with fail
    go_ret
    exact ⟨ret_bool (by rw [HE.out]; rfl), HB.out⟩
  · go_wp2_with fail
    refine (HS.out q).mono ?_
    rintro e w3 ⟨rfl, hb3⟩
    go_wp2_with fail
    go_ret
    exact ⟨ret_bool (by rw [HE.out]; rfl), bthen HB.out hb3⟩
end Go.Proofs.YtlmenhjlgmejkaaGreatDoor

namespace Go.Proofs.YtlmenhjlgmejkaaGreatDoor
theorem drun_snoc {d : DNet} {t : Int} : ∀ (l : List Int) (s now : St) (k : Nat), drunFrom d s l k = (now, k + l.length, 0) → (fireD d now t).2 = 0 → drunFrom d s (l ++ [t]) k = ((fireD d now t).1, k + (l ++ [t]).length, 0) := by
  intro l
  induction l with
  | nil =>
    intro s now k h hf
    rw [drunFrom] at h
    injection h with h _
    subst h
    rw [List.nil_append, drunFrom, if_neg (by simpa using hf), drunFrom]
    simp
  | cons a l ih =>
    intro s now k h hf
    rw [drunFrom] at h
    by_cases ha : (fireD d s a).2 ≠ 0
    · rw [if_pos ha] at h
      injection h with _ h
      injection h with _ h
      exact absurd h ha
    · rw [if_neg ha] at h
      rw [List.cons_append, drunFrom, if_neg ha, ih _ now (k + 1) (by rw [h]; simp; omega) hf]
      simp
      omega
theorem prun_snoc {n : Net} {t : Int} : ∀ (l m now : List Int) (k : Nat), runFrom n m l k = (now, k + l.length, 0) → (fireB n now t).2 = 0 → runFrom n m (l ++ [t]) k = ((fireB n now t).1, k + (l ++ [t]).length, 0) := by
  intro l
  induction l with
  | nil =>
    intro s now k h hf
    rw [runFrom] at h
    injection h with h _
    subst h
    rw [List.nil_append, runFrom, if_pos hf, runFrom]
    simp
  | cons a l ih =>
    intro s now k h hf
    rw [runFrom] at h
    by_cases ha : (fireB n s a).2 = 0
    · rw [if_pos ha] at h
      rw [List.cons_append, runFrom, if_pos ha, ih _ now (k + 1) (by rw [h]; simp; omega) hf]
      simp
      omega
    · rw [if_neg ha] at h
      injection h with _ h
      injection h with _ h
      exact absurd h ha
structure Ins (d : DNet) (s now : St) (l : List Int) : Prop where
  valid : dvalidB d = true
  start : stateB d s = true
  st : stateB d now = true
  run : drunFrom d s l 0 = (now, 0 + l.length, 0)
  prun : runFrom d.net s.marks l 0 = (now.marks, 0 + l.length, 0)
theorem Ins.begin {d : DNet} {s : St} (hv : dvalidB d = true) (hs : stateB d s = true) : Ins d s s [] := ⟨hv, hs, hs, by rw [drunFrom]; simp, by rw [runFrom]; simp⟩
variable {d : DNet} {s now : St} {l : List Int} {t : Int}
theorem Ins.vst (h : Ins d s now l) : vstateB d now = true := by unfold vstateB; rw [h.valid, h.st]; rfl
theorem Ins.marks (_ : Ins d s now l) (hf : (fireD d now t).2 = 0) : (fireB d.net now.marks t).2 = 0 ∧ (fireD d now t).1.marks = (fireB d.net now.marks t).1 := by
  obtain ⟨_, _, f3, _, vs, _, e⟩ := fire_parts hf
  exact ⟨f3, by rw [e]⟩
theorem Ins.step (h : Ins d s now l) (hf : (fireD d now t).2 = 0) : Ins d s (fireD d now t).1 (l ++ [t]) := by
  obtain ⟨f1, f2⟩ := h.marks hf
  exact ⟨h.valid, h.start, fire_state h.valid h.st hf, drun_snoc _ _ _ _ h.run hf, by rw [f2]; exact prun_snoc _ _ _ _ h.prun f1⟩
theorem Ins.enabled (h : Ins d s now l) : denE d now = (firesTo d now d.net.trans.length, 0) := by unfold denE; rw [if_pos h.vst]
theorem Ins.fires (_ : Ins d s now l) (ht : t ∈ firesTo d now d.net.trans.length) : (fireD d now t).2 = 0 := by
  unfold firesTo at ht
  obtain ⟨k, hk, rfl⟩ := List.mem_map.1 ht
  simpa using (List.mem_filter.1 hk).2
theorem Ins.fire (h : Ins d s now l) : dfireE d now t = fireD d now t := by unfold dfireE; rw [if_pos h.vst]
theorem Ins.pfire (h : Ins d s now l) (hf : (fireD d now t).2 = 0) : fireE d.net now.marks t = ((fireD d now t).1.marks, 0) := by
  obtain ⟨s1, s2, _⟩ := state_parts h.st
  obtain ⟨f1, f2⟩ := h.marks hf
  unfold fireE
  rw [s1, s2, if_neg (by simp), f2]
  exact Prod.ext rfl f1
theorem Ins.inside (h : Ins d s now l) : inAllE d.vars now.vals = (true, 0) := by
  obtain ⟨_, _, s3⟩ := state_parts h.st
  unfold asgB at s3
  rw [Bool.and_eq_true, decide_eq_true_eq] at s3
  exact Prod.ext s3.2 s3.1
theorem Ins.drun (h : Ins d s now l) (hl : l.length ≤ 1000) : drunB d s l = (now, l.length, 0) := by
  unfold drunB vstateB
  rw [h.valid, h.start, if_neg (by simp), if_neg (by omega), h.run, Nat.zero_add]
theorem Ins.pruns (h : Ins d s now l) (hl : l.length ≤ 1000) : runB d.net s.marks l = (now.marks, l.length, 0) := by
  obtain ⟨s1, s2, _⟩ := state_parts h.start
  unfold runB
  rw [s1, s2, if_neg (by simp), if_neg (by omega), h.prun, Nat.zero_add]
end Go.Proofs.YtlmenhjlgmejkaaGreatDoor
