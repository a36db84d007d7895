/- Text of the reference. -/
import Derived.Test.YtlkkfkkhllijbaaGreatDoorPtTextR
import Derived.Test.YtlkkfkkhllijbaaGreatDoorPtSplit
import Derived.Test.YtlkkfkkhllijbaaGreatDoorValid
import Derived.Deep.CutRange
import Derived.Deep.CutBlock
import Derived.BigQuiet
import Derived.Test.YtlkkfkkhllijbaaGreatDoorMakeB
namespace Go.Proofs.YtlkkfkkhllijbaaGreatDoor
open Go.RowKit

theorem numbers_one (z : Int) (g : Nat) (W : World) (h : Blk W g 3 #[.int .i64 z]) (hz : 0 ≤ z ∧ z ≤ 9223372036854775807) :
    Calls Tryz.prog 34 #[.slice (some ⟨g, 0, none⟩) 1 1] W fun e w' => e = .returned (.string ⟨(numsB [z]).toArray⟩) ∧ W = w' :=
  numbers_ref _ [z] W (SlI.ofBlk (zs := [z]) h (by unfold maxLen; simp) (fun y hy => by rw [List.mem_singleton] at hy; rw [hy]; unfold Fit; omega)) (fun y hy => by rw [List.mem_singleton] at hy; rw [hy]; exact hz) (by simp)
def headS (n : Net) : ByteArray := ⟨(headB n).toArray⟩
theorem num_small {z : Int} (h : 0 ≤ z ∧ z < 100) : (numsB [z]).length ≤ 3 := by
  have := num_len z h
  unfold numsB
  simp only [List.flatMap_cons, List.flatMap_nil, List.append_nil, List.length_cons]
  omega
theorem bs1 (z : Int) (W : World) : (Instr.buildSlice 40 1 #[(0, .int .i64 z)]).run Tryz.prog W = .ok (.slice (some ⟨W.heap.size, 0, none⟩) 1 1) (W.alloc (.cells #[.int .i64 z] 3)) := by kernel_rfl
theorem wpM_num {o : Oper} {a : Act} {w : World} {K : Act → World → Prop} {Q : Exit → Act → World → Prop} (x : Operand) (args : Array Operand) (vals : Array Value) (ts : Array TypeId) (ho : o.op = .call { callee := .value x, args := args, argTypes := ts }) (hx : a.eval x = .func (.func 34) #[] #[]) (hv : args.map a.eval = vals)
    (h : Calls Tryz.prog 34 vals w fun e w' => ∃ v, e = .returned v ∧ K (a.put o.dst v) w') : o.wp Tryz.prog a w K Q := by
  unfold Oper.wp execOp
  simp only [ho]
  generalize a.eval = ρ at hx hv ⊢
  simp [hx, hv, go_sem]
  refine h.mono ?_
  rintro e w' ⟨v, rfl, hK⟩
  exact hK
/-- What the operations of the first region lay in their slots. -/
def txF (n : Net) (nb : Nat) (P : Nat → ByteArray) : Nat → Value → World → Prop
  | 0, v, _ => v = .pointer (some ⟨nb, 0, none⟩)
  | 1, v, _ => v = .int .i64 n.places
  | 2, v, W => ∃ g, v = .slice (some ⟨g, 0, none⟩) 1 1 ∧ Blk W g 3 #[.int .i64 n.places]
  | 3, v, _ => v = .string (P 0)
  | 4, v, _ => v = .string (P 3)
  | 5, v, _ => v = .string (P 4)
  | 6, v, _ => v = .pointer (some ⟨nb, 2, none⟩)
  | 7, v, _ => v = .int .i64 n.source
  | 8, v, W => ∃ g, v = .slice (some ⟨g, 0, none⟩) 1 1 ∧ Blk W g 3 #[.int .i64 n.source]
  | 9, v, _ => v = .string (P 1)
  | 10, v, _ => v = .string (P 5)
  | 11, v, _ => v = .string (P 6)
  | 12, v, _ => v = .pointer (some ⟨nb, 3, none⟩)
  | 13, v, _ => v = .int .i64 n.sink
  | 14, v, W => ∃ g, v = .slice (some ⟨g, 0, none⟩) 1 1 ∧ Blk W g 3 #[.int .i64 n.sink]
  | 15, v, _ => v = .string (P 2)
  | 16, v, _ => v = .string (P 7)
  | 17, v, _ => v = .string (P 8)
  | _, _, _ => True
theorem txF_now (n : Net) (nb : Nat) (P : Nat → ByteArray) : ∀ j v W W', txF n nb P j v W → Below W.heap.size W W' → txF n nb P j v W' := by
  intro j v W W' h hb
  match j, h with
  | 0, h => exact h
  | 1, h => exact h
  | 2, ⟨g, e, h⟩ => exact ⟨g, e, h.now hb⟩
  | 3, h => exact h
  | 4, h => exact h
  | 5, h => exact h
  | 6, h => exact h
  | 7, h => exact h
  | 8, ⟨g, e, h⟩ => exact ⟨g, e, h.now hb⟩
  | 9, h => exact h
  | 10, h => exact h
  | 11, h => exact h
  | 12, h => exact h
  | 13, h => exact h
  | 14, ⟨g, e, h⟩ => exact ⟨g, e, h.now hb⟩
  | 15, h => exact h
  | 16, h => exact h
  | 17, h => exact h
  | n + 18, h => exact h
def txP (a b c : ByteArray) : Nat → ByteArray
  | 0 => a
  | 1 => b
  | 2 => c
  | 3 => (⟨#[110, 101, 116]⟩ : ByteArray) ++ a
  | 4 => (⟨#[110, 101, 116]⟩ : ByteArray) ++ a ++ ⟨#[32, 115, 111, 117, 114, 99, 101]⟩
  | 5 => (⟨#[110, 101, 116]⟩ : ByteArray) ++ a ++ ⟨#[32, 115, 111, 117, 114, 99, 101]⟩ ++ b
  | 6 => (⟨#[110, 101, 116]⟩ : ByteArray) ++ a ++ ⟨#[32, 115, 111, 117, 114, 99, 101]⟩ ++ b ++ ⟨#[32, 115, 105, 110, 107]⟩
  | 7 => (⟨#[110, 101, 116]⟩ : ByteArray) ++ a ++ ⟨#[32, 115, 111, 117, 114, 99, 101]⟩ ++ b ++ ⟨#[32, 115, 105, 110, 107]⟩ ++ c
  | _ => (⟨#[110, 101, 116]⟩ : ByteArray) ++ a ++ ⟨#[32, 115, 111, 117, 114, 99, 101]⟩ ++ b ++ ⟨#[32, 115, 105, 110, 107]⟩ ++ c ++ ⟨#[10]⟩
theorem tx_add {a b c : ByteArray} (h : c = a ++ b) : a ++ b = c := h.symm

set_option maxHeartbeats 8000000 in
set_option maxRecDepth 100000 in
theorem text_ref (n : Net) (v : Value) (w : World) (h : IsNet (Lt w.heap.size) w v n) (hv : validB n = true) :
    Calls Tryz.prog 11 #[v] w fun e w' => e = .returned (.string ⟨(textB n).toArray⟩) ∧ Below w.heap.size w w' := by
  obtain ⟨tv, rfl, hp, hs, hkk, ht⟩ := h
  obtain ⟨A, c, rfl, h1, h2, ht⟩ := ht.open_
  have hb := bone w (.cells #[.int .i64 n.places, .slice A n.trans.length c, .int .i64 n.source, .int .i64 n.sink] 24)
  have hB := Blk.new w 24 #[.int .i64 n.places, .slice A n.trans.length c, .int .i64 n.source, .int .i64 n.sink]
  have ht1 := ht.now hb
  obtain ⟨v1, v2, v3, v4⟩ := validOk hv
  obtain ⟨⟨s1, s2⟩, k1, k2⟩ := insideOk hv
  have HV4 := Lib.hid v4
  clear v4 hv
  go_enter Tryz.func11, Tryz.ntmps11
  go_upto_region 1 with fail
  generalize hw1 : w.alloc (.cells #[.int .i64 n.places, .slice A n.trans.length c, .int .i64 n.source, .int .i64 n.sink] 24) = w1 at *
  clear hw1 ht
  have l0 : (bsOf (numsB [n.places])).size ≤ 3 := by rw [bs_size]; exact num_small (by omega)
  have l1 : (bsOf (numsB [n.source])).size ≤ 3 := by rw [bs_size]; exact num_small (by omega)
  have l2 : (bsOf (numsB [n.sink])).size ≤ 3 := by rw [bs_size]; exact num_small (by omega)
  have HHS : Hid (headS n = (⟨#[110, 101, 116]⟩ : ByteArray) ++ bsOf (numsB [n.places]) ++ ⟨#[32, 115, 111, 117, 114, 99, 101]⟩ ++ bsOf (numsB [n.source]) ++ ⟨#[32, 115, 105, 110, 107]⟩ ++ bsOf (numsB [n.sink]) ++ ⟨#[10]⟩) := by
    show _ = _
    unfold headS headB bsOf
    show _ = (⟨[110, 101, 116].toArray⟩ : ByteArray) ++ ⟨(numsB [n.places]).toArray⟩ ++ ⟨[32, 115, 111, 117, 114, 99, 101].toArray⟩ ++ ⟨(numsB [n.source]).toArray⟩ ++ ⟨[32, 115, 105, 110, 107].toArray⟩ ++ ⟨(numsB [n.sink]).toArray⟩ ++ ⟨[10].toArray⟩
    rw [app_bytes, app_bytes, app_bytes, app_bytes, app_bytes, app_bytes]
    simp [numsB]
  obtain ⟨P, HP0, HP1, HP2, HE3, HE4, HE5, HE6, HE7, HE8⟩ : ∃ P : Nat → ByteArray, Hid (P 0 = bsOf (numsB [n.places])) ∧ Hid (P 1 = bsOf (numsB [n.source])) ∧ Hid (P 2 = bsOf (numsB [n.sink])) ∧ Hid ((⟨#[110, 101, 116]⟩ : ByteArray) ++ P 0 = P 3) ∧ Hid (P 3 ++ ⟨#[32, 115, 111, 117, 114, 99, 101]⟩ = P 4) ∧ Hid (P 4 ++ P 1 = P 5) ∧ Hid (P 5 ++ ⟨#[32, 115, 105, 110, 107]⟩ = P 6) ∧ Hid (P 6 ++ P 2 = P 7) ∧ Hid (P 7 ++ ⟨#[10]⟩ = P 8) :=
    ⟨txP (bsOf (numsB [n.places])) (bsOf (numsB [n.source])) (bsOf (numsB [n.sink])), rfl, rfl, rfl, rfl, rfl, rfl, rfl, rfl, rfl⟩
  have HP8 : Hid (P 8 = headS n) := by
    show _ = _
    rw [HHS.out, ← HE8.out, ← HE7.out, ← HE6.out, ← HE5.out, ← HE4.out, ← HE3.out, HP0.out, HP1.out, HP2.out]
  have z0 : (P 0).size ≤ 3 := by rw [HP0.out]; exact l0
  have z1 : (P 1).size ≤ 3 := by rw [HP1.out]; exact l1
  have z2 : (P 2).size ≤ 3 := by rw [HP2.out]; exact l2
  have c3 : (⟨#[110, 101, 116]⟩ : ByteArray).size = 3 := rfl
  have c7 : (⟨#[32, 115, 111, 117, 114, 99, 101]⟩ : ByteArray).size = 7 := rfl
  have c5 : (⟨#[32, 115, 105, 110, 107]⟩ : ByteArray).size = 5 := rfl
  have cn : (⟨#[10]⟩ : ByteArray).size = 1 := rfl
  have z3 : (P 3).size ≤ 6 := by rw [← HE3.out, ByteArray.size_append]; omega
  have z4 : (P 4).size ≤ 13 := by rw [← HE4.out, ByteArray.size_append]; omega
  have z5 : (P 5).size ≤ 16 := by rw [← HE5.out, ByteArray.size_append]; omega
  have z6 : (P 6).size ≤ 21 := by rw [← HE6.out, ByteArray.size_append]; omega
  have z7 : (P 7).size ≤ 24 := by rw [← HE7.out, ByteArray.size_append]; omega
  have z8 : (P 8).size ≤ 25 := by rw [← HE8.out, ByteArray.size_append]; omega
  have HM3 : Hid (¬ 9223372036854775807 < 3 + (P 0).size) := by show ¬ _; omega
  have HM4 : Hid (¬ 9223372036854775807 < (P 3).size + 7) := by show ¬ _; omega
  have HM5 : Hid (¬ 9223372036854775807 < (P 4).size + (P 1).size) := by show ¬ _; omega
  have HM6 : Hid (¬ 9223372036854775807 < (P 5).size + 5) := by show ¬ _; omega
  have HM7 : Hid (¬ 9223372036854775807 < (P 6).size + (P 2).size) := by show ¬ _; omega
  have HM8 : Hid (¬ 9223372036854775807 < (P 7).size + 1) := by show ¬ _; omega
  clear l0 l1 l2 HHS c3 c7 c5 cn
  go_cut [3] from 7 to 24 (fun s3 W => s3 = .string (headS n) ∧ Below w1.heap.size w1 W)
  case first =>
   rename_i J1 K1 hJ hK
   refine wp_region_make (by kernel_rfl) 18 (by kernel_rfl) (by kernel_rfl) (by kernel_rfl) (by kernel_rfl) (txF n w.heap.size P) (txF_now _ _ _) ?hall ?hstep ?hlast
   case hall => exact hall_of (by kernel_rfl)
   case hlast =>
    intro o ho a W hk hbW hF
    injection ho with ho
    subst ho
    have e17 : a.eval (.tmp 24) = .string (P 8) := (show txF n w.heap.size P 17 (Act.slot a 24) W from hF 17 (by decide))
    have hbW : Below w1.heap.size w1 W := (Below.refl _ _).drew.trans hbW
    refine wpM_assign (.tmp 24) _ rfl e17 ⟨_, rfl, fun a'' hk'' hs => ?_⟩
    have h9 : Act.slot a'' 3 = .string (P 8) := by
      rw [hs]
      have hp : ∀ k, (some 3 : Option Nat) = some k → k < a.tmps.size := fun k hk' => by
        injection hk' with hk'
        subst hk'
        rw [hk.size]
        simp
      exact (congrFun (slot_put (a := a) (d := some 3) (v := .string (P 8)) hp) 3).trans (by simp [upd])
    refine hK _ _ ?_
    rw [hk''.form (by kernel_rfl)]
    simp only [putsAll, Option.getD_some, Act.put, List.setIfInBounds_toArray, List.set_cons_zero, List.set_cons_succ, h9]
    go_meet
    exact ⟨by rw [HP8.out], hbW⟩
   case hstep =>
    refine ⟨fun a W hk hbW hd => ?_, ?_⟩
    · show Oper.wp _ _ a W _ _
      have k1 : a.eval (.tmp 1) = .pointer (some ⟨w.heap.size, 0, none⟩) := hk.same (s := 1) (by kernel_rfl)
      exact wpM_field _ _ _ _ _ rfl k1 (by first | (simp [go_sem]; done) | (simp [go_sem]; rfl)) ⟨_, rfl, Below.refl _ _, rfl⟩
    refine ⟨fun a W hk hbW hd => ?_, ?_⟩
    · show Oper.wp _ _ a W _ _
      have e0 : a.eval (.tmp 7) = .pointer (some ⟨w.heap.size, 0, none⟩) := (show txF n w.heap.size P 0 (Act.slot a 7) W from hd 0 (by kernel_rfl))
      obtain ⟨q0, q1, q2, q3⟩ := (hB.now (show Below w1.heap.size w1 W from (Below.refl _ _).drew.trans hbW)).c4
      exact wpM_load _ _ _ (.int .i64 n.places) rfl e0 (by simp [go_sem, q0, q1, q2, q3]) ⟨_, rfl, Below.refl _ _, rfl⟩
    refine ⟨fun a W hk hbW hd => ?_, ?_⟩
    · show Oper.wp _ _ a W _ _
      have e0 : a.eval (.tmp 8) = .int .i64 n.places := (show txF n w.heap.size P 1 (Act.slot a 8) W from hd 1 (by kernel_rfl))
      refine wpM_slice _ _ _ _ _ #[(0, .int .i64 n.places)] rfl (by simp [e0]) (bs1 n.places W) ⟨_, rfl, bone _ _, ?_⟩
      exact ⟨_, rfl, Blk.new W _ _⟩
    refine ⟨fun a W hk hbW hd => ?_, ?_⟩
    · show Oper.wp _ _ a W _ _
      obtain ⟨g, e0, hg⟩ := (show txF n w.heap.size P 2 (Act.slot a 9) W from hd 2 (by kernel_rfl))
      have e0 : a.eval (.tmp 9) = .slice (some ⟨g, 0, none⟩) 1 1 := e0
      refine wpM_num _ _ #[.slice (some ⟨g, 0, none⟩) 1 1] _ rfl rfl (by simp [e0]) ?_
      refine (numbers_one _ g W hg (by omega)).mono ?_
      rintro e w' ⟨rfl, rfl⟩
      exact ⟨_, rfl, _, rfl, Below.refl _ _, (by show Value.string _ = Value.string (P 0); rw [HP0.out]; rfl)⟩
    refine ⟨fun a W hk hbW hd => ?_, ?_⟩
    · show Oper.wp _ _ a W _ _
      have e2 : a.eval (.tmp 10) = .string (P 0) := (show txF n w.heap.size P 3 (Act.slot a 10) W from hd 3 (by kernel_rfl))
      refine wpM_run (.string (P 3)) W ?_ ⟨_, rfl, Below.refl _ _, rfl⟩
      simp only [execOp, e2]
      simp [go_sem, HE3.out, HM3.out]
    refine ⟨fun a W hk hbW hd => ?_, ?_⟩
    · show Oper.wp _ _ a W _ _
      have e1 : a.eval (.tmp 11) = .string (P 3) := (show txF n w.heap.size P 4 (Act.slot a 11) W from hd 4 (by kernel_rfl))
      refine wpM_run (.string (P 4)) W ?_ ⟨_, rfl, Below.refl _ _, rfl⟩
      simp only [execOp, e1]
      simp [go_sem, HE4.out, HM4.out]
    refine ⟨fun a W hk hbW hd => ?_, ?_⟩
    · show Oper.wp _ _ a W _ _
      have k1 : a.eval (.tmp 1) = .pointer (some ⟨w.heap.size, 0, none⟩) := hk.same (s := 1) (by kernel_rfl)
      exact wpM_field _ _ _ _ _ rfl k1 (by first | (simp [go_sem]; done) | (simp [go_sem]; rfl)) ⟨_, rfl, Below.refl _ _, rfl⟩
    refine ⟨fun a W hk hbW hd => ?_, ?_⟩
    · show Oper.wp _ _ a W _ _
      have e0 : a.eval (.tmp 13) = .pointer (some ⟨w.heap.size, 2, none⟩) := (show txF n w.heap.size P 6 (Act.slot a 13) W from hd 6 (by kernel_rfl))
      obtain ⟨q0, q1, q2, q3⟩ := (hB.now (show Below w1.heap.size w1 W from (Below.refl _ _).drew.trans hbW)).c4
      exact wpM_load _ _ _ (.int .i64 n.source) rfl e0 (by simp [go_sem, q0, q1, q2, q3]) ⟨_, rfl, Below.refl _ _, rfl⟩
    refine ⟨fun a W hk hbW hd => ?_, ?_⟩
    · show Oper.wp _ _ a W _ _
      have e0 : a.eval (.tmp 14) = .int .i64 n.source := (show txF n w.heap.size P 7 (Act.slot a 14) W from hd 7 (by kernel_rfl))
      refine wpM_slice _ _ _ _ _ #[(0, .int .i64 n.source)] rfl (by simp [e0]) (bs1 n.source W) ⟨_, rfl, bone _ _, ?_⟩
      exact ⟨_, rfl, Blk.new W _ _⟩
    refine ⟨fun a W hk hbW hd => ?_, ?_⟩
    · show Oper.wp _ _ a W _ _
      obtain ⟨g, e0, hg⟩ := (show txF n w.heap.size P 8 (Act.slot a 15) W from hd 8 (by kernel_rfl))
      have e0 : a.eval (.tmp 15) = .slice (some ⟨g, 0, none⟩) 1 1 := e0
      refine wpM_num _ _ #[.slice (some ⟨g, 0, none⟩) 1 1] _ rfl rfl (by simp [e0]) ?_
      refine (numbers_one _ g W hg (by omega)).mono ?_
      rintro e w' ⟨rfl, rfl⟩
      exact ⟨_, rfl, _, rfl, Below.refl _ _, (by show Value.string _ = Value.string (P 1); rw [HP1.out]; rfl)⟩
    refine ⟨fun a W hk hbW hd => ?_, ?_⟩
    · show Oper.wp _ _ a W _ _
      have e1 : a.eval (.tmp 12) = .string (P 4) := (show txF n w.heap.size P 5 (Act.slot a 12) W from hd 5 (by kernel_rfl))
      have e2 : a.eval (.tmp 16) = .string (P 1) := (show txF n w.heap.size P 9 (Act.slot a 16) W from hd 9 (by kernel_rfl))
      refine wpM_run (.string (P 5)) W ?_ ⟨_, rfl, Below.refl _ _, rfl⟩
      simp only [execOp, e1, e2]
      simp [go_sem, HE5.out, HM5.out]
    refine ⟨fun a W hk hbW hd => ?_, ?_⟩
    · show Oper.wp _ _ a W _ _
      have e1 : a.eval (.tmp 17) = .string (P 5) := (show txF n w.heap.size P 10 (Act.slot a 17) W from hd 10 (by kernel_rfl))
      refine wpM_run (.string (P 6)) W ?_ ⟨_, rfl, Below.refl _ _, rfl⟩
      simp only [execOp, e1]
      simp [go_sem, HE6.out, HM6.out]
    refine ⟨fun a W hk hbW hd => ?_, ?_⟩
    · show Oper.wp _ _ a W _ _
      have k1 : a.eval (.tmp 1) = .pointer (some ⟨w.heap.size, 0, none⟩) := hk.same (s := 1) (by kernel_rfl)
      exact wpM_field _ _ _ _ _ rfl k1 (by first | (simp [go_sem]; done) | (simp [go_sem]; rfl)) ⟨_, rfl, Below.refl _ _, rfl⟩
    refine ⟨fun a W hk hbW hd => ?_, ?_⟩
    · show Oper.wp _ _ a W _ _
      have e0 : a.eval (.tmp 19) = .pointer (some ⟨w.heap.size, 3, none⟩) := (show txF n w.heap.size P 12 (Act.slot a 19) W from hd 12 (by kernel_rfl))
      obtain ⟨q0, q1, q2, q3⟩ := (hB.now (show Below w1.heap.size w1 W from (Below.refl _ _).drew.trans hbW)).c4
      exact wpM_load _ _ _ (.int .i64 n.sink) rfl e0 (by simp [go_sem, q0, q1, q2, q3]) ⟨_, rfl, Below.refl _ _, rfl⟩
    refine ⟨fun a W hk hbW hd => ?_, ?_⟩
    · show Oper.wp _ _ a W _ _
      have e0 : a.eval (.tmp 20) = .int .i64 n.sink := (show txF n w.heap.size P 13 (Act.slot a 20) W from hd 13 (by kernel_rfl))
      refine wpM_slice _ _ _ _ _ #[(0, .int .i64 n.sink)] rfl (by simp [e0]) (bs1 n.sink W) ⟨_, rfl, bone _ _, ?_⟩
      exact ⟨_, rfl, Blk.new W _ _⟩
    refine ⟨fun a W hk hbW hd => ?_, ?_⟩
    · show Oper.wp _ _ a W _ _
      obtain ⟨g, e0, hg⟩ := (show txF n w.heap.size P 14 (Act.slot a 21) W from hd 14 (by kernel_rfl))
      have e0 : a.eval (.tmp 21) = .slice (some ⟨g, 0, none⟩) 1 1 := e0
      refine wpM_num _ _ #[.slice (some ⟨g, 0, none⟩) 1 1] _ rfl rfl (by simp [e0]) ?_
      refine (numbers_one _ g W hg (by omega)).mono ?_
      rintro e w' ⟨rfl, rfl⟩
      exact ⟨_, rfl, _, rfl, Below.refl _ _, (by show Value.string _ = Value.string (P 2); rw [HP2.out]; rfl)⟩
    refine ⟨fun a W hk hbW hd => ?_, ?_⟩
    · show Oper.wp _ _ a W _ _
      have e1 : a.eval (.tmp 18) = .string (P 6) := (show txF n w.heap.size P 11 (Act.slot a 18) W from hd 11 (by kernel_rfl))
      have e2 : a.eval (.tmp 22) = .string (P 2) := (show txF n w.heap.size P 15 (Act.slot a 22) W from hd 15 (by kernel_rfl))
      refine wpM_run (.string (P 7)) W ?_ ⟨_, rfl, Below.refl _ _, rfl⟩
      simp only [execOp, e1, e2]
      simp [go_sem, HE7.out, HM7.out]
    refine ⟨fun a W hk hbW hd => ?_, ?_⟩
    · show Oper.wp _ _ a W _ _
      have e1 : a.eval (.tmp 23) = .string (P 7) := (show txF n w.heap.size P 16 (Act.slot a 23) W from hd 16 (by kernel_rfl))
      refine wpM_run (.string (P 8)) W ?_ ⟨_, rfl, Below.refl _ _, rfl⟩
      simp only [execOp, e1]
      simp [go_sem, HE8.out, HM8.out]
    exact trivial
  case rest =>
    obtain ⟨rfl, hbc⟩ := hcut
    clear HP0 HP1 HP2 HE3 HE4 HE5 HE6 HE7 HE8 HM3 HM4 HM5 HM6 HM7 HM8 z0 z1 z2 z3 z4 z5 z6 z7 z8 HP8
    have hB1 := hB.now hbc
    have hbw := bthen hb hbc
    have ht2 := ht1.now hbc
    clear hB hb ht1 hbc
    have HLS : Hid (∀ (k : Nat) t, n.trans[k]? = some t → bsOf (headB n ++ (n.trans.take k).flatMap lineB) ++ bsOf (labelB t.label) ++ ⟨#[58]⟩ ++ bsOf (numsB t.ins) ++ ⟨#[32, 45, 62]⟩ ++ bsOf (numsB t.outs) ++ ⟨#[10]⟩ = bsOf (headB n ++ (n.trans.take (k + 1)).flatMap lineB)) := fun k t ht => by
      rw [lines_snoc n.trans k t ht]
      generalize (n.trans.take k).flatMap lineB = pre
      unfold bsOf lineB
      show (⟨(headB n ++ pre).toArray⟩ : ByteArray) ++ ⟨(labelB t.label).toArray⟩ ++ ⟨[58].toArray⟩ ++ ⟨(numsB t.ins).toArray⟩ ++ ⟨[32, 45, 62].toArray⟩ ++ ⟨(numsB t.outs).toArray⟩ ++ ⟨[10].toArray⟩ = _
      rw [app_bytes, app_bytes, app_bytes, app_bytes, app_bytes, app_bytes]
      simp only [List.append_assoc]
    have hhl : (headB n).length ≤ 40 := by
      unfold headB
      have a1 := num_len n.places (by omega)
      have a2 := num_len n.source (by omega)
      have a3 := num_len n.sink (by omega)
      simp only [List.length_append, List.length_cons, List.length_nil]
      omega
    have HSZ : Hid (∀ k, (bsOf (headB n ++ (n.trans.take k).flatMap lineB)).size ≤ 100000) := fun k => by
      have := lines_len n.places v2 (n.trans.take k) (fun t ht => HV4.out t (List.mem_of_mem_take ht))
      rw [List.length_take] at this
      rw [bs_size, List.length_append]; omega
    have HS0 : Hid (headS n = bsOf (headB n ++ (n.trans.take 0).flatMap lineB)) := by show _ = _; unfold headS bsOf; simp
    obtain ⟨q0, q1, q2, q3⟩ := hB1.c4
    go_wp2_with fail
    go_loopw [3, 4] (fun sv iv wr => ∃ k : Nat, k ≤ n.trans.length ∧ iv = .int .i64 k ∧ sv = .string (bsOf (headB n ++ (n.trans.take k).flatMap lineB)) ∧ Blk wr w.heap.size 24 #[.int .i64 n.places, .slice A n.trans.length c, .int .i64 n.source, .int .i64 n.sink] ∧ Below wc.heap.size wc wr) (fun _ iv _ => n.trans.length - (intOf iv).toNat)
    case atStart => exact ⟨0, Nat.zero_le _, rfl, by rw [HS0.out], hB1, Below.refl _ _⟩
    case round =>
      obtain ⟨k, hk, rfl, rfl, hBr, hbr⟩ := hrel
      clear q0 q1 q2 q3
      obtain ⟨q0, q1, q2, q3⟩ := hBr.c4
      by_cases hlt : k < n.trans.length
      · obtain ⟨b, o, t, iv, ov, rfl, hD, hx, hl, hi, ho, d0, d1, d2⟩ := (ht2.now hbr).at_ hlt
        have HX := Lib.hid (HLS.out k t hx)
        have htr := HV4.out t (List.mem_of_getElem? hx)
        obtain ⟨pi, po⟩ := trPlaces htr
        have li := places_len pi
        have lo := places_len po
        have hsi : ∀ z ∈ t.ins, 0 ≤ z ∧ z ≤ 9223372036854775807 := fun z hz => by have := places_mem pi z hz; omega
        have hso : ∀ z ∈ t.outs, 0 ≤ z ∧ z ≤ 9223372036854775807 := fun z hz => by have := places_mem po z hz; omega
        have ni : (bsOf (numsB t.ins)).size ≤ 21 * t.ins.length := by rw [bs_size]; exact nums_size hsi
        have no : (bsOf (numsB t.outs)).size ≤ 21 * t.outs.length := by rw [bs_size]; exact nums_size hso
        have nl : (bsOf (labelB t.label)).size ≤ 40 := by rw [bs_size]; exact labelB_len htr
        have ns := HSZ.out k
        have HSI := Lib.hid hsi
        have HSO := Lib.hid hso
        clear hx htr pi po hsi hso
        obtain ⟨Ai, ci, rfl, i1, i2, hi⟩ := hi.open_
        obtain ⟨Ao, co, rfl, o1, o2, ho⟩ := ho.open_
        have hTd := Blk.new wr 52 #[.string t.label, .slice Ai t.ins.length ci, .slice Ao t.outs.length co]
        have hbo := bone wr (.cells #[.string t.label, .slice Ai t.ins.length ci, .slice Ao t.outs.length co] 52)
        have hid := hi.now hbo
        have hod := ho.now hbo
        have hBd := hBr.now hbo
        have hbd := bthen hbr hbo
        have a3 : (0 : Int) ≤ (k : Int) := by omega
        have a4 : (k : Int) < (n.trans.length : Int) := by omega
        go_upto_region 6 with fail
        generalize hwd : wr.alloc (.cells #[.string t.label, .slice Ai t.ins.length ci, .slice Ao t.outs.length co] 52) = wd at *
        clear hwd hi ho hbo d0 d1 d2 q0 q1 q2 q3 hBr hbr
        obtain ⟨e0, e1, e2⟩ := hTd.c3
        obtain ⟨le, hle⟩ : ∃ le, t.label.toList.isEmpty = le := ⟨_, rfl⟩
        have HLE := Lib.hid hle
        go_upto_if 40 with fail
        go_cut [6] from 39 to 40 (fun lv wc => lv = .string (bsOf (labelB t.label)) ∧ wd = wc)
        case first =>
          cases le
          · have HLB : Hid (bsOf (labelB t.label) = t.label) := by
              show _ = _
              unfold labelB
              rw [if_neg (fun h0 => by have h3 := (size_toList _).2 h0; have h4 := HLE.out; rw [h3] at h4; cases h4)]
              exact (list_eq rfl).symm
            go_wp2_with fail
            go_meet
            exact ⟨by rw [HLB.out], rfl⟩
          · have HLB : Hid (bsOf (labelB t.label) = ⟨#[95]⟩) := by
              show _ = _
              unfold labelB
              rw [if_pos ((size_toList _).1 (by simpa using HLE.out))]; rfl
            go_wp2_with fail
            go_meet
            exact ⟨by rw [HLB.out], rfl⟩
        case rest =>
          obtain ⟨rfl, rfl⟩ := hcut
          clear hle
          have HC1 : Hid (∀ m : Nat, Calls Tryz.prog 34 #[.slice Ai t.ins.length ci] (wd.drewN m) fun e w' => e = .returned (.string (bsOf (numsB t.ins))) ∧ ∃ q, w' = (wd.drewN m).drewN q) := fun m =>
            (numbers_ref _ t.ins _ (SlI.below hid (bdrawn (Below.refl _ _) m) (Nat.le_refl _)) HSI.out (by omega)).mono fun e w' ⟨he, hw⟩ => ⟨he, 0, by rw [← hw]; rfl⟩
          have HC2 : Hid (∀ m : Nat, Calls Tryz.prog 34 #[.slice Ao t.outs.length co] (wd.drewN m) fun e w' => e = .returned (.string (bsOf (numsB t.outs))) ∧ ∃ q, w' = (wd.drewN m).drewN q) := fun m =>
            (numbers_ref _ t.outs _ (SlI.below hod (bdrawn (Below.refl _ _) m) (Nat.le_refl _)) HSO.out (by omega)).mono fun e w' ⟨he, hw⟩ => ⟨he, 0, by rw [← hw]; rfl⟩
          generalize bsOf (labelB t.label) = L at *
          generalize bsOf (numsB t.ins) = N1 at *
          generalize bsOf (numsB t.outs) = N2 at *
          generalize hSk : bsOf (headB n ++ (n.trans.take k).flatMap lineB) = Sk at *
          have m1 : ¬ 9223372036854775807 < Sk.size + L.size := by omega
          have m2 : ¬ 9223372036854775807 < Sk.size + L.size + 1 := by omega
          have m3 : ¬ 9223372036854775807 < Sk.size + L.size + 1 + N1.size := by omega
          have m4 : ¬ 9223372036854775807 < Sk.size + L.size + 1 + N1.size + 3 := by omega
          have m5 : ¬ 9223372036854775807 < Sk.size + L.size + 1 + N1.size + 3 + N2.size := by omega
          have m6 : ¬ 9223372036854775807 < Sk.size + L.size + 1 + N1.size + 3 + N2.size + 1 := by omega
          go_wp2_with fail
          go_quiet ((go_at_call 34; first | (with_reducible exact Calls.quiet_of (HC1.out _)) | (with_reducible exact Calls.quiet_of (HC2.out _))))
          go_wp2_with fail
          go_roundw
          case rel =>
            refine ⟨k + 1, by omega, by go_num, ?_, hBd.drewN _, bdrawn hbd _⟩
            exact congrArg Value.string HX.out
          case measure => simp [intOf]; omega
      · obtain rfl : k = n.trans.length := by omega
        go_wp2_with fail
        rw [List.take_of_length_le (Nat.le_refl _)]
        go_ret
        exact ⟨rfl, hbw.trans (hbr.mono (by have := hbw.size; omega))⟩
end Go.Proofs.YtlkkfkkhllijbaaGreatDoor
