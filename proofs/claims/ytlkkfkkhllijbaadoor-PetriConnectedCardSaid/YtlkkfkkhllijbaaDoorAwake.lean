/- awake: the example of the chapter. -/
import Derived.Test.YtlkkfkkhllijbaaDoorWorkflow
import Derived.Test.YtlkkfkkhllijbaaDoorRun
import Derived.Test.YtlkkfkkhllijbaaDoorText
namespace Go.Proofs.YtlkkfkkhllijbaaDoor
open Go.RowKit

def exNet : Net := ⟨3, [⟨⟨#[97]⟩, [0], [1]⟩, ⟨⟨#[]⟩, [1], [2]⟩], 0, 2⟩
def RetNet (n : Net) (w : World) (e : Ending) (w' : World) : Prop := ∃ v, e = .returned v ∧ IsNet (Lt w'.heap.size) w' v n ∧ Below w.heap.size w w'

set_option maxHeartbeats 1000000 in
theorem example_any (w : World) : Calls Tryd.prog 12 #[] w (RetNet exNet w) := by
  go_enter Tryd.func12, Tryd.ntmps12
  go_wp2
  generalize hw5 : (((((w.alloc _).alloc _).alloc _).alloc _).alloc _).alloc _ = W
  have b1 : Blk W (w.heap.size + 1) 3 #[.int .i64 0] := by
    rw [← hw5]; exact (((((Blk.new_at (by simp)).alloc _).alloc _).alloc _).alloc _)
  have b2 : Blk W (w.heap.size + 1 + 1) 3 #[.int .i64 1] := by
    rw [← hw5]; exact ((((Blk.new_at (by simp)).alloc _).alloc _).alloc _)
  have b3 : Blk W (w.heap.size + 1 + 1 + 1) 3 #[.int .i64 1] := by
    rw [← hw5]; exact (((Blk.new_at (by simp)).alloc _).alloc _)
  have b4 : Blk W (w.heap.size + 1 + 1 + 1 + 1) 3 #[.int .i64 2] := by
    rw [← hw5]; exact ((Blk.new_at (by simp)).alloc _)
  have b5 : Blk W (w.heap.size + 1 + 1 + 1 + 1 + 1) 30 #[.string ⟨#[97]⟩, .slice (some ⟨w.heap.size + 1, 0, none⟩) 1 1, .slice (some ⟨w.heap.size + 1 + 1, 0, none⟩) 1 1, .string ⟨#[]⟩, .slice (some ⟨w.heap.size + 1 + 1 + 1, 0, none⟩) 1 1, .slice (some ⟨w.heap.size + 1 + 1 + 1 + 1, 0, none⟩) 1 1] := by
    rw [← hw5]; exact (Blk.new_at (by simp))
  have b0 : Blk W w.heap.size 24 #[.int .i64 3, .slice (some ⟨w.heap.size + 1 + 1 + 1 + 1 + 1, 0, none⟩) 2 2, .int .i64 0, .int .i64 2] := by
    rw [← hw5]; exact ((((((Blk.new w 24 _).alloc _).alloc _).alloc _).alloc _).alloc _)
  have hbw : Below w.heap.size w W := by rw [← hw5]; exact bbox (bbox (bbox (bbox (bbox (bone _ _) _) _) _) _) _
  have hf : ∀ z : Int, -10 ≤ z → z ≤ 10 → Fit z := fun z h1 h2 => by unfold Fit; omega
  have s1 := SlI.ofBlk (zs := [0]) b1 (by unfold maxLen; simp) (by simp [Fit])
  have s2 := SlI.ofBlk (zs := [1]) b2 (by unfold maxLen; simp) (by simp [Fit])
  have s3 := SlI.ofBlk (zs := [1]) b3 (by unfold maxLen; simp) (by simp [Fit])
  have s4 := SlI.ofBlk (zs := [2]) b4 (by unfold maxLen; simp) (by simp [Fit])
  have ht : SlT (Lt W.heap.size) W (.slice (some ⟨w.heap.size + 1 + 1 + 1 + 1 + 1, 0, none⟩) 2 2) exNet.trans := by
    refine Sl.ofBlk (xs := exNet.trans) (cs := [.string ⟨#[97]⟩, .slice (some ⟨w.heap.size + 1, 0, none⟩) 1 1, .slice (some ⟨w.heap.size + 1 + 1, 0, none⟩) 1 1, .string ⟨#[]⟩, .slice (some ⟨w.heap.size + 1 + 1 + 1, 0, none⟩) 1 1, .slice (some ⟨w.heap.size + 1 + 1 + 1 + 1, 0, none⟩) 1 1]) b5 (by unfold maxLen; simp [exNet]) ?_
    intro i x hx
    match i, hx with
    | 0, hx =>
      injection hx with hx; subst hx
      refine ⟨[.string ⟨#[97]⟩, .slice (some ⟨w.heap.size + 1, 0, none⟩) 1 1, .slice (some ⟨w.heap.size + 1 + 1, 0, none⟩) 1 1], rfl, fun j u hu => ?_, _, _, rfl, by unfold maxLen; decide, s1, s2⟩
      match j, hu with
      | 0, hu => exact hu
      | 1, hu => exact hu
      | 2, hu => exact hu
      | j + 3, hu => simp at hu
    | 1, hx =>
      injection hx with hx; subst hx
      refine ⟨[.string ⟨#[]⟩, .slice (some ⟨w.heap.size + 1 + 1 + 1, 0, none⟩) 1 1, .slice (some ⟨w.heap.size + 1 + 1 + 1 + 1, 0, none⟩) 1 1], rfl, fun j u hu => ?_, _, _, rfl, by unfold maxLen; decide, s3, s4⟩
      match j, hu with
      | 0, hu => exact hu
      | 1, hu => exact hu
      | 2, hu => exact hu
      | j + 3, hu => simp at hu
    | i + 2, hx => simp [exNet] at hx
  obtain ⟨r0, r1, r2, r3⟩ := b0.c4
  refine bodyPost_ret (v := .agg #[.int .i64 3, .slice (some ⟨w.heap.size + 1 + 1 + 1 + 1 + 1, 0, none⟩) 2 2, .int .i64 0, .int .i64 2]) (by simp [results, Tryd.results12, go_sem, r0, r1, r2, r3]) rfl ?_
  exact ⟨_, rfl, ⟨_, rfl, hf _ (by decide) (by decide), hf _ (by decide) (by decide), hf _ (by decide) (by decide), ht⟩, hbw⟩

theorem ex_valid : validB exNet = true := by decide +kernel
theorem ex_one : oneE exNet exNet.source = ([1, 0, 0], 0) := by decide +kernel
theorem ex_run : runB exNet [1, 0, 0] [0, 1] = ([0, 0, 1], 2, 0) := by decide +kernel
theorem ex_word : wordB exNet [0, 1] = ([⟨#[97]⟩], 0) := by
  unfold wordB; rw [ex_valid]; rfl
theorem dec1 (u : Nat) (h : u < 10) : Lib.decDigits u = [UInt8.ofNat (48 + u)] := by rw [Lib.decDigits, dif_pos h]
theorem ex_text : textE exNet = (⟨#[110, 101, 116, 32, 51, 32, 115, 111, 117, 114, 99, 101, 32, 48, 32, 115, 105, 110, 107, 32, 50, 10, 97, 58, 32, 48, 32, 45, 62, 32, 49, 10, 95, 58, 32, 49, 32, 45, 62, 32, 50, 10]⟩, 0) := by
  unfold textE
  rw [ex_valid]
  have h : textB exNet = [110, 101, 116, 32, 51, 32, 115, 111, 117, 114, 99, 101, 32, 48, 32, 115, 105, 110, 107, 32, 50, 10, 97, 58, 32, 48, 32, 45, 62, 32, 49, 10, 95, 58, 32, 49, 32, 45, 62, 32, 50, 10] := by
    unfold textB headB lineB numsB numB labelB
    simp only [exNet, List.flatMap_cons, List.flatMap_nil]
    rw [show Lib.decDigits (Int.toNat 3) = [51] from dec1 3 (by omega), show Lib.decDigits (Int.toNat 0) = [48] from dec1 0 (by omega), show Lib.decDigits (Int.toNat 1) = [49] from dec1 1 (by omega), show Lib.decDigits (Int.toNat 2) = [50] from dec1 2 (by omega)]
    rfl
  rw [h]
  rfl
theorem ex_workflow : WorkflowP exNet := by
  have f0 : Reach (arcs false exNet) 0 0 := Reach.start _ _
  have f1 : Reach (arcs false exNet) 0 1 := Reach.step (t := ([0], [1])) (by simp [arcs, exNet, arcOf]) (by simp) f0 (by simp)
  have f2 : Reach (arcs false exNet) 0 2 := Reach.step (t := ([1], [2])) (by simp [arcs, exNet, arcOf]) (by simp) f1 (by simp)
  have b2 : Reach (arcs true exNet) 2 2 := Reach.start _ _
  have b1 : Reach (arcs true exNet) 2 1 := Reach.step (t := ([2], [1])) (by simp [arcs, exNet, arcOf]) (by simp) b2 (by simp)
  have b0 : Reach (arcs true exNet) 2 0 := Reach.step (t := ([1], [0])) (by simp [arcs, exNet, arcOf]) (by simp) b1 (by simp)
  refine ⟨ex_valid, by decide, ?_, ⟨?_, ?_⟩, ⟨?_, ?_⟩⟩
  · intro t ht
    simp only [exNet, List.mem_cons, List.not_mem_nil, or_false] at ht
    rcases ht with rfl | rfl <;> simp [Bare, exNet]
  · intro k hk
    have hk' : k < 3 := hk
    rcases (show k = 0 ∨ k = 1 ∨ k = 2 by omega) with rfl | rfl | rfl
    · exact f0
    · exact f1
    · exact f2
  · intro t ht
    simp only [exNet, List.mem_cons, List.not_mem_nil, or_false] at ht
    rcases ht with rfl | rfl
    · exact ⟨0, by simp [arcOf], f0⟩
    · exact ⟨1, by simp [arcOf], f1⟩
  · intro k hk
    have hk' : k < 3 := hk
    rcases (show k = 0 ∨ k = 1 ∨ k = 2 by omega) with rfl | rfl | rfl
    · exact b0
    · exact b1
    · exact b2
  · intro t ht
    simp only [exNet, List.mem_cons, List.not_mem_nil, or_false] at ht
    rcases ht with rfl | rfl
    · exact ⟨1, by simp [arcOf], b1⟩
    · exact ⟨2, by simp [arcOf], b2⟩

set_option maxHeartbeats 2000000 in
theorem awake_any (w : World) : Calls Tryd.prog 4 #[] w fun e w' => e = .returned (.bool true) ∧ Below w.heap.size w w' := by
  go_enter Tryd.func4, Tryd.ntmps4
  go_wp2_with fail
  refine (example_any _).mono ?_
  rintro e w1 ⟨v, rfl, hn, hb1⟩
  have hn0 := hn
  obtain ⟨tv, rfl, _, _, _, ht⟩ := hn
  obtain ⟨A, c, rfl, _, _, ht⟩ := ht.open_
  have hB2 := Blk.new w1 24 #[.int .i64 exNet.places, .slice A exNet.trans.length c, .int .i64 exNet.source, .int .i64 exNet.sink]
  have hn2 := hn0.now (bone w1 (.cells #[.int .i64 exNet.places, .slice A exNet.trans.length c, .int .i64 exNet.source, .int .i64 exNet.sink] 24))
  have hb2 := bbox hb1 (.cells #[.int .i64 exNet.places, .slice A exNet.trans.length c, .int .i64 exNet.source, .int .i64 exNet.sink] 24)
  go_wp2_with fail
  refine (text_any exNet _ _ hn2).mono ?_
  rintro e w3 ⟨rfl, hb3⟩
  rw [ex_text]
  have hB3 := hB2.now hb3
  have hn3 := hn2.now hb3
  have hbw3 := bthen hb2 hb3
  obtain ⟨q0, q1, q2, q3⟩ := hB3.c4
  go_wp2_with fail
  refine (initial_any exNet _ _ hn3).mono ?_
  rintro e w4 ⟨v4, rfl, hs4, hb4⟩
  rw [ex_one] at *
  have hB4 := hB3.now hb4
  have hn4 := hn3.now hb4
  have hbw4 := bthen hbw3 hb4
  clear q0 q1 q2 q3
  obtain ⟨q0, q1, q2, q3⟩ := hB4.c4
  have hlt4 := hB4.lt
  have hl5 := SlI.ofBlk (zs := [0, 1]) (Blk.new w4 3 #[.int .i64 0, .int .i64 1]) (by unfold maxLen; simp) (by simp [Fit])
  have hb5 := bone w4 (.cells #[.int .i64 0, .int .i64 1] 3)
  go_wp2_with fail
  refine (run_any exNet _ _ _ [1, 0, 0] [0, 1] _ (hn4.now hb5) (hs4.now hb5) hl5).mono ?_
  rintro e w6 ⟨v6, rfl, hs6, hb6⟩
  rw [ex_run] at *
  have hbw6 := bthen (bthen hbw4 hb5) hb6
  have hB6 := (hB4.now hb5).now hb6
  have hn6 := (hn4.now hb5).now hb6
  clear q0 q1 q2 q3
  obtain ⟨q0, q1, q2, q3⟩ := hB6.c4
  have hlt6 := hB6.lt
  have hl7 := SlI.ofBlk (zs := [0, 1]) (Blk.new w6 3 #[.int .i64 0, .int .i64 1]) (by unfold maxLen; simp) (by simp [Fit])
  have hb7 := bone w6 (.cells #[.int .i64 0, .int .i64 1] 3)
  go_wp2_with fail
  refine (word_any exNet _ _ [0, 1] _ (hn6.now hb7) hl7).mono ?_
  rintro e w8 ⟨v8, rfl, hs8, hb8⟩
  rw [ex_word] at *
  have hbw8 := bthen (bthen hbw6 hb7) hb8
  have hB8 := (hB6.now hb7).now hb8
  have hn8 := (hn6.now hb7).now hb8
  have hs68 := (hs6.now hb7).now hb8
  clear q0 q1 q2 q3
  obtain ⟨q0, q1, q2, q3⟩ := hB8.c4
  go_wp2_with fail
  refine (workflow_any exNet _ _ hn8).mono ?_
  rintro e w9 ⟨rfl, hb9⟩
  rw [workflow_yes ex_workflow]
  have hbw9 := bthen hbw8 hb9
  have hs69 := hs68.now hb9
  have hs89 := hs8.now hb9
  have hbA := bone w9 (.cells #[.int .i64 0, .int .i64 0, .int .i64 1] 3)
  have hlA := SlI.ofBlk (zs := [0, 0, 1]) (Blk.new w9 3 #[.int .i64 0, .int .i64 0, .int .i64 1]) (by unfold maxLen; simp) (by simp [Fit])
  go_wp2_with fail
  refine (equalI _ _ [0, 0, 1] [0, 0, 1] _ (hs69.now hbA) hlA).mono ?_
  rintro e w10 ⟨rfl, q, rfl⟩
  have hbwA := bdrawn (bthen hbw9 hbA) q
  have hsA : SlS (Lt ((w9.alloc (.cells #[.int .i64 0, .int .i64 0, .int .i64 1] 3)).drewN q).heap.size) ((w9.alloc (.cells #[.int .i64 0, .int .i64 0, .int .i64 1] 3)).drewN q) v8 [⟨#[97]⟩] := hs89.now (bdrawn hbA q)
  generalize (w9.alloc (.cells #[.int .i64 0, .int .i64 0, .int .i64 1] 3)).drewN q = wA at *
  have hbB := bone wA (.cells #[.string ⟨#[97]⟩] 9)
  have hlB := SlS.ofBlk (zs := [⟨#[97]⟩]) (Blk.new wA 9 #[.string ⟨#[97]⟩]) (by unfold maxLen; simp) (by unfold maxLen; simp; decide)
  rw [show (([0, 0, 1] : List Int) == [0, 0, 1]) = true from rfl]
  go_wp2_with fail
  refine (equalS _ _ [⟨#[97]⟩] [⟨#[97]⟩] _ (hsA.now hbB) hlB).mono ?_
  rintro e w11 ⟨rfl, q', rfl⟩
  rw [decide_eq_true rfl]
  go_wp2_with fail
  go_ret
  exact ⟨rfl, bdrawn (bthen hbwA hbB) q'⟩
end Go.Proofs.YtlkkfkkhllijbaaDoor
