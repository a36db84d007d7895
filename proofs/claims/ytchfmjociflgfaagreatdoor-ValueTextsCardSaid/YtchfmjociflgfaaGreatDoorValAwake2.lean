/- awake. -/
import Derived.Test.YtchfmjociflgfaaGreatDoorValAwake
namespace Go.Proofs.YtchfmjociflgfaaGreatDoor
open Go.RowKit

def exOne : List Val := [⟨1, 0, ⟨#[]⟩⟩, ⟨2, 2, ⟨#[]⟩⟩]
def exTwo : List Val := [⟨1, 0, ⟨#[]⟩⟩, ⟨2, 3, ⟨#[]⟩⟩]
def exText : Val := ⟨3, 0, ⟨#[97, 34, 98]⟩⟩
theorem ex_vars : varsB exVars = true := by decide +kernel
theorem ex_first : firstE exVars = (exOne, 0) := by
  unfold firstE
  rw [ex_vars]
  rfl
theorem ex_next : nextE exVars exOne = (exTwo, true, 0) := by decide +kernel
theorem ex_text : textE exText = (⟨#[34, 97, 92, 34, 98, 34]⟩, 0) := by decide +kernel
theorem ex_fit : FitV exText := ⟨by simp [exText, Fit], by simp [exText, Fit], by simp [exText, ByteArray.size]; unfold maxLen; omega⟩

set_option maxHeartbeats 2000000 in
theorem awake_any (w : World) (ha : Amb w) : Calls Tryz.prog 9 #[] w fun e w' => e = .returned (.bool true) ∧ Below w.heap.size w w' := by
  go_enter Tryz.func9, Tryz.ntmps9
  go_wp2_with fail
  refine (example_any _).mono ?_
  rintro e w1 ⟨v1, rfl, hx1, hb1⟩
  go_wp2_with fail
  refine (firstE_any exVars _ _ hx1 (by decide)).mono ?_
  rintro e w2 ⟨v2, rfl, hs2, hb2⟩
  rw [ex_first] at *
  dsimp only at hs2 ⊢
  have hbw2 := bthen hb1 hb2
  go_wp2_with fail
  refine (example_any _).mono ?_
  rintro e w3 ⟨v3, rfl, hx3, hb3⟩
  have hbw3 := bthen hbw2 hb3
  go_wp2_with fail
  refine (nextE_any exVars exOne _ _ _ hx3 (hs2.now hb3) (by decide)).mono ?_
  rintro e w4 ⟨v4, rfl, hs4, hb4⟩
  rw [ex_next] at *
  dsimp only at hs4 ⊢
  have hbw4 := bthen hbw3 hb4
  go_wp2_with fail
  refine (textE_any exText _ ex_fit (ha.now hbw4)).mono ?_
  rintro e w5 ⟨rfl, hb5⟩
  rw [ex_text]
  have hbw5 := bthen hbw4 hb5
  go_wp2_with fail
  refine (parse7 _ (ha.now hbw5)).mono ?_
  rintro e w6 ⟨rfl, hb6⟩
  have hbw6 := bthen hbw5 hb6
  have hs6 := (hs4.now hb5).now hb6
  have e7 : valV val7 = .agg #[.int .i64 2, .int .i64 (-7), .string ⟨#[]⟩] := rfl
  rw [e7]
  have hb7 := bone w6 (.cells #[.int .i64 2, .int .i64 (-7), .string ⟨#[]⟩] 23)
  have hB7 := Blk.new w6 23 #[.int .i64 2, .int .i64 (-7), .string ⟨#[]⟩]
  go_upto_region 5 with fail
  have hs7 := hs6.now hb7
  have hbw7 := bthen hbw6 hb7
  generalize w6.alloc (.cells #[.int .i64 2, .int .i64 (-7), .string ⟨#[]⟩] 23) = w7 at *
  have hb8 := bone w7 (.cells #[.int .i64 1, .int .i64 0, .string ⟨#[]⟩, .int .i64 2, .int .i64 3, .string ⟨#[]⟩] 23)
  have hs8 : SlV (Lt (w7.alloc (.cells #[.int .i64 1, .int .i64 0, .string ⟨#[]⟩, .int .i64 2, .int .i64 3, .string ⟨#[]⟩] 23)).heap.size) (w7.alloc (.cells #[.int .i64 1, .int .i64 0, .string ⟨#[]⟩, .int .i64 2, .int .i64 3, .string ⟨#[]⟩] 23)) (.slice (some ⟨w7.heap.size, 0, none⟩) 2 2) exTwo := by
    refine Sl.ofBlk (xs := exTwo) (size := 3) (cs := [.int .i64 1, .int .i64 0, .string ⟨#[]⟩, .int .i64 2, .int .i64 3, .string ⟨#[]⟩]) (Blk.new w7 23 _) (by unfold maxLen; simp [exTwo]) ?_
    intro i x hx
    match i, hx with
    | 0, hx =>
      injection hx with hx; subst hx
      refine ⟨_, rfl, fun j u hu => ?_, rfl, by simp [Fit], by simp [Fit], by simp [ByteArray.size]⟩
      match j, hu with
      | 0, hu => exact hu
      | 1, hu => exact hu
      | 2, hu => exact hu
      | j + 3, hu => simp at hu
    | 1, hx =>
      injection hx with hx; subst hx
      refine ⟨_, rfl, fun j u hu => ?_, rfl, by simp [Fit], by simp [Fit], by simp [ByteArray.size]⟩
      match j, hu with
      | 0, hu => exact hu
      | 1, hu => exact hu
      | 2, hu => exact hu
      | j + 3, hu => simp at hu
    | i + 2, hx => simp [exTwo] at hx
  go_wp2_with fail
  refine (same_ref _ _ exTwo exTwo _ (hs7.now hb8) hs8).mono ?_
  rintro e w9 ⟨rfl, hb9⟩
  rw [decide_eq_true rfl]
  have hb79 := bthen hb8 hb9
  have hB9 := hB7.now hb79
  obtain ⟨y0, y1, y2⟩ := hB9.c3
  go_wp2_with fail
  go_ret
  exact ⟨rfl, bthen hbw7 hb79⟩
end Go.Proofs.YtchfmjociflgfaaGreatDoor
