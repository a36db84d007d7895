/- awake: the example of the chapter. -/
import Derived.Test.YtchfmjociflgfaaGreatDoorValLong
import Derived.Lib.AtoiErrMem
namespace Go.Proofs.YtchfmjociflgfaaGreatDoor
open Go.RowKit

def exVars : List Var := [⟨⟨#[111, 107]⟩, 1, 0, 0, []⟩, ⟨⟨#[110]⟩, 2, 2, 3, []⟩]
def RetX (l : List Var) (w : World) (e : Ending) (w' : World) : Prop := ∃ v, e = .returned v ∧ SlX (Lt w'.heap.size) w' v l ∧ Below w.heap.size w w'
set_option maxHeartbeats 1000000 in
theorem example_any (w : World) : Calls Tryz.prog 38 #[] w (RetX exVars w) := by
  go_enter Tryz.func38, Tryz.ntmps38
  go_wp2
  go_ret
  refine ⟨_, rfl, ?_, bone w _⟩
  refine Sl.ofBlk (xs := exVars) (size := 5) (cs := [.string ⟨#[111, 107]⟩, .int .i64 1, .int .i64 0, .int .i64 0, .slice none 0 0, .string ⟨#[110]⟩, .int .i64 2, .int .i64 2, .int .i64 3, .slice none 0 0]) (Blk.new w 29 _) (by unfold maxLen; simp [exVars]) ?_
  intro i x hx
  match i, hx with
  | 0, hx =>
    injection hx with hx; subst hx
    refine ⟨[.string ⟨#[111, 107]⟩, .int .i64 1, .int .i64 0, .int .i64 0, .slice none 0 0], rfl, fun j u hu => ?_, _, rfl, by unfold maxLen; decide, by simp [Fit], by simp [Fit], by simp [Fit], Sl.none_⟩
    match j, hu with
    | 0, hu => exact hu
    | 1, hu => exact hu
    | 2, hu => exact hu
    | 3, hu => exact hu
    | 4, hu => exact hu
    | j + 5, hu => simp at hu
  | 1, hx =>
    injection hx with hx; subst hx
    refine ⟨[.string ⟨#[110]⟩, .int .i64 2, .int .i64 2, .int .i64 3, .slice none 0 0], rfl, fun j u hu => ?_, _, rfl, by unfold maxLen; decide, by simp [Fit], by simp [Fit], by simp [Fit], Sl.none_⟩
    match j, hu with
    | 0, hu => exact hu
    | 1, hu => exact hu
    | 2, hu => exact hu
    | 3, hu => exact hu
    | 4, hu => exact hu
    | j + 5, hu => simp at hu
  | i + 2, hx => simp [exVars] at hx

def val7 : Val := ⟨2, -7, ⟨#[]⟩⟩
def str7 : ByteArray := ⟨#[45, 55]⟩
theorem dec7 : Lib.decDigits 7 = [55] := by rw [Lib.decDigits, dif_pos (by omega)]; rfl
theorem itoa7 : itoaS (-7) = str7 := by
  unfold itoaS Lib.itoa
  rw [if_pos (by decide), show Int.natAbs (-7) = 7 from rfl, dec7]
  rfl
theorem text7 : textE val7 = (str7, 0) := by
  unfold textE
  rw [show validV val7 = true by decide +kernel, if_pos rfl]
  show (itoaS (-7), (0 : Int)) = _
  rw [itoa7]
theorem atoi7 : Lib.atoi str7.data.toList = some (-7) := by decide +kernel
theorem below_of_bytes {w w2 : World} {e : TypeId} {t : ByteArray} (h : w2 = Lib.bytesWorld w e t) : Below w.heap.size w w2 := by rw [h]; exact Lib.bytesWorld_below _ _ _
theorem size7 : 0 < str7.size := by decide +kernel
theorem byte7 : (((str7[0]'size7).toNat : Int) == 34) = false := by decide +kernel
theorem fit7 : FitV val7 := ⟨by simp [val7, Fit], by simp [val7, Fit], by simp [val7, ByteArray.size]⟩

set_option maxHeartbeats 2000000 in
theorem parse7 (w : World) (ha : Amb w) : Calls Tryz.prog 17 #[.string str7] w fun e w' => e = .returned (.tuple #[valV val7, .int .i64 0]) ∧ Below w.heap.size w w' := by
  have hb0 := bone w (.cells #[.int .i64 0, .int .i64 0, .string ⟨#[]⟩] 23)
  have hb := bbox hb0 (.cells #[.int .i64 0, .int .i64 0, .string ⟨#[]⟩] 23)
  have hB := (Blk.new w 23 #[.int .i64 0, .int .i64 0, .string ⟨#[]⟩]).alloc (.cells #[.int .i64 0, .int .i64 0, .string ⟨#[]⟩] 23)
  have hC := Blk.new_at (t := 23) (cs := #[.int .i64 0, .int .i64 0, .string ⟨#[]⟩]) (w := w.alloc (.cells #[.int .i64 0, .int .i64 0, .string ⟨#[]⟩] 23)) (s := w.heap.size + 1) (by simp)
  have s1 : (str7.toList == [116, 114, 117, 101]) = false := by decide +kernel
  have s2 : (str7.toList == [102, 97, 108, 115, 101]) = false := by decide +kernel
  have s3 : str7.toList.isEmpty = false := by decide +kernel
  have s4 : (0 : Int) < (str7.size : Int) := by decide +kernel
  have s5 : ((str7[0].toNat : Int) == 34) = false := byte7
  have hC0 := hC
  go_enter Tryz.func17, Tryz.ntmps17
  go_wp2_with fail
  refine (Tryz.strconv_Atoi str7 (-7) (by decide +kernel) atoi7 _).mono ?_
  rintro e w2 ⟨rfl, t, hw2⟩
  have hb2 := below_of_bytes hw2
  clear hw2
  have hB2 := hB.now hb2
  have hC2 := hC.now hb2
  have hbw2 := bthen hb hb2
  have ha2 := ha.now hbw2
  obtain ⟨x0, x1, x2⟩ := hB2.c3
  obtain ⟨y0, y1, y2⟩ := hC2.c3
  have z0 := hC2.frozen 0
  have z1 := hC2.frozen 1
  have z2 := hC2.frozen 2
  have hC3 := hC2.set3 (.int .i64 2) (.int .i64 (-7)) (.string ⟨#[]⟩)
  have hB3 := ((hB2.far (p := ⟨w.heap.size + 1, 0, none⟩) (by simp) (.int .i64 2)).far (p := ⟨w.heap.size + 1, 1, none⟩) (by simp) (.int .i64 (-7))).far (p := ⟨w.heap.size + 1, 2, none⟩) (by simp) (.string ⟨#[]⟩)
  have hb3 : Below w.heap.size w _ := bset3 hbw2 (g := w.heap.size + 1) (by omega) (.int .i64 2) (.int .i64 (-7)) (.string ⟨#[]⟩)
  have ha3 := ha.now hb3
  go_upto_region 15 with fail
  generalize ((w2.setCell ⟨w.heap.size + 1, 0, none⟩ (.int .i64 2)).setCell ⟨w.heap.size + 1, 1, none⟩ (.int .i64 (-7))).setCell ⟨w.heap.size + 1, 2, none⟩ (.string ⟨#[]⟩) = w3 at *
  clear x0 x1 x2 y0 y1 y2 z0 z1 z2
  obtain ⟨y0, y1, y2⟩ := hC3.c3
  go_wp2_with fail
  refine (textE_any val7 _ fit7 ha3).mono ?_
  rintro e w4 ⟨rfl, hb4⟩
  rw [text7]
  have hB4 := hB3.now hb4
  have hC4 := hC3.now hb4
  have hbw4 := bthen hb3 hb4
  clear y0 y1 y2
  obtain ⟨x0, x1, x2⟩ := hB4.c3
  obtain ⟨y0, y1, y2⟩ := hC4.c3
  have z0 := hB4.frozen 0
  have z1 := hB4.frozen 1
  have z2 := hB4.frozen 2
  go_wp2_with fail
  obtain ⟨t0, t1, t2⟩ := (hB4.set3 (.int .i64 2) (.int .i64 (-7)) (.string ⟨#[]⟩)).c3
  refine bodyPost_ret (v := .tuple #[.agg #[.int .i64 2, .int .i64 (-7), .string ⟨#[]⟩], .int .i64 0]) (by simp [results, Tryz.results17, go_sem, t0, t1, t2]) rfl ?_
  exact ⟨rfl, bset3 hbw4 (Nat.le_refl _) _ _ _⟩
end Go.Proofs.YtchfmjociflgfaaGreatDoor
