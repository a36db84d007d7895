/- Texts of this seat, merged. -/
import Derived.Test.YtjglmjdfndcmmaaZb01
import Derived.Test.YtjglmjdfndcmmaaZb02
import Derived.Test.YtjglmjdfndcmmaaZb03
import Derived.Test.YtjglmjdfndcmmaaZb04
import Derived.Test.YtjglmjdfndcmmaaZb05
import Derived.Test.YtjglmjdfndcmmaaZb06
import Derived.Test.YtjglmjdfndcmmaaZb07
set_option linter.all false
set_option linter.all false
namespace Go.Proofs.Ytjglmjdfndcmmaa
open Go.RowKit
def exE : Ev := ⟨⟨#[99]⟩, ⟨#[97]⟩, ⟨#[]⟩, 5, 5, []⟩
theorem exE_ev : evB exE = true := by
  have h1 : isNameB exE.cas = true := by decide
  have h2 : isNameB exE.act = true := by decide
  have h3 : noS exE.res = true := by unfold noS; rw [Lib.toList_data]; rfl
  unfold evB
  rw [h1, h2, h3]
  decide
theorem exE_valid : logB [exE] = true := by
  unfold logB
  have h : evAt [exE] 0 = true := by unfold evAt; simp [exE_ev]
  simp [List.range_succ, h]
def exP : List UInt8 := [1, 3, 0, 1, 97, 1, 99, 2, 1, 1, 1, 0, 1, 5, 1, 5, 0]
def exBig : List UInt8 := exP ++ le4 (sumOf exP)
theorem exBig_pre : Lib.hasPrefix exBig exP = true := by decide
theorem exE_log (w : World) : IsLog (Lt (w.alloc (.cells #[.string ⟨#[99]⟩, .string ⟨#[97]⟩, .string ⟨#[]⟩, .int .i64 5, .int .i64 5, .slice none 0 0] 57)).heap.size) (w.alloc (.cells #[.string ⟨#[99]⟩, .string ⟨#[97]⟩, .string ⟨#[]⟩, .int .i64 5, .int .i64 5, .slice none 0 0] 57)) (.agg #[.slice (some ⟨w.heap.size, 0, none⟩) 1 1]) [exE] := by
  have hB := Blk.new w 57 #[.string ⟨#[99]⟩, .string ⟨#[97]⟩, .string ⟨#[]⟩, .int .i64 5, .int .i64 5, .slice none 0 0]
  refine ⟨_, rfl, ?_⟩
  refine Sl.ofBlk (xs := [exE]) (cs := [.string ⟨#[99]⟩, .string ⟨#[97]⟩, .string ⟨#[]⟩, .int .i64 5, .int .i64 5, .slice none 0 0]) hB (by unfold maxLen; simp) fun i x hx => ?_
  match i, hx with
  | 0, hx =>
    injection hx with hx
    subst hx
    exact ⟨[.string ⟨#[99]⟩, .string ⟨#[97]⟩, .string ⟨#[]⟩, .int .i64 5, .int .i64 5, .slice none 0 0], rfl, fun j u hu => by simpa using hu, .slice none 0 0, rfl, ⟨by decide, by decide, by decide, by unfold Fit; decide, by unfold Fit; decide⟩, Sl.none_⟩
  | i + 1, hx => simp at hx
theorem exE_words : words [exE] = [[], [97], [99]] := by
  refine (setB_unique (by unfold Asc; decide) fun x => ?_).symm
  unfold names3 exE
  simp
  constructor
  · rintro (h | h | h)
    · exact .inr (.inr h)
    · exact .inr (.inl h)
    · exact .inl h
  · rintro (h | h | h)
    · exact .inr (.inr h)
    · exact .inr (.inl h)
    · exact .inl h
theorem exE_body : arBody [exE] = exP := by
  have hp : part [exE] 0 = [exE] := rfl
  have hb : arBlock [exE] = [3, 0, 1, 97, 1, 99, 2, 1, 1, 1, 0, 1, 5, 1, 5, 0] := by
    unfold arBlock
    rw [exE_words]
    have a1 : atW [[], [97], [99]] exE.cas = 2 := by decide
    have a2 : atW [[], [97], [99]] exE.act = 1 := by decide
    have a3 : atW [[], [97], [99]] exE.res = 0 := by decide
    simp only [List.map_cons, List.map_nil, a1, a2, a3]
    have r : ∀ x : Nat, arRuns [x] = arNum x ++ arNum 1 := fun x => by rw [arRuns_cons]; simp [lead, arRuns_nil]
    rw [r, r, r, r]
    have t1 : arTimes 0 [exE] = arNum 5 := by rw [arTimes, arTimes, List.append_nil]; rfl
    have t2 : [exE].flatMap arData = arNum 0 := by simp [arData, exE]
    have t3 : ([[], [97], [99]] : List Bs).flatMap arText = arNum 0 ++ (arNum 1 ++ [97] ++ (arNum 1 ++ [99])) := by simp [arText]
    have t4 : exE.life.toNat = 5 := rfl
    rw [t1, t2, t3, t4]
    simp only [List.length_cons, List.length_nil]
    rw [arNum_one (n := 0) (by omega), arNum_one (n := 1) (by omega), arNum_one (n := 2) (by omega), arNum_one (n := 0 + 1 + 1 + 1) (by omega), arNum_one (n := 5) (by omega)]
    rfl
  unfold arBody
  have hn : nParts [exE] = 1 := rfl
  rw [hn]
  unfold arParts
  have hr : List.range 1 = [0] := rfl
  rw [hr, List.flatMap_cons, List.flatMap_nil, hp, hb]
  rw [show [exE].length = 1 from rfl, arNum_one (by omega)]
  rfl
theorem exE_pack : packE [exE] = (exBig, 0) := by
  unfold packE
  rw [exE_valid, if_pos rfl]
  unfold arPack
  rw [exE_body, if_neg (by rw [List.length_append]; decide)]
  rfl
set_option maxHeartbeats 2000000 in
set_option maxRecDepth 100000 in
theorem awake_any (w : World) : Calls Try.prog 7 #[] w fun e w' => e = .returned (.bool true) ∧ Below w.heap.size w w' := by
  go_enter Try.func7, Try.ntmps7
  have hb1 := bone w (.cells #[.string ⟨#[99]⟩, .string ⟨#[97]⟩, .string ⟨#[]⟩, .int .i64 5, .int .i64 5, .slice none 0 0] 57)
  have hpk := packP_any [exE] _ _ (exE_log w)
  rw [exE_pack] at hpk
  have HPK := Lib.hid hpk
  clear hpk
  go_wp2_with fail
  (with_reducible refine HPK.out.mono ?_)
  rintro e w2 ⟨v2, rfl, hO2, hb2⟩
  obtain ⟨A2, c2, rfl⟩ := hO2.isSlice
  rw [show (exBig, (0 : Int)).1.length = 21 from rfl] at hO2 ⊢
  have hb12 := hb1.trans (hb2.mono hb1.size)
  have hb3 := bone w2 (.cells #[.int .u8 0, .int .u8 141, .int .u8 239, .int .u8 2, .int .u8 210] 5)
  have HO5 := Lib.hid (open5 w2.heap.size _ (Blk.new w2 5 #[.int .u8 0, .int .u8 141, .int .u8 239, .int .u8 2, .int .u8 210]))
  have HO2 := Lib.hid hO2.slC
  clear hb1 hb2 hO2
  go_wp2_with fail
  (with_reducible refine HO5.out.mono ?_)
  rintro e w3 ⟨A3, c3, rfl, hb33⟩
  have hb23 := hb3.trans (hb33.mono hb3.size)
  have hb03 := hb12.trans (hb23.mono hb12.size)
  clear HO5
  go_wp2_with fail
  have hb4 := bone w3 (.cells #[.slice A3 0 c3] 24)
  have hb5 := bone (w3.alloc (.cells #[.slice A3 0 c3] 24)) (.cells #[.int .u8 1, .int .u8 3, .int .u8 0, .int .u8 1, .int .u8 97, .int .u8 1, .int .u8 99, .int .u8 2, .int .u8 1, .int .u8 1, .int .u8 1, .int .u8 0, .int .u8 1, .int .u8 5, .int .u8 1, .int .u8 5, .int .u8 0] 5)
  have hs17 := slC_blk (Blk.new (w3.alloc (.cells #[.slice A3 0 c3] 24)) 5 #[.int .u8 1, .int .u8 3, .int .u8 0, .int .u8 1, .int .u8 97, .int .u8 1, .int .u8 99, .int .u8 2, .int .u8 1, .int .u8 1, .int .u8 1, .int .u8 0, .int .u8 1, .int .u8 5, .int .u8 1, .int .u8 5, .int .u8 0]) exP rfl (by decide)
  rw [show exP.length = 17 from rfl] at hs17
  simp only [World.size_alloc] at hs17
  have hx3 := ((Blk.new w3 24 #[.slice A3 0 c3]).now hb5).c1
  have hP := prefix_any _ _ exBig _ _ (((HO2.out.now hb23).now hb4).now hb5) hs17
  rw [exBig_pre] at hP
  have HP := Lib.hid hP
  have hb05 := (hb03.trans (hb4.mono hb03.size)).trans (hb5.mono (hb03.trans (hb4.mono hb03.size)).size)
  clear hP hs17 hb4 hb5 hb12 hb23 hb33 hb3
  (with_reducible refine HP.out.mono ?_)
  rintro e w6 ⟨rfl, rfl⟩
  go_wp2_with fail
  go_ret
  exact ⟨rfl, hb05⟩
end Go.Proofs.Ytjglmjdfndcmmaa
