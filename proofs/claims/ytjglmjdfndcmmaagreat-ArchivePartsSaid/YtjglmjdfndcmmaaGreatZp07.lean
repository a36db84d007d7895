/- Texts of this seat, merged. -/
import Derived.Laws.MakeOwn
import Derived.Outline
import Derived.Shelf.Abstract
import Derived.Deep.QuietTactic
import Derived.Laws.BitsAllLaws
import Derived.Laws.IdiomStrings
import Derived.Test.YtjglmjdfndcmmaaGreatZp01
import Derived.Test.YtjglmjdfndcmmaaGreatZp02
import Derived.Test.YtjglmjdfndcmmaaGreatZp03
import Derived.Test.YtjglmjdfndcmmaaGreatZp04
import Derived.Test.YtjglmjdfndcmmaaGreatZp05
import Derived.Test.YtjglmjdfndcmmaaGreatZp06
set_option linter.all false
set_option linter.all false
namespace Go.Proofs.YtjglmjdfndcmmaaGreat
open Go.RowKit
def b5 : List UInt8 := [0, 141, 239, 2, 210]
theorem b5_sum : le4 (sumOf [0]) = [141, 239, 2, 210] := by decide
theorem b5_pack : arPack [] = b5 := by
  have h : arBody [] = [0] := by
    unfold arBody
    rw [show ([] : List Ev).length = 0 from rfl, arNum_one (by omega)]
    rfl
  unfold arPack
  rw [h, b5_sum]
  rfl
theorem b5_valid : logB [] = true := by decide
set_option maxHeartbeats 1000000 in
set_option maxRecDepth 100000 in
theorem number_zero (rb b o : Nat) (w : World) (hB : Blk w rb 86 #[.slice (some ⟨b, o, none⟩) 1 5, .bool false]) (hc : w.cell? ⟨b, o, none⟩ = some (.int .u8 0)) :
    Calls Tryz.prog 41 #[.pointer (some ⟨rb, 0, none⟩), .int .i64 2000] w fun e w' => e = .returned (.int .i64 0) ∧ Blk w' rb 86 #[.slice (some ⟨b, o + 1, none⟩) 0 4, .bool false] ∧ w.grownBy w' (some rb) := by
  obtain ⟨q0, q1⟩ := hB.c2
  have hf0 := hB.frozen 0
  have e1 : bits .and .u8 (0 : Int) 127 = 0 := by decide
  have e2 : bits .or .i64 (0 : Int) 0 = 0 := by decide
  have e3 : wrap64 0 = 0 := w64 (by omega)
  go_enter Tryz.func41, Tryz.ntmps41
  go_wp2_with fail
  go_loopw [5, 6, 14] (fun nv sv iv wr => nv = .int .i64 0 ∧ sv = .int .i64 0 ∧ iv = .int .i64 0 ∧ w = wr) (fun _ _ _ _ => 0)
  case atStart => exact ⟨rfl, rfl, rfl, rfl⟩
  case round =>
    obtain ⟨rfl, rfl, rfl, rfl⟩ := hrel
    go_wp2_with fail
    go_ret
    exact ⟨rfl, hB.set_ 0 _, ⟨rfl, rfl, rfl, by simp, fun i _ hne => Below.heap_setCell w ⟨rb, 0, none⟩ _ i (fun e => hne (by rw [e]))⟩⟩
theorem slC_blk {w : World} {g : Nat} {cs : Array Value} (h : Blk w g 5 cs) (l : List UInt8) (hl : cs = (flat cellC l).toArray) (hm : l.length ≤ maxLen) : SlC (Lt w.heap.size) w (.slice (some ⟨g, 0, none⟩) l.length l.length) l := by
  subst hl
  refine Sl.ofBlk (xs := l) (cs := flat cellC l) h hm fun i x hx => ⟨[.int .u8 (x.toNat : Int)], rfl, fun j u hu => ?_, rfl⟩
  match j, hu with
  | 0, hu =>
    injection hu with hu; subst hu
    rw [flatC, List.getElem?_map]
    simp [hx]
  | j + 1, hu => simp at hu
theorem below_of_grown' {w b : World} {o : Obj} (h : Below w.heap.size w (w.alloc o)) (g : (w.alloc o).grownBy b (some w.heap.size)) : Below w.heap.size w b :=
  ⟨g.os.trans h.os, g.tape.trans h.tape, g.output.trans h.output, Nat.le_trans h.size g.size, fun i hi => (g.block i (Nat.lt_of_lt_of_le hi h.size) (fun e => by injection e; omega)).trans (h.block i hi)⟩
theorem evInfo : (Tryz.prog.info? 57).map (fun i => (i.zero, i.size, i.bytes)) = some (some (.agg #[.string ⟨#[]⟩, .string ⟨#[]⟩, .string ⟨#[]⟩, .int .i64 0, .int .i64 0, .slice none 0 0]), 6, 88) := by kernel_rfl
theorem make_none : ∃ mc : Array Value, ∀ w, (Instr.makeSlice 23 (.int .i64 0) (.int .i64 0)).run Tryz.prog w = .ok (.slice (some ⟨w.heap.size, 0, none⟩) 0 0) (w.alloc (.cells mc 57)) := by
  obtain ⟨i, hi, hz, hs, hb⟩ := info_parts evInfo
  exact ⟨_, fun w => run_make w 23 57 i _ Tryz.underlying23 hi hz .i64 .i64 0 0 (by omega) (by omega) (by omega) (by omega)⟩
set_option maxHeartbeats 2000000 in
set_option maxRecDepth 100000 in
theorem open5 (b : Nat) (w : World) (hB : Blk w b 5 #[.int .u8 0, .int .u8 141, .int .u8 239, .int .u8 2, .int .u8 210]) :
    Calls Tryz.prog 21 #[.slice (some ⟨b, 0, none⟩) 5 5] w fun e w' => ∃ A c, e = .returned (.tuple #[.agg #[.slice A 0 c], .int .i64 0]) ∧ Below w.heap.size w w' := by
  have hs : SlC (Lt w.heap.size) w (.slice (some ⟨b, 0, none⟩) 5 5) b5 := slC_blk hB b5 rfl (by decide)
  have hs1 : SlC (Lt w.heap.size) w (.slice (some ⟨b, 0, none⟩) 1 5) [0] := by
    have := Sl.sub hs 0 1 5 (by omega) (by omega) (by decide)
    exact this
  have hs2 : SlC (Lt w.heap.size) w (.slice (some ⟨b, 1, none⟩) 4 4) [141, 239, 2, 210] := by
    have := Sl.sub hs 1 4 4 (by omega) (by omega) (by decide)
    exact this
  have hb1 := bone w (.cells #[.slice none 0 0] 25)
  have hB1 := Blk.new w 25 #[.slice none 0 0]
  have HS := Lib.hid (hs.now hb1)
  have HS2 := Lib.hid (hs2.now hb1)
  have hsm := sum_any _ _ _ (hs1.now hb1)
  rw [show ((sumOf [0] : Nat) : Int) = 3523407757 by decide] at hsm
  have HSM := Lib.hid hsm
  have HBB := Lib.hid (hB.now hb1)
  clear hs hs1 hs2 hsm hB
  go_enter Tryz.func21, Tryz.ntmps21
  go_wp2_with fail
  (with_reducible refine HSM.out.mono ?_)
  rintro e w1 ⟨rfl, rfl⟩
  go_wp2_with fail
  have hb2 := bone (w.alloc (.cells #[.slice none 0 0] 25)) (.cells #[.int .u8 141, .int .u8 239, .int .u8 2, .int .u8 210] 5)
  have hs4 := slC_blk (Blk.new (w.alloc (.cells #[.slice none 0 0] 25)) 5 #[.int .u8 141, .int .u8 239, .int .u8 2, .int .u8 210]) [141, 239, 2, 210] rfl (by decide)
  rw [show ([141, 239, 2, 210] : List UInt8).length = 4 from rfl] at hs4
  simp only [World.size_alloc] at hs4
  have hE := equal_any _ _ _ _ _ (HS2.out.now hb2) hs4
  rw [decide_eq_true rfl] at hE
  have HE := Lib.hid hE
  have hB2 := hB1.now hb2
  have HBB2 := Lib.hid (HBB.out.now hb2)
  have HSW := Lib.hid (HS.out.now hb2)
  have hb12 := hb1.trans (hb2.mono hb1.size)
  clear hE hs4 HS2 hB1 hb1 HBB HS
  (with_reducible refine HE.out.mono ?_)
  rintro e w3 ⟨rfl, rfl⟩
  obtain ⟨w2, hw2⟩ : ∃ w2, (w.alloc (.cells #[.slice none 0 0] 25)).alloc (.cells #[.int .u8 141, .int .u8 239, .int .u8 2, .int .u8 210] 5) = w2 := ⟨_, rfl⟩
  rw [hw2] at hb12 hB2 HBB2 HSW ⊢
  clear hw2 HE hb2
  have hb3 := bone w2 (.cells #[.slice (some ⟨b, 0, none⟩) 1 5, .bool false] 86)
  have HN := Lib.hid (number_zero w2.heap.size b 0 _ (Blk.new w2 86 #[.slice (some ⟨b, 0, none⟩) 1 5, .bool false]) ((HBB2.out.now hb3).cell 0))
  go_wp2_with fail
  (with_reducible refine HN.out.mono ?_)
  rintro e w4 ⟨rfl, hR4, hg4⟩
  obtain ⟨mc, hmk⟩ := make_none
  have hmk4 := hmk w4
  have hb24 : Below w2.heap.size w2 w4 := below_of_grown' hb3 hg4
  have hb04 := hb12.trans (hb24.mono hb12.size)
  have hb5 := bone w4 (.cells mc 57)
  have hb6 := bbox hb5 (.cells #[.agg #[.slice (some ⟨w4.heap.size, 0, none⟩) 0 0]] 25)
  clear HN hb3 hg4
  go_wp2_with fail
  have hL6 := Blk.new (w4.alloc (.cells mc 57)) 25 #[.slice (some ⟨w4.heap.size, 0, none⟩) 0 0]
  rw [World.size_alloc] at hL6
  have hb46 := bbox hb5 (.cells #[.slice (some ⟨w4.heap.size, 0, none⟩) 0 0] 25)
  have hR6 := hR4.now hb46
  have hB6 := (hB2.now hb24).now hb46
  have hSB6 := (HSW.out.now hb24).now hb46
  have hb06 := hb04.trans (hb46.mono hb04.size)
  obtain ⟨w6, hw6⟩ : ∃ w6, (w4.alloc (.cells mc 57)).alloc (.cells #[.slice (some ⟨w4.heap.size, 0, none⟩) 0 0] 25) = w6 := ⟨_, rfl⟩
  rw [hw6] at hL6 hR6 hB6 hSB6 hb06 ⊢
  have hlog : IsLog (Lt w6.heap.size) w6 (.agg #[.slice (some ⟨w4.heap.size, 0, none⟩) 0 0]) [] := ⟨_, rfl, ⟨some ⟨w4.heap.size, 0, none⟩, 0, rfl, Nat.le_refl _, Nat.zero_le _, fun i x hx => by simp at hx⟩⟩
  have hlv := logValid_any [] _ w6 hlog
  rw [b5_valid] at hlv
  have HLV := Lib.hid hlv
  have HLG := Lib.hid hlog
  have hc0 := hL6.c1
  obtain ⟨q0, q1⟩ := hR6.c2
  clear hw6 hmk4 hmk hb5 hb6 hb46 hb24 hb04 hR4 hB2 HBB2 hlv hlog HSM
  go_loopw [8] (fun iv wr => iv = .int .i64 0 ∧ w6 = wr) (fun _ _ => 0)
  case atStart => exact ⟨rfl, rfl⟩
  case round =>
    obtain ⟨rfl, rfl⟩ := hrel
    go_wp2_with fail
    (with_reducible refine HLV.out.mono ?_)
    rintro e w7 ⟨rfl, hb7⟩
    have hc7 := (hL6.now hb7).c1
    have HPK := Lib.hid (pack_any [] (.agg #[.slice (some ⟨w4.heap.size, 0, none⟩) 0 0]) w7 (HLG.out.now hb7) b5_valid)
    go_wp2_with fail
    (with_reducible refine HPK.out.mono ?_)
    rintro e w8 ⟨v8, rfl, hO8, hb8⟩
    rw [b5_pack] at hO8
    have hE := equal_any _ _ _ _ w8 hO8.slC ((hSB6.now hb7).now hb8)
    rw [decide_eq_true rfl] at hE
    have HE := Lib.hid hE
    have hL8 := (hL6.now hb7).now hb8
    have hB8 := (hB6.now hb7).now hb8
    have hc8 := hL8.c1
    have hd8 := hB8.c1
    have hf8 := hB8.frozen 0
    have hb08 := (hb06.trans (hb7.mono hb06.size)).trans (hb8.mono (hb06.trans (hb7.mono hb06.size)).size)
    clear hE hO8
    go_wp2_with fail
    (with_reducible refine HE.out.mono ?_)
    rintro e w9 ⟨rfl, rfl⟩
    have hd9 := (hB8.set_ 0 (.slice (some ⟨w4.heap.size, 0, none⟩) 0 0)).c1
    go_wp2_with fail
    refine bodyPost_ret (v := .tuple #[.agg #[.slice (some ⟨w4.heap.size, 0, none⟩) 0 0], .int .i64 0]) (by simp [results, Tryz.results21, go_sem, hd9]) rfl ?_
    exact ⟨_, _, rfl, hb08.setCell (p := ⟨w.heap.size, 0, none⟩) (Nat.le_refl _) _⟩
end Go.Proofs.YtjglmjdfndcmmaaGreat

set_option linter.all false
namespace Go.Proofs.YtjglmjdfndcmmaaGreat
open Go.RowKit
def exE : Ev := ⟨⟨#[99]⟩, ⟨#[97]⟩, ⟨#[]⟩, 5, 5, []⟩
theorem exE_ev : evB exE = true := by
  have h1 : isNameB exE.cas = true := by decide
  have h2 : isNameB exE.act = true := by decide
  have h3 : noS exE.res = true := by unfold noS; rw [Lib.toList_data]; rfl
  unfold evB
  rw [h1, h2, h3]
  decide
theorem exE_valid : logB [exE] = true := by
  unfold logB
  have h : evAt [exE] 0 = true := by unfold evAt; simp [exE_ev]
  simp [List.range_succ, h]
def exP : List UInt8 := [1, 3, 0, 1, 97, 1, 99, 2, 1, 1, 1, 0, 1, 5, 1, 5, 0]
def exBig : List UInt8 := exP ++ le4 (sumOf exP)
theorem exBig_pre : Lib.hasPrefix exBig exP = true := by decide
theorem exE_log (w : World) : IsLog (Lt (w.alloc (.cells #[.string ⟨#[99]⟩, .string ⟨#[97]⟩, .string ⟨#[]⟩, .int .i64 5, .int .i64 5, .slice none 0 0] 57)).heap.size) (w.alloc (.cells #[.string ⟨#[99]⟩, .string ⟨#[97]⟩, .string ⟨#[]⟩, .int .i64 5, .int .i64 5, .slice none 0 0] 57)) (.agg #[.slice (some ⟨w.heap.size, 0, none⟩) 1 1]) [exE] := by
  have hB := Blk.new w 57 #[.string ⟨#[99]⟩, .string ⟨#[97]⟩, .string ⟨#[]⟩, .int .i64 5, .int .i64 5, .slice none 0 0]
  refine ⟨_, rfl, ?_⟩
  refine Sl.ofBlk (xs := [exE]) (cs := [.string ⟨#[99]⟩, .string ⟨#[97]⟩, .string ⟨#[]⟩, .int .i64 5, .int .i64 5, .slice none 0 0]) hB (by unfold maxLen; simp) fun i x hx => ?_
  match i, hx with
  | 0, hx =>
    injection hx with hx
    subst hx
    exact ⟨[.string ⟨#[99]⟩, .string ⟨#[97]⟩, .string ⟨#[]⟩, .int .i64 5, .int .i64 5, .slice none 0 0], rfl, fun j u hu => by simpa using hu, .slice none 0 0, rfl, ⟨by decide, by decide, by decide, by unfold Fit; decide, by unfold Fit; decide⟩, Sl.none_⟩
  | i + 1, hx => simp at hx
theorem exE_words : words [exE] = [[], [97], [99]] := by
  refine (setB_unique (by unfold Asc; decide) fun x => ?_).symm
  unfold names3 exE
  simp
  constructor
  · rintro (h | h | h)
    · exact .inr (.inr h)
    · exact .inr (.inl h)
    · exact .inl h
  · rintro (h | h | h)
    · exact .inr (.inr h)
    · exact .inr (.inl h)
    · exact .inl h
theorem exE_body : arBody [exE] = exP := by
  have hp : part [exE] 0 = [exE] := rfl
  have hb : arBlock [exE] = [3, 0, 1, 97, 1, 99, 2, 1, 1, 1, 0, 1, 5, 1, 5, 0] := by
    unfold arBlock
    rw [exE_words]
    have a1 : atW [[], [97], [99]] exE.cas = 2 := by decide
    have a2 : atW [[], [97], [99]] exE.act = 1 := by decide
    have a3 : atW [[], [97], [99]] exE.res = 0 := by decide
    simp only [List.map_cons, List.map_nil, a1, a2, a3]
    have r : ∀ x : Nat, arRuns [x] = arNum x ++ arNum 1 := fun x => by rw [arRuns_cons]; simp [lead, arRuns_nil]
    rw [r, r, r, r]
    have t1 : arTimes 0 [exE] = arNum 5 := by rw [arTimes, arTimes, List.append_nil]; rfl
    have t2 : [exE].flatMap arData = arNum 0 := by simp [arData, exE]
    have t3 : ([[], [97], [99]] : List Bs).flatMap arText = arNum 0 ++ (arNum 1 ++ [97] ++ (arNum 1 ++ [99])) := by simp [arText]
    have t4 : exE.life.toNat = 5 := rfl
    rw [t1, t2, t3, t4]
    simp only [List.length_cons, List.length_nil]
    rw [arNum_one (n := 0) (by omega), arNum_one (n := 1) (by omega), arNum_one (n := 2) (by omega), arNum_one (n := 0 + 1 + 1 + 1) (by omega), arNum_one (n := 5) (by omega)]
    rfl
  unfold arBody
  have hn : nParts [exE] = 1 := rfl
  rw [hn]
  unfold arParts
  have hr : List.range 1 = [0] := rfl
  rw [hr, List.flatMap_cons, List.flatMap_nil, hp, hb]
  rw [show [exE].length = 1 from rfl, arNum_one (by omega)]
  rfl
theorem exE_pack : packE [exE] = (exBig, 0) := by
  unfold packE
  rw [exE_valid, if_pos rfl]
  unfold arPack
  rw [exE_body, if_neg (by rw [List.length_append]; decide)]
  rfl
set_option maxHeartbeats 2000000 in
set_option maxRecDepth 100000 in
theorem awake_any (w : World) : Calls Tryz.prog 5 #[] w fun e w' => e = .returned (.bool true) ∧ Below w.heap.size w w' := by
  go_enter Tryz.func5, Tryz.ntmps5
  have hb1 := bone w (.cells #[.string ⟨#[99]⟩, .string ⟨#[97]⟩, .string ⟨#[]⟩, .int .i64 5, .int .i64 5, .slice none 0 0] 57)
  have hpk := packP_any [exE] _ _ (exE_log w)
  rw [exE_pack] at hpk
  have HPK := Lib.hid hpk
  clear hpk
  go_wp2_with fail
  (with_reducible refine HPK.out.mono ?_)
  rintro e w2 ⟨v2, rfl, hO2, hb2⟩
  obtain ⟨A2, c2, rfl⟩ := hO2.isSlice
  rw [show (exBig, (0 : Int)).1.length = 21 from rfl] at hO2 ⊢
  have hb12 := hb1.trans (hb2.mono hb1.size)
  have hb3 := bone w2 (.cells #[.int .u8 0, .int .u8 141, .int .u8 239, .int .u8 2, .int .u8 210] 5)
  have HO5 := Lib.hid (open5 w2.heap.size _ (Blk.new w2 5 #[.int .u8 0, .int .u8 141, .int .u8 239, .int .u8 2, .int .u8 210]))
  have HO2 := Lib.hid hO2.slC
  clear hb1 hb2 hO2
  go_wp2_with fail
  (with_reducible refine HO5.out.mono ?_)
  rintro e w3 ⟨A3, c3, rfl, hb33⟩
  have hb23 := hb3.trans (hb33.mono hb3.size)
  have hb03 := hb12.trans (hb23.mono hb12.size)
  clear HO5
  go_wp2_with fail
  have hb4 := bone w3 (.cells #[.slice A3 0 c3] 25)
  have hb5 := bone (w3.alloc (.cells #[.slice A3 0 c3] 25)) (.cells #[.int .u8 1, .int .u8 3, .int .u8 0, .int .u8 1, .int .u8 97, .int .u8 1, .int .u8 99, .int .u8 2, .int .u8 1, .int .u8 1, .int .u8 1, .int .u8 0, .int .u8 1, .int .u8 5, .int .u8 1, .int .u8 5, .int .u8 0] 5)
  have hs17 := slC_blk (Blk.new (w3.alloc (.cells #[.slice A3 0 c3] 25)) 5 #[.int .u8 1, .int .u8 3, .int .u8 0, .int .u8 1, .int .u8 97, .int .u8 1, .int .u8 99, .int .u8 2, .int .u8 1, .int .u8 1, .int .u8 1, .int .u8 0, .int .u8 1, .int .u8 5, .int .u8 1, .int .u8 5, .int .u8 0]) exP rfl (by decide)
  rw [show exP.length = 17 from rfl] at hs17
  simp only [World.size_alloc] at hs17
  have hx3 := ((Blk.new w3 25 #[.slice A3 0 c3]).now hb5).c1
  have hP := prefix_any _ _ exBig _ _ (((HO2.out.now hb23).now hb4).now hb5) hs17
  rw [exBig_pre] at hP
  have HP := Lib.hid hP
  have hb05 := (hb03.trans (hb4.mono hb03.size)).trans (hb5.mono (hb03.trans (hb4.mono hb03.size)).size)
  clear hP hs17 hb4 hb5 hb12 hb23 hb33 hb3
  (with_reducible refine HP.out.mono ?_)
  rintro e w6 ⟨rfl, rfl⟩
  go_wp2_with fail
  go_ret
  exact ⟨rfl, hb05⟩
end Go.Proofs.YtjglmjdfndcmmaaGreat

set_option linter.all false
namespace Go.Proofs.YtjglmjdfndcmmaaGreat
open Go.RowKit
def SomeB (w : World) (x : Ending) (w' : World) : Prop := (∃ q : Bool, x = .returned (.bool q)) ∧ Below w.heap.size w w'
end Go.Proofs.YtjglmjdfndcmmaaGreat

set_option linter.all false
namespace Go.Proofs.YtjglmjdfndcmmaaGreat
open Go.RowKit
theorem short_any (u : Value) (l : List UInt8) (w : World) (h : SlC (Lt w.heap.size) w u l) : Calls Tryz.prog 6 #[u] w (SomeB w) := by
  obtain ⟨A, c, rfl, _, _, _⟩ := h.open_
  clear h
  by_cases h1 : l.length ≤ 20000
  · have z1 : (l.length : Int) ≤ 20000 := by omega
    go_enter Tryz.func6, Tryz.ntmps6
    go_wp2_with fail
    go_ret
    exact ⟨⟨_, rfl⟩, Below.refl _ _⟩
  · have z1 : ¬ (l.length : Int) ≤ 20000 := by omega
    by_cases h2 : 262144 < l.length
    · have z2 : (262144 : Int) < (l.length : Int) := by omega
      clear h1 h2
      go_enter Tryz.func6, Tryz.ntmps6
      go_wp2_with fail
      go_ret
      exact ⟨⟨_, rfl⟩, Below.refl _ _⟩
    · have z2 : ¬ (262144 : Int) < (l.length : Int) := by omega
      clear h1 h2
      go_enter Tryz.func6, Tryz.ntmps6
      go_wp2_with fail
      go_ret
      exact ⟨⟨_, rfl⟩, Below.refl _ _⟩
end Go.Proofs.YtjglmjdfndcmmaaGreat

set_option linter.all false
namespace Go.Proofs.YtjglmjdfndcmmaaGreat
open Go.RowKit
structure Chg (S : Nat → Prop) (w w' : World) : Prop where
  os : w'.os = w.os
  tape : w'.tape = w.tape
  output : w'.output = w.output
  size : w.heap.size ≤ w'.heap.size
  block : ∀ i, i < w.heap.size → ¬ S i → w'.heap[i]? = w.heap[i]?
section
variable {S T : Nat → Prop} {w w' w'' : World}
theorem Chg.refl : Chg S w w := ⟨rfl, rfl, rfl, Nat.le_refl _, fun _ _ _ => rfl⟩
theorem Chg.trans (h : Chg S w w') (k : Chg S w' w'') : Chg S w w'' :=
  ⟨k.os.trans h.os, k.tape.trans h.tape, k.output.trans h.output, Nat.le_trans h.size k.size, fun i hi hn => (k.block i (Nat.lt_of_lt_of_le hi h.size) hn).trans (h.block i hi hn)⟩
theorem Chg.mono (h : Chg S w w') (hs : ∀ i, i < w.heap.size → S i → T i) : Chg T w w' := ⟨h.os, h.tape, h.output, h.size, fun i hi hn => h.block i hi fun hs' => hn (hs i hi hs')⟩
theorem Chg.of_below (h : Below w.heap.size w w') : Chg S w w' := ⟨h.os, h.tape, h.output, h.size, fun i hi _ => h.block i hi⟩
theorem Chg.set (h : Chg S w w') {p : Addr} (hp : w.heap.size ≤ p.block ∨ S p.block) (u : Value) : Chg S w (w'.setCell p u) :=
  ⟨h.os, h.tape, h.output, by simpa using h.size, fun i hi hn => (Below.heap_setCell w' p u i fun e => by
    rcases hp with hp | hp
    · omega
    · rw [← e] at hp; exact hn hp).trans (h.block i hi hn)⟩
theorem Chg.alloc (h : Chg S w w') (o : Obj) : Chg S w (w'.alloc o) := h.trans (Chg.of_below (bone w' o))
theorem Chg.drew (h : Chg S w w') : Chg S w w'.drew := ⟨h.os, h.tape, h.output, h.size, h.block⟩
theorem Chg.below {B : Nat} (h : Chg S w w') (hB : B ≤ w.heap.size) (hs : ∀ i, i < B → ¬ S i) : Below B w w' := ⟨h.os, h.tape, h.output, h.size, fun i hi => h.block i (Nat.lt_of_lt_of_le hi hB) (hs i hi)⟩
theorem Blk.chg {g t : Nat} {cs : Array Value} (h : Blk w g t cs) (k : Chg S w w') (hg : ¬ S g) : Blk w' g t cs := (k.block g h.lt hg).trans h
end
def One (R : Nat) : Nat → Prop := fun i => i = R
def RdP (B : Nat) (w : World) (R : Nat) (l : List UInt8) (q : Bool) : Prop := ∃ b o c, Blk w R 86 #[.slice (some ⟨b, o, none⟩) l.length c, .bool q] ∧ l.length ≤ c ∧ c ≤ 9223372036854775807 ∧ SlC (Lt B) w (.slice (some ⟨b, o, none⟩) l.length c) l
theorem RdP.chg {B R : Nat} {w w' : World} {l : List UInt8} {q : Bool} {S : Nat → Prop} (h : RdP B w R l q) (k : Chg S w w') (hB : B ≤ w.heap.size) (hR : ¬ S R) (hS : ∀ i, i < B → ¬ S i) : RdP B w' R l q := by
  obtain ⟨b, o, c, h1, h2, h3, h4⟩ := h
  exact ⟨b, o, c, h1.chg k hR, h2, h3, Sl.below h4 RByte.kept (k.below hB hS) (Nat.le_refl _)⟩
theorem SlC.empty {D : Nat → Prop} {w : World} (A : Option Addr) {c : Nat} (hc : c ≤ 9223372036854775807) : SlC D w (.slice A 0 c) [] := ⟨A, c, rfl, Nat.zero_le _, hc, fun k x h => by simp at h⟩
theorem SlC.drop {D : Nat → Prop} {w : World} {b o n c i : Nat} {l : List UInt8} (h : SlC D w (.slice (some ⟨b, o, none⟩) n c) l) (hn : n = l.length) (hi : i ≤ n) (hc : n ≤ c) (hc2 : c ≤ 9223372036854775807) (A : Option Addr) (hA : i < n → A = some ⟨b, o + i, none⟩) : SlC D w (.slice A (l.drop i).length (c - i)) (l.drop i) := by
  subst hn
  rcases Nat.lt_or_ge i l.length with h1 | h1
  · obtain rfl := hA h1
    have h2 := Sl.sub h i (l.length - i) (c - i) (by omega) (by omega) (by unfold maxLen; omega)
    rw [Nat.mul_one, List.take_of_length_le (by rw [List.length_drop]; exact Nat.le_refl _)] at h2
    rw [List.length_drop]
    exact h2
  · rw [List.drop_eq_nil_of_le h1]
    exact SlC.empty A (by omega)
structure GotN (most : Nat) (l : List UInt8) (q : Bool) (n : Nat) (l' : List UInt8) (q' : Bool) : Prop where
  le : n ≤ most
  up : q' = false → q = false
  short : l'.length ≤ l.length
  whole : ∀ m t, q = false → l = arNum m ++ t → m ≤ most → m < 9223372036854775808 → n = m ∧ l' = t ∧ q' = false
theorem arNum_head {m : Nat} {l t : List UInt8} {c : UInt8} (h : c :: l = arNum m ++ t) : (c.toNat < 128 ∧ m = c.toNat ∧ l = t) ∨ (128 ≤ c.toNat ∧ m % 128 = c.toNat % 128 ∧ 128 ≤ m ∧ l = arNum (m / 128) ++ t) := by
  by_cases hm : m < 128
  · rw [arNum_one hm] at h
    injection h with h1 h2
    have : c.toNat = m := by rw [h1, UInt8.toNat_ofNat']; omega
    exact .inl ⟨by omega, this.symm, h2⟩
  · rw [arNum_more hm] at h
    injection h with h1 h2
    have : c.toNat = m % 128 + 128 := by rw [h1, UInt8.toNat_ofNat']; omega
    exact .inr ⟨by omega, by omega, by omega, h2⟩
theorem arNum_nil {m : Nat} {t : List UInt8} : [] ≠ arNum m ++ t := fun h => by
  have h1 := congrArg List.length h
  have := arNum_pos m
  rw [List.length_append] at h1
  simp at h1
  omega
theorem low7 (c : UInt8) : bits .and .u8 (c.toNat : Int) 127 = ((c.toNat % 128 : Nat) : Int) := by
  have h := u8_and_nat c.toNat 127 (UInt8.toNat_lt c) (by omega)
  rw [Nat.and_two_pow_sub_one_eq_mod c.toNat 7] at h
  exact h
theorem i64_orN (a b : Nat) (ha : a < 9223372036854775808) (hb : b < 9223372036854775808) : bits .or .i64 (a : Int) (b : Int) = ((a ||| b : Nat) : Int) := by
  have hx : a ||| b < 2 ^ 63 := Nat.or_lt_two_pow (by omega) (by omega)
  show IntKind.i64.wrap ((BitVec.ofInt 64 (a : Int) ||| BitVec.ofInt 64 (b : Int)).toNat : Int) = _
  rw [BitVec.toNat_or, ofInt64 a ha, ofInt64 b hb, wrapI64, w64 (by omega)]
theorem or_high {n d s : Nat} (hn : n < 2 ^ s) : n ||| d * 2 ^ s = n + d * 2 ^ s := by
  have := Nat.two_pow_add_eq_or_of_lt (i := s) (b := n) hn d
  rw [Nat.or_comm, Nat.mul_comm d, ← this]; omega
theorem pow128 (j : Nat) : 128 ^ j = 2 ^ (7 * j) := by rw [Nat.pow_mul]
def NumAt (l : List UInt8) (j n : Nat) : Prop := ∀ m t, l = arNum m ++ t → m < 9223372036854775808 → ∃ m', l.drop j = arNum m' ++ t ∧ n + 128 ^ j * m' = m
theorem NumAt.start (l : List UInt8) : NumAt l 0 0 := fun m t h _ => ⟨m, h, by simp⟩
theorem pow128_le {j : Nat} (h : j ≤ 8) : 128 ^ j ≤ 72057594037927936 := by
  have := Nat.pow_le_pow_right (n := 128) (by omega) h
  simpa using this
theorem NumAt.last {l : List UInt8} {j n : Nat} {c : UInt8} (h : NumAt l j n) (hc : l[j]? = some c) (hlt : c.toNat < 128) : ∀ m t, l = arNum m ++ t → m < 9223372036854775808 → n + c.toNat * 128 ^ j = m ∧ l.drop (j + 1) = t := by
  intro m t hl hm
  obtain ⟨m', h1, h2⟩ := h m t hl hm
  have hj := (List.getElem?_eq_some_iff.1 hc).1
  have he : l[j] = c := (List.getElem?_eq_some_iff.1 hc).2
  rw [List.drop_eq_getElem_cons hj, he] at h1
  rcases arNum_head h1 with ⟨_, h3, h4⟩ | ⟨h3, _⟩
  · exact ⟨by rw [← h2, h3, Nat.mul_comm], h4⟩
  · omega
theorem NumAt.more {l : List UInt8} {j n : Nat} {c : UInt8} (h : NumAt l j n) (hc : l[j]? = some c) (hlt : 128 ≤ c.toNat) : NumAt l (j + 1) (n + c.toNat % 128 * 128 ^ j) := by
  intro m t hl hm
  obtain ⟨m', h1, h2⟩ := h m t hl hm
  have hj := (List.getElem?_eq_some_iff.1 hc).1
  have he : l[j] = c := (List.getElem?_eq_some_iff.1 hc).2
  rw [List.drop_eq_getElem_cons hj, he] at h1
  rcases arNum_head h1 with ⟨h3, _⟩ | ⟨_, h3, h4, h5⟩
  · omega
  · refine ⟨m' / 128, h5, ?_⟩
    rw [← h2, ← h3, Nat.pow_succ]
    have h6 := Nat.div_add_mod m' 128
    have h7 : 128 ^ j * m' = 128 ^ j * (128 * (m' / 128)) + 128 ^ j * (m' % 128) := by rw [← Nat.mul_add, h6]
    rw [h7, Nat.mul_assoc, Nat.mul_comm (m' % 128)]
    omega
theorem NumAt.few {l : List UInt8} {n : Nat} (h : NumAt l 9 n) : ∀ m t, l = arNum m ++ t → ¬ m < 9223372036854775808 := by
  intro m t hl hm
  obtain ⟨m', h1, h2⟩ := h m t hl hm
  have h3 : (arNum m).length ≤ 9 := arNum_len hm
  have h4 := congrArg List.length h1
  have h5 := congrArg List.length hl
  have h6 := arNum_pos m'
  rw [List.length_drop, List.length_append] at h4
  rw [List.length_append] at h5
  omega
theorem NumAt.short {l : List UInt8} {j n : Nat} (h : NumAt l j n) (hj : l.length ≤ j) : ∀ m t, l = arNum m ++ t → ¬ m < 9223372036854775808 := by
  intro m t hl hm
  obtain ⟨m', h1, h2⟩ := h m t hl hm
  rw [List.drop_eq_nil_of_le hj] at h1
  exact arNum_nil h1
end Go.Proofs.YtjglmjdfndcmmaaGreat

set_option linter.all false
namespace Go.Proofs.YtjglmjdfndcmmaaGreat
open Go.RowKit
def RetN (B R most : Nat) (l : List UInt8) (q : Bool) (w : World) (e : Ending) (w' : World) : Prop := ∃ n l' q', e = .returned (.int .i64 ((n : Nat) : Int)) ∧ RdP B w' R l' q' ∧ GotN most l q n l' q' ∧ Chg (One R) w w'
theorem num_bad {B R most c b o : Nat} {l : List UInt8} {q : Bool} {w : World} (hR : Blk w R 86 #[.slice (some ⟨b, o, none⟩) l.length c, .bool q]) (hB : B ≤ R) (hlc : l.length ≤ c) (hc : c ≤ 9223372036854775807) (hs : SlC (Lt B) w (.slice (some ⟨b, o, none⟩) l.length c) l)
    (hno : ∀ m t, l = arNum m ++ t → ¬ m < 9223372036854775808) : RetN B R most l q w (.returned (.int .i64 0)) (w.setCell ⟨R, 1, none⟩ (.bool true)) := by
  have hC : Chg (One R) w (w.setCell ⟨R, 1, none⟩ (.bool true)) := Chg.refl.set (p := ⟨R, 1, none⟩) (.inr (show One R R from rfl)) _
  refine ⟨0, l, true, rfl, ⟨b, o, c, hR.set_ 1 _, hlc, hc, Sl.below hs RByte.kept (hC.below (Nat.le_of_lt (Nat.lt_of_le_of_lt hB hR.lt)) fun i hi e => ?_) (Nat.le_refl _)⟩, ⟨Nat.zero_le _, fun h => (by cases h), Nat.le_refl _, fun m t _ hl _ hm => absurd hm (hno m t hl)⟩, hC⟩
  unfold One at e; omega
theorem num_stored {B R most j N n' c c' b' o' : Nat} {A : Option Addr} {l : List UInt8} {q : Bool} {w : World} (hR : Blk w R 86 #[.slice A l.length c, .bool q]) (hB : B ≤ R)
    (hd : SlC (Lt B) w (.slice (some ⟨b', o', none⟩) (l.drop (j + 1)).length c') (l.drop (j + 1))) (hn' : n' = (l.drop (j + 1)).length) (hc1 : n' ≤ c') (hc2 : c' ≤ 9223372036854775807) (hw : ∀ m t, l = arNum m ++ t → m < 9223372036854775808 → N = m ∧ l.drop (j + 1) = t) :
    (N ≤ most → RetN B R most l q w (.returned (.int .i64 (N : Int))) (w.setCell ⟨R, 0, none⟩ (.slice (some ⟨b', o', none⟩) n' c'))) ∧
    (¬ N ≤ most → RetN B R most l q w (.returned (.int .i64 0)) ((w.setCell ⟨R, 0, none⟩ (.slice (some ⟨b', o', none⟩) n' c')).setCell ⟨R, 1, none⟩ (.bool true))) := by
  subst hn'
  have hC : Chg (One R) w (w.setCell ⟨R, 0, none⟩ (.slice (some ⟨b', o', none⟩) (l.drop (j + 1)).length c')) := Chg.refl.set (p := ⟨R, 0, none⟩) (.inr (show One R R from rfl)) _
  have hBw : B ≤ w.heap.size := Nat.le_of_lt (Nat.lt_of_le_of_lt hB hR.lt)
  have hne : ∀ i, i < B → ¬ One R i := fun i hi e => by unfold One at e; omega
  refine ⟨fun h => ?_, fun h => ?_⟩
  · exact ⟨N, l.drop (j + 1), q, rfl, ⟨b', o', c', hR.set_ 0 _, hc1, hc2, Sl.below hd RByte.kept (hC.below hBw hne) (Nat.le_refl _)⟩, ⟨h, id, by rw [List.length_drop]; omega, fun m t hq hl _ hm => ⟨(hw m t hl hm).1, (hw m t hl hm).2, hq⟩⟩, hC⟩
  · have hC2 := hC.set (p := ⟨R, 1, none⟩) (.inr (show One R R from rfl)) (.bool true)
    exact ⟨0, l.drop (j + 1), true, rfl, ⟨b', o', c', (hR.set_ 0 _).set_ 1 _, hc1, hc2, Sl.below hd RByte.kept (hC2.below hBw hne) (Nat.le_refl _)⟩, ⟨Nat.zero_le _, fun h => (by cases h), by rw [List.length_drop]; omega, fun m t _ hl h1 hm => absurd ((hw m t hl hm).1 ▸ h1) h⟩, hC2⟩
set_option maxHeartbeats 2000000 in
set_option maxRecDepth 100000 in
theorem rdNum_any (B R most : Nat) (l : List UInt8) (q : Bool) (w : World) (h : RdP B w R l q) (hB : B ≤ R) (hm : most < 9223372036854775808) :
    Calls Tryz.prog 41 #[.pointer (some ⟨R, 0, none⟩), .int .i64 (most : Int)] w (RetN B R most l q w) := by
  obtain ⟨b, o, c, hR, hlc, hc, hs⟩ := h
  obtain ⟨c0, c1⟩ := hR.c2
  have fz0 := hR.frozen 0
  have fz1 := hR.frozen 1
  have HR := Lib.hid hR
  have HS := Lib.hid hs
  clear hR hs
  go_enter Tryz.func41, Tryz.ntmps41
  go_wp2_with fail
  go_loop [5, 6, 7, 8, 14] (fun nv sv iv cv xv => ∃ j n s : Nat, xv = .int .i64 (j : Int) ∧ nv = .int .i64 (n : Int) ∧ sv = .int .i64 (s : Int) ∧ j ≤ l.length ∧ j ≤ 8 ∧ s = 7 * j ∧ n < 128 ^ j ∧ Hid (NumAt l j n)) (fun _ _ _ _ xv => l.length - (intOf xv).toNat)
  case atStart => exact ⟨0, 0, 0, rfl, rfl, rfl, Nat.zero_le _, by omega, rfl, by simp, Lib.hid (NumAt.start l)⟩
  case round =>
    obtain ⟨j, n, s, rfl, rfl, rfl, hj, hj8, hs7, hn, HN⟩ := hrel
    by_cases hlt : j < l.length
    · obtain ⟨b', o', x, hA', hD, hx, hcx⟩ := SlC.at_ HS.out hlt
      injection hA' with hA'
      injection hA' with e1 e2 _
      subst e1 e2
      have hxb := UInt8.toNat_lt x
      have h56 : s ≤ 56 := by omega
      obtain ⟨p, hp⟩ : ∃ p, 2 ^ s = p := ⟨_, rfl⟩
      have hp1 : 128 ^ j = p := by rw [pow128 j, ← hs7]; exact hp
      have hpl : p ≤ 72057594037927936 := by rw [← hp1]; exact pow128_le hj8
      have hpi : (2 : Int) ^ s = (p : Int) := by rw [← hp]; simp
      have hmul : x.toNat % 128 * p ≤ 127 * 72057594037927936 := Nat.mul_le_mul (by omega) hpl
      have hov : n ||| x.toNat % 128 * p = n + x.toNat % 128 * p := by rw [← hp]; exact or_high (by rw [hp, ← hp1]; exact hn)
      have hnp : n < 72057594037927936 := by rw [hp1] at hn; omega
      have hlow := low7 x
      have HZ : Hid (x.toNat % 128 * p = x.toNat % 128 * 128 ^ j) := Lib.hid (by rw [hp1])
      have hcast : ((x.toNat % 128 * p : Nat) : Int) = ((x.toNat % 128 : Nat) : Int) * (p : Int) := by simp
      have hnx : x.toNat % 128 * p + n < 128 * p := by
        have : x.toNat % 128 * p ≤ 127 * p := Nat.mul_le_mul (by omega) (Nat.le_refl _)
        rw [hp1] at hn
        omega
      have HNX : Hid (n + x.toNat % 128 * p < 128 ^ (j + 1)) := Lib.hid (by rw [Nat.pow_succ, hp1]; omega)
      have HD : Hid (x.toNat < 128 → x.toNat % 128 = x.toNat) := Lib.hid (fun h => Nat.mod_eq_of_lt h)
      generalize hz : x.toNat % 128 * p = z at *
      have hor : ∀ m : Int, m = (n : Int) → bits .or .i64 m (z : Int) = ((n + z : Nat) : Int) := fun m hm => by rw [hm, i64_orN n z (by omega) (by omega), hov]
      have hsh : ∀ m : Int, m = ((x.toNat % 128 : Nat) : Int) → wrap64 (m * 2 ^ s) = (z : Int) := fun m hm => by rw [hm, ← wrapI64, hpi, ← hcast]; exact i64wrap (by omega)
      have hd7 : x.toNat % 128 < 128 := by omega
      have hq1 : (0 : Int) ≤ (s : Int) := by omega
      have hq2 : (s : Int) ≤ 64 := by omega
      have hnz : n + z < 9223372036854775808 := by omega
      have HX := Lib.hid hx
      have HNN := Lib.hid hn
      have HS7 := Lib.hid hs7
      clear hx hn hs7 hp hp1 hpl hpi hmul hov hnp hcast hnx hz
      obtain ⟨d, hd⟩ : ∃ d, x.toNat % 128 = d := ⟨_, rfl⟩
      have HDD := Lib.hid hd
      rw [hd] at hlow hsh hd7 HZ HD
      clear hd
      by_cases hx128 : x.toNat < 128
      · have HW : Hid (∀ m t, l = arNum m ++ t → m < 9223372036854775808 → n + z = m ∧ l.drop (j + 1) = t) := Lib.hid (fun m t hl hm => by
          rw [HZ.out, HD.out hx128]
          exact HN.out.last HX.out hx128 m t hl hm)
        have hx1 : (x.toNat : Int) < 128 := by omega
        have hj1 : (j : Int) + 1 ≤ (l.length : Int) := by omega
        have hj2 : (j : Int) + 1 ≤ (c : Int) := by omega
        have hj3 : (0 : Int) ≤ (j : Int) + 1 := by omega
        have hj4 : ((j : Int) + 1).toNat = j + 1 := by omega
        clear HD HNX HZ HNN HN hx128
        rcases Nat.lt_or_ge (j + 1) c with hcj | hcj
        · have HST := Lib.hid (num_stored (most := most) (q := q) (N := n + z) (n' := l.length - (j + 1)) HR.out hB (SlC.drop HS.out rfl (by omega) hlc hc (some ⟨b, o + (j + 1), none⟩) (fun _ => rfl)) (by rw [List.length_drop]) (by omega) (by omega) HW.out)
          by_cases hbig : n + z ≤ most
          · have HS1 := Lib.hid (HST.out.1 hbig)
            have hb1 : ¬ (most : Int) < (n : Int) + (z : Int) := by omega
            have hb2 : ¬ (most : Int) < ((n + z : Nat) : Int) := by omega
            clear HST hbig
            go_wp2_with fail
            go_ret
            exact HS1.out
          · have HS1 := Lib.hid (HST.out.2 hbig)
            have hb1 : (most : Int) < (n : Int) + (z : Int) := by omega
            have hb2 : (most : Int) < ((n + z : Nat) : Int) := by omega
            clear HST hbig
            go_wp2_with fail
            go_ret
            exact HS1.out
        · have hd0 := SlC.drop HS.out rfl (i := j + 1) (by omega) hlc hc (some ⟨b, o, none⟩) (fun h => absurd h (by omega))
          rw [show c - (j + 1) = 0 by omega] at hd0
          have HST := Lib.hid (num_stored (most := most) (q := q) (N := n + z) (n' := 0) HR.out hB hd0 (by rw [List.length_drop]; omega) (Nat.le_refl _) (by omega) HW.out)
          have hjc : j + 1 = c := by omega
          clear hd0
          by_cases hbig : n + z ≤ most
          · have HS1 := Lib.hid (HST.out.1 hbig)
            have hb1 : ¬ (most : Int) < (n : Int) + (z : Int) := by omega
            have hb2 : ¬ (most : Int) < ((n + z : Nat) : Int) := by omega
            clear HST hbig
            go_wp2_with fail
            go_ret
            exact HS1.out
          · have HS1 := Lib.hid (HST.out.2 hbig)
            have hb1 : (most : Int) < (n : Int) + (z : Int) := by omega
            have hb2 : (most : Int) < ((n + z : Nat) : Int) := by omega
            clear HST hbig
            go_wp2_with fail
            go_ret
            exact HS1.out
      · by_cases hsj : 56 < s + 7
        · have z1 : (56 : Int) < (s : Int) + 7 := by omega
          have hj9 : j + 1 = 9 := by have := HS7.out; omega
          have HMO := HN.out.more HX.out (by omega)
          rw [hj9] at HMO
          have HB := Lib.hid (num_bad (most := most) HR.out hB hlc hc HS.out HMO.few)
          clear HMO hj9
          go_wp2_with fail
          go_ret
          exact HB.out
        · have z1 : ¬ (56 : Int) < (s : Int) + 7 := by omega
          have HMO := HN.out.more HX.out (by omega)
          rw [show n + x.toNat % 128 * 128 ^ j = n + z by rw [HDD.out, ← HZ.out]] at HMO
          have HM := Lib.hid HMO
          clear HMO
          go_wp2_with fail
          go_round
          case rel => exact ⟨j + 1, n + z, s + 7, by go_num, by go_num, by go_num, by omega, by have := HS7.out; omega, by have := HS7.out; omega, HNX.out, HM⟩
          case measure => simp [intOf]; omega
    · obtain rfl : j = l.length := by omega
      have HB := Lib.hid (num_bad (most := most) HR.out hB hlc hc HS.out (HN.out.short (Nat.le_refl _)))
      go_wp2_with fail
      go_ret
      exact HB.out
end Go.Proofs.YtjglmjdfndcmmaaGreat

set_option linter.all false
namespace Go.Proofs.YtjglmjdfndcmmaaGreat
open Go.RowKit
structure GotT (l : List UInt8) (q : Bool) (s : ByteArray) (l' : List UInt8) (q' : Bool) : Prop where
  size : s.size ≤ l.length
  up : q' = false → q = false
  short : l'.length ≤ l.length
  whole : ∀ s0 t, q = false → l = arText s0 ++ t → s.data.toList = s0 ∧ l' = t ∧ q' = false
def RetT (B R : Nat) (l : List UInt8) (q : Bool) (w : World) (e : Ending) (w' : World) : Prop := ∃ s l' q', e = .returned (.string s) ∧ RdP B w' R l' q' ∧ GotT l q s l' q' ∧ Chg (One R) w w'
theorem GotN.text {l l1 : List UInt8} {q q1 : Bool} {n : Nat} (h : GotN l.length l q n l1 q1) (hl : l.length < 9223372036854775808) {s0 t : List UInt8} (hq : q = false) (he : l = arText s0 ++ t) : n = s0.length ∧ l1 = s0 ++ t ∧ q1 = false := by
  have h1 : l = arNum s0.length ++ (s0 ++ t) := by rw [he]; unfold arText; rw [List.append_assoc]
  have h2 : s0.length ≤ l.length := by rw [h1]; simp only [List.length_append]; omega
  exact h.whole _ _ hq h1 h2 (by omega)
theorem RdP.bad {B R : Nat} {w : World} {l : List UInt8} {q : Bool} (h : RdP B w R l q) (hB : B ≤ R) : RdP B (w.setCell ⟨R, 1, none⟩ (.bool true)) R l true := by
  obtain ⟨b, o, c, h1, h2, h3, h4⟩ := h
  have hC : Chg (One R) w (w.setCell ⟨R, 1, none⟩ (.bool true)) := Chg.refl.set (p := ⟨R, 1, none⟩) (.inr (show One R R from rfl)) _
  exact ⟨b, o, c, h1.set_ 1 _, h2, h3, Sl.below h4 RByte.kept (hC.below (Nat.le_of_lt (Nat.lt_of_le_of_lt hB h1.lt)) fun i hi e => by unfold One at e; omega) (Nat.le_refl _)⟩
theorem RdP.skip {B R n n' c c' b o b' o' : Nat} {w : World} {l : List UInt8} {q : Bool} (h1 : Blk w R 86 #[.slice (some ⟨b, o, none⟩) l.length c, .bool q]) (h4 : SlC (Lt B) w (.slice (some ⟨b, o, none⟩) l.length c) l) (hB : B ≤ R)
    (hn : n ≤ l.length) (h2 : l.length ≤ c) (h3 : c ≤ 9223372036854775807) (hb : n < c → b' = b ∧ o' = o + n) (hn' : n' = l.length - n) (hc' : c' = c - n) :
    RdP B (w.setCell ⟨R, 0, none⟩ (.slice (some ⟨b', o', none⟩) n' c')) R (l.drop n) q := by
  subst hn' hc'
  have hC : Chg (One R) w (w.setCell ⟨R, 0, none⟩ (.slice (some ⟨b', o', none⟩) (l.length - n) (c - n))) := Chg.refl.set (p := ⟨R, 0, none⟩) (.inr (show One R R from rfl)) _
  have hd := SlC.drop h4 rfl hn h2 h3 (some ⟨b', o', none⟩) (fun h => by obtain ⟨e1, e2⟩ := hb (by omega); rw [e1, e2])
  rw [← List.length_drop] at hC ⊢
  exact ⟨b', o', c - n, h1.set_ 0 _, by rw [List.length_drop]; omega, by omega, Sl.below hd RByte.kept (hC.below (Nat.le_of_lt (Nat.lt_of_le_of_lt hB h1.lt)) fun i hi e => by unfold One at e; omega) (Nat.le_refl _)⟩
set_option maxHeartbeats 2000000 in
set_option maxRecDepth 100000 in
theorem rdText_any (B R : Nat) (l : List UInt8) (q : Bool) (w : World) (h : RdP B w R l q) (hB : B ≤ R) :
    Calls Tryz.prog 58 #[.pointer (some ⟨R, 0, none⟩)] w (RetT B R l q w) := by
  have h0 := h
  obtain ⟨b, o, c, hR, hlc, hc, hs⟩ := h
  obtain ⟨c0, c1⟩ := hR.c2
  have hl63 : l.length < 9223372036854775808 := by omega
  have HN := Lib.hid (rdNum_any B R l.length l q w h0 hB hl63)
  have HSZ := Lib.hid hR.lt
  clear hR hs h0
  go_enter Tryz.func58, Tryz.ntmps58
  go_wp2_with fail
  (with_reducible refine HN.out.mono ?_)
  rintro _ w1 ⟨n, l1, q1, rfl, hR1, hG, hC⟩
  have HR1 := Lib.hid hR1
  obtain ⟨b1, o1, k1, hK1, hlc1, hc1, hs1⟩ := hR1
  obtain ⟨d0, d1⟩ := hK1.c2
  have fz0 := hK1.frozen 0
  have fz1 := hK1.frozen 1
  have HG := Lib.hid hG
  have HC := Lib.hid hC
  have HK := Lib.hid hK1
  have HS1 := Lib.hid hs1
  have HBAD : Hid ((q1 = true ∨ l1.length < n) → RetT B R l q w (.returned (.string ⟨#[]⟩)) (w1.setCell ⟨R, 1, none⟩ (.bool true))) := Lib.hid (fun hor => by
    refine ⟨⟨#[]⟩, l1, true, rfl, HR1.out.bad hB, ⟨Nat.zero_le _, fun h => (by cases h), HG.out.short, fun s0 t hq he => ?_⟩, HC.out.set (p := ⟨R, 1, none⟩) (.inr (show One R R from rfl)) _⟩
    obtain ⟨e1, e2, e3⟩ := HG.out.text hl63 hq he
    rcases hor with h | h
    · rw [e3] at h; cases h
    · rw [e1, e2, List.length_append] at h; omega)
  clear hG hC hK1 hs1 HN c0 c1
  cases q1
  · by_cases hn : l1.length < n
    · have hni : (l1.length : Int) < (n : Int) := by omega
      have HB := Lib.hid (HBAD.out (.inr hn))
      clear hn
      go_wp2_with fail
      go_ret
      exact HB.out
    · have hni : ¬ (l1.length : Int) < (n : Int) := by omega
      have hnc : (n : Int) ≤ (k1 : Int) := by omega
      have hnl : n ≤ l1.length := by omega
      have htl : (l1.take n).length = n := by rw [List.length_take]; omega
      have hcv := run_convert_bytes_back (P := Tryz.prog) w1 22 9 5 ⟨b1, o1, none⟩ k1 (l1.take n) Tryz.underlying22 Tryz.underlying5 Tryz.underlying9 (fun j hj => by
        rw [htl] at hj
        obtain ⟨b', o', x, hA', hD, hx, hcx⟩ := SlC.at_ HS1.out (k := j) (by omega)
        injection hA' with hA'
        injection hA' with e1 e2 _
        subst e1 e2
        rw [List.getElem_take]
        rw [← (List.getElem?_eq_some_iff.1 hx).2] at hcx
        have : ((⟨b1, o1, none⟩ : Addr).add j) = ⟨b1, o1 + j, none⟩ := by unfold Addr.add; by_cases hj : j = 0 <;> simp [hj]
        rw [this]
        exact hcx)
      rw [htl] at hcv
      have HFIN : Hid (∀ b' o' n' c', (n < k1 → b' = b1 ∧ o' = o1 + n) → n' = l1.length - n → c' = k1 - n → RetT B R l q w (.returned (.string ⟨(l1.take n).toArray⟩)) (w1.setCell ⟨R, 0, none⟩ (.slice (some ⟨b', o', none⟩) n' c'))) := Lib.hid (fun b' o' n' c' hb hn' hc' => by
        refine ⟨⟨(l1.take n).toArray⟩, l1.drop n, false, rfl, RdP.skip HK.out HS1.out hB hnl hlc1 hc1 hb hn' hc', ⟨?_, fun _ => HG.out.up rfl, ?_, fun s0 t hq he => ?_⟩, HC.out.set (p := ⟨R, 0, none⟩) (.inr (show One R R from rfl)) _⟩
        · show (l1.take n).toArray.size ≤ _
          rw [List.size_toArray, htl]
          exact HG.out.le
        · rw [List.length_drop]
          have := HG.out.short
          omega
        · obtain ⟨e1, e2, e3⟩ := HG.out.text hl63 hq he
          refine ⟨?_, ?_, rfl⟩
          · show (l1.take n).toArray.toList = s0
            rw [e1, e2]; simp
          · rw [e1, e2]; simp)
      clear htl HBAD
      generalize (l1.take n).toArray = sa at *
      rcases Nat.lt_or_ge n k1 with hk | hk
      · have HF := Lib.hid (HFIN.out b1 (o1 + n) (l1.length - n) (k1 - n) (fun _ => ⟨rfl, rfl⟩) rfl rfl)
        have hk2 : (n : Int) < (k1 : Int) := by omega
        clear HFIN hk
        go_wp2_with fail
        go_ret
        exact HF.out
      · have HF := Lib.hid (HFIN.out b1 o1 0 0 (fun h => absurd h (by omega)) (by omega) (by omega))
        obtain rfl : k1 = n := by omega
        clear HFIN hk
        go_wp2_with fail
        go_ret
        exact HF.out
  · have HB := Lib.hid (HBAD.out (.inl rfl))
    go_wp2_with fail
    go_ret
    exact HB.out
end Go.Proofs.YtjglmjdfndcmmaaGreat

set_option linter.all false
namespace Go.Proofs.YtjglmjdfndcmmaaGreat
open Go.RowKit
structure GotV (l : List UInt8) (q : Bool) (v : Val) (l' : List UInt8) (q' : Bool) : Prop where
  fit : FitV v
  up : q' = false → q = false
  short : l'.length ≤ l.length
  whole : ∀ v0 t, q = false → validV v0 = true → l = arVal v0 ++ t → v = v0 ∧ l' = t ∧ q' = false
def unzig (m : Nat) : Int := if m % 2 = 1 then -((m / 2 : Nat) : Int) - 1 else ((m / 2 : Nat) : Int)
theorem unzig_zig {n : Int} (h : -4503599627370496 ≤ n ∧ n ≤ 4503599627370496) : unzig (zigZ n) = n ∧ zigZ n ≤ 9007199254740992 := by
  unfold unzig zigZ
  by_cases hn : n < 0
  · rw [if_pos hn, if_pos (by omega)]
    omega
  · rw [if_neg hn, if_neg (by omega)]
    omega
theorem bytes_none {s : ByteArray} (h : s.size = 0) : s = ⟨#[]⟩ := by
  cases s with
  | mk d =>
    have : d = #[] := Array.eq_empty_of_size_eq_zero h
    rw [this]
theorem GotN.kind {l l1 : List UInt8} {q q1 : Bool} {k : Nat} (h : GotN 3 l q k l1 q1) {v0 : Val} {t r : List UInt8} {m : Nat} (hq : q = false) (hm : m ≤ 3) (he : arVal v0 = arNum m ++ r) (hl : l = arVal v0 ++ t) : k = m ∧ l1 = r ++ t ∧ q1 = false :=
  h.whole m (r ++ t) hq (by rw [hl, he, List.append_assoc]) hm (by omega)
theorem fitI {n : Int} (h : -9223372036854775808 ≤ n ∧ n ≤ 9223372036854775807) : Fit n := h
theorem gotV1 {l l1 l2 : List UInt8} {q q1 q2 : Bool} {m most : Nat} (h1 : GotN 3 l q 1 l1 q1) (h2 : GotN most l1 q1 m l2 q2) (hm : 1 ≤ most) (hm2 : most < 9223372036854775808) : GotV l q ⟨1, m, ⟨#[]⟩⟩ l2 q2 := by
  have hle := h2.le
  refine ⟨⟨fitI (by simp), fitI (by simp; omega), Nat.zero_le _⟩, fun h => h1.up (h2.up h), Nat.le_trans h2.short h1.short, fun v0 t hq hv hl => ?_⟩
  rcases val_parts hv with ⟨hk, hn, hs⟩ | ⟨hk, -, -, -⟩ | ⟨hk, -, -, -⟩
  · obtain ⟨-, e2, e3⟩ := h1.kind hq (by omega) (arVal1 hk) hl
    obtain ⟨e4, e5, e6⟩ := h2.whole _ t e3 e2 (by omega) (by omega)
    refine ⟨?_, e5, e6⟩
    have hs0 := bytes_none hs
    cases v0 with
    | mk a b c =>
      simp only at hk hn hs0 e4
      subst hk hs0
      congr
      omega
  · have := (h1.kind hq (by omega) (arVal2 hk) hl).1; omega
  · have := (h1.kind hq (by omega) (arVal3 hk) hl).1; omega
theorem gotV2 {l l1 l2 : List UInt8} {q q1 q2 : Bool} {m most : Nat} (h1 : GotN 3 l q 2 l1 q1) (h2 : GotN most l1 q1 m l2 q2) (hm : 9007199254740992 ≤ most) (hm2 : most < 9223372036854775808) : GotV l q ⟨2, unzig m, ⟨#[]⟩⟩ l2 q2 := by
  have hle := h2.le
  refine ⟨⟨fitI (by simp), fitI (by simp only; unfold unzig; split <;> omega), Nat.zero_le _⟩, fun h => h1.up (h2.up h), Nat.le_trans h2.short h1.short, fun v0 t hq hv hl => ?_⟩
  rcases val_parts hv with ⟨hk, -, -⟩ | ⟨hk, hn1, hn2, hs⟩ | ⟨hk, -, -, -⟩
  · have := (h1.kind hq (by omega) (arVal1 hk) hl).1; omega
  · obtain ⟨-, e2, e3⟩ := h1.kind hq (by omega) (arVal2 hk) hl
    obtain ⟨z1, z2⟩ := unzig_zig ⟨hn1, hn2⟩
    obtain ⟨e4, e5, e6⟩ := h2.whole _ t e3 e2 (by omega) (by omega)
    refine ⟨?_, e5, e6⟩
    have hs0 := bytes_none hs
    cases v0 with
    | mk a b c =>
      simp only at hk z1 hs0 e4
      subst hk hs0
      rw [e4, z1]
  · have := (h1.kind hq (by omega) (arVal3 hk) hl).1; omega
theorem gotV3 {l l1 l2 : List UInt8} {q q1 q2 : Bool} {k : Nat} {s : ByteArray} (h1 : GotN 3 l q k l1 q1) (hk1 : k ≠ 1) (hk2 : k ≠ 2) (h2 : GotT l1 q1 s l2 q2) (hs : s.size ≤ maxLen) : GotV l q ⟨k, 0, s⟩ l2 q2 := by
  have hle := h1.le
  refine ⟨⟨fitI (by simp; omega), fitI (by simp), hs⟩, fun h => h1.up (h2.up h), Nat.le_trans h2.short h1.short, fun v0 t hq hv hl => ?_⟩
  rcases val_parts hv with ⟨hk, -, -⟩ | ⟨hk, -, -, -⟩ | ⟨hk, hn, -, -⟩
  · exact absurd (h1.kind hq (by omega) (arVal1 hk) hl).1 hk1
  · exact absurd (h1.kind hq (by omega) (arVal2 hk) hl).1 hk2
  · obtain ⟨e1, e2, e3⟩ := h1.kind hq (by omega) (arVal3 hk) hl
    obtain ⟨e4, e5, e6⟩ := h2.whole _ t e3 e2
    refine ⟨?_, e5, e6⟩
    cases v0 with
    | mk a b c =>
      simp only at hk hn e4
      subst hk hn
      rw [e1]
      congr
      cases s; cases c
      simp only at e4
      congr
      exact Array.ext' e4
-- WALK
theorem rdNum_z (B R most : Nat) (z : Int) (hz : z = (most : Int)) (l : List UInt8) (q : Bool) (w : World) (h : RdP B w R l q) (hB : B ≤ R) (hm : most < 9223372036854775808) :
    Calls Tryz.prog 41 #[.pointer (some ⟨R, 0, none⟩), .int .i64 z] w (RetN B R most l q w) := by
  subst hz; exact rdNum_any B R most l q w h hB hm
def RetV (B R : Nat) (l : List UInt8) (q : Bool) (w : World) (e : Ending) (w' : World) : Prop := ∃ v l' q', e = .returned (valV v) ∧ RdP B w' R l' q' ∧ GotV l q v l' q' ∧ Chg (One R) w w'
theorem RdP.now {B R : Nat} {w w' : World} {l : List UInt8} {q : Bool} (h : RdP B w R l q) (hB : B ≤ R) (hb : Below w.heap.size w w') : RdP B w' R l q := by
  have hl : R < w.heap.size := by obtain ⟨_, _, _, h, _⟩ := h; exact h.lt
  exact h.chg (S := fun _ => False) (Chg.of_below hb) (by omega) id (fun _ _ => id)
theorem RdP.lt {B R : Nat} {w : World} {l : List UInt8} {q : Bool} (h : RdP B w R l q) : R < w.heap.size := by obtain ⟨_, _, _, h, _⟩ := h; exact h.lt
theorem RdP.far {B R : Nat} {w : World} {l : List UInt8} {q : Bool} (h : RdP B w R l q) (hB : B ≤ R) {p : Addr} (hp : p.block ≠ R ∧ B ≤ p.block) (u : Value) : RdP B (w.setCell p u) R l q :=
  h.chg (S := fun i => i = p.block) (Chg.set (S := fun i => i = p.block) Chg.refl (.inr rfl) u) (by have := h.lt; omega) (fun e => hp.1 e.symm) (fun i hi e => by omega)
theorem retV_fin {B R V off : Nat} {l l' : List UInt8} {q q' : Bool} {w W : World} {a m : Int} {s : ByteArray} (u : Value) (hC : Chg (One R) w W) (hR : RdP B W R l' q') (hG : GotV l q ⟨a, m, s⟩ l' q') (hB : B ≤ R) (hRl : R < w.heap.size) (hV : w.heap.size ≤ V) :
    RetV B R l q w (.returned (.agg #[.int .i64 a, .int .i64 m, .string s])) ((((W.setCell ⟨V, off, none⟩ u).setCell ⟨w.heap.size, 0, none⟩ (.int .i64 a)).setCell ⟨w.heap.size, 1, none⟩ (.int .i64 m)).setCell ⟨w.heap.size, 2, none⟩ (.string s)) :=
  ⟨⟨a, m, s⟩, l', q', rfl, (((hR.far hB (p := ⟨V, off, none⟩) ⟨by show V ≠ R; omega, by show B ≤ V; omega⟩ u).far hB (p := ⟨w.heap.size, 0, none⟩) ⟨by show w.heap.size ≠ R; omega, by show B ≤ w.heap.size; omega⟩ _).far hB (p := ⟨w.heap.size, 1, none⟩) ⟨by show w.heap.size ≠ R; omega, by show B ≤ w.heap.size; omega⟩ _).far hB (p := ⟨w.heap.size, 2, none⟩) ⟨by show w.heap.size ≠ R; omega, by show B ≤ w.heap.size; omega⟩ _, hG,
    (((hC.set (p := ⟨V, off, none⟩) (.inl hV) u).set (p := ⟨w.heap.size, 0, none⟩) (.inl (Nat.le_refl _)) _).set (p := ⟨w.heap.size, 1, none⟩) (.inl (Nat.le_refl _)) _).set (p := ⟨w.heap.size, 2, none⟩) (.inl (Nat.le_refl _)) _⟩
set_option maxHeartbeats 2000000 in
set_option maxRecDepth 100000 in
theorem rdDat_any (B R : Nat) (l : List UInt8) (q : Bool) (w : World) (h : RdP B w R l q) (hB : B ≤ R) :
    Calls Tryz.prog 65 #[.pointer (some ⟨R, 0, none⟩)] w (RetV B R l q w) := by
  have hRl := h.lt
  have hb1 := bone w (.cells #[.int .i64 0, .int .i64 0, .string ⟨#[]⟩] 62)
  have hP := Blk.new w 62 #[.int .i64 0, .int .i64 0, .string ⟨#[]⟩]
  have HN := Lib.hid (rdNum_z B R 3 3 rfl l q _ (h.now hB hb1) hB (by omega))
  clear h
  go_enter Tryz.func65, Tryz.ntmps65
  go_wp2_with fail
  (with_reducible refine HN.out.mono ?_)
  rintro _ w1 ⟨k, l1, q1, rfl, hR1, hG1, hC1⟩
  have hne : ¬ One R w.heap.size := fun e => by unfold One at e; omega
  have hP1 := hP.chg hC1 hne
  have hpv := hP1.lt
  have hW1 : Chg (One R) w w1 := (Chg.of_below hb1).trans hC1
  have hb2 := bone w1 (.cells #[.int .i64 k, .int .i64 0, .string ⟨#[]⟩] 62)
  have hV2 := Blk.new w1 62 #[.int .i64 k, .int .i64 0, .string ⟨#[]⟩]
  have hP2 := hP1.now hb2
  have hR2 := hR1.now hB hb2
  have HG1 := Lib.hid hG1
  have hW2 := Lib.hid (hW1.trans (Chg.of_below hb2))
  obtain ⟨v0, v1, v2⟩ := hV2.c3
  clear hP hP1 hC1 hW1 hb1 HN hR1 hG1
  by_cases hk1 : k = 1
  · have z1 : ((k : Int) == 1) = true := by simp [hk1]
    have HK := Lib.hid hk1
    have HN := Lib.hid (rdNum_z B R 1 1 rfl l1 q1 _ hR2 hB (by omega))
    clear hk1
    go_wp2_with fail
    (with_reducible refine HN.out.mono ?_)
    rintro _ w3 ⟨m, l2, q2, rfl, hR3, hG3, hC3⟩
    have hV3 := hV2.chg hC3 (fun e => by unfold One at e; omega)
    have hP3 := hP2.chg hC3 hne
    obtain ⟨a0, a1, a2⟩ := hV3.c3
    obtain ⟨b0, b1, b2⟩ := hP3.c3
    have f1 := hV3.frozen 1
    have g0 := hP3.frozen 0
    have g1 := hP3.frozen 1
    have g2 := hP3.frozen 2
    have e1 : ¬ w1.heap.size = w.heap.size := by omega
    have e2 : ¬ w.heap.size = w1.heap.size := by omega
    have hk : (k : Int) = 1 := by have := HK.out; omega
    have HF := Lib.hid (retV_fin (V := w1.heap.size) (off := 1) (.int .i64 m) (hW2.out.trans hC3) hR3 (gotV1 (by rw [← HK.out]; exact HG1.out) hG3 (by omega) (by omega)) hB hRl (by omega))
    rw [← hk] at HF
    have hPf := Lib.hid ((((hP3.far (p := ⟨w1.heap.size, 1, none⟩) e2 (.int .i64 m)).set_ 0 (.int .i64 k)).set_ 1 (.int .i64 m)).set_ 2 (.string ⟨#[]⟩))
    clear hP3 hV3 hC3 hR3 hG3 hk
    go_wp2_with fail
    obtain ⟨r0, r1, r2⟩ := Blk.c3 hPf.out
    refine bodyPost_ret (v := .agg #[.int .i64 k, .int .i64 m, .string ⟨#[]⟩]) (by simp [results, Tryz.results65, go_sem, r0, r1, r2]) rfl ?_
    exact HF.out
  have zn1 : ((k : Int) == 1) = false := by simp; omega
  by_cases hk2 : k = 2
  · have z1 : ((k : Int) == 2) = true := by simp [hk2]
    have HK := Lib.hid hk2
    have HN := Lib.hid (rdNum_z B R 9007199254740992 9007199254740992 rfl l1 q1 _ hR2 hB (by omega))
    clear hk1 hk2
    go_wp2_with fail
    (with_reducible refine HN.out.mono ?_)
    rintro _ w3 ⟨m, l2, q2, rfl, hR3, hG3, hC3⟩
    have hV3 := hV2.chg hC3 (fun e => by unfold One at e; omega)
    have hP3 := hP2.chg hC3 hne
    obtain ⟨a0, a1, a2⟩ := hV3.c3
    obtain ⟨b0, b1, b2⟩ := hP3.c3
    have f1 := hV3.frozen 1
    have g0 := hP3.frozen 0
    have g1 := hP3.frozen 1
    have g2 := hP3.frozen 2
    have e1 : ¬ w1.heap.size = w.heap.size := by omega
    have e2 : ¬ w.heap.size = w1.heap.size := by omega
    have hmle := hG3.le
    by_cases hodd : m % 2 = 1
    · have o1 : ((m : Int) % 2 == 1) = true := by simp; omega
      have hk : (k : Int) = 2 := by have := HK.out; omega
      have hz : unzig m = -((m : Int) / 2) - 1 := by unfold unzig; rw [if_pos hodd]; omega
      have hgv : GotV l q ⟨(k : Int), -((m : Int) / 2) - 1, ⟨#[]⟩⟩ l2 q2 := by
        rw [hk, ← hz]
        exact gotV2 (by rw [← HK.out]; exact HG1.out) hG3 (by omega) (by omega)
      have hVs := hR3.far hB (p := ⟨w1.heap.size, 1, none⟩) ⟨by show w1.heap.size ≠ R; omega, by show B ≤ w1.heap.size; omega⟩ (.int .i64 ((m : Int) / 2))
      have hF := retV_fin (V := w1.heap.size) (off := 1) (.int .i64 (-((m : Int) / 2) - 1)) ((hW2.out.trans hC3).set (p := ⟨w1.heap.size, 1, none⟩) (.inl (by show w.heap.size ≤ w1.heap.size; omega)) (.int .i64 ((m : Int) / 2))) hVs hgv hB hRl (by omega)
      have HF := Lib.hid hF
      have hPf := Lib.hid (((((hP3.far (p := ⟨w1.heap.size, 1, none⟩) e2 (.int .i64 ((m : Int) / 2))).far (p := ⟨w1.heap.size, 1, none⟩) e2 (.int .i64 (-((m : Int) / 2) - 1))).set_ 0 (.int .i64 k)).set_ 1 (.int .i64 (-((m : Int) / 2) - 1))).set_ 2 (.string ⟨#[]⟩))
      clear hP3 hV3 hC3 hR3 hG3 hk hz hgv hVs hF hodd
      go_wp2_with fail
      obtain ⟨r0, r1, r2⟩ := Blk.c3 hPf.out
      refine bodyPost_ret (v := .agg #[.int .i64 k, .int .i64 (-((m : Int) / 2) - 1), .string ⟨#[]⟩]) (by simp [results, Tryz.results65, go_sem, r0, r1, r2]) rfl ?_
      exact HF.out
    · have o1 : ((m : Int) % 2 == 1) = false := by simp; omega
      have hk : (k : Int) = 2 := by have := HK.out; omega
      have hz : unzig m = (m : Int) / 2 := by unfold unzig; rw [if_neg hodd]; omega
      have hgv : GotV l q ⟨(k : Int), (m : Int) / 2, ⟨#[]⟩⟩ l2 q2 := by
        rw [hk, ← hz]
        exact gotV2 (by rw [← HK.out]; exact HG1.out) hG3 (by omega) (by omega)
      have hF := retV_fin (V := w1.heap.size) (off := 1) (.int .i64 ((m : Int) / 2)) (hW2.out.trans hC3) hR3 hgv hB hRl (by omega)
      have HF := Lib.hid hF
      have hPf := Lib.hid ((((hP3.far (p := ⟨w1.heap.size, 1, none⟩) e2 (.int .i64 ((m : Int) / 2))).set_ 0 (.int .i64 k)).set_ 1 (.int .i64 ((m : Int) / 2))).set_ 2 (.string ⟨#[]⟩))
      clear hP3 hV3 hC3 hR3 hG3 hk hz hgv hF hodd
      go_wp2_with fail
      obtain ⟨r0, r1, r2⟩ := Blk.c3 hPf.out
      refine bodyPost_ret (v := .agg #[.int .i64 k, .int .i64 ((m : Int) / 2), .string ⟨#[]⟩]) (by simp [results, Tryz.results65, go_sem, r0, r1, r2]) rfl ?_
      exact HF.out
  · have zn2 : ((k : Int) == 2) = false := by simp; omega
    have HT := Lib.hid (rdText_any B R l1 q1 _ hR2 hB)
    have HK1 := Lib.hid hk1
    have HK2 := Lib.hid hk2
    clear hk1 hk2
    go_wp2_with fail
    (with_reducible refine HT.out.mono ?_)
    rintro _ w3 ⟨s, l2, q2, rfl, hR3, hG3, hC3⟩
    have hV3 := hV2.chg hC3 (fun e => by unfold One at e; omega)
    have hP3 := hP2.chg hC3 hne
    obtain ⟨a0, a1, a2⟩ := hV3.c3
    obtain ⟨b0, b1, b2⟩ := hP3.c3
    have f2 := hV3.frozen 2
    have g0 := hP3.frozen 0
    have g1 := hP3.frozen 1
    have g2 := hP3.frozen 2
    have e1 : ¬ w1.heap.size = w.heap.size := by omega
    have e2 : ¬ w.heap.size = w1.heap.size := by omega
    have hs : s.size ≤ maxLen := by
      have h1 := hG3.size
      obtain ⟨_, _, _, _, h2, h3, _⟩ := hR2
      unfold maxLen; omega
    have HF := Lib.hid (retV_fin (V := w1.heap.size) (off := 2) (.string s) (hW2.out.trans hC3) hR3 (gotV3 HG1.out HK1.out HK2.out hG3 hs) hB hRl (by omega))
    have hPf := Lib.hid ((((hP3.far (p := ⟨w1.heap.size, 2, none⟩) e2 (.string s)).set_ 0 (.int .i64 k)).set_ 1 (.int .i64 0)).set_ 2 (.string s))
    clear hP3 hV3 hC3 hR3 hG3 hs
    go_wp2_with fail
    obtain ⟨r0, r1, r2⟩ := Blk.c3 hPf.out
    refine bodyPost_ret (v := .agg #[.int .i64 k, .int .i64 0, .string s]) (by simp [results, Tryz.results65, go_sem, r0, r1, r2]) rfl ?_
    exact HF.out
end Go.Proofs.YtjglmjdfndcmmaaGreat
