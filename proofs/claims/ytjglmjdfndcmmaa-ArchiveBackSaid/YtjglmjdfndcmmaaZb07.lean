/- Texts of this seat, merged. -/
import Derived.Laws.MakeOwn
import Derived.Test.YtjglmjdfndcmmaaZb01
import Derived.Test.YtjglmjdfndcmmaaZb02
import Derived.Test.YtjglmjdfndcmmaaZb03
import Derived.Test.YtjglmjdfndcmmaaZb04
import Derived.Test.YtjglmjdfndcmmaaZb05
import Derived.Test.YtjglmjdfndcmmaaZb06
set_option linter.all false
set_option linter.all false
namespace Go.Proofs.Ytjglmjdfndcmmaa
open Go.RowKit
theorem le4_len (s : Nat) : (le4 s).length = 4 := rfl
theorem le4_sl {w : World} {s g : Nat} (h : s < 4294967296) (hB : Blk w g 5 #[.int .u8 ((s : Int) % 256), .int .u8 ((s : Int) / 256 % 256), .int .u8 ((s : Int) / 65536 % 256), .int .u8 ((s : Int) / 16777216)]) :
    SlC (Lt w.heap.size) w (.slice (some ⟨g, 0, none⟩) 4 4) (le4 s) := by
  have hB2 : Blk w g 5 (flat cellC (le4 s)).toArray := by rw [← le4_cells h]; exact hB
  refine Sl.ofBlk (xs := le4 s) (cs := flat cellC (le4 s)) hB2 (by unfold maxLen; rw [le4_len]; omega) fun i x hx => ⟨[.int .u8 (x.toNat : Int)], rfl, fun j u hu => ?_, rfl⟩
  match j, hu with
  | 0, hu =>
    injection hu with hu; subst hu
    rw [flatC, List.getElem?_map]
    simp [hx]
  | j + 1, hu => simp at hu
def noLog : Value := .agg #[.slice none 0 0]
set_option maxHeartbeats 2000000 in
set_option maxRecDepth 100000 in
theorem open_bad (u : Value) (l : List UInt8) (w : World) (h : SlC (Lt w.heap.size) w u l) (h4 : 4 ≤ l.length) (hm : l.length ≤ 262144) (hne : l.drop (l.length - 4) ≠ le4 (sumOf (l.take (l.length - 4)))) :
    Calls Try.prog 14 #[u] w fun e w' => e = .returned (.tuple #[noLog, .int .i64 14]) ∧ Below w.heap.size w w' := by
  obtain ⟨A, c, rfl, h1, h2, hs⟩ := h.open_
  obtain ⟨b, o, _, rfl, _, _, _⟩ := SlC.at_ hs (k := 0) (by omega)
  obtain ⟨n, hn⟩ : ∃ n, l.length = n + 4 := ⟨l.length - 4, by omega⟩
  have hn4 : l.length - 4 = n := by omega
  rw [hn4] at hne
  rw [hn] at hs h1 hm ⊢
  have hs1 : SlC (Lt w.heap.size) w (.slice (some ⟨b, o, none⟩) n c) (l.take n) := by
    have := Sl.sub hs 0 n c (by omega) (by omega) (by unfold maxLen; exact h2)
    rw [Nat.zero_mul, Nat.add_zero, List.drop_zero] at this
    exact this
  have hs2 : SlC (Lt w.heap.size) w (.slice (some ⟨b, o + n, none⟩) 4 (c - n)) (l.drop n) := by
    have := Sl.sub hs n 4 (c - n) (by omega) (by omega) (by unfold maxLen; omega)
    rw [Nat.mul_one, List.take_of_length_le (by rw [List.length_drop]; omega)] at this
    exact this
  have hb1 := bone w (.cells #[.slice none 0 0] 24)
  have hB1 := Blk.new w 24 #[.slice none 0 0]
  have HS1 := Lib.hid (hs1.now hb1)
  have HS2 := Lib.hid (hs2.now hb1)
  have HSM := Lib.hid (sum_any _ _ _ HS1.out)
  have hsl := sumOf_lt (l.take n)
  generalize sumOf (l.take n) = s at *
  have HNE : Hid (decide (l.drop n = le4 s) = false) := by show _ = _; simp [hne]
  have hnn : (0 : Int) ≤ (n : Int) := by omega
  have hbi : ¬ (262144 : Int) < (n : Int) + 4 := by omega
  have hnb : (n : Int) ≤ 262140 := by omega
  clear hm hn
  clear hs hs1 hs2 h hne hn4
  go_enter Try.func14, Try.ntmps14
  go_wp2_with fail
  (with_reducible refine HSM.out.mono ?_)
  rintro e w1 ⟨rfl, rfl⟩
  go_wp2_with fail
  have hB2 := Blk.new (w.alloc (.cells #[.slice none 0 0] 24)) 5 #[.int .u8 ((s : Int) % 256), .int .u8 ((s : Int) / 256 % 256), .int .u8 ((s : Int) / 65536 % 256), .int .u8 ((s : Int) / 16777216)]
  have hb2 := bone (w.alloc (.cells #[.slice none 0 0] 24)) (.cells #[.int .u8 ((s : Int) % 256), .int .u8 ((s : Int) / 256 % 256), .int .u8 ((s : Int) / 65536 % 256), .int .u8 ((s : Int) / 16777216)] 5)
  have hsl2 := le4_sl hsl hB2
  simp only [World.size_alloc] at hsl2
  have hE := equal_any _ _ _ _ _ (HS2.out.now hb2) hsl2
  rw [HNE.out] at hE
  have HE := Lib.hid hE
  have hB3 := hB1.now hb2
  have hc3 := hB3.c1
  have hf3 := hB3.frozen 0
  have hb12 := hb1.trans (hb2.mono hb1.size)
  clear hE hsl2 hB2
  (with_reducible refine HE.out.mono ?_)
  rintro e w3 ⟨rfl, rfl⟩
  go_wp2_with fail
  refine bodyPost_ret (v := .tuple #[.agg #[.slice none 0 0], .int .i64 14]) (by simp [results, Try.results14, go_sem, hc3]) rfl ?_
  exact ⟨rfl, hb12⟩
end Go.Proofs.Ytjglmjdfndcmmaa

set_option linter.all false
namespace Go.Proofs.Ytjglmjdfndcmmaa
open Go.RowKit
def b5 : List UInt8 := [0, 141, 239, 2, 210]
theorem b5_sum : le4 (sumOf [0]) = [141, 239, 2, 210] := by decide
theorem b5_pack : arPack [] = b5 := by
  have h : arBody [] = [0] := by
    unfold arBody
    rw [show ([] : List Ev).length = 0 from rfl, arNum_one (by omega)]
    rfl
  unfold arPack
  rw [h, b5_sum]
  rfl
theorem b5_valid : logB [] = true := by decide
set_option maxHeartbeats 1000000 in
set_option maxRecDepth 100000 in
theorem number_zero (rb b o : Nat) (w : World) (hB : Blk w rb 75 #[.slice (some ⟨b, o, none⟩) 1 5, .bool false]) (hc : w.cell? ⟨b, o, none⟩ = some (.int .u8 0)) :
    Calls Try.prog 37 #[.pointer (some ⟨rb, 0, none⟩), .int .i64 2000] w fun e w' => e = .returned (.int .i64 0) ∧ Blk w' rb 75 #[.slice (some ⟨b, o + 1, none⟩) 0 4, .bool false] ∧ w.grownBy w' (some rb) := by
  obtain ⟨q0, q1⟩ := hB.c2
  have hf0 := hB.frozen 0
  have e1 : bits .and .u8 (0 : Int) 127 = 0 := by decide
  have e2 : bits .or .i64 (0 : Int) 0 = 0 := by decide
  have e3 : wrap64 0 = 0 := w64 (by omega)
  go_enter Try.func37, Try.ntmps37
  go_wp2_with fail
  go_loopw [5, 6, 14] (fun nv sv iv wr => nv = .int .i64 0 ∧ sv = .int .i64 0 ∧ iv = .int .i64 0 ∧ w = wr) (fun _ _ _ _ => 0)
  case atStart => exact ⟨rfl, rfl, rfl, rfl⟩
  case round =>
    obtain ⟨rfl, rfl, rfl, rfl⟩ := hrel
    go_wp2_with fail
    go_ret
    exact ⟨rfl, hB.set_ 0 _, ⟨rfl, rfl, rfl, by simp, fun i _ hne => Below.heap_setCell w ⟨rb, 0, none⟩ _ i (fun e => hne (by rw [e]))⟩⟩
theorem slC_blk {w : World} {g : Nat} {cs : Array Value} (h : Blk w g 5 cs) (l : List UInt8) (hl : cs = (flat cellC l).toArray) (hm : l.length ≤ maxLen) : SlC (Lt w.heap.size) w (.slice (some ⟨g, 0, none⟩) l.length l.length) l := by
  subst hl
  refine Sl.ofBlk (xs := l) (cs := flat cellC l) h hm fun i x hx => ⟨[.int .u8 (x.toNat : Int)], rfl, fun j u hu => ?_, rfl⟩
  match j, hu with
  | 0, hu =>
    injection hu with hu; subst hu
    rw [flatC, List.getElem?_map]
    simp [hx]
  | j + 1, hu => simp at hu
theorem below_of_grown' {w b : World} {o : Obj} (h : Below w.heap.size w (w.alloc o)) (g : (w.alloc o).grownBy b (some w.heap.size)) : Below w.heap.size w b :=
  ⟨g.os.trans h.os, g.tape.trans h.tape, g.output.trans h.output, Nat.le_trans h.size g.size, fun i hi => (g.block i (Nat.lt_of_lt_of_le hi h.size) (fun e => by injection e; omega)).trans (h.block i hi)⟩
theorem evInfo : (Try.prog.info? 57).map (fun i => (i.zero, i.size, i.bytes)) = some (some (.agg #[.string ⟨#[]⟩, .string ⟨#[]⟩, .string ⟨#[]⟩, .int .i64 0, .int .i64 0, .slice none 0 0]), 6, 88) := by kernel_rfl
theorem make_none : ∃ mc : Array Value, ∀ w, (Instr.makeSlice 22 (.int .i64 0) (.int .i64 0)).run Try.prog w = .ok (.slice (some ⟨w.heap.size, 0, none⟩) 0 0) (w.alloc (.cells mc 57)) := by
  obtain ⟨i, hi, hz, hs, hb⟩ := info_parts evInfo
  exact ⟨_, fun w => run_make w 22 57 i _ Try.underlying22 hi hz .i64 .i64 0 0 (by omega) (by omega) (by omega) (by omega)⟩
set_option maxHeartbeats 2000000 in
set_option maxRecDepth 100000 in
theorem open5 (b : Nat) (w : World) (hB : Blk w b 5 #[.int .u8 0, .int .u8 141, .int .u8 239, .int .u8 2, .int .u8 210]) :
    Calls Try.prog 14 #[.slice (some ⟨b, 0, none⟩) 5 5] w fun e w' => ∃ A c, e = .returned (.tuple #[.agg #[.slice A 0 c], .int .i64 0]) ∧ Below w.heap.size w w' := by
  have hs : SlC (Lt w.heap.size) w (.slice (some ⟨b, 0, none⟩) 5 5) b5 := slC_blk hB b5 rfl (by decide)
  have hs1 : SlC (Lt w.heap.size) w (.slice (some ⟨b, 0, none⟩) 1 5) [0] := by
    have := Sl.sub hs 0 1 5 (by omega) (by omega) (by decide)
    exact this
  have hs2 : SlC (Lt w.heap.size) w (.slice (some ⟨b, 1, none⟩) 4 4) [141, 239, 2, 210] := by
    have := Sl.sub hs 1 4 4 (by omega) (by omega) (by decide)
    exact this
  have hb1 := bone w (.cells #[.slice none 0 0] 24)
  have hB1 := Blk.new w 24 #[.slice none 0 0]
  have HS := Lib.hid (hs.now hb1)
  have HS2 := Lib.hid (hs2.now hb1)
  have hsm := sum_any _ _ _ (hs1.now hb1)
  rw [show ((sumOf [0] : Nat) : Int) = 3523407757 by decide] at hsm
  have HSM := Lib.hid hsm
  have HBB := Lib.hid (hB.now hb1)
  clear hs hs1 hs2 hsm hB
  go_enter Try.func14, Try.ntmps14
  go_wp2_with fail
  (with_reducible refine HSM.out.mono ?_)
  rintro e w1 ⟨rfl, rfl⟩
  go_wp2_with fail
  have hb2 := bone (w.alloc (.cells #[.slice none 0 0] 24)) (.cells #[.int .u8 141, .int .u8 239, .int .u8 2, .int .u8 210] 5)
  have hs4 := slC_blk (Blk.new (w.alloc (.cells #[.slice none 0 0] 24)) 5 #[.int .u8 141, .int .u8 239, .int .u8 2, .int .u8 210]) [141, 239, 2, 210] rfl (by decide)
  rw [show ([141, 239, 2, 210] : List UInt8).length = 4 from rfl] at hs4
  simp only [World.size_alloc] at hs4
  have hE := equal_any _ _ _ _ _ (HS2.out.now hb2) hs4
  rw [decide_eq_true rfl] at hE
  have HE := Lib.hid hE
  have hB2 := hB1.now hb2
  have HBB2 := Lib.hid (HBB.out.now hb2)
  have HSW := Lib.hid (HS.out.now hb2)
  have hb12 := hb1.trans (hb2.mono hb1.size)
  clear hE hs4 HS2 hB1 hb1 HBB HS
  (with_reducible refine HE.out.mono ?_)
  rintro e w3 ⟨rfl, rfl⟩
  obtain ⟨w2, hw2⟩ : ∃ w2, (w.alloc (.cells #[.slice none 0 0] 24)).alloc (.cells #[.int .u8 141, .int .u8 239, .int .u8 2, .int .u8 210] 5) = w2 := ⟨_, rfl⟩
  rw [hw2] at hb12 hB2 HBB2 HSW ⊢
  clear hw2 HE hb2
  have hb3 := bone w2 (.cells #[.slice (some ⟨b, 0, none⟩) 1 5, .bool false] 75)
  have HN := Lib.hid (number_zero w2.heap.size b 0 _ (Blk.new w2 75 #[.slice (some ⟨b, 0, none⟩) 1 5, .bool false]) ((HBB2.out.now hb3).cell 0))
  go_wp2_with fail
  (with_reducible refine HN.out.mono ?_)
  rintro e w4 ⟨rfl, hR4, hg4⟩
  obtain ⟨mc, hmk⟩ := make_none
  have hmk4 := hmk w4
  have hb24 : Below w2.heap.size w2 w4 := below_of_grown' hb3 hg4
  have hb04 := hb12.trans (hb24.mono hb12.size)
  have hb5 := bone w4 (.cells mc 57)
  have hb6 := bbox hb5 (.cells #[.agg #[.slice (some ⟨w4.heap.size, 0, none⟩) 0 0]] 24)
  clear HN hb3 hg4
  go_wp2_with fail
  have hL6 := Blk.new (w4.alloc (.cells mc 57)) 24 #[.slice (some ⟨w4.heap.size, 0, none⟩) 0 0]
  rw [World.size_alloc] at hL6
  have hb46 := bbox hb5 (.cells #[.slice (some ⟨w4.heap.size, 0, none⟩) 0 0] 24)
  have hR6 := hR4.now hb46
  have hB6 := (hB2.now hb24).now hb46
  have hSB6 := (HSW.out.now hb24).now hb46
  have hb06 := hb04.trans (hb46.mono hb04.size)
  obtain ⟨w6, hw6⟩ : ∃ w6, (w4.alloc (.cells mc 57)).alloc (.cells #[.slice (some ⟨w4.heap.size, 0, none⟩) 0 0] 24) = w6 := ⟨_, rfl⟩
  rw [hw6] at hL6 hR6 hB6 hSB6 hb06 ⊢
  have hlog : IsLog (Lt w6.heap.size) w6 (.agg #[.slice (some ⟨w4.heap.size, 0, none⟩) 0 0]) [] := ⟨_, rfl, ⟨some ⟨w4.heap.size, 0, none⟩, 0, rfl, Nat.le_refl _, Nat.zero_le _, fun i x hx => by simp at hx⟩⟩
  have hlv := logValid_any [] _ w6 hlog
  rw [b5_valid] at hlv
  have HLV := Lib.hid hlv
  have HLG := Lib.hid hlog
  have hc0 := hL6.c1
  obtain ⟨q0, q1⟩ := hR6.c2
  clear hw6 hmk4 hmk hb5 hb6 hb46 hb24 hb04 hR4 hB2 HBB2 hlv hlog HSM
  go_loopw [8] (fun iv wr => iv = .int .i64 0 ∧ w6 = wr) (fun _ _ => 0)
  case atStart => exact ⟨rfl, rfl⟩
  case round =>
    obtain ⟨rfl, rfl⟩ := hrel
    go_wp2_with fail
    (with_reducible refine HLV.out.mono ?_)
    rintro e w7 ⟨rfl, hb7⟩
    have hc7 := (hL6.now hb7).c1
    have HPK := Lib.hid (pack_any [] (.agg #[.slice (some ⟨w4.heap.size, 0, none⟩) 0 0]) w7 (HLG.out.now hb7) b5_valid)
    go_wp2_with fail
    (with_reducible refine HPK.out.mono ?_)
    rintro e w8 ⟨v8, rfl, hO8, hb8⟩
    rw [b5_pack] at hO8
    have hE := equal_any _ _ _ _ w8 hO8.slC ((hSB6.now hb7).now hb8)
    rw [decide_eq_true rfl] at hE
    have HE := Lib.hid hE
    have hL8 := (hL6.now hb7).now hb8
    have hB8 := (hB6.now hb7).now hb8
    have hc8 := hL8.c1
    have hd8 := hB8.c1
    have hf8 := hB8.frozen 0
    have hb08 := (hb06.trans (hb7.mono hb06.size)).trans (hb8.mono (hb06.trans (hb7.mono hb06.size)).size)
    clear hE hO8
    go_wp2_with fail
    (with_reducible refine HE.out.mono ?_)
    rintro e w9 ⟨rfl, rfl⟩
    have hd9 := (hB8.set_ 0 (.slice (some ⟨w4.heap.size, 0, none⟩) 0 0)).c1
    go_wp2_with fail
    refine bodyPost_ret (v := .tuple #[.agg #[.slice (some ⟨w4.heap.size, 0, none⟩) 0 0], .int .i64 0]) (by simp [results, Try.results14, go_sem, hd9]) rfl ?_
    exact ⟨_, _, rfl, hb08.setCell (p := ⟨w.heap.size, 0, none⟩) (Nat.le_refl _) _⟩
end Go.Proofs.Ytjglmjdfndcmmaa
