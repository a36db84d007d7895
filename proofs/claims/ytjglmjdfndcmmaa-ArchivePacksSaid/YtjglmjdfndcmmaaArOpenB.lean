/- archive.Open of bytes whose sum is wrong. -/
import Derived.Test.YtjglmjdfndcmmaaArPackP
import Derived.Test.YtjglmjdfndcmmaaArEqual
set_option linter.all false
namespace Go.Proofs.Ytjglmjdfndcmmaa
open Go.RowKit

theorem le4_len (s : Nat) : (le4 s).length = 4 := rfl
theorem le4_sl {w : World} {s g : Nat} (h : s < 4294967296) (hB : Blk w g 5 #[.int .u8 ((s : Int) % 256), .int .u8 ((s : Int) / 256 % 256), .int .u8 ((s : Int) / 65536 % 256), .int .u8 ((s : Int) / 16777216)]) :
    SlC (Lt w.heap.size) w (.slice (some ⟨g, 0, none⟩) 4 4) (le4 s) := by
  have hB2 : Blk w g 5 (flat cellC (le4 s)).toArray := by rw [← le4_cells h]; exact hB
  refine Sl.ofBlk (xs := le4 s) (cs := flat cellC (le4 s)) hB2 (by unfold maxLen; rw [le4_len]; omega) fun i x hx => ⟨[.int .u8 (x.toNat : Int)], rfl, fun j u hu => ?_, rfl⟩
  match j, hu with
  | 0, hu =>
    injection hu with hu; subst hu
    rw [flatC, List.getElem?_map]
    simp [hx]
  | j + 1, hu => simp at hu
/-- The log that comes with an error: none. -/
def noLog : Value := .agg #[.slice none 0 0]
set_option maxHeartbeats 2000000 in
set_option maxRecDepth 100000 in
theorem open_bad (u : Value) (l : List UInt8) (w : World) (h : SlC (Lt w.heap.size) w u l) (h4 : 4 ≤ l.length) (hm : l.length ≤ 262144) (hne : l.drop (l.length - 4) ≠ le4 (sumOf (l.take (l.length - 4)))) :
    Calls Try.prog 14 #[u] w fun e w' => e = .returned (.tuple #[noLog, .int .i64 14]) ∧ Below w.heap.size w w' := by
  obtain ⟨A, c, rfl, h1, h2, hs⟩ := h.open_
  obtain ⟨b, o, _, rfl, _, _, _⟩ := SlC.at_ hs (k := 0) (by omega)
  obtain ⟨n, hn⟩ : ∃ n, l.length = n + 4 := ⟨l.length - 4, by omega⟩
  have hn4 : l.length - 4 = n := by omega
  rw [hn4] at hne
  rw [hn] at hs h1 hm ⊢
  have hs1 : SlC (Lt w.heap.size) w (.slice (some ⟨b, o, none⟩) n c) (l.take n) := by
    have := Sl.sub hs 0 n c (by omega) (by omega) (by unfold maxLen; exact h2)
    rw [Nat.zero_mul, Nat.add_zero, List.drop_zero] at this
    exact this
  have hs2 : SlC (Lt w.heap.size) w (.slice (some ⟨b, o + n, none⟩) 4 (c - n)) (l.drop n) := by
    have := Sl.sub hs n 4 (c - n) (by omega) (by omega) (by unfold maxLen; omega)
    rw [Nat.mul_one, List.take_of_length_le (by rw [List.length_drop]; omega)] at this
    exact this
  have hb1 := bone w (.cells #[.slice none 0 0] 24)
  have hB1 := Blk.new w 24 #[.slice none 0 0]
  have HS1 := Lib.hid (hs1.now hb1)
  have HS2 := Lib.hid (hs2.now hb1)
  have HSM := Lib.hid (sum_any _ _ _ HS1.out)
  have hsl := sumOf_lt (l.take n)
  generalize sumOf (l.take n) = s at *
  have HNE : Hid (decide (l.drop n = le4 s) = false) := by show _ = _; simp [hne]
  have hnn : (0 : Int) ≤ (n : Int) := by omega
  have hbi : ¬ (262144 : Int) < (n : Int) + 4 := by omega
  have hnb : (n : Int) ≤ 262140 := by omega
  clear hm hn
  clear hs hs1 hs2 h hne hn4
  go_enter Try.func14, Try.ntmps14
  go_wp2_with fail
  (with_reducible refine HSM.out.mono ?_)
  rintro e w1 ⟨rfl, rfl⟩
  go_wp2_with fail
  have hB2 := Blk.new (w.alloc (.cells #[.slice none 0 0] 24)) 5 #[.int .u8 ((s : Int) % 256), .int .u8 ((s : Int) / 256 % 256), .int .u8 ((s : Int) / 65536 % 256), .int .u8 ((s : Int) / 16777216)]
  have hb2 := bone (w.alloc (.cells #[.slice none 0 0] 24)) (.cells #[.int .u8 ((s : Int) % 256), .int .u8 ((s : Int) / 256 % 256), .int .u8 ((s : Int) / 65536 % 256), .int .u8 ((s : Int) / 16777216)] 5)
  have hsl2 := le4_sl hsl hB2
  simp only [World.size_alloc] at hsl2
  have hE := equal_any _ _ _ _ _ (HS2.out.now hb2) hsl2
  rw [HNE.out] at hE
  have HE := Lib.hid hE
  have hB3 := hB1.now hb2
  have hc3 := hB3.c1
  have hf3 := hB3.frozen 0
  have hb12 := hb1.trans (hb2.mono hb1.size)
  clear hE hsl2 hB2
  (with_reducible refine HE.out.mono ?_)
  rintro e w3 ⟨rfl, rfl⟩
  go_wp2_with fail
  refine bodyPost_ret (v := .tuple #[.agg #[.slice none 0 0], .int .i64 14]) (by simp [results, Try.results14, go_sem, hc3]) rfl ?_
  exact ⟨rfl, hb12⟩
end Go.Proofs.Ytjglmjdfndcmmaa
