/- casebookref16.Number, Text, Value. -/
import Derived.Test.YtjglmjdfndcmmaaArNum
import Derived.Test.YtjglmjdfndcmmaaGrowV
set_option linter.all false
namespace Go.Proofs.Ytjglmjdfndcmmaa
open Go.RowKit

theorem num_high' (m : Nat) : (m : Int) % 128 + 128 = ((UInt8.ofNat (m % 128 + 128)).toNat : Int) := by
  rw [UInt8.toNat_ofNat']; omega
set_option maxHeartbeats 1000000 in
set_option maxRecDepth 100000 in
theorem numR (n base : Nat) (v : Value) (l : List UInt8) (w : World) (hn : n < 9223372036854775808) (hown : OwnC w base v l) (hb : base ≤ w.heap.size) (hl : l.length + (arNum n).length ≤ 9000000) :
    Calls Try.prog 33 #[v, .int .i64 (n : Int)] w (RetAdd base w v (l ++ arNum n)) := by
  have HH := Lib.hid (Adds.refl hown)
  clear hown
  go_enter Try.func33, Try.ntmps33
  go_wp2_with fail
  go_loopw [0, 1] (fun sv nv wr => ∃ (m : Nat) (d : List UInt8), nv = .int .i64 (m : Int) ∧ m ≤ n ∧ arNum n = d ++ arNum m ∧ Adds base w v (l ++ d) wr sv) (fun _ nv _ => (intOf nv).toNat)
  case atStart => exact ⟨n, [], rfl, Nat.le_refl _, rfl, by simpa using HH.out⟩
  case round =>
    obtain ⟨m, d, rfl, hm, he, ha⟩ := hrel
    have HE := Lib.hid he
    have hp := arNum_pos m
    rw [he, List.length_append] at hl
    have hown := ha.own
    have hsz := ha.grown.size
    have hlen : (l ++ d).length < 10000000 := by rw [List.length_append]; omega
    have HA := Lib.hid ha
    clear he ha hl hp
    by_cases h : m < 128
    · have HZ := Lib.hid (num_low h)
      have HX := Lib.hid (arNum_one h)
      go_wp2_with (at_builtin; refine wpList_pushC rfl (.tmp 16) (.tmp 19) rfl (UInt8.ofNat m) _ HZ.out rfl hown rfl hlen (by omega) ?_; intro v' w' hA)
      go_ret
      refine ⟨_, rfl, ?_⟩
      have := HA.out.trans hA
      rw [List.append_assoc] at this
      rw [HE.out, HX.out]
      exact this
    · have HZ := Lib.hid (num_high' m)
      have HX := Lib.hid (arNum_more h)
      go_wp2_with (at_builtin; refine wpList_pushC rfl (.tmp 7) (.tmp 12) rfl (UInt8.ofNat (m % 128 + 128)) _ HZ.out rfl hown rfl hlen (by omega) ?_; intro v' w' hA)
      go_roundw
      case rel =>
        refine ⟨m / 128, d ++ [UInt8.ofNat (m % 128 + 128)], by go_num, by omega, ?_, ?_⟩
        · rw [HE.out, HX.out]; simp
        · rw [← List.append_assoc]
          exact HA.out.trans hA
      case measure => simp [intOf]; omega

set_option maxHeartbeats 1000000 in
set_option maxRecDepth 100000 in
theorem textR (s : ByteArray) (base : Nat) (v : Value) (l : List UInt8) (w : World) (hs : s.size < 1000000) (hown : OwnC w base v l) (hb : base ≤ w.heap.size) (hl : l.length + (arText s.data.toList).length ≤ 9000000) :
    Calls Try.prog 57 #[v, .string s] w (RetAdd base w v (l ++ arText s.data.toList)) := by
  have hz := size_eq s
  have hX : arText s.data.toList = arNum s.size ++ s.data.toList := by unfold arText; rw [hz]
  have hle : (arText s.data.toList).length = (arNum s.size).length + s.size := by rw [hX, List.length_append, hz]
  rw [hle] at hl
  have HC := Lib.hid (numR s.size base v l w (by omega) hown hb (by omega))
  have HX := Lib.hid hX
  have hll : (l ++ arNum s.size).length + s.size ≤ 9000000 := by rw [List.length_append]; omega
  have HZ := Lib.hid hz
  clear hX hle hown hl hz
  go_enter Try.func57, Try.ntmps57
  go_wp2_with fail
  (with_reducible refine HC.out.mono ?_)
  rintro e w1 ⟨v1, rfl, hA⟩
  have HA := Lib.hid hA
  have hsz := hA.grown.size
  clear hA
  go_wp2_with fail
  go_loopw [0, 5] (fun sv iv wr => ∃ i : Nat, iv = .int .i64 (i : Int) ∧ i ≤ s.size ∧ Hid (Adds base w v ((l ++ arNum s.size) ++ s.data.toList.take i) wr sv)) (fun _ iv _ => s.size - (intOf iv).toNat)
  case atStart => exact ⟨0, rfl, Nat.zero_le _, Lib.hid (by simpa using HA.out)⟩
  case round =>
    obtain ⟨i, rfl, hi, ha⟩ := hrel
    have hsz2 := ha.out.grown.size
    by_cases hlt : i < s.size
    · have hown := ha.out.own
      have hlen : ((l ++ arNum s.size) ++ s.data.toList.take i).length < 10000000 := by
        rw [List.length_append, List.length_take]; omega
      have hget : s.data.toList[i]? = some (s.data[i]'(by have := HZ.out; simpa using hlt)) := by simp
      go_wp2_with (at_builtin; refine wpList_pushC rfl (.tmp 16) (.tmp 20) rfl (s.data[i]'(by have := HZ.out; simpa using hlt)) _ rfl rfl hown rfl hlen (by omega) ?_; intro v' w' hA)
      go_roundw
      case rel =>
        refine ⟨i + 1, by go_num, by omega, Lib.hid ?_⟩
        have := ha.out.trans hA
        rw [List.append_assoc] at this
        rw [List.take_add_one, hget]
        exact this
      case measure => simp [intOf]; omega
    · obtain rfl : i = s.size := by omega
      go_wp2_with fail
      go_ret
      refine ⟨_, rfl, ?_⟩
      rw [HX.out, ← List.append_assoc]
      have := ha.out
      rw [← HZ.out, List.take_length] at this
      rw [HZ.out] at this
      exact this
set_option maxHeartbeats 1000000 in
set_option maxRecDepth 100000 in
theorem valueR (x : Val) (base : Nat) (v : Value) (l : List UInt8) (w : World) (hv : validV x = true) (hown : OwnC w base v l) (hb : base ≤ w.heap.size) (hl : l.length + (arVal x).length ≤ 9000000) :
    Calls Try.prog 61 #[v, valV x] w (RetAdd base w v (l ++ arVal x)) := by
  have hN : ∀ c : Array Value, OwnC (w.alloc (.cells c 62)) base v l := fun c => hown.now (bone w _)
  unfold valV
  rcases val_parts hv with ⟨hk, hn, -⟩ | ⟨hk, h1, h2, -⟩ | ⟨hk, -, hs, -⟩
  · have hX := arVal1 hk
    rw [hX, List.length_append] at hl
    have HX := Lib.hid hX
    clear hX
    obtain ⟨m, hm⟩ : ∃ m : Nat, x.n = m := ⟨x.n.toNat, by omega⟩
    have hm2 : x.n.toNat = m := by omega
    have hm1 : m < 2 := by omega
    rw [hk, hm]
    rw [hm2] at HX hl
    have hc := numR 1 base v l _ (by omega) (hN #[.int .i64 1, .int .i64 m, .string x.s]) (by simp; omega) (by omega)
    rw [show ((1 : Nat) : Int) = 1 from rfl] at hc
    have HC := Lib.hid hc
    have hB := Blk.new w 62 #[.int .i64 1, .int .i64 m, .string x.s]
    have hc3 := hB.c3
    have H0 := Lib.hid (hN #[.int .i64 1, .int .i64 m, .string x.s])
    clear hc hN hown hk hm hm2 hn hv
    go_enter Try.func61, Try.ntmps61
    go_wp2_with fail
    (with_reducible refine HC.out.mono ?_)
    rintro e w1 ⟨v1, rfl, hA⟩
    have hB1 := hA.keep H0.out hB (by decide)
    have hc31 := hB1.c3
    have HC2 := Lib.hid (numR m base v1 (l ++ arNum 1) w1 (by omega) hA.own (by have := hA.grown.size; simp at this; omega) (by rw [List.length_append]; omega))
    clear hB hB1 hc3
    go_wp2_with fail
    (with_reducible refine HC2.out.mono ?_)
    rintro e w2 ⟨v2, rfl, hA2⟩
    go_wp2_with fail
    go_ret
    refine ⟨_, rfl, ?_⟩
    rw [HX.out, ← List.append_assoc]
    exact Adds.pre (bone w _) (hA.trans hA2)
  · have hX := arVal2 hk
    rw [hX, List.length_append] at hl
    have HX := Lib.hid hX
    clear hX
    rw [hk]
    have hc := numR 2 base v l _ (by omega) (hN #[.int .i64 2, .int .i64 x.n, .string x.s]) (by simp; omega) (by omega)
    rw [show ((2 : Nat) : Int) = 2 from rfl] at hc
    have HC := Lib.hid hc
    have hz : zigZ x.n < 9223372036854775808 := by unfold zigZ; split <;> omega
    have hB := Blk.new w 62 #[.int .i64 2, .int .i64 x.n, .string x.s]
    obtain ⟨hc1, hc2, hc3⟩ := hB.c3
    have H0 := Lib.hid (hN #[.int .i64 2, .int .i64 x.n, .string x.s])
    by_cases hneg : x.n < 0
    · have HZ : Hid ((zigZ x.n : Int) = -(2 * x.n) - 1) := by show _ = _; unfold zigZ; rw [if_pos hneg]; omega
      have w1 : IntKind.i64.wrap (2 * x.n) = 2 * x.n := i64wrap (by omega)
      have w2 : IntKind.i64.wrap (0 - 2 * x.n) = 0 - 2 * x.n := i64wrap (by omega)
      have w3 : IntKind.i64.wrap (0 - 2 * x.n - 1) = 0 - 2 * x.n - 1 := i64wrap (by omega)
      clear hc hN hown hk hv
      generalize zigZ x.n = z at *
      go_enter Try.func61, Try.ntmps61
      go_wp2_with fail
      (with_reducible refine HC.out.mono ?_)
      rintro e w1 ⟨v1, rfl, hA⟩
      have hB1 := hA.keep H0.out hB (by decide)
      obtain ⟨hc11, hc21, hc31⟩ := hB1.c3
      have HC2 := Lib.hid (numR z base v1 (l ++ arNum 2) w1 hz hA.own (by have := hA.grown.size; simp at this; omega) (by rw [List.length_append]; omega))
      rw [HZ.out] at HC2
      clear hB hB1 hc1 hc2 hc3
      go_wp2_with fail
      (with_reducible refine HC2.out.mono ?_)
      rintro e w2 ⟨v2, rfl, hA2⟩
      go_wp2_with fail
      go_ret
      refine ⟨_, rfl, ?_⟩
      rw [HX.out, ← List.append_assoc]
      exact Adds.pre (bone w _) (hA.trans hA2)
    · have HZ : Hid ((zigZ x.n : Int) = 2 * x.n) := by show _ = _; unfold zigZ; rw [if_neg hneg]; omega
      clear hc hN hown hk hv
      generalize zigZ x.n = z at *
      go_enter Try.func61, Try.ntmps61
      go_wp2_with fail
      (with_reducible refine HC.out.mono ?_)
      rintro e w1 ⟨v1, rfl, hA⟩
      have hB1 := hA.keep H0.out hB (by decide)
      obtain ⟨hc11, hc21, hc31⟩ := hB1.c3
      have HC2 := Lib.hid (numR z base v1 (l ++ arNum 2) w1 hz hA.own (by have := hA.grown.size; simp at this; omega) (by rw [List.length_append]; omega))
      rw [HZ.out] at HC2
      clear hB hB1 hc1 hc2 hc3
      go_wp2_with fail
      (with_reducible refine HC2.out.mono ?_)
      rintro e w2 ⟨v2, rfl, hA2⟩
      go_wp2_with fail
      go_ret
      refine ⟨_, rfl, ?_⟩
      rw [HX.out, ← List.append_assoc]
      exact Adds.pre (bone w _) (hA.trans hA2)
  · have hX := arVal3 hk
    rw [hX, List.length_append] at hl
    have HX := Lib.hid hX
    clear hX
    rw [hk]
    have hc := numR 3 base v l _ (by omega) (hN #[.int .i64 3, .int .i64 x.n, .string x.s]) (by simp; omega) (by omega)
    rw [show ((3 : Nat) : Int) = 3 from rfl] at hc
    have HC := Lib.hid hc
    have hB := Blk.new w 62 #[.int .i64 3, .int .i64 x.n, .string x.s]
    have hc3 := hB.c3
    have H0 := Lib.hid (hN #[.int .i64 3, .int .i64 x.n, .string x.s])
    clear hc hN hown hk hv
    go_enter Try.func61, Try.ntmps61
    go_wp2_with fail
    (with_reducible refine HC.out.mono ?_)
    rintro e w1 ⟨v1, rfl, hA⟩
    have hB1 := hA.keep H0.out hB (by decide)
    have hc31 := hB1.c3
    have HC2 := Lib.hid (textR x.s base v1 (l ++ arNum 3) w1 (by omega) hA.own (by have := hA.grown.size; simp at this; omega) (by rw [List.length_append]; omega))
    clear hB hB1 hc3
    go_wp2_with fail
    (with_reducible refine HC2.out.mono ?_)
    rintro e w2 ⟨v2, rfl, hA2⟩
    go_wp2_with fail
    go_ret
    refine ⟨_, rfl, ?_⟩
    rw [HX.out, ← List.append_assoc]
    exact Adds.pre (bone w _) (hA.trans hA2)
end Go.Proofs.Ytjglmjdfndcmmaa
