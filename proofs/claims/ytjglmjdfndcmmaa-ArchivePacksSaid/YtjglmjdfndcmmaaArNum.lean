/- archive.number, text, zigzag, datum. -/
import Derived.Test.YtjglmjdfndcmmaaTxRb
import Derived.Test.YtjglmjdfndcmmaaArEv
import Derived.Test.YtjglmjdfndcmmaaArLen
import Derived.Laws.BitsAllLaws
import Derived.Deep.QuietTactic
set_option linter.all false
namespace Go.Proofs.Ytjglmjdfndcmmaa
open Go.RowKit

def RetAdd (base : Nat) (w : World) (v : Value) (l : List UInt8) (e : Ending) (w' : World) : Prop := ∃ v', e = .returned v' ∧ Adds base w v l w' v'
theorem num_low {m : Nat} (h : m < 128) : (m : Int) = ((UInt8.ofNat m).toNat : Int) := by
  rw [UInt8.toNat_ofNat']; omega
theorem or_128 {k : Nat} (h : k < 128) : k ||| 128 = k + 128 := by
  have := Nat.two_pow_add_eq_or_of_lt (i := 7) (b := k) (by simpa using h) 1
  rw [Nat.or_comm, ← this]; omega
theorem num_high (m : Nat) : bits .or .u8 ((m : Int) % 128) 128 = ((UInt8.ofNat (m % 128 + 128)).toNat : Int) := by
  have h : m % 128 < 128 := Nat.mod_lt _ (by omega)
  have e : (m : Int) % 128 = ((m % 128 : Nat) : Int) := by omega
  have h2 := u8_or_nat (m % 128) 128 (by omega) (by omega)
  rw [or_128 h] at h2
  rw [e, UInt8.toNat_ofNat']
  refine Eq.trans h2 ?_
  omega

set_option maxHeartbeats 1000000 in
set_option maxRecDepth 100000 in
theorem arNumber_any (n base : Nat) (v : Value) (l : List UInt8) (w : World) (hn : n < 9223372036854775808) (hown : OwnC w base v l) (hb : base ≤ w.heap.size) (hl : l.length + (arNum n).length ≤ 9000000) :
    Calls Try.prog 52 #[v, .int .i64 (n : Int)] w (RetAdd base w v (l ++ arNum n)) := by
  have HH := Lib.hid (Adds.refl hown)
  clear hown
  go_enter Try.func52, Try.ntmps52
  go_wp2_with fail
  go_loopw [0, 1] (fun sv nv wr => ∃ (m : Nat) (d : List UInt8), nv = .int .i64 (m : Int) ∧ m ≤ n ∧ arNum n = d ++ arNum m ∧ Adds base w v (l ++ d) wr sv) (fun _ nv _ => (intOf nv).toNat)
  case atStart => exact ⟨n, [], rfl, Nat.le_refl _, rfl, by simpa using HH.out⟩
  case round =>
    obtain ⟨m, d, rfl, hm, he, ha⟩ := hrel
    have HE := Lib.hid he
    have hp := arNum_pos m
    rw [he, List.length_append] at hl
    have hown := ha.own
    have hsz := ha.grown.size
    have hlen : (l ++ d).length < 10000000 := by rw [List.length_append]; omega
    have HA := Lib.hid ha
    clear he ha hl hp
    by_cases h : m < 128
    · have HZ := Lib.hid (num_low h)
      have HX := Lib.hid (arNum_one h)
      go_wp2_with (at_builtin; refine wpList_pushC rfl (.tmp 16) (.tmp 19) rfl (UInt8.ofNat m) _ HZ.out rfl hown rfl hlen (by omega) ?_; intro v' w' hA)
      go_ret
      refine ⟨_, rfl, ?_⟩
      have := HA.out.trans hA
      rw [List.append_assoc] at this
      rw [HE.out, HX.out]
      exact this
    · have HZ := Lib.hid (num_high m)
      have HX := Lib.hid (arNum_more h)
      go_wp2_with (at_builtin; refine wpList_pushC rfl (.tmp 7) (.tmp 12) rfl (UInt8.ofNat (m % 128 + 128)) _ HZ.out rfl hown rfl hlen (by omega) ?_; intro v' w' hA)
      go_roundw
      case rel =>
        refine ⟨m / 128, d ++ [UInt8.ofNat (m % 128 + 128)], by go_num, by omega, ?_, ?_⟩
        · rw [HE.out, HX.out]; simp
        · rw [← List.append_assoc]
          exact HA.out.trans hA
      case measure => simp [intOf]; omega

set_option maxHeartbeats 1000000 in
set_option maxRecDepth 100000 in
theorem arText_any (s : ByteArray) (base : Nat) (v : Value) (l : List UInt8) (w : World) (hs : s.size < 1000000) (hown : OwnC w base v l) (hb : base ≤ w.heap.size) (hl : l.length + (arText s.data.toList).length ≤ 9000000) :
    Calls Try.prog 82 #[v, .string s] w (RetAdd base w v (l ++ arText s.data.toList)) := by
  have hz := size_eq s
  have hX : arText s.data.toList = arNum s.size ++ s.data.toList := by unfold arText; rw [hz]
  have hle : (arText s.data.toList).length = (arNum s.size).length + s.size := by rw [hX, List.length_append, hz]
  rw [hle] at hl
  have HC := Lib.hid (arNumber_any s.size base v l w (by omega) hown hb (by omega))
  have HX := Lib.hid hX
  have hll : (l ++ arNum s.size).length + s.size ≤ 1000000000 := by rw [List.length_append]; omega
  clear hX hle hown hl hz
  go_enter Try.func82, Try.ntmps82
  go_wp2_with fail
  (with_reducible refine HC.out.mono ?_)
  rintro e w1 ⟨v1, rfl, hA⟩
  have hown1 := hA.own
  have hsz := hA.grown.size
  go_wp2_with (at_builtin; refine wpList_appendStr rfl (.tmp 8) (.tmp 9) rfl rfl hown1 s rfl hll (by omega) ?_; intro v' w' hA2)
  go_ret
  refine ⟨_, rfl, ?_⟩
  rw [HX.out, ← List.append_assoc]
  exact hA.trans hA2
theorem zigzag_any (n : Int) (w : World) (h1 : -4503599627370496 ≤ n) (h2 : n ≤ 4503599627370496) :
    Calls Try.prog 100 #[.int .i64 n] w fun e w' => e = .returned (.int .i64 (zigZ n : Int)) ∧ w = w' := by
  by_cases h : n < 0
  · have HZ : Hid ((zigZ n : Int) = -2 * n - 1) := by show _ = _; unfold zigZ; rw [if_pos h]; omega
    go_enter Try.func100, Try.ntmps100
    go_wp2_with fail
    go_ret
    exact ⟨by rw [HZ.out]; rfl, rfl⟩
  · have HZ : Hid ((zigZ n : Int) = 2 * n) := by show _ = _; unfold zigZ; rw [if_neg h]; omega
    go_enter Try.func100, Try.ntmps100
    go_wp2_with fail
    go_ret
    exact ⟨by rw [HZ.out]; rfl, rfl⟩

theorem arVal1 {v : Val} (h : v.kind = 1) : arVal v = arNum 1 ++ arNum v.n.toNat := by unfold arVal; rw [h, if_pos rfl]; rfl
theorem arVal2 {v : Val} (h : v.kind = 2) : arVal v = arNum 2 ++ arNum (zigZ v.n) := by unfold arVal; rw [h, if_neg (by omega), if_pos rfl]; rfl
theorem arVal3 {v : Val} (h : v.kind = 3) : arVal v = arNum 3 ++ arText v.s.data.toList := by unfold arVal; rw [h, if_neg (by omega), if_neg (by omega)]; rfl
set_option maxHeartbeats 1000000 in
set_option maxRecDepth 100000 in
theorem datum_any (x : Val) (base : Nat) (v : Value) (l : List UInt8) (w : World) (hv : validV x = true) (hown : OwnC w base v l) (hb : base ≤ w.heap.size) (hl : l.length + (arVal x).length ≤ 9000000) :
    Calls Try.prog 88 #[v, valV x] w (RetAdd base w v (l ++ arVal x)) := by
  have hN : ∀ c : Array Value, OwnC (w.alloc (.cells c 62)) base v l := fun c => hown.now (bone w _)
  unfold valV
  rcases val_parts hv with ⟨hk, hn, -⟩ | ⟨hk, h1, h2, -⟩ | ⟨hk, -, hs, -⟩
  · have hX := arVal1 hk
    rw [hX, List.length_append] at hl
    have HX := Lib.hid hX
    clear hX
    obtain ⟨m, hm⟩ : ∃ m : Nat, x.n = m := ⟨x.n.toNat, by omega⟩
    have hm2 : x.n.toNat = m := by omega
    have hm1 : m < 2 := by omega
    rw [hk, hm]
    rw [hm2] at HX hl
    have hc := arNumber_any 1 base v l _ (by omega) (hN #[.int .i64 1, .int .i64 m, .string x.s]) (by simp; omega) (by omega)
    rw [show ((1 : Nat) : Int) = 1 from rfl] at hc
    have HC := Lib.hid hc
    have hB := Blk.new w 62 #[.int .i64 1, .int .i64 m, .string x.s]
    have hc3 := hB.c3
    have H0 := Lib.hid (hN #[.int .i64 1, .int .i64 m, .string x.s])
    clear hc hN hown hk hm hm2 hn hv
    go_enter Try.func88, Try.ntmps88
    go_wp2_with fail
    (with_reducible refine HC.out.mono ?_)
    rintro e w1 ⟨v1, rfl, hA⟩
    have hB1 := hA.keep H0.out hB (by decide)
    have hc31 := hB1.c3
    have HC2 := Lib.hid (arNumber_any m base v1 (l ++ arNum 1) w1 (by omega) hA.own (by have := hA.grown.size; simp at this; omega) (by rw [List.length_append]; omega))
    clear hB hB1 hc3
    go_wp2_with fail
    (with_reducible refine HC2.out.mono ?_)
    rintro e w2 ⟨v2, rfl, hA2⟩
    go_wp2_with fail
    go_ret
    refine ⟨_, rfl, ?_⟩
    rw [HX.out, ← List.append_assoc]
    exact Adds.pre (bone w _) (hA.trans hA2)
  · have hX := arVal2 hk
    rw [hX, List.length_append] at hl
    have HX := Lib.hid hX
    clear hX
    rw [hk]
    have hc := arNumber_any 2 base v l _ (by omega) (hN #[.int .i64 2, .int .i64 x.n, .string x.s]) (by simp; omega) (by omega)
    rw [show ((2 : Nat) : Int) = 2 from rfl] at hc
    have HC := Lib.hid hc
    have HZ := Lib.hid (fun W => zigzag_any x.n W h1 h2)
    have hz : zigZ x.n < 9223372036854775808 := by unfold zigZ; split <;> omega
    have hB := Blk.new w 62 #[.int .i64 2, .int .i64 x.n, .string x.s]
    have hc3 := hB.c3
    have H0 := Lib.hid (hN #[.int .i64 2, .int .i64 x.n, .string x.s])
    clear hc hN hown hk hv h1 h2
    generalize zigZ x.n = z at *
    go_enter Try.func88, Try.ntmps88
    go_wp2_with fail
    (with_reducible refine HC.out.mono ?_)
    rintro e w1 ⟨v1, rfl, hA⟩
    have hB1 := hA.keep H0.out hB (by decide)
    have hc31 := hB1.c3
    have HC2 := Lib.hid (arNumber_any z base v1 (l ++ arNum 2) w1 hz hA.own (by have := hA.grown.size; simp at this; omega) (by rw [List.length_append]; omega))
    clear hB hB1 hc3
    go_wp2_with fail
    (with_reducible refine (HZ.out _).mono ?_)
    rintro e w1' ⟨rfl, rfl⟩
    go_wp2_with fail
    (with_reducible refine HC2.out.mono ?_)
    rintro e w2 ⟨v2, rfl, hA2⟩
    go_wp2_with fail
    go_ret
    refine ⟨_, rfl, ?_⟩
    rw [HX.out, ← List.append_assoc]
    exact Adds.pre (bone w _) (hA.trans hA2)
  · have hX := arVal3 hk
    rw [hX, List.length_append] at hl
    have HX := Lib.hid hX
    clear hX
    rw [hk]
    have hc := arNumber_any 3 base v l _ (by omega) (hN #[.int .i64 3, .int .i64 x.n, .string x.s]) (by simp; omega) (by omega)
    rw [show ((3 : Nat) : Int) = 3 from rfl] at hc
    have HC := Lib.hid hc
    have hB := Blk.new w 62 #[.int .i64 3, .int .i64 x.n, .string x.s]
    have hc3 := hB.c3
    have H0 := Lib.hid (hN #[.int .i64 3, .int .i64 x.n, .string x.s])
    clear hc hN hown hk hv
    go_enter Try.func88, Try.ntmps88
    go_wp2_with fail
    (with_reducible refine HC.out.mono ?_)
    rintro e w1 ⟨v1, rfl, hA⟩
    have hB1 := hA.keep H0.out hB (by decide)
    have hc31 := hB1.c3
    have HC2 := Lib.hid (arText_any x.s base v1 (l ++ arNum 3) w1 (by omega) hA.own (by have := hA.grown.size; simp at this; omega) (by rw [List.length_append]; omega))
    clear hB hB1 hc3
    go_wp2_with fail
    (with_reducible refine HC2.out.mono ?_)
    rintro e w2 ⟨v2, rfl, hA2⟩
    go_wp2_with fail
    go_ret
    refine ⟨_, rfl, ?_⟩
    rw [HX.out, ← List.append_assoc]
    exact Adds.pre (bone w _) (hA.trans hA2)
end Go.Proofs.Ytjglmjdfndcmmaa
