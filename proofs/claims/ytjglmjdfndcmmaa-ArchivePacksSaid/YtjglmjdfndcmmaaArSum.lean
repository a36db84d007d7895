/- archive.Sum and the reference's. -/
import Derived.Test.YtjglmjdfndcmmaaArNum
import Derived.Test.YtjglmjdfndcmmaaArCrc
import Derived.WalkSmall
set_option linter.all false
namespace Go.Proofs.Ytjglmjdfndcmmaa
open Go.RowKit

def RByte : ElemR UInt8 := fun _ _ c cs => cs = [.int .u8 (c.toNat : Int)]
theorem RByte.kept : ElemR.Kept RByte := fun _ _ _ _ _ _ _ _ h => h
def SlC := Sl 1 RByte
section
variable {D : Nat → Prop} {w w' : World} {u : Value}
theorem SlC.now {zs : List UInt8} (h : SlC (Lt w.heap.size) w u zs) (hb : Below w.heap.size w w') : SlC (Lt w'.heap.size) w' u zs := Sl.below h RByte.kept hb hb.size
theorem SlC.below {zs : List UInt8} {B B' : Nat} (h : SlC (Lt B) w u zs) (hb : Below B w w') (hB : B ≤ B') : SlC (Lt B') w' u zs := Sl.below h RByte.kept hb hB
theorem SlC.open_ {zs : List UInt8} (h : SlC D w u zs) : ∃ A c, u = .slice A zs.length c ∧ zs.length ≤ c ∧ c ≤ 9223372036854775807 ∧ SlC D w (.slice A zs.length c) zs := Sl.open_ h
theorem SlC.at_ {zs : List UInt8} {A : Option Addr} {n c k : Nat} (h : SlC D w (.slice A n c) zs) (hk : k < n) :
    ∃ b o z, A = some ⟨b, o, none⟩ ∧ D b ∧ zs[k]? = some z ∧ w.cell? ⟨b, o + k, none⟩ = some (.int .u8 (z.toNat : Int)) := by
  obtain ⟨b, o, x, u, hA, hD, hx, hu, hc⟩ := Sl.at1 h hk
  injection hu with hu; subst hu
  exact ⟨b, o, x, hA, hD, hx, hc⟩
theorem OwnC.slC {w : World} {base : Nat} {v : Value} {l : List UInt8} (h : OwnC w base v l) : SlC (Lt w.heap.size) w v l := OwnW.sl h (fun _ => rfl) (fun _ _ _ _ => rfl)
end

theorem w64 {n : Int} (h : -9223372036854775808 ≤ n ∧ n ≤ 9223372036854775807) : wrap64 n = n := by unfold wrap64; omega
theorem take_next {α : Type} {l : List α} {k : Nat} {y : α} (hy : l[k]? = some y) : l.take (k + 1) = l.take k ++ [y] := by rw [List.take_add_one, hy]; rfl
theorem u32_xor (a b : Nat) (ha : a < 4294967296) (hb : b < 4294967296) : bits .xor .u32 (a : Int) (b : Int) = ((a ^^^ b : Nat) : Int) := u32_xor_nat a b ha hb
theorem and_one (a : Nat) : a &&& 1 = a % 2 := Nat.and_one_is_mod a
theorem u32_and1 (a : Nat) (ha : a < 4294967296) : bits .and .u32 (a : Int) 1 = ((a % 2 : Nat) : Int) := by
  have h := u32_and_nat a 1 ha (by omega)
  rw [and_one] at h
  exact h
theorem u32_xorP (a : Nat) (ha : a < 4294967296) : bits .xor .u32 (a : Int) 3988292384 = ((a ^^^ 3988292384 : Nat) : Int) := u32_xor_nat a 3988292384 ha (by omega)

set_option maxHeartbeats 2000000 in
set_option maxRecDepth 100000 in
theorem sum_any (u : Value) (l : List UInt8) (w : World) (h : SlC (Lt w.heap.size) w u l) :
    Calls Try.prog 12 #[u] w fun e w' => e = .returned (.int .i64 (sumOf l : Int)) ∧ w = w' := by
  obtain ⟨A, c, rfl, h1, h2, hs⟩ := h.open_
  have HS := Lib.hid hs
  clear h hs
  go_enter Try.func12, Try.ntmps12
  go_wp2_with fail
  go_loop [3, 9] (fun rv iv => ∃ k : Nat, k ≤ l.length ∧ iv = .int .i64 (k : Int) ∧ rv = .int .u32 (crcOf (l.take k) : Int)) (fun _ iv => l.length - (intOf iv).toNat)
  case atStart => exact ⟨0, Nat.zero_le _, rfl, rfl⟩
  case round =>
    obtain ⟨k, hk, rfl, rfl⟩ := hrel
    by_cases hlt : k < l.length
    · obtain ⟨b, o, x, rfl, hD, hx, hc⟩ := HS.out.at_ hlt
      have hT : l.take (k + 1) = l.take k ++ [x] := take_next hx
      have HT : Hid (crcOf (l.take (k + 1)) = crcN 8 (crcOf (l.take k) ^^^ x.toNat)) := by show _ = _; unfold crcOf; rw [hT, crcL_snoc]
      have hr := crcOf_lt (l.take k)
      generalize crcOf (l.take k) = r at *
      have hxl := UInt8.toNat_lt x
      have hX : bits .xor .u32 (r : Int) (x.toNat : Int) = ((r ^^^ x.toNat : Nat) : Int) := u32_xor r x.toNat hr (by omega)
      have hr2 := xor_byte_lt x hr
      clear hx hT
      generalize hq : r ^^^ x.toNat = q at *
      go_wp2_with fail
      go_loop [3, 17] (fun rv jv => ∃ j : Nat, j ≤ 8 ∧ jv = .int .i64 (j : Int) ∧ rv = .int .u32 (crcN j q : Int)) (fun _ jv => 8 - (intOf jv).toNat)
      case atStart => exact ⟨0, by omega, rfl, rfl⟩
      case round =>
        obtain ⟨j, hj, rfl, rfl⟩ := hrel
        have HJ := Lib.hid (crcN_succ j q)
        have hy := crcN_lt j hr2
        by_cases hj8 : j < 8
        · generalize crcN j q = y at *
          have ha := u32_and1 y hy
          have hx2 : bits .xor .u32 ((y : Int) / 2) 3988292384 = ((y / 2 ^^^ 3988292384 : Nat) : Int) := u32_xorP (y / 2) (by omega)
          rcases Nat.mod_two_eq_zero_or_one y with h0 | h0
          · have HB : Hid (crcBit y = y / 2) := by show _ = _; unfold crcBit; rw [if_neg (by omega)]
            rw [h0] at ha
            clear hx2 h0
            go_wp2_with fail
            go_round
            case rel => exact ⟨j + 1, by omega, by go_num, by rw [HJ.out, HB.out]; go_num⟩
            case measure => simp [intOf]; omega
          · have HB : Hid (crcBit y = y / 2 ^^^ 3988292384) := by show _ = _; unfold crcBit; rw [if_pos h0]
            rw [h0] at ha
            go_wp2_with fail
            go_round
            case rel => exact ⟨j + 1, by omega, by go_num, by rw [HJ.out, HB.out]⟩
            case measure => simp [intOf]; omega
        · obtain rfl : j = 8 := by omega
          go_wp2_with fail
          go_round
          case rel => exact ⟨k + 1, by omega, by go_num, by rw [HT.out]⟩
          case measure => simp [intOf]; omega
    · obtain rfl : k = l.length := by omega
      have HF : Hid ((sumOf l : Int) = ((4294967295 ^^^ crcOf l : Nat) : Int)) := Eq.refl ((sumOf l : Nat) : Int)
      have hsl := sumOf_lt l
      unfold sumOf at hsl
      rw [List.take_length]
      have hr := crcOf_lt l
      generalize crcOf l = r at *
      have hx : bits .xor .u32 IntKind.u32.max (r : Int) = ((4294967295 ^^^ r : Nat) : Int) := u32_xor_nat 4294967295 r (by omega) hr
      generalize 4294967295 ^^^ r = z at *
      go_wp2_with fail
      go_ret
      exact ⟨by rw [HF.out]; show Ending.returned (.int .i64 (wrap64 z)) = _; rw [w64 (by omega)], rfl⟩

theorem ofInt64 (a : Nat) (ha : a < 9223372036854775808) : (BitVec.ofInt 64 (a : Int)).toNat = a := by
  rw [BitVec.ofInt_natCast, BitVec.toNat_ofNat]; exact Nat.mod_eq_of_lt (by omega)
theorem wrapI64 (n : Int) : IntKind.i64.wrap n = wrap64 n := by
  simp [IntKind.wrap, IntKind.bits, IntKind.signed, wrap64]
  split <;> omega
theorem i64_xorN (a b : Nat) (ha : a < 9223372036854775808) (hb : b < 9223372036854775808) : bits .xor .i64 (a : Int) (b : Int) = ((a ^^^ b : Nat) : Int) := by
  have hx : a ^^^ b < 2 ^ 63 := Nat.xor_lt_two_pow (by omega) (by omega)
  show IntKind.i64.wrap ((BitVec.ofInt 64 (a : Int) ^^^ BitVec.ofInt 64 (b : Int)).toNat : Int) = _
  rw [BitVec.toNat_xor, ofInt64 a ha, ofInt64 b hb, wrapI64, w64 (by omega)]
theorem i64_and1 (a : Nat) (ha : a < 9223372036854775808) : bits .and .i64 (a : Int) 1 = ((a % 2 : Nat) : Int) := by
  show IntKind.i64.wrap ((BitVec.ofInt 64 (a : Int) &&& BitVec.ofInt 64 ((1 : Nat) : Int)).toNat : Int) = _
  rw [BitVec.toNat_and, ofInt64 a ha, ofInt64 1 (by omega), and_one, wrapI64, w64 (by omega)]

set_option maxHeartbeats 2000000 in
set_option maxRecDepth 100000 in
theorem sum_ref (u : Value) (l : List UInt8) (w : World) (h : SlC (Lt w.heap.size) w u l) :
    Calls Try.prog 13 #[u] w fun e w' => e = .returned (.int .i64 (sumOf l : Int)) ∧ w = w' := by
  obtain ⟨A, c, rfl, h1, h2, hs⟩ := h.open_
  have HS := Lib.hid hs
  clear h hs
  go_enter Try.func13, Try.ntmps13
  go_wp2_with fail
  go_loop [3, 4] (fun rv iv => ∃ k : Nat, k ≤ l.length ∧ iv = .int .i64 (k : Int) ∧ rv = .int .i64 (crcOf (l.take k) : Int)) (fun _ iv => l.length - (intOf iv).toNat)
  case atStart => exact ⟨0, Nat.zero_le _, rfl, rfl⟩
  case round =>
    obtain ⟨k, hk, rfl, rfl⟩ := hrel
    by_cases hlt : k < l.length
    · obtain ⟨b, o, x, rfl, hD, hx, hc⟩ := HS.out.at_ hlt
      have hT : l.take (k + 1) = l.take k ++ [x] := take_next hx
      have HT : Hid (crcOf (l.take (k + 1)) = crcN 8 (crcOf (l.take k) ^^^ x.toNat)) := by show _ = _; unfold crcOf; rw [hT, crcL_snoc]
      have hr := crcOf_lt (l.take k)
      generalize crcOf (l.take k) = r at *
      have hxl := UInt8.toNat_lt x
      have hX : bits .xor .i64 (r : Int) (x.toNat : Int) = ((r ^^^ x.toNat : Nat) : Int) := i64_xorN r x.toNat (by omega) (by omega)
      have hr2 := xor_byte_lt x hr
      clear hx hT
      generalize hq : r ^^^ x.toNat = q at *
      go_wp2_with fail
      go_loop [3, 5] (fun rv jv => ∃ j : Nat, j ≤ 8 ∧ jv = .int .i64 (j : Int) ∧ rv = .int .i64 (crcN j q : Int)) (fun _ jv => 8 - (intOf jv).toNat)
      case atStart => exact ⟨0, by omega, rfl, rfl⟩
      case round =>
        obtain ⟨j, hj, rfl, rfl⟩ := hrel
        have HJ := Lib.hid (crcN_succ j q)
        have hy := crcN_lt j hr2
        by_cases hj8 : j < 8
        · generalize crcN j q = y at *
          have ha := i64_and1 y (by omega)
          have hx2 : bits .xor .i64 ((y : Int) / 2) 3988292384 = ((y / 2 ^^^ 3988292384 : Nat) : Int) := i64_xorN (y / 2) 3988292384 (by omega) (by omega)
          rcases Nat.mod_two_eq_zero_or_one y with h0 | h0
          · have HB : Hid (crcBit y = y / 2) := by show _ = _; unfold crcBit; rw [if_neg (by omega)]
            rw [h0] at ha
            clear hx2 h0
            go_wp2_with fail
            go_round
            case rel => exact ⟨j + 1, by omega, by go_num, by rw [HJ.out, HB.out]; go_num⟩
            case measure => simp [intOf]; omega
          · have HB : Hid (crcBit y = y / 2 ^^^ 3988292384) := by show _ = _; unfold crcBit; rw [if_pos h0]
            rw [h0] at ha
            go_wp2_with fail
            go_round
            case rel => exact ⟨j + 1, by omega, by go_num, by rw [HJ.out, HB.out]⟩
            case measure => simp [intOf]; omega
        · obtain rfl : j = 8 := by omega
          go_wp2_with fail
          go_round
          case rel => exact ⟨k + 1, by omega, by go_num, by rw [HT.out]⟩
          case measure => simp [intOf]; omega
    · obtain rfl : k = l.length := by omega
      have HF : Hid ((sumOf l : Int) = ((4294967295 ^^^ crcOf l : Nat) : Int)) := Eq.refl ((sumOf l : Nat) : Int)
      have hsl := sumOf_lt l
      unfold sumOf at hsl
      rw [List.take_length]
      have hr := crcOf_lt l
      generalize crcOf l = r at *
      have hx : bits .xor .i64 4294967295 (r : Int) = ((4294967295 ^^^ r : Nat) : Int) := i64_xorN 4294967295 r (by omega) (by omega)
      generalize 4294967295 ^^^ r = z at *
      go_wp2_with fail
      go_ret
      exact ⟨by rw [HF.out]; rfl, rfl⟩
end Go.Proofs.Ytjglmjdfndcmmaa
