/- The check sum finds each change within four successive bytes. No program in sight. -/
import Derived.Test.YtjglmjdfndcmmaaArSpec
set_option linter.all false
namespace Go.Proofs.Ytjglmjdfndcmmaa
open Go.RowKit

theorem xor_cancel {a b c : Nat} (h : a ^^^ c = b ^^^ c) : a = b := by
  have := congrArg (· ^^^ c) h
  simpa [Nat.xor_assoc] using this
theorem high_bit {r : Nat} (h : r < 2147483648) : 2147483648 ≤ r ^^^ 3988292384 := by
  refine Nat.le_of_not_lt fun hlt => ?_
  have h1 : (r ^^^ 3988292384).testBit 31 = false := Nat.testBit_lt_two_pow (by simpa using hlt)
  rw [Nat.testBit_xor, Nat.testBit_lt_two_pow (i := 31) (x := r) (by simpa using h)] at h1
  exact absurd h1 (by decide)
theorem crcBit_inj {a b : Nat} (ha : a < 4294967296) (hb : b < 4294967296) (h : crcBit a = crcBit b) : a = b := by
  unfold crcBit at h
  split at h <;> split at h
  · have := xor_cancel h; omega
  · have := high_bit (r := a / 2) (by omega); omega
  · have := high_bit (r := b / 2) (by omega); omega
  · omega
theorem crcN_inj : ∀ (k : Nat) {a b : Nat}, a < 4294967296 → b < 4294967296 → crcN k a = crcN k b → a = b := by
  intro k
  induction k with
  | zero => intro a b _ _ h; exact h
  | succ k ih => intro a b ha hb h; exact crcBit_inj ha hb (ih (crcBit_lt ha) (crcBit_lt hb) h)
theorem xor_byte_lt {r : Nat} (c : UInt8) (h : r < 4294967296) : r ^^^ c.toNat < 4294967296 := by
  have := UInt8.toNat_lt c
  exact Nat.xor_lt_two_pow (n := 32) h (by omega)
theorem crcL_inj : ∀ (l : List UInt8) {a b : Nat}, a < 4294967296 → b < 4294967296 → crcL a l = crcL b l → a = b := by
  intro l
  induction l with
  | nil => intro a b _ _ h; exact h
  | cons c l ih =>
    intro a b ha hb h
    have h1 := ih (crcN_lt 8 (xor_byte_lt c ha)) (crcN_lt 8 (xor_byte_lt c hb)) h
    exact xor_cancel (crcN_inj 8 (xor_byte_lt c ha) (xor_byte_lt c hb) h1)
theorem xor_half (a b : Nat) : (a ^^^ b) / 2 = a / 2 ^^^ b / 2 := by
  have := Nat.shiftRight_xor_distrib (a := a) (b := b) (i := 1)
  simpa [Nat.shiftRight_eq_div_pow] using this
theorem xor_par (a b : Nat) : (a ^^^ b) % 2 = (a % 2 + b % 2) % 2 := by
  have h := Nat.xor_mod_two_eq_one (a := a) (b := b)
  rcases Nat.mod_two_eq_zero_or_one a with h1 | h1 <;> rcases Nat.mod_two_eq_zero_or_one b with h2 | h2 <;> rcases Nat.mod_two_eq_zero_or_one (a ^^^ b) with h3 | h3 <;> simp [h1, h2, h3] at h ⊢
theorem crcBit_xor (a b : Nat) : crcBit (a ^^^ b) = crcBit a ^^^ crcBit b := by
  have hp := xor_par a b
  have hh := xor_half a b
  unfold crcBit
  rw [hh]
  generalize a / 2 = x
  generalize b / 2 = y
  have hx : ∀ u v : Nat, u ^^^ v ^^^ 3988292384 = u ^^^ (v ^^^ 3988292384) := fun u v => Nat.xor_assoc _ _ _
  rcases Nat.mod_two_eq_zero_or_one a with h1 | h1 <;> rcases Nat.mod_two_eq_zero_or_one b with h2 | h2 <;> rw [h1, h2] at hp
  · rw [if_neg (by omega), if_neg (by omega), if_neg (by omega)]
  · rw [if_pos (by omega), if_neg (by omega), if_pos (by omega), hx]
  · rw [if_pos (by omega), if_pos (by omega), if_neg (by omega), hx, Nat.xor_comm y, ← Nat.xor_assoc]
  · rw [if_neg (by omega), if_pos (by omega), if_pos (by omega), Nat.xor_assoc x, ← Nat.xor_assoc 3988292384, Nat.xor_comm 3988292384 y, Nat.xor_assoc y, Nat.xor_self, Nat.xor_zero]
theorem crcN_xor : ∀ (k a b : Nat), crcN k (a ^^^ b) = crcN k a ^^^ crcN k b := by
  intro k
  induction k with
  | zero => intro a b; rfl
  | succ k ih => intro a b; show crcN k (crcBit (a ^^^ b)) = _; rw [crcBit_xor, ih]; rfl
theorem crcN_up : ∀ (k m : Nat), crcN k (2 ^ k * m) = m := by
  intro k
  induction k with
  | zero => intro m; simp [crcN]
  | succ k ih =>
    intro m
    show crcN k (crcBit (2 ^ (k + 1) * m)) = m
    have h : 2 ^ (k + 1) * m = 2 * (2 ^ k * m) := by rw [Nat.pow_succ]; ac_rfl
    have : crcBit (2 ^ (k + 1) * m) = 2 ^ k * m := by
      rw [h]; unfold crcBit
      rw [if_neg (by omega)]; omega
    rw [this, ih]
theorem crcN_add : ∀ (j k r : Nat), crcN j (crcN k r) = crcN (k + j) r := by
  intro j k
  induction k with
  | zero => intro r; rw [Nat.zero_add]; rfl
  | succ k ih => intro r; rw [Nat.succ_add]; exact ih (crcBit r)
/-- A byte taken later is a byte further up. -/
theorem crcN_late (k r c : Nat) : crcN k r ^^^ c = crcN k (r ^^^ 2 ^ k * c) := by rw [crcN_xor, crcN_up]
theorem crcL4 (r : Nat) (a b c d : UInt8) : crcL r [a, b, c, d] = crcN 32 (r ^^^ a.toNat ^^^ 256 * b.toNat ^^^ 65536 * c.toNat ^^^ 16777216 * d.toNat) := by
  show crcN 8 (crcN 8 (crcN 8 (crcN 8 (r ^^^ a.toNat) ^^^ b.toNat) ^^^ c.toNat) ^^^ d.toNat) = _
  rw [crcN_late 8 _ b.toNat, crcN_add, crcN_late (8 + 8) _ c.toNat, crcN_add, crcN_late (8 + 8 + 8) _ d.toNat, crcN_add]
theorem word4 (a b c d : Nat) (ha : a < 256) (hb : b < 256) (hc : c < 256) : a ^^^ 256 * b ^^^ 65536 * c ^^^ 16777216 * d = a + 256 * b + 65536 * c + 16777216 * d := by
  have h1 : a ^^^ 256 * b = a + 256 * b := by
    rw [Nat.add_comm]
    have := Nat.two_pow_add_eq_or_of_lt (i := 8) (b := a) (by simpa using ha) b
    rw [show (2 : Nat) ^ 8 = 256 from rfl] at this
    rw [this]
    apply Nat.eq_of_testBit_eq
    intro i
    rw [Nat.testBit_xor, Nat.testBit_or]
    by_cases hi : i < 8
    · have e : (256 * b).testBit i = false := by
        rw [show 256 * b = 2 ^ 8 * b from rfl, Nat.testBit_two_pow_mul]
        simp; omega
      rw [e]; simp
    · have e : a.testBit i = false := Nat.testBit_lt_two_pow (Nat.lt_of_lt_of_le ha (by
        have := Nat.pow_le_pow_right (n := 2) (by omega) (Nat.le_of_not_lt hi)
        simpa using this))
      rw [e]; simp
  have h2 : (a + 256 * b) ^^^ 65536 * c = a + 256 * b + 65536 * c := by
    rw [Nat.add_comm (a + 256 * b)]
    have hlt : a + 256 * b < 65536 := by omega
    have := Nat.two_pow_add_eq_or_of_lt (i := 16) (b := a + 256 * b) (by simpa using hlt) c
    rw [show (2 : Nat) ^ 16 = 65536 from rfl] at this
    rw [this]
    apply Nat.eq_of_testBit_eq
    intro i
    rw [Nat.testBit_xor, Nat.testBit_or]
    by_cases hi : i < 16
    · have e : (65536 * c).testBit i = false := by
        rw [show 65536 * c = 2 ^ 16 * c from rfl, Nat.testBit_two_pow_mul]
        simp; omega
      rw [e]; simp
    · have e : (a + 256 * b).testBit i = false := Nat.testBit_lt_two_pow (Nat.lt_of_lt_of_le hlt (by
        have := Nat.pow_le_pow_right (n := 2) (by omega) (Nat.le_of_not_lt hi)
        simpa using this))
      rw [e]; simp
  have h3 : (a + 256 * b + 65536 * c) ^^^ 16777216 * d = a + 256 * b + 65536 * c + 16777216 * d := by
    rw [Nat.add_comm (a + 256 * b + 65536 * c)]
    have hlt : a + 256 * b + 65536 * c < 16777216 := by omega
    have := Nat.two_pow_add_eq_or_of_lt (i := 24) (b := a + 256 * b + 65536 * c) (by simpa using hlt) d
    rw [show (2 : Nat) ^ 24 = 16777216 from rfl] at this
    rw [this]
    apply Nat.eq_of_testBit_eq
    intro i
    rw [Nat.testBit_xor, Nat.testBit_or]
    by_cases hi : i < 24
    · have e : (16777216 * d).testBit i = false := by
        rw [show 16777216 * d = 2 ^ 24 * d from rfl, Nat.testBit_two_pow_mul]
        simp; omega
      rw [e]; simp
    · have e : (a + 256 * b + 65536 * c).testBit i = false := Nat.testBit_lt_two_pow (Nat.lt_of_lt_of_le hlt (by
        have := Nat.pow_le_pow_right (n := 2) (by omega) (Nat.le_of_not_lt hi)
        simpa using this))
      rw [e]; simp
  rw [h1, h2, h3]
def wordOf (a b c d : UInt8) : Nat := a.toNat + 256 * b.toNat + 65536 * c.toNat + 16777216 * d.toNat
theorem wordOf_lt (a b c d : UInt8) : wordOf a b c d < 4294967296 := by
  have h1 := UInt8.toNat_lt a; have h2 := UInt8.toNat_lt b; have h3 := UInt8.toNat_lt c; have h4 := UInt8.toNat_lt d
  unfold wordOf; omega
theorem crcL_word (r : Nat) (a b c d : UInt8) : crcL r [a, b, c, d] = crcN 32 (r ^^^ wordOf a b c d) := by
  rw [crcL4]
  unfold wordOf
  rw [← word4 _ _ _ _ (UInt8.toNat_lt a) (UInt8.toNat_lt b) (UInt8.toNat_lt c)]
  simp only [Nat.xor_assoc]
theorem wordOf_inj {a b c d a' b' c' d' : UInt8} (h : wordOf a b c d = wordOf a' b' c' d') : [a, b, c, d] = [a', b', c', d'] := by
  have h1 := UInt8.toNat_lt a; have h2 := UInt8.toNat_lt b; have h3 := UInt8.toNat_lt c; have h4 := UInt8.toNat_lt d
  have k1 := UInt8.toNat_lt a'; have k2 := UInt8.toNat_lt b'; have k3 := UInt8.toNat_lt c'; have k4 := UInt8.toNat_lt d'
  unfold wordOf at h
  rw [UInt8.toNat_inj.1 (show a.toNat = a'.toNat by omega), UInt8.toNat_inj.1 (show b.toNat = b'.toNat by omega), UInt8.toNat_inj.1 (show c.toNat = c'.toNat by omega), UInt8.toNat_inj.1 (show d.toNat = d'.toNat by omega)]
theorem four_eq {l : List UInt8} (h : l.length = 4) : ∃ a b c d, l = [a, b, c, d] := by
  match l, h with
  | [a, b, c, d], _ => exact ⟨a, b, c, d, rfl⟩
theorem crcL_four {r : Nat} {u v : List UInt8} (hr : r < 4294967296) (hu : u.length = 4) (hv : v.length = 4) (h : crcL r u = crcL r v) : u = v := by
  obtain ⟨a, b, c, d, rfl⟩ := four_eq hu
  obtain ⟨a', b', c', d', rfl⟩ := four_eq hv
  rw [crcL_word, crcL_word] at h
  have h1 := crcN_inj 32 (Nat.xor_lt_two_pow (n := 32) hr (wordOf_lt _ _ _ _)) (Nat.xor_lt_two_pow (n := 32) hr (wordOf_lt _ _ _ _)) h
  rw [Nat.xor_comm r, Nat.xor_comm r] at h1
  exact wordOf_inj (xor_cancel h1)
/-- A change within four successive bytes changes the state. -/
theorem crc_changed {p u v q : List UInt8} (hu : u.length = 4) (hv : v.length = 4) (h : crcOf (p ++ u ++ q) = crcOf (p ++ v ++ q)) : u = v := by
  unfold crcOf at h
  rw [crcL_append, crcL_append, crcL_append, crcL_append] at h
  have h0 := crcL_lt p (r := 4294967295) (by omega)
  exact crcL_four h0 hu hv (crcL_inj q (crcL_lt u h0) (crcL_lt v h0) h)
theorem le4_word {s : Nat} (h : s < 4294967296) : ∃ a b c d, le4 s = [a, b, c, d] ∧ wordOf a b c d = s := by
  refine ⟨_, _, _, _, rfl, ?_⟩
  unfold wordOf
  simp only [UInt8.toNat_ofNat']
  omega
theorem crc_whole (c : List UInt8) : crcOf (c ++ le4 (sumOf c)) = crcN 32 4294967295 := by
  obtain ⟨x, y, z, t, he, hw⟩ := le4_word (sumOf_lt c)
  unfold crcOf
  rw [crcL_append, he, crcL_word, hw]
  show crcN 32 (crcOf c ^^^ (4294967295 ^^^ crcOf c)) = _
  rw [Nat.xor_comm 4294967295, ← Nat.xor_assoc, Nat.xor_self, Nat.zero_xor]
/-- What has its sum behind it has not after a change. -/
theorem damage_found {c p u v q c' t : List UInt8} (hb : c ++ le4 (sumOf c) = p ++ u ++ q) (hb' : p ++ v ++ q = c' ++ t) (hu : u.length = 4) (hv : v.length = 4) (hne : u ≠ v) : t ≠ le4 (sumOf c') := by
  intro ht
  subst ht
  refine hne (crc_changed hu hv ?_ (p := p) (q := q))
  rw [← hb, hb', crc_whole, crc_whole]
end Go.Proofs.Ytjglmjdfndcmmaa
