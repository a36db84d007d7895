/- Texts of this seat, merged. -/
import Derived.Deep.CutRange
import Derived.Test.YtjglmjdfndcmmaaZb01
import Derived.Test.YtjglmjdfndcmmaaZb02
import Derived.Test.YtjglmjdfndcmmaaZb09
import Derived.Test.YtjglmjdfndcmmaaZb10
import Derived.Test.YtjglmjdfndcmmaaZb11
set_option linter.all false
set_option linter.all false
namespace Go.Proofs.Ytjglmjdfndcmmaa
open Go.RowKit
def RdR (B : Nat) (w : World) (R : Nat) (all : List UInt8) (I : Nat) (q : Bool) : Prop := ∃ b o c, Blk w R 80 #[.slice (some ⟨b, o, none⟩) all.length c, .int .i64 (I : Int), .bool q] ∧ all.length ≤ c ∧ c ≤ 9223372036854775807 ∧ I ≤ all.length ∧ SlC (Lt B) w (.slice (some ⟨b, o, none⟩) all.length c) all
theorem RdR.chg {B R I : Nat} {w w' : World} {all : List UInt8} {q : Bool} {S : Nat → Prop} (h : RdR B w R all I q) (k : Chg S w w') (hB : B ≤ w.heap.size) (hR : ¬ S R) (hS : ∀ i, i < B → ¬ S i) : RdR B w' R all I q := by
  obtain ⟨b, o, c, h1, h2, h3, h4, h5⟩ := h
  exact ⟨b, o, c, h1.chg k hR, h2, h3, h4, Sl.below h5 RByte.kept (k.below hB hS) (Nat.le_refl _)⟩
theorem RdR.lt {B R I : Nat} {w : World} {all : List UInt8} {q : Bool} (h : RdR B w R all I q) : R < w.heap.size := by obtain ⟨_, _, _, h, _⟩ := h; exact h.lt
theorem RdR.now {B R I : Nat} {w w' : World} {all : List UInt8} {q : Bool} (h : RdR B w R all I q) (hB : B ≤ R) (hb : Below w.heap.size w w') : RdR B w' R all I q :=
  h.chg (S := fun _ => False) (Chg.of_below hb) (by have := h.lt; omega) id (fun _ _ => id)
theorem RdR.set {B R I : Nat} {w : World} {all : List UInt8} {q : Bool} (h : RdR B w R all I q) (hB : B ≤ R) : (RdR B (w.setCell ⟨R, 2, none⟩ (.bool true)) R all I true) ∧ ∀ I', I' ≤ all.length → RdR B (w.setCell ⟨R, 1, none⟩ (.int .i64 (I' : Int))) R all I' q := by
  obtain ⟨b, o, c, h1, h2, h3, h4, h5⟩ := h
  have hBw : B ≤ w.heap.size := Nat.le_of_lt (Nat.lt_of_le_of_lt hB h1.lt)
  have hne : ∀ i, i < B → ¬ One R i := fun i hi e => by unfold One at e; omega
  have hC : ∀ k u, Chg (One R) w (w.setCell ⟨R, k, none⟩ u) := fun k u => Chg.refl.set (p := ⟨R, k, none⟩) (.inr (show One R R from rfl)) _
  exact ⟨⟨b, o, c, h1.set_ 2 _, h2, h3, h4, Sl.below h5 RByte.kept ((hC _ _).below hBw hne) (Nat.le_refl _)⟩, fun I' hI => ⟨b, o, c, h1.set_ 1 _, h2, h3, hI, Sl.below h5 RByte.kept ((hC _ _).below hBw hne) (Nat.le_refl _)⟩⟩
theorem RdR.far {B R I : Nat} {w : World} {all : List UInt8} {q : Bool} (h : RdR B w R all I q) (hB : B ≤ R) {p : Addr} (hp : p.block ≠ R ∧ B ≤ p.block) (u : Value) : RdR B (w.setCell p u) R all I q :=
  h.chg (S := fun i => i = p.block) (Chg.set (S := fun i => i = p.block) Chg.refl (.inr rfl) u) (by have := h.lt; omega) (fun e => hp.1 e.symm) (fun i hi e => by omega)
structure GotM (most : Int) (l : List UInt8) (q : Bool) (n : Nat) (l' : List UInt8) (q' : Bool) : Prop where
  le : q' = false → (n : Int) ≤ most
  zero : q' = true → n = 0
  up : q' = false → q = false
  whole : ∀ m t, q = false → l = arNum m ++ t → (m : Int) ≤ most → m < 9223372036854775808 → n = m ∧ l' = t ∧ q' = false
def RetM (B R : Nat) (most : Int) (all : List UInt8) (I : Nat) (q : Bool) (w : World) (e : Ending) (w' : World) : Prop := ∃ (n I' : Nat) (q' : Bool), e = .returned (.int .i64 ((n : Nat) : Int)) ∧ RdR B w' R all I' q' ∧ I ≤ I' ∧ GotM most (all.drop I) q n (all.drop I') q' ∧ Chg (One R) w w'
def RefAt (l : List UInt8) (j : Nat) (nz sz : Int) : Prop := ∀ m t, l = arNum m ++ t → m < 9223372036854775808 → j ≤ 8 ∧ sz = ((128 ^ j : Nat) : Int) ∧ ∃ n m' : Nat, nz = (n : Int) ∧ l.drop j = arNum m' ++ t ∧ n + 128 ^ j * m' = m
theorem RefAt.start (l : List UInt8) : RefAt l 0 0 1 := fun m t h _ => ⟨by omega, by simp, 0, m, rfl, h, by simp⟩
theorem RefAt.byte {l : List UInt8} {j : Nat} {nz sz : Int} {c : UInt8} (h : RefAt l j nz sz) (hc : l[j]? = some c) {m : Nat} {t : List UInt8} (hl : l = arNum m ++ t) (hm : m < 9223372036854775808) :
    ∃ n m' : Nat, j ≤ 8 ∧ sz = ((128 ^ j : Nat) : Int) ∧ nz = (n : Int) ∧ n + 128 ^ j * m' = m ∧ ((c.toNat < 128 ∧ m' = c.toNat ∧ l.drop (j + 1) = t) ∨ (128 ≤ c.toNat ∧ m' % 128 = c.toNat % 128 ∧ 128 ≤ m' ∧ l.drop (j + 1) = arNum (m' / 128) ++ t)) := by
  obtain ⟨e1, e2, n, m', e3, e4, e5⟩ := h m t hl hm
  have hj := (List.getElem?_eq_some_iff.1 hc).1
  have he : l[j] = c := (List.getElem?_eq_some_iff.1 hc).2
  rw [List.drop_eq_getElem_cons hj, he] at e4
  exact ⟨n, m', e1, e2, e3, e5, arNum_head e4⟩
theorem RefAt.sum {l : List UInt8} {j : Nat} {nz sz : Int} {c : UInt8} (h : RefAt l j nz sz) (hc : l[j]? = some c) {m : Nat} {t : List UInt8} (hl : l = arNum m ++ t) (hm : m < 9223372036854775808) :
    ∃ n m' : Nat, j ≤ 8 ∧ sz = ((128 ^ j : Nat) : Int) ∧ wrap64 (nz + wrap64 (sz * (c.toNat % 128 : Nat))) = ((n + 128 ^ j * (c.toNat % 128) : Nat) : Int) ∧ n + 128 ^ j * m' = m ∧ ((c.toNat < 128 ∧ m' = c.toNat ∧ l.drop (j + 1) = t) ∨ (128 ≤ c.toNat ∧ m' % 128 = c.toNat % 128 ∧ 128 ≤ m' ∧ l.drop (j + 1) = arNum (m' / 128) ++ t)) := by
  obtain ⟨n, m', e1, e2, e3, e4, e5⟩ := h.byte hc hl hm
  have h1 : c.toNat % 128 ≤ m' := by rcases e5 with ⟨_, h, _⟩ | ⟨_, h, _, _⟩ <;> omega
  have h2 : 128 ^ j * (c.toNat % 128) ≤ 128 ^ j * m' := Nat.mul_le_mul (Nat.le_refl _) h1
  refine ⟨n, m', e1, e2, ?_, e4, e5⟩
  rw [e2, e3, ← Int.natCast_mul]
  generalize 128 ^ j * (c.toNat % 128) = p at *
  rw [show wrap64 (p : Int) = (p : Int) from w64 (by omega), ← Int.natCast_add, w64 (by omega)]
theorem RefAt.more {l : List UInt8} {j : Nat} {nz sz : Int} {c : UInt8} (h : RefAt l j nz sz) (hc : l[j]? = some c) (hlt : 128 ≤ c.toNat) : RefAt l (j + 1) (wrap64 (nz + wrap64 (sz * (c.toNat % 128 : Nat)))) (wrap64 (sz * 128)) := by
  intro m t hl hm
  obtain ⟨n, m', e1, e2, e3, e4, e5⟩ := h.sum hc hl hm
  rcases e5 with ⟨h1, _⟩ | ⟨_, h2, h3, h4⟩
  · omega
  · have h6 : 128 ^ (j + 1) ≤ m := by
      rw [Nat.pow_succ]
      have := Nat.mul_le_mul (Nat.le_refl (128 ^ j)) h3
      omega
    have hj8 : j + 1 ≤ 8 := by
      rcases Nat.lt_or_ge j 8 with h | h
      · omega
      · have h7 : 128 ^ 9 ≤ 128 ^ (j + 1) := Nat.pow_le_pow_right (by omega) (by omega)
        have h8 : (128 : Nat) ^ 9 = 9223372036854775808 := by decide
        omega
    refine ⟨hj8, ?_, n + 128 ^ j * (c.toNat % 128), m' / 128, e3, h4, ?_⟩
    · rw [e2, Nat.pow_succ]
      rw [Nat.pow_succ] at h6
      generalize 128 ^ j = p at *
      rw [w64 (by omega)]
      omega
    · rw [← e4, ← h2, Nat.pow_succ]
      have h9 := Nat.div_add_mod m' 128
      have h10 : 128 ^ j * m' = 128 ^ j * (128 * (m' / 128)) + 128 ^ j * (m' % 128) := by rw [← Nat.mul_add, h9]
      rw [h10, Nat.mul_assoc]
      omega
theorem RefAt.last {l : List UInt8} {j : Nat} {nz sz : Int} {c : UInt8} (h : RefAt l j nz sz) (hc : l[j]? = some c) (hlt : c.toNat < 128) {m : Nat} {t : List UInt8} (hl : l = arNum m ++ t) (hm : m < 9223372036854775808) : wrap64 (nz + wrap64 (sz * (c.toNat % 128 : Nat))) = (m : Int) ∧ l.drop (j + 1) = t := by
  obtain ⟨n, m', e1, e2, e3, e4, e5⟩ := h.sum hc hl hm
  rcases e5 with ⟨_, h2, h3⟩ | ⟨h1, _⟩
  · refine ⟨?_, h3⟩
    rw [e3, ← e4, h2, Nat.mod_eq_of_lt hlt]
  · omega
-- WALK
def posM (R : Nat) (w : World) : Nat := match w.cell? ⟨R, 1, none⟩ with | some (.int _ i) => i.toNat | _ => 0
end Go.Proofs.Ytjglmjdfndcmmaa
