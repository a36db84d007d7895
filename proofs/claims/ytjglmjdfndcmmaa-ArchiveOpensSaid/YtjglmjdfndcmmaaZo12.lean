/- Texts of this seat, merged. -/
import Derived.Deep.CutRange
import Derived.Test.YtjglmjdfndcmmaaZo01
import Derived.Test.YtjglmjdfndcmmaaZo02
import Derived.Test.YtjglmjdfndcmmaaZo03
import Derived.Test.YtjglmjdfndcmmaaZo09
import Derived.Test.YtjglmjdfndcmmaaZo10
import Derived.Test.YtjglmjdfndcmmaaZo11
set_option linter.all false
set_option linter.all false
namespace Go.Proofs.Ytjglmjdfndcmmaa
open Go.RowKit
def RdR (B : Nat) (w : World) (R : Nat) (all : List UInt8) (I : Nat) (q : Bool) : Prop := ∃ b o c, Blk w R 80 #[.slice (some ⟨b, o, none⟩) all.length c, .int .i64 (I : Int), .bool q] ∧ all.length ≤ c ∧ c ≤ 9223372036854775807 ∧ I ≤ all.length ∧ SlC (Lt B) w (.slice (some ⟨b, o, none⟩) all.length c) all
theorem RdR.chg {B R I : Nat} {w w' : World} {all : List UInt8} {q : Bool} {S : Nat → Prop} (h : RdR B w R all I q) (k : Chg S w w') (hB : B ≤ w.heap.size) (hR : ¬ S R) (hS : ∀ i, i < B → ¬ S i) : RdR B w' R all I q := by
  obtain ⟨b, o, c, h1, h2, h3, h4, h5⟩ := h
  exact ⟨b, o, c, h1.chg k hR, h2, h3, h4, Sl.below h5 RByte.kept (k.below hB hS) (Nat.le_refl _)⟩
theorem RdR.lt {B R I : Nat} {w : World} {all : List UInt8} {q : Bool} (h : RdR B w R all I q) : R < w.heap.size := by obtain ⟨_, _, _, h, _⟩ := h; exact h.lt
theorem RdR.now {B R I : Nat} {w w' : World} {all : List UInt8} {q : Bool} (h : RdR B w R all I q) (hB : B ≤ R) (hb : Below w.heap.size w w') : RdR B w' R all I q :=
  h.chg (S := fun _ => False) (Chg.of_below hb) (by have := h.lt; omega) id (fun _ _ => id)
theorem RdR.set {B R I : Nat} {w : World} {all : List UInt8} {q : Bool} (h : RdR B w R all I q) (hB : B ≤ R) : (RdR B (w.setCell ⟨R, 2, none⟩ (.bool true)) R all I true) ∧ ∀ I', I' ≤ all.length → RdR B (w.setCell ⟨R, 1, none⟩ (.int .i64 (I' : Int))) R all I' q := by
  obtain ⟨b, o, c, h1, h2, h3, h4, h5⟩ := h
  have hBw : B ≤ w.heap.size := Nat.le_of_lt (Nat.lt_of_le_of_lt hB h1.lt)
  have hne : ∀ i, i < B → ¬ One R i := fun i hi e => by unfold One at e; omega
  have hC : ∀ k u, Chg (One R) w (w.setCell ⟨R, k, none⟩ u) := fun k u => Chg.refl.set (p := ⟨R, k, none⟩) (.inr (show One R R from rfl)) _
  exact ⟨⟨b, o, c, h1.set_ 2 _, h2, h3, h4, Sl.below h5 RByte.kept ((hC _ _).below hBw hne) (Nat.le_refl _)⟩, fun I' hI => ⟨b, o, c, h1.set_ 1 _, h2, h3, hI, Sl.below h5 RByte.kept ((hC _ _).below hBw hne) (Nat.le_refl _)⟩⟩
theorem RdR.far {B R I : Nat} {w : World} {all : List UInt8} {q : Bool} (h : RdR B w R all I q) (hB : B ≤ R) {p : Addr} (hp : p.block ≠ R ∧ B ≤ p.block) (u : Value) : RdR B (w.setCell p u) R all I q :=
  h.chg (S := fun i => i = p.block) (Chg.set (S := fun i => i = p.block) Chg.refl (.inr rfl) u) (by have := h.lt; omega) (fun e => hp.1 e.symm) (fun i hi e => by omega)
structure GotM (most : Int) (l : List UInt8) (q : Bool) (n : Nat) (l' : List UInt8) (q' : Bool) : Prop where
  le : q' = false → (n : Int) ≤ most
  zero : q' = true → n = 0
  up : q' = false → q = false
  whole : ∀ m t, q = false → l = arNum m ++ t → (m : Int) ≤ most → m < 9223372036854775808 → n = m ∧ l' = t ∧ q' = false
def RetM (B R : Nat) (most : Int) (all : List UInt8) (I : Nat) (q : Bool) (w : World) (e : Ending) (w' : World) : Prop := ∃ (n I' : Nat) (q' : Bool), e = .returned (.int .i64 ((n : Nat) : Int)) ∧ RdR B w' R all I' q' ∧ I ≤ I' ∧ GotM most (all.drop I) q n (all.drop I') q' ∧ Chg (One R) w w'
def RefAt (l : List UInt8) (j : Nat) (nz sz : Int) : Prop := ∀ m t, l = arNum m ++ t → m < 9223372036854775808 → j ≤ 8 ∧ sz = ((128 ^ j : Nat) : Int) ∧ ∃ n m' : Nat, nz = (n : Int) ∧ l.drop j = arNum m' ++ t ∧ n + 128 ^ j * m' = m
theorem RefAt.start (l : List UInt8) : RefAt l 0 0 1 := fun m t h _ => ⟨by omega, by simp, 0, m, rfl, h, by simp⟩
theorem RefAt.byte {l : List UInt8} {j : Nat} {nz sz : Int} {c : UInt8} (h : RefAt l j nz sz) (hc : l[j]? = some c) {m : Nat} {t : List UInt8} (hl : l = arNum m ++ t) (hm : m < 9223372036854775808) :
    ∃ n m' : Nat, j ≤ 8 ∧ sz = ((128 ^ j : Nat) : Int) ∧ nz = (n : Int) ∧ n + 128 ^ j * m' = m ∧ ((c.toNat < 128 ∧ m' = c.toNat ∧ l.drop (j + 1) = t) ∨ (128 ≤ c.toNat ∧ m' % 128 = c.toNat % 128 ∧ 128 ≤ m' ∧ l.drop (j + 1) = arNum (m' / 128) ++ t)) := by
  obtain ⟨e1, e2, n, m', e3, e4, e5⟩ := h m t hl hm
  have hj := (List.getElem?_eq_some_iff.1 hc).1
  have he : l[j] = c := (List.getElem?_eq_some_iff.1 hc).2
  rw [List.drop_eq_getElem_cons hj, he] at e4
  exact ⟨n, m', e1, e2, e3, e5, arNum_head e4⟩
theorem RefAt.sum {l : List UInt8} {j : Nat} {nz sz : Int} {c : UInt8} (h : RefAt l j nz sz) (hc : l[j]? = some c) {m : Nat} {t : List UInt8} (hl : l = arNum m ++ t) (hm : m < 9223372036854775808) :
    ∃ n m' : Nat, j ≤ 8 ∧ sz = ((128 ^ j : Nat) : Int) ∧ wrap64 (nz + wrap64 (sz * (c.toNat % 128 : Nat))) = ((n + 128 ^ j * (c.toNat % 128) : Nat) : Int) ∧ n + 128 ^ j * m' = m ∧ ((c.toNat < 128 ∧ m' = c.toNat ∧ l.drop (j + 1) = t) ∨ (128 ≤ c.toNat ∧ m' % 128 = c.toNat % 128 ∧ 128 ≤ m' ∧ l.drop (j + 1) = arNum (m' / 128) ++ t)) := by
  obtain ⟨n, m', e1, e2, e3, e4, e5⟩ := h.byte hc hl hm
  have h1 : c.toNat % 128 ≤ m' := by rcases e5 with ⟨_, h, _⟩ | ⟨_, h, _, _⟩ <;> omega
  have h2 : 128 ^ j * (c.toNat % 128) ≤ 128 ^ j * m' := Nat.mul_le_mul (Nat.le_refl _) h1
  refine ⟨n, m', e1, e2, ?_, e4, e5⟩
  rw [e2, e3, ← Int.natCast_mul]
  generalize 128 ^ j * (c.toNat % 128) = p at *
  rw [show wrap64 (p : Int) = (p : Int) from w64 (by omega), ← Int.natCast_add, w64 (by omega)]
theorem RefAt.more {l : List UInt8} {j : Nat} {nz sz : Int} {c : UInt8} (h : RefAt l j nz sz) (hc : l[j]? = some c) (hlt : 128 ≤ c.toNat) : RefAt l (j + 1) (wrap64 (nz + wrap64 (sz * (c.toNat % 128 : Nat)))) (wrap64 (sz * 128)) := by
  intro m t hl hm
  obtain ⟨n, m', e1, e2, e3, e4, e5⟩ := h.sum hc hl hm
  rcases e5 with ⟨h1, _⟩ | ⟨_, h2, h3, h4⟩
  · omega
  · have h6 : 128 ^ (j + 1) ≤ m := by
      rw [Nat.pow_succ]
      have := Nat.mul_le_mul (Nat.le_refl (128 ^ j)) h3
      omega
    have hj8 : j + 1 ≤ 8 := by
      rcases Nat.lt_or_ge j 8 with h | h
      · omega
      · have h7 : 128 ^ 9 ≤ 128 ^ (j + 1) := Nat.pow_le_pow_right (by omega) (by omega)
        have h8 : (128 : Nat) ^ 9 = 9223372036854775808 := by decide
        omega
    refine ⟨hj8, ?_, n + 128 ^ j * (c.toNat % 128), m' / 128, e3, h4, ?_⟩
    · rw [e2, Nat.pow_succ]
      rw [Nat.pow_succ] at h6
      generalize 128 ^ j = p at *
      rw [w64 (by omega)]
      omega
    · rw [← e4, ← h2, Nat.pow_succ]
      have h9 := Nat.div_add_mod m' 128
      have h10 : 128 ^ j * m' = 128 ^ j * (128 * (m' / 128)) + 128 ^ j * (m' % 128) := by rw [← Nat.mul_add, h9]
      rw [h10, Nat.mul_assoc]
      omega
theorem RefAt.last {l : List UInt8} {j : Nat} {nz sz : Int} {c : UInt8} (h : RefAt l j nz sz) (hc : l[j]? = some c) (hlt : c.toNat < 128) {m : Nat} {t : List UInt8} (hl : l = arNum m ++ t) (hm : m < 9223372036854775808) : wrap64 (nz + wrap64 (sz * (c.toNat % 128 : Nat))) = (m : Int) ∧ l.drop (j + 1) = t := by
  obtain ⟨n, m', e1, e2, e3, e4, e5⟩ := h.sum hc hl hm
  rcases e5 with ⟨_, h2, h3⟩ | ⟨h1, _⟩
  · refine ⟨?_, h3⟩
    rw [e3, ← e4, h2, Nat.mod_eq_of_lt hlt]
  · omega
-- WALK
theorem drewN_below (w : World) (n : Nat) : Below w.heap.size w (w.drewN n) := ⟨rfl, rfl, rfl, Nat.le_refl _, fun _ _ => rfl⟩
def posM (R : Nat) (w : World) : Nat := match w.cell? ⟨R, 1, none⟩ with | some (.int _ i) => i.toNat | _ => 0
theorem RdR.pos {B R I : Nat} {w : World} {all : List UInt8} {q : Bool} (h : RdR B w R all I q) : posM R w = I := by
  obtain ⟨b, o, c, h1, _⟩ := h
  unfold posM
  rw [h1.c3.2.1]
  simp
theorem retM_drew {B R I n : Nat} {most : Int} {all : List UInt8} {q : Bool} {w wr : World} {v : Value} {e : Ending} (h : RetM B R most all I q w e (wr.setCell ⟨R, 2, none⟩ v)) : RetM B R most all I q w e ((wr.drewN n).setCell ⟨R, 2, none⟩ v) := by
  obtain ⟨m, I', q', h1, h2, h3, h4, h5⟩ := h
  exact ⟨m, I', q', h1, h2, h3, h4, ⟨h5.os, h5.tape, h5.output, h5.size, h5.block⟩⟩
theorem retM_bad {B R I p : Nat} {most : Int} {all : List UInt8} {q : Bool} {w wr : World} (hB : B ≤ R) (hIp : I ≤ p) (hR : RdR B wr R all p q) (hC : Chg (One R) w wr) (hno : ∀ m t, q = false → all.drop I = arNum m ++ t → (m : Int) ≤ most → ¬ m < 9223372036854775808) : RetM B R most all I q w (.returned (.int .i64 0)) (wr.setCell ⟨R, 2, none⟩ (.bool true)) :=
  ⟨0, p, true, rfl, (hR.set hB).1, hIp, ⟨fun h => (by cases h), fun _ => rfl, fun h => (by cases h), fun m t hq hl hm h63 => absurd h63 (hno m t hq hl hm)⟩, hC.set (p := ⟨R, 2, none⟩) (.inr (show One R R from rfl)) _⟩
set_option maxHeartbeats 4000000 in
set_option maxRecDepth 100000 in
theorem rrNum_any (B R I : Nat) (most : Int) (all : List UInt8) (q : Bool) (w : World) (h : RdR B w R all I q) (hB : B ≤ R) :
    Calls Try.prog 39 #[.pointer (some ⟨R, 0, none⟩), .int .i64 most] w (RetM B R most all I q w) := by
  have HR0 := Lib.hid h
  have hI : I ≤ all.length := by obtain ⟨_, _, _, _, _, _, h, _⟩ := h; exact h
  clear h
  go_enter Try.func39, Try.ntmps39
  go_wp2_with fail
  go_loopw [5, 6, 7] (fun nv sv cv wr => ∃ (j p : Nat) (nz sz : Int), nv = .int .i64 nz ∧ sv = .int .i64 sz ∧ Hid (p = I + j) ∧ p ≤ all.length ∧ Hid (RdR B wr R all p q) ∧ Hid (Chg (One R) w wr) ∧ Hid (RefAt (all.drop I) j nz sz)) (fun _ _ _ wr => all.length - posM R wr)
  case atStart => exact ⟨0, I, 0, 1, rfl, rfl, Lib.hid rfl, hI, HR0, Lib.hid Chg.refl, Lib.hid (RefAt.start _)⟩
  case round =>
    obtain ⟨j, p, nz, sz, rfl, rfl, HP, hp, HR, HC, HA⟩ := hrel
    obtain ⟨b, o, c, hK, hlc, hc, _, hs⟩ := HR.out
    have HS := Lib.hid hs
    have HK := Lib.hid hK
    obtain ⟨d0, d1, d2⟩ := hK.c3
    have fz1 := hK.frozen 1
    have fz2 := hK.frozen 2
    have HBAD : Hid ((∀ m t, q = false → all.drop I = arNum m ++ t → (m : Int) ≤ most → ¬ m < 9223372036854775808) → RetM B R most all I q w (.returned (.int .i64 0)) (wr.setCell ⟨R, 2, none⟩ (.bool true))) := Lib.hid (fun h => retM_bad hB (by rw [HP.out]; omega) HR.out HC.out h)
    clear hK hs
    cases q
    · by_cases hge : all.length ≤ p
      · have z1 : decide ((all.length : Int) ≤ (p : Int)) = true := by simp; omega
        have HF := Lib.hid (HBAD.out (fun m t _ hl _ h63 => by
          obtain ⟨_, _, n, m', _, e4, _⟩ := HA.out m t hl h63
          rw [List.drop_drop, List.drop_eq_nil_of_le (by have := HP.out; omega)] at e4
          exact arNum_nil e4))
        go_upto_region 2 with fail
        refine wp_region_drawV (by kernel_rfl) (by kernel_rfl) ?_
        repeat (refine veil_step (fun K hK => ?_); go_simp; (refine hK _ ?_; clear hK K))
        refine veil_nil ?_
        intro _ hw'
        obtain ⟨nq, rfl⟩ := hw'
        go_wp2_with fail
        go_ret
        exact retM_drew HF.out
      · by_cases hsz : 72057594037927936 < sz
        · have z1 : decide ((all.length : Int) ≤ (p : Int)) = false := by simp; omega
          have z2 : decide ((72057594037927936 : Int) < sz) = true := by simp; omega
          have HF := Lib.hid (HBAD.out (fun m t _ hl _ h63 => by
            obtain ⟨e1, e2, _⟩ := HA.out m t hl h63
            have := pow128_le e1
            omega))
          go_upto_region 2 with fail
          refine wp_region_drawV (by kernel_rfl) (by kernel_rfl) ?_
          repeat (refine veil_step (fun K hK => ?_); go_simp; (refine hK _ ?_; clear hK K))
          refine veil_nil ?_
          intro _ hw'
          obtain ⟨nq, rfl⟩ := hw'
          go_wp2_with fail
          go_ret
          exact retM_drew HF.out
        · have z1 : decide ((all.length : Int) ≤ (p : Int)) = false := by simp; omega
          have z2 : decide ((72057594037927936 : Int) < sz) = false := by simp; omega
          go_upto_region 2 with fail
          refine wp_region_drawV (by kernel_rfl) (by kernel_rfl) ?_
          repeat (refine veil_step (fun K hK => ?_); go_simp; (refine hK _ ?_; clear hK K))
          refine veil_nil ?_
          intro _ hw'
          obtain ⟨nq, rfl⟩ := hw'
          have HRn := HR.out.now hB (drewN_below wr nq)
          have HCn := HC.out.trans (Chg.of_below (S := One R) (drewN_below wr nq))
          obtain ⟨w1, hw1⟩ : ∃ w1, wr.drewN nq = w1 := ⟨_, rfl⟩
          have HS1 : SlC (Lt B) w1 (.slice (some ⟨b, o, none⟩) all.length c) all := by rw [← hw1]; exact HS.out
          have hK1 : Blk w1 R 80 #[.slice (some ⟨b, o, none⟩) all.length c, .int .i64 (p : Int), .bool false] := by rw [← hw1]; exact HK.out
          rw [hw1] at HRn HCn ⊢
          clear hw1 d0 d1 d2 fz1 fz2
          obtain ⟨d0, d1, d2⟩ := hK1.c3
          have fz1 := hK1.frozen 1
          have fz2 := hK1.frozen 2
          obtain ⟨b', o', x, hA', hD, hx, hcx⟩ := SlC.at_ HS1 (k := p) (by omega)
          injection hA' with hA'
          injection hA' with e1 e2 _
          subst e1 e2
          have y1 : (p : Int) < (all.length : Int) := by omega
          have HX := Lib.hid hx
          have HS2 := Lib.hid HS1
          have HK2 := Lib.hid hK1
          clear hx HS1 hK1
          go_wp2_with fail
          refine wp_region_drawV (by kernel_rfl) (by kernel_rfl) ?_
          repeat (refine veil_step (fun K hK => ?_); go_simp; (refine hK _ ?_; clear hK K))
          refine veil_nil ?_
          intro _ hw'
          obtain ⟨nq, rfl⟩ := hw'
          have HRm := Lib.hid (HRn.now hB (drewN_below w1 nq))
          have HCm := Lib.hid (HCn.trans (Chg.of_below (S := One R) (drewN_below w1 nq)))
          obtain ⟨w2, hw2⟩ : ∃ w2, w1.drewN nq = w2 := ⟨_, rfl⟩
          have hK3 : Blk w2 R 80 #[.slice (some ⟨b, o, none⟩) all.length c, .int .i64 (p : Int), .bool false] := by rw [← hw2]; exact HK2.out
          rw [hw2] at HRm HCm ⊢
          clear hw2 d0 d1 d2 fz1 fz2 HRn HCn hcx
          obtain ⟨d0, d1, d2⟩ := hK3.c3
          have fz1 := hK3.frozen 1
          have fz2 := hK3.frozen 2
          have hxb := UInt8.toNat_lt x
          obtain ⟨NZ, hNZ0⟩ : ∃ NZ, wrap64 (nz + wrap64 (sz * ((x.toNat : Int) % 128))) = NZ := ⟨_, rfl⟩
          have hNZ : ∀ y : Int, y = (x.toNat : Int) % 128 → wrap64 (nz + wrap64 (sz * y)) = NZ := fun y hy => by rw [hy]; exact hNZ0
          have hxj : (all.drop I)[j]? = some x := by rw [List.getElem?_drop, ← HP.out]; exact HX.out
          have HNZ : Hid (wrap64 (nz + wrap64 (sz * (x.toNat % 128 : Nat))) = NZ) := Lib.hid (by rw [← hNZ0]; congr 3)
          have hR5 := (HRm.out.set hB).2 (p + 1) (by omega)
          have hC5 := HCm.out.set (p := ⟨R, 1, none⟩) (.inr (show One R R from rfl)) (.int .i64 ((p + 1 : Nat) : Int))
          rw [show ((p + 1 : Nat) : Int) = (p : Int) + 1 by omega] at hR5 hC5
          have HF := Lib.hid (And.intro hR5 hC5)
          have HXJ := Lib.hid hxj
          clear hNZ0 hR5 hC5 hxj HBAD
          by_cases hx128 : x.toNat < 128
          · have hx1 : (x.toNat : Int) < 128 := by omega
            have HL : Hid (∀ m t, all.drop I = arNum m ++ t → m < 9223372036854775808 → NZ = (m : Int) ∧ all.drop (p + 1) = t) := Lib.hid (fun m t hl hm => by
              obtain ⟨g1, g2⟩ := HA.out.last HXJ.out hx128 hl hm
              rw [HNZ.out] at g1
              rw [List.drop_drop] at g2
              exact ⟨g1, by rw [HP.out]; exact g2⟩)
            by_cases hneg : NZ < 0
            · have HB2 := Lib.hid (retM_bad (q := false) (w := w) (most := most) (I := I) hB (by have := HP.out; omega) HF.out.1 HF.out.2 (fun m t _ hl hmm h63 => by have := (HL.out m t hl h63).1; omega))
              clear hx128
              go_wp2_with fail
              go_ret
              exact HB2.out
            · by_cases hbig : most < NZ
              · have HB2 := Lib.hid (retM_bad (q := false) (w := w) (most := most) (I := I) hB (by have := HP.out; omega) HF.out.1 HF.out.2 (fun m t _ hl hmm h63 => by have := (HL.out m t hl h63).1; omega))
                clear hx128
                go_wp2_with fail
                go_ret
                exact HB2.out
              · have HG : Hid (RetM B R most all I false w (.returned (.int .i64 NZ)) (w2.setCell ⟨R, 1, none⟩ (.int .i64 ((p : Int) + 1)))) := Lib.hid ⟨NZ.toNat, p + 1, false, by rw [Int.toNat_of_nonneg (by omega)], HF.out.1, by have := HP.out; omega, ⟨fun _ => by omega, fun h => (by cases h), fun h => h, fun m t _ hl _ h63 => ⟨by have := (HL.out m t hl h63).1; omega, (HL.out m t hl h63).2, rfl⟩⟩, HF.out.2⟩
                clear hx128
                go_wp2_with fail
                go_ret
                exact HG.out
          · have hx1 : ¬ (x.toNat : Int) < 128 := by omega
            have HMO := HA.out.more HXJ.out (by omega)
            rw [HNZ.out] at HMO
            have HM := Lib.hid HMO
            have HMS : Hid (all.length - posM R (w2.setCell ⟨R, 1, none⟩ (.int .i64 ((p : Int) + 1))) < all.length - posM R wr) := Lib.hid (by
              rw [HR.out.pos, RdR.pos HF.out.1]; omega)
            clear HMO hx128
            go_wp2_with fail
            go_roundw
            case rel => exact ⟨j + 1, p + 1, NZ, _, by first | rfl | rw [hNZ _ rfl], rfl, Lib.hid (by have := HP.out; omega), by omega, Lib.hid HF.out.1, Lib.hid HF.out.2, HM⟩
            case measure => exact HMS.out
    · have HF := Lib.hid (HBAD.out (fun m t hq => by cases hq))
      go_upto_region 2 with fail
      refine wp_region_drawV (by kernel_rfl) (by kernel_rfl) ?_
      repeat (refine veil_step (fun K hK => ?_); go_simp; (refine hK _ ?_; clear hK K))
      refine veil_nil ?_
      intro _ hw'
      obtain ⟨nq, rfl⟩ := hw'
      go_wp2_with fail
      go_ret
      exact retM_drew HF.out
end Go.Proofs.Ytjglmjdfndcmmaa
