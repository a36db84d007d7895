/- Texts of this seat, merged. -/
import Derived.Deep.CutRange
import Derived.Laws.IdiomStrings
import Derived.Deep.QuietTactic
import Derived.BigQuiet
import Derived.Test.YtjglmjdfndcmmaaGreatZp01
import Derived.Test.YtjglmjdfndcmmaaGreatZp02
import Derived.Test.YtjglmjdfndcmmaaGreatZp03
import Derived.Test.YtjglmjdfndcmmaaGreatZp04
import Derived.Test.YtjglmjdfndcmmaaGreatZp07
set_option linter.all false
set_option linter.all false
namespace Go.Proofs.YtjglmjdfndcmmaaGreat
open Go.RowKit
def RdR (B : Nat) (w : World) (R : Nat) (all : List UInt8) (I : Nat) (q : Bool) : Prop := ∃ b o c, Blk w R 76 #[.slice (some ⟨b, o, none⟩) all.length c, .int .i64 (I : Int), .bool q] ∧ all.length ≤ c ∧ c ≤ 9223372036854775807 ∧ I ≤ all.length ∧ SlC (Lt B) w (.slice (some ⟨b, o, none⟩) all.length c) all
theorem RdR.chg {B R I : Nat} {w w' : World} {all : List UInt8} {q : Bool} {S : Nat → Prop} (h : RdR B w R all I q) (k : Chg S w w') (hB : B ≤ w.heap.size) (hR : ¬ S R) (hS : ∀ i, i < B → ¬ S i) : RdR B w' R all I q := by
  obtain ⟨b, o, c, h1, h2, h3, h4, h5⟩ := h
  exact ⟨b, o, c, h1.chg k hR, h2, h3, h4, Sl.below h5 RByte.kept (k.below hB hS) (Nat.le_refl _)⟩
theorem RdR.lt {B R I : Nat} {w : World} {all : List UInt8} {q : Bool} (h : RdR B w R all I q) : R < w.heap.size := by obtain ⟨_, _, _, h, _⟩ := h; exact h.lt
theorem RdR.now {B R I : Nat} {w w' : World} {all : List UInt8} {q : Bool} (h : RdR B w R all I q) (hB : B ≤ R) (hb : Below w.heap.size w w') : RdR B w' R all I q :=
  h.chg (S := fun _ => False) (Chg.of_below hb) (by have := h.lt; omega) id (fun _ _ => id)
theorem RdR.set {B R I : Nat} {w : World} {all : List UInt8} {q : Bool} (h : RdR B w R all I q) (hB : B ≤ R) : (RdR B (w.setCell ⟨R, 2, none⟩ (.bool true)) R all I true) ∧ ∀ I', I' ≤ all.length → RdR B (w.setCell ⟨R, 1, none⟩ (.int .i64 (I' : Int))) R all I' q := by
  obtain ⟨b, o, c, h1, h2, h3, h4, h5⟩ := h
  have hBw : B ≤ w.heap.size := Nat.le_of_lt (Nat.lt_of_le_of_lt hB h1.lt)
  have hne : ∀ i, i < B → ¬ One R i := fun i hi e => by unfold One at e; omega
  have hC : ∀ k u, Chg (One R) w (w.setCell ⟨R, k, none⟩ u) := fun k u => Chg.refl.set (p := ⟨R, k, none⟩) (.inr (show One R R from rfl)) _
  exact ⟨⟨b, o, c, h1.set_ 2 _, h2, h3, h4, Sl.below h5 RByte.kept ((hC _ _).below hBw hne) (Nat.le_refl _)⟩, fun I' hI => ⟨b, o, c, h1.set_ 1 _, h2, h3, hI, Sl.below h5 RByte.kept ((hC _ _).below hBw hne) (Nat.le_refl _)⟩⟩
theorem RdR.far {B R I : Nat} {w : World} {all : List UInt8} {q : Bool} (h : RdR B w R all I q) (hB : B ≤ R) {p : Addr} (hp : p.block ≠ R ∧ B ≤ p.block) (u : Value) : RdR B (w.setCell p u) R all I q :=
  h.chg (S := fun i => i = p.block) (Chg.set (S := fun i => i = p.block) Chg.refl (.inr rfl) u) (by have := h.lt; omega) (fun e => hp.1 e.symm) (fun i hi e => by omega)
structure GotM (most : Int) (l : List UInt8) (q : Bool) (n : Nat) (l' : List UInt8) (q' : Bool) : Prop where
  le : q' = false → (n : Int) ≤ most
  zero : q' = true → n = 0
  up : q' = false → q = false
  whole : ∀ m t, q = false → l = arNum m ++ t → (m : Int) ≤ most → m < 9223372036854775808 → n = m ∧ l' = t ∧ q' = false
def RetM (B R : Nat) (most : Int) (all : List UInt8) (I : Nat) (q : Bool) (w : World) (e : Ending) (w' : World) : Prop := ∃ (n I' : Nat) (q' : Bool), e = .returned (.int .i64 ((n : Nat) : Int)) ∧ RdR B w' R all I' q' ∧ I ≤ I' ∧ GotM most (all.drop I) q n (all.drop I') q' ∧ Chg (One R) w w'
def RefAt (l : List UInt8) (j : Nat) (nz sz : Int) : Prop := ∀ m t, l = arNum m ++ t → m < 9223372036854775808 → j ≤ 8 ∧ sz = ((128 ^ j : Nat) : Int) ∧ ∃ n m' : Nat, nz = (n : Int) ∧ l.drop j = arNum m' ++ t ∧ n + 128 ^ j * m' = m
theorem RefAt.start (l : List UInt8) : RefAt l 0 0 1 := fun m t h _ => ⟨by omega, by simp, 0, m, rfl, h, by simp⟩
theorem RefAt.byte {l : List UInt8} {j : Nat} {nz sz : Int} {c : UInt8} (h : RefAt l j nz sz) (hc : l[j]? = some c) {m : Nat} {t : List UInt8} (hl : l = arNum m ++ t) (hm : m < 9223372036854775808) :
    ∃ n m' : Nat, j ≤ 8 ∧ sz = ((128 ^ j : Nat) : Int) ∧ nz = (n : Int) ∧ n + 128 ^ j * m' = m ∧ ((c.toNat < 128 ∧ m' = c.toNat ∧ l.drop (j + 1) = t) ∨ (128 ≤ c.toNat ∧ m' % 128 = c.toNat % 128 ∧ 128 ≤ m' ∧ l.drop (j + 1) = arNum (m' / 128) ++ t)) := by
  obtain ⟨e1, e2, n, m', e3, e4, e5⟩ := h m t hl hm
  have hj := (List.getElem?_eq_some_iff.1 hc).1
  have he : l[j] = c := (List.getElem?_eq_some_iff.1 hc).2
  rw [List.drop_eq_getElem_cons hj, he] at e4
  exact ⟨n, m', e1, e2, e3, e5, arNum_head e4⟩
theorem RefAt.sum {l : List UInt8} {j : Nat} {nz sz : Int} {c : UInt8} (h : RefAt l j nz sz) (hc : l[j]? = some c) {m : Nat} {t : List UInt8} (hl : l = arNum m ++ t) (hm : m < 9223372036854775808) :
    ∃ n m' : Nat, j ≤ 8 ∧ sz = ((128 ^ j : Nat) : Int) ∧ wrap64 (nz + wrap64 (sz * (c.toNat % 128 : Nat))) = ((n + 128 ^ j * (c.toNat % 128) : Nat) : Int) ∧ n + 128 ^ j * m' = m ∧ ((c.toNat < 128 ∧ m' = c.toNat ∧ l.drop (j + 1) = t) ∨ (128 ≤ c.toNat ∧ m' % 128 = c.toNat % 128 ∧ 128 ≤ m' ∧ l.drop (j + 1) = arNum (m' / 128) ++ t)) := by
  obtain ⟨n, m', e1, e2, e3, e4, e5⟩ := h.byte hc hl hm
  have h1 : c.toNat % 128 ≤ m' := by rcases e5 with ⟨_, h, _⟩ | ⟨_, h, _, _⟩ <;> omega
  have h2 : 128 ^ j * (c.toNat % 128) ≤ 128 ^ j * m' := Nat.mul_le_mul (Nat.le_refl _) h1
  refine ⟨n, m', e1, e2, ?_, e4, e5⟩
  rw [e2, e3, ← Int.natCast_mul]
  generalize 128 ^ j * (c.toNat % 128) = p at *
  rw [show wrap64 (p : Int) = (p : Int) from w64 (by omega), ← Int.natCast_add, w64 (by omega)]
theorem RefAt.more {l : List UInt8} {j : Nat} {nz sz : Int} {c : UInt8} (h : RefAt l j nz sz) (hc : l[j]? = some c) (hlt : 128 ≤ c.toNat) : RefAt l (j + 1) (wrap64 (nz + wrap64 (sz * (c.toNat % 128 : Nat)))) (wrap64 (sz * 128)) := by
  intro m t hl hm
  obtain ⟨n, m', e1, e2, e3, e4, e5⟩ := h.sum hc hl hm
  rcases e5 with ⟨h1, _⟩ | ⟨_, h2, h3, h4⟩
  · omega
  · have h6 : 128 ^ (j + 1) ≤ m := by
      rw [Nat.pow_succ]
      have := Nat.mul_le_mul (Nat.le_refl (128 ^ j)) h3
      omega
    have hj8 : j + 1 ≤ 8 := by
      rcases Nat.lt_or_ge j 8 with h | h
      · omega
      · have h7 : 128 ^ 9 ≤ 128 ^ (j + 1) := Nat.pow_le_pow_right (by omega) (by omega)
        have h8 : (128 : Nat) ^ 9 = 9223372036854775808 := by decide
        omega
    refine ⟨hj8, ?_, n + 128 ^ j * (c.toNat % 128), m' / 128, e3, h4, ?_⟩
    · rw [e2, Nat.pow_succ]
      rw [Nat.pow_succ] at h6
      generalize 128 ^ j = p at *
      rw [w64 (by omega)]
      omega
    · rw [← e4, ← h2, Nat.pow_succ]
      have h9 := Nat.div_add_mod m' 128
      have h10 : 128 ^ j * m' = 128 ^ j * (128 * (m' / 128)) + 128 ^ j * (m' % 128) := by rw [← Nat.mul_add, h9]
      rw [h10, Nat.mul_assoc]
      omega
theorem RefAt.last {l : List UInt8} {j : Nat} {nz sz : Int} {c : UInt8} (h : RefAt l j nz sz) (hc : l[j]? = some c) (hlt : c.toNat < 128) {m : Nat} {t : List UInt8} (hl : l = arNum m ++ t) (hm : m < 9223372036854775808) : wrap64 (nz + wrap64 (sz * (c.toNat % 128 : Nat))) = (m : Int) ∧ l.drop (j + 1) = t := by
  obtain ⟨n, m', e1, e2, e3, e4, e5⟩ := h.sum hc hl hm
  rcases e5 with ⟨_, h2, h3⟩ | ⟨h1, _⟩
  · refine ⟨?_, h3⟩
    rw [e3, ← e4, h2, Nat.mod_eq_of_lt hlt]
  · omega
-- WALK
theorem drewN_below (w : World) (n : Nat) : Below w.heap.size w (w.drewN n) := ⟨rfl, rfl, rfl, Nat.le_refl _, fun _ _ => rfl⟩
def posM (R : Nat) (w : World) : Nat := match w.cell? ⟨R, 1, none⟩ with | some (.int _ i) => i.toNat | _ => 0
theorem RdR.pos {B R I : Nat} {w : World} {all : List UInt8} {q : Bool} (h : RdR B w R all I q) : posM R w = I := by
  obtain ⟨b, o, c, h1, _⟩ := h
  unfold posM
  rw [h1.c3.2.1]
  simp
theorem retM_drew {B R I n : Nat} {most : Int} {all : List UInt8} {q : Bool} {w wr : World} {v : Value} {e : Ending} (h : RetM B R most all I q w e (wr.setCell ⟨R, 2, none⟩ v)) : RetM B R most all I q w e ((wr.drewN n).setCell ⟨R, 2, none⟩ v) := by
  obtain ⟨m, I', q', h1, h2, h3, h4, h5⟩ := h
  exact ⟨m, I', q', h1, h2, h3, h4, ⟨h5.os, h5.tape, h5.output, h5.size, h5.block⟩⟩
theorem retM_bad {B R I p : Nat} {most : Int} {all : List UInt8} {q : Bool} {w wr : World} (hB : B ≤ R) (hIp : I ≤ p) (hR : RdR B wr R all p q) (hC : Chg (One R) w wr) (hno : ∀ m t, q = false → all.drop I = arNum m ++ t → (m : Int) ≤ most → ¬ m < 9223372036854775808) : RetM B R most all I q w (.returned (.int .i64 0)) (wr.setCell ⟨R, 2, none⟩ (.bool true)) :=
  ⟨0, p, true, rfl, (hR.set hB).1, hIp, ⟨fun h => (by cases h), fun _ => rfl, fun h => (by cases h), fun m t hq hl hm h63 => absurd h63 (hno m t hq hl hm)⟩, hC.set (p := ⟨R, 2, none⟩) (.inr (show One R R from rfl)) _⟩
set_option maxHeartbeats 4000000 in
set_option maxRecDepth 100000 in
theorem rrNum_any (B R I : Nat) (most : Int) (all : List UInt8) (q : Bool) (w : World) (h : RdR B w R all I q) (hB : B ≤ R) :
    Calls Tryz.prog 33 #[.pointer (some ⟨R, 0, none⟩), .int .i64 most] w (RetM B R most all I q w) := by
  have HR0 := Lib.hid h
  have hI : I ≤ all.length := by obtain ⟨_, _, _, _, _, _, h, _⟩ := h; exact h
  clear h
  go_enter Tryz.func33, Tryz.ntmps33
  go_wp2_with fail
  go_loopw [5, 6, 7] (fun nv sv cv wr => ∃ (j p : Nat) (nz sz : Int), nv = .int .i64 nz ∧ sv = .int .i64 sz ∧ Hid (p = I + j) ∧ p ≤ all.length ∧ Hid (RdR B wr R all p q) ∧ Hid (Chg (One R) w wr) ∧ Hid (RefAt (all.drop I) j nz sz)) (fun _ _ _ wr => all.length - posM R wr)
  case atStart => exact ⟨0, I, 0, 1, rfl, rfl, Lib.hid rfl, hI, HR0, Lib.hid Chg.refl, Lib.hid (RefAt.start _)⟩
  case round =>
    obtain ⟨j, p, nz, sz, rfl, rfl, HP, hp, HR, HC, HA⟩ := hrel
    obtain ⟨b, o, c, hK, hlc, hc, _, hs⟩ := HR.out
    have HS := Lib.hid hs
    have HK := Lib.hid hK
    obtain ⟨d0, d1, d2⟩ := hK.c3
    have fz1 := hK.frozen 1
    have fz2 := hK.frozen 2
    have HBAD : Hid ((∀ m t, q = false → all.drop I = arNum m ++ t → (m : Int) ≤ most → ¬ m < 9223372036854775808) → RetM B R most all I q w (.returned (.int .i64 0)) (wr.setCell ⟨R, 2, none⟩ (.bool true))) := Lib.hid (fun h => retM_bad hB (by rw [HP.out]; omega) HR.out HC.out h)
    clear hK hs
    cases q
    · by_cases hge : all.length ≤ p
      · have z1 : decide ((all.length : Int) ≤ (p : Int)) = true := by simp; omega
        have HF := Lib.hid (HBAD.out (fun m t _ hl _ h63 => by
          obtain ⟨_, _, n, m', _, e4, _⟩ := HA.out m t hl h63
          rw [List.drop_drop, List.drop_eq_nil_of_le (by have := HP.out; omega)] at e4
          exact arNum_nil e4))
        go_upto_region 2 with fail
        refine wp_region_drawV (by kernel_rfl) (by kernel_rfl) ?_
        repeat (refine veil_step (fun K hK => ?_); go_simp; (refine hK _ ?_; clear hK K))
        refine veil_nil ?_
        intro _ hw'
        obtain ⟨nq, rfl⟩ := hw'
        go_wp2_with fail
        go_ret
        exact retM_drew HF.out
      · by_cases hsz : 72057594037927936 < sz
        · have z1 : decide ((all.length : Int) ≤ (p : Int)) = false := by simp; omega
          have z2 : decide ((72057594037927936 : Int) < sz) = true := by simp; omega
          have HF := Lib.hid (HBAD.out (fun m t _ hl _ h63 => by
            obtain ⟨e1, e2, _⟩ := HA.out m t hl h63
            have := pow128_le e1
            omega))
          go_upto_region 2 with fail
          refine wp_region_drawV (by kernel_rfl) (by kernel_rfl) ?_
          repeat (refine veil_step (fun K hK => ?_); go_simp; (refine hK _ ?_; clear hK K))
          refine veil_nil ?_
          intro _ hw'
          obtain ⟨nq, rfl⟩ := hw'
          go_wp2_with fail
          go_ret
          exact retM_drew HF.out
        · have z1 : decide ((all.length : Int) ≤ (p : Int)) = false := by simp; omega
          have z2 : decide ((72057594037927936 : Int) < sz) = false := by simp; omega
          go_upto_region 2 with fail
          refine wp_region_drawV (by kernel_rfl) (by kernel_rfl) ?_
          repeat (refine veil_step (fun K hK => ?_); go_simp; (refine hK _ ?_; clear hK K))
          refine veil_nil ?_
          intro _ hw'
          obtain ⟨nq, rfl⟩ := hw'
          have HRn := HR.out.now hB (drewN_below wr nq)
          have HCn := HC.out.trans (Chg.of_below (S := One R) (drewN_below wr nq))
          obtain ⟨w1, hw1⟩ : ∃ w1, wr.drewN nq = w1 := ⟨_, rfl⟩
          have HS1 : SlC (Lt B) w1 (.slice (some ⟨b, o, none⟩) all.length c) all := by rw [← hw1]; exact HS.out
          have hK1 : Blk w1 R 76 #[.slice (some ⟨b, o, none⟩) all.length c, .int .i64 (p : Int), .bool false] := by rw [← hw1]; exact HK.out
          rw [hw1] at HRn HCn ⊢
          clear hw1 d0 d1 d2 fz1 fz2
          obtain ⟨d0, d1, d2⟩ := hK1.c3
          have fz1 := hK1.frozen 1
          have fz2 := hK1.frozen 2
          obtain ⟨b', o', x, hA', hD, hx, hcx⟩ := SlC.at_ HS1 (k := p) (by omega)
          injection hA' with hA'
          injection hA' with e1 e2 _
          subst e1 e2
          have y1 : (p : Int) < (all.length : Int) := by omega
          have HX := Lib.hid hx
          have HS2 := Lib.hid HS1
          have HK2 := Lib.hid hK1
          clear hx HS1 hK1
          go_wp2_with fail
          refine wp_region_drawV (by kernel_rfl) (by kernel_rfl) ?_
          repeat (refine veil_step (fun K hK => ?_); go_simp; (refine hK _ ?_; clear hK K))
          refine veil_nil ?_
          intro _ hw'
          obtain ⟨nq, rfl⟩ := hw'
          have HRm := Lib.hid (HRn.now hB (drewN_below w1 nq))
          have HCm := Lib.hid (HCn.trans (Chg.of_below (S := One R) (drewN_below w1 nq)))
          obtain ⟨w2, hw2⟩ : ∃ w2, w1.drewN nq = w2 := ⟨_, rfl⟩
          have hK3 : Blk w2 R 76 #[.slice (some ⟨b, o, none⟩) all.length c, .int .i64 (p : Int), .bool false] := by rw [← hw2]; exact HK2.out
          rw [hw2] at HRm HCm ⊢
          clear hw2 d0 d1 d2 fz1 fz2 HRn HCn hcx
          obtain ⟨d0, d1, d2⟩ := hK3.c3
          have fz1 := hK3.frozen 1
          have fz2 := hK3.frozen 2
          have hxb := UInt8.toNat_lt x
          obtain ⟨NZ, hNZ0⟩ : ∃ NZ, wrap64 (nz + wrap64 (sz * ((x.toNat : Int) % 128))) = NZ := ⟨_, rfl⟩
          have hNZ : ∀ y : Int, y = (x.toNat : Int) % 128 → wrap64 (nz + wrap64 (sz * y)) = NZ := fun y hy => by rw [hy]; exact hNZ0
          have hxj : (all.drop I)[j]? = some x := by rw [List.getElem?_drop, ← HP.out]; exact HX.out
          have HNZ : Hid (wrap64 (nz + wrap64 (sz * (x.toNat % 128 : Nat))) = NZ) := Lib.hid (by rw [← hNZ0]; congr 3)
          have hR5 := (HRm.out.set hB).2 (p + 1) (by omega)
          have hC5 := HCm.out.set (p := ⟨R, 1, none⟩) (.inr (show One R R from rfl)) (.int .i64 ((p + 1 : Nat) : Int))
          rw [show ((p + 1 : Nat) : Int) = (p : Int) + 1 by omega] at hR5 hC5
          have HF := Lib.hid (And.intro hR5 hC5)
          have HXJ := Lib.hid hxj
          clear hNZ0 hR5 hC5 hxj HBAD
          by_cases hx128 : x.toNat < 128
          · have hx1 : (x.toNat : Int) < 128 := by omega
            have HL : Hid (∀ m t, all.drop I = arNum m ++ t → m < 9223372036854775808 → NZ = (m : Int) ∧ all.drop (p + 1) = t) := Lib.hid (fun m t hl hm => by
              obtain ⟨g1, g2⟩ := HA.out.last HXJ.out hx128 hl hm
              rw [HNZ.out] at g1
              rw [List.drop_drop] at g2
              exact ⟨g1, by rw [HP.out]; exact g2⟩)
            by_cases hneg : NZ < 0
            · have HB2 := Lib.hid (retM_bad (q := false) (w := w) (most := most) (I := I) hB (by have := HP.out; omega) HF.out.1 HF.out.2 (fun m t _ hl hmm h63 => by have := (HL.out m t hl h63).1; omega))
              clear hx128
              go_wp2_with fail
              go_ret
              exact HB2.out
            · by_cases hbig : most < NZ
              · have HB2 := Lib.hid (retM_bad (q := false) (w := w) (most := most) (I := I) hB (by have := HP.out; omega) HF.out.1 HF.out.2 (fun m t _ hl hmm h63 => by have := (HL.out m t hl h63).1; omega))
                clear hx128
                go_wp2_with fail
                go_ret
                exact HB2.out
              · have HG : Hid (RetM B R most all I false w (.returned (.int .i64 NZ)) (w2.setCell ⟨R, 1, none⟩ (.int .i64 ((p : Int) + 1)))) := Lib.hid ⟨NZ.toNat, p + 1, false, by rw [Int.toNat_of_nonneg (by omega)], HF.out.1, by have := HP.out; omega, ⟨fun _ => by omega, fun h => (by cases h), fun h => h, fun m t _ hl _ h63 => ⟨by have := (HL.out m t hl h63).1; omega, (HL.out m t hl h63).2, rfl⟩⟩, HF.out.2⟩
                clear hx128
                go_wp2_with fail
                go_ret
                exact HG.out
          · have hx1 : ¬ (x.toNat : Int) < 128 := by omega
            have HMO := HA.out.more HXJ.out (by omega)
            rw [HNZ.out] at HMO
            have HM := Lib.hid HMO
            have HMS : Hid (all.length - posM R (w2.setCell ⟨R, 1, none⟩ (.int .i64 ((p : Int) + 1))) < all.length - posM R wr) := Lib.hid (by
              rw [HR.out.pos, RdR.pos HF.out.1]; omega)
            clear HMO hx128
            go_wp2_with fail
            go_roundw
            case rel => exact ⟨j + 1, p + 1, NZ, _, by first | rfl | rw [hNZ _ rfl], rfl, Lib.hid (by have := HP.out; omega), by omega, Lib.hid HF.out.1, Lib.hid HF.out.2, HM⟩
            case measure => exact HMS.out
    · have HF := Lib.hid (HBAD.out (fun m t hq => by cases hq))
      go_upto_region 2 with fail
      refine wp_region_drawV (by kernel_rfl) (by kernel_rfl) ?_
      repeat (refine veil_step (fun K hK => ?_); go_simp; (refine hK _ ?_; clear hK K))
      refine veil_nil ?_
      intro _ hw'
      obtain ⟨nq, rfl⟩ := hw'
      go_wp2_with fail
      go_ret
      exact retM_drew HF.out
end Go.Proofs.YtjglmjdfndcmmaaGreat

set_option linter.all false
namespace Go.Proofs.YtjglmjdfndcmmaaGreat
open Go.RowKit
structure GotU (l : List UInt8) (q : Bool) (s : ByteArray) (l' : List UInt8) (q' : Bool) : Prop where
  size : s.size ≤ 1000
  up : q' = false → q = false
  whole : ∀ s0 t, q = false → l = arText s0 ++ t → s0.length ≤ 1000 → s.data.toList = s0 ∧ l' = t ∧ q' = false
def RetU (B R : Nat) (all : List UInt8) (I : Nat) (q : Bool) (w : World) (e : Ending) (w' : World) : Prop := ∃ (s : ByteArray) (I' : Nat) (q' : Bool), e = .returned (.string s) ∧ RdR B w' R all I' q' ∧ I ≤ I' ∧ GotU (all.drop I) q s (all.drop I') q' ∧ Chg (One R) w w'
theorem rrNum_z (B R I most : Nat) (z : Int) (hz : z = (most : Int)) (all : List UInt8) (q : Bool) (w : World) (h : RdR B w R all I q) (hB : B ≤ R) :
    Calls Tryz.prog 33 #[.pointer (some ⟨R, 0, none⟩), .int .i64 z] w (RetM B R z all I q w) := rrNum_any B R I z all q w h hB
theorem GotM.text {l l1 : List UInt8} {q q1 : Bool} {n : Nat} (h : GotM 1000 l q n l1 q1) {s0 t : List UInt8} (hq : q = false) (he : l = arText s0 ++ t) (hs : s0.length ≤ 1000) : n = s0.length ∧ l1 = s0 ++ t ∧ q1 = false :=
  h.whole _ _ hq (by rw [he]; unfold arText; rw [List.append_assoc]) (by omega) (by omega)
theorem GotM.le' {most : Nat} {l l1 : List UInt8} {q q1 : Bool} {n : Nat} (h : GotM (most : Int) l q n l1 q1) : n ≤ most := by
  cases q1
  · have := h.le rfl; omega
  · rw [h.zero rfl]; exact Nat.zero_le _
theorem retU_bad {B R I I1 n : Nat} {all : List UInt8} {q q1 : Bool} {w w1 : World} (hB : B ≤ R) (hI : I ≤ I1) (hR : RdR B w1 R all I1 q1) (hC : Chg (One R) w w1) (hG : GotM 1000 (all.drop I) q n (all.drop I1) q1) (h : q1 = true ∨ all.length < I1 + n) (nq : Nat) : RetU B R all I q w (.returned (.string ⟨#[]⟩)) ((w1.drewN nq).setCell ⟨R, 2, none⟩ (.bool true)) := by
  have hR2 := hR.now hB (drewN_below w1 nq)
  have hIl : I1 ≤ all.length := by obtain ⟨_, _, _, _, _, _, h, _⟩ := hR; exact h
  refine ⟨⟨#[]⟩, I1, true, rfl, (hR2.set hB).1, hI, ⟨Nat.zero_le _, fun h => (by cases h), fun s0 t hq he hs => ?_⟩, (hC.trans (Chg.of_below (drewN_below w1 nq))).set (p := ⟨R, 2, none⟩) (.inr (show One R R from rfl)) _⟩
  obtain ⟨e1, e2, e3⟩ := hG.text hq he hs
  rcases h with h | h
  · rw [e3] at h; cases h
  · have := congrArg List.length e2
    rw [List.length_drop, List.length_append] at this
    omega
set_option maxHeartbeats 4000000 in
set_option maxRecDepth 100000 in
theorem rrText_any (B R I : Nat) (all : List UInt8) (q : Bool) (w : World) (h : RdR B w R all I q) (hB : B ≤ R) (hal : all.length ≤ 1000000) :
    Calls Tryz.prog 52 #[.pointer (some ⟨R, 0, none⟩)] w (RetU B R all I q w) := by
  have HN := Lib.hid (rrNum_z B R I 1000 1000 rfl all q w h hB)
  clear h
  go_enter Tryz.func52, Tryz.ntmps52
  go_wp2_with fail
  (with_reducible refine HN.out.mono ?_)
  rintro _ w1 ⟨n, I1, q1, rfl, hR1, hI1, hG, hC⟩
  have hn := hG.le' (most := 1000)
  have HR := Lib.hid hR1
  have HG := Lib.hid hG
  have HC := Lib.hid hC
  have HI := Lib.hid hI1
  obtain ⟨b, o, c, hK, hlc, hc, hil, hs⟩ := hR1
  obtain ⟨d0, d1, d2⟩ := hK.c3
  have fz1 := hK.frozen 1
  have fz2 := hK.frozen 2
  have HS := Lib.hid hs
  have HK := Lib.hid hK
  have hwr : IntKind.i64.wrap ((I1 : Int) + (n : Int)) = (I1 : Int) + (n : Int) := i64wrap (by omega)
  clear hG hC hI1 hK hs HN
  cases q1
  · by_cases hbig : all.length < I1 + n
    · have z1 : decide ((all.length : Int) < (I1 : Int) + (n : Int)) = true := by simp; omega
      have HF := Lib.hid (fun nq => retU_bad hB HI.out HR.out HC.out HG.out (.inr hbig) nq)
      clear hbig
      go_upto_region 2 with fail
      refine wp_region_drawV (by kernel_rfl) (by kernel_rfl) ?_
      repeat (refine veil_step (fun K hK => ?_); go_simp; (refine hK _ ?_; clear hK K))
      refine veil_nil ?_
      intro _ hw'
      obtain ⟨nq, rfl⟩ := hw'
      go_wp2_with fail
      go_ret
      exact HF.out _
    · have z1 : decide ((all.length : Int) < (I1 : Int) + (n : Int)) = false := by simp; omega
      go_upto_region 2 with fail
      refine wp_region_drawV (by kernel_rfl) (by kernel_rfl) ?_
      repeat (refine veil_step (fun K hK => ?_); go_simp; (refine hK _ ?_; clear hK K))
      refine veil_nil ?_
      intro _ hw'
      obtain ⟨nq, rfl⟩ := hw'
      have HRn := HR.out.now hB (drewN_below w1 nq)
      have HCn := HC.out.trans (Chg.of_below (S := One R) (drewN_below w1 nq))
      obtain ⟨w2, hw2⟩ : ∃ w2, w1.drewN nq = w2 := ⟨_, rfl⟩
      have HS2 : SlC (Lt B) w2 (.slice (some ⟨b, o, none⟩) all.length c) all := by rw [← hw2]; exact HS.out
      have hK2 : Blk w2 R 76 #[.slice (some ⟨b, o, none⟩) all.length c, .int .i64 (I1 : Int), .bool false] := by rw [← hw2]; exact HK.out
      rw [hw2] at HRn HCn ⊢
      clear hw2 d0 d1 d2 fz1 fz2 z1
      obtain ⟨d0, d1, d2⟩ := hK2.c3
      have HK2 := Lib.hid hK2
      have HRn := Lib.hid HRn
      have HCn := Lib.hid HCn
      have htl : ((all.drop I1).take n).length = n := by rw [List.length_take, List.length_drop]; omega
      have HT : Hid (GotU (all.drop I) q ⟨((all.drop I1).take n).toArray⟩ (all.drop (I1 + n)) false) := Lib.hid ⟨by show ((all.drop I1).take n).toArray.size ≤ _; rw [List.size_toArray, htl]; exact hn, fun _ => HG.out.up rfl, fun s0 t hq he hs => by
        obtain ⟨e1, e2, -⟩ := HG.out.text hq he hs
        refine ⟨?_, ?_, rfl⟩
        · show ((all.drop I1).take n).toArray.toList = s0
          rw [e1, e2]; simp
        · rw [← List.drop_drop, e1, e2]; simp⟩
      have m1 : (I1 : Int) ≤ (I1 : Int) + (n : Int) := by omega
      have m2 : (I1 : Int) + (n : Int) ≤ (c : Int) := by omega
      have m3 : (0 : Int) ≤ (I1 : Int) + (n : Int) := by omega
      have m4 : ((I1 : Int) + (n : Int)).toNat - I1 = n := by omega
      have hcv0 : ∀ (W : World) (b1 o1 c' : Nat), SlC (Lt B) W (.slice (some ⟨b1, o1, none⟩) ((all.drop I1).take n).length c') ((all.drop I1).take n) → (convert 22 9 (.slice (some ⟨b1, o1, none⟩) n c')).run Tryz.prog W = .ok (.string ⟨((all.drop I1).take n).toArray⟩) W := by
        intro W b1 o1 c' hsl
        have := run_convert_bytes_back (P := Tryz.prog) W 22 9 5 ⟨b1, o1, none⟩ c' ((all.drop I1).take n) Tryz.underlying22 Tryz.underlying5 Tryz.underlying9 (fun j hj => by
          obtain ⟨b', o', x, hA', hD, hx, hcx⟩ := SlC.at_ hsl (k := j) hj
          injection hA' with hA'
          injection hA' with e1 e2 _
          subst e1 e2
          rw [← (List.getElem?_eq_some_iff.1 hx).2] at hcx
          have : ((⟨b1, o1, none⟩ : Addr).add j) = ⟨b1, o1 + j, none⟩ := by unfold Addr.add; by_cases hj : j = 0 <;> simp [hj]
          rw [this]
          exact hcx)
        rw [htl] at this
        exact this
      have HFIN : Hid (∀ nq, RetU B R all I q w (.returned (.string ⟨((all.drop I1).take n).toArray⟩)) ((w2.drewN nq).setCell ⟨R, 1, none⟩ (.int .i64 ((I1 : Int) + (n : Int))))) := Lib.hid (fun nq => by
        have h1 := ((HRn.out.now hB (drewN_below w2 nq)).set hB).2 (I1 + n) (by omega)
        rw [Int.natCast_add] at h1
        exact ⟨_, I1 + n, false, rfl, h1, by have := HI.out; omega, HT.out, (HCn.out.trans (Chg.of_below (drewN_below w2 nq))).set (p := ⟨R, 1, none⟩) (.inr (show One R R from rfl)) _⟩)
      rcases Nat.lt_or_ge I1 c with hic | hic
      · have hsl := Sl.sub HS2 I1 n (c - I1) (by omega) (by omega) (by unfold maxLen; omega)
        rw [Nat.mul_one] at hsl
        have hcv : ∀ m, (convert 22 9 (.slice (some ⟨b, o + I1, none⟩) n (c - I1))).run Tryz.prog (w2.drewN m) = .ok (.string ⟨((all.drop I1).take n).toArray⟩) (w2.drewN m) := fun m => hcv0 (w2.drewN m) _ _ _ (by rw [htl]; exact hsl)
        have hic2 : (I1 : Int) < (c : Int) := by omega
        have hic3 : ¬ c = I1 := by omega
        clear hcv0 hsl HS2 htl hbig hK2
        generalize ((all.drop I1).take n).toArray = sa at *
        go_wp2_with fail
        refine wp_region_drawV (by kernel_rfl) (by kernel_rfl) ?_
        repeat (refine veil_step (fun K hK => ?_); go_simp; (refine hK _ ?_; clear hK K))
        refine veil_nil ?_
        intro _ hw'
        obtain ⟨nq, rfl⟩ := hw'
        have e0 : (w2.drewN nq).cell? ⟨R, 1, none⟩ = some (.int .i64 (I1 : Int)) := HK2.out.c3.2.1
        have fz1 : (w2.drewN nq).frozen? ⟨R, 1, none⟩ = false := HK2.out.frozen 1
        go_wp2_with fail
        go_ret
        exact HFIN.out _
      · have hn0 : n = 0 := by omega
        have hci : c = I1 := by omega
        have htk : (all.drop I1).take n = [] := by rw [hn0]; rfl
        rw [htk] at HFIN hcv0
        have hcv : ∀ m, (convert 22 9 (.slice (some ⟨b, o, none⟩) n 0)).run Tryz.prog (w2.drewN m) = .ok (.string ⟨#[]⟩) (w2.drewN m) := fun m => hcv0 (w2.drewN m) _ _ _ (SlC.empty _ (by omega))
        have m5 : (I1 : Int) + (n : Int) ≤ (I1 : Int) := by omega
        clear hcv0 HS2 htl hbig hK2 hn0 htk m4
        have m4 : ((I1 : Int) + (n : Int)).toNat - I1 = n := by omega
        go_wp2_with fail
        refine wp_region_drawV (by kernel_rfl) (by kernel_rfl) ?_
        repeat (refine veil_step (fun K hK => ?_); go_simp; (refine hK _ ?_; clear hK K))
        refine veil_nil ?_
        intro _ hw'
        obtain ⟨nq, rfl⟩ := hw'
        have e0 : (w2.drewN nq).cell? ⟨R, 1, none⟩ = some (.int .i64 (I1 : Int)) := HK2.out.c3.2.1
        have fz1 : (w2.drewN nq).frozen? ⟨R, 1, none⟩ = false := HK2.out.frozen 1
        go_wp2_with fail
        go_ret
        exact HFIN.out _
  · have HF := Lib.hid (fun nq => retU_bad hB HI.out HR.out HC.out HG.out (.inl rfl) nq)
    go_upto_region 2 with fail
    refine wp_region_drawV (by kernel_rfl) (by kernel_rfl) ?_
    repeat (refine veil_step (fun K hK => ?_); go_simp; (refine hK _ ?_; clear hK K))
    refine veil_nil ?_
    intro _ hw'
    obtain ⟨nq, rfl⟩ := hw'
    go_wp2_with fail
    go_ret
    exact HF.out _
end Go.Proofs.YtjglmjdfndcmmaaGreat

set_option linter.all false
namespace Go.Proofs.YtjglmjdfndcmmaaGreat
open Go.RowKit
structure GotW (l : List UInt8) (q : Bool) (v : Val) (l' : List UInt8) (q' : Bool) : Prop where
  fit : FitV v
  up : q' = false → q = false
  whole : ∀ v0 t, q = false → validV v0 = true → l = arVal v0 ++ t → v = v0 ∧ l' = t ∧ q' = false
theorem GotM.kind {l l1 : List UInt8} {q q1 : Bool} {k : Nat} (h : GotM 3 l q k l1 q1) {v0 : Val} {t r : List UInt8} {m : Nat} (hq : q = false) (hm : m ≤ 3) (he : arVal v0 = arNum m ++ r) (hl : l = arVal v0 ++ t) : k = m ∧ l1 = r ++ t ∧ q1 = false :=
  h.whole m (r ++ t) hq (by rw [hl, he, List.append_assoc]) (by omega) (by omega)
theorem gotW1 {l l1 l2 : List UInt8} {q q1 q2 : Bool} {k m : Nat} (h1 : GotM 3 l q k l1 q1) (hk2 : k ≠ 2) (hk3 : k ≠ 3) (h2 : GotM 18014398509481984 l1 q1 m l2 q2) : GotW l q ⟨k, m, ⟨#[]⟩⟩ l2 q2 := by
  have hle := h2.le' (most := 18014398509481984)
  have hkl := h1.le' (most := 3)
  refine ⟨⟨fitI (by simp only; omega), fitI (by simp only; omega), Nat.zero_le _⟩, fun h => h1.up (h2.up h), fun v0 t hq hv hl => ?_⟩
  rcases val_parts hv with ⟨hk, hn, hs⟩ | ⟨hk, -, -, -⟩ | ⟨hk, -, -, -⟩
  · obtain ⟨e1, e2, e3⟩ := h1.kind hq (by omega) (arVal1 hk) hl
    obtain ⟨e4, e5, e6⟩ := h2.whole _ t e3 e2 (by omega) (by omega)
    refine ⟨?_, e5, e6⟩
    have hs0 := bytes_none hs
    cases v0 with
    | mk a b c =>
      simp only at hk hn hs0 e4
      subst hk hs0
      rw [e1]
      congr
      omega
  · exact absurd (h1.kind hq (by omega) (arVal2 hk) hl).1 hk2
  · exact absurd (h1.kind hq (by omega) (arVal3 hk) hl).1 hk3
theorem gotW2 {l l1 l2 : List UInt8} {q q1 q2 : Bool} {m : Nat} (h1 : GotM 3 l q 2 l1 q1) (h2 : GotM 18014398509481984 l1 q1 m l2 q2) : GotW l q ⟨2, unzig m, ⟨#[]⟩⟩ l2 q2 := by
  have hle := h2.le' (most := 18014398509481984)
  refine ⟨⟨fitI (by simp), fitI (by simp only; unfold unzig; split <;> omega), Nat.zero_le _⟩, fun h => h1.up (h2.up h), fun v0 t hq hv hl => ?_⟩
  rcases val_parts hv with ⟨hk, -, -⟩ | ⟨hk, hn1, hn2, hs⟩ | ⟨hk, -, -, -⟩
  · have := (h1.kind hq (by omega) (arVal1 hk) hl).1; omega
  · obtain ⟨-, e2, e3⟩ := h1.kind hq (by omega) (arVal2 hk) hl
    obtain ⟨z1, z2⟩ := unzig_zig ⟨hn1, hn2⟩
    obtain ⟨e4, e5, e6⟩ := h2.whole _ t e3 e2 (by omega) (by omega)
    refine ⟨?_, e5, e6⟩
    have hs0 := bytes_none hs
    cases v0 with
    | mk a b c =>
      simp only at hk z1 hs0 e4
      subst hk hs0
      rw [e4, z1]
  · have := (h1.kind hq (by omega) (arVal3 hk) hl).1; omega
theorem gotW3 {l l1 l2 : List UInt8} {q q1 q2 : Bool} {s : ByteArray} (h1 : GotM 3 l q 3 l1 q1) (h2 : GotU l1 q1 s l2 q2) : GotW l q ⟨3, 0, s⟩ l2 q2 := by
  refine ⟨⟨fitI (by simp), fitI (by simp), by show s.size ≤ maxLen; have := h2.size; unfold maxLen; omega⟩, fun h => h1.up (h2.up h), fun v0 t hq hv hl => ?_⟩
  rcases val_parts hv with ⟨hk, -, -⟩ | ⟨hk, -, -, -⟩ | ⟨hk, hn, hs, -⟩
  · have := (h1.kind hq (by omega) (arVal1 hk) hl).1; omega
  · have := (h1.kind hq (by omega) (arVal2 hk) hl).1; omega
  · obtain ⟨-, e2, e3⟩ := h1.kind hq (by omega) (arVal3 hk) hl
    obtain ⟨e4, e5, e6⟩ := h2.whole _ t e3 e2 (by rw [size_eq]; omega)
    refine ⟨?_, e5, e6⟩
    cases v0 with
    | mk a b c =>
      simp only at hk hn e4
      subst hk hn
      congr
      cases s; cases c
      simp only at e4
      congr
      exact Array.ext' e4
def RetW (B R : Nat) (all : List UInt8) (I : Nat) (q : Bool) (w : World) (e : Ending) (w' : World) : Prop := ∃ (v : Val) (I' : Nat) (q' : Bool), e = .returned (.agg #[.int .i64 v.kind, .int .i64 v.n, .string v.s]) ∧ RdR B w' R all I' q' ∧ I ≤ I' ∧ GotW (all.drop I) q v (all.drop I') q' ∧ Chg (One R) w w'
theorem retW_fin {B R V off I I2 : Nat} {all : List UInt8} {q q' : Bool} {w W : World} {a m : Int} {s : ByteArray} (u : Value) (hC : Chg (One R) w W) (hR : RdR B W R all I2 q') (hI : I ≤ I2) (hG : GotW (all.drop I) q ⟨a, m, s⟩ (all.drop I2) q') (hB : B ≤ R) (hRl : R < w.heap.size) (hV : w.heap.size ≤ V) :
    RetW B R all I q w (.returned (.agg #[.int .i64 a, .int .i64 m, .string s])) ((((W.setCell ⟨V, off, none⟩ u).setCell ⟨w.heap.size, 0, none⟩ (.int .i64 a)).setCell ⟨w.heap.size, 1, none⟩ (.int .i64 m)).setCell ⟨w.heap.size, 2, none⟩ (.string s)) :=
  ⟨⟨a, m, s⟩, I2, q', rfl, (((hR.far hB (p := ⟨V, off, none⟩) ⟨by show V ≠ R; omega, by show B ≤ V; omega⟩ u).far hB (p := ⟨w.heap.size, 0, none⟩) ⟨by show w.heap.size ≠ R; omega, by show B ≤ w.heap.size; omega⟩ _).far hB (p := ⟨w.heap.size, 1, none⟩) ⟨by show w.heap.size ≠ R; omega, by show B ≤ w.heap.size; omega⟩ _).far hB (p := ⟨w.heap.size, 2, none⟩) ⟨by show w.heap.size ≠ R; omega, by show B ≤ w.heap.size; omega⟩ _, hI, hG,
    (((hC.set (p := ⟨V, off, none⟩) (.inl hV) u).set (p := ⟨w.heap.size, 0, none⟩) (.inl (Nat.le_refl _)) _).set (p := ⟨w.heap.size, 1, none⟩) (.inl (Nat.le_refl _)) _).set (p := ⟨w.heap.size, 2, none⟩) (.inl (Nat.le_refl _)) _⟩
set_option maxHeartbeats 2000000 in
set_option maxRecDepth 100000 in
theorem rrVal_any (B R I : Nat) (all : List UInt8) (q : Bool) (w : World) (h : RdR B w R all I q) (hB : B ≤ R) (hal : all.length ≤ 1000000) :
    Calls Tryz.prog 54 #[.pointer (some ⟨R, 0, none⟩)] w (RetW B R all I q w) := by
  have hRl := h.lt
  have hb1 := bone w (.cells #[.int .i64 0, .int .i64 0, .string ⟨#[]⟩] 62)
  have hP := Blk.new w 62 #[.int .i64 0, .int .i64 0, .string ⟨#[]⟩]
  have HN := Lib.hid (rrNum_z B R I 3 3 rfl all q _ (h.now hB hb1) hB)
  clear h
  go_enter Tryz.func54, Tryz.ntmps54
  go_wp2_with fail
  (with_reducible refine HN.out.mono ?_)
  rintro _ w1 ⟨k, I1, q1, rfl, hR1, hI1, hG1, hC1⟩
  have hne : ¬ One R w.heap.size := fun e => by unfold One at e; omega
  have hP1 := hP.chg hC1 hne
  have hpv := hP1.lt
  have hW1 : Chg (One R) w w1 := (Chg.of_below hb1).trans hC1
  have hb2 := bone w1 (.cells #[.int .i64 k, .int .i64 0, .string ⟨#[]⟩] 62)
  have hV2 := Blk.new w1 62 #[.int .i64 k, .int .i64 0, .string ⟨#[]⟩]
  have hP2 := hP1.now hb2
  have hR2 := hR1.now hB hb2
  have HG1 := Lib.hid hG1
  have hkl := hG1.le' (most := 3)
  have hW2 := Lib.hid (hW1.trans (Chg.of_below hb2))
  obtain ⟨v0, v1, v2⟩ := hV2.c3
  clear hP hP1 hC1 hW1 hb1 HN hR1 hG1
  have e1 : ¬ w1.heap.size = w.heap.size := by omega
  have e2 : ¬ w.heap.size = w1.heap.size := by omega
  by_cases hk3 : k = 3
  · have z1 : ((k : Int) == 3) = true := by simp [hk3]
    have HK := Lib.hid hk3
    have HN := Lib.hid (rrText_any B R I1 all q1 _ hR2 hB hal)
    clear hk3
    go_wp2_with fail
    (with_reducible refine HN.out.mono ?_)
    rintro _ w3 ⟨s, I2, q2, rfl, hR3, hI2, hG3, hC3⟩
    have hV3 := hV2.chg hC3 (fun e => by unfold One at e; omega)
    have hP3 := hP2.chg hC3 hne
    obtain ⟨a0, a1, a2⟩ := hV3.c3
    obtain ⟨b0, b1, b2⟩ := hP3.c3
    have f2 := hV3.frozen 2
    have g0 := hP3.frozen 0
    have g1 := hP3.frozen 1
    have g2 := hP3.frozen 2
    have hk : (k : Int) = 3 := by have := HK.out; omega
    have hgv : GotW (all.drop I) q ⟨(k : Int), 0, s⟩ (all.drop I2) q2 := by
      rw [hk]
      exact gotW3 (by rw [← HK.out]; exact HG1.out) hG3
    have HF := Lib.hid (retW_fin (V := w1.heap.size) (off := 2) (.string s) (hW2.out.trans hC3) hR3 (Nat.le_trans hI1 hI2) hgv hB hRl (by omega))
    have hPf := Lib.hid ((((hP3.far (p := ⟨w1.heap.size, 2, none⟩) e2 (.string s)).set_ 0 (.int .i64 k)).set_ 1 (.int .i64 0)).set_ 2 (.string s))
    clear hP3 hV3 hC3 hR3 hG3 hk hgv
    go_wp2_with fail
    obtain ⟨r0, r1, r2⟩ := Blk.c3 hPf.out
    refine bodyPost_ret (v := .agg #[.int .i64 k, .int .i64 0, .string s]) (by simp [results, Tryz.results54, go_sem, r0, r1, r2]) rfl ?_
    exact HF.out
  have zn1 : ((k : Int) == 3) = false := by simp; omega
  have HN := Lib.hid (rrNum_z B R I1 18014398509481984 18014398509481984 rfl all q1 _ hR2 hB)
  have HK3 := Lib.hid hk3
  clear hk3
  go_wp2_with fail
  (with_reducible refine HN.out.mono ?_)
  rintro _ w3 ⟨m, I2, q2, rfl, hR3, hI2, hG3, hC3⟩
  have hV3 := hV2.chg hC3 (fun e => by unfold One at e; omega)
  have hP3 := hP2.chg hC3 hne
  obtain ⟨a0, a1, a2⟩ := hV3.c3
  obtain ⟨b0, b1, b2⟩ := hP3.c3
  have f1 := hV3.frozen 1
  have g0 := hP3.frozen 0
  have g1 := hP3.frozen 1
  have g2 := hP3.frozen 2
  have hmle := hG3.le' (most := 18014398509481984)
  by_cases hk2 : k = 2
  · have z1 : ((k : Int) == 2) = true := by simp [hk2]
    have HK := Lib.hid hk2
    have hk : (k : Int) = 2 := by omega
    have hVs := hR3.far hB (p := ⟨w1.heap.size, 1, none⟩) ⟨by show w1.heap.size ≠ R; omega, by show B ≤ w1.heap.size; omega⟩ (.int .i64 (m : Int))
    have hCs := (hW2.out.trans hC3).set (p := ⟨w1.heap.size, 1, none⟩) (.inl (by show w.heap.size ≤ w1.heap.size; omega)) (.int .i64 (m : Int))
    by_cases hodd : m % 2 = 1
    · have o1 : ((m : Int) % 2 == 1) = true := by simp; omega
      have hz : unzig m = -(((m : Int) + 1) / 2) := by unfold unzig; rw [if_pos hodd]; omega
      have hgv : GotW (all.drop I) q ⟨(k : Int), -(((m : Int) + 1) / 2), ⟨#[]⟩⟩ (all.drop I2) q2 := by
        rw [hk, ← hz]
        exact gotW2 (by rw [← HK.out]; exact HG1.out) hG3
      have HF := Lib.hid (retW_fin (V := w1.heap.size) (off := 1) (.int .i64 (-(((m : Int) + 1) / 2))) hCs hVs (Nat.le_trans hI1 hI2) hgv hB hRl (by omega))
      have hPf := Lib.hid (((((hP3.far (p := ⟨w1.heap.size, 1, none⟩) e2 (.int .i64 (m : Int))).far (p := ⟨w1.heap.size, 1, none⟩) e2 (.int .i64 (-(((m : Int) + 1) / 2)))).set_ 0 (.int .i64 k)).set_ 1 (.int .i64 (-(((m : Int) + 1) / 2)))).set_ 2 (.string ⟨#[]⟩))
      clear hP3 hV3 hC3 hR3 hG3 hk hz hgv hVs hCs hodd hk2
      go_wp2_with fail
      obtain ⟨r0, r1, r2⟩ := Blk.c3 hPf.out
      refine bodyPost_ret (v := .agg #[.int .i64 k, .int .i64 (-(((m : Int) + 1) / 2)), .string ⟨#[]⟩]) (by simp [results, Tryz.results54, go_sem, r0, r1, r2]) rfl ?_
      exact HF.out
    · have o1 : ((m : Int) % 2 == 1) = false := by simp; omega
      have hz : unzig m = (m : Int) / 2 := by unfold unzig; rw [if_neg hodd]; omega
      have hgv : GotW (all.drop I) q ⟨(k : Int), (m : Int) / 2, ⟨#[]⟩⟩ (all.drop I2) q2 := by
        rw [hk, ← hz]
        exact gotW2 (by rw [← HK.out]; exact HG1.out) hG3
      have HF := Lib.hid (retW_fin (V := w1.heap.size) (off := 1) (.int .i64 ((m : Int) / 2)) hCs hVs (Nat.le_trans hI1 hI2) hgv hB hRl (by omega))
      have hPf := Lib.hid (((((hP3.far (p := ⟨w1.heap.size, 1, none⟩) e2 (.int .i64 (m : Int))).far (p := ⟨w1.heap.size, 1, none⟩) e2 (.int .i64 ((m : Int) / 2))).set_ 0 (.int .i64 k)).set_ 1 (.int .i64 ((m : Int) / 2))).set_ 2 (.string ⟨#[]⟩))
      clear hP3 hV3 hC3 hR3 hG3 hk hz hgv hVs hCs hodd hk2
      go_wp2_with fail
      obtain ⟨r0, r1, r2⟩ := Blk.c3 hPf.out
      refine bodyPost_ret (v := .agg #[.int .i64 k, .int .i64 ((m : Int) / 2), .string ⟨#[]⟩]) (by simp [results, Tryz.results54, go_sem, r0, r1, r2]) rfl ?_
      exact HF.out
  · have z1 : ((k : Int) == 2) = false := by simp; omega
    have HF := Lib.hid (retW_fin (V := w1.heap.size) (off := 1) (.int .i64 (m : Int)) (hW2.out.trans hC3) hR3 (Nat.le_trans hI1 hI2) (gotW1 HG1.out hk2 HK3.out hG3) hB hRl (by omega))
    have hPf := Lib.hid ((((hP3.far (p := ⟨w1.heap.size, 1, none⟩) e2 (.int .i64 (m : Int))).set_ 0 (.int .i64 k)).set_ 1 (.int .i64 (m : Int))).set_ 2 (.string ⟨#[]⟩))
    clear hP3 hV3 hC3 hR3 hG3 hk2
    go_wp2_with fail
    obtain ⟨r0, r1, r2⟩ := Blk.c3 hPf.out
    refine bodyPost_ret (v := .agg #[.int .i64 k, .int .i64 (m : Int), .string ⟨#[]⟩]) (by simp [results, Tryz.results54, go_sem, r0, r1, r2]) rfl ?_
    exact HF.out
end Go.Proofs.YtjglmjdfndcmmaaGreat

namespace Go.Proofs.YtjglmjdfndcmmaaGreat
open Go.RowKit
theorem appStrs : AppInfo Tryz.prog 42 9 1 := AppInfo.mk' Tryz.underlying42 (by kernel_rfl) (bytes := 16) (z := .string ⟨#[]⟩) (by omega) rfl (by omega)
def RetIns (l : List Bs) (s : Bs) (w : World) (e : Ending) (w' : World) : Prop := ∃ v' r, e = .returned v' ∧ SlS (Lt w'.heap.size) w' v' (r.map mkS) ∧ InsRes l s r ∧ Below w.heap.size w w'
end Go.Proofs.YtjglmjdfndcmmaaGreat

set_option linter.all false
namespace Go.Proofs.YtjglmjdfndcmmaaGreat
open Go.RowKit
def RetInsO (l : List Bs) (s : Bs) (w : World) (e : Ending) (w' : World) : Prop := ∃ v' r, e = .returned v' ∧ OwnS w' w.heap.size v' r ∧ InsRes l s r ∧ Below w.heap.size w w'
set_option maxHeartbeats 1000000 in
set_option maxRecDepth 100000 in
theorem insert_new (v : Value) (l : List Bs) (s : ByteArray) (w : World) (hv : SlS (Lt w.heap.size) w v (l.map mkS)) (ha : Asc l) (hnew : s.data.toList ∉ l) (hl : l.length ≤ 1000) :
    Calls Tryz.prog 37 #[v, .string s] w (RetInsO l s.data.toList w) := by
  have HA := Lib.hid ha
  have HNEW := Lib.hid hnew
  clear ha hnew
  have hv0 := hv
  obtain ⟨A, c, rfl, h1, h2, hv⟩ := hv.open_
  rw [List.length_map] at h1 hv hv0 ⊢
  go_enter Tryz.func37, Tryz.ntmps37
  go_wp2_with fail
  go_loopw [5, 6, 7] (fun ov dv i wr => ∃ (k : Nat) (d : Bool) (out : List Bs), k ≤ l.length ∧ i = .int .i64 k ∧ dv = .bool d ∧ InsInv l s.data.toList k d out ∧ OwnS wr w.heap.size ov out ∧ Below w.heap.size w wr) (fun _ _ i _ => l.length - (intOf i).toNat)
  case atStart => exact ⟨0, false, [], Nat.zero_le _, rfl, rfl, InsInv.start _ _, World.ownsRow_nil _ _ _ _, Below.refl _ _⟩
  case round =>
    obtain ⟨k, d, out, hk, rfl, rfl, hinv, hown, hbr⟩ := hrel
    have hol := hinv.len
    have HI := Lib.hid hinv
    clear hinv
    have hols : out.length ≤ 1001 := by
      cases d <;> simp at hol <;> omega
    clear hol
    have hszr := hbr.size
    by_cases hlt : k < l.length
    · obtain ⟨b, o, x, rfl, hD, hx, hf, hcw⟩ := hv.at_ hlt
      have hc := (hbr.cell (p := ⟨b, o + k, none⟩) hD).trans hcw
      have HCW := Lib.hid hcw
      clear hcw
      obtain ⟨y, hy, hxy⟩ : ∃ y, l[k]? = some y ∧ mkS y = x := by
        rw [List.getElem?_map, Option.map_eq_some_iff] at hx
        exact hx
      have HY := Lib.hid hy
      have HXY : Hid (x.toList = y ∧ Value.string x = encStr y) := by
        subst hxy
        exact ⟨mkS_toList y, rfl⟩
      have HSL : Hid (s.toList = s.data.toList) := Lib.toList_data s
      clear hx hy hxy
      by_cases he : y = s.data.toList
      · exact absurd (by rw [← he]; exact List.mem_of_getElem? HY.out) HNEW.out
      have hd : (x.toList == s.toList) = false := by rw [HXY.out.1, HSL.out]; simpa using he
      have HE := Lib.hid he
      clear he
      cases d
      · by_cases hls : y < s.data.toList
        · have hd2 : Op.bytesLess x.toList s.toList = true := by rw [HXY.out.1, HSL.out, less_eq]; simpa using hls
          have HN := Lib.hid (HI.out.plain HA.out HY.out hls)
          clear hls
          go_wp2_with (at_builtin; refine wpList_push appStrs rfl (.tmp 35) (.tmp 40) rfl _ [.string x] rfl (by simp [Value.oneCell']) _ out.length (out.map encStr) rfl hown rfl (by omega) hszr ?_; intro v' w' hown' hgr hat)
          go_roundw
          case rel =>
            refine ⟨k + 1, false, out ++ [y], by omega, by go_num, rfl, HN.out, ?_, hbr.trans (below_of_grown hgr hszr (fun g hg => (hown.lt g hg).1))⟩
            unfold OwnS
            rw [List.length_append, List.map_append, List.map_cons, List.map_nil, ← HXY.out.2]
            exact hown'
          case measure => simp [intOf]; omega
        · have hd2 : Op.bytesLess x.toList s.toList = false := by rw [HXY.out.1, HSL.out, less_eq]; simpa using hls
          have HN := Lib.hid (HI.out.ins HY.out (bs_total hls HE.out))
          clear hls
          go_upto_region 11 with (at_builtin; refine wpList_push appStrs rfl (.tmp 31) (.tmp 33) rfl _ [.string s] rfl (by simp [Value.oneCell']) _ out.length (out.map encStr) rfl hown rfl (by omega) hszr ?_; intro v1 w1 hown1 hgr1 hat1)
          have hb1 : Below w.heap.size w w1 := hbr.trans (below_of_grown hgr1 hszr (fun g hg => (hown.lt g hg).1))
          have hc1 : w1.cell? ⟨b, o + k, none⟩ = some (.string x) := (hb1.cell (p := ⟨b, o + k, none⟩) hD).trans HCW.out
          have hown1' : OwnS w1 w.heap.size v1 (out ++ [s.data.toList]) := by
            unfold OwnS
            rw [List.length_append, List.map_append]
            have e : [s.data.toList].map encStr = [Value.string s] := by
              show [Value.string (mkS s.data.toList)] = _
              rw [mkS_of]
            rw [e]
            exact hown1
          have hl1 : (out ++ [s.data.toList]).length < 10000000 := by rw [List.length_append]; simp; omega
          clear hc hgr1 hat1 hown hown1
          go_wp2_with (at_builtin; refine wpList_push appStrs rfl (.tmp 35) (.tmp 40) rfl _ [.string x] rfl (by simp [Value.oneCell']) _ (out ++ [s.data.toList]).length ((out ++ [s.data.toList]).map encStr) rfl hown1' rfl hl1 hb1.size ?_; intro v' w' hown' hgr hat)
          go_roundw
          case rel =>
            refine ⟨k + 1, true, out ++ [s.data.toList] ++ [y], by omega, by go_num, rfl, HN.out, ?_, hb1.trans (below_of_grown hgr hb1.size (fun g hg => (hown1'.lt g hg).1))⟩
            unfold OwnS
            rw [List.length_append, List.map_append (l₁ := out ++ [s.data.toList]), List.map_cons, List.map_nil, ← HXY.out.2]
            exact hown'
          case measure => simp [intOf]; omega
      · have HN := Lib.hid (HI.out.after HA.out HY.out)
        go_wp2_with (at_builtin; refine wpList_push appStrs rfl (.tmp 35) (.tmp 40) rfl _ [.string x] rfl (by simp [Value.oneCell']) _ out.length (out.map encStr) rfl hown rfl (by omega) hszr ?_; intro v' w' hown' hgr hat)
        go_roundw
        case rel =>
          refine ⟨k + 1, true, out ++ [y], by omega, by go_num, rfl, HN.out, ?_, hbr.trans (below_of_grown hgr hszr (fun g hg => (hown.lt g hg).1))⟩
          unfold OwnS
          rw [List.length_append, List.map_append, List.map_cons, List.map_nil, ← HXY.out.2]
          exact hown'
        case measure => simp [intOf]; omega
    · have hkl : k = l.length := by omega
      cases d
      · have HN := Lib.hid (HI.out.doneF hkl)
        go_wp2_with (at_builtin; refine wpList_push appStrs rfl (.tmp 44) (.tmp 46) rfl _ [.string s] rfl (by simp [Value.oneCell']) _ out.length (out.map encStr) rfl hown rfl (by omega) hszr ?_; intro v' w' hown' hgr hat)
        go_ret
        have hown1' : OwnS w' w.heap.size v' (out ++ [s.data.toList]) := by
          unfold OwnS
          rw [List.length_append, List.map_append]
          have e : [s.data.toList].map encStr = [Value.string s] := by
            show [Value.string (mkS s.data.toList)] = _
            rw [mkS_of]
          rw [e]
          exact hown'
        exact ⟨_, _, rfl, hown1', HN.out, hbr.trans (below_of_grown hgr hszr (fun g hg => (hown.lt g hg).1))⟩
      · have HN := Lib.hid (HI.out.doneT hkl)
        go_wp2_with fail
        go_ret
        exact ⟨_, _, rfl, hown, HN.out, hbr⟩
def sameS (s : ByteArray) (y : ByteArray) : Bool := y.toList == s.toList
theorem atS_hit (l : List ByteArray) (s : ByteArray) (j : Nat) (y : ByteArray) (hy : l[j]? = some y) (h : sameS s y = true) (hn : ∀ q z, q < j → l[q]? = some z → sameS s z = false) : atS l s = j := by
  have hj : j < l.length := by
    rcases Nat.lt_or_ge j l.length with h | h
    · exact h
    · rw [List.getElem?_eq_none h] at hy; cases hy
  have : l.findIdx? (fun y => y.toList == s.toList) = some j := by
    rw [List.findIdx?_eq_some_iff_getElem]
    refine ⟨hj, ?_, fun q hq => ?_⟩
    · rw [List.getElem?_eq_getElem hj] at hy; injection hy with hy; rw [hy]; exact h
    · have := hn q _ hq (List.getElem?_eq_getElem (by omega)); simpa [sameS] using this
  unfold atS; rw [this]
theorem atS_miss (l : List ByteArray) (s : ByteArray) (hn : ∀ q z, q < l.length → l[q]? = some z → sameS s z = false) : atS l s = -1 := by
  have : l.findIdx? (fun y => y.toList == s.toList) = none := by
    rw [List.findIdx?_eq_none_iff]
    intro x hx
    obtain ⟨q, hq, rfl⟩ := List.mem_iff_getElem.1 hx
    exact hn q _ hq (List.getElem?_eq_getElem hq)
  unfold atS; rw [this]
set_option maxHeartbeats 400000 in
theorem index_ref (v : Value) (l : List ByteArray) (s : ByteArray) (w : World) (hv : SlS (Lt w.heap.size) w v l) :
    Calls Tryz.prog 36 #[v, .string s] w fun e w' => e = .returned (.int .i64 (atS l s)) ∧ w = w' := by
  obtain ⟨A, c, rfl, h1, h2, hv⟩ := hv.open_
  go_enter Tryz.func36, Tryz.ntmps36
  go_wp2_with fail
  go_loop [5] (fun i => ∃ k : Nat, k ≤ l.length ∧ i = .int .i64 k ∧ ∀ j y, j < k → l[j]? = some y → sameS s y = false) (fun i => l.length - (intOf i).toNat)
  case atStart => exact ⟨0, Nat.zero_le _, rfl, fun j _ h => absurd h (by omega)⟩
  case round =>
    obtain ⟨k, hk, rfl, hp⟩ := hrel
    have HP := Lib.hid hp
    clear hp
    by_cases hlt : k < l.length
    · obtain ⟨b, o, y, rfl, hD, hx, hf, hcell⟩ := hv.at_ hlt
      have HX := Lib.hid hx
      clear hx
      cases hq : (y.toList == s.toList) with
      | true =>
        have HE := Lib.hid (atS_hit l s k y HX.out hq HP.out)
        go_wp2_with fail
        go_ret
        exact ⟨ret_int HE.out.symm, rfl⟩
      | false =>
        have HQ : Hid (sameS s y = false) := hq
        go_wp2_with fail
        go_round
        case rel => exact ⟨k + 1, by omega, by go_num, fun j z hj hz => by
          by_cases e : j = k
          · subst e; rw [HX.out] at hz; injection hz with hz; rw [← hz]; exact HQ.out
          · exact HP.out j z (by omega) hz⟩
        case measure => simp [intOf]; omega
    · have HE := Lib.hid (atS_miss l s (fun q z hq hz => HP.out q z (by omega) hz))
      go_wp2_with fail
      go_ret
      exact ⟨ret_int HE.out.symm, rfl⟩
theorem sameS_iff (s y : ByteArray) : sameS s y = true ↔ y.data.toList = s.data.toList := by
  unfold sameS
  rw [Lib.toList_data, Lib.toList_data]
  simp
theorem atS_mem {ws : List Bs} {s : ByteArray} (h : s.data.toList ∈ ws) : atS (ws.map mkS) s = (atW ws s : Int) := by
  have hlt : ws.idxOf s.data.toList < ws.length := List.idxOf_lt_length_iff.2 h
  refine atS_hit _ _ (ws.idxOf s.data.toList) (mkS s.data.toList) ?_ ?_ ?_
  · rw [List.getElem?_map, List.getElem?_eq_getElem hlt, List.getElem_idxOf hlt]; rfl
  · rw [sameS_iff]; rfl
  · intro q z hq hz
    rw [List.getElem?_map, List.getElem?_eq_getElem (by omega)] at hz
    injection hz with hz
    rw [Bool.eq_false_iff]
    intro hs
    rw [sameS_iff, ← hz] at hs
    have h2 := List.not_of_lt_findIdx (xs := ws) (p := fun x => x == s.data.toList) (i := q) (by exact hq)
    simp at h2
    exact h2 hs
theorem atS_not {ws : List Bs} {s : ByteArray} (h : s.data.toList ∉ ws) : atS (ws.map mkS) s = -1 := by
  refine atS_miss _ _ fun q z hq hz => ?_
  rw [Bool.eq_false_iff]
  intro hs
  rw [sameS_iff] at hs
  rw [List.getElem?_map, Option.map_eq_some_iff] at hz
  obtain ⟨y, hy, rfl⟩ := hz
  exact h (by rw [← hs]; exact List.mem_of_getElem? hy)
end Go.Proofs.YtjglmjdfndcmmaaGreat

set_option linter.all false
namespace Go.Proofs.YtjglmjdfndcmmaaGreat
open Go.RowKit
def colE (k : Nat) (e : Ev) : ByteArray := if k = 0 then e.cas else if k = 1 then e.act else e.res
def col (k : Nat) (es : List Ev) : List Bs := es.map fun e => (colE k e).data.toList
theorem col_len (k : Nat) (es : List Ev) : (col k es).length = es.length := List.length_map _
theorem names3_col {es : List Ev} {x : Bs} : x ∈ names3 es ↔ ∃ j, j < 3 ∧ x ∈ col j es := by
  unfold names3
  simp only [List.mem_append]
  constructor
  · rintro (h | h | h)
    · exact ⟨0, by omega, h⟩
    · exact ⟨1, by omega, h⟩
    · exact ⟨2, by omega, h⟩
  · rintro ⟨j, hj, h⟩
    rcases (show j = 0 ∨ j = 1 ∨ j = 2 by omega) with rfl | rfl | rfl
    · exact .inl h
    · exact .inr (.inl h)
    · exact .inr (.inr h)
theorem SlEv.fit {D : Nat → Prop} {w : World} {v : Value} {es : List Ev} (h : SlEv D w v es) : ∀ e ∈ es, FitEv e := by
  intro e he
  obtain ⟨A, c, rfl, _, _, h⟩ := h.open_
  obtain ⟨k, hk, rfl⟩ := List.mem_iff_getElem.1 he
  obtain ⟨_, _, z, _, _, _, hz, hf, _⟩ := SlEv.at_ h (k := k) hk
  rw [List.getElem?_eq_getElem hk] at hz
  injection hz with hz
  rw [hz]; exact hf
theorem col_fit {es : List Ev} (h : ∀ e ∈ es, FitEv e) {k : Nat} : ∀ x ∈ col k es, x.length ≤ maxLen := by
  intro x hx
  obtain ⟨e, he, rfl⟩ := List.mem_map.1 hx
  rw [size_eq]
  have := h e he
  unfold colE
  split
  · exact this.cas
  · split
    · exact this.act
    · exact this.res
structure DictInv (es : List Ev) (k i : Nat) (out : List Bs) : Prop where
  asc : Asc out
  mem : ∀ x, x ∈ out ↔ (∃ j, j < k ∧ x ∈ col j es) ∨ x ∈ (col k es).take i
  len : out.length ≤ k * es.length + i
theorem DictInv.start (es : List Ev) : DictInv es 0 0 [] := ⟨by simp [Asc], by simp, by simp⟩
theorem DictInv.next {es : List Ev} {k : Nat} {out : List Bs} (h : DictInv es k es.length out) : DictInv es (k + 1) 0 out := by
  refine ⟨h.asc, fun x => ?_, by have := h.len; rw [Nat.add_mul]; omega⟩
  rw [h.mem x, List.take_of_length_le (by rw [col_len]; exact Nat.le_refl _)]
  constructor
  · rintro (⟨j, hj, hx⟩ | hx)
    · exact .inl ⟨j, by omega, hx⟩
    · exact .inl ⟨k, by omega, hx⟩
  · rintro (⟨j, hj, hx⟩ | hx)
    · rcases (show j < k ∨ j = k by omega) with h1 | rfl
      · exact .inl ⟨j, h1, hx⟩
      · exact .inr hx
    · simp at hx
theorem DictInv.there {es : List Ev} {k i : Nat} {out : List Bs} {s : Bs} (h : DictInv es k i out) (hs : (col k es)[i]? = some s) (hm : s ∈ out) : DictInv es k (i + 1) out := by
  refine ⟨h.asc, fun x => ?_, by have := h.len; omega⟩
  rw [take_next hs, List.mem_append, List.mem_singleton, ← or_assoc, ← h.mem x]
  exact ⟨.inl, fun h' => by rcases h' with h' | rfl; exact h'; exact hm⟩
theorem DictInv.new {es : List Ev} {k i : Nat} {out r : List Bs} {s : Bs} (h : DictInv es k i out) (hs : (col k es)[i]? = some s) (hr : InsRes out s r) : DictInv es k (i + 1) r := by
  refine ⟨hr.1, fun x => ?_, by have := h.len; have := hr.2.2; omega⟩
  rw [take_next hs, List.mem_append, List.mem_singleton, ← or_assoc, ← h.mem x]
  exact hr.2.1 x
theorem DictInv.done {es : List Ev} {out : List Bs} (h : DictInv es 3 0 out) : out = words es := by
  refine setB_unique h.asc fun x => ?_
  rw [h.mem x, names3_col]
  simp
theorem DictInv.fit {es : List Ev} {k i : Nat} {out : List Bs} (h : DictInv es k i out) (hf : ∀ e ∈ es, FitEv e) : ∀ x ∈ out, x.length ≤ maxLen := by
  intro x hx
  rcases (h.mem x).1 hx with ⟨j, _, hx⟩ | hx
  · exact col_fit hf x hx
  · exact col_fit hf x (List.mem_of_mem_take hx)
-- WALKS
set_option maxHeartbeats 1000000 in
set_option maxRecDepth 100000 in
theorem column0 (es : List Ev) (v : Value) (w : World) (hs : SlEv (Lt w.heap.size) w v es) (hl : es.length ≤ 1000) :
    Calls Tryz.prog 72 #[v, .int .i64 0] w fun e w' => ∃ v', e = .returned v' ∧ OwnS w' w.heap.size v' (col 0 es) ∧ Below w.heap.size w w' := by
  obtain ⟨A, c, rfl, h1, h2, hs⟩ := hs.open_
  have HS := Lib.hid hs
  clear hs
  go_enter Tryz.func72, Tryz.ntmps72
  go_wp2_with fail
  go_loopw [5, 6] (fun ov iv wr => ∃ i : Nat, iv = .int .i64 (i : Int) ∧ i ≤ es.length ∧ Hid (OwnS wr w.heap.size ov ((col 0 es).take i)) ∧ Below w.heap.size w wr) (fun _ iv _ => es.length - (intOf iv).toNat)
  case atStart => exact ⟨0, rfl, Nat.zero_le _, Lib.hid (World.ownsRow_nil _ _ _ _), Below.refl _ _⟩
  case round =>
    obtain ⟨i, rfl, hi, HO, hbr⟩ := hrel
    have hszr := hbr.size
    by_cases hlt : i < es.length
    · obtain ⟨b, o, e, dv, rfl, hD, hx, hff, hdv, f0, f1, f2, f3, f4, f5⟩ := SlEv.at_ HS.out hlt
      have c0 := (hbr.cell (p := ⟨b, o + i * 6, none⟩) hD).trans f0
      have hcol : (col 0 es)[i]? = some e.cas.data.toList := by unfold col; rw [List.getElem?_map, hx]; rfl
      have HT := Lib.hid (take_next hcol)
      have hlen : ((col 0 es).take i).length < 10000000 := by rw [List.length_take]; omega
      have HBR := Lib.hid hbr
      clear f0 f1 f2 f3 f4 f5 hff hdv hx hcol hbr
      go_wp2_with (at_builtin; refine wpList_push appStrs rfl (.tmp 24) (.tmp 30) rfl _ [.string e.cas] rfl (by simp [Value.oneCell']) _ ((col 0 es).take i).length (((col 0 es).take i).map encStr) rfl HO.out rfl hlen hszr ?_; intro v' w' hown' hgr hat)
      go_roundw
      case rel =>
        refine ⟨i + 1, by go_num, by omega, Lib.hid ?_, HBR.out.trans (below_of_grown hgr hszr (fun g hg => (World.ownsRow.lt HO.out g hg).1))⟩
        rw [HT.out]
        unfold OwnS
        rw [List.length_append, List.map_append]
        have e2 : [e.cas.data.toList].map encStr = [Value.string e.cas] := by
          show [Value.string (mkS e.cas.data.toList)] = _
          rw [mkS_of]
        rw [e2]
        exact hown'
      case measure => simp [intOf]; omega
    · obtain rfl : i = es.length := by omega
      go_wp2_with fail
      go_ret
      refine ⟨_, rfl, ?_, hbr⟩
      have := HO.out
      rw [List.take_of_length_le (by rw [col_len]; exact Nat.le_refl _)] at this
      exact this
set_option maxHeartbeats 1000000 in
set_option maxRecDepth 100000 in
theorem column1 (es : List Ev) (v : Value) (w : World) (hs : SlEv (Lt w.heap.size) w v es) (hl : es.length ≤ 1000) :
    Calls Tryz.prog 72 #[v, .int .i64 1] w fun e w' => ∃ v', e = .returned v' ∧ OwnS w' w.heap.size v' (col 1 es) ∧ Below w.heap.size w w' := by
  obtain ⟨A, c, rfl, h1, h2, hs⟩ := hs.open_
  have HS := Lib.hid hs
  clear hs
  go_enter Tryz.func72, Tryz.ntmps72
  go_wp2_with fail
  go_loopw [5, 6] (fun ov iv wr => ∃ i : Nat, iv = .int .i64 (i : Int) ∧ i ≤ es.length ∧ Hid (OwnS wr w.heap.size ov ((col 1 es).take i)) ∧ Below w.heap.size w wr) (fun _ iv _ => es.length - (intOf iv).toNat)
  case atStart => exact ⟨0, rfl, Nat.zero_le _, Lib.hid (World.ownsRow_nil _ _ _ _), Below.refl _ _⟩
  case round =>
    obtain ⟨i, rfl, hi, HO, hbr⟩ := hrel
    have hszr := hbr.size
    by_cases hlt : i < es.length
    · obtain ⟨b, o, e, dv, rfl, hD, hx, hff, hdv, f0, f1, f2, f3, f4, f5⟩ := SlEv.at_ HS.out hlt
      have c0 := (hbr.cell (p := ⟨b, o + i * 6 + 1, none⟩) hD).trans f1
      have hcol : (col 1 es)[i]? = some e.act.data.toList := by unfold col; rw [List.getElem?_map, hx]; rfl
      have HT := Lib.hid (take_next hcol)
      have hlen : ((col 1 es).take i).length < 10000000 := by rw [List.length_take]; omega
      have HBR := Lib.hid hbr
      clear f0 f1 f2 f3 f4 f5 hff hdv hx hcol hbr
      go_wp2_with (at_builtin; refine wpList_push appStrs rfl (.tmp 34) (.tmp 40) rfl _ [.string e.act] rfl (by simp [Value.oneCell']) _ ((col 1 es).take i).length (((col 1 es).take i).map encStr) rfl HO.out rfl hlen hszr ?_; intro v' w' hown' hgr hat)
      go_roundw
      case rel =>
        refine ⟨i + 1, by go_num, by omega, Lib.hid ?_, HBR.out.trans (below_of_grown hgr hszr (fun g hg => (World.ownsRow.lt HO.out g hg).1))⟩
        rw [HT.out]
        unfold OwnS
        rw [List.length_append, List.map_append]
        have e2 : [e.act.data.toList].map encStr = [Value.string e.act] := by
          show [Value.string (mkS e.act.data.toList)] = _
          rw [mkS_of]
        rw [e2]
        exact hown'
      case measure => simp [intOf]; omega
    · obtain rfl : i = es.length := by omega
      go_wp2_with fail
      go_ret
      refine ⟨_, rfl, ?_, hbr⟩
      have := HO.out
      rw [List.take_of_length_le (by rw [col_len]; exact Nat.le_refl _)] at this
      exact this
set_option maxHeartbeats 1000000 in
set_option maxRecDepth 100000 in
theorem column2 (es : List Ev) (v : Value) (w : World) (hs : SlEv (Lt w.heap.size) w v es) (hl : es.length ≤ 1000) :
    Calls Tryz.prog 72 #[v, .int .i64 2] w fun e w' => ∃ v', e = .returned v' ∧ OwnS w' w.heap.size v' (col 2 es) ∧ Below w.heap.size w w' := by
  obtain ⟨A, c, rfl, h1, h2, hs⟩ := hs.open_
  have HS := Lib.hid hs
  clear hs
  go_enter Tryz.func72, Tryz.ntmps72
  go_wp2_with fail
  go_loopw [5, 6] (fun ov iv wr => ∃ i : Nat, iv = .int .i64 (i : Int) ∧ i ≤ es.length ∧ Hid (OwnS wr w.heap.size ov ((col 2 es).take i)) ∧ Below w.heap.size w wr) (fun _ iv _ => es.length - (intOf iv).toNat)
  case atStart => exact ⟨0, rfl, Nat.zero_le _, Lib.hid (World.ownsRow_nil _ _ _ _), Below.refl _ _⟩
  case round =>
    obtain ⟨i, rfl, hi, HO, hbr⟩ := hrel
    have hszr := hbr.size
    by_cases hlt : i < es.length
    · obtain ⟨b, o, e, dv, rfl, hD, hx, hff, hdv, f0, f1, f2, f3, f4, f5⟩ := SlEv.at_ HS.out hlt
      have c0 := (hbr.cell (p := ⟨b, o + i * 6 + 2, none⟩) hD).trans f2
      have hcol : (col 2 es)[i]? = some e.res.data.toList := by unfold col; rw [List.getElem?_map, hx]; rfl
      have HT := Lib.hid (take_next hcol)
      have hlen : ((col 2 es).take i).length < 10000000 := by rw [List.length_take]; omega
      have HBR := Lib.hid hbr
      clear f0 f1 f2 f3 f4 f5 hff hdv hx hcol hbr
      go_wp2_with (at_builtin; refine wpList_push appStrs rfl (.tmp 14) (.tmp 20) rfl _ [.string e.res] rfl (by simp [Value.oneCell']) _ ((col 2 es).take i).length (((col 2 es).take i).map encStr) rfl HO.out rfl hlen hszr ?_; intro v' w' hown' hgr hat)
      go_roundw
      case rel =>
        refine ⟨i + 1, by go_num, by omega, Lib.hid ?_, HBR.out.trans (below_of_grown hgr hszr (fun g hg => (World.ownsRow.lt HO.out g hg).1))⟩
        rw [HT.out]
        unfold OwnS
        rw [List.length_append, List.map_append]
        have e2 : [e.res.data.toList].map encStr = [Value.string e.res] := by
          show [Value.string (mkS e.res.data.toList)] = _
          rw [mkS_of]
        rw [e2]
        exact hown'
      case measure => simp [intOf]; omega
    · obtain rfl : i = es.length := by omega
      go_wp2_with fail
      go_ret
      refine ⟨_, rfl, ?_, hbr⟩
      have := HO.out
      rw [List.take_of_length_le (by rw [col_len]; exact Nat.le_refl _)] at this
      exact this
theorem column_ref (k : Nat) (es : List Ev) (v : Value) (w : World) (hk : k < 3) (hs : SlEv (Lt w.heap.size) w v es) (hl : es.length ≤ 1000) :
    Calls Tryz.prog 72 #[v, .int .i64 (k : Int)] w fun e w' => ∃ v', e = .returned v' ∧ OwnS w' w.heap.size v' (col k es) ∧ Below w.heap.size w w' := by
  rcases (show k = 0 ∨ k = 1 ∨ k = 2 by omega) with rfl | rfl | rfl
  · exact column0 es v w hs hl
  · exact column1 es v w hs hl
  · exact column2 es v w hs hl
theorem OwnS.now {w w' : World} {base : Nat} {v : Value} {ss : List Bs} (h : OwnS w base v ss) (hb : Below w.heap.size w w') : OwnS w' base v ss := own_now h hb
set_option maxHeartbeats 2000000 in
set_option maxRecDepth 100000 in
theorem dict_ref (es : List Ev) (v : Value) (w : World) (hs : SlEv (Lt w.heap.size) w v es) (hl : es.length ≤ 100) :
    Calls Tryz.prog 70 #[v] w fun e w' => ∃ v', e = .returned v' ∧ OwnS w' w.heap.size v' (words es) ∧ Below w.heap.size w w' := by
  have HS := Lib.hid hs
  have HFT := Lib.hid (SlEv.fit hs)
  clear hs
  go_enter Tryz.func70, Tryz.ntmps70
  go_wp2_with fail
  go_loopw [3, 4] (fun ov kv wr => ∃ (k : Nat) (out : List Bs), kv = .int .i64 (k : Int) ∧ k ≤ 3 ∧ Hid (DictInv es k 0 out) ∧ Hid (OwnS wr w.heap.size ov out) ∧ Below w.heap.size w wr) (fun _ kv _ => 3 - (intOf kv).toNat)
  case atStart => exact ⟨0, [], rfl, by omega, Lib.hid (DictInv.start es), Lib.hid (World.ownsRow_nil _ _ _ _), Below.refl _ _⟩
  case round =>
    obtain ⟨k, out, rfl, hk, HI, HO, hbr⟩ := hrel
    obtain ⟨wo, rfl⟩ : ∃ wo, wo = wr := ⟨wr, rfl⟩
    have HBR := Lib.hid hbr
    have hszo := hbr.size
    clear hbr
    by_cases hlt : k < 3
    · have HC := Lib.hid (column_ref k es v wo hlt (HS.out.now HBR.out) (by omega))
      go_wp2_with fail
      (with_reducible refine HC.out.mono ?_)
      rintro x w1 ⟨v1, rfl, hc1, hb1⟩
      obtain ⟨Av, cv, rfl, hv1, hv2, hsv⟩ := SlS.open_ (hc1.slS (col_fit HFT.out))
      rw [List.length_map, col_len] at hsv hv1 ⊢
      have HSV := Lib.hid hsv
      have HO1 := Lib.hid (HO.out.now hb1)
      have HB1 := Lib.hid hb1
      have hsz1 := hb1.size
      clear hsv hc1 hb1 HO HC
      go_wp2_with fail
      go_loopw [3, 6] (fun ov iv wr => ∃ (i : Nat) (out : List Bs), iv = .int .i64 (i : Int) ∧ i ≤ es.length ∧ Hid (DictInv es k i out) ∧ Hid (OwnS wr w.heap.size ov out) ∧ Below w1.heap.size w1 wr) (fun _ iv _ => es.length - (intOf iv).toNat)
      case atStart => exact ⟨0, out, rfl, Nat.zero_le _, HI, HO1, Below.refl _ _⟩
      case round =>
        obtain ⟨i, out, rfl, hi, HI, HO, hbr⟩ := hrel
        obtain ⟨w2, rfl⟩ : ∃ w2, w2 = wr := ⟨wr, rfl⟩
        have hszr := hbr.size
        by_cases hlt : i < es.length
        · obtain ⟨b, o, x, rfl, hD, hx, hxs, hc⟩ := SlS.at_ (k := i) HSV.out hlt
          obtain ⟨s, hs, rfl⟩ : ∃ s, (col k es)[i]? = some s ∧ mkS s = x := by
            rw [List.getElem?_map, Option.map_eq_some_iff] at hx
            exact hx
          replace hc := (hbr.cell (p := ⟨b, o + i, none⟩) hD).trans hc
          have HX := Lib.hid hs
          have HBr := Lib.hid hbr
          have hso := HO.out.slS (HI.out.fit HFT.out)
          have hol : out.length ≤ 1000 := by
            have := HI.out.len
            have : k * es.length ≤ 3 * 100 := Nat.mul_le_mul (by omega) hl
            omega
          have HC := Lib.hid (index_ref _ _ (mkS s) _ hso)
          by_cases hm : s ∈ out
          · have ha := atS_mem (ws := out) (s := mkS s) hm
            rw [ha] at HC
            have z1 : decide (((atW out (mkS s) : Nat) : Int) < 0) = false := by simp
            have HN := Lib.hid (HI.out.there hs hm)
            generalize atW out (mkS s) = z at *
            clear ha hs hx hso hm hbr
            go_wp2_with fail
            (with_reducible refine HC.out.mono ?_)
            rintro x w3 ⟨rfl, rfl⟩
            go_wp2_with fail
            go_roundw
            case rel => exact ⟨i + 1, out, by go_num, by omega, HN, HO, HBr.out⟩
            case measure => simp [intOf]; omega
          · have ha := atS_not (ws := out) (s := mkS s) hm
            rw [ha] at HC
            have HCI := Lib.hid (insert_new _ out (mkS s) w2 hso HI.out.asc hm hol)
            clear ha hs hx hso hm hbr
            go_wp2_with fail
            (with_reducible refine HC.out.mono ?_)
            rintro x w3 ⟨rfl, rfl⟩
            go_wp2_with fail
            (with_reducible refine HCI.out.mono ?_)
            rintro x w4 ⟨v4, r, rfl, hr, hir, hb4⟩
            go_wp2_with fail
            go_roundw
            case rel => exact ⟨i + 1, r, by go_num, by omega, Lib.hid (HI.out.new HX.out hir), Lib.hid (ownsRow_base_a hr (by omega)), HBr.out.trans (hb4.mono hszr)⟩
            case measure => simp [intOf]; omega
        · obtain rfl : i = es.length := by omega
          go_wp2_with fail
          go_roundw
          case rel => exact ⟨k + 1, out, by go_num, by omega, Lib.hid HI.out.next, HO, HBR.out.trans ((HB1.out.trans (hbr.mono hsz1)).mono hszo)⟩
          case measure => simp [intOf]; omega
    · obtain rfl : k = 3 := by omega
      go_wp2_with fail
      go_ret
      refine ⟨_, rfl, ?_, HBR.out⟩
      rw [← HI.out.done]
      exact HO.out
end Go.Proofs.YtjglmjdfndcmmaaGreat
