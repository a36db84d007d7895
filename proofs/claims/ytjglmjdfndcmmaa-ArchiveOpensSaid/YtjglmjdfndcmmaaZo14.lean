/- Texts of this seat, merged. -/
import Derived.Test.YtjglmjdfndcmmaaZo01
import Derived.Test.YtjglmjdfndcmmaaZo02
import Derived.Test.YtjglmjdfndcmmaaZo03
import Derived.Test.YtjglmjdfndcmmaaZo09
import Derived.Test.YtjglmjdfndcmmaaZo10
import Derived.Test.YtjglmjdfndcmmaaZo11
import Derived.Test.YtjglmjdfndcmmaaZo12
import Derived.Test.YtjglmjdfndcmmaaZo13
set_option linter.all false
set_option linter.all false
namespace Go.Proofs.Ytjglmjdfndcmmaa
open Go.RowKit
structure GotW (l : List UInt8) (q : Bool) (v : Val) (l' : List UInt8) (q' : Bool) : Prop where
  fit : FitV v
  up : q' = false → q = false
  whole : ∀ v0 t, q = false → validV v0 = true → l = arVal v0 ++ t → v = v0 ∧ l' = t ∧ q' = false
theorem GotM.kind {l l1 : List UInt8} {q q1 : Bool} {k : Nat} (h : GotM 3 l q k l1 q1) {v0 : Val} {t r : List UInt8} {m : Nat} (hq : q = false) (hm : m ≤ 3) (he : arVal v0 = arNum m ++ r) (hl : l = arVal v0 ++ t) : k = m ∧ l1 = r ++ t ∧ q1 = false :=
  h.whole m (r ++ t) hq (by rw [hl, he, List.append_assoc]) (by omega) (by omega)
theorem gotW1 {l l1 l2 : List UInt8} {q q1 q2 : Bool} {k m : Nat} (h1 : GotM 3 l q k l1 q1) (hk2 : k ≠ 2) (hk3 : k ≠ 3) (h2 : GotM 18014398509481984 l1 q1 m l2 q2) : GotW l q ⟨k, m, ⟨#[]⟩⟩ l2 q2 := by
  have hle := h2.le' (most := 18014398509481984)
  have hkl := h1.le' (most := 3)
  refine ⟨⟨fitI (by simp only; omega), fitI (by simp only; omega), Nat.zero_le _⟩, fun h => h1.up (h2.up h), fun v0 t hq hv hl => ?_⟩
  rcases val_parts hv with ⟨hk, hn, hs⟩ | ⟨hk, -, -, -⟩ | ⟨hk, -, -, -⟩
  · obtain ⟨e1, e2, e3⟩ := h1.kind hq (by omega) (arVal1 hk) hl
    obtain ⟨e4, e5, e6⟩ := h2.whole _ t e3 e2 (by omega) (by omega)
    refine ⟨?_, e5, e6⟩
    have hs0 := bytes_none hs
    cases v0 with
    | mk a b c =>
      simp only at hk hn hs0 e4
      subst hk hs0
      rw [e1]
      congr
      omega
  · exact absurd (h1.kind hq (by omega) (arVal2 hk) hl).1 hk2
  · exact absurd (h1.kind hq (by omega) (arVal3 hk) hl).1 hk3
theorem gotW2 {l l1 l2 : List UInt8} {q q1 q2 : Bool} {m : Nat} (h1 : GotM 3 l q 2 l1 q1) (h2 : GotM 18014398509481984 l1 q1 m l2 q2) : GotW l q ⟨2, unzig m, ⟨#[]⟩⟩ l2 q2 := by
  have hle := h2.le' (most := 18014398509481984)
  refine ⟨⟨fitI (by simp), fitI (by simp only; unfold unzig; split <;> omega), Nat.zero_le _⟩, fun h => h1.up (h2.up h), fun v0 t hq hv hl => ?_⟩
  rcases val_parts hv with ⟨hk, -, -⟩ | ⟨hk, hn1, hn2, hs⟩ | ⟨hk, -, -, -⟩
  · have := (h1.kind hq (by omega) (arVal1 hk) hl).1; omega
  · obtain ⟨-, e2, e3⟩ := h1.kind hq (by omega) (arVal2 hk) hl
    obtain ⟨z1, z2⟩ := unzig_zig ⟨hn1, hn2⟩
    obtain ⟨e4, e5, e6⟩ := h2.whole _ t e3 e2 (by omega) (by omega)
    refine ⟨?_, e5, e6⟩
    have hs0 := bytes_none hs
    cases v0 with
    | mk a b c =>
      simp only at hk z1 hs0 e4
      subst hk hs0
      rw [e4, z1]
  · have := (h1.kind hq (by omega) (arVal3 hk) hl).1; omega
theorem gotW3 {l l1 l2 : List UInt8} {q q1 q2 : Bool} {s : ByteArray} (h1 : GotM 3 l q 3 l1 q1) (h2 : GotU l1 q1 s l2 q2) : GotW l q ⟨3, 0, s⟩ l2 q2 := by
  refine ⟨⟨fitI (by simp), fitI (by simp), by show s.size ≤ maxLen; have := h2.size; unfold maxLen; omega⟩, fun h => h1.up (h2.up h), fun v0 t hq hv hl => ?_⟩
  rcases val_parts hv with ⟨hk, -, -⟩ | ⟨hk, -, -, -⟩ | ⟨hk, hn, hs, -⟩
  · have := (h1.kind hq (by omega) (arVal1 hk) hl).1; omega
  · have := (h1.kind hq (by omega) (arVal2 hk) hl).1; omega
  · obtain ⟨-, e2, e3⟩ := h1.kind hq (by omega) (arVal3 hk) hl
    obtain ⟨e4, e5, e6⟩ := h2.whole _ t e3 e2 (by rw [size_eq]; omega)
    refine ⟨?_, e5, e6⟩
    cases v0 with
    | mk a b c =>
      simp only at hk hn e4
      subst hk hn
      congr
      cases s; cases c
      simp only at e4
      congr
      exact Array.ext' e4
def RetW (B R : Nat) (all : List UInt8) (I : Nat) (q : Bool) (w : World) (e : Ending) (w' : World) : Prop := ∃ (v : Val) (I' : Nat) (q' : Bool), e = .returned (.agg #[.int .i64 v.kind, .int .i64 v.n, .string v.s]) ∧ RdR B w' R all I' q' ∧ I ≤ I' ∧ GotW (all.drop I) q v (all.drop I') q' ∧ Chg (One R) w w'
theorem retW_fin {B R V off I I2 : Nat} {all : List UInt8} {q q' : Bool} {w W : World} {a m : Int} {s : ByteArray} (u : Value) (hC : Chg (One R) w W) (hR : RdR B W R all I2 q') (hI : I ≤ I2) (hG : GotW (all.drop I) q ⟨a, m, s⟩ (all.drop I2) q') (hB : B ≤ R) (hRl : R < w.heap.size) (hV : w.heap.size ≤ V) :
    RetW B R all I q w (.returned (.agg #[.int .i64 a, .int .i64 m, .string s])) ((((W.setCell ⟨V, off, none⟩ u).setCell ⟨w.heap.size, 0, none⟩ (.int .i64 a)).setCell ⟨w.heap.size, 1, none⟩ (.int .i64 m)).setCell ⟨w.heap.size, 2, none⟩ (.string s)) :=
  ⟨⟨a, m, s⟩, I2, q', rfl, (((hR.far hB (p := ⟨V, off, none⟩) ⟨by show V ≠ R; omega, by show B ≤ V; omega⟩ u).far hB (p := ⟨w.heap.size, 0, none⟩) ⟨by show w.heap.size ≠ R; omega, by show B ≤ w.heap.size; omega⟩ _).far hB (p := ⟨w.heap.size, 1, none⟩) ⟨by show w.heap.size ≠ R; omega, by show B ≤ w.heap.size; omega⟩ _).far hB (p := ⟨w.heap.size, 2, none⟩) ⟨by show w.heap.size ≠ R; omega, by show B ≤ w.heap.size; omega⟩ _, hI, hG,
    (((hC.set (p := ⟨V, off, none⟩) (.inl hV) u).set (p := ⟨w.heap.size, 0, none⟩) (.inl (Nat.le_refl _)) _).set (p := ⟨w.heap.size, 1, none⟩) (.inl (Nat.le_refl _)) _).set (p := ⟨w.heap.size, 2, none⟩) (.inl (Nat.le_refl _)) _⟩
set_option maxHeartbeats 2000000 in
set_option maxRecDepth 100000 in
theorem rrVal_any (B R I : Nat) (all : List UInt8) (q : Bool) (w : World) (h : RdR B w R all I q) (hB : B ≤ R) (hal : all.length ≤ 1000000) :
    Calls Try.prog 72 #[.pointer (some ⟨R, 0, none⟩)] w (RetW B R all I q w) := by
  have hRl := h.lt
  have hb1 := bone w (.cells #[.int .i64 0, .int .i64 0, .string ⟨#[]⟩] 62)
  have hP := Blk.new w 62 #[.int .i64 0, .int .i64 0, .string ⟨#[]⟩]
  have HN := Lib.hid (rrNum_z B R I 3 3 rfl all q _ (h.now hB hb1) hB)
  clear h
  go_enter Try.func72, Try.ntmps72
  go_wp2_with fail
  (with_reducible refine HN.out.mono ?_)
  rintro _ w1 ⟨k, I1, q1, rfl, hR1, hI1, hG1, hC1⟩
  have hne : ¬ One R w.heap.size := fun e => by unfold One at e; omega
  have hP1 := hP.chg hC1 hne
  have hpv := hP1.lt
  have hW1 : Chg (One R) w w1 := (Chg.of_below hb1).trans hC1
  have hb2 := bone w1 (.cells #[.int .i64 k, .int .i64 0, .string ⟨#[]⟩] 62)
  have hV2 := Blk.new w1 62 #[.int .i64 k, .int .i64 0, .string ⟨#[]⟩]
  have hP2 := hP1.now hb2
  have hR2 := hR1.now hB hb2
  have HG1 := Lib.hid hG1
  have hkl := hG1.le' (most := 3)
  have hW2 := Lib.hid (hW1.trans (Chg.of_below hb2))
  obtain ⟨v0, v1, v2⟩ := hV2.c3
  clear hP hP1 hC1 hW1 hb1 HN hR1 hG1
  have e1 : ¬ w1.heap.size = w.heap.size := by omega
  have e2 : ¬ w.heap.size = w1.heap.size := by omega
  by_cases hk3 : k = 3
  · have z1 : ((k : Int) == 3) = true := by simp [hk3]
    have HK := Lib.hid hk3
    have HN := Lib.hid (rrText_any B R I1 all q1 _ hR2 hB hal)
    clear hk3
    go_wp2_with fail
    (with_reducible refine HN.out.mono ?_)
    rintro _ w3 ⟨s, I2, q2, rfl, hR3, hI2, hG3, hC3⟩
    have hV3 := hV2.chg hC3 (fun e => by unfold One at e; omega)
    have hP3 := hP2.chg hC3 hne
    obtain ⟨a0, a1, a2⟩ := hV3.c3
    obtain ⟨b0, b1, b2⟩ := hP3.c3
    have f2 := hV3.frozen 2
    have g0 := hP3.frozen 0
    have g1 := hP3.frozen 1
    have g2 := hP3.frozen 2
    have hk : (k : Int) = 3 := by have := HK.out; omega
    have hgv : GotW (all.drop I) q ⟨(k : Int), 0, s⟩ (all.drop I2) q2 := by
      rw [hk]
      exact gotW3 (by rw [← HK.out]; exact HG1.out) hG3
    have HF := Lib.hid (retW_fin (V := w1.heap.size) (off := 2) (.string s) (hW2.out.trans hC3) hR3 (Nat.le_trans hI1 hI2) hgv hB hRl (by omega))
    have hPf := Lib.hid ((((hP3.far (p := ⟨w1.heap.size, 2, none⟩) e2 (.string s)).set_ 0 (.int .i64 k)).set_ 1 (.int .i64 0)).set_ 2 (.string s))
    clear hP3 hV3 hC3 hR3 hG3 hk hgv
    go_wp2_with fail
    obtain ⟨r0, r1, r2⟩ := Blk.c3 hPf.out
    refine bodyPost_ret (v := .agg #[.int .i64 k, .int .i64 0, .string s]) (by simp [results, Try.results72, go_sem, r0, r1, r2]) rfl ?_
    exact HF.out
  have zn1 : ((k : Int) == 3) = false := by simp; omega
  have HN := Lib.hid (rrNum_z B R I1 18014398509481984 18014398509481984 rfl all q1 _ hR2 hB)
  have HK3 := Lib.hid hk3
  clear hk3
  go_wp2_with fail
  (with_reducible refine HN.out.mono ?_)
  rintro _ w3 ⟨m, I2, q2, rfl, hR3, hI2, hG3, hC3⟩
  have hV3 := hV2.chg hC3 (fun e => by unfold One at e; omega)
  have hP3 := hP2.chg hC3 hne
  obtain ⟨a0, a1, a2⟩ := hV3.c3
  obtain ⟨b0, b1, b2⟩ := hP3.c3
  have f1 := hV3.frozen 1
  have g0 := hP3.frozen 0
  have g1 := hP3.frozen 1
  have g2 := hP3.frozen 2
  have hmle := hG3.le' (most := 18014398509481984)
  by_cases hk2 : k = 2
  · have z1 : ((k : Int) == 2) = true := by simp [hk2]
    have HK := Lib.hid hk2
    have hk : (k : Int) = 2 := by omega
    have hVs := hR3.far hB (p := ⟨w1.heap.size, 1, none⟩) ⟨by show w1.heap.size ≠ R; omega, by show B ≤ w1.heap.size; omega⟩ (.int .i64 (m : Int))
    have hCs := (hW2.out.trans hC3).set (p := ⟨w1.heap.size, 1, none⟩) (.inl (by show w.heap.size ≤ w1.heap.size; omega)) (.int .i64 (m : Int))
    by_cases hodd : m % 2 = 1
    · have o1 : ((m : Int) % 2 == 1) = true := by simp; omega
      have hz : unzig m = -(((m : Int) + 1) / 2) := by unfold unzig; rw [if_pos hodd]; omega
      have hgv : GotW (all.drop I) q ⟨(k : Int), -(((m : Int) + 1) / 2), ⟨#[]⟩⟩ (all.drop I2) q2 := by
        rw [hk, ← hz]
        exact gotW2 (by rw [← HK.out]; exact HG1.out) hG3
      have HF := Lib.hid (retW_fin (V := w1.heap.size) (off := 1) (.int .i64 (-(((m : Int) + 1) / 2))) hCs hVs (Nat.le_trans hI1 hI2) hgv hB hRl (by omega))
      have hPf := Lib.hid (((((hP3.far (p := ⟨w1.heap.size, 1, none⟩) e2 (.int .i64 (m : Int))).far (p := ⟨w1.heap.size, 1, none⟩) e2 (.int .i64 (-(((m : Int) + 1) / 2)))).set_ 0 (.int .i64 k)).set_ 1 (.int .i64 (-(((m : Int) + 1) / 2)))).set_ 2 (.string ⟨#[]⟩))
      clear hP3 hV3 hC3 hR3 hG3 hk hz hgv hVs hCs hodd hk2
      go_wp2_with fail
      obtain ⟨r0, r1, r2⟩ := Blk.c3 hPf.out
      refine bodyPost_ret (v := .agg #[.int .i64 k, .int .i64 (-(((m : Int) + 1) / 2)), .string ⟨#[]⟩]) (by simp [results, Try.results72, go_sem, r0, r1, r2]) rfl ?_
      exact HF.out
    · have o1 : ((m : Int) % 2 == 1) = false := by simp; omega
      have hz : unzig m = (m : Int) / 2 := by unfold unzig; rw [if_neg hodd]; omega
      have hgv : GotW (all.drop I) q ⟨(k : Int), (m : Int) / 2, ⟨#[]⟩⟩ (all.drop I2) q2 := by
        rw [hk, ← hz]
        exact gotW2 (by rw [← HK.out]; exact HG1.out) hG3
      have HF := Lib.hid (retW_fin (V := w1.heap.size) (off := 1) (.int .i64 ((m : Int) / 2)) hCs hVs (Nat.le_trans hI1 hI2) hgv hB hRl (by omega))
      have hPf := Lib.hid (((((hP3.far (p := ⟨w1.heap.size, 1, none⟩) e2 (.int .i64 (m : Int))).far (p := ⟨w1.heap.size, 1, none⟩) e2 (.int .i64 ((m : Int) / 2))).set_ 0 (.int .i64 k)).set_ 1 (.int .i64 ((m : Int) / 2))).set_ 2 (.string ⟨#[]⟩))
      clear hP3 hV3 hC3 hR3 hG3 hk hz hgv hVs hCs hodd hk2
      go_wp2_with fail
      obtain ⟨r0, r1, r2⟩ := Blk.c3 hPf.out
      refine bodyPost_ret (v := .agg #[.int .i64 k, .int .i64 ((m : Int) / 2), .string ⟨#[]⟩]) (by simp [results, Try.results72, go_sem, r0, r1, r2]) rfl ?_
      exact HF.out
  · have z1 : ((k : Int) == 2) = false := by simp; omega
    have HF := Lib.hid (retW_fin (V := w1.heap.size) (off := 1) (.int .i64 (m : Int)) (hW2.out.trans hC3) hR3 (Nat.le_trans hI1 hI2) (gotW1 HG1.out hk2 HK3.out hG3) hB hRl (by omega))
    have hPf := Lib.hid ((((hP3.far (p := ⟨w1.heap.size, 1, none⟩) e2 (.int .i64 (m : Int))).set_ 0 (.int .i64 k)).set_ 1 (.int .i64 (m : Int))).set_ 2 (.string ⟨#[]⟩))
    clear hP3 hV3 hC3 hR3 hG3 hk2
    go_wp2_with fail
    obtain ⟨r0, r1, r2⟩ := Blk.c3 hPf.out
    refine bodyPost_ret (v := .agg #[.int .i64 k, .int .i64 (m : Int), .string ⟨#[]⟩]) (by simp [results, Try.results72, go_sem, r0, r1, r2]) rfl ?_
    exact HF.out
end Go.Proofs.Ytjglmjdfndcmmaa

namespace Go.Proofs.Ytjglmjdfndcmmaa
open Go.RowKit
theorem appStrs : AppInfo Try.prog 51 9 1 := AppInfo.mk' Try.underlying51 (by kernel_rfl) (bytes := 16) (z := .string ⟨#[]⟩) (by omega) rfl (by omega)
def RetIns (l : List Bs) (s : Bs) (w : World) (e : Ending) (w' : World) : Prop := ∃ v' r, e = .returned v' ∧ SlS (Lt w'.heap.size) w' v' (r.map mkS) ∧ InsRes l s r ∧ Below w.heap.size w w'
end Go.Proofs.Ytjglmjdfndcmmaa
