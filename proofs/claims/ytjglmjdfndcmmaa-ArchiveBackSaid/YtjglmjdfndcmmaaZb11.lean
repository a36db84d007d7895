/- Texts of this seat, merged. -/
import Derived.Test.YtjglmjdfndcmmaaZb01
import Derived.Test.YtjglmjdfndcmmaaZb02
import Derived.Test.YtjglmjdfndcmmaaZb09
import Derived.Test.YtjglmjdfndcmmaaZb10
set_option linter.all false
set_option linter.all false
namespace Go.Proofs.Ytjglmjdfndcmmaa
open Go.RowKit
structure GotV (l : List UInt8) (q : Bool) (v : Val) (l' : List UInt8) (q' : Bool) : Prop where
  fit : FitV v
  up : q' = false → q = false
  short : l'.length ≤ l.length
  whole : ∀ v0 t, q = false → validV v0 = true → l = arVal v0 ++ t → v = v0 ∧ l' = t ∧ q' = false
def unzig (m : Nat) : Int := if m % 2 = 1 then -((m / 2 : Nat) : Int) - 1 else ((m / 2 : Nat) : Int)
theorem unzig_zig {n : Int} (h : -4503599627370496 ≤ n ∧ n ≤ 4503599627370496) : unzig (zigZ n) = n ∧ zigZ n ≤ 9007199254740992 := by
  unfold unzig zigZ
  by_cases hn : n < 0
  · rw [if_pos hn, if_pos (by omega)]
    omega
  · rw [if_neg hn, if_neg (by omega)]
    omega
theorem bytes_none {s : ByteArray} (h : s.size = 0) : s = ⟨#[]⟩ := by
  cases s with
  | mk d =>
    have : d = #[] := Array.eq_empty_of_size_eq_zero h
    rw [this]
theorem GotN.kind {l l1 : List UInt8} {q q1 : Bool} {k : Nat} (h : GotN 3 l q k l1 q1) {v0 : Val} {t r : List UInt8} {m : Nat} (hq : q = false) (hm : m ≤ 3) (he : arVal v0 = arNum m ++ r) (hl : l = arVal v0 ++ t) : k = m ∧ l1 = r ++ t ∧ q1 = false :=
  h.whole m (r ++ t) hq (by rw [hl, he, List.append_assoc]) hm (by omega)
theorem fitI {n : Int} (h : -9223372036854775808 ≤ n ∧ n ≤ 9223372036854775807) : Fit n := h
theorem gotV1 {l l1 l2 : List UInt8} {q q1 q2 : Bool} {m most : Nat} (h1 : GotN 3 l q 1 l1 q1) (h2 : GotN most l1 q1 m l2 q2) (hm : 1 ≤ most) (hm2 : most < 9223372036854775808) : GotV l q ⟨1, m, ⟨#[]⟩⟩ l2 q2 := by
  have hle := h2.le
  refine ⟨⟨fitI (by simp), fitI (by simp; omega), Nat.zero_le _⟩, fun h => h1.up (h2.up h), Nat.le_trans h2.short h1.short, fun v0 t hq hv hl => ?_⟩
  rcases val_parts hv with ⟨hk, hn, hs⟩ | ⟨hk, -, -, -⟩ | ⟨hk, -, -, -⟩
  · obtain ⟨-, e2, e3⟩ := h1.kind hq (by omega) (arVal1 hk) hl
    obtain ⟨e4, e5, e6⟩ := h2.whole _ t e3 e2 (by omega) (by omega)
    refine ⟨?_, e5, e6⟩
    have hs0 := bytes_none hs
    cases v0 with
    | mk a b c =>
      simp only at hk hn hs0 e4
      subst hk hs0
      congr
      omega
  · have := (h1.kind hq (by omega) (arVal2 hk) hl).1; omega
  · have := (h1.kind hq (by omega) (arVal3 hk) hl).1; omega
theorem gotV2 {l l1 l2 : List UInt8} {q q1 q2 : Bool} {m most : Nat} (h1 : GotN 3 l q 2 l1 q1) (h2 : GotN most l1 q1 m l2 q2) (hm : 9007199254740992 ≤ most) (hm2 : most < 9223372036854775808) : GotV l q ⟨2, unzig m, ⟨#[]⟩⟩ l2 q2 := by
  have hle := h2.le
  refine ⟨⟨fitI (by simp), fitI (by simp only; unfold unzig; split <;> omega), Nat.zero_le _⟩, fun h => h1.up (h2.up h), Nat.le_trans h2.short h1.short, fun v0 t hq hv hl => ?_⟩
  rcases val_parts hv with ⟨hk, -, -⟩ | ⟨hk, hn1, hn2, hs⟩ | ⟨hk, -, -, -⟩
  · have := (h1.kind hq (by omega) (arVal1 hk) hl).1; omega
  · obtain ⟨-, e2, e3⟩ := h1.kind hq (by omega) (arVal2 hk) hl
    obtain ⟨z1, z2⟩ := unzig_zig ⟨hn1, hn2⟩
    obtain ⟨e4, e5, e6⟩ := h2.whole _ t e3 e2 (by omega) (by omega)
    refine ⟨?_, e5, e6⟩
    have hs0 := bytes_none hs
    cases v0 with
    | mk a b c =>
      simp only at hk z1 hs0 e4
      subst hk hs0
      rw [e4, z1]
  · have := (h1.kind hq (by omega) (arVal3 hk) hl).1; omega
theorem gotV3 {l l1 l2 : List UInt8} {q q1 q2 : Bool} {k : Nat} {s : ByteArray} (h1 : GotN 3 l q k l1 q1) (hk1 : k ≠ 1) (hk2 : k ≠ 2) (h2 : GotT l1 q1 s l2 q2) (hs : s.size ≤ maxLen) : GotV l q ⟨k, 0, s⟩ l2 q2 := by
  have hle := h1.le
  refine ⟨⟨fitI (by simp; omega), fitI (by simp), hs⟩, fun h => h1.up (h2.up h), Nat.le_trans h2.short h1.short, fun v0 t hq hv hl => ?_⟩
  rcases val_parts hv with ⟨hk, -, -⟩ | ⟨hk, -, -, -⟩ | ⟨hk, hn, -, -⟩
  · exact absurd (h1.kind hq (by omega) (arVal1 hk) hl).1 hk1
  · exact absurd (h1.kind hq (by omega) (arVal2 hk) hl).1 hk2
  · obtain ⟨e1, e2, e3⟩ := h1.kind hq (by omega) (arVal3 hk) hl
    obtain ⟨e4, e5, e6⟩ := h2.whole _ t e3 e2
    refine ⟨?_, e5, e6⟩
    cases v0 with
    | mk a b c =>
      simp only at hk hn e4
      subst hk hn
      rw [e1]
      congr
      cases s; cases c
      simp only at e4
      congr
      exact Array.ext' e4
-- WALK
theorem rdNum_z (B R most : Nat) (z : Int) (hz : z = (most : Int)) (l : List UInt8) (q : Bool) (w : World) (h : RdP B w R l q) (hB : B ≤ R) (hm : most < 9223372036854775808) :
    Calls Try.prog 37 #[.pointer (some ⟨R, 0, none⟩), .int .i64 z] w (RetN B R most l q w) := by
  subst hz; exact rdNum_any B R most l q w h hB hm
def RetV (B R : Nat) (l : List UInt8) (q : Bool) (w : World) (e : Ending) (w' : World) : Prop := ∃ v l' q', e = .returned (valV v) ∧ RdP B w' R l' q' ∧ GotV l q v l' q' ∧ Chg (One R) w w'
theorem RdP.now {B R : Nat} {w w' : World} {l : List UInt8} {q : Bool} (h : RdP B w R l q) (hB : B ≤ R) (hb : Below w.heap.size w w') : RdP B w' R l q := by
  have hl : R < w.heap.size := by obtain ⟨_, _, _, h, _⟩ := h; exact h.lt
  exact h.chg (S := fun _ => False) (Chg.of_below hb) (by omega) id (fun _ _ => id)
theorem RdP.lt {B R : Nat} {w : World} {l : List UInt8} {q : Bool} (h : RdP B w R l q) : R < w.heap.size := by obtain ⟨_, _, _, h, _⟩ := h; exact h.lt
theorem RdP.far {B R : Nat} {w : World} {l : List UInt8} {q : Bool} (h : RdP B w R l q) (hB : B ≤ R) {p : Addr} (hp : p.block ≠ R ∧ B ≤ p.block) (u : Value) : RdP B (w.setCell p u) R l q :=
  h.chg (S := fun i => i = p.block) (Chg.set (S := fun i => i = p.block) Chg.refl (.inr rfl) u) (by have := h.lt; omega) (fun e => hp.1 e.symm) (fun i hi e => by omega)
theorem retV_fin {B R V off : Nat} {l l' : List UInt8} {q q' : Bool} {w W : World} {a m : Int} {s : ByteArray} (u : Value) (hC : Chg (One R) w W) (hR : RdP B W R l' q') (hG : GotV l q ⟨a, m, s⟩ l' q') (hB : B ≤ R) (hRl : R < w.heap.size) (hV : w.heap.size ≤ V) :
    RetV B R l q w (.returned (.agg #[.int .i64 a, .int .i64 m, .string s])) ((((W.setCell ⟨V, off, none⟩ u).setCell ⟨w.heap.size, 0, none⟩ (.int .i64 a)).setCell ⟨w.heap.size, 1, none⟩ (.int .i64 m)).setCell ⟨w.heap.size, 2, none⟩ (.string s)) :=
  ⟨⟨a, m, s⟩, l', q', rfl, (((hR.far hB (p := ⟨V, off, none⟩) ⟨by show V ≠ R; omega, by show B ≤ V; omega⟩ u).far hB (p := ⟨w.heap.size, 0, none⟩) ⟨by show w.heap.size ≠ R; omega, by show B ≤ w.heap.size; omega⟩ _).far hB (p := ⟨w.heap.size, 1, none⟩) ⟨by show w.heap.size ≠ R; omega, by show B ≤ w.heap.size; omega⟩ _).far hB (p := ⟨w.heap.size, 2, none⟩) ⟨by show w.heap.size ≠ R; omega, by show B ≤ w.heap.size; omega⟩ _, hG,
    (((hC.set (p := ⟨V, off, none⟩) (.inl hV) u).set (p := ⟨w.heap.size, 0, none⟩) (.inl (Nat.le_refl _)) _).set (p := ⟨w.heap.size, 1, none⟩) (.inl (Nat.le_refl _)) _).set (p := ⟨w.heap.size, 2, none⟩) (.inl (Nat.le_refl _)) _⟩
set_option maxHeartbeats 2000000 in
set_option maxRecDepth 100000 in
theorem rdDat_any (B R : Nat) (l : List UInt8) (q : Bool) (w : World) (h : RdP B w R l q) (hB : B ≤ R) :
    Calls Try.prog 69 #[.pointer (some ⟨R, 0, none⟩)] w (RetV B R l q w) := by
  have hRl := h.lt
  have hb1 := bone w (.cells #[.int .i64 0, .int .i64 0, .string ⟨#[]⟩] 62)
  have hP := Blk.new w 62 #[.int .i64 0, .int .i64 0, .string ⟨#[]⟩]
  have HN := Lib.hid (rdNum_z B R 3 3 rfl l q _ (h.now hB hb1) hB (by omega))
  clear h
  go_enter Try.func69, Try.ntmps69
  go_wp2_with fail
  (with_reducible refine HN.out.mono ?_)
  rintro _ w1 ⟨k, l1, q1, rfl, hR1, hG1, hC1⟩
  have hne : ¬ One R w.heap.size := fun e => by unfold One at e; omega
  have hP1 := hP.chg hC1 hne
  have hpv := hP1.lt
  have hW1 : Chg (One R) w w1 := (Chg.of_below hb1).trans hC1
  have hb2 := bone w1 (.cells #[.int .i64 k, .int .i64 0, .string ⟨#[]⟩] 62)
  have hV2 := Blk.new w1 62 #[.int .i64 k, .int .i64 0, .string ⟨#[]⟩]
  have hP2 := hP1.now hb2
  have hR2 := hR1.now hB hb2
  have HG1 := Lib.hid hG1
  have hW2 := Lib.hid (hW1.trans (Chg.of_below hb2))
  obtain ⟨v0, v1, v2⟩ := hV2.c3
  clear hP hP1 hC1 hW1 hb1 HN hR1 hG1
  by_cases hk1 : k = 1
  · have z1 : ((k : Int) == 1) = true := by simp [hk1]
    have HK := Lib.hid hk1
    have HN := Lib.hid (rdNum_z B R 1 1 rfl l1 q1 _ hR2 hB (by omega))
    clear hk1
    go_wp2_with fail
    (with_reducible refine HN.out.mono ?_)
    rintro _ w3 ⟨m, l2, q2, rfl, hR3, hG3, hC3⟩
    have hV3 := hV2.chg hC3 (fun e => by unfold One at e; omega)
    have hP3 := hP2.chg hC3 hne
    obtain ⟨a0, a1, a2⟩ := hV3.c3
    obtain ⟨b0, b1, b2⟩ := hP3.c3
    have f1 := hV3.frozen 1
    have g0 := hP3.frozen 0
    have g1 := hP3.frozen 1
    have g2 := hP3.frozen 2
    have e1 : ¬ w1.heap.size = w.heap.size := by omega
    have e2 : ¬ w.heap.size = w1.heap.size := by omega
    have hk : (k : Int) = 1 := by have := HK.out; omega
    have HF := Lib.hid (retV_fin (V := w1.heap.size) (off := 1) (.int .i64 m) (hW2.out.trans hC3) hR3 (gotV1 (by rw [← HK.out]; exact HG1.out) hG3 (by omega) (by omega)) hB hRl (by omega))
    rw [← hk] at HF
    have hPf := Lib.hid ((((hP3.far (p := ⟨w1.heap.size, 1, none⟩) e2 (.int .i64 m)).set_ 0 (.int .i64 k)).set_ 1 (.int .i64 m)).set_ 2 (.string ⟨#[]⟩))
    clear hP3 hV3 hC3 hR3 hG3 hk
    go_wp2_with fail
    obtain ⟨r0, r1, r2⟩ := Blk.c3 hPf.out
    refine bodyPost_ret (v := .agg #[.int .i64 k, .int .i64 m, .string ⟨#[]⟩]) (by simp [results, Try.results69, go_sem, r0, r1, r2]) rfl ?_
    exact HF.out
  have zn1 : ((k : Int) == 1) = false := by simp; omega
  by_cases hk2 : k = 2
  · have z1 : ((k : Int) == 2) = true := by simp [hk2]
    have HK := Lib.hid hk2
    have HN := Lib.hid (rdNum_z B R 9007199254740992 9007199254740992 rfl l1 q1 _ hR2 hB (by omega))
    clear hk1 hk2
    go_wp2_with fail
    (with_reducible refine HN.out.mono ?_)
    rintro _ w3 ⟨m, l2, q2, rfl, hR3, hG3, hC3⟩
    have hV3 := hV2.chg hC3 (fun e => by unfold One at e; omega)
    have hP3 := hP2.chg hC3 hne
    obtain ⟨a0, a1, a2⟩ := hV3.c3
    obtain ⟨b0, b1, b2⟩ := hP3.c3
    have f1 := hV3.frozen 1
    have g0 := hP3.frozen 0
    have g1 := hP3.frozen 1
    have g2 := hP3.frozen 2
    have e1 : ¬ w1.heap.size = w.heap.size := by omega
    have e2 : ¬ w.heap.size = w1.heap.size := by omega
    have hmle := hG3.le
    by_cases hodd : m % 2 = 1
    · have o1 : ((m : Int) % 2 == 1) = true := by simp; omega
      have hk : (k : Int) = 2 := by have := HK.out; omega
      have hz : unzig m = -((m : Int) / 2) - 1 := by unfold unzig; rw [if_pos hodd]; omega
      have hgv : GotV l q ⟨(k : Int), -((m : Int) / 2) - 1, ⟨#[]⟩⟩ l2 q2 := by
        rw [hk, ← hz]
        exact gotV2 (by rw [← HK.out]; exact HG1.out) hG3 (by omega) (by omega)
      have hVs := hR3.far hB (p := ⟨w1.heap.size, 1, none⟩) ⟨by show w1.heap.size ≠ R; omega, by show B ≤ w1.heap.size; omega⟩ (.int .i64 ((m : Int) / 2))
      have hF := retV_fin (V := w1.heap.size) (off := 1) (.int .i64 (-((m : Int) / 2) - 1)) ((hW2.out.trans hC3).set (p := ⟨w1.heap.size, 1, none⟩) (.inl (by show w.heap.size ≤ w1.heap.size; omega)) (.int .i64 ((m : Int) / 2))) hVs hgv hB hRl (by omega)
      have HF := Lib.hid hF
      have hPf := Lib.hid (((((hP3.far (p := ⟨w1.heap.size, 1, none⟩) e2 (.int .i64 ((m : Int) / 2))).far (p := ⟨w1.heap.size, 1, none⟩) e2 (.int .i64 (-((m : Int) / 2) - 1))).set_ 0 (.int .i64 k)).set_ 1 (.int .i64 (-((m : Int) / 2) - 1))).set_ 2 (.string ⟨#[]⟩))
      clear hP3 hV3 hC3 hR3 hG3 hk hz hgv hVs hF hodd
      go_wp2_with fail
      obtain ⟨r0, r1, r2⟩ := Blk.c3 hPf.out
      refine bodyPost_ret (v := .agg #[.int .i64 k, .int .i64 (-((m : Int) / 2) - 1), .string ⟨#[]⟩]) (by simp [results, Try.results69, go_sem, r0, r1, r2]) rfl ?_
      exact HF.out
    · have o1 : ((m : Int) % 2 == 1) = false := by simp; omega
      have hk : (k : Int) = 2 := by have := HK.out; omega
      have hz : unzig m = (m : Int) / 2 := by unfold unzig; rw [if_neg hodd]; omega
      have hgv : GotV l q ⟨(k : Int), (m : Int) / 2, ⟨#[]⟩⟩ l2 q2 := by
        rw [hk, ← hz]
        exact gotV2 (by rw [← HK.out]; exact HG1.out) hG3 (by omega) (by omega)
      have hF := retV_fin (V := w1.heap.size) (off := 1) (.int .i64 ((m : Int) / 2)) (hW2.out.trans hC3) hR3 hgv hB hRl (by omega)
      have HF := Lib.hid hF
      have hPf := Lib.hid ((((hP3.far (p := ⟨w1.heap.size, 1, none⟩) e2 (.int .i64 ((m : Int) / 2))).set_ 0 (.int .i64 k)).set_ 1 (.int .i64 ((m : Int) / 2))).set_ 2 (.string ⟨#[]⟩))
      clear hP3 hV3 hC3 hR3 hG3 hk hz hgv hF hodd
      go_wp2_with fail
      obtain ⟨r0, r1, r2⟩ := Blk.c3 hPf.out
      refine bodyPost_ret (v := .agg #[.int .i64 k, .int .i64 ((m : Int) / 2), .string ⟨#[]⟩]) (by simp [results, Try.results69, go_sem, r0, r1, r2]) rfl ?_
      exact HF.out
  · have zn2 : ((k : Int) == 2) = false := by simp; omega
    have HT := Lib.hid (rdText_any B R l1 q1 _ hR2 hB)
    have HK1 := Lib.hid hk1
    have HK2 := Lib.hid hk2
    clear hk1 hk2
    go_wp2_with fail
    (with_reducible refine HT.out.mono ?_)
    rintro _ w3 ⟨s, l2, q2, rfl, hR3, hG3, hC3⟩
    have hV3 := hV2.chg hC3 (fun e => by unfold One at e; omega)
    have hP3 := hP2.chg hC3 hne
    obtain ⟨a0, a1, a2⟩ := hV3.c3
    obtain ⟨b0, b1, b2⟩ := hP3.c3
    have f2 := hV3.frozen 2
    have g0 := hP3.frozen 0
    have g1 := hP3.frozen 1
    have g2 := hP3.frozen 2
    have e1 : ¬ w1.heap.size = w.heap.size := by omega
    have e2 : ¬ w.heap.size = w1.heap.size := by omega
    have hs : s.size ≤ maxLen := by
      have h1 := hG3.size
      obtain ⟨_, _, _, _, h2, h3, _⟩ := hR2
      unfold maxLen; omega
    have HF := Lib.hid (retV_fin (V := w1.heap.size) (off := 2) (.string s) (hW2.out.trans hC3) hR3 (gotV3 HG1.out HK1.out HK2.out hG3 hs) hB hRl (by omega))
    have hPf := Lib.hid ((((hP3.far (p := ⟨w1.heap.size, 2, none⟩) e2 (.string s)).set_ 0 (.int .i64 k)).set_ 1 (.int .i64 0)).set_ 2 (.string s))
    clear hP3 hV3 hC3 hR3 hG3 hs
    go_wp2_with fail
    obtain ⟨r0, r1, r2⟩ := Blk.c3 hPf.out
    refine bodyPost_ret (v := .agg #[.int .i64 k, .int .i64 0, .string s]) (by simp [results, Try.results69, go_sem, r0, r1, r2]) rfl ?_
    exact HF.out
end Go.Proofs.Ytjglmjdfndcmmaa
