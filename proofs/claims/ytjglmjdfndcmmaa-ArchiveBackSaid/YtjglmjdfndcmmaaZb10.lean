/- Texts of this seat, merged. -/
import Derived.Deep.QuietTactic
import Derived.Laws.IdiomStrings
import Derived.Test.YtjglmjdfndcmmaaZb01
import Derived.Test.YtjglmjdfndcmmaaZb02
import Derived.Test.YtjglmjdfndcmmaaZb09
set_option linter.all false
set_option linter.all false
namespace Go.Proofs.Ytjglmjdfndcmmaa
open Go.RowKit
def RetN (B R most : Nat) (l : List UInt8) (q : Bool) (w : World) (e : Ending) (w' : World) : Prop := ∃ n l' q', e = .returned (.int .i64 ((n : Nat) : Int)) ∧ RdP B w' R l' q' ∧ GotN most l q n l' q' ∧ Chg (One R) w w'
theorem num_bad {B R most c b o : Nat} {l : List UInt8} {q : Bool} {w : World} (hR : Blk w R 75 #[.slice (some ⟨b, o, none⟩) l.length c, .bool q]) (hB : B ≤ R) (hlc : l.length ≤ c) (hc : c ≤ 9223372036854775807) (hs : SlC (Lt B) w (.slice (some ⟨b, o, none⟩) l.length c) l)
    (hno : ∀ m t, l = arNum m ++ t → ¬ m < 9223372036854775808) : RetN B R most l q w (.returned (.int .i64 0)) (w.setCell ⟨R, 1, none⟩ (.bool true)) := by
  have hC : Chg (One R) w (w.setCell ⟨R, 1, none⟩ (.bool true)) := Chg.refl.set (p := ⟨R, 1, none⟩) (.inr (show One R R from rfl)) _
  refine ⟨0, l, true, rfl, ⟨b, o, c, hR.set_ 1 _, hlc, hc, Sl.below hs RByte.kept (hC.below (Nat.le_of_lt (Nat.lt_of_le_of_lt hB hR.lt)) fun i hi e => ?_) (Nat.le_refl _)⟩, ⟨Nat.zero_le _, fun h => (by cases h), Nat.le_refl _, fun m t _ hl _ hm => absurd hm (hno m t hl)⟩, hC⟩
  unfold One at e; omega
theorem num_stored {B R most j N n' c c' b' o' : Nat} {A : Option Addr} {l : List UInt8} {q : Bool} {w : World} (hR : Blk w R 75 #[.slice A l.length c, .bool q]) (hB : B ≤ R)
    (hd : SlC (Lt B) w (.slice (some ⟨b', o', none⟩) (l.drop (j + 1)).length c') (l.drop (j + 1))) (hn' : n' = (l.drop (j + 1)).length) (hc1 : n' ≤ c') (hc2 : c' ≤ 9223372036854775807) (hw : ∀ m t, l = arNum m ++ t → m < 9223372036854775808 → N = m ∧ l.drop (j + 1) = t) :
    (N ≤ most → RetN B R most l q w (.returned (.int .i64 (N : Int))) (w.setCell ⟨R, 0, none⟩ (.slice (some ⟨b', o', none⟩) n' c'))) ∧
    (¬ N ≤ most → RetN B R most l q w (.returned (.int .i64 0)) ((w.setCell ⟨R, 0, none⟩ (.slice (some ⟨b', o', none⟩) n' c')).setCell ⟨R, 1, none⟩ (.bool true))) := by
  subst hn'
  have hC : Chg (One R) w (w.setCell ⟨R, 0, none⟩ (.slice (some ⟨b', o', none⟩) (l.drop (j + 1)).length c')) := Chg.refl.set (p := ⟨R, 0, none⟩) (.inr (show One R R from rfl)) _
  have hBw : B ≤ w.heap.size := Nat.le_of_lt (Nat.lt_of_le_of_lt hB hR.lt)
  have hne : ∀ i, i < B → ¬ One R i := fun i hi e => by unfold One at e; omega
  refine ⟨fun h => ?_, fun h => ?_⟩
  · exact ⟨N, l.drop (j + 1), q, rfl, ⟨b', o', c', hR.set_ 0 _, hc1, hc2, Sl.below hd RByte.kept (hC.below hBw hne) (Nat.le_refl _)⟩, ⟨h, id, by rw [List.length_drop]; omega, fun m t hq hl _ hm => ⟨(hw m t hl hm).1, (hw m t hl hm).2, hq⟩⟩, hC⟩
  · have hC2 := hC.set (p := ⟨R, 1, none⟩) (.inr (show One R R from rfl)) (.bool true)
    exact ⟨0, l.drop (j + 1), true, rfl, ⟨b', o', c', (hR.set_ 0 _).set_ 1 _, hc1, hc2, Sl.below hd RByte.kept (hC2.below hBw hne) (Nat.le_refl _)⟩, ⟨Nat.zero_le _, fun h => (by cases h), by rw [List.length_drop]; omega, fun m t _ hl h1 hm => absurd ((hw m t hl hm).1 ▸ h1) h⟩, hC2⟩
set_option maxHeartbeats 2000000 in
set_option maxRecDepth 100000 in
theorem rdNum_any (B R most : Nat) (l : List UInt8) (q : Bool) (w : World) (h : RdP B w R l q) (hB : B ≤ R) (hm : most < 9223372036854775808) :
    Calls Try.prog 37 #[.pointer (some ⟨R, 0, none⟩), .int .i64 (most : Int)] w (RetN B R most l q w) := by
  obtain ⟨b, o, c, hR, hlc, hc, hs⟩ := h
  obtain ⟨c0, c1⟩ := hR.c2
  have fz0 := hR.frozen 0
  have fz1 := hR.frozen 1
  have HR := Lib.hid hR
  have HS := Lib.hid hs
  clear hR hs
  go_enter Try.func37, Try.ntmps37
  go_wp2_with fail
  go_loop [5, 6, 7, 8, 14] (fun nv sv iv cv xv => ∃ j n s : Nat, xv = .int .i64 (j : Int) ∧ nv = .int .i64 (n : Int) ∧ sv = .int .i64 (s : Int) ∧ j ≤ l.length ∧ j ≤ 8 ∧ s = 7 * j ∧ n < 128 ^ j ∧ Hid (NumAt l j n)) (fun _ _ _ _ xv => l.length - (intOf xv).toNat)
  case atStart => exact ⟨0, 0, 0, rfl, rfl, rfl, Nat.zero_le _, by omega, rfl, by simp, Lib.hid (NumAt.start l)⟩
  case round =>
    obtain ⟨j, n, s, rfl, rfl, rfl, hj, hj8, hs7, hn, HN⟩ := hrel
    by_cases hlt : j < l.length
    · obtain ⟨b', o', x, hA', hD, hx, hcx⟩ := SlC.at_ HS.out hlt
      injection hA' with hA'
      injection hA' with e1 e2 _
      subst e1 e2
      have hxb := UInt8.toNat_lt x
      have h56 : s ≤ 56 := by omega
      obtain ⟨p, hp⟩ : ∃ p, 2 ^ s = p := ⟨_, rfl⟩
      have hp1 : 128 ^ j = p := by rw [pow128 j, ← hs7]; exact hp
      have hpl : p ≤ 72057594037927936 := by rw [← hp1]; exact pow128_le hj8
      have hpi : (2 : Int) ^ s = (p : Int) := by rw [← hp]; simp
      have hmul : x.toNat % 128 * p ≤ 127 * 72057594037927936 := Nat.mul_le_mul (by omega) hpl
      have hov : n ||| x.toNat % 128 * p = n + x.toNat % 128 * p := by rw [← hp]; exact or_high (by rw [hp, ← hp1]; exact hn)
      have hnp : n < 72057594037927936 := by rw [hp1] at hn; omega
      have hlow := low7 x
      have HZ : Hid (x.toNat % 128 * p = x.toNat % 128 * 128 ^ j) := Lib.hid (by rw [hp1])
      have hcast : ((x.toNat % 128 * p : Nat) : Int) = ((x.toNat % 128 : Nat) : Int) * (p : Int) := by simp
      have hnx : x.toNat % 128 * p + n < 128 * p := by
        have : x.toNat % 128 * p ≤ 127 * p := Nat.mul_le_mul (by omega) (Nat.le_refl _)
        rw [hp1] at hn
        omega
      have HNX : Hid (n + x.toNat % 128 * p < 128 ^ (j + 1)) := Lib.hid (by rw [Nat.pow_succ, hp1]; omega)
      have HD : Hid (x.toNat < 128 → x.toNat % 128 = x.toNat) := Lib.hid (fun h => Nat.mod_eq_of_lt h)
      generalize hz : x.toNat % 128 * p = z at *
      have hor : ∀ m : Int, m = (n : Int) → bits .or .i64 m (z : Int) = ((n + z : Nat) : Int) := fun m hm => by rw [hm, i64_orN n z (by omega) (by omega), hov]
      have hsh : ∀ m : Int, m = ((x.toNat % 128 : Nat) : Int) → wrap64 (m * 2 ^ s) = (z : Int) := fun m hm => by rw [hm, ← wrapI64, hpi, ← hcast]; exact i64wrap (by omega)
      have hd7 : x.toNat % 128 < 128 := by omega
      have hq1 : (0 : Int) ≤ (s : Int) := by omega
      have hq2 : (s : Int) ≤ 64 := by omega
      have hnz : n + z < 9223372036854775808 := by omega
      have HX := Lib.hid hx
      have HNN := Lib.hid hn
      have HS7 := Lib.hid hs7
      clear hx hn hs7 hp hp1 hpl hpi hmul hov hnp hcast hnx hz
      obtain ⟨d, hd⟩ : ∃ d, x.toNat % 128 = d := ⟨_, rfl⟩
      have HDD := Lib.hid hd
      rw [hd] at hlow hsh hd7 HZ HD
      clear hd
      by_cases hx128 : x.toNat < 128
      · have HW : Hid (∀ m t, l = arNum m ++ t → m < 9223372036854775808 → n + z = m ∧ l.drop (j + 1) = t) := Lib.hid (fun m t hl hm => by
          rw [HZ.out, HD.out hx128]
          exact HN.out.last HX.out hx128 m t hl hm)
        have hx1 : (x.toNat : Int) < 128 := by omega
        have hj1 : (j : Int) + 1 ≤ (l.length : Int) := by omega
        have hj2 : (j : Int) + 1 ≤ (c : Int) := by omega
        have hj3 : (0 : Int) ≤ (j : Int) + 1 := by omega
        have hj4 : ((j : Int) + 1).toNat = j + 1 := by omega
        clear HD HNX HZ HNN HN hx128
        rcases Nat.lt_or_ge (j + 1) c with hcj | hcj
        · have HST := Lib.hid (num_stored (most := most) (q := q) (N := n + z) (n' := l.length - (j + 1)) HR.out hB (SlC.drop HS.out rfl (by omega) hlc hc (some ⟨b, o + (j + 1), none⟩) (fun _ => rfl)) (by rw [List.length_drop]) (by omega) (by omega) HW.out)
          by_cases hbig : n + z ≤ most
          · have HS1 := Lib.hid (HST.out.1 hbig)
            have hb1 : ¬ (most : Int) < (n : Int) + (z : Int) := by omega
            have hb2 : ¬ (most : Int) < ((n + z : Nat) : Int) := by omega
            clear HST hbig
            go_wp2_with fail
            go_ret
            exact HS1.out
          · have HS1 := Lib.hid (HST.out.2 hbig)
            have hb1 : (most : Int) < (n : Int) + (z : Int) := by omega
            have hb2 : (most : Int) < ((n + z : Nat) : Int) := by omega
            clear HST hbig
            go_wp2_with fail
            go_ret
            exact HS1.out
        · have hd0 := SlC.drop HS.out rfl (i := j + 1) (by omega) hlc hc (some ⟨b, o, none⟩) (fun h => absurd h (by omega))
          rw [show c - (j + 1) = 0 by omega] at hd0
          have HST := Lib.hid (num_stored (most := most) (q := q) (N := n + z) (n' := 0) HR.out hB hd0 (by rw [List.length_drop]; omega) (Nat.le_refl _) (by omega) HW.out)
          have hjc : j + 1 = c := by omega
          clear hd0
          by_cases hbig : n + z ≤ most
          · have HS1 := Lib.hid (HST.out.1 hbig)
            have hb1 : ¬ (most : Int) < (n : Int) + (z : Int) := by omega
            have hb2 : ¬ (most : Int) < ((n + z : Nat) : Int) := by omega
            clear HST hbig
            go_wp2_with fail
            go_ret
            exact HS1.out
          · have HS1 := Lib.hid (HST.out.2 hbig)
            have hb1 : (most : Int) < (n : Int) + (z : Int) := by omega
            have hb2 : (most : Int) < ((n + z : Nat) : Int) := by omega
            clear HST hbig
            go_wp2_with fail
            go_ret
            exact HS1.out
      · by_cases hsj : 56 < s + 7
        · have z1 : (56 : Int) < (s : Int) + 7 := by omega
          have hj9 : j + 1 = 9 := by have := HS7.out; omega
          have HMO := HN.out.more HX.out (by omega)
          rw [hj9] at HMO
          have HB := Lib.hid (num_bad (most := most) HR.out hB hlc hc HS.out HMO.few)
          clear HMO hj9
          go_wp2_with fail
          go_ret
          exact HB.out
        · have z1 : ¬ (56 : Int) < (s : Int) + 7 := by omega
          have HMO := HN.out.more HX.out (by omega)
          rw [show n + x.toNat % 128 * 128 ^ j = n + z by rw [HDD.out, ← HZ.out]] at HMO
          have HM := Lib.hid HMO
          clear HMO
          go_wp2_with fail
          go_round
          case rel => exact ⟨j + 1, n + z, s + 7, by go_num, by go_num, by go_num, by omega, by have := HS7.out; omega, by have := HS7.out; omega, HNX.out, HM⟩
          case measure => simp [intOf]; omega
    · obtain rfl : j = l.length := by omega
      have HB := Lib.hid (num_bad (most := most) HR.out hB hlc hc HS.out (HN.out.short (Nat.le_refl _)))
      go_wp2_with fail
      go_ret
      exact HB.out
end Go.Proofs.Ytjglmjdfndcmmaa

set_option linter.all false
namespace Go.Proofs.Ytjglmjdfndcmmaa
open Go.RowKit
structure GotT (l : List UInt8) (q : Bool) (s : ByteArray) (l' : List UInt8) (q' : Bool) : Prop where
  size : s.size ≤ l.length
  up : q' = false → q = false
  short : l'.length ≤ l.length
  whole : ∀ s0 t, q = false → l = arText s0 ++ t → s.data.toList = s0 ∧ l' = t ∧ q' = false
def RetT (B R : Nat) (l : List UInt8) (q : Bool) (w : World) (e : Ending) (w' : World) : Prop := ∃ s l' q', e = .returned (.string s) ∧ RdP B w' R l' q' ∧ GotT l q s l' q' ∧ Chg (One R) w w'
theorem GotN.text {l l1 : List UInt8} {q q1 : Bool} {n : Nat} (h : GotN l.length l q n l1 q1) (hl : l.length < 9223372036854775808) {s0 t : List UInt8} (hq : q = false) (he : l = arText s0 ++ t) : n = s0.length ∧ l1 = s0 ++ t ∧ q1 = false := by
  have h1 : l = arNum s0.length ++ (s0 ++ t) := by rw [he]; unfold arText; rw [List.append_assoc]
  have h2 : s0.length ≤ l.length := by rw [h1]; simp only [List.length_append]; omega
  exact h.whole _ _ hq h1 h2 (by omega)
theorem RdP.bad {B R : Nat} {w : World} {l : List UInt8} {q : Bool} (h : RdP B w R l q) (hB : B ≤ R) : RdP B (w.setCell ⟨R, 1, none⟩ (.bool true)) R l true := by
  obtain ⟨b, o, c, h1, h2, h3, h4⟩ := h
  have hC : Chg (One R) w (w.setCell ⟨R, 1, none⟩ (.bool true)) := Chg.refl.set (p := ⟨R, 1, none⟩) (.inr (show One R R from rfl)) _
  exact ⟨b, o, c, h1.set_ 1 _, h2, h3, Sl.below h4 RByte.kept (hC.below (Nat.le_of_lt (Nat.lt_of_le_of_lt hB h1.lt)) fun i hi e => by unfold One at e; omega) (Nat.le_refl _)⟩
theorem RdP.skip {B R n n' c c' b o b' o' : Nat} {w : World} {l : List UInt8} {q : Bool} (h1 : Blk w R 75 #[.slice (some ⟨b, o, none⟩) l.length c, .bool q]) (h4 : SlC (Lt B) w (.slice (some ⟨b, o, none⟩) l.length c) l) (hB : B ≤ R)
    (hn : n ≤ l.length) (h2 : l.length ≤ c) (h3 : c ≤ 9223372036854775807) (hb : n < c → b' = b ∧ o' = o + n) (hn' : n' = l.length - n) (hc' : c' = c - n) :
    RdP B (w.setCell ⟨R, 0, none⟩ (.slice (some ⟨b', o', none⟩) n' c')) R (l.drop n) q := by
  subst hn' hc'
  have hC : Chg (One R) w (w.setCell ⟨R, 0, none⟩ (.slice (some ⟨b', o', none⟩) (l.length - n) (c - n))) := Chg.refl.set (p := ⟨R, 0, none⟩) (.inr (show One R R from rfl)) _
  have hd := SlC.drop h4 rfl hn h2 h3 (some ⟨b', o', none⟩) (fun h => by obtain ⟨e1, e2⟩ := hb (by omega); rw [e1, e2])
  rw [← List.length_drop] at hC ⊢
  exact ⟨b', o', c - n, h1.set_ 0 _, by rw [List.length_drop]; omega, by omega, Sl.below hd RByte.kept (hC.below (Nat.le_of_lt (Nat.lt_of_le_of_lt hB h1.lt)) fun i hi e => by unfold One at e; omega) (Nat.le_refl _)⟩
set_option maxHeartbeats 2000000 in
set_option maxRecDepth 100000 in
theorem rdText_any (B R : Nat) (l : List UInt8) (q : Bool) (w : World) (h : RdP B w R l q) (hB : B ≤ R) :
    Calls Try.prog 62 #[.pointer (some ⟨R, 0, none⟩)] w (RetT B R l q w) := by
  have h0 := h
  obtain ⟨b, o, c, hR, hlc, hc, hs⟩ := h
  obtain ⟨c0, c1⟩ := hR.c2
  have hl63 : l.length < 9223372036854775808 := by omega
  have HN := Lib.hid (rdNum_any B R l.length l q w h0 hB hl63)
  have HSZ := Lib.hid hR.lt
  clear hR hs h0
  go_enter Try.func62, Try.ntmps62
  go_wp2_with fail
  (with_reducible refine HN.out.mono ?_)
  rintro _ w1 ⟨n, l1, q1, rfl, hR1, hG, hC⟩
  have HR1 := Lib.hid hR1
  obtain ⟨b1, o1, k1, hK1, hlc1, hc1, hs1⟩ := hR1
  obtain ⟨d0, d1⟩ := hK1.c2
  have fz0 := hK1.frozen 0
  have fz1 := hK1.frozen 1
  have HG := Lib.hid hG
  have HC := Lib.hid hC
  have HK := Lib.hid hK1
  have HS1 := Lib.hid hs1
  have HBAD : Hid ((q1 = true ∨ l1.length < n) → RetT B R l q w (.returned (.string ⟨#[]⟩)) (w1.setCell ⟨R, 1, none⟩ (.bool true))) := Lib.hid (fun hor => by
    refine ⟨⟨#[]⟩, l1, true, rfl, HR1.out.bad hB, ⟨Nat.zero_le _, fun h => (by cases h), HG.out.short, fun s0 t hq he => ?_⟩, HC.out.set (p := ⟨R, 1, none⟩) (.inr (show One R R from rfl)) _⟩
    obtain ⟨e1, e2, e3⟩ := HG.out.text hl63 hq he
    rcases hor with h | h
    · rw [e3] at h; cases h
    · rw [e1, e2, List.length_append] at h; omega)
  clear hG hC hK1 hs1 HN c0 c1
  cases q1
  · by_cases hn : l1.length < n
    · have hni : (l1.length : Int) < (n : Int) := by omega
      have HB := Lib.hid (HBAD.out (.inr hn))
      clear hn
      go_wp2_with fail
      go_ret
      exact HB.out
    · have hni : ¬ (l1.length : Int) < (n : Int) := by omega
      have hnc : (n : Int) ≤ (k1 : Int) := by omega
      have hnl : n ≤ l1.length := by omega
      have htl : (l1.take n).length = n := by rw [List.length_take]; omega
      have hcv := run_convert_bytes_back (P := Try.prog) w1 25 9 5 ⟨b1, o1, none⟩ k1 (l1.take n) Try.underlying25 Try.underlying5 Try.underlying9 (fun j hj => by
        rw [htl] at hj
        obtain ⟨b', o', x, hA', hD, hx, hcx⟩ := SlC.at_ HS1.out (k := j) (by omega)
        injection hA' with hA'
        injection hA' with e1 e2 _
        subst e1 e2
        rw [List.getElem_take]
        rw [← (List.getElem?_eq_some_iff.1 hx).2] at hcx
        have : ((⟨b1, o1, none⟩ : Addr).add j) = ⟨b1, o1 + j, none⟩ := by unfold Addr.add; by_cases hj : j = 0 <;> simp [hj]
        rw [this]
        exact hcx)
      rw [htl] at hcv
      have HFIN : Hid (∀ b' o' n' c', (n < k1 → b' = b1 ∧ o' = o1 + n) → n' = l1.length - n → c' = k1 - n → RetT B R l q w (.returned (.string ⟨(l1.take n).toArray⟩)) (w1.setCell ⟨R, 0, none⟩ (.slice (some ⟨b', o', none⟩) n' c'))) := Lib.hid (fun b' o' n' c' hb hn' hc' => by
        refine ⟨⟨(l1.take n).toArray⟩, l1.drop n, false, rfl, RdP.skip HK.out HS1.out hB hnl hlc1 hc1 hb hn' hc', ⟨?_, fun _ => HG.out.up rfl, ?_, fun s0 t hq he => ?_⟩, HC.out.set (p := ⟨R, 0, none⟩) (.inr (show One R R from rfl)) _⟩
        · show (l1.take n).toArray.size ≤ _
          rw [List.size_toArray, htl]
          exact HG.out.le
        · rw [List.length_drop]
          have := HG.out.short
          omega
        · obtain ⟨e1, e2, e3⟩ := HG.out.text hl63 hq he
          refine ⟨?_, ?_, rfl⟩
          · show (l1.take n).toArray.toList = s0
            rw [e1, e2]; simp
          · rw [e1, e2]; simp)
      clear htl HBAD
      generalize (l1.take n).toArray = sa at *
      rcases Nat.lt_or_ge n k1 with hk | hk
      · have HF := Lib.hid (HFIN.out b1 (o1 + n) (l1.length - n) (k1 - n) (fun _ => ⟨rfl, rfl⟩) rfl rfl)
        have hk2 : (n : Int) < (k1 : Int) := by omega
        clear HFIN hk
        go_wp2_with fail
        go_ret
        exact HF.out
      · have HF := Lib.hid (HFIN.out b1 o1 0 0 (fun h => absurd h (by omega)) (by omega) (by omega))
        obtain rfl : k1 = n := by omega
        clear HFIN hk
        go_wp2_with fail
        go_ret
        exact HF.out
  · have HB := Lib.hid (HBAD.out (.inl rfl))
    go_wp2_with fail
    go_ret
    exact HB.out
end Go.Proofs.Ytjglmjdfndcmmaa
