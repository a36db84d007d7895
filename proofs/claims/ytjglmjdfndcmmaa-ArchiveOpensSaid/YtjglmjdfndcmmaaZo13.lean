/- Texts of this seat, merged. -/
import Derived.Laws.IdiomStrings
import Derived.Test.YtjglmjdfndcmmaaZo01
import Derived.Test.YtjglmjdfndcmmaaZo02
import Derived.Test.YtjglmjdfndcmmaaZo03
import Derived.Test.YtjglmjdfndcmmaaZo09
import Derived.Test.YtjglmjdfndcmmaaZo10
import Derived.Test.YtjglmjdfndcmmaaZo11
import Derived.Test.YtjglmjdfndcmmaaZo12
set_option linter.all false
set_option linter.all false
namespace Go.Proofs.Ytjglmjdfndcmmaa
open Go.RowKit
structure GotU (l : List UInt8) (q : Bool) (s : ByteArray) (l' : List UInt8) (q' : Bool) : Prop where
  size : s.size ≤ 1000
  up : q' = false → q = false
  whole : ∀ s0 t, q = false → l = arText s0 ++ t → s0.length ≤ 1000 → s.data.toList = s0 ∧ l' = t ∧ q' = false
def RetU (B R : Nat) (all : List UInt8) (I : Nat) (q : Bool) (w : World) (e : Ending) (w' : World) : Prop := ∃ (s : ByteArray) (I' : Nat) (q' : Bool), e = .returned (.string s) ∧ RdR B w' R all I' q' ∧ I ≤ I' ∧ GotU (all.drop I) q s (all.drop I') q' ∧ Chg (One R) w w'
theorem rrNum_z (B R I most : Nat) (z : Int) (hz : z = (most : Int)) (all : List UInt8) (q : Bool) (w : World) (h : RdR B w R all I q) (hB : B ≤ R) :
    Calls Try.prog 39 #[.pointer (some ⟨R, 0, none⟩), .int .i64 z] w (RetM B R z all I q w) := rrNum_any B R I z all q w h hB
theorem GotM.text {l l1 : List UInt8} {q q1 : Bool} {n : Nat} (h : GotM 1000 l q n l1 q1) {s0 t : List UInt8} (hq : q = false) (he : l = arText s0 ++ t) (hs : s0.length ≤ 1000) : n = s0.length ∧ l1 = s0 ++ t ∧ q1 = false :=
  h.whole _ _ hq (by rw [he]; unfold arText; rw [List.append_assoc]) (by omega) (by omega)
theorem GotM.le' {most : Nat} {l l1 : List UInt8} {q q1 : Bool} {n : Nat} (h : GotM (most : Int) l q n l1 q1) : n ≤ most := by
  cases q1
  · have := h.le rfl; omega
  · rw [h.zero rfl]; exact Nat.zero_le _
theorem retU_bad {B R I I1 n : Nat} {all : List UInt8} {q q1 : Bool} {w w1 : World} (hB : B ≤ R) (hI : I ≤ I1) (hR : RdR B w1 R all I1 q1) (hC : Chg (One R) w w1) (hG : GotM 1000 (all.drop I) q n (all.drop I1) q1) (h : q1 = true ∨ all.length < I1 + n) (nq : Nat) : RetU B R all I q w (.returned (.string ⟨#[]⟩)) ((w1.drewN nq).setCell ⟨R, 2, none⟩ (.bool true)) := by
  have hR2 := hR.now hB (drewN_below w1 nq)
  have hIl : I1 ≤ all.length := by obtain ⟨_, _, _, _, _, _, h, _⟩ := hR; exact h
  refine ⟨⟨#[]⟩, I1, true, rfl, (hR2.set hB).1, hI, ⟨Nat.zero_le _, fun h => (by cases h), fun s0 t hq he hs => ?_⟩, (hC.trans (Chg.of_below (drewN_below w1 nq))).set (p := ⟨R, 2, none⟩) (.inr (show One R R from rfl)) _⟩
  obtain ⟨e1, e2, e3⟩ := hG.text hq he hs
  rcases h with h | h
  · rw [e3] at h; cases h
  · have := congrArg List.length e2
    rw [List.length_drop, List.length_append] at this
    omega
set_option maxHeartbeats 4000000 in
set_option maxRecDepth 100000 in
theorem rrText_any (B R I : Nat) (all : List UInt8) (q : Bool) (w : World) (h : RdR B w R all I q) (hB : B ≤ R) (hal : all.length ≤ 1000000) :
    Calls Try.prog 70 #[.pointer (some ⟨R, 0, none⟩)] w (RetU B R all I q w) := by
  have HN := Lib.hid (rrNum_z B R I 1000 1000 rfl all q w h hB)
  clear h
  go_enter Try.func70, Try.ntmps70
  go_wp2_with fail
  (with_reducible refine HN.out.mono ?_)
  rintro _ w1 ⟨n, I1, q1, rfl, hR1, hI1, hG, hC⟩
  have hn := hG.le' (most := 1000)
  have HR := Lib.hid hR1
  have HG := Lib.hid hG
  have HC := Lib.hid hC
  have HI := Lib.hid hI1
  obtain ⟨b, o, c, hK, hlc, hc, hil, hs⟩ := hR1
  obtain ⟨d0, d1, d2⟩ := hK.c3
  have fz1 := hK.frozen 1
  have fz2 := hK.frozen 2
  have HS := Lib.hid hs
  have HK := Lib.hid hK
  have hwr : IntKind.i64.wrap ((I1 : Int) + (n : Int)) = (I1 : Int) + (n : Int) := i64wrap (by omega)
  clear hG hC hI1 hK hs HN
  cases q1
  · by_cases hbig : all.length < I1 + n
    · have z1 : decide ((all.length : Int) < (I1 : Int) + (n : Int)) = true := by simp; omega
      have HF := Lib.hid (fun nq => retU_bad hB HI.out HR.out HC.out HG.out (.inr hbig) nq)
      clear hbig
      go_upto_region 2 with fail
      refine wp_region_drawV (by kernel_rfl) (by kernel_rfl) ?_
      repeat (refine veil_step (fun K hK => ?_); go_simp; (refine hK _ ?_; clear hK K))
      refine veil_nil ?_
      intro _ hw'
      obtain ⟨nq, rfl⟩ := hw'
      go_wp2_with fail
      go_ret
      exact HF.out _
    · have z1 : decide ((all.length : Int) < (I1 : Int) + (n : Int)) = false := by simp; omega
      go_upto_region 2 with fail
      refine wp_region_drawV (by kernel_rfl) (by kernel_rfl) ?_
      repeat (refine veil_step (fun K hK => ?_); go_simp; (refine hK _ ?_; clear hK K))
      refine veil_nil ?_
      intro _ hw'
      obtain ⟨nq, rfl⟩ := hw'
      have HRn := HR.out.now hB (drewN_below w1 nq)
      have HCn := HC.out.trans (Chg.of_below (S := One R) (drewN_below w1 nq))
      obtain ⟨w2, hw2⟩ : ∃ w2, w1.drewN nq = w2 := ⟨_, rfl⟩
      have HS2 : SlC (Lt B) w2 (.slice (some ⟨b, o, none⟩) all.length c) all := by rw [← hw2]; exact HS.out
      have hK2 : Blk w2 R 80 #[.slice (some ⟨b, o, none⟩) all.length c, .int .i64 (I1 : Int), .bool false] := by rw [← hw2]; exact HK.out
      rw [hw2] at HRn HCn ⊢
      clear hw2 d0 d1 d2 fz1 fz2 z1
      obtain ⟨d0, d1, d2⟩ := hK2.c3
      have HK2 := Lib.hid hK2
      have HRn := Lib.hid HRn
      have HCn := Lib.hid HCn
      have htl : ((all.drop I1).take n).length = n := by rw [List.length_take, List.length_drop]; omega
      have HT : Hid (GotU (all.drop I) q ⟨((all.drop I1).take n).toArray⟩ (all.drop (I1 + n)) false) := Lib.hid ⟨by show ((all.drop I1).take n).toArray.size ≤ _; rw [List.size_toArray, htl]; exact hn, fun _ => HG.out.up rfl, fun s0 t hq he hs => by
        obtain ⟨e1, e2, -⟩ := HG.out.text hq he hs
        refine ⟨?_, ?_, rfl⟩
        · show ((all.drop I1).take n).toArray.toList = s0
          rw [e1, e2]; simp
        · rw [← List.drop_drop, e1, e2]; simp⟩
      have m1 : (I1 : Int) ≤ (I1 : Int) + (n : Int) := by omega
      have m2 : (I1 : Int) + (n : Int) ≤ (c : Int) := by omega
      have m3 : (0 : Int) ≤ (I1 : Int) + (n : Int) := by omega
      have m4 : ((I1 : Int) + (n : Int)).toNat - I1 = n := by omega
      have hcv0 : ∀ (W : World) (b1 o1 c' : Nat), SlC (Lt B) W (.slice (some ⟨b1, o1, none⟩) ((all.drop I1).take n).length c') ((all.drop I1).take n) → (convert 25 9 (.slice (some ⟨b1, o1, none⟩) n c')).run Try.prog W = .ok (.string ⟨((all.drop I1).take n).toArray⟩) W := by
        intro W b1 o1 c' hsl
        have := run_convert_bytes_back (P := Try.prog) W 25 9 5 ⟨b1, o1, none⟩ c' ((all.drop I1).take n) Try.underlying25 Try.underlying5 Try.underlying9 (fun j hj => by
          obtain ⟨b', o', x, hA', hD, hx, hcx⟩ := SlC.at_ hsl (k := j) hj
          injection hA' with hA'
          injection hA' with e1 e2 _
          subst e1 e2
          rw [← (List.getElem?_eq_some_iff.1 hx).2] at hcx
          have : ((⟨b1, o1, none⟩ : Addr).add j) = ⟨b1, o1 + j, none⟩ := by unfold Addr.add; by_cases hj : j = 0 <;> simp [hj]
          rw [this]
          exact hcx)
        rw [htl] at this
        exact this
      have HFIN : Hid (∀ nq, RetU B R all I q w (.returned (.string ⟨((all.drop I1).take n).toArray⟩)) ((w2.drewN nq).setCell ⟨R, 1, none⟩ (.int .i64 ((I1 : Int) + (n : Int))))) := Lib.hid (fun nq => by
        have h1 := ((HRn.out.now hB (drewN_below w2 nq)).set hB).2 (I1 + n) (by omega)
        rw [Int.natCast_add] at h1
        exact ⟨_, I1 + n, false, rfl, h1, by have := HI.out; omega, HT.out, (HCn.out.trans (Chg.of_below (drewN_below w2 nq))).set (p := ⟨R, 1, none⟩) (.inr (show One R R from rfl)) _⟩)
      rcases Nat.lt_or_ge I1 c with hic | hic
      · have hsl := Sl.sub HS2 I1 n (c - I1) (by omega) (by omega) (by unfold maxLen; omega)
        rw [Nat.mul_one] at hsl
        have hcv : ∀ m, (convert 25 9 (.slice (some ⟨b, o + I1, none⟩) n (c - I1))).run Try.prog (w2.drewN m) = .ok (.string ⟨((all.drop I1).take n).toArray⟩) (w2.drewN m) := fun m => hcv0 (w2.drewN m) _ _ _ (by rw [htl]; exact hsl)
        have hic2 : (I1 : Int) < (c : Int) := by omega
        have hic3 : ¬ c = I1 := by omega
        clear hcv0 hsl HS2 htl hbig hK2
        generalize ((all.drop I1).take n).toArray = sa at *
        go_wp2_with fail
        refine wp_region_drawV (by kernel_rfl) (by kernel_rfl) ?_
        repeat (refine veil_step (fun K hK => ?_); go_simp; (refine hK _ ?_; clear hK K))
        refine veil_nil ?_
        intro _ hw'
        obtain ⟨nq, rfl⟩ := hw'
        have e0 : (w2.drewN nq).cell? ⟨R, 1, none⟩ = some (.int .i64 (I1 : Int)) := HK2.out.c3.2.1
        have fz1 : (w2.drewN nq).frozen? ⟨R, 1, none⟩ = false := HK2.out.frozen 1
        go_wp2_with fail
        go_ret
        exact HFIN.out _
      · have hn0 : n = 0 := by omega
        have hci : c = I1 := by omega
        have htk : (all.drop I1).take n = [] := by rw [hn0]; rfl
        rw [htk] at HFIN hcv0
        have hcv : ∀ m, (convert 25 9 (.slice (some ⟨b, o, none⟩) n 0)).run Try.prog (w2.drewN m) = .ok (.string ⟨#[]⟩) (w2.drewN m) := fun m => hcv0 (w2.drewN m) _ _ _ (SlC.empty _ (by omega))
        have m5 : (I1 : Int) + (n : Int) ≤ (I1 : Int) := by omega
        clear hcv0 HS2 htl hbig hK2 hn0 htk m4
        have m4 : ((I1 : Int) + (n : Int)).toNat - I1 = n := by omega
        go_wp2_with fail
        refine wp_region_drawV (by kernel_rfl) (by kernel_rfl) ?_
        repeat (refine veil_step (fun K hK => ?_); go_simp; (refine hK _ ?_; clear hK K))
        refine veil_nil ?_
        intro _ hw'
        obtain ⟨nq, rfl⟩ := hw'
        have e0 : (w2.drewN nq).cell? ⟨R, 1, none⟩ = some (.int .i64 (I1 : Int)) := HK2.out.c3.2.1
        have fz1 : (w2.drewN nq).frozen? ⟨R, 1, none⟩ = false := HK2.out.frozen 1
        go_wp2_with fail
        go_ret
        exact HFIN.out _
  · have HF := Lib.hid (fun nq => retU_bad hB HI.out HR.out HC.out HG.out (.inl rfl) nq)
    go_upto_region 2 with fail
    refine wp_region_drawV (by kernel_rfl) (by kernel_rfl) ?_
    repeat (refine veil_step (fun K hK => ?_); go_simp; (refine hK _ ?_; clear hK K))
    refine veil_nil ?_
    intro _ hw'
    obtain ⟨nq, rfl⟩ := hw'
    go_wp2_with fail
    go_ret
    exact HF.out _
end Go.Proofs.Ytjglmjdfndcmmaa
