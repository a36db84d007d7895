/- Texts of this seat, merged. -/
import Derived.Deep.CutRange
import Derived.Deep.RegionLaw
import Derived.BigQuiet
import Derived.Deep.QuietTactic
import Derived.Test.YtjglmjdfndcmmaaGreatZp01
import Derived.Test.YtjglmjdfndcmmaaGreatZp02
import Derived.Test.YtjglmjdfndcmmaaGreatZp03
import Derived.Test.YtjglmjdfndcmmaaGreatZp04
import Derived.Test.YtjglmjdfndcmmaaGreatZp05
import Derived.Test.YtjglmjdfndcmmaaGreatZp06
import Derived.Test.YtjglmjdfndcmmaaGreatZp07
import Derived.Test.YtjglmjdfndcmmaaGreatZp08
import Derived.Test.YtjglmjdfndcmmaaGreatZp09
import Derived.Test.YtjglmjdfndcmmaaGreatZp10
import Derived.Test.YtjglmjdfndcmmaaGreatZp11
import Derived.Test.YtjglmjdfndcmmaaGreatZp12
set_option linter.all false
set_option linter.all false
namespace Go.Proofs.YtjglmjdfndcmmaaGreat
open Go.RowKit
def RetOpenG (l : List UInt8) (w : World) (e : Ending) (w' : World) : Prop := ∃ (ev : Value) (x : List Ev) (k : Int), e = .returned (.tuple #[.agg #[ev], .int .i64 k]) ∧ SlEv (fun b => w.heap.size ≤ b ∧ b < w'.heap.size) w' ev x ∧ OpenRes l x k ∧ Below w.heap.size w w'
def RetOpenO (l : List UInt8) (w : World) (e : Ending) (w' : World) : Prop := ∃ (ev : Value) (x : List Ev) (k : Int), e = .returned (.tuple #[.agg #[ev], .int .i64 k]) ∧ (SlEv (fun b => w.heap.size < b ∧ b < w'.heap.size) w' ev x ∧ ∃ A, ev = .slice A x.length x.length) ∧ OpenRes l x k ∧ Below w.heap.size w w'
theorem RetOpenO.weak {l : List UInt8} {w w' : World} {e : Ending} (h : RetOpenO l w e w') : RetOpenG l w e w' := by
  obtain ⟨ev, x, k, h1, h2, h3, h4⟩ := h
  exact ⟨ev, x, k, h1, Sl.keep h2.1 REv.kept (fun b hb => ⟨Nat.le_of_lt hb.1, hb.2⟩) (Same.refl _ _), h3, h4⟩
theorem rdBlk_at (B R g N L s len o c : Nat) (ev : Nat → Ev) (l : List UInt8) (q : Bool) (w : World) (h : RdP B w R l q) (hE : EvF w g N ev (Dn L g R)) (hB : B ≤ R) (hBg : B ≤ g) (hgR : g ≠ R) (hL : L ≤ w.heap.size) (hs : s + len ≤ N) (ho : o = s * 6) (hc : len ≤ c)
    (hlen : len ≤ 100) (hz : ∀ j, s ≤ j → j < s + len → (ev j).data = []) : Calls Tryz.prog 42 #[.pointer (some ⟨R, 0, none⟩), .slice (some ⟨g, o, none⟩) len c] w fun e w' => e = .returned (.tuple #[]) ∧ ∃ ev' l' q', RdP B w' R l' q' ∧ EvF w' g N ev' (Dn w'.heap.size g R) ∧ Chg (Two R g) w w' ∧ GotB s len ev l q ev' l' q' :=
  rdBlk_any B R g N L s len o c ev l q w h hE hB hBg hgR hL hs ho hc hlen hz
theorem openRes_no {l body : List UInt8} (hb : body = l.take (l.length - 4)) (h : ∀ es, logB es = true → body = arBody es → arPack es ≠ l) : OpenRes l [] 3 :=
  .inr ⟨rfl, rfl, fun es hv he => h es hv (by rw [hb]; exact arPack_body he) he⟩
theorem retOpenO_no {l : List UInt8} {w W : World} (h : OpenRes l [] 3) (hb : Below w.heap.size w W) : RetOpenO l w (.returned (.tuple #[.agg #[.slice none 0 0], .int .i64 3])) (W.setCell ⟨w.heap.size, 0, none⟩ (.slice none 0 0)) :=
  ⟨.slice none 0 0, [], 3, rfl, ⟨Sl.none_, none, rfl⟩, h, hb.setCell (p := ⟨w.heap.size, 0, none⟩) (Nat.le_refl _) _⟩
theorem retOpen_no {l : List UInt8} {w W : World} (h : OpenRes l [] 3) (hb : Below w.heap.size w W) : RetOpenG l w (.returned (.tuple #[.agg #[.slice none 0 0], .int .i64 3])) (W.setCell ⟨w.heap.size, 0, none⟩ (.slice none 0 0)) := (retOpenO_no h hb).weak
set_option maxHeartbeats 4000000 in
set_option maxRecDepth 100000 in
theorem open_goodO (u : Value) (l : List UInt8) (w : World) (h : SlC (Lt w.heap.size) w u l) (h4 : 4 ≤ l.length) (hm : l.length ≤ 262144) (heq : SumOk l) :
    Calls Tryz.prog 21 #[u] w (RetOpenO l w) := by
  unfold SumOk at heq
  obtain ⟨A, c, rfl, h1, h2, hs⟩ := h.open_
  obtain ⟨b, o, _, rfl, _, _, _⟩ := SlC.at_ hs (k := 0) (by omega)
  obtain ⟨n, hn⟩ : ∃ n, l.length = n + 4 := ⟨l.length - 4, by omega⟩
  have hn4 : l.length - 4 = n := by omega
  have HBD : Hid (l.take n = l.take (l.length - 4)) := Lib.hid (by rw [hn4])
  have hbl : (l.take n).length = n := by rw [List.length_take]; omega
  rw [hn4] at heq
  rw [hn] at hs h1 hm ⊢
  have hs1 : SlC (Lt w.heap.size) w (.slice (some ⟨b, o, none⟩) n c) (l.take n) := by
    have := Sl.sub hs 0 n c (by omega) (by omega) (by unfold maxLen; exact h2)
    rw [Nat.zero_mul, Nat.add_zero, List.drop_zero] at this
    exact this
  have hs2 : SlC (Lt w.heap.size) w (.slice (some ⟨b, o + n, none⟩) 4 (c - n)) (l.drop n) := by
    have := Sl.sub hs n 4 (c - n) (by omega) (by omega) (by unfold maxLen; omega)
    rw [Nat.mul_one, List.take_of_length_le (by rw [List.length_drop]; omega)] at this
    exact this
  have hb1 := bone w (.cells #[.slice none 0 0] 25)
  have hB1 := Blk.new w 25 #[.slice none 0 0]
  have HS0 := Lib.hid hs
  have HS1 := Lib.hid hs1
  have HS2 := Lib.hid (hs2.now hb1)
  have HSM := Lib.hid (sum_any _ _ _ (hs1.now hb1))
  have hsl := sumOf_lt (l.take n)
  generalize sumOf (l.take n) = s at *
  have hnn : (0 : Int) ≤ (n : Int) := by omega
  have hbi : ¬ (262144 : Int) < (n : Int) + 4 := by omega
  have hnb : (n : Int) ≤ 262140 := by omega
  have hnc : n ≤ c := by omega
  have HLN := Lib.hid hn
  obtain ⟨body, hbody⟩ : ∃ body, l.take n = body := ⟨_, rfl⟩
  rw [hbody] at HBD hbl HS1
  have HBL := Lib.hid hbl
  clear hm hn hbody
  clear hs hs1 hs2 h hn4
  go_enter Tryz.func21, Tryz.ntmps21
  go_wp2_with fail
  (with_reducible refine HSM.out.mono ?_)
  rintro e w1 ⟨rfl, rfl⟩
  go_wp2_with fail
  have hB2 := Blk.new (w.alloc (.cells #[.slice none 0 0] 25)) 5 #[.int .u8 ((s : Int) % 256), .int .u8 ((s : Int) / 256 % 256), .int .u8 ((s : Int) / 65536 % 256), .int .u8 ((s : Int) / 16777216)]
  have hb2 := bone (w.alloc (.cells #[.slice none 0 0] 25)) (.cells #[.int .u8 ((s : Int) % 256), .int .u8 ((s : Int) / 256 % 256), .int .u8 ((s : Int) / 65536 % 256), .int .u8 ((s : Int) / 16777216)] 5)
  have hsl2 := le4_sl hsl hB2
  simp only [World.size_alloc] at hsl2
  have hE := equal_any _ _ _ _ _ (HS2.out.now hb2) hsl2
  rw [decide_eq_true heq] at hE
  have HE := Lib.hid hE
  have hBP := hB1.now hb2
  have hb12 := hb1.trans (hb2.mono hb1.size)
  clear hE hsl2 hB2 heq
  (with_reducible refine HE.out.mono ?_)
  rintro e w3 ⟨rfl, rfl⟩
  obtain ⟨w2, hw2⟩ : ∃ w2, (w.alloc (.cells #[.slice none 0 0] 25)).alloc (.cells #[.int .u8 ((s : Int) % 256), .int .u8 ((s : Int) / 256 % 256), .int .u8 ((s : Int) / 65536 % 256), .int .u8 ((s : Int) / 16777216)] 5) = w2 := ⟨_, rfl⟩
  rw [hw2] at hb12 hBP ⊢
  clear hw2 HE hb2 hB1 hb1 HSM HS2
  have hb3 := bone w2 (.cells #[.slice (some ⟨b, o, none⟩) n c, .bool false] 86)
  have hw2s := hBP.lt
  have hrd : RdP w.heap.size (w2.alloc (.cells #[.slice (some ⟨b, o, none⟩) n c, .bool false] 86)) w2.heap.size body false := by
    refine ⟨b, o, c, ?_, by omega, h2, ?_⟩
    · rw [hbl]; exact Blk.new _ _ _
    · rw [hbl]; exact Sl.below HS1.out RByte.kept (hb12.trans (hb3.mono hb12.size)) (Nat.le_refl _)
  have HN := Lib.hid (rdNum_z w.heap.size w2.heap.size 2000 2000 rfl body false _ hrd hb12.size (by omega))
  clear hrd
  go_wp2_with fail
  (with_reducible refine HN.out.mono ?_)
  rintro e w4 ⟨N, l1, q1, rfl, hR4, hG4, hC4⟩
  have hN2 := hG4.le
  obtain ⟨cs, hmk, hcs, hce⟩ := make_evs N hN2
  have hmk4 := hmk w4
  have hC24 : Chg (One w2.heap.size) w2 w4 := (Chg.of_below hb3).trans hC4
  have hs24 : w2.heap.size < w4.heap.size := hR4.lt
  have hb5 := bone w4 (.cells cs 57)
  have hb46 := bbox hb5 (.cells #[.slice (some ⟨w4.heap.size, 0, none⟩) N N] 25)
  have hL6 := Blk.new (w4.alloc (.cells cs 57)) 25 #[.slice (some ⟨w4.heap.size, 0, none⟩) N N]
  rw [World.size_alloc] at hL6
  have hR6 := hR4.now hb12.size hb46
  have hE6 : EvF ((w4.alloc (.cells cs 57)).alloc (.cells #[.slice (some ⟨w4.heap.size, 0, none⟩) N N] 25)) w4.heap.size N (fun _ => zeroEv) (Dn w4.heap.size w4.heap.size w2.heap.size) :=
    (EvF.made hcs hce).chg (S := fun _ => False) (Chg.of_below (bone _ _)) id (fun b hb => ⟨Nat.lt_of_lt_of_le hb.1 (by simp), id⟩) (fun _ => id)
  have hBP6 := (hBP.chg hC24 (fun e => by unfold One at e; omega)).now hb46
  have hC26 : Chg (One w2.heap.size) w2 _ := hC24.trans (Chg.of_below hb46)
  have HPA := Lib.hid (PartsAt.start hG4)
  have hs46 := hb46.size
  go_wp2_with fail
  obtain ⟨w6, hw6⟩ : ∃ w6, (w4.alloc (.cells cs 57)).alloc (.cells #[.slice (some ⟨w4.heap.size, 0, none⟩) N N] 25) = w6 := ⟨_, rfl⟩
  rw [hw6] at hL6 hR6 hE6 hBP6 hC26 hs46 ⊢
  obtain ⟨R, hRR⟩ : ∃ R, w2.heap.size = R := ⟨_, rfl⟩
  obtain ⟨G, hGG⟩ : ∃ G, w4.heap.size = G := ⟨_, rfl⟩
  have hwR : w.heap.size < R := by rw [← hRR]; exact hw2s
  have hRG : R < G := by rw [← hRR, ← hGG]; exact hs24
  have hb26 : Below w.heap.size w w6 := hb12.trans (hC26.below (by omega) (fun i hi e => by unfold One at e; omega))
  rw [hRR] at hR6 hE6 hC26 ⊢
  rw [hGG] at hL6 hE6 hs46 ⊢
  have hG6 : G + 1 < w6.heap.size := hL6.lt
  have HL6 := Lib.hid hL6
  have HR6 := Lib.hid hR6
  have HE6 : Hid (EvF w6 G N (fun _ => zeroEv) (Dn w6.heap.size G R)) := Lib.hid (hE6.chg (S := fun _ => False) Chg.refl id (fun b hb => ⟨Nat.lt_of_lt_of_le hb.1 (by omega), id⟩) (fun b hb => ⟨Nat.lt_of_lt_of_le hb.1 (by omega), hb.2⟩))
  have HBP6 := Lib.hid hBP6
  have HB26 := Lib.hid hb26
  clear hw6 hmk hmk4 hb5 hb46 hC24 hR4 hG4 hC4 hBP hL6 hR6 hE6 hBP6 hC26 HN hRR hGG hs24 hw2s hb26 hcs hce hb3 hb12
  go_loopw [8] (fun iv wr => ∃ (i k : Nat) (ev' : Nat → Ev) (l' : List UInt8) (q' : Bool), iv = .int .i64 (i : Int) ∧ Hid (i = 100 * k) ∧ i ≤ N + 100 ∧ Hid (RdP w.heap.size wr R l' q') ∧ Hid (EvF wr G N ev' (Dn wr.heap.size G R)) ∧ Hid (Chg (Two R G) w6 wr) ∧ Hid (PartsAt body N k ev' l' q')) (fun iv _ => N + 200 - (intOf iv).toNat)
  case atStart => exact ⟨0, 0, _, l1, q1, rfl, Lib.hid rfl, Nat.zero_le _, HR6, HE6, Lib.hid Chg.refl, HPA⟩
  case round =>
    obtain ⟨i, k, ev1, l2, q2, rfl, HIK, hi, HR, HE, HC, HA⟩ := hrel
    obtain ⟨wo, rfl⟩ : ∃ wo, wo = wr := ⟨wr, rfl⟩
    have hLo := HL6.out.chg HC.out (by rintro (e | e) <;> omega)
    have hl0 := hLo.c1
    obtain ⟨b0, o0, k0, hK, _, _, _⟩ := HR.out
    obtain ⟨d0, d1⟩ := hK.c2
    clear hK
    have HLo := Lib.hid hLo
    clear hLo
    by_cases hlt : i < N
    · cases q2
      · have m1 : (i : Int) ≤ min ((i : Int) + 100) (N : Int) := by omega
        have m2 : min ((i : Int) + 100) (N : Int) ≤ (N : Int) := by omega
        have m3 : (0 : Int) ≤ min ((i : Int) + 100) (N : Int) := by omega
        have m4 : (i : Int) < (N : Int) := by omega
        have hme : (min ((i : Int) + 100) (N : Int)).toNat - i = min 100 (N - i) := by omega
        have HBK := Lib.hid (rdBlk_at w.heap.size R G N wo.heap.size i (min 100 (N - i)) (i * 6) (N - i) ev1 l2 false wo HR.out HE.out (by omega) (by omega) (by omega) (Nat.le_refl _) (by omega) rfl (by omega) (by omega) (fun j h1 _ => by rw [HA.out.zero j (by have := HIK.out; omega)]; rfl))
        go_wp2_with fail
        (with_reducible refine HBK.out.mono ?_)
        rintro e w5 ⟨rfl, ev2, l3, q3, hR5, hE5, hC5, hG5⟩
        have HST : Hid (PartsAt body N (k + 1) ev2 l3 q3) := Lib.hid (by
          rw [HIK.out] at hG5
          exact HA.out.step (by have := HIK.out; omega) rfl hG5)
        have HF := Lib.hid (And.intro hR5 (And.intro hE5 (HC.out.trans hC5)))
        clear hR5 hE5 hC5 hG5 hme
        go_wp2_with fail
        go_roundw
        case rel => exact ⟨i + 100, k + 1, ev2, l3, q3, by go_num, Lib.hid (by have := HIK.out; omega), by omega, Lib.hid HF.out.1, Lib.hid HF.out.2.1, Lib.hid HF.out.2.2, HST⟩
        case measure => simp [intOf]; omega
      · have hP := HBP6.out.chg HC.out (by rintro (e | e) <;> omega)
        have r0 := hP.c1
        have fz := hP.frozen 0
        have r1 := (hP.set_ 0 (.slice none 0 0)).c1
        have HF := Lib.hid (retOpenO_no (l := l) (openRes_no HBD.out (fun es hv hb => by have := (HA.out.whole es hv hb).1; cases this)) (HB26.out.trans (HC.out.below (by have := HB26.out.size; omega) (fun i hi => by rintro (e | e) <;> omega))))
        clear hP
        go_wp2_with fail
        refine bodyPost_ret (v := .tuple #[.agg #[.slice none 0 0], .int .i64 3]) (by simp [results, Tryz.results21, go_sem, r1]) rfl ?_
        exact HF.out
    · have hge : N ≤ i := by omega
      have z0 : ¬ (i : Int) < (N : Int) := by omega
      cases q2
      · have hsG : G < wo.heap.size := HE.out.lt
        have hsl := HE.out.sl (c := N) (D' := fun b => w.heap.size < b ∧ b < wo.heap.size) (Nat.le_refl _) (by omega) ⟨by omega, hsG⟩ (fun b hb => ⟨Nat.lt_trans hwR hb.2.2, hb.1⟩)
        have hdone := HA.out.done (by have := HIK.out; omega)
        have HBW := Lib.hid (HB26.out.trans (HC.out.below (by have := HB26.out.size; omega) (fun i hi => by rintro (e | e) <;> omega)))
        have HDN := Lib.hid hdone
        have hP := HBP6.out.chg HC.out (by rintro (e | e) <;> omega)
        obtain ⟨x, hx⟩ : ∃ x, (List.range N).map ev1 = x := ⟨_, rfl⟩
        rw [hx] at hsl HDN
        have HXN := Lib.hid (show x.length = N by rw [← hx]; simp)
        have hlog : IsLog (Lt wo.heap.size) wo (.agg #[.slice (some ⟨G, 0, none⟩) N N]) x := ⟨_, rfl, Sl.keep hsl REv.kept (fun b hb => hb.2) (Same.refl _ _)⟩
        have HSL := Lib.hid hsl
        have HLG := Lib.hid hlog
        have hlv := logValid_any x _ wo hlog
        have HP := Lib.hid hP
        clear hx hdone hsl hlog hP
        cases hv : logB x
        · rw [hv] at hlv
          have HLV := Lib.hid hlv
          have HNO := Lib.hid (openRes_no (l := l) HBD.out (fun es hv' hb he => by
            have := (HDN.out es hv' hb).2
            rw [this, hv'] at hv
            cases hv))
          clear hlv hv
          go_wp2_with fail
          (with_reducible refine HLV.out.mono ?_)
          rintro e w7 ⟨rfl, hb7⟩
          have hP7 := HP.out.now hb7
          have r0 := hP7.c1
          have fz := hP7.frozen 0
          have r1 := (hP7.set_ 0 (.slice none 0 0)).c1
          have HF := Lib.hid (retOpenO_no HNO.out (HBW.out.trans (hb7.mono HBW.out.size)))
          clear hP7 hb7
          go_wp2_with fail
          refine bodyPost_ret (v := .tuple #[.agg #[.slice none 0 0], .int .i64 3]) (by simp [results, Tryz.results21, go_sem, r1]) rfl ?_
          exact HF.out
        · rw [hv] at hlv
          have HLV := Lib.hid hlv
          have HV := Lib.hid hv
          clear hlv hv
          go_wp2_with fail
          (with_reducible refine HLV.out.mono ?_)
          rintro e w7 ⟨rfl, hb7⟩
          have hc7 := (HLo.out.now hb7).c1
          have HPK := Lib.hid (pack_any x _ w7 (HLG.out.now hb7) HV.out)
          have HB7 := Lib.hid hb7
          clear hb7
          go_wp2_with fail
          (with_reducible refine HPK.out.mono ?_)
          rintro e w8 ⟨v8, rfl, hO8, hb8⟩
          have HB8S := hb8.size
          have HB8 := Lib.hid hb8
          have hb08 := (HBW.out.trans (HB7.out.mono HBW.out.size))
          have hb08 := hb08.trans (hb8.mono hb08.size)
          have hE := equal_any _ _ _ _ w8 hO8.slC (Sl.below HS0.out RByte.kept hb08 (Nat.le_refl _))
          have hL8 := (HLo.out.now HB7.out).now hb8
          have hc8 := hL8.c1
          have hP8 := (HP.out.now HB7.out).now hb8
          have r0 := hP8.c1
          have fz := hP8.frozen 0
          have HSL8 := Lib.hid ((HLG.out.now HB7.out).now hb8)
          have HB08 := Lib.hid hb08
          by_cases heq2 : arPack x = l
          · rw [decide_eq_true heq2] at hE
            have HE2 := Lib.hid hE
            have HEQ := Lib.hid heq2
            have r1 := (hP8.set_ 0 (.slice (some ⟨G, 0, none⟩) N N)).c1
            have hfin : RetOpenO l w (.returned (.tuple #[.agg #[.slice (some ⟨G, 0, none⟩) N N], .int .i64 0])) (w8.setCell ⟨w.heap.size, 0, none⟩ (.slice (some ⟨G, 0, none⟩) N N)) := by
              refine ⟨_, x, 0, rfl, ?_, .inl ⟨rfl, HV.out, HEQ.out, fun es hv he => (HDN.out es hv (HBD.out.trans (arPack_body he))).2⟩, HB08.out.setCell (p := ⟨w.heap.size, 0, none⟩) (Nat.le_refl _) _⟩
              refine ⟨?_, _, by rw [HXN.out]⟩
              exact Sl.keep HSL.out REv.kept (fun b hb => ⟨hb.1, by show b < (w8.setCell _ _).heap.size; rw [World.size_setCell]; exact Nat.lt_of_lt_of_le hb.2 (Nat.le_trans HB7.out.size HB8S)⟩) (fun b hb => (Below.heap_setCell w8 _ _ b (Nat.ne_of_gt hb.1)).trans ((HB8.out.block b (Nat.lt_of_lt_of_le hb.2 HB7.out.size)).trans (HB7.out.block b hb.2)))
            have HF := Lib.hid hfin
            clear hE heq2 hO8 hb8 hb08 hL8 hP8 hfin
            go_wp2_with fail
            (with_reducible refine HE2.out.mono ?_)
            rintro e w9 ⟨rfl, rfl⟩
            go_wp2_with fail
            refine bodyPost_ret (v := .tuple #[.agg #[.slice (some ⟨G, 0, none⟩) N N], .int .i64 0]) (by simp [results, Tryz.results21, go_sem, r1]) rfl ?_
            exact HF.out
          · rw [decide_eq_false heq2] at hE
            have HE2 := Lib.hid hE
            have HF := Lib.hid (retOpenO_no (l := l) (openRes_no HBD.out (fun es hv' hb he => by
              have := (HDN.out es hv' hb).2
              rw [this] at heq2
              exact heq2 he)) hb08)
            have r1 := (hP8.set_ 0 (.slice none 0 0)).c1
            clear hE heq2 hO8 hb8 hb08 hL8 hP8
            go_wp2_with fail
            (with_reducible refine HE2.out.mono ?_)
            rintro e w9 ⟨rfl, rfl⟩
            go_wp2_with fail
            refine bodyPost_ret (v := .tuple #[.agg #[.slice none 0 0], .int .i64 3]) (by simp [results, Tryz.results21, go_sem, r1]) rfl ?_
            exact HF.out
      · have hP := HBP6.out.chg HC.out (by rintro (e | e) <;> omega)
        have r0 := hP.c1
        have fz := hP.frozen 0
        have r1 := (hP.set_ 0 (.slice none 0 0)).c1
        have HF := Lib.hid (retOpenO_no (l := l) (openRes_no HBD.out (fun es hv hb => by have := (HA.out.whole es hv hb).1; cases this)) (HB26.out.trans (HC.out.below (by have := HB26.out.size; omega) (fun i hi => by rintro (e | e) <;> omega))))
        clear hP
        go_wp2_with fail
        refine bodyPost_ret (v := .tuple #[.agg #[.slice none 0 0], .int .i64 3]) (by simp [results, Tryz.results21, go_sem, r1]) rfl ?_
        exact HF.out
end Go.Proofs.YtjglmjdfndcmmaaGreat

namespace Go.Proofs.YtjglmjdfndcmmaaGreat
open Go.RowKit
set_option maxHeartbeats 4000000 in
set_option maxRecDepth 100000 in
theorem eventValid_ref (e : Ev) (dv : Value) (w : World) (hf : FitEv e) (hd : SlFl (Lt w.heap.size) w dv e.data) :
    Calls Tryz.prog 46 #[evV e dv] w fun x w' => x = .returned (.bool (evB e)) ∧ Below w.heap.size w w' := by
  obtain ⟨A, c, rfl, h1, h2, hs⟩ := hd.open_
  have HS := Lib.hid hs
  have HE := Lib.hid (evB_eq e)
  have H1 := Lib.hid (fun W => isName_ref e.cas W hf.cas)
  have H2 := Lib.hid (fun W => isName_ref e.act W hf.act)
  have H3 := Lib.hid (fun W => isName_ref e.res W hf.res)
  have hb1 := bone w (.cells #[.string e.cas, .string e.act, .string e.res, .int .i64 e.life, .int .i64 e.time, .slice A e.data.length c] 57)
  have hN1 := Blk.new w 57 #[.string e.cas, .string e.act, .string e.res, .int .i64 e.life, .int .i64 e.time, .slice A e.data.length c]
  obtain ⟨q0, q1, q2, q3, q4, q5⟩ := hN1.c6
  unfold evV
  clear hd hs hf
  have HR1 : Hid (noS e.res = false → (e.res.toList == []) = false) := noS_no
  have HR2 : Hid (noS e.res = true → (e.res.toList == []) = true) := noS_yes
  generalize isNameB e.cas = n1 at *
  generalize isNameB e.act = n2 at *
  generalize isNameB e.res = n3 at *
  generalize noS e.res = nr at *
  go_enter Tryz.func46, Tryz.ntmps46
  go_upto_region 1 with fail
  go_cut [51] from 5 to 51 (fun b W => b = .bool (!((n1 && n2 && (nr || n3)) && (decide (1 ≤ e.life ∧ e.life ≤ 6) && decide (0 ≤ e.time ∧ e.time ≤ 1099511627776) && decide (e.data.length ≤ 8)))) ∧ w.alloc (.cells #[.string e.cas, .string e.act, .string e.res, .int .i64 e.life, .int .i64 e.time, .slice A e.data.length c] 57) = W)
  case first =>
    clear HE
    by_cases hq : (n1 && n2 && (nr || n3)) = true
    · have hq1 : n1 = true := by simp at hq; exact hq.1.1
      have hq2 : n2 = true := by simp at hq; exact hq.1.2
      subst hq1 hq2
      have hq3 : (nr || n3) = true := by simpa using hq
      clear hq
      cases nr <;> cases n3
      · cases hq3
      all_goals
        first | have hr := HR1.out rfl | have hr := HR2.out rfl
        by_cases g1 : e.life < 1
        · have hd : decide (1 ≤ e.life ∧ e.life ≤ 6) = false := by simp; omega
          have HD := Lib.hid hd
          clear hd
          go_wp2_with (first
          | (go_at_call 68; (with_reducible refine (H1.out _).mono ?_); rintro x w' ⟨rfl, rfl⟩)
          | (go_at_call 68; (with_reducible refine (H2.out _).mono ?_); rintro x w' ⟨rfl, rfl⟩)
          | (go_at_call 68; (with_reducible refine (H3.out _).mono ?_); rintro x w' ⟨rfl, rfl⟩))
          go_meet
          exact ⟨by rw [HD.out]; simp, rfl⟩
        by_cases g2 : 6 < e.life
        · have hd : decide (1 ≤ e.life ∧ e.life ≤ 6) = false := by simp; omega
          have HD := Lib.hid hd
          clear hd
          go_wp2_with (first
          | (go_at_call 68; (with_reducible refine (H1.out _).mono ?_); rintro x w' ⟨rfl, rfl⟩)
          | (go_at_call 68; (with_reducible refine (H2.out _).mono ?_); rintro x w' ⟨rfl, rfl⟩)
          | (go_at_call 68; (with_reducible refine (H3.out _).mono ?_); rintro x w' ⟨rfl, rfl⟩))
          go_meet
          exact ⟨by rw [HD.out]; simp, rfl⟩
        by_cases g3 : e.time < 0
        · have hd : decide (0 ≤ e.time ∧ e.time ≤ 1099511627776) = false := by simp; omega
          have HD := Lib.hid hd
          clear hd
          go_wp2_with (first
          | (go_at_call 68; (with_reducible refine (H1.out _).mono ?_); rintro x w' ⟨rfl, rfl⟩)
          | (go_at_call 68; (with_reducible refine (H2.out _).mono ?_); rintro x w' ⟨rfl, rfl⟩)
          | (go_at_call 68; (with_reducible refine (H3.out _).mono ?_); rintro x w' ⟨rfl, rfl⟩))
          go_meet
          exact ⟨by rw [HD.out]; simp, rfl⟩
        by_cases g4 : 1099511627776 < e.time
        · have hd : decide (0 ≤ e.time ∧ e.time ≤ 1099511627776) = false := by simp; omega
          have HD := Lib.hid hd
          clear hd
          go_wp2_with (first
          | (go_at_call 68; (with_reducible refine (H1.out _).mono ?_); rintro x w' ⟨rfl, rfl⟩)
          | (go_at_call 68; (with_reducible refine (H2.out _).mono ?_); rintro x w' ⟨rfl, rfl⟩)
          | (go_at_call 68; (with_reducible refine (H3.out _).mono ?_); rintro x w' ⟨rfl, rfl⟩))
          go_meet
          exact ⟨by rw [HD.out]; simp, rfl⟩
        by_cases g5 : 8 < e.data.length
        · have hd : decide (e.data.length ≤ 8) = false := by simp; omega
          have z5 : (8 : Int) < (e.data.length : Int) := by omega
          have HD := Lib.hid hd
          clear hd
          go_wp2_with (first
          | (go_at_call 68; (with_reducible refine (H1.out _).mono ?_); rintro x w' ⟨rfl, rfl⟩)
          | (go_at_call 68; (with_reducible refine (H2.out _).mono ?_); rintro x w' ⟨rfl, rfl⟩)
          | (go_at_call 68; (with_reducible refine (H3.out _).mono ?_); rintro x w' ⟨rfl, rfl⟩))
          go_meet
          exact ⟨by rw [HD.out]; simp, rfl⟩
        have z5 : ¬ (8 : Int) < (e.data.length : Int) := by omega
        have hd : decide (1 ≤ e.life ∧ e.life ≤ 6) = true := by simp; omega
        have hd2 : decide (0 ≤ e.time ∧ e.time ≤ 1099511627776) = true := by simp; omega
        have hd3 : decide (e.data.length ≤ 8) = true := by simp; omega
        have HD := Lib.hid hd
        have HD2 := Lib.hid hd2
        have HD3 := Lib.hid hd3
        clear hd hd2 hd3
        go_wp2_with (first
        | (go_at_call 68; (with_reducible refine (H1.out _).mono ?_); rintro x w' ⟨rfl, rfl⟩)
        | (go_at_call 68; (with_reducible refine (H2.out _).mono ?_); rintro x w' ⟨rfl, rfl⟩)
        | (go_at_call 68; (with_reducible refine (H3.out _).mono ?_); rintro x w' ⟨rfl, rfl⟩))
        go_meet
        exact ⟨by rw [HD.out, HD2.out, HD3.out]; first | rfl | (congr 1; simp; omega), rfl⟩
    · cases n1 <;> cases n2 <;> cases nr <;> cases n3
      all_goals first | (exact absurd rfl hq) | skip
      all_goals
        first | have hr := HR1.out rfl | have hr := HR2.out rfl
        clear hq
        go_wp2_with (first
        | (go_at_call 68; (with_reducible refine (H1.out _).mono ?_); rintro x w' ⟨rfl, rfl⟩)
        | (go_at_call 68; (with_reducible refine (H2.out _).mono ?_); rintro x w' ⟨rfl, rfl⟩)
        | (go_at_call 68; (with_reducible refine (H3.out _).mono ?_); rintro x w' ⟨rfl, rfl⟩))
        go_meet
        exact ⟨rfl, rfl⟩
  obtain ⟨rfl, rfl⟩ := hcut
  clear H1 H2 H3 HR1 HR2
  generalize hq0 : ((n1 && n2 && (nr || n3)) && (decide (1 ≤ e.life ∧ e.life ≤ 6) && decide (0 ≤ e.time ∧ e.time ≤ 1099511627776) && decide (e.data.length ≤ 8))) = q0 at *
  clear hq0
  cases q0
  · go_wp2_with fail
    go_ret
    exact ⟨ret_bool (by rw [HE.out]; simp), hb1⟩
  have HX : Hid (evB e = fldsB e.data) := by exact HE.out
  obtain ⟨w1, hw1⟩ : ∃ w1, w.alloc (.cells #[.string e.cas, .string e.act, .string e.res, .int .i64 e.life, .int .i64 e.time, .slice A e.data.length c] 57) = w1 := ⟨_, rfl⟩
  rw [hw1] at hb1 hN1 q5 ⊢
  have hlw : w.heap.size < w1.heap.size := by rw [← hw1]; simp
  have HS1 : Hid (SlFl (Lt w1.heap.size) w1 (.slice A e.data.length c) e.data) := SlFl.now HS.out hb1
  clear hw1 HS HE q0 q1 q2 q3 q4
  go_wp2_with fail
  go_loopw [3] (fun iv wr => ∃ k : Nat, k ≤ e.data.length ∧ iv = .int .i64 (k : Int) ∧ Below w1.heap.size w1 wr ∧ Hid (∀ j, j < k → fldAt e.data j = true)) (fun iv _ => e.data.length - (intOf iv).toNat)
  case atStart => exact ⟨0, Nat.zero_le _, rfl, Below.refl _ _, fun j hj => absurd hj (by omega)⟩
  case round =>
    obtain ⟨k, hk, rfl, hbr, HK⟩ := hrel
    by_cases hlt : k < e.data.length
    · obtain ⟨b, o, f, rfl, hD, hx, hff, f0, f1, f2, f3⟩ := SlFl.at_ HS1.out hlt
      have HXK := Lib.hid hx
      have r5 := (hbr.cell (p := ⟨w.heap.size, 5, none⟩) hlw).trans q5
      have r0 := (hbr.cell (p := ⟨b, o + k * 4, none⟩) hD).trans f0
      have r1 := (hbr.cell (p := ⟨b, o + k * 4 + 1, none⟩) hD).trans f1
      have r2 := (hbr.cell (p := ⟨b, o + k * 4 + 2, none⟩) hD).trans f2
      have r3 := (hbr.cell (p := ⟨b, o + k * 4 + 3, none⟩) hD).trans f3
      have HN := Lib.hid (fun W => isName_ref f.nm W hff.nm)
      have HV := Lib.hid (fun W => validV_ref f.v W hff.v)
      unfold valV at HV
      have hN2 := Blk.new wr 64 #[.string f.nm, .int .i64 f.v.kind, .int .i64 f.v.n, .string f.v.s]
      have hb2 := bone wr (.cells #[.string f.nm, .int .i64 f.v.kind, .int .i64 f.v.n, .string f.v.s] 64)
      clear hx f0 f1 f2 f3
      go_upto_region 7 with fail
      obtain ⟨w2, hw2⟩ : ∃ w2, wr.alloc (.cells #[.string f.nm, .int .i64 f.v.kind, .int .i64 f.v.n, .string f.v.s] 64) = w2 := ⟨_, rfl⟩
      rw [hw2] at hb2 hN2 ⊢
      have hlr : wr.heap.size < w2.heap.size := by rw [← hw2]; simp
      have hb12 : Below w1.heap.size w1 w2 := hbr.trans (hb2.mono hbr.size)
      clear hw2
      have t5 : ∀ W, (ext w2 W).cell? ⟨w.heap.size, 5, none⟩ = some (.slice (some ⟨b, o, none⟩) e.data.length c) := fun W => ((ext_below w2 W).cell (p := ⟨w.heap.size, 5, none⟩) (Nat.lt_of_lt_of_le hlw hb12.size)).trans ((hb12.cell (p := ⟨w.heap.size, 5, none⟩) hlw).trans q5)
      obtain ⟨p0, p1, p2, p3⟩ := hN2.c4
      have t0 : ∀ W, (ext w2 W).cell? ⟨wr.heap.size, 0, none⟩ = some (.string f.nm) := fun W => ((ext_below w2 W).cell (p := ⟨wr.heap.size, 0, none⟩) hlr).trans p0
      have t1 : ∀ W, (ext w2 W).cell? ⟨wr.heap.size, 1, none⟩ = some (.int .i64 f.v.kind) := fun W => ((ext_below w2 W).cell (p := ⟨wr.heap.size, 1, none⟩) hlr).trans p1
      have t2 : ∀ W, (ext w2 W).cell? ⟨wr.heap.size, 2, none⟩ = some (.int .i64 f.v.n) := fun W => ((ext_below w2 W).cell (p := ⟨wr.heap.size, 2, none⟩) hlr).trans p2
      have t3 : ∀ W, (ext w2 W).cell? ⟨wr.heap.size, 3, none⟩ = some (.string f.v.s) := fun W => ((ext_below w2 W).cell (p := ⟨wr.heap.size, 3, none⟩) hlr).trans p3
      generalize hfa : fldAt e.data k = fa
      go_cut [89] from 64 to 89 (fun b W => b = .bool (!fa) ∧ Below w2.heap.size w2 W)
      case first =>
        clear HX HK
        generalize hnn : isNameB f.nm = nn at *
        generalize hvv : validV f.v = vv at *
        cases nn
        · have HFA : Hid (fa = false) := by show _ = _; rw [← hfa]; exact fldAt_bad HXK.out (by rw [hnn]; rfl)
          clear hfa hnn hvv
          refine wp_region_growV (by kernel_rfl) (by kernel_rfl) ?_
          repeat (refine veil_step (fun K hK => ?_); go_simp; first | (refine hK _ ?_; clear hK K) | (apply Exists.intro; refine ⟨fun Wq => ?_, hK _ ?_⟩; ((go_at_call 68; exact grow_same' (HN.out (ext w2 Wq)))); clear hK K))
          refine veil_nil ?_
          intro _ hw'
          obtain ⟨W, rfl⟩ := hw'
          go_wp2_with fail
          go_meet
          exact ⟨by first | (rw [HFA.out]; done) | (rw [HFA.out]; rfl), ext_below w2 W⟩
        cases vv
        · have HFA : Hid (fa = false) := by show _ = _; rw [← hfa]; exact fldAt_bad HXK.out (by rw [hnn, hvv]; rfl)
          clear hfa hnn hvv
          refine wp_region_growV (by kernel_rfl) (by kernel_rfl) ?_
          repeat (refine veil_step (fun K hK => ?_); go_simp; first | (refine hK _ ?_; clear hK K) | (apply Exists.intro; refine ⟨fun Wq => ?_, hK _ ?_⟩; ((first | (go_at_call 68; exact grow_same' (HN.out (ext w2 Wq))) | (go_at_call 69; exact grow_of (HV.out (ext w2 Wq))))); clear hK K))
          refine veil_nil ?_
          intro _ hw'
          obtain ⟨W, rfl⟩ := hw'
          go_wp2_with fail
          go_meet
          exact ⟨by first | (rw [HFA.out]; done) | (rw [HFA.out]; rfl), ext_below w2 W⟩
        cases k with
        | zero =>
          have HFA : Hid (fa = true) := by show _ = _; rw [← hfa, fldAt_zero HXK.out, hnn, hvv]; rfl
          clear hfa hnn hvv
          refine wp_region_growV (by kernel_rfl) (by kernel_rfl) ?_
          repeat (refine veil_step (fun K hK => ?_); go_simp; first | (refine hK _ ?_; clear hK K) | (apply Exists.intro; refine ⟨fun Wq => ?_, hK _ ?_⟩; ((first | (go_at_call 68; exact grow_same' (HN.out (ext w2 Wq))) | (go_at_call 69; exact grow_of (HV.out (ext w2 Wq))))); clear hK K))
          refine veil_nil ?_
          intro _ hw'
          obtain ⟨W, rfl⟩ := hw'
          go_wp2_with fail
          go_meet
          exact ⟨by first | (rw [HFA.out]; done) | (rw [HFA.out]; rfl), ext_below w2 W⟩
        | succ m =>
          obtain ⟨b', o', f', hA', hD', hx', hff', f0', f1', f2', f3'⟩ := SlFl.at_ HS1.out (k := m) (by omega)
          injection hA' with hA'
          injection hA' with e1 e2 _
          subst e1 e2
          have t6 : ∀ W, (ext w2 W).cell? ⟨b, o + m * 4, none⟩ = some (.string f'.nm) := fun W => ((ext_below w2 W).cell (p := ⟨b, o + m * 4, none⟩) (Nat.lt_of_lt_of_le hD hb12.size)).trans ((hb12.cell (p := ⟨b, o + m * 4, none⟩) hD).trans f0')
          have hls := less_at f'.nm f.nm
          have HFA : Hid (fa = decide (f'.nm.data.toList < f.nm.data.toList)) := by show _ = _; rw [← hfa, fldAt_succ HXK.out hx', hnn, hvv]; rfl
          generalize decide (f'.nm.data.toList < f.nm.data.toList) = dd at *
          have d0 : decide ((0 : Int) < (m : Int) + 1) = true := by simp <;> omega
          have d1 : (0 : Int) ≤ (m : Int) := by omega
          have d2 : (m : Int) < (e.data.length : Int) := by omega
          have d3 : IntKind.i64.wrap (m : Int) = m := i64wrap (by omega)
          clear hfa hnn hvv f0' f1' f2' f3' hx'
          refine wp_region_growV (by kernel_rfl) (by kernel_rfl) ?_
          repeat (refine veil_step (fun K hK => ?_); go_simp; first | (refine hK _ ?_; clear hK K) | (apply Exists.intro; refine ⟨fun Wq => ?_, hK _ ?_⟩; ((first | (go_at_call 68; exact grow_same' (HN.out (ext w2 Wq))) | (go_at_call 69; exact grow_of (HV.out (ext w2 Wq))))); clear hK K))
          refine veil_nil ?_
          intro _ hw'
          obtain ⟨W, rfl⟩ := hw'
          go_wp2_with fail
          go_meet
          exact ⟨by first | (rw [HFA.out]; done) | (rw [HFA.out]; rfl), ext_below w2 W⟩
      obtain ⟨rfl, hb3⟩ := hcut
      have hb13 := hb12.trans (hb3.mono hb12.size)
      cases fa
      · have HFF : Hid (fldsB e.data = false) := all_no hlt hfa
        clear hfa
        go_wp2_with fail
        go_ret
        exact ⟨ret_bool (by rw [HX.out, HFF.out]), hb1.trans (hb13.mono hb1.size)⟩
      · have HFT := Lib.hid hfa
        clear hfa
        go_wp2_with fail
        go_roundw
        case rel => exact ⟨k + 1, by omega, by go_num, hb13, fun j hj => by
          by_cases ej : j = k
          · subst ej; exact HFT.out
          · exact HK.out j (by omega)⟩
        case measure => simp [intOf]; omega
    · have HFF : Hid (fldsB e.data = true) := all_yes fun j hj => HK.out j (by omega)
      have r5 := (hbr.cell (p := ⟨w.heap.size, 5, none⟩) hlw).trans q5
      go_wp2_with fail
      go_ret
      exact ⟨ret_bool (by rw [HX.out, HFF.out]), hb1.trans (hbr.mono hb1.size)⟩
end Go.Proofs.YtjglmjdfndcmmaaGreat

namespace Go.Proofs.YtjglmjdfndcmmaaGreat
open Go.RowKit
set_option maxHeartbeats 4000000 in
set_option maxRecDepth 100000 in
theorem logValid_ref (l : List Ev) (u : Value) (w : World) (h : IsLog (Lt w.heap.size) w u l) :
    Calls Tryz.prog 28 #[u] w fun x w' => x = .returned (.bool (logB l)) ∧ Below w.heap.size w w' := by
  obtain ⟨_, rfl, h⟩ := h
  obtain ⟨A, c, rfl, h1, h2, hs⟩ := h.open_
  have hb1 := bone w (.cells #[.slice A l.length c] 25)
  have HS1 := Lib.hid (SlEv.now hs hb1)
  have hq := (Blk.new w 25 #[.slice A l.length c]).c1
  have HE := Lib.hid (logB_eq l)
  have hlw : w.heap.size < (w.alloc (.cells #[.slice A l.length c] 25)).heap.size := by simp
  clear h hs
  by_cases hl : 2000 < l.length
  · have HX : Hid (logB l = false) := by show _ = _; rw [HE.out, decide_eq_false (by omega)]; rfl
    have hl' : (2000 : Int) < (l.length : Int) := by omega
    clear hlw
    go_enter Tryz.func28, Tryz.ntmps28
    go_wp2_with fail
    go_ret
    exact ⟨ret_bool HX.out.symm, hb1⟩
  have HX : Hid (logB l = (List.range l.length).all (evAt l)) := by show _ = _; rw [HE.out, decide_eq_true (by omega)]; rfl
  have hl' : ¬ (2000 : Int) < (l.length : Int) := by omega
  clear HE
  go_enter Tryz.func28, Tryz.ntmps28
  go_wp2_with fail
  obtain ⟨w1, hw1⟩ : ∃ w1, w.alloc (.cells #[.slice A l.length c] 25) = w1 := ⟨_, rfl⟩
  rw [hw1] at hb1 HS1 hq hlw ⊢
  clear hw1 hl'
  go_loopw [3] (fun iv wr => ∃ k : Nat, k ≤ l.length ∧ iv = .int .i64 (k : Int) ∧ Below w1.heap.size w1 wr ∧ Hid (∀ j, j < k → evAt l j = true)) (fun iv _ => l.length - (intOf iv).toNat)
  case atStart => exact ⟨0, Nat.zero_le _, rfl, Below.refl _ _, fun j hj => absurd hj (by omega)⟩
  case round =>
    obtain ⟨k, hk, rfl, hbr, HK⟩ := hrel
    by_cases hlt : k < l.length
    · obtain ⟨b, o, e, dv, rfl, hD, hx, hff, hdv, f0, f1, f2, f3, f4, f5⟩ := SlEv.at_ HS1.out hlt
      obtain ⟨Ad, cd, rfl, _, _, hdv⟩ := hdv.open_
      have HXK := Lib.hid hx
      have rq := (hbr.cell (p := ⟨w.heap.size, 0, none⟩) hlw).trans hq
      have r0 := (hbr.cell (p := ⟨b, o + k * 6, none⟩) hD).trans f0
      have r1 := (hbr.cell (p := ⟨b, o + k * 6 + 1, none⟩) hD).trans f1
      have r2 := (hbr.cell (p := ⟨b, o + k * 6 + 2, none⟩) hD).trans f2
      have r3 := (hbr.cell (p := ⟨b, o + k * 6 + 3, none⟩) hD).trans f3
      have r4 := (hbr.cell (p := ⟨b, o + k * 6 + 4, none⟩) hD).trans f4
      have r5 := (hbr.cell (p := ⟨b, o + k * 6 + 5, none⟩) hD).trans f5
      clear hx
      go_upto_region 6 with fail
      obtain ⟨w2, hw2⟩ : ∃ w2, wr = w2 := ⟨_, rfl⟩
      rw [hw2] at hbr r0 r1 r2 r3 r4 r5 rq ⊢
      have hb12 : Below w1.heap.size w1 w2 := hbr
      clear hw2
      have hD2 := Nat.lt_of_lt_of_le hD hb12.size
      have t0 : ∀ W, (ext w2 W).cell? ⟨b, o + k * 6, none⟩ = some (.string e.cas) := fun W => ((ext_below w2 W).cell (p := ⟨b, o + k * 6, none⟩) hD2).trans r0
      have t1 : ∀ W, (ext w2 W).cell? ⟨b, o + k * 6 + 1, none⟩ = some (.string e.act) := fun W => ((ext_below w2 W).cell (p := ⟨b, o + k * 6 + 1, none⟩) hD2).trans r1
      have t2 : ∀ W, (ext w2 W).cell? ⟨b, o + k * 6 + 2, none⟩ = some (.string e.res) := fun W => ((ext_below w2 W).cell (p := ⟨b, o + k * 6 + 2, none⟩) hD2).trans r2
      have t3 : ∀ W, (ext w2 W).cell? ⟨b, o + k * 6 + 3, none⟩ = some (.int .i64 e.life) := fun W => ((ext_below w2 W).cell (p := ⟨b, o + k * 6 + 3, none⟩) hD2).trans r3
      have t4 : ∀ W, (ext w2 W).cell? ⟨b, o + k * 6 + 4, none⟩ = some (.int .i64 e.time) := fun W => ((ext_below w2 W).cell (p := ⟨b, o + k * 6 + 4, none⟩) hD2).trans r4
      have t5 : ∀ W, (ext w2 W).cell? ⟨b, o + k * 6 + 5, none⟩ = some (.slice Ad e.data.length cd) := fun W => ((ext_below w2 W).cell (p := ⟨b, o + k * 6 + 5, none⟩) hD2).trans r5
      have tq : ∀ W, (ext w2 W).cell? ⟨w.heap.size, 0, none⟩ = some (.slice (some ⟨b, o, none⟩) l.length c) := fun W => ((ext_below w2 W).cell (p := ⟨w.heap.size, 0, none⟩) (Nat.lt_of_lt_of_le hlw hb12.size)).trans ((hb12.cell (p := ⟨w.heap.size, 0, none⟩) hlw).trans hq)
      have HV : Hid (∀ W, Calls Tryz.prog 46 #[evV e (.slice Ad e.data.length cd)] (ext w2 W) fun x w' => x = .returned (.bool (evB e)) ∧ Below (ext w2 W).heap.size (ext w2 W) w') :=
        fun W => eventValid_ref e _ (ext w2 W) hff ((hdv.below hb12 hb12.size).below (ext_below w2 W) (ext_below w2 W).size)
      unfold evV at HV
      have zk1 : (0 : Int) ≤ (k : Int) := by omega
      have zk2 : (k : Int) < (l.length : Int) := by omega
      generalize hfa : evAt l k = fa
      clear rq r0 r1 r2 r3 r4 r5
      go_cut [41] from 15 to 41 (fun b W => b = .bool (!fa) ∧ Below w2.heap.size w2 W)
      case first =>
        clear HX HK
        generalize hnn : evB e = nn at *
        cases nn
        · have HFA : Hid (fa = false) := by show _ = _; rw [← hfa]; exact evAt_bad HXK.out hnn
          clear hfa hnn
          refine wp_region_growV (by kernel_rfl) (by kernel_rfl) ?_
          repeat (refine veil_step (fun K hK => ?_); go_simp; first | (refine hK _ ?_; clear hK K) | (apply Exists.intro; refine ⟨fun Wq => ?_, hK _ ?_⟩; ((go_at_call 46; exact grow_of (HV.out Wq))); clear hK K))
          refine veil_nil ?_
          intro _ hw'
          obtain ⟨W, rfl⟩ := hw'
          go_wp2_with fail
          go_meet
          exact ⟨by first | (rw [HFA.out]; done) | (rw [HFA.out]; rfl), ext_below w2 W⟩
        by_cases hk0 : k = 0
        · have HFA : Hid (fa = true) := by
            show _ = _
            have h0 := HXK.out
            rw [hk0] at h0
            rw [← hfa, hk0, evAt_zero h0, hnn]
          have d0 : decide (0 < k) = false := by simp; omega
          clear hfa hnn hk0
          refine wp_region_growV (by kernel_rfl) (by kernel_rfl) ?_
          repeat (refine veil_step (fun K hK => ?_); go_simp; first | (refine hK _ ?_; clear hK K) | (apply Exists.intro; refine ⟨fun Wq => ?_, hK _ ?_⟩; ((go_at_call 46; exact grow_of (HV.out Wq))); clear hK K))
          refine veil_nil ?_
          intro _ hw'
          obtain ⟨W, rfl⟩ := hw'
          go_wp2_with fail
          go_meet
          exact ⟨by first | (rw [HFA.out]; done) | (rw [HFA.out]; rfl), ext_below w2 W⟩
        · obtain ⟨m, hm⟩ : ∃ m, k = m + 1 := ⟨k - 1, by omega⟩
          obtain ⟨b', o', e', dv', hA', hD', hx', hff', hdv', f0', f1', f2', f3', f4', f5'⟩ := SlEv.at_ HS1.out (k := m) (by omega)
          injection hA' with hA'
          injection hA' with e1 e2 _
          subst e1 e2
          have t6 : ∀ W, (ext w2 W).cell? ⟨b, o + m * 6 + 4, none⟩ = some (.int .i64 e'.time) := fun W => ((ext_below w2 W).cell (p := ⟨b, o + m * 6 + 4, none⟩) (Nat.lt_of_lt_of_le hD hb12.size)).trans ((hb12.cell (p := ⟨b, o + m * 6 + 4, none⟩) hD).trans f4')
          have hls := lt_not_le e.time e'.time
          have HFA : Hid (fa = decide (e'.time ≤ e.time)) := by show _ = _; rw [← hfa, hm, evAt_succ (hm ▸ HXK.out) hx', hnn]; rfl
          generalize decide (e'.time ≤ e.time) = dd at *
          have d0 : decide (0 < k) = true := by simp; omega
          have d1 : (0 : Int) ≤ (m : Int) := by omega
          have d2 : (m : Int) < (l.length : Int) := by omega
          have d3 : IntKind.i64.wrap ((k : Int) - 1) = m := by rw [i64wrap (by omega)]; omega
          clear hfa hnn hm hk0 f0' f1' f2' f3' f4' f5' hx'
          refine wp_region_growV (by kernel_rfl) (by kernel_rfl) ?_
          repeat (refine veil_step (fun K hK => ?_); go_simp; first | (refine hK _ ?_; clear hK K) | (apply Exists.intro; refine ⟨fun Wq => ?_, hK _ ?_⟩; ((go_at_call 46; exact grow_of (HV.out Wq))); clear hK K))
          refine veil_nil ?_
          intro _ hw'
          obtain ⟨W, rfl⟩ := hw'
          go_wp2_with fail
          go_meet
          exact ⟨by first | (rw [HFA.out]; done) | (rw [HFA.out]; rfl), ext_below w2 W⟩
      obtain ⟨rfl, hb3⟩ := hcut
      have hb13 := hb12.trans (hb3.mono hb12.size)
      cases fa
      · have HFF : Hid ((List.range l.length).all (evAt l) = false) := all_no hlt hfa
        clear hfa
        go_wp2_with fail
        go_ret
        exact ⟨ret_bool (by rw [HX.out, HFF.out]), hb1.trans (hb13.mono hb1.size)⟩
      · have HFT := Lib.hid hfa
        clear hfa
        go_wp2_with fail
        go_roundw
        case rel => exact ⟨k + 1, by omega, by go_num, hb13, fun j hj => by
          by_cases ej : j = k
          · subst ej; exact HFT.out
          · exact HK.out j (by omega)⟩
        case measure => simp [intOf]; omega
    · have HFF : Hid ((List.range l.length).all (evAt l) = true) := all_yes fun j hj => HK.out j (by omega)
      have rq := (hbr.cell (p := ⟨w.heap.size, 0, none⟩) hlw).trans hq
      go_wp2_with fail
      go_ret
      exact ⟨ret_bool (by rw [HX.out, HFF.out]), hb1.trans (hbr.mono hb1.size)⟩
end Go.Proofs.YtjglmjdfndcmmaaGreat

set_option linter.all false
namespace Go.Proofs.YtjglmjdfndcmmaaGreat
open Go.RowKit
theorem part_sl' {D : Nat → Prop} {w : World} {b o n c : Nat} {es : List Ev} (h : SlEv D w (.slice (some ⟨b, o, none⟩) n c) es) {x : Nat} (hx : x < nParts es) (hn : n = es.length) (c' : Nat) (h1 : min 100 (n - 100 * x) ≤ c') (h2 : c' ≤ maxLen) :
    SlEv D w (.slice (some ⟨b, o + 100 * x * 6, none⟩) (min 100 (n - 100 * x)) c') (part es x) := by
  unfold nParts at hx
  subst hn
  have h2 := Sl.sub h (100 * x) (min 100 (es.length - 100 * x)) c' (by omega) h1 h2
  have h3 : (es.drop (100 * x)).take (min 100 (es.length - 100 * x)) = part es x := by
    unfold part
    rw [← List.length_drop, ← List.take_eq_take_min]
  rw [h3] at h2
  exact h2
set_option maxHeartbeats 1000000 in
theorem partR (b o n c x : Nat) (w : World) (hx : 100 * x < n) (hn : n ≤ 1000000) (hc : n ≤ c) (hc2 : c ≤ 9223372036854775807) :
    Calls Tryz.prog 17 #[.agg #[.slice (some ⟨b, o, none⟩) n c], .int .i64 (x : Int)] w fun e w' => e = .returned (.slice (some ⟨b, o + 100 * x * 6, none⟩) (min 100 (n - 100 * x)) (c - 100 * x)) ∧ Below w.heap.size w w' := by
  have hb1 := bone w (.cells #[.slice (some ⟨b, o, none⟩) n c] 25)
  have hc1 := (Blk.new w 25 #[.slice (some ⟨b, o, none⟩) n c]).c1
  have hw1 : IntKind.i64.wrap (100 * (x : Int)) = 100 * (x : Int) := i64wrap (by omega)
  have hw2 : IntKind.i64.wrap (100 * (x : Int) + 100) = 100 * (x : Int) + 100 := i64wrap (by omega)
  have z1 : (0 : Int) ≤ 100 * (x : Int) := by omega
  have z2 : 100 * (x : Int) ≤ (n : Int) := by omega
  have z3 : 100 * (x : Int) ≤ (c : Int) := by omega
  have z4 : 100 * (x : Int) < (n : Int) := by omega
  have m1 : 100 * (x : Int) ≤ min (100 * (x : Int) + 100) (n : Int) := by omega
  have m2 : min (100 * (x : Int) + 100) (n : Int) ≤ (c : Int) := by omega
  have m3 : (0 : Int) ≤ min (100 * (x : Int) + 100) (n : Int) := by omega
  have hme : (min (100 * (x : Int) + 100) (n : Int)).toNat - 100 * x = min 100 (n - 100 * x) := by omega
  rw [← hme]
  clear hme
  go_enter Tryz.func17, Tryz.ntmps17
  go_wp2_with fail
  go_ret
  exact ⟨rfl, hb1⟩
set_option maxHeartbeats 1000000 in
theorem blocksR (A : Option Addr) (n c : Nat) (w : World) (hn : n ≤ 1000000) :
    Calls Tryz.prog 15 #[.agg #[.slice A n c]] w fun e w' => e = .returned (.int .i64 (((n + 99) / 100 : Nat) : Int)) ∧ Below w.heap.size w w' := by
  have hb1 := bone w (.cells #[.slice A n c] 25)
  have hc1 := (Blk.new w 25 #[.slice A n c]).c1
  have hw1 : IntKind.i64.wrap ((n : Int) + 100) = (n : Int) + 100 := i64wrap (by omega)
  have hw2 : IntKind.i64.wrap ((n : Int) + 100 - 1) = (n : Int) + 100 - 1 := i64wrap (by omega)
  have hw3 : IntKind.i64.wrap (((n : Int) + 100 - 1) / 100) = ((n : Int) + 100 - 1) / 100 := i64wrap (by omega)
  go_enter Tryz.func15, Tryz.ntmps15
  go_wp2_with fail
  go_ret
  refine ⟨?_, hb1⟩
  show Ending.returned (.int .i64 (((n : Int) + 100 - 1) / 100)) = _
  rw [show ((n : Int) + 100 - 1) / 100 = (((n + 99) / 100 : Nat) : Int) by omega]
def le4To (s k : Nat) : List UInt8 := (le4 s).take k
theorem le4To_succ {s k : Nat} (hk : k < 4) : le4To s (k + 1) = le4To s k ++ [UInt8.ofNat (s / 256 ^ k % 256)] := by
  rcases (show k = 0 ∨ k = 1 ∨ k = 2 ∨ k = 3 by omega) with rfl | rfl | rfl | rfl <;> simp [le4To, le4]
theorem parts_room {es : List Ev} (hl : es.length ≤ 2000) (hok : ∀ e ∈ es, EvOk e) {x : Nat} (hx : x < nParts es) : (arNum es.length ++ arParts es x).length + (arBlock (part es x)).length ≤ 9000000 := by
  have a1 := arNum_len (n := es.length) (by omega)
  have a2 := arParts_len hok x
  have a3 := arBlock_len (l := part es x) (fun e he => hok e (part_mem he)) (part_len es x)
  have a4 : x ≤ 20 := by unfold nParts at hx; omega
  rw [List.length_append]
  omega
set_option maxRecDepth 100000 in
set_option maxHeartbeats 2000000 in
theorem packR (es : List Ev) (u : Value) (w : World) (h : IsLog (Lt w.heap.size) w u es) :
    Calls Tryz.prog 29 #[u] w (RetPack w.heap.size w (packE es)) := by
  have h0 := h
  obtain ⟨ev, rfl, hs⟩ := h
  obtain ⟨A, c, rfl, hcl, hcm, hs⟩ := hs.open_
  have hb1 := bone w (.cells #[.slice A es.length c] 25)
  have hB1 := Blk.new w 25 #[.slice A es.length c]
  have hc1 := hB1.c1
  have HV := Lib.hid (logValid_ref es _ _ (h0.now hb1))
  cases hv : logB es
  · have HE : Hid (packE es = ([], 1)) := by show _ = _; unfold packE; rw [hv]; rfl
    rw [hv] at HV
    clear hv h0 hs
    go_enter Tryz.func29, Tryz.ntmps29
    go_wp2_with fail
    (with_reducible refine HV.out.mono ?_)
    rintro x w1 ⟨rfl, hb2⟩
    go_wp2_with fail
    go_ret2
    refine ⟨.slice none 0 0, ?_, ?_, hb1.trans (hb2.mono hb1.size)⟩
    · rw [HE.out]; rfl
    · rw [HE.out]; exact ownC_nil _ _
  · obtain ⟨hlen, hok⟩ := log_parts hv
    have HOK := Lib.hid hok
    have HMO := Lib.hid (log_time hv)
    have HE : Hid (packE es = if 262144 < (arPack es).length then ([], 5) else (arPack es, 0)) := by show _ = _; unfold packE; rw [hv, if_pos rfl]
    have hpl := arPack_len hv
    have HPL := Lib.hid hpl
    rw [hv] at HV
    have HSL := Lib.hid hs
    have HVV := Lib.hid hv
    clear hv h0 hs hok hpl
    go_enter Tryz.func29, Tryz.ntmps29
    go_wp2_with fail
    (with_reducible refine HV.out.mono ?_)
    rintro x w1 ⟨rfl, hb2⟩
    have hB2 := hB1.now hb2
    have hc2 := hB2.c1
    have hb12 := hb1.trans (hb2.mono hb1.size)
    have HS := Lib.hid (SlEv.now HSL.out hb12)
    have HB12 := Lib.hid hb12
    have HCN := Lib.hid (numR es.length w1.heap.size (.slice none 0 0) [] w1 (by omega) (ownC_nil _ _) (Nat.le_refl _) (by have := arNum_len (n := es.length) (by omega); simp; omega))
    have HB2 := Lib.hid hB2
    clear hb1 hB1 hc1 hb2 hB2 hb12 HV
    go_wp2_with fail
    (with_reducible refine HCN.out.mono ?_)
    rintro _ w2 ⟨v2, rfl, hA2⟩
    rw [List.nil_append] at hA2
    have HA2 := Lib.hid hA2
    clear hA2 hc2
    go_wp2_with fail
    go_loopw [4, 5] (fun sv kv wr => ∃ k : Nat, kv = .int .i64 (k : Int) ∧ k ≤ nParts es ∧ Hid (Adds w1.heap.size w1 (.slice none 0 0) (arNum es.length ++ arParts es k) wr sv)) (fun _ kv _ => nParts es - (intOf kv).toNat)
    case atStart => exact ⟨0, rfl, Nat.zero_le _, Lib.hid (by simpa [arParts] using HA2.out)⟩
    case round =>
      obtain ⟨k, rfl, hk, HA⟩ := hrel
      obtain ⟨wo, rfl⟩ : ∃ wo, wo = wr := ⟨wr, rfl⟩
      have HBW := Lib.hid (HA.out.below (ownC_nil _ _) (Nat.le_refl _))
      have hG := HB2.out.now HBW.out
      have g1 := hG.c1
      have HCB := Lib.hid (blocksR A es.length c wo (by omega))
      rw [show (es.length + 99) / 100 = nParts es from rfl] at HCB
      by_cases hlt : k < nParts es
      · have z0 : (k : Int) < (nParts es : Int) := by omega
        have hl2 : 100 * k < es.length := by unfold nParts at hlt; omega
        obtain ⟨b, o, _, _, rfl, -⟩ := SlEv.at_ HS.out (k := 0) (by omega)
        have HRM := Lib.hid (parts_room hlen HOK.out hlt)
        go_wp2_with fail
        (with_reducible refine HCB.out.mono ?_)
        rintro _ w3 ⟨rfl, hb3⟩
        have hG3 := hG.now hb3
        have g3 := hG3.c1
        have HP := Lib.hid (partR b o es.length c k w3 hl2 (by omega) hcl hcm)
        clear g1 hG
        go_wp2_with fail
        (with_reducible refine HP.out.mono ?_)
        rintro _ w4 ⟨rfl, hb4⟩
        have HA4 := Lib.hid (HA.out.post (hb3.trans (hb4.mono hb3.size)))
        have HBK := Lib.hid (blockR (part es k) _ w1.heap.size u4 (arNum es.length ++ arParts es k) w4 (part_sl' (SlEv.below HS.out (HA4.out.below (ownC_nil _ _) (Nat.le_refl _)) (Nat.le_refl _)) hlt rfl (c - 100 * k) (by omega) (by unfold maxLen; omega)) (fun e he => HOK.out e (part_mem he)) (part_len es k) (HMO.out.sublist ((List.take_sublist _ _).trans (List.drop_sublist _ _))) HA4.out.own HA4.out.grown.size HRM.out)
        clear g3 hG3 hb3 hb4
        go_wp2_with fail
        (with_reducible refine HBK.out.mono ?_)
        rintro _ w5 ⟨v5, rfl, hA5⟩
        go_wp2_with fail
        go_roundw
        case rel =>
          refine ⟨k + 1, by go_num, by omega, Lib.hid ?_⟩
          rw [arParts_succ, ← List.append_assoc]
          exact HA4.out.trans hA5
        case measure => simp [intOf]; omega
      · obtain rfl : k = nParts es := by omega
        have z0 : ¬ (nParts es : Int) < (nParts es : Int) := by omega
        go_wp2_with fail
        (with_reducible refine HCB.out.mono ?_)
        rintro _ w3 ⟨rfl, hb3⟩
        have hA3 := HA.out.post hb3
        rw [show arNum es.length ++ arParts es (nParts es) = arBody es from rfl] at hA3
        have HA3 := Lib.hid hA3
        have HSM := Lib.hid (sum_ref u4 (arBody es) w3 hA3.own.slC)
        have hbl : (arBody es).length ≤ 4900000 := arBody_len HVV.out
        have hsl := sumOf_lt (arBody es)
        have HPK : Hid (arPack es = arBody es ++ le4To (sumOf (arBody es)) 4) := Lib.hid rfl
        have hsz1 : w1.heap.size ≤ w3.heap.size := HA3.out.grown.size
        clear g1 hG hA3 hb3 HCB HA hk hlt
        generalize arBody es = L at *
        generalize sumOf L = s at *
        go_wp2_with fail
        (with_reducible refine HSM.out.mono ?_)
        rintro _ w4 ⟨rfl, rfl⟩
        go_wp2_with fail
        go_loopw [4, 6, 7] (fun sv tv kv wr => ∃ k : Nat, kv = .int .i64 (k : Int) ∧ tv = .int .i64 ((s / 256 ^ k : Nat) : Int) ∧ k ≤ 4 ∧ Hid (Adds w1.heap.size w1 (.slice none 0 0) (L ++ le4To s k) wr sv)) (fun _ _ kv _ => 4 - (intOf kv).toNat)
        case atStart => exact ⟨0, rfl, by simp, by omega, Lib.hid (by simpa [le4To] using HA3.out)⟩
        case round =>
          obtain ⟨k, rfl, rfl, hk, HA⟩ := hrel
          have hszr := HA.out.grown.size
          by_cases hlt : k < 4
          · have HT := Lib.hid (le4To_succ (s := s) hlt)
            have hs2 : s / 256 ^ k < 4294967296 := Nat.lt_of_le_of_lt (Nat.div_le_self _ _) hsl
            have HD : Hid (s / 256 ^ (k + 1) = s / 256 ^ k / 256) := Lib.hid (by rw [Nat.pow_succ, Nat.div_div_eq_div_mul])
            generalize s / 256 ^ k = z at *
            have HZ := Lib.hid (show (z : Int) % 256 = ((UInt8.ofNat (z % 256)).toNat : Int) by rw [UInt8.toNat_ofNat']; omega)
            have hown := HA.out.own
            have hll : (L ++ le4To s k).length < 10000000 := by
              have : (le4To s k).length ≤ 4 := by unfold le4To; rw [List.length_take]; exact Nat.le_trans (Nat.min_le_left _ _) hk
              rw [List.length_append]; omega
            go_wp2_with (at_builtin; refine wpList_pushC rfl (.tmp 32) (.tmp 36) rfl (UInt8.ofNat (z % 256)) _ HZ.out rfl hown rfl hll hszr ?_; intro v' w' hA)
            go_roundw
            case rel =>
              refine ⟨k + 1, by go_num, ?_, by omega, Lib.hid ?_⟩
              · rw [HD.out]; go_num
              · rw [HT.out, ← List.append_assoc]
                exact HA.out.trans hA
            case measure => simp [intOf]; omega
          · obtain rfl : k = 4 := by omega
            rw [← HPK.out] at HA
            obtain ⟨A2, c2, rfl⟩ := HA.out.own.isSlice
            have hO := HA.out.own
            have HB5 := Lib.hid (HB12.out.trans ((HA.out.below (ownC_nil _ _) (Nat.le_refl _)).mono HB12.out.size))
            generalize arPack es = M at *
            by_cases hbig : 262144 < M.length
            · have hbi : (262144 : Int) < (M.length : Int) := by omega
              have HE2 : Hid ((if 262144 < M.length then (([], 5) : List UInt8 × Int) else (M, 0)) = ([], 5)) := by show _ = _; rw [if_pos hbig]
              go_wp2_with fail
              go_ret2
              refine ⟨.slice none 0 0, ?_, ?_, HB5.out⟩
              · rw [HE.out, HE2.out]; rfl
              · rw [HE.out, HE2.out]; exact ownC_nil _ _
            · have hbi : ¬ (262144 : Int) < (M.length : Int) := by omega
              have HE2 : Hid ((if 262144 < M.length then (([], 5) : List UInt8 × Int) else (M, 0)) = (M, 0)) := by show _ = _; rw [if_neg hbig]
              go_wp2_with fail
              go_ret2
              refine ⟨.slice A2 M.length c2, ?_, ?_, HB5.out⟩
              · rw [HE.out, HE2.out]; rfl
              · rw [HE.out, HE2.out]
                exact ownsRow_base_a hO HB12.out.size
end Go.Proofs.YtjglmjdfndcmmaaGreat

set_option linter.all false
namespace Go.Proofs.YtjglmjdfndcmmaaGreat
open Go.RowKit
theorem rrBlk_z (B R I len : Nat) (z : Int) (all : List UInt8) (q : Bool) (w : World) (h : RdR B w R all I q) (hB : B ≤ R) (hal : all.length ≤ 1000000) (hlen : len ≤ 100) (hz : z = (len : Int)) :
    Calls Tryz.prog 34 #[.pointer (some ⟨R, 0, none⟩), .int .i64 z] w (RetBR B R len all I q w) := rrBlk_any B R I len z all q w h hB hal hlen hz
def bytesSum (x0 x1 x2 x3 : UInt8) : Int := (x0.toNat : Int) + 256 * (x1.toNat : Int) + 65536 * (x2.toNat : Int) + 16777216 * (x3.toNat : Int)
structure Sums (n : Nat) (a b c d : Int) : Prop where
  a1 : IntKind.i64.wrap ((n : Int) + 1) = (n : Int) + 1
  a2 : IntKind.i64.wrap ((n : Int) + 2) = (n : Int) + 2
  a3 : IntKind.i64.wrap ((n : Int) + 3) = (n : Int) + 3
  c0 : IntKind.i64.wrap a = a
  c1 : IntKind.i64.wrap b = b
  c2 : IntKind.i64.wrap c = c
  c3 : IntKind.i64.wrap d = d
  m1 : IntKind.i64.wrap (256 * b) = 256 * b
  m2 : IntKind.i64.wrap (65536 * c) = 65536 * c
  m3 : IntKind.i64.wrap (16777216 * d) = 16777216 * d
  s1 : IntKind.i64.wrap (a + 256 * b) = a + 256 * b
  s2 : IntKind.i64.wrap (a + 256 * b + 65536 * c) = a + 256 * b + 65536 * c
  s3 : IntKind.i64.wrap (a + 256 * b + 65536 * c + 16777216 * d) = a + 256 * b + 65536 * c + 16777216 * d
theorem sums {n : Nat} (hn : n ≤ 1000000) {a b c d : Int} (ha : 0 ≤ a ∧ a < 256) (hb : 0 ≤ b ∧ b < 256) (hc : 0 ≤ c ∧ c < 256) (hd : 0 ≤ d ∧ d < 256) : Sums n a b c d :=
  ⟨i64wrap (by omega), i64wrap (by omega), i64wrap (by omega), i64wrap (by omega), i64wrap (by omega), i64wrap (by omega), i64wrap (by omega), i64wrap (by omega), i64wrap (by omega), i64wrap (by omega), i64wrap (by omega), i64wrap (by omega), i64wrap (by omega)⟩
set_option maxHeartbeats 4000000 in
set_option maxRecDepth 100000 in
theorem open_refG (u : Value) (l : List UInt8) (w : World) (h : SlC (Lt w.heap.size) w u l) (h4 : 4 ≤ l.length) (hm : l.length ≤ 262144) (heq : SumOk l) :
    Calls Tryz.prog 14 #[u] w (RetOpenG l w) := by
  unfold SumOk at heq
  have HHM := Lib.hid hm
  obtain ⟨A, c, rfl, h1, h2, hs⟩ := h.open_
  obtain ⟨b, o, _, rfl, _, _, _⟩ := SlC.at_ hs (k := 0) (by omega)
  obtain ⟨n, hn⟩ : ∃ n, l.length = n + 4 := ⟨l.length - 4, by omega⟩
  have hn4 : l.length - 4 = n := by omega
  have HBD : Hid (l.take n = l.take (l.length - 4)) := Lib.hid (by rw [hn4])
  have hbl : (l.take n).length = n := by rw [List.length_take]; omega
  rw [hn4] at heq
  rw [hn] at hs h1 hm ⊢
  have hs1 : SlC (Lt w.heap.size) w (.slice (some ⟨b, o, none⟩) n c) (l.take n) := by
    have := Sl.sub hs 0 n c (by omega) (by omega) (by unfold maxLen; exact h2)
    rw [Nat.zero_mul, Nat.add_zero, List.drop_zero] at this
    exact this
  have hb1 := bone w (.cells #[.slice none 0 0] 25)
  have hB1 := Blk.new w 25 #[.slice none 0 0]
  obtain ⟨x0, x1, x2, x3, hd4, k0, k1, k2, k3⟩ := last4 (hs.now hb1) hn
  have hsl := sumOf_lt (l.take n)
  rw [hd4] at heq
  have hsv := (le4_val hsl x0 x1 x2 x3).1 heq
  have HS0 := Lib.hid hs
  have HS1 := Lib.hid hs1
  have hsm := fun q : Nat => sum_ref _ _ _ (hs1.now (below_drewN hb1 q))
  rw [show ((sumOf (l.take n) : Nat) : Int) = (x0.toNat : Int) + 256 * (x1.toNat : Int) + 65536 * (x2.toNat : Int) + 16777216 * (x3.toNat : Int) by rw [hsv]; omega] at hsm
  have hx0 := UInt8.toNat_lt x0
  have hx1 := UInt8.toNat_lt x1
  have hx2 := UInt8.toNat_lt x2
  have hx3 := UInt8.toNat_lt x3
  have hsums := sums (n := n) (a := (x0.toNat : Int)) (b := (x1.toNat : Int)) (c := (x2.toNat : Int)) (d := (x3.toNat : Int)) (by omega) (by omega) (by omega) (by omega) (by omega)
  generalize (x0.toNat : Int) = y0 at *
  generalize (x1.toNat : Int) = y1 at *
  generalize (x2.toNat : Int) = y2 at *
  generalize (x3.toNat : Int) = y3 at *
  have hnn : (0 : Int) ≤ (n : Int) := by omega
  have hn1 : (0 : Int) ≤ (n : Int) + 1 := by omega
  have hn2 : (0 : Int) ≤ (n : Int) + 2 := by omega
  have hn3 : (0 : Int) ≤ (n : Int) + 3 := by omega
  have hl0 : (n : Int) < (n : Int) + 4 := by omega
  have hl1 : (n : Int) + 1 < (n : Int) + 4 := by omega
  have hl2 : (n : Int) + 2 < (n : Int) + 4 := by omega
  have hl3 : (n : Int) + 3 < (n : Int) + 4 := by omega
  have ht1 : ((n : Int) + 1).toNat = n + 1 := by omega
  have ht2 : ((n : Int) + 2).toNat = n + 2 := by omega
  have ht3 : ((n : Int) + 3).toNat = n + 3 := by omega
  have hbi : ¬ (262144 : Int) < (n : Int) + 4 := by omega
  have hnb : (n : Int) ≤ 262140 := by omega
  have hnc : n ≤ c := by omega
  have HLN := Lib.hid hn
  have hHSM : Hid (∀ q : Nat, Calls Tryz.prog 32 #[.slice (some ⟨b, o, none⟩) n c] ((w.alloc (.cells #[.slice none 0 0] 25)).drewN q) fun e w' => e = .returned (.int .i64 (y0 + 256 * y1 + 65536 * y2 + 16777216 * y3)) ∧ ∃ m, w' = ((w.alloc (.cells #[.slice none 0 0] 25)).drewN q).drewN m) := Lib.hid (fun q => (hsm q).mono fun e w' ⟨he, hw⟩ => ⟨he, 0, hw.symm⟩)
  obtain ⟨body, hbody⟩ : ∃ body, l.take n = body := ⟨_, rfl⟩
  rw [hbody] at HBD hbl HS1
  have HBL := Lib.hid hbl
  have HSU := Lib.hid hsums
  clear hm hn hbody hsm hsums
  clear hs hs1 h hn4 h4 heq hd4 hsv hsl hx0 hx1 hx2 hx3
  go_enter Tryz.func14, Tryz.ntmps14
  go_upto_region 6 with fail
  obtain ⟨a1, a2, a3, c0, c1, c2, c3, m1, m2, m3, s1, s2, s3⟩ := HSU.out
  go_quiet ((go_at_call 32; (with_reducible exact Calls.quiet_of (hHSM.out _))))
  clear a1 a2 a3 c0 c1 c2 c3 m1 m2 m3 s1 s2 s3 HSU hn1 hn2 hn3 hl0 hl1 hl2 hl3 ht1 ht2 ht3
  have hb12 := below_drewN hb1 nq
  have hBP := hB1.drewN nq
  obtain ⟨w2, hw2⟩ : ∃ w2, (w.alloc (.cells #[.slice none 0 0] 25)).drewN nq = w2 := ⟨_, rfl⟩
  rw [hw2] at hb12 hBP ⊢
  clear hw2 hHSM hB1 hb1 k0 k1 k2 k3
  have hb3 := bone w2 (.cells #[.slice (some ⟨b, o, none⟩) n c, .int .i64 0, .bool false] 76)
  have hb4 := bbox hb3 (.cells #[.slice none 0 0] 25)
  have hw2s := hBP.lt
  have hrd : RdR w.heap.size (w2.alloc (.cells #[.slice (some ⟨b, o, none⟩) n c, .int .i64 0, .bool false] 76)) w2.heap.size body 0 false := by
    refine ⟨b, o, c, ?_, by omega, h2, Nat.zero_le _, ?_⟩
    · rw [hbl]; exact Blk.new _ _ _
    · rw [hbl]; exact Sl.below HS1.out RByte.kept (hb12.trans (hb3.mono hb12.size)) (Nat.le_refl _)
  have hrd4 : RdR w.heap.size ((w2.alloc (.cells #[.slice (some ⟨b, o, none⟩) n c, .int .i64 0, .bool false] 76)).alloc (.cells #[.slice none 0 0] 25)) w2.heap.size body 0 false := hrd.now hb12.size (bone _ _)
  have hG4 := Blk.new (w2.alloc (.cells #[.slice (some ⟨b, o, none⟩) n c, .int .i64 0, .bool false] 76)) 25 #[.slice none 0 0]
  rw [World.size_alloc] at hG4
  have HN := Lib.hid (rrNum_z w.heap.size w2.heap.size 0 2000 2000 rfl body false _ hrd4 hb12.size)
  have HP4 := Lib.hid (hBP.now hb4)
  have hb14 := hb12.trans (hb4.mono hb12.size)
  clear hrd hrd4
  go_wp2_with fail
  (with_reducible refine HN.out.mono ?_)
  rintro e w6 ⟨N, I1, q1, rfl, hR6, hI1, hGM, hC6⟩
  rw [List.drop_zero] at hGM
  have hN2 := hGM.le' (most := 2000)
  have HPA := Lib.hid (PartsR.start hGM)
  have hG6 := hG4.chg hC6 (fun e => by unfold One at e; omega)
  have hP6 := HP4.out.chg hC6 (fun e => by unfold One at e; omega)
  have hb16 := hb14.trans (hC6.below (by have := hb14.size; omega) (fun i hi e => by unfold One at e; omega))
  obtain ⟨R, hRR⟩ : ∃ R, w2.heap.size = R := ⟨_, rfl⟩
  have hwR : w.heap.size < R := by rw [← hRR]; exact hw2s
  rw [hRR] at hR6 hG6 hw2s ⊢
  have hGl : R + 1 < w6.heap.size := hG6.lt
  have HR6 := Lib.hid hR6
  have HG6 := Lib.hid hG6
  have HP6 := Lib.hid hP6
  have HB6 := Lib.hid hb16
  clear hG4 hC6 hP6 hb16 hG6 hR6 hRR hb14 HP4 HN hb3 hb4 hBP hb12 hGM hw2s
  go_wp2_with fail
  go_loopw [7] (fun iv wr => ∃ (k : Nat) (xs : List Ev) (I' : Nat) (q' : Bool) (ov : Value) (lf : Int), iv = .int .i64 lf ∧ Hid (lf = (N : Int) - 100 * (k : Int)) ∧ 100 * k ≤ N + 100 ∧ Hid (RdR w.heap.size wr R body I' q') ∧ Hid (Blk wr (R + 1) 25 #[ov]) ∧ Hid (OwnG wr w6.heap.size ov xs) ∧ Hid (Chg (Two R (R + 1)) w6 wr) ∧ Hid (PartsR body N k xs (body.drop I') q')) (fun iv _ => (intOf iv).toNat)
  case atStart => exact ⟨0, [], I1, q1, .slice none 0 0, (N : Int), rfl, Lib.hid (by simp), by omega, HR6, HG6, Lib.hid OwnG.nil, Lib.hid Chg.refl, HPA⟩
  case round =>
    obtain ⟨k, xs, I2, q2, ov, lf, rfl, HLF, hk, HR, HG, HO, HC, HA⟩ := hrel
    obtain ⟨wo, rfl⟩ : ∃ wo, wo = wr := ⟨wr, rfl⟩
    obtain ⟨Av, cv, rfl⟩ := OwnG.isSlice HO.out
    obtain ⟨b0, o0, k0, hK, _, _, hIl, _⟩ := HR.out
    obtain ⟨d0, d1, d2⟩ := hK.c3
    clear hK
    go_upto_region 11 with fail
    go_cut [70] from 62 to 80 (fun v W => v = .bool (decide (100 * k < N) && !q2) ∧ W = wo)
    case first =>
      by_cases hlt : 100 * k < N
      · have z1 : (0 : Int) < lf := by have := HLF.out; omega
        have HZ : Hid (decide (100 * k < N) = true) := Lib.hid (by simpa using hlt)
        clear hlt
        go_wp2_with fail
        go_meet
        exact ⟨by rw [HZ.out]; rfl, rfl⟩
      · have z1 : ¬ (0 : Int) < lf := by have := HLF.out; omega
        have HZ : Hid (decide (100 * k < N) = false) := Lib.hid (by simpa using hlt)
        clear hlt
        go_wp2_with fail
        go_meet
        exact ⟨by rw [HZ.out]; rfl, rfl⟩
    case rest =>
      obtain ⟨rfl, rfl⟩ := hcut
      obtain ⟨cnd, hcnd⟩ : ∃ cnd, (decide (100 * k < N) && !q2) = cnd := ⟨_, rfl⟩
      have HCND := Lib.hid hcnd
      rw [hcnd]
      clear hcnd
      cases cnd
      · have HDN : Hid (∀ es, logB es = true → body = arBody es → q2 = false ∧ body.drop I2 = [] ∧ xs = es) := Lib.hid (fun es hv hb => by
          refine HA.out.done ?_ es hv hb
          have h1 := (HA.out.whole es hv hb).1
          have h2 := HCND.out
          rw [h1] at h2
          simp at h2
          exact h2)
        have hP := HP6.out.chg HC.out (by rintro (e | e) <;> omega)
        have HBW := Lib.hid (HB6.out.trans (HC.out.below (by have := HB6.out.size; omega) (fun i hi => by rintro (e | e) <;> omega)))
        clear HCND
        cases q2
        · by_cases hI : I2 = n
          · subst hI
            have HP := Lib.hid hP
            clear hP
            have c1 := HG.out.c1
            have hlog : IsLog (Lt wc.heap.size) wc (.agg #[.slice Av xs.length cv]) xs := ⟨_, rfl, Sl.keep HO.out.sl REv.kept (fun b hb => hb.2) (Same.refl _ _)⟩
            have hpk := packR xs _ wc hlog
            have hpc := packE_cases xs
            obtain ⟨pb, pk, hp⟩ : ∃ pb pk, packE xs = (pb, pk) := ⟨_, _, rfl⟩
            rw [hp] at hpk hpc
            have HPC : Hid ((pk = 0 ∧ logB xs = true ∧ pb = arPack xs) ∨ (pk ≠ 0 ∧ (logB xs = true → 262144 < (arPack xs).length))) := Lib.hid hpc
            have HPK : Hid (Calls Tryz.prog 29 #[.agg #[.slice Av xs.length cv]] wc fun e w' => ∃ v', e = .returned (.tuple #[v', .int .i64 pk]) ∧ OwnC w' wc.heap.size v' pb ∧ Below wc.heap.size wc w') := Lib.hid hpk
            clear hpk hpc hp hlog
            go_wp2_with fail
            (with_reducible refine HPK.out.mono ?_)
            rintro e w8 ⟨v8, rfl, hO8, hb8⟩
            have HB8 := Lib.hid (HBW.out.trans (hb8.mono HBW.out.size))
            have hP8 := HP.out.now hb8
            have r0 := hP8.c1
            have fz := hP8.frozen 0
            have hG8 := (HG.out.now hb8).c1
            by_cases hk0 : pk = 0
            · subst hk0
              have hov : logB xs = true ∧ pb = arPack xs := by
                rcases HPC.out with h | h
                · exact h.2
                · exact absurd rfl h.1
              have HOV := Lib.hid hov
              have HSM := Lib.hid (same_ref v8 _ pb l w8 hO8.slC (Sl.below HS0.out RByte.kept HB8.out HB8.out.size))
              have hO8' := Lib.hid hO8
              have hb8' := Lib.hid hb8
              clear hov hO8 hb8
              go_wp2_with fail
              (with_reducible refine HSM.out.mono ?_)
              rintro e w9 ⟨rfl, q9, rfl⟩
              have hP9 := hP8.drewN q9
              have r9 := hP9.c1
              have f9 := hP9.frozen 0
              by_cases heq2 : pb = l
              · have z6 : decide (pb = l) = true := by simp [heq2]
                have r1 := (hP9.set_ 0 (.slice Av xs.length cv)).c1
                have HF : Hid (RetOpenG l w (.returned (.tuple #[.agg #[.slice Av xs.length cv], .int .i64 0])) ((w8.drewN q9).setCell ⟨w.heap.size, 0, none⟩ (.slice Av xs.length cv))) :=
                  Lib.hid ⟨_, xs, 0, rfl, sl_fin (by omega) HO.out (below_drewN hb8'.out q9), .inl ⟨rfl, HOV.out.1, by rw [← HOV.out.2]; exact heq2, fun es hv he => (HDN.out es hv (HBD.out.trans (arPack_body he))).2.2⟩, (below_drewN HB8.out q9).setCell (p := ⟨w.heap.size, 0, none⟩) (Nat.le_refl _) _⟩
                clear hP9 heq2 hP8
                rw [z6]
                go_wp2_with fail
                refine bodyPost_ret (v := .tuple #[.agg #[.slice Av xs.length cv], .int .i64 0]) (by simp [results, Tryz.results14, go_sem, r1]) rfl ?_
                exact HF.out
              · have z6 : decide (pb = l) = false := by simp [heq2]
                have r1 := (hP9.set_ 0 (.slice none 0 0)).c1
                have HF := Lib.hid (retOpen_no (l := l) (openRes_no HBD.out (fun es hv hb he => by
                  obtain ⟨-, -, h3⟩ := HDN.out es hv hb
                  apply heq2
                  rw [HOV.out.2, h3, he])) (below_drewN HB8.out q9))
                clear hP9 heq2 hP8
                rw [z6]
                go_wp2_with fail
                refine bodyPost_ret (v := .tuple #[.agg #[.slice none 0 0], .int .i64 3]) (by simp [results, Tryz.results14, go_sem, r1]) rfl ?_
                exact HF.out
            · have z4 : (pk == 0) = false := by simp [hk0]
              have z5 : decide (pk = 0) = false := by simp [hk0]
              have r1 := (hP8.set_ 0 (.slice none 0 0)).c1
              have HF := Lib.hid (retOpen_no (l := l) (openRes_no HBD.out (fun es hv hb he => by
                obtain ⟨-, -, h3⟩ := HDN.out es hv hb
                rcases HPC.out with h | h
                · exact hk0 h.1
                · have := h.2 (by rw [h3]; exact hv)
                  rw [h3, he] at this
                  have := HHM.out; omega)) HB8.out)
              clear hP8 hO8 hb8
              go_wp2_with fail
              refine bodyPost_ret (v := .tuple #[.agg #[.slice none 0 0], .int .i64 3]) (by simp [results, Tryz.results14, go_sem, r1]) rfl ?_
              exact HF.out
          · have z1 : ((I2 : Int) != (n : Int)) = true := by simp; omega
            clear d0 hnb hnc hnn hbl
            have r0 := hP.c1
            have fz := hP.frozen 0
            have r1 := (hP.set_ 0 (.slice none 0 0)).c1
            have HF := Lib.hid (retOpen_no (l := l) (openRes_no HBD.out (fun es hv hb => by
              have h2 := (HDN.out es hv hb).2.1
              have h3 := congrArg List.length h2
              rw [List.length_drop, HBL.out] at h3
              simp at h3
              have := HBL.out
              omega)) HBW.out)
            clear hP hI
            go_wp2_with fail
            refine bodyPost_ret (v := .tuple #[.agg #[.slice none 0 0], .int .i64 3]) (by simp [results, Tryz.results14, go_sem, r1]) rfl ?_
            exact HF.out
        · have r0 := hP.c1
          have fz := hP.frozen 0
          have r1 := (hP.set_ 0 (.slice none 0 0)).c1
          have HF := Lib.hid (retOpen_no (l := l) (openRes_no HBD.out (fun es hv hb => by have := (HDN.out es hv hb).1; cases this)) HBW.out)
          clear hP
          go_wp2_with fail
          refine bodyPost_ret (v := .tuple #[.agg #[.slice none 0 0], .int .i64 3]) (by simp [results, Tryz.results14, go_sem, r1]) rfl ?_
          exact HF.out
      · have hlt : 100 * k < N := by have := HCND.out; simp at this; exact this.1
        have hq2 : q2 = false := by have := HCND.out; simp at this; exact this.2
        subst hq2
        have z1 : (0 : Int) < lf := by have := HLF.out; omega
        clear HCND d0 d1 d2
        have hmn : min lf 100 = ((min 100 (N - 100 * k) : Nat) : Int) := by have := HLF.out; omega
        have HBK := Lib.hid (rrBlk_z w.heap.size R I2 (min 100 (N - 100 * k)) _ body false wc.drew (drewR HR.out (by omega)) (by omega) (by rw [HBL.out]; omega) (by omega) hmn)
        have hL := HC.out.size
        have hg1 : Blk wc.drew (R + 1) 25 #[.slice Av xs.length cv] := HG.out
        have g1 := hg1.c1
        clear hmn
        go_upto_region 13 with fail
        go_region_law (first
          | (refine step_appendEvs rfl (.tmp 74) (.tmp 78) rfl _ (base := w6.heap.size) _ rfl hO5 _ rfl hsl5 hol hL5 hE5 ?_; intro v' w' hO7 hC7; obtain ⟨A7, c7, rfl⟩ := OwnG.isSlice hO7; have hG7 := hG5.chg hC7 (by omega); have g7 := hG7.c1; have f7 := hG7.frozen 0)
          | (go_simp; go_at_call 34; (with_reducible refine HBK.out.mono ?_); rintro _ w5 ⟨bv, ys, I3, q3, rfl, hsl5, hR5, hI3, hGB5, hC5⟩; have hG5 := hg1.chg hC5 (fun e => by unfold One at e; omega); have g5 := hG5.c1; have hO5 := OwnG.chg (OwnG.chg HO.out (S := fun _ => False) (Chg.refl.drew) (fun _ _ => id)) hC5 (fun b hb e => by unfold One at e; omega); have hL5 := Nat.le_trans hL hC5.size; have hE5 := own_apart (w5 := w5) (OwnG.chg HO.out (S := fun _ => False) (Chg.refl.drew) (fun _ _ => id)) hL; have hol := HA.out.room hGB5 hk hN2 (by omega)))
        all_goals
          rw [List.length_append] at hO7
          have hfin := rrOpen_fin (B := w.heap.size) (by omega) hGl HC.out hC5 hR5 hC7 hG7 hO7
          have HST := Lib.hid (HA.out.step hlt rfl hGB5)
          have HF := Lib.hid hfin
          clear hfin hR5 hG5 hG7 hC5 hC7 hGB5
          go_wp2_with fail
          have hlw : wrap64 (lf - 100) = lf - 100 := w64 (by have := HLF.out; omega)
          go_roundw
          case rel => exact ⟨k + 1, xs ++ ys, I3, q3, _, _, rfl, Lib.hid (by have := HLF.out; omega), by omega, Lib.hid HF.out.1, Lib.hid HF.out.2.1, Lib.hid HF.out.2.2.1, Lib.hid HF.out.2.2.2, HST⟩
          case measure => simp [intOf]; omega
end Go.Proofs.YtjglmjdfndcmmaaGreat
