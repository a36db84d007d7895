/- Texts of this seat, merged. -/
import Derived.BigQuiet
import Derived.Deep.QuietTactic
import Derived.Deep.CutRange
import Derived.Lib.SlicesCompact
import Derived.WalkKit
import Derived.WalkSpells
import Derived.WalkLawsBesides
import Derived.Lib.Hide
import Derived.Deep.Draws
import Derived.Deep.OwnRows
import Derived.Test.YtjglmjdfndcmmaaProg
import Derived.Outline
import Derived.Deep.Light
import Derived.Shelf.Abstract
import Derived.Laws.IdiomStrings
import Derived.Maps.AppendAt
import Derived.Deep.AppendLies
import Derived.RegionTactic
import Derived.OwnWalk
import Derived.Lib.Strings
import Derived.Test.YtjglmjdfndcmmaaZb01
import Derived.Test.YtjglmjdfndcmmaaZb02
import Derived.Test.YtjglmjdfndcmmaaZb03
import Derived.Test.YtjglmjdfndcmmaaZb04
import Derived.Test.YtjglmjdfndcmmaaZb05
import Derived.Test.YtjglmjdfndcmmaaZb06
import Derived.Test.YtjglmjdfndcmmaaZb07
import Derived.Test.YtjglmjdfndcmmaaZb09
import Derived.Test.YtjglmjdfndcmmaaZb10
import Derived.Test.YtjglmjdfndcmmaaZb11
import Derived.Test.YtjglmjdfndcmmaaZb12
import Derived.Test.YtjglmjdfndcmmaaZb13
import Derived.Test.YtjglmjdfndcmmaaZb14
import Derived.Test.YtjglmjdfndcmmaaZb15
import Derived.Test.YtjglmjdfndcmmaaZb16
import Derived.Test.YtjglmjdfndcmmaaZb17
import Derived.Test.YtjglmjdfndcmmaaZb18
import Derived.Test.YtjglmjdfndcmmaaZb19
import Derived.Test.YtjglmjdfndcmmaaZb20
import Derived.Test.YtjglmjdfndcmmaaZb21
set_option linter.all false
set_option linter.all false
namespace Go.Proofs.Ytjglmjdfndcmmaa
open Go.RowKit
end Go.Proofs.Ytjglmjdfndcmmaa

set_option linter.all false
namespace Go.Proofs.Ytjglmjdfndcmmaa
open Go.RowKit
def RetOpenG (l : List UInt8) (w : World) (e : Ending) (w' : World) : Prop := ∃ (ev : Value) (x : List Ev) (k : Int), e = .returned (.tuple #[.agg #[ev], .int .i64 k]) ∧ SlEv (fun b => w.heap.size ≤ b ∧ b < w'.heap.size) w' ev x ∧ OpenRes l x k ∧ Below w.heap.size w w'
theorem rdBlk_at (B R g N L s len o c : Nat) (ev : Nat → Ev) (l : List UInt8) (q : Bool) (w : World) (h : RdP B w R l q) (hE : EvF w g N ev (Dn L g R)) (hB : B ≤ R) (hBg : B ≤ g) (hgR : g ≠ R) (hL : L ≤ w.heap.size) (hs : s + len ≤ N) (ho : o = s * 6) (hc : len ≤ c)
    (hlen : len ≤ 100) (hz : ∀ j, s ≤ j → j < s + len → (ev j).data = []) : Calls Try.prog 38 #[.pointer (some ⟨R, 0, none⟩), .slice (some ⟨g, o, none⟩) len c] w fun e w' => e = .returned (.tuple #[]) ∧ ∃ ev' l' q', RdP B w' R l' q' ∧ EvF w' g N ev' (Dn w'.heap.size g R) ∧ Chg (Two R g) w w' ∧ GotB s len ev l q ev' l' q' :=
  rdBlk_any B R g N L s len o c ev l q w h hE hB hBg hgR hL hs ho hc hlen hz
theorem openRes_no {l body : List UInt8} (hb : body = l.take (l.length - 4)) (h : ∀ es, logB es = true → body = arBody es → arPack es ≠ l) : OpenRes l [] 3 :=
  .inr ⟨rfl, rfl, fun es hv he => h es hv (by rw [hb]; exact arPack_body he) he⟩
theorem retOpen_no {l : List UInt8} {w W : World} (h : OpenRes l [] 3) (hb : Below w.heap.size w W) : RetOpenG l w (.returned (.tuple #[.agg #[.slice none 0 0], .int .i64 3])) (W.setCell ⟨w.heap.size, 0, none⟩ (.slice none 0 0)) :=
  ⟨.slice none 0 0, [], 3, rfl, Sl.none_, h, hb.setCell (p := ⟨w.heap.size, 0, none⟩) (Nat.le_refl _) _⟩
set_option maxHeartbeats 4000000 in
set_option maxRecDepth 100000 in
theorem open_good (u : Value) (l : List UInt8) (w : World) (h : SlC (Lt w.heap.size) w u l) (h4 : 4 ≤ l.length) (hm : l.length ≤ 262144) (heq : SumOk l) :
    Calls Try.prog 14 #[u] w (RetOpenG l w) := by
  unfold SumOk at heq
  obtain ⟨A, c, rfl, h1, h2, hs⟩ := h.open_
  obtain ⟨b, o, _, rfl, _, _, _⟩ := SlC.at_ hs (k := 0) (by omega)
  obtain ⟨n, hn⟩ : ∃ n, l.length = n + 4 := ⟨l.length - 4, by omega⟩
  have hn4 : l.length - 4 = n := by omega
  have HBD : Hid (l.take n = l.take (l.length - 4)) := Lib.hid (by rw [hn4])
  have hbl : (l.take n).length = n := by rw [List.length_take]; omega
  rw [hn4] at heq
  rw [hn] at hs h1 hm ⊢
  have hs1 : SlC (Lt w.heap.size) w (.slice (some ⟨b, o, none⟩) n c) (l.take n) := by
    have := Sl.sub hs 0 n c (by omega) (by omega) (by unfold maxLen; exact h2)
    rw [Nat.zero_mul, Nat.add_zero, List.drop_zero] at this
    exact this
  have hs2 : SlC (Lt w.heap.size) w (.slice (some ⟨b, o + n, none⟩) 4 (c - n)) (l.drop n) := by
    have := Sl.sub hs n 4 (c - n) (by omega) (by omega) (by unfold maxLen; omega)
    rw [Nat.mul_one, List.take_of_length_le (by rw [List.length_drop]; omega)] at this
    exact this
  have hb1 := bone w (.cells #[.slice none 0 0] 24)
  have hB1 := Blk.new w 24 #[.slice none 0 0]
  have HS0 := Lib.hid hs
  have HS1 := Lib.hid hs1
  have HS2 := Lib.hid (hs2.now hb1)
  have HSM := Lib.hid (sum_any _ _ _ (hs1.now hb1))
  have hsl := sumOf_lt (l.take n)
  generalize sumOf (l.take n) = s at *
  have hnn : (0 : Int) ≤ (n : Int) := by omega
  have hbi : ¬ (262144 : Int) < (n : Int) + 4 := by omega
  have hnb : (n : Int) ≤ 262140 := by omega
  have hnc : n ≤ c := by omega
  have HLN := Lib.hid hn
  obtain ⟨body, hbody⟩ : ∃ body, l.take n = body := ⟨_, rfl⟩
  rw [hbody] at HBD hbl HS1
  have HBL := Lib.hid hbl
  clear hm hn hbody
  clear hs hs1 hs2 h hn4
  go_enter Try.func14, Try.ntmps14
  go_wp2_with fail
  (with_reducible refine HSM.out.mono ?_)
  rintro e w1 ⟨rfl, rfl⟩
  go_wp2_with fail
  have hB2 := Blk.new (w.alloc (.cells #[.slice none 0 0] 24)) 5 #[.int .u8 ((s : Int) % 256), .int .u8 ((s : Int) / 256 % 256), .int .u8 ((s : Int) / 65536 % 256), .int .u8 ((s : Int) / 16777216)]
  have hb2 := bone (w.alloc (.cells #[.slice none 0 0] 24)) (.cells #[.int .u8 ((s : Int) % 256), .int .u8 ((s : Int) / 256 % 256), .int .u8 ((s : Int) / 65536 % 256), .int .u8 ((s : Int) / 16777216)] 5)
  have hsl2 := le4_sl hsl hB2
  simp only [World.size_alloc] at hsl2
  have hE := equal_any _ _ _ _ _ (HS2.out.now hb2) hsl2
  rw [decide_eq_true heq] at hE
  have HE := Lib.hid hE
  have hBP := hB1.now hb2
  have hb12 := hb1.trans (hb2.mono hb1.size)
  clear hE hsl2 hB2 heq
  (with_reducible refine HE.out.mono ?_)
  rintro e w3 ⟨rfl, rfl⟩
  obtain ⟨w2, hw2⟩ : ∃ w2, (w.alloc (.cells #[.slice none 0 0] 24)).alloc (.cells #[.int .u8 ((s : Int) % 256), .int .u8 ((s : Int) / 256 % 256), .int .u8 ((s : Int) / 65536 % 256), .int .u8 ((s : Int) / 16777216)] 5) = w2 := ⟨_, rfl⟩
  rw [hw2] at hb12 hBP ⊢
  clear hw2 HE hb2 hB1 hb1 HSM HS2
  have hb3 := bone w2 (.cells #[.slice (some ⟨b, o, none⟩) n c, .bool false] 75)
  have hw2s := hBP.lt
  have hrd : RdP w.heap.size (w2.alloc (.cells #[.slice (some ⟨b, o, none⟩) n c, .bool false] 75)) w2.heap.size body false := by
    refine ⟨b, o, c, ?_, by omega, h2, ?_⟩
    · rw [hbl]; exact Blk.new _ _ _
    · rw [hbl]; exact Sl.below HS1.out RByte.kept (hb12.trans (hb3.mono hb12.size)) (Nat.le_refl _)
  have HN := Lib.hid (rdNum_z w.heap.size w2.heap.size 2000 2000 rfl body false _ hrd hb12.size (by omega))
  clear hrd
  go_wp2_with fail
  (with_reducible refine HN.out.mono ?_)
  rintro e w4 ⟨N, l1, q1, rfl, hR4, hG4, hC4⟩
  have hN2 := hG4.le
  obtain ⟨cs, hmk, hcs, hce⟩ := make_evs N hN2
  have hmk4 := hmk w4
  have hC24 : Chg (One w2.heap.size) w2 w4 := (Chg.of_below hb3).trans hC4
  have hs24 : w2.heap.size < w4.heap.size := hR4.lt
  have hb5 := bone w4 (.cells cs 57)
  have hb46 := bbox hb5 (.cells #[.slice (some ⟨w4.heap.size, 0, none⟩) N N] 24)
  have hL6 := Blk.new (w4.alloc (.cells cs 57)) 24 #[.slice (some ⟨w4.heap.size, 0, none⟩) N N]
  rw [World.size_alloc] at hL6
  have hR6 := hR4.now hb12.size hb46
  have hE6 : EvF ((w4.alloc (.cells cs 57)).alloc (.cells #[.slice (some ⟨w4.heap.size, 0, none⟩) N N] 24)) w4.heap.size N (fun _ => zeroEv) (Dn w4.heap.size w4.heap.size w2.heap.size) :=
    (EvF.made hcs hce).chg (S := fun _ => False) (Chg.of_below (bone _ _)) id (fun b hb => ⟨Nat.lt_of_lt_of_le hb.1 (by simp), id⟩) (fun _ => id)
  have hBP6 := (hBP.chg hC24 (fun e => by unfold One at e; omega)).now hb46
  have hC26 : Chg (One w2.heap.size) w2 _ := hC24.trans (Chg.of_below hb46)
  have HPA := Lib.hid (PartsAt.start hG4)
  have hs46 := hb46.size
  go_wp2_with fail
  obtain ⟨w6, hw6⟩ : ∃ w6, (w4.alloc (.cells cs 57)).alloc (.cells #[.slice (some ⟨w4.heap.size, 0, none⟩) N N] 24) = w6 := ⟨_, rfl⟩
  rw [hw6] at hL6 hR6 hE6 hBP6 hC26 hs46 ⊢
  obtain ⟨R, hRR⟩ : ∃ R, w2.heap.size = R := ⟨_, rfl⟩
  obtain ⟨G, hGG⟩ : ∃ G, w4.heap.size = G := ⟨_, rfl⟩
  have hwR : w.heap.size < R := by rw [← hRR]; exact hw2s
  have hRG : R < G := by rw [← hRR, ← hGG]; exact hs24
  have hb26 : Below w.heap.size w w6 := hb12.trans (hC26.below (by omega) (fun i hi e => by unfold One at e; omega))
  rw [hRR] at hR6 hE6 hC26 ⊢
  rw [hGG] at hL6 hE6 hs46 ⊢
  have hG6 : G + 1 < w6.heap.size := hL6.lt
  have HL6 := Lib.hid hL6
  have HR6 := Lib.hid hR6
  have HE6 : Hid (EvF w6 G N (fun _ => zeroEv) (Dn w6.heap.size G R)) := Lib.hid (hE6.chg (S := fun _ => False) Chg.refl id (fun b hb => ⟨Nat.lt_of_lt_of_le hb.1 (by omega), id⟩) (fun b hb => ⟨Nat.lt_of_lt_of_le hb.1 (by omega), hb.2⟩))
  have HBP6 := Lib.hid hBP6
  have HB26 := Lib.hid hb26
  clear hw6 hmk hmk4 hb5 hb46 hC24 hR4 hG4 hC4 hBP hL6 hR6 hE6 hBP6 hC26 HN hRR hGG hs24 hw2s hb26 hcs hce hb3 hb12
  go_loopw [8] (fun iv wr => ∃ (i k : Nat) (ev' : Nat → Ev) (l' : List UInt8) (q' : Bool), iv = .int .i64 (i : Int) ∧ Hid (i = 100 * k) ∧ i ≤ N + 100 ∧ Hid (RdP w.heap.size wr R l' q') ∧ Hid (EvF wr G N ev' (Dn wr.heap.size G R)) ∧ Hid (Chg (Two R G) w6 wr) ∧ Hid (PartsAt body N k ev' l' q')) (fun iv _ => N + 200 - (intOf iv).toNat)
  case atStart => exact ⟨0, 0, _, l1, q1, rfl, Lib.hid rfl, Nat.zero_le _, HR6, HE6, Lib.hid Chg.refl, HPA⟩
  case round =>
    obtain ⟨i, k, ev1, l2, q2, rfl, HIK, hi, HR, HE, HC, HA⟩ := hrel
    obtain ⟨wo, rfl⟩ : ∃ wo, wo = wr := ⟨wr, rfl⟩
    have hLo := HL6.out.chg HC.out (by rintro (e | e) <;> omega)
    have hl0 := hLo.c1
    obtain ⟨b0, o0, k0, hK, _, _, _⟩ := HR.out
    obtain ⟨d0, d1⟩ := hK.c2
    clear hK
    have HLo := Lib.hid hLo
    clear hLo
    by_cases hlt : i < N
    · cases q2
      · have m1 : (i : Int) ≤ min ((i : Int) + 100) (N : Int) := by omega
        have m2 : min ((i : Int) + 100) (N : Int) ≤ (N : Int) := by omega
        have m3 : (0 : Int) ≤ min ((i : Int) + 100) (N : Int) := by omega
        have m4 : (i : Int) < (N : Int) := by omega
        have hme : (min ((i : Int) + 100) (N : Int)).toNat - i = min 100 (N - i) := by omega
        have HBK := Lib.hid (rdBlk_at w.heap.size R G N wo.heap.size i (min 100 (N - i)) (i * 6) (N - i) ev1 l2 false wo HR.out HE.out (by omega) (by omega) (by omega) (Nat.le_refl _) (by omega) rfl (by omega) (by omega) (fun j h1 _ => by rw [HA.out.zero j (by have := HIK.out; omega)]; rfl))
        go_wp2_with fail
        (with_reducible refine HBK.out.mono ?_)
        rintro e w5 ⟨rfl, ev2, l3, q3, hR5, hE5, hC5, hG5⟩
        have HST : Hid (PartsAt body N (k + 1) ev2 l3 q3) := Lib.hid (by
          rw [HIK.out] at hG5
          exact HA.out.step (by have := HIK.out; omega) rfl hG5)
        have HF := Lib.hid (And.intro hR5 (And.intro hE5 (HC.out.trans hC5)))
        clear hR5 hE5 hC5 hG5 hme
        go_wp2_with fail
        go_roundw
        case rel => exact ⟨i + 100, k + 1, ev2, l3, q3, by go_num, Lib.hid (by have := HIK.out; omega), by omega, Lib.hid HF.out.1, Lib.hid HF.out.2.1, Lib.hid HF.out.2.2, HST⟩
        case measure => simp [intOf]; omega
      · have hP := HBP6.out.chg HC.out (by rintro (e | e) <;> omega)
        have r0 := hP.c1
        have fz := hP.frozen 0
        have r1 := (hP.set_ 0 (.slice none 0 0)).c1
        have HF := Lib.hid (retOpen_no (l := l) (openRes_no HBD.out (fun es hv hb => by have := (HA.out.whole es hv hb).1; cases this)) (HB26.out.trans (HC.out.below (by have := HB26.out.size; omega) (fun i hi => by rintro (e | e) <;> omega))))
        clear hP
        go_wp2_with fail
        refine bodyPost_ret (v := .tuple #[.agg #[.slice none 0 0], .int .i64 3]) (by simp [results, Try.results14, go_sem, r1]) rfl ?_
        exact HF.out
    · have hge : N ≤ i := by omega
      have z0 : ¬ (i : Int) < (N : Int) := by omega
      cases q2
      · have hsG : G < wo.heap.size := HE.out.lt
        have hsl := HE.out.sl (c := N) (D' := fun b => w.heap.size < b ∧ b < wo.heap.size) (Nat.le_refl _) (by omega) ⟨by omega, hsG⟩ (fun b hb => ⟨Nat.lt_trans hwR hb.2.2, hb.1⟩)
        have hdone := HA.out.done (by have := HIK.out; omega)
        have HBW := Lib.hid (HB26.out.trans (HC.out.below (by have := HB26.out.size; omega) (fun i hi => by rintro (e | e) <;> omega)))
        have HDN := Lib.hid hdone
        have hP := HBP6.out.chg HC.out (by rintro (e | e) <;> omega)
        obtain ⟨x, hx⟩ : ∃ x, (List.range N).map ev1 = x := ⟨_, rfl⟩
        rw [hx] at hsl HDN
        have hlog : IsLog (Lt wo.heap.size) wo (.agg #[.slice (some ⟨G, 0, none⟩) N N]) x := ⟨_, rfl, Sl.keep hsl REv.kept (fun b hb => hb.2) (Same.refl _ _)⟩
        have HSL := Lib.hid hsl
        have HLG := Lib.hid hlog
        have hlv := logValid_any x _ wo hlog
        have HP := Lib.hid hP
        clear hx hdone hsl hlog hP
        cases hv : logB x
        · rw [hv] at hlv
          have HLV := Lib.hid hlv
          have HNO := Lib.hid (openRes_no (l := l) HBD.out (fun es hv' hb he => by
            have := (HDN.out es hv' hb).2
            rw [this, hv'] at hv
            cases hv))
          clear hlv hv
          go_wp2_with fail
          (with_reducible refine HLV.out.mono ?_)
          rintro e w7 ⟨rfl, hb7⟩
          have hP7 := HP.out.now hb7
          have r0 := hP7.c1
          have fz := hP7.frozen 0
          have r1 := (hP7.set_ 0 (.slice none 0 0)).c1
          have HF := Lib.hid (retOpen_no HNO.out (HBW.out.trans (hb7.mono HBW.out.size)))
          clear hP7 hb7
          go_wp2_with fail
          refine bodyPost_ret (v := .tuple #[.agg #[.slice none 0 0], .int .i64 3]) (by simp [results, Try.results14, go_sem, r1]) rfl ?_
          exact HF.out
        · rw [hv] at hlv
          have HLV := Lib.hid hlv
          have HV := Lib.hid hv
          clear hlv hv
          go_wp2_with fail
          (with_reducible refine HLV.out.mono ?_)
          rintro e w7 ⟨rfl, hb7⟩
          have hc7 := (HLo.out.now hb7).c1
          have HPK := Lib.hid (pack_any x _ w7 (HLG.out.now hb7) HV.out)
          have HB7 := Lib.hid hb7
          clear hb7
          go_wp2_with fail
          (with_reducible refine HPK.out.mono ?_)
          rintro e w8 ⟨v8, rfl, hO8, hb8⟩
          have HB8S := hb8.size
          have HB8 := Lib.hid hb8
          have hb08 := (HBW.out.trans (HB7.out.mono HBW.out.size))
          have hb08 := hb08.trans (hb8.mono hb08.size)
          have hE := equal_any _ _ _ _ w8 hO8.slC (Sl.below HS0.out RByte.kept hb08 (Nat.le_refl _))
          have hL8 := (HLo.out.now HB7.out).now hb8
          have hc8 := hL8.c1
          have hP8 := (HP.out.now HB7.out).now hb8
          have r0 := hP8.c1
          have fz := hP8.frozen 0
          have HSL8 := Lib.hid ((HLG.out.now HB7.out).now hb8)
          have HB08 := Lib.hid hb08
          by_cases heq2 : arPack x = l
          · rw [decide_eq_true heq2] at hE
            have HE2 := Lib.hid hE
            have HEQ := Lib.hid heq2
            have r1 := (hP8.set_ 0 (.slice (some ⟨G, 0, none⟩) N N)).c1
            have hfin : RetOpenG l w (.returned (.tuple #[.agg #[.slice (some ⟨G, 0, none⟩) N N], .int .i64 0])) (w8.setCell ⟨w.heap.size, 0, none⟩ (.slice (some ⟨G, 0, none⟩) N N)) := by
              refine ⟨_, x, 0, rfl, ?_, .inl ⟨rfl, HV.out, HEQ.out, fun es hv he => (HDN.out es hv (HBD.out.trans (arPack_body he))).2⟩, HB08.out.setCell (p := ⟨w.heap.size, 0, none⟩) (Nat.le_refl _) _⟩
              exact Sl.keep HSL.out REv.kept (fun b hb => ⟨Nat.le_of_lt hb.1, by show b < (w8.setCell _ _).heap.size; rw [World.size_setCell]; exact Nat.lt_of_lt_of_le hb.2 (Nat.le_trans HB7.out.size HB8S)⟩) (fun b hb => (Below.heap_setCell w8 _ _ b (Nat.ne_of_gt hb.1)).trans ((HB8.out.block b (Nat.lt_of_lt_of_le hb.2 HB7.out.size)).trans (HB7.out.block b hb.2)))
            have HF := Lib.hid hfin
            clear hE heq2 hO8 hb8 hb08 hL8 hP8 hfin
            go_wp2_with fail
            (with_reducible refine HE2.out.mono ?_)
            rintro e w9 ⟨rfl, rfl⟩
            go_wp2_with fail
            refine bodyPost_ret (v := .tuple #[.agg #[.slice (some ⟨G, 0, none⟩) N N], .int .i64 0]) (by simp [results, Try.results14, go_sem, r1]) rfl ?_
            exact HF.out
          · rw [decide_eq_false heq2] at hE
            have HE2 := Lib.hid hE
            have HF := Lib.hid (retOpen_no (l := l) (openRes_no HBD.out (fun es hv' hb he => by
              have := (HDN.out es hv' hb).2
              rw [this] at heq2
              exact heq2 he)) hb08)
            have r1 := (hP8.set_ 0 (.slice none 0 0)).c1
            clear hE heq2 hO8 hb8 hb08 hL8 hP8
            go_wp2_with fail
            (with_reducible refine HE2.out.mono ?_)
            rintro e w9 ⟨rfl, rfl⟩
            go_wp2_with fail
            refine bodyPost_ret (v := .tuple #[.agg #[.slice none 0 0], .int .i64 3]) (by simp [results, Try.results14, go_sem, r1]) rfl ?_
            exact HF.out
      · have hP := HBP6.out.chg HC.out (by rintro (e | e) <;> omega)
        have r0 := hP.c1
        have fz := hP.frozen 0
        have r1 := (hP.set_ 0 (.slice none 0 0)).c1
        have HF := Lib.hid (retOpen_no (l := l) (openRes_no HBD.out (fun es hv hb => by have := (HA.out.whole es hv hb).1; cases this)) (HB26.out.trans (HC.out.below (by have := HB26.out.size; omega) (fun i hi => by rintro (e | e) <;> omega))))
        clear hP
        go_wp2_with fail
        refine bodyPost_ret (v := .tuple #[.agg #[.slice none 0 0], .int .i64 3]) (by simp [results, Try.results14, go_sem, r1]) rfl ?_
        exact HF.out
end Go.Proofs.Ytjglmjdfndcmmaa

set_option linter.all false
namespace Go.Proofs.Ytjglmjdfndcmmaa
open Go.RowKit
theorem part_sl' {D : Nat → Prop} {w : World} {b o n c : Nat} {es : List Ev} (h : SlEv D w (.slice (some ⟨b, o, none⟩) n c) es) {x : Nat} (hx : x < nParts es) (hn : n = es.length) (c' : Nat) (h1 : min 100 (n - 100 * x) ≤ c') (h2 : c' ≤ maxLen) :
    SlEv D w (.slice (some ⟨b, o + 100 * x * 6, none⟩) (min 100 (n - 100 * x)) c') (part es x) := by
  unfold nParts at hx
  subst hn
  have h2 := Sl.sub h (100 * x) (min 100 (es.length - 100 * x)) c' (by omega) h1 h2
  have h3 : (es.drop (100 * x)).take (min 100 (es.length - 100 * x)) = part es x := by
    unfold part
    rw [← List.length_drop, ← List.take_eq_take_min]
  rw [h3] at h2
  exact h2
def le4To (s k : Nat) : List UInt8 := (le4 s).take k
end Go.Proofs.Ytjglmjdfndcmmaa
