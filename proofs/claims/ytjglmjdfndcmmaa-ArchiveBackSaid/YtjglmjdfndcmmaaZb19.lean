/- Texts of this seat, merged. -/
import Derived.Deep.CutRange
import Derived.Deep.CutBlock
import Derived.Test.YtjglmjdfndcmmaaZb01
import Derived.Test.YtjglmjdfndcmmaaZb02
import Derived.Test.YtjglmjdfndcmmaaZb03
import Derived.Test.YtjglmjdfndcmmaaZb09
import Derived.Test.YtjglmjdfndcmmaaZb10
import Derived.Test.YtjglmjdfndcmmaaZb11
import Derived.Test.YtjglmjdfndcmmaaZb14
import Derived.Test.YtjglmjdfndcmmaaZb15
import Derived.Test.YtjglmjdfndcmmaaZb18
set_option linter.all false
set_option linter.all false
namespace Go.Proofs.Ytjglmjdfndcmmaa
open Go.RowKit
structure PremR (bad : Nat → Bool) (most len : Nat) (l : List UInt8) (q : Bool) (vals : List Nat) (t : List UInt8) : Prop where
  q : q = false
  len : vals.length = len
  ok : ∀ x ∈ vals, x ≤ most ∧ bad x = false
  code : l = arRuns vals ++ t
structure DoneR (set : Ev → Nat → Ev) (s : Nat) (ev : Nat → Ev) (vals : List Nat) (i : Nat) (ev' : Nat → Ev) : Prop where
  past : ∀ m x, m < i → vals[m]? = some x → ev' (s + m) = set (ev (s + m)) x
  next : ∀ m, i ≤ m → ev' (s + m) = ev (s + m)
structure InvR (set : Ev → Nat → Ev) (bad : Nat → Bool) (most s len : Nat) (ev : Nat → Ev) (l : List UInt8) (q : Bool) (i : Nat) (ev' : Nat → Ev) (l' : List UInt8) (q' : Bool) : Prop where
  up : q' = false → q = false
  data : ∀ j, (ev' j).data = (ev j).data
  out : ∀ j, j < s ∨ s + len ≤ j → ev' j = ev j
  whole : ∀ vals t, PremR bad most len l q vals t → q' = false ∧ l' = arRuns (vals.drop i) ++ t ∧ DoneR set s ev vals i ev'
structure InvJ (set : Ev → Nat → Ev) (bad : Nat → Bool) (most s len : Nat) (ev : Nat → Ev) (l : List UInt8) (q : Bool) (i kk : Nat) (q3 : Bool) (n : Nat) (l2 : List UInt8) (i' k' : Nat) (ev' : Nat → Ev) (q' : Bool) : Prop where
  up : q' = false → q = false
  data : ∀ j, (ev' j).data = (ev j).data
  out : ∀ j, j < s ∨ s + len ≤ j → ev' j = ev j
  same : i' = i → k' = kk ∧ q' = q3
  whole : ∀ vals t, PremR bad most len l q vals t → q' = false ∧ l2 = arRuns (vals.drop (i' + k')) ++ t ∧ DoneR set s ev vals i' ev' ∧ ∀ m, i' ≤ m → m < i' + k' → vals[m]? = some n
section
variable {set : Ev → Nat → Ev} {bad : Nat → Bool} {most s len : Nat} {ev : Nat → Ev} {l : List UInt8} {q : Bool}
theorem InvR.start : InvR set bad most s len ev l q 0 ev l q :=
  ⟨id, fun _ => rfl, fun _ _ => rfl, fun vals t h => ⟨h.q, h.code, ⟨fun m x hm => absurd hm (by omega), fun _ _ => rfl⟩⟩⟩
theorem InvR.read {i : Nat} {ev' : Nat → Ev} {l' l1 l2 : List UInt8} {q1 q2 q3 : Bool} {n kk : Nat} (h : InvR set bad most s len ev l q i ev' l' false) (hi : i < len) (hm : most < 9223372036854775808) (hl : len < 9223372036854775808) (h1 : GotN most l' false n l1 q1) (h2 : GotN (len - i) l1 q1 kk l2 q2)
    (h3 : (kk = 0 → q3 = true) ∧ (kk ≠ 0 → q3 = q2)) : InvJ set bad most s len ev l q i kk q3 n l2 i kk ev' q3 := by
  refine ⟨fun _ => h.up rfl, h.data, h.out, fun _ => ⟨rfl, rfl⟩, fun vals t hp => ?_⟩
  obtain ⟨-, e2, e3⟩ := h.whole vals t hp
  obtain ⟨x, K, hK, hiK, hx, hr⟩ := runs_split (vals := vals) (i := i) (by rw [hp.len]; exact hi)
  rw [hr] at e2
  have hxm := (hp.ok x (List.mem_of_getElem? (hx i (Nat.le_refl _) (by omega)))).1
  obtain ⟨rfl, e4, e5⟩ := h1.whole x (arNum K ++ arRuns (vals.drop (i + K)) ++ t) rfl (by rw [e2, List.append_assoc]) hxm (by omega)
  have := hp.len
  obtain ⟨rfl, e6, e7⟩ := h2.whole K (arRuns (vals.drop (i + K)) ++ t) e5 (by rw [e4, List.append_assoc]) (by omega) (by omega)
  exact ⟨by rw [h3.2 (by omega)]; exact e7, e6, e3, hx⟩
theorem InvJ.step {i kk n i' k' : Nat} {q3 : Bool} {l2 : List UInt8} {ev' : Nat → Ev} (h : InvJ set bad most s len ev l q i kk q3 n l2 i' (k' + 1) ev' false) (hii : i ≤ i') (hik : i' + (k' + 1) ≤ len) (hsd : ∀ e n, (set e n).data = e.data) : InvJ set bad most s len ev l q i kk q3 n l2 (i' + 1) k' (upd ev' (s + i') (set (ev' (s + i')) n)) (false || bad n) := by
  refine ⟨fun _ => h.up rfl, fun j => ?_, fun j hj => ?_, fun e => absurd e (by omega), fun vals t hp => ?_⟩
  · by_cases e : j = s + i'
    · subst e; rw [upd_same, hsd]; exact h.data _
    · rw [upd_ne e]; exact h.data j
  · rw [upd_ne (by omega)]; exact h.out j hj
  · obtain ⟨-, e2, e3, e4⟩ := h.whole vals t hp
    have e5 := e4 i' (Nat.le_refl _) (by omega)
    refine ⟨by rw [(hp.ok n (List.mem_of_getElem? e5)).2]; rfl, by rw [e2, show i' + (k' + 1) = i' + 1 + k' by omega], ⟨fun m x hm hx => ?_, fun m hm => ?_⟩, fun m h1 h2 => e4 m (by omega) (by omega)⟩
    · by_cases hmi : m = i'
      · subst hmi
        rw [e5] at hx
        injection hx with hx
        subst hx
        rw [upd_same, e3.next m (Nat.le_refl _)]
      · rw [upd_ne (by omega)]
        exact e3.past m x (by omega) hx
    · rw [upd_ne (by omega)]
      exact e3.next m (by omega)
theorem InvJ.done {i kk n i' k' : Nat} {q3 q' : Bool} {l2 : List UInt8} {ev' : Nat → Ev} (h : InvJ set bad most s len ev l q i kk q3 n l2 i' k' ev' q') (hk : k' = 0 ∨ q' = true) : InvR set bad most s len ev l q i' ev' l2 q' := by
  refine ⟨h.up, h.data, h.out, fun vals t hp => ?_⟩
  obtain ⟨e1, e2, e3, -⟩ := h.whole vals t hp
  rcases hk with rfl | hk
  · exact ⟨e1, e2, e3⟩
  · rw [hk] at e1; cases e1
end
noncomputable def badM (R : Nat) (w : World) : Nat := open Classical in if w.cell? ⟨R, 1, none⟩ = some (.bool true) then 0 else 1
theorem RdP.badM {B R : Nat} {w : World} {l : List UInt8} {q : Bool} (h : RdP B w R l q) : badM R w = if q then 0 else 1 := by
  obtain ⟨b, o, c, h, _⟩ := h
  unfold Go.Proofs.Ytjglmjdfndcmmaa.badM
  rw [h.c2.2]
  cases q <;> simp
structure GotR (set : Ev → Nat → Ev) (bad : Nat → Bool) (most s len : Nat) (ev : Nat → Ev) (l : List UInt8) (q : Bool) (ev' : Nat → Ev) (l' : List UInt8) (q' : Bool) : Prop where
  up : q' = false → q = false
  data : ∀ j, (ev' j).data = (ev j).data
  out : ∀ j, j < s ∨ s + len ≤ j → ev' j = ev j
  whole : ∀ vals t, PremR bad most len l q vals t → q' = false ∧ l' = t ∧ ∀ m x, vals[m]? = some x → ev' (s + m) = set (ev (s + m)) x
theorem InvR.got {set : Ev → Nat → Ev} {bad : Nat → Bool} {most s len i : Nat} {ev ev' : Nat → Ev} {l l' : List UInt8} {q q' : Bool} (h : InvR set bad most s len ev l q i ev' l' q') (hi : i = len ∨ q' = true) : GotR set bad most s len ev l q ev' l' q' := by
  refine ⟨h.up, h.data, h.out, fun vals t hp => ?_⟩
  obtain ⟨e1, e2, e3⟩ := h.whole vals t hp
  rcases hi with rfl | hi
  · refine ⟨e1, ?_, fun m x hm => e3.past m x (by have := (List.getElem?_eq_some_iff.1 hm).1; rw [hp.len] at this; exact this) hm⟩
    rw [e2, List.drop_eq_nil_of_le (by rw [hp.len]; exact Nat.le_refl _), arRuns_nil, List.nil_append]
  · rw [hi] at e1; cases e1
-- WALK
set_option maxHeartbeats 4000000 in
set_option maxRecDepth 100000 in
theorem rdRuns_any (k : FuncId) (caps : Array Value) (set : Ev → Nat → Ev) (bad : Nat → Bool) (I : World → Prop) (B R g N L s len o c most : Nat) (z : Int) (ev : Nat → Ev) (l : List UInt8) (q : Bool) (w : World) (hT : Puts k caps R g set bad I) (h : RdP B w R l q) (hE : EvF w g N ev (Dn L g R)) (hI : I w)
    (hB : B ≤ R) (hBg : B ≤ g) (hgR : g ≠ R) (hL : L ≤ w.heap.size) (hs : s + len ≤ N) (ho : o = s * 6) (hc : len ≤ c) (hlen : len < 1000000) (hz : z = (most : Int)) (hm : most < 1000000) (hsd : ∀ e n, (set e n).data = e.data) :
    Calls Try.prog 64 #[.pointer (some ⟨R, 0, none⟩), .slice (some ⟨g, o, none⟩) len c, .int .i64 z, .func (.func k) #[] caps] w fun e w' => e = .returned (.tuple #[]) ∧ ∃ ev' l' q', RdP B w' R l' q' ∧ EvF w' g N ev' (Dn L g R) ∧ Chg (Two R g) w w' ∧ I w' ∧ GotR set bad most s len ev l q ev' l' q' := by
  have HT := Lib.hid hT
  have HR0 := Lib.hid h
  have HE0 := Lib.hid hE
  have HI0 := Lib.hid hI
  have HO := Lib.hid ho
  have HZ := Lib.hid hz
  have HSN := Lib.hid hs
  have HLS := Lib.hid hL
  have HGR := Lib.hid hgR
  have HSD := Lib.hid hsd
  clear hsd
  have eg := HT.out.enter
  clear hT h hE hI ho hz hs hL hgR
  go_enter Try.func64, Try.ntmps64
  go_wp2_with fail
  go_loopw [8] (fun iv wr => ∃ (i : Nat) (ev' : Nat → Ev) (l' : List UInt8) (q' : Bool), iv = .int .i64 (i : Int) ∧ i ≤ len ∧ Hid (RdP B wr R l' q') ∧ Hid (EvF wr g N ev' (Dn L g R)) ∧ Hid (Chg (Two R g) w wr) ∧ Hid (I wr) ∧ Hid (InvR set bad most s len ev l q i ev' l' q')) (fun iv wr => (len - (intOf iv).toNat) * 2 + badM R wr)
  case atStart => exact ⟨0, ev, l, q, rfl, Nat.zero_le _, HR0, HE0, Lib.hid Chg.refl, HI0, Lib.hid InvR.start⟩
  case round =>
    obtain ⟨i, ev1, l1, q1, rfl, hi, HR, HE, HC, HI, HV⟩ := hrel
    obtain ⟨wo, rfl⟩ : ∃ wo, wo = wr := ⟨wr, rfl⟩
    obtain ⟨b0, o0, k0, hK, _, _, _⟩ := HR.out
    obtain ⟨d0, d1⟩ := hK.c2
    clear hK
    by_cases hlt : i < len
    · cases q1
      · have HN1 := Lib.hid (rdNum_z B R most z HZ.out l1 false wo HR.out hB (by omega))
        go_wp2_with fail
        (with_reducible refine HN1.out.mono ?_)
        rintro _ w1 ⟨n, l2, q2, rfl, hR1, hG1, hC1⟩
        have HN2 := Lib.hid (rdNum_z B R (len - i) ((len : Int) - (i : Int)) (by omega) l2 q2 w1 hR1 hB (by omega))
        have HG1 := Lib.hid hG1
        have HC1 := Lib.hid hC1
        clear hR1 hG1 hC1
        go_wp2_with fail
        (with_reducible refine HN2.out.mono ?_)
        rintro _ w2 ⟨kk, l3, q3, rfl, hR2, hG2, hC2⟩
        have HC12 := Lib.hid ((HC1.out.trans hC2).two (g := g))
        have HE2 := Lib.hid (HE.out.chg (HC1.out.trans hC2) (fun e => HGR.out e) (fun b hb => ⟨Nat.lt_of_lt_of_le hb.1 (Nat.le_trans HLS.out HC.out.size), Dn.ner hb⟩) (fun _ => id))
        have HI2 := Lib.hid (HT.out.keep _ _ HC12.out HI.out)
        have hkk := hG2.le
        have hnm := HG1.out.le
        have HG2 := Lib.hid hG2
        have HR2 := Lib.hid hR2
        obtain ⟨b2, o2, k2, hK, _, _, _⟩ := hR2
        obtain ⟨e0, e1⟩ := hK.c2
        have fz := hK.frozen 1
        clear hG2 hC2 hK HN1 HN2
        go_upto_if 32 with fail
        go_cut [] from 11 to 54 (fun W => ∃ q4, RdP B W R l3 q4 ∧ ((kk = 0 → q4 = true) ∧ (kk ≠ 0 → q4 = q3)) ∧ Chg (One R) w2 W)
        case first =>
          by_cases hk0 : kk = 0
          · have z1 : ((kk : Int) == 0) = true := by simp [hk0]
            have z2 : (kk == 0) = true := by simp [hk0]
            have z3 : decide (kk = 0) = true := by simp [hk0]
            have HK0 := Lib.hid hk0
            clear hk0
            go_wp2_with fail
            go_meet
            exact ⟨true, HR2.out.bad hB, ⟨fun _ => rfl, fun h => absurd HK0.out h⟩, Chg.refl.set (p := ⟨R, 1, none⟩) (.inr (show One R R from rfl)) _⟩
          · have z1 : ((kk : Int) == 0) = false := by simp; omega
            have z2 : (kk == 0) = false := by simp [hk0]
            have z3 : decide (kk = 0) = false := by simp [hk0]
            have HK0 := Lib.hid hk0
            clear hk0
            go_wp2_with fail
            go_meet
            exact ⟨q3, HR2.out, ⟨fun h => absurd h HK0.out, fun _ => rfl⟩, Chg.refl⟩
        case rest =>
          obtain ⟨q4, hR4, hq4, hC4⟩ := hcut
          rename_i wc
          have HR4 := Lib.hid hR4
          have HC4 := Lib.hid ((HC.out.trans HC12.out).trans (hC4.two (g := g)))
          have HE4 := Lib.hid (HE2.out.chg hC4 (fun e => HGR.out e) (fun b hb => ⟨Nat.lt_of_lt_of_le hb.1 (Nat.le_trans HLS.out (HC.out.trans HC12.out).size), Dn.ner hb⟩) (fun _ => id))
          have HI4 := Lib.hid (HT.out.keep _ _ (hC4.two (g := g)) HI2.out)
          have HJ := Lib.hid (HV.out.read hlt (by omega) (by omega) HG1.out HG2.out hq4)
          have HQ4 := Lib.hid hq4
          clear hR4 hq4 hC4 e0 e1 fz d0 d1
          go_wp2_with fail
          go_loopw [8, 10] (fun iv kv wr => ∃ (i' k' : Nat) (ev' : Nat → Ev) (q' : Bool), iv = .int .i64 (i' : Int) ∧ kv = .int .i64 (k' : Int) ∧ i ≤ i' ∧ i' + k' ≤ len ∧ Hid (RdP B wr R l3 q') ∧ Hid (EvF wr g N ev' (Dn L g R)) ∧ Hid (Chg (Two R g) w wr) ∧ Hid (I wr) ∧ Hid (InvJ set bad most s len ev l q i kk q4 n l3 i' k' ev' q')) (fun _ kv _ => (intOf kv).toNat)
          case atStart => exact ⟨i, kk, ev1, q4, rfl, rfl, Nat.le_refl _, by omega, HR4, HE4, HC4, HI4, HJ⟩
          case round =>
            obtain ⟨i', k', ev', q', rfl, rfl, hii, hik, HRr, HEr, HCr, HIr, HJr⟩ := hrel
            obtain ⟨w5, rfl⟩ : ∃ w5, w5 = wr := ⟨wr, rfl⟩
            obtain ⟨b5, o5, k5, hK, _, _, _⟩ := HRr.out
            obtain ⟨e0, e1⟩ := hK.c2
            clear hK
            by_cases hk0 : k' = 0
            · have z1 : ¬ (0 : Int) < (k' : Int) := by omega
              have z2 : decide (0 < k') = false := by simp; omega
              have HD := Lib.hid (HJr.out.done (.inl hk0))
              have HM : Hid ((len - i') * 2 + badM R w5 < (len - i) * 2 + badM R wo) := Lib.hid (by
                rw [HRr.out.badM, HR.out.badM]
                rcases Nat.eq_or_lt_of_le hii with e | e
                · obtain ⟨ek, eq⟩ := HJr.out.same e.symm
                  have hk1 : kk = 0 := by omega
                  have : q4 = true := HQ4.out.1 hk1
                  rw [eq, this]
                  simp
                  omega
                · cases q' <;> simp <;> omega)
              clear hk0
              go_wp2_with fail
              go_roundw
              case rel => exact ⟨i', ev', l3, q', rfl, by omega, HRr, HEr, HCr, HIr, HD⟩
              case measure => simp [intOf]; exact HM.out
            · cases q'
              · obtain ⟨k6, rfl⟩ : ∃ k6, k' = k6 + 1 := ⟨k' - 1, by omega⟩
                have z1 : (0 : Int) < ((k6 + 1 : Nat) : Int) := by omega
                have hst := HT.out.step B N L (s + i') n ev' l3 false w5 HIr.out HRr.out HEr.out hB hBg HGR.out (by have := HSN.out; omega) (Nat.le_trans HLS.out HCr.out.size) (by omega)
                rw [show (s + i') * 6 = o + i' * 6 by rw [HO.out]; omega] at hst
                have HST := Lib.hid hst
                have HJ2 := Lib.hid (HJr.out.step hii hik HSD.out)
                have y1 : (i' : Int) < (len : Int) := by omega
                clear hst hk0
                go_wp2_with (go_at_fn k; (with_reducible refine HST.out.mono ?_); rintro _ w6 ⟨rfl, hR6, hE6, hC6⟩)
                have HI6 := Lib.hid (HT.out.keep _ _ hC6 HIr.out)
                go_roundw
                case rel => exact ⟨i' + 1, k6, _, _, by go_num, by go_num, by omega, by omega, Lib.hid hR6, Lib.hid hE6, Lib.hid (HCr.out.trans hC6), HI6, HJ2⟩
                case measure => simp [intOf]
              · have z1 : (0 : Int) < (k' : Int) := by omega
                have HD := Lib.hid (HJr.out.done (.inr rfl))
                have HM : Hid ((len - i') * 2 + badM R w5 < (len - i) * 2 + badM R wo) := Lib.hid (by
                  rw [HRr.out.badM, HR.out.badM]
                  simp
                  omega)
                clear hk0
                go_wp2_with fail
                go_roundw
                case rel => exact ⟨i', ev', l3, true, rfl, by omega, HRr, HEr, HCr, HIr, HD⟩
                case measure => simp [intOf]; exact HM.out
      · go_wp2_with fail
        go_end0
        exact ⟨rfl, ev1, l1, true, HR.out, HE.out, HC.out, HI.out, HV.out.got (.inr rfl)⟩
    · obtain rfl : i = len := by omega
      go_wp2_with fail
      go_end0
      exact ⟨rfl, ev1, l1, q1, HR.out, HE.out, HC.out, HI.out, HV.out.got (.inl rfl)⟩
end Go.Proofs.Ytjglmjdfndcmmaa

set_option linter.all false
namespace Go.Proofs.Ytjglmjdfndcmmaa
open Go.RowKit
structure PremB (len : Nat) (l : List UInt8) (q : Bool) (es : List Ev) (t : List UInt8) : Prop where
  q : q = false
  len : es.length = len
  ok : ∀ e ∈ es, EvOk e
  mono : es.Pairwise fun a b => a.time ≤ b.time
  code : l = arBlock es ++ t
def colV (k : Nat) (es : List Ev) : List Nat := es.map fun e => atW (words es) (if k = 0 then e.cas else if k = 1 then e.act else e.res)
def tail5 (es : List Ev) (t : List UInt8) : List UInt8 := arTimes 0 es ++ (es.flatMap arData ++ t)
def tail4 (es : List Ev) (t : List UInt8) : List UInt8 := arRuns (es.map fun e => e.life.toNat) ++ tail5 es t
def tail3 (es : List Ev) (t : List UInt8) : List UInt8 := arRuns (colV 2 es) ++ tail4 es t
def tail2 (es : List Ev) (t : List UInt8) : List UInt8 := arRuns (colV 1 es) ++ tail3 es t
def tail1 (es : List Ev) (t : List UInt8) : List UInt8 := arRuns (colV 0 es) ++ tail2 es t
theorem block_tail (es : List Ev) (t : List UInt8) : arBlock es ++ t = arNum (words es).length ++ ((words es).flatMap arText ++ tail1 es t) := by
  unfold arBlock tail1 tail2 tail3 tail4 tail5 colV
  simp only [List.append_assoc, if_true, if_false, Nat.one_ne_zero, show ¬ (2 : Nat) = 0 by omega, show ¬ (2 : Nat) = 1 by omega]
theorem atW_at {ws : List Bs} {s : ByteArray} (h : s.data.toList ∈ ws) : wordAt (ws.map mkS) (atW ws s) = s := by
  have hlt : ws.idxOf s.data.toList < ws.length := List.idxOf_lt_length_iff.2 h
  unfold wordAt atW
  rw [List.getD_eq_getElem?_getD, List.getElem?_map, List.getElem?_eq_getElem hlt, List.getElem_idxOf hlt]
  exact mkS_of s
theorem atW_lt' {ws : List Bs} {s : ByteArray} (h : s.data.toList ∈ ws) : atW ws s < ws.length := List.idxOf_lt_length_iff.2 h
theorem word_mem3 {es : List Ev} {e : Ev} (h : e ∈ es) (k : Nat) : (if k = 0 then e.cas else if k = 1 then e.act else e.res).data.toList ∈ words es := by
  refine words_mem.2 ⟨e, h, ?_⟩
  split
  · exact .inl rfl
  · split
    · exact .inr (.inl rfl)
    · exact .inr (.inr rfl)
theorem PremB.col {len : Nat} {l : List UInt8} {q : Bool} {es : List Ev} {t : List UInt8} (h : PremB len l q es t) (hlen : len ≤ 100) (k : Nat) {l' r : List UInt8} (hl : l' = arRuns (colV k es) ++ r) : PremR (fun n => decide (((words es).map mkS).length ≤ n)) 300 len l' false (colV k es) r := by
  refine ⟨rfl, by unfold colV; rw [List.length_map]; exact h.len, fun x hx => ?_, hl⟩
  obtain ⟨e, he, rfl⟩ := List.mem_map.1 hx
  have h1 := atW_lt' (word_mem3 he k)
  have h2 := words_len es
  have h3 := h.len
  exact ⟨by omega, by rw [decide_eq_false_iff_not, List.length_map]; omega⟩
theorem PremB.life {len : Nat} {l : List UInt8} {q : Bool} {es : List Ev} {t : List UInt8} (h : PremB len l q es t) {l' r : List UInt8} (hl : l' = arRuns (es.map fun e => e.life.toNat) ++ r) : PremR (fun _ => false) 6 len l' false (es.map fun e => e.life.toNat) r := by
  refine ⟨rfl, by rw [List.length_map]; exact h.len, fun x hx => ?_, hl⟩
  obtain ⟨e, he, rfl⟩ := List.mem_map.1 hx
  have := (h.ok e he).life
  exact ⟨by omega, rfl⟩
structure TimeI (es : List Ev) (i T : Nat) : Prop where
  first : i = 0 → T = 0
  last : ∀ j, j + 1 = i → ∀ e, es[j]? = some e → (T : Int) = e.time
theorem time_step {es : List Ev} {i T : Nat} {e : Ev} (h : es[i]? = some e) : arTimes (T : Int) (es.drop i) = arNum (e.time - T).toNat ++ arTimes e.time (es.drop (i + 1)) := by
  have hlt := (List.getElem?_eq_some_iff.1 h).1
  rw [List.drop_eq_getElem_cons hlt, (List.getElem?_eq_some_iff.1 h).2, arTimes]
theorem flat_drop {α : Type} (f : α → List UInt8) {l : List α} {k : Nat} {x : α} (h : l[k]? = some x) : (l.drop k).flatMap f = f x ++ (l.drop (k + 1)).flatMap f := by
  have hlt := (List.getElem?_eq_some_iff.1 h).1
  rw [List.drop_eq_getElem_cons hlt, (List.getElem?_eq_some_iff.1 h).2, List.flatMap_cons]
structure GotB (s len : Nat) (ev : Nat → Ev) (l : List UInt8) (q : Bool) (ev' : Nat → Ev) (l' : List UInt8) (q' : Bool) : Prop where
  up : q' = false → q = false
  out : ∀ j, (j < s ∨ s + len ≤ j) → ev' j = ev j
  whole : ∀ es t, PremB len l q es t → q' = false ∧ l' = t ∧ ∀ i e, es[i]? = some e → ev' (s + i) = e
end Go.Proofs.Ytjglmjdfndcmmaa

set_option linter.all false
namespace Go.Proofs.Ytjglmjdfndcmmaa
open Go.RowKit
def EvX (w : World) (g N : Nat) (ev : Nat → Ev) (D : Nat → Prop) (j : Nat) (dv : Value) : Prop := ∃ (cs : Array Value) (dvf : Nat → Value), Blk w g 57 cs ∧ N * 6 ≤ cs.size ∧ dvf j = dv ∧ ∀ i, i < N → FitEv (ev i) ∧ (i ≠ j → SlFl D w (dvf i) (ev i).data ∧ ((ev i).data = [] → dvf i = .slice none 0 0)) ∧ ∀ k u, (evCells (ev i) (dvf i))[k]? = some u → cs[i * 6 + k]? = some u
section
variable {w w' : World} {g N j : Nat} {ev : Nat → Ev} {D D' S : Nat → Prop} {dv : Value}
theorem EvF.open_ (h : EvF w g N ev D) (hj : j < N) (hd : (ev j).data = []) : EvX w g N ev D j (.slice none 0 0) := by
  obtain ⟨cs, dvf, hB, hsz, hh⟩ := h
  exact ⟨cs, dvf, hB, hsz, (hh j hj).2.1.2 hd, fun i hi => ⟨(hh i hi).1, fun _ => (hh i hi).2.1, (hh i hi).2.2⟩⟩
theorem EvX.chg (h : EvX w g N ev D j dv) (k : Chg S w w') (hg : ¬ S g) (hS : ∀ b, D b → b < w.heap.size ∧ ¬ S b) : EvX w' g N ev D j dv := by
  obtain ⟨cs, dvf, hB, hsz, he, hh⟩ := h
  refine ⟨cs, dvf, hB.chg k hg, hsz, he, fun i hi => ?_⟩
  obtain ⟨f1, f2, f3⟩ := hh i hi
  exact ⟨f1, fun hij => ⟨Sl.keep (f2 hij).1 RFld.kept (fun _ => id) (fun b hb => k.block b (hS b hb).1 (hS b hb).2), (f2 hij).2⟩, f3⟩
theorem EvX.lt (h : EvX w g N ev D j dv) : g < w.heap.size := by obtain ⟨_, _, hB, _⟩ := h; exact hB.lt
theorem EvX.frozen (h : EvX w g N ev D j dv) (i : Nat) : w.frozen? ⟨g, i, none⟩ = false := by obtain ⟨_, _, hB, _⟩ := h; exact hB.frozen i
theorem EvX.at5 (h : EvX w g N ev D j dv) (hj : j < N) : w.cell? ⟨g, j * 6 + 5, none⟩ = some dv := by
  obtain ⟨cs, dvf, hB, _, rfl, hh⟩ := h
  exact (hB.cell _).trans ((hh j hj).2.2 5 _ rfl)
theorem EvX.set5 (h : EvX w g N ev D j dv) (hj : j < N) (hg : ¬ D g) (dv' : Value) (fs : List Fld) : EvX (w.setCell ⟨g, j * 6 + 5, none⟩ dv') g N (upd ev j { ev j with data := fs }) D j dv' := by
  obtain ⟨cs, dvf, hB, hsz, rfl, hh⟩ := h
  refine ⟨cs.setIfInBounds (j * 6 + 5) dv', fun i => if i = j then dv' else dvf i, hB.set_ _ _, by simpa using hsz, if_pos rfl, fun i hi => ?_⟩
  obtain ⟨f1, f2, f3⟩ := hh i hi
  by_cases hij : i = j
  · subst hij
    rw [upd_same]
    simp only [if_true]
    refine ⟨⟨f1.cas, f1.act, f1.res, f1.life, f1.time⟩, fun h => absurd rfl h, fun m v hm => ?_⟩
    have h6 := evCells_lt hm
    rw [Array.getElem?_setIfInBounds]
    by_cases hm5 : m = 5
    · subst hm5
      rw [if_pos rfl, if_pos (by omega)]
      exact hm
    · rw [if_neg (by omega)]
      refine f3 m v ?_
      match m, hm5, h6, hm with
      | 0, _, _, hm => exact hm
      | 1, _, _, hm => exact hm
      | 2, _, _, hm => exact hm
      | 3, _, _, hm => exact hm
      | 4, _, _, hm => exact hm
      | 5, h, _, _ => exact absurd rfl h
      | m + 6, _, h, _ => omega
  · rw [upd_ne hij]
    simp only [if_neg hij]
    refine ⟨f1, fun hne => ⟨Sl.keep (f2 hne).1 RFld.kept (fun _ => id) (fun b hb => Below.heap_setCell w _ dv' b fun e => hg ((show b = g from e) ▸ hb)), (f2 hne).2⟩, fun m v hm => ?_⟩
    have := evCells_lt hm
    rw [Array.getElem?_setIfInBounds, if_neg (by omega)]
    exact f3 m v hm
theorem EvX.shut (h : EvX w g N ev D j dv) (hs : SlFl D' w dv (ev j).data) (hn : (ev j).data = [] → dv = .slice none 0 0) (hD : ∀ b, D b → D' b) : EvF w g N ev D' := by
  obtain ⟨cs, dvf, hB, hsz, rfl, hh⟩ := h
  refine ⟨cs, dvf, hB, hsz, fun i hi => ?_⟩
  obtain ⟨f1, f2, f3⟩ := hh i hi
  by_cases hij : i = j
  · subst hij; exact ⟨f1, ⟨hs, hn⟩, f3⟩
  · exact ⟨f1, ⟨Sl.keep (f2 hij).1 RFld.kept hD (Same.refl _ _), (f2 hij).2⟩, f3⟩
theorem EvX.ext {ev' : Nat → Ev} (h : EvX w g N ev D j dv) (he : ∀ i, ev' i = ev i) : EvX w g N ev' D j dv := by
  have : ev' = ev := funext he
  rw [this]; exact h
end
def fldC (f : Fld) : List Value := [.string f.nm, .int .i64 f.v.kind, .int .i64 f.v.n, .string f.v.s]
theorem fldC_one (f : Fld) : ∀ u ∈ fldC f, u.oneCell' = true := by
  intro u hu
  simp [fldC] at hu
  rcases hu with rfl | rfl | rfl | rfl <;> rfl
abbrev OwnFs (w : World) (base : Nat) (v : Value) (fs : List Fld) : Prop := OwnW 4 fldC w base 64 v fs
theorem appFlds : AppInfo Try.prog 55 64 4 := AppInfo.mk' (z := .agg #[.string ⟨#[]⟩, .int .i64 0, .int .i64 0, .string ⟨#[]⟩]) (bytes := 48) Try.underlying55 (by kernel_rfl) (by decide) rfl (by decide)
theorem OwnFs.isSlice {w : World} {base : Nat} {v : Value} {l : List Fld} (h : OwnFs w base v l) : ∃ A c, v = .slice A l.length c := by
  rcases h.2 with ⟨rfl, h0⟩ | ⟨g, cap, cur, rfl, _⟩
  · exact ⟨none, 0, by rw [h0]⟩
  · exact ⟨some ⟨g, 0, none⟩, cap, rfl⟩
theorem OwnFs.none_ {w : World} {base : Nat} {v : Value} {l : List Fld} (h : OwnFs w base v l) (hl : l = []) : v = .slice none 0 0 ∨ ∃ g cap, v = .slice (some ⟨g, 0, none⟩) 0 cap := by
  subst hl
  rcases h.2 with ⟨rfl, h0⟩ | ⟨g, cap, cur, rfl, _⟩
  · exact .inl rfl
  · exact .inr ⟨g, cap, rfl⟩
theorem ownW_chg {α : Type} {size : Nat} {fc : α → List Value} {w w' : World} {base t : Nat} {v : Value} {xs : List α} {S : Nat → Prop} (h : OwnW size fc w base t v xs) (k : Chg S w w') (hS : ∀ b, base ≤ b → b < w.heap.size → ¬ S b) : OwnW size fc w' base t v xs :=
  ⟨h.1, by
    rcases h.2 with h0 | ⟨g, cap, cur, rfl, h1, h2, h3⟩
    · exact .inl h0
    · have := World.ownsRow.lt h g rfl
      exact .inr ⟨g, cap, cur, rfl, h1, (k.block g this.2 (hS g this.1 this.2)).trans h2, h3⟩⟩
theorem OwnFs.slD {w : World} {base : Nat} {D : Nat → Prop} {v : Value} {fs : List Fld} (h : OwnFs w base v fs) (hf : ∀ f ∈ fs, FitFl f) (hD : ∀ b, base ≤ b → b < w.heap.size → D b) : SlFl D w v fs :=
  Sl.of_own h rfl (fun g hg => by have := World.ownsRow.lt h g hg; exact hD g this.1 this.2) fun i x hx => ⟨fldC x, rfl, fun j u hu => by
    rw [flat_get (size := 4) (fun _ => rfl) fs i j x hx (List.getElem?_eq_some_iff.1 hu).1]; exact hu, rfl, hf x (List.mem_of_getElem? hx)⟩
end Go.Proofs.Ytjglmjdfndcmmaa
