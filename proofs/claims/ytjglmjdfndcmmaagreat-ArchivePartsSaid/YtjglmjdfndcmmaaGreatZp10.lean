/- Texts of this seat, merged. -/
import Derived.Deep.CutRange
import Derived.Deep.CutBlock
import Derived.Deep.RegionWith
import Derived.Deep.RegionLaw
import Derived.Laws.EntriesVeiled
import Derived.Test.YtjglmjdfndcmmaaGreatZp01
import Derived.Test.YtjglmjdfndcmmaaGreatZp02
import Derived.Test.YtjglmjdfndcmmaaGreatZp03
import Derived.Test.YtjglmjdfndcmmaaGreatZp07
import Derived.Test.YtjglmjdfndcmmaaGreatZp08
import Derived.Test.YtjglmjdfndcmmaaGreatZp09
set_option linter.all false
set_option linter.all false
namespace Go.Proofs.YtjglmjdfndcmmaaGreat
open Go.RowKit
structure PremR (bad : Nat → Bool) (most len : Nat) (l : List UInt8) (q : Bool) (vals : List Nat) (t : List UInt8) : Prop where
  q : q = false
  len : vals.length = len
  ok : ∀ x ∈ vals, x ≤ most ∧ bad x = false
  code : l = arRuns vals ++ t
structure DoneR (set : Ev → Nat → Ev) (s : Nat) (ev : Nat → Ev) (vals : List Nat) (i : Nat) (ev' : Nat → Ev) : Prop where
  past : ∀ m x, m < i → vals[m]? = some x → ev' (s + m) = set (ev (s + m)) x
  next : ∀ m, i ≤ m → ev' (s + m) = ev (s + m)
structure InvR (set : Ev → Nat → Ev) (bad : Nat → Bool) (most s len : Nat) (ev : Nat → Ev) (l : List UInt8) (q : Bool) (i : Nat) (ev' : Nat → Ev) (l' : List UInt8) (q' : Bool) : Prop where
  up : q' = false → q = false
  data : ∀ j, (ev' j).data = (ev j).data
  out : ∀ j, j < s ∨ s + len ≤ j → ev' j = ev j
  whole : ∀ vals t, PremR bad most len l q vals t → q' = false ∧ l' = arRuns (vals.drop i) ++ t ∧ DoneR set s ev vals i ev'
structure InvJ (set : Ev → Nat → Ev) (bad : Nat → Bool) (most s len : Nat) (ev : Nat → Ev) (l : List UInt8) (q : Bool) (i kk : Nat) (q3 : Bool) (n : Nat) (l2 : List UInt8) (i' k' : Nat) (ev' : Nat → Ev) (q' : Bool) : Prop where
  up : q' = false → q = false
  data : ∀ j, (ev' j).data = (ev j).data
  out : ∀ j, j < s ∨ s + len ≤ j → ev' j = ev j
  same : i' = i → k' = kk ∧ q' = q3
  whole : ∀ vals t, PremR bad most len l q vals t → q' = false ∧ l2 = arRuns (vals.drop (i' + k')) ++ t ∧ DoneR set s ev vals i' ev' ∧ ∀ m, i' ≤ m → m < i' + k' → vals[m]? = some n
section
variable {set : Ev → Nat → Ev} {bad : Nat → Bool} {most s len : Nat} {ev : Nat → Ev} {l : List UInt8} {q : Bool}
theorem InvR.start : InvR set bad most s len ev l q 0 ev l q :=
  ⟨id, fun _ => rfl, fun _ _ => rfl, fun vals t h => ⟨h.q, h.code, ⟨fun m x hm => absurd hm (by omega), fun _ _ => rfl⟩⟩⟩
theorem InvR.read {i : Nat} {ev' : Nat → Ev} {l' l1 l2 : List UInt8} {q1 q2 q3 : Bool} {n kk : Nat} (h : InvR set bad most s len ev l q i ev' l' false) (hi : i < len) (hm : most < 9223372036854775808) (hl : len < 9223372036854775808) (h1 : GotN most l' false n l1 q1) (h2 : GotN (len - i) l1 q1 kk l2 q2)
    (h3 : (kk = 0 → q3 = true) ∧ (kk ≠ 0 → q3 = q2)) : InvJ set bad most s len ev l q i kk q3 n l2 i kk ev' q3 := by
  refine ⟨fun _ => h.up rfl, h.data, h.out, fun _ => ⟨rfl, rfl⟩, fun vals t hp => ?_⟩
  obtain ⟨-, e2, e3⟩ := h.whole vals t hp
  obtain ⟨x, K, hK, hiK, hx, hr⟩ := runs_split (vals := vals) (i := i) (by rw [hp.len]; exact hi)
  rw [hr] at e2
  have hxm := (hp.ok x (List.mem_of_getElem? (hx i (Nat.le_refl _) (by omega)))).1
  obtain ⟨rfl, e4, e5⟩ := h1.whole x (arNum K ++ arRuns (vals.drop (i + K)) ++ t) rfl (by rw [e2, List.append_assoc]) hxm (by omega)
  have := hp.len
  obtain ⟨rfl, e6, e7⟩ := h2.whole K (arRuns (vals.drop (i + K)) ++ t) e5 (by rw [e4, List.append_assoc]) (by omega) (by omega)
  exact ⟨by rw [h3.2 (by omega)]; exact e7, e6, e3, hx⟩
theorem InvJ.step {i kk n i' k' : Nat} {q3 : Bool} {l2 : List UInt8} {ev' : Nat → Ev} (h : InvJ set bad most s len ev l q i kk q3 n l2 i' (k' + 1) ev' false) (hii : i ≤ i') (hik : i' + (k' + 1) ≤ len) (hsd : ∀ e n, (set e n).data = e.data) : InvJ set bad most s len ev l q i kk q3 n l2 (i' + 1) k' (upd ev' (s + i') (set (ev' (s + i')) n)) (false || bad n) := by
  refine ⟨fun _ => h.up rfl, fun j => ?_, fun j hj => ?_, fun e => absurd e (by omega), fun vals t hp => ?_⟩
  · by_cases e : j = s + i'
    · subst e; rw [upd_same, hsd]; exact h.data _
    · rw [upd_ne e]; exact h.data j
  · rw [upd_ne (by omega)]; exact h.out j hj
  · obtain ⟨-, e2, e3, e4⟩ := h.whole vals t hp
    have e5 := e4 i' (Nat.le_refl _) (by omega)
    refine ⟨by rw [(hp.ok n (List.mem_of_getElem? e5)).2]; rfl, by rw [e2, show i' + (k' + 1) = i' + 1 + k' by omega], ⟨fun m x hm hx => ?_, fun m hm => ?_⟩, fun m h1 h2 => e4 m (by omega) (by omega)⟩
    · by_cases hmi : m = i'
      · subst hmi
        rw [e5] at hx
        injection hx with hx
        subst hx
        rw [upd_same, e3.next m (Nat.le_refl _)]
      · rw [upd_ne (by omega)]
        exact e3.past m x (by omega) hx
    · rw [upd_ne (by omega)]
      exact e3.next m (by omega)
theorem InvJ.done {i kk n i' k' : Nat} {q3 q' : Bool} {l2 : List UInt8} {ev' : Nat → Ev} (h : InvJ set bad most s len ev l q i kk q3 n l2 i' k' ev' q') (hk : k' = 0 ∨ q' = true) : InvR set bad most s len ev l q i' ev' l2 q' := by
  refine ⟨h.up, h.data, h.out, fun vals t hp => ?_⟩
  obtain ⟨e1, e2, e3, -⟩ := h.whole vals t hp
  rcases hk with rfl | hk
  · exact ⟨e1, e2, e3⟩
  · rw [hk] at e1; cases e1
end
noncomputable def badM (R : Nat) (w : World) : Nat := open Classical in if w.cell? ⟨R, 1, none⟩ = some (.bool true) then 0 else 1
theorem RdP.badM {B R : Nat} {w : World} {l : List UInt8} {q : Bool} (h : RdP B w R l q) : badM R w = if q then 0 else 1 := by
  obtain ⟨b, o, c, h, _⟩ := h
  unfold Go.Proofs.YtjglmjdfndcmmaaGreat.badM
  rw [h.c2.2]
  cases q <;> simp
structure GotR (set : Ev → Nat → Ev) (bad : Nat → Bool) (most s len : Nat) (ev : Nat → Ev) (l : List UInt8) (q : Bool) (ev' : Nat → Ev) (l' : List UInt8) (q' : Bool) : Prop where
  up : q' = false → q = false
  data : ∀ j, (ev' j).data = (ev j).data
  out : ∀ j, j < s ∨ s + len ≤ j → ev' j = ev j
  whole : ∀ vals t, PremR bad most len l q vals t → q' = false ∧ l' = t ∧ ∀ m x, vals[m]? = some x → ev' (s + m) = set (ev (s + m)) x
theorem InvR.got {set : Ev → Nat → Ev} {bad : Nat → Bool} {most s len i : Nat} {ev ev' : Nat → Ev} {l l' : List UInt8} {q q' : Bool} (h : InvR set bad most s len ev l q i ev' l' q') (hi : i = len ∨ q' = true) : GotR set bad most s len ev l q ev' l' q' := by
  refine ⟨h.up, h.data, h.out, fun vals t hp => ?_⟩
  obtain ⟨e1, e2, e3⟩ := h.whole vals t hp
  rcases hi with rfl | hi
  · refine ⟨e1, ?_, fun m x hm => e3.past m x (by have := (List.getElem?_eq_some_iff.1 hm).1; rw [hp.len] at this; exact this) hm⟩
    rw [e2, List.drop_eq_nil_of_le (by rw [hp.len]; exact Nat.le_refl _), arRuns_nil, List.nil_append]
  · rw [hi] at e1; cases e1
-- WALK
set_option maxHeartbeats 4000000 in
set_option maxRecDepth 100000 in
theorem rdRuns_any (k : FuncId) (caps : Array Value) (set : Ev → Nat → Ev) (bad : Nat → Bool) (I : World → Prop) (B R g N L s len o c most : Nat) (z : Int) (ev : Nat → Ev) (l : List UInt8) (q : Bool) (w : World) (hT : Puts k caps R g set bad I) (h : RdP B w R l q) (hE : EvF w g N ev (Dn L g R)) (hI : I w)
    (hB : B ≤ R) (hBg : B ≤ g) (hgR : g ≠ R) (hL : L ≤ w.heap.size) (hs : s + len ≤ N) (ho : o = s * 6) (hc : len ≤ c) (hlen : len < 1000000) (hz : z = (most : Int)) (hm : most < 1000000) (hsd : ∀ e n, (set e n).data = e.data) :
    Calls Tryz.prog 60 #[.pointer (some ⟨R, 0, none⟩), .slice (some ⟨g, o, none⟩) len c, .int .i64 z, .func (.func k) #[] caps] w fun e w' => e = .returned (.tuple #[]) ∧ ∃ ev' l' q', RdP B w' R l' q' ∧ EvF w' g N ev' (Dn L g R) ∧ Chg (Two R g) w w' ∧ I w' ∧ GotR set bad most s len ev l q ev' l' q' := by
  have HT := Lib.hid hT
  have HR0 := Lib.hid h
  have HE0 := Lib.hid hE
  have HI0 := Lib.hid hI
  have HO := Lib.hid ho
  have HZ := Lib.hid hz
  have HSN := Lib.hid hs
  have HLS := Lib.hid hL
  have HGR := Lib.hid hgR
  have HSD := Lib.hid hsd
  clear hsd
  have eg := HT.out.enter
  clear hT h hE hI ho hz hs hL hgR
  go_enter Tryz.func60, Tryz.ntmps60
  go_wp2_with fail
  go_loopw [8] (fun iv wr => ∃ (i : Nat) (ev' : Nat → Ev) (l' : List UInt8) (q' : Bool), iv = .int .i64 (i : Int) ∧ i ≤ len ∧ Hid (RdP B wr R l' q') ∧ Hid (EvF wr g N ev' (Dn L g R)) ∧ Hid (Chg (Two R g) w wr) ∧ Hid (I wr) ∧ Hid (InvR set bad most s len ev l q i ev' l' q')) (fun iv wr => (len - (intOf iv).toNat) * 2 + badM R wr)
  case atStart => exact ⟨0, ev, l, q, rfl, Nat.zero_le _, HR0, HE0, Lib.hid Chg.refl, HI0, Lib.hid InvR.start⟩
  case round =>
    obtain ⟨i, ev1, l1, q1, rfl, hi, HR, HE, HC, HI, HV⟩ := hrel
    obtain ⟨wo, rfl⟩ : ∃ wo, wo = wr := ⟨wr, rfl⟩
    obtain ⟨b0, o0, k0, hK, _, _, _⟩ := HR.out
    obtain ⟨d0, d1⟩ := hK.c2
    clear hK
    by_cases hlt : i < len
    · cases q1
      · have HN1 := Lib.hid (rdNum_z B R most z HZ.out l1 false wo HR.out hB (by omega))
        go_wp2_with fail
        (with_reducible refine HN1.out.mono ?_)
        rintro _ w1 ⟨n, l2, q2, rfl, hR1, hG1, hC1⟩
        have HN2 := Lib.hid (rdNum_z B R (len - i) ((len : Int) - (i : Int)) (by omega) l2 q2 w1 hR1 hB (by omega))
        have HG1 := Lib.hid hG1
        have HC1 := Lib.hid hC1
        clear hR1 hG1 hC1
        go_wp2_with fail
        (with_reducible refine HN2.out.mono ?_)
        rintro _ w2 ⟨kk, l3, q3, rfl, hR2, hG2, hC2⟩
        have HC12 := Lib.hid ((HC1.out.trans hC2).two (g := g))
        have HE2 := Lib.hid (HE.out.chg (HC1.out.trans hC2) (fun e => HGR.out e) (fun b hb => ⟨Nat.lt_of_lt_of_le hb.1 (Nat.le_trans HLS.out HC.out.size), Dn.ner hb⟩) (fun _ => id))
        have HI2 := Lib.hid (HT.out.keep _ _ HC12.out HI.out)
        have hkk := hG2.le
        have hnm := HG1.out.le
        have HG2 := Lib.hid hG2
        have HR2 := Lib.hid hR2
        obtain ⟨b2, o2, k2, hK, _, _, _⟩ := hR2
        obtain ⟨e0, e1⟩ := hK.c2
        have fz := hK.frozen 1
        clear hG2 hC2 hK HN1 HN2
        go_upto_if 32 with fail
        go_cut [] from 11 to 54 (fun W => ∃ q4, RdP B W R l3 q4 ∧ ((kk = 0 → q4 = true) ∧ (kk ≠ 0 → q4 = q3)) ∧ Chg (One R) w2 W)
        case first =>
          by_cases hk0 : kk = 0
          · have z1 : ((kk : Int) == 0) = true := by simp [hk0]
            have z2 : (kk == 0) = true := by simp [hk0]
            have z3 : decide (kk = 0) = true := by simp [hk0]
            have HK0 := Lib.hid hk0
            clear hk0
            go_wp2_with fail
            go_meet
            exact ⟨true, HR2.out.bad hB, ⟨fun _ => rfl, fun h => absurd HK0.out h⟩, Chg.refl.set (p := ⟨R, 1, none⟩) (.inr (show One R R from rfl)) _⟩
          · have z1 : ((kk : Int) == 0) = false := by simp; omega
            have z2 : (kk == 0) = false := by simp [hk0]
            have z3 : decide (kk = 0) = false := by simp [hk0]
            have HK0 := Lib.hid hk0
            clear hk0
            go_wp2_with fail
            go_meet
            exact ⟨q3, HR2.out, ⟨fun h => absurd h HK0.out, fun _ => rfl⟩, Chg.refl⟩
        case rest =>
          obtain ⟨q4, hR4, hq4, hC4⟩ := hcut
          rename_i wc
          have HR4 := Lib.hid hR4
          have HC4 := Lib.hid ((HC.out.trans HC12.out).trans (hC4.two (g := g)))
          have HE4 := Lib.hid (HE2.out.chg hC4 (fun e => HGR.out e) (fun b hb => ⟨Nat.lt_of_lt_of_le hb.1 (Nat.le_trans HLS.out (HC.out.trans HC12.out).size), Dn.ner hb⟩) (fun _ => id))
          have HI4 := Lib.hid (HT.out.keep _ _ (hC4.two (g := g)) HI2.out)
          have HJ := Lib.hid (HV.out.read hlt (by omega) (by omega) HG1.out HG2.out hq4)
          have HQ4 := Lib.hid hq4
          clear hR4 hq4 hC4 e0 e1 fz d0 d1
          go_wp2_with fail
          go_loopw [8, 10] (fun iv kv wr => ∃ (i' k' : Nat) (ev' : Nat → Ev) (q' : Bool), iv = .int .i64 (i' : Int) ∧ kv = .int .i64 (k' : Int) ∧ i ≤ i' ∧ i' + k' ≤ len ∧ Hid (RdP B wr R l3 q') ∧ Hid (EvF wr g N ev' (Dn L g R)) ∧ Hid (Chg (Two R g) w wr) ∧ Hid (I wr) ∧ Hid (InvJ set bad most s len ev l q i kk q4 n l3 i' k' ev' q')) (fun _ kv _ => (intOf kv).toNat)
          case atStart => exact ⟨i, kk, ev1, q4, rfl, rfl, Nat.le_refl _, by omega, HR4, HE4, HC4, HI4, HJ⟩
          case round =>
            obtain ⟨i', k', ev', q', rfl, rfl, hii, hik, HRr, HEr, HCr, HIr, HJr⟩ := hrel
            obtain ⟨w5, rfl⟩ : ∃ w5, w5 = wr := ⟨wr, rfl⟩
            obtain ⟨b5, o5, k5, hK, _, _, _⟩ := HRr.out
            obtain ⟨e0, e1⟩ := hK.c2
            clear hK
            by_cases hk0 : k' = 0
            · have z1 : ¬ (0 : Int) < (k' : Int) := by omega
              have z2 : decide (0 < k') = false := by simp; omega
              have HD := Lib.hid (HJr.out.done (.inl hk0))
              have HM : Hid ((len - i') * 2 + badM R w5 < (len - i) * 2 + badM R wo) := Lib.hid (by
                rw [HRr.out.badM, HR.out.badM]
                rcases Nat.eq_or_lt_of_le hii with e | e
                · obtain ⟨ek, eq⟩ := HJr.out.same e.symm
                  have hk1 : kk = 0 := by omega
                  have : q4 = true := HQ4.out.1 hk1
                  rw [eq, this]
                  simp
                  omega
                · cases q' <;> simp <;> omega)
              clear hk0
              go_wp2_with fail
              go_roundw
              case rel => exact ⟨i', ev', l3, q', rfl, by omega, HRr, HEr, HCr, HIr, HD⟩
              case measure => simp [intOf]; exact HM.out
            · cases q'
              · obtain ⟨k6, rfl⟩ : ∃ k6, k' = k6 + 1 := ⟨k' - 1, by omega⟩
                have z1 : (0 : Int) < ((k6 + 1 : Nat) : Int) := by omega
                have hst := HT.out.step B N L (s + i') n ev' l3 false w5 HIr.out HRr.out HEr.out hB hBg HGR.out (by have := HSN.out; omega) (Nat.le_trans HLS.out HCr.out.size) (by omega)
                rw [show (s + i') * 6 = o + i' * 6 by rw [HO.out]; omega] at hst
                have HST := Lib.hid hst
                have HJ2 := Lib.hid (HJr.out.step hii hik HSD.out)
                have y1 : (i' : Int) < (len : Int) := by omega
                clear hst hk0
                go_wp2_with (go_at_fn k; (with_reducible refine HST.out.mono ?_); rintro _ w6 ⟨rfl, hR6, hE6, hC6⟩)
                have HI6 := Lib.hid (HT.out.keep _ _ hC6 HIr.out)
                go_roundw
                case rel => exact ⟨i' + 1, k6, _, _, by go_num, by go_num, by omega, by omega, Lib.hid hR6, Lib.hid hE6, Lib.hid (HCr.out.trans hC6), HI6, HJ2⟩
                case measure => simp [intOf]
              · have z1 : (0 : Int) < (k' : Int) := by omega
                have HD := Lib.hid (HJr.out.done (.inr rfl))
                have HM : Hid ((len - i') * 2 + badM R w5 < (len - i) * 2 + badM R wo) := Lib.hid (by
                  rw [HRr.out.badM, HR.out.badM]
                  simp
                  omega)
                clear hk0
                go_wp2_with fail
                go_roundw
                case rel => exact ⟨i', ev', l3, true, rfl, by omega, HRr, HEr, HCr, HIr, HD⟩
                case measure => simp [intOf]; exact HM.out
      · go_wp2_with fail
        go_end0
        exact ⟨rfl, ev1, l1, true, HR.out, HE.out, HC.out, HI.out, HV.out.got (.inr rfl)⟩
    · obtain rfl : i = len := by omega
      go_wp2_with fail
      go_end0
      exact ⟨rfl, ev1, l1, q1, HR.out, HE.out, HC.out, HI.out, HV.out.got (.inl rfl)⟩
end Go.Proofs.YtjglmjdfndcmmaaGreat

set_option linter.all false
namespace Go.Proofs.YtjglmjdfndcmmaaGreat
open Go.RowKit
structure PremB (len : Nat) (l : List UInt8) (q : Bool) (es : List Ev) (t : List UInt8) : Prop where
  q : q = false
  len : es.length = len
  ok : ∀ e ∈ es, EvOk e
  mono : es.Pairwise fun a b => a.time ≤ b.time
  code : l = arBlock es ++ t
def colV (k : Nat) (es : List Ev) : List Nat := es.map fun e => atW (words es) (if k = 0 then e.cas else if k = 1 then e.act else e.res)
def tail5 (es : List Ev) (t : List UInt8) : List UInt8 := arTimes 0 es ++ (es.flatMap arData ++ t)
def tail4 (es : List Ev) (t : List UInt8) : List UInt8 := arRuns (es.map fun e => e.life.toNat) ++ tail5 es t
def tail3 (es : List Ev) (t : List UInt8) : List UInt8 := arRuns (colV 2 es) ++ tail4 es t
def tail2 (es : List Ev) (t : List UInt8) : List UInt8 := arRuns (colV 1 es) ++ tail3 es t
def tail1 (es : List Ev) (t : List UInt8) : List UInt8 := arRuns (colV 0 es) ++ tail2 es t
theorem block_tail (es : List Ev) (t : List UInt8) : arBlock es ++ t = arNum (words es).length ++ ((words es).flatMap arText ++ tail1 es t) := by
  unfold arBlock tail1 tail2 tail3 tail4 tail5 colV
  simp only [List.append_assoc, if_true, if_false, Nat.one_ne_zero, show ¬ (2 : Nat) = 0 by omega, show ¬ (2 : Nat) = 1 by omega]
theorem atW_at {ws : List Bs} {s : ByteArray} (h : s.data.toList ∈ ws) : wordAt (ws.map mkS) (atW ws s) = s := by
  have hlt : ws.idxOf s.data.toList < ws.length := List.idxOf_lt_length_iff.2 h
  unfold wordAt atW
  rw [List.getD_eq_getElem?_getD, List.getElem?_map, List.getElem?_eq_getElem hlt, List.getElem_idxOf hlt]
  exact mkS_of s
theorem atW_lt' {ws : List Bs} {s : ByteArray} (h : s.data.toList ∈ ws) : atW ws s < ws.length := List.idxOf_lt_length_iff.2 h
theorem word_mem3 {es : List Ev} {e : Ev} (h : e ∈ es) (k : Nat) : (if k = 0 then e.cas else if k = 1 then e.act else e.res).data.toList ∈ words es := by
  refine words_mem.2 ⟨e, h, ?_⟩
  split
  · exact .inl rfl
  · split
    · exact .inr (.inl rfl)
    · exact .inr (.inr rfl)
theorem PremB.col {len : Nat} {l : List UInt8} {q : Bool} {es : List Ev} {t : List UInt8} (h : PremB len l q es t) (hlen : len ≤ 100) (k : Nat) {l' r : List UInt8} (hl : l' = arRuns (colV k es) ++ r) : PremR (fun n => decide (((words es).map mkS).length ≤ n)) 300 len l' false (colV k es) r := by
  refine ⟨rfl, by unfold colV; rw [List.length_map]; exact h.len, fun x hx => ?_, hl⟩
  obtain ⟨e, he, rfl⟩ := List.mem_map.1 hx
  have h1 := atW_lt' (word_mem3 he k)
  have h2 := words_len es
  have h3 := h.len
  exact ⟨by omega, by rw [decide_eq_false_iff_not, List.length_map]; omega⟩
theorem PremB.life {len : Nat} {l : List UInt8} {q : Bool} {es : List Ev} {t : List UInt8} (h : PremB len l q es t) {l' r : List UInt8} (hl : l' = arRuns (es.map fun e => e.life.toNat) ++ r) : PremR (fun _ => false) 6 len l' false (es.map fun e => e.life.toNat) r := by
  refine ⟨rfl, by rw [List.length_map]; exact h.len, fun x hx => ?_, hl⟩
  obtain ⟨e, he, rfl⟩ := List.mem_map.1 hx
  have := (h.ok e he).life
  exact ⟨by omega, rfl⟩
structure TimeI (es : List Ev) (i T : Nat) : Prop where
  first : i = 0 → T = 0
  last : ∀ j, j + 1 = i → ∀ e, es[j]? = some e → (T : Int) = e.time
theorem time_step {es : List Ev} {i T : Nat} {e : Ev} (h : es[i]? = some e) : arTimes (T : Int) (es.drop i) = arNum (e.time - T).toNat ++ arTimes e.time (es.drop (i + 1)) := by
  have hlt := (List.getElem?_eq_some_iff.1 h).1
  rw [List.drop_eq_getElem_cons hlt, (List.getElem?_eq_some_iff.1 h).2, arTimes]
theorem flat_drop {α : Type} (f : α → List UInt8) {l : List α} {k : Nat} {x : α} (h : l[k]? = some x) : (l.drop k).flatMap f = f x ++ (l.drop (k + 1)).flatMap f := by
  have hlt := (List.getElem?_eq_some_iff.1 h).1
  rw [List.drop_eq_getElem_cons hlt, (List.getElem?_eq_some_iff.1 h).2, List.flatMap_cons]
structure GotB (s len : Nat) (ev : Nat → Ev) (l : List UInt8) (q : Bool) (ev' : Nat → Ev) (l' : List UInt8) (q' : Bool) : Prop where
  up : q' = false → q = false
  out : ∀ j, (j < s ∨ s + len ≤ j) → ev' j = ev j
  whole : ∀ es t, PremB len l q es t → q' = false ∧ l' = t ∧ ∀ i e, es[i]? = some e → ev' (s + i) = e
end Go.Proofs.YtjglmjdfndcmmaaGreat

set_option linter.all false
namespace Go.Proofs.YtjglmjdfndcmmaaGreat
open Go.RowKit
def EvX (w : World) (g N : Nat) (ev : Nat → Ev) (D : Nat → Prop) (j : Nat) (dv : Value) : Prop := ∃ (cs : Array Value) (dvf : Nat → Value), Blk w g 57 cs ∧ N * 6 ≤ cs.size ∧ dvf j = dv ∧ ∀ i, i < N → FitEv (ev i) ∧ (i ≠ j → SlFl D w (dvf i) (ev i).data ∧ ((ev i).data = [] → dvf i = .slice none 0 0)) ∧ ∀ k u, (evCells (ev i) (dvf i))[k]? = some u → cs[i * 6 + k]? = some u
section
variable {w w' : World} {g N j : Nat} {ev : Nat → Ev} {D D' S : Nat → Prop} {dv : Value}
theorem EvF.open_ (h : EvF w g N ev D) (hj : j < N) (hd : (ev j).data = []) : EvX w g N ev D j (.slice none 0 0) := by
  obtain ⟨cs, dvf, hB, hsz, hh⟩ := h
  exact ⟨cs, dvf, hB, hsz, (hh j hj).2.1.2 hd, fun i hi => ⟨(hh i hi).1, fun _ => (hh i hi).2.1, (hh i hi).2.2⟩⟩
theorem EvX.chg (h : EvX w g N ev D j dv) (k : Chg S w w') (hg : ¬ S g) (hS : ∀ b, D b → b < w.heap.size ∧ ¬ S b) : EvX w' g N ev D j dv := by
  obtain ⟨cs, dvf, hB, hsz, he, hh⟩ := h
  refine ⟨cs, dvf, hB.chg k hg, hsz, he, fun i hi => ?_⟩
  obtain ⟨f1, f2, f3⟩ := hh i hi
  exact ⟨f1, fun hij => ⟨Sl.keep (f2 hij).1 RFld.kept (fun _ => id) (fun b hb => k.block b (hS b hb).1 (hS b hb).2), (f2 hij).2⟩, f3⟩
theorem EvX.lt (h : EvX w g N ev D j dv) : g < w.heap.size := by obtain ⟨_, _, hB, _⟩ := h; exact hB.lt
theorem EvX.frozen (h : EvX w g N ev D j dv) (i : Nat) : w.frozen? ⟨g, i, none⟩ = false := by obtain ⟨_, _, hB, _⟩ := h; exact hB.frozen i
theorem EvX.at5 (h : EvX w g N ev D j dv) (hj : j < N) : w.cell? ⟨g, j * 6 + 5, none⟩ = some dv := by
  obtain ⟨cs, dvf, hB, _, rfl, hh⟩ := h
  exact (hB.cell _).trans ((hh j hj).2.2 5 _ rfl)
theorem EvX.set5 (h : EvX w g N ev D j dv) (hj : j < N) (hg : ¬ D g) (dv' : Value) (fs : List Fld) : EvX (w.setCell ⟨g, j * 6 + 5, none⟩ dv') g N (upd ev j { ev j with data := fs }) D j dv' := by
  obtain ⟨cs, dvf, hB, hsz, rfl, hh⟩ := h
  refine ⟨cs.setIfInBounds (j * 6 + 5) dv', fun i => if i = j then dv' else dvf i, hB.set_ _ _, by simpa using hsz, if_pos rfl, fun i hi => ?_⟩
  obtain ⟨f1, f2, f3⟩ := hh i hi
  by_cases hij : i = j
  · subst hij
    rw [upd_same]
    simp only [if_true]
    refine ⟨⟨f1.cas, f1.act, f1.res, f1.life, f1.time⟩, fun h => absurd rfl h, fun m v hm => ?_⟩
    have h6 := evCells_lt hm
    rw [Array.getElem?_setIfInBounds]
    by_cases hm5 : m = 5
    · subst hm5
      rw [if_pos rfl, if_pos (by omega)]
      exact hm
    · rw [if_neg (by omega)]
      refine f3 m v ?_
      match m, hm5, h6, hm with
      | 0, _, _, hm => exact hm
      | 1, _, _, hm => exact hm
      | 2, _, _, hm => exact hm
      | 3, _, _, hm => exact hm
      | 4, _, _, hm => exact hm
      | 5, h, _, _ => exact absurd rfl h
      | m + 6, _, h, _ => omega
  · rw [upd_ne hij]
    simp only [if_neg hij]
    refine ⟨f1, fun hne => ⟨Sl.keep (f2 hne).1 RFld.kept (fun _ => id) (fun b hb => Below.heap_setCell w _ dv' b fun e => hg ((show b = g from e) ▸ hb)), (f2 hne).2⟩, fun m v hm => ?_⟩
    have := evCells_lt hm
    rw [Array.getElem?_setIfInBounds, if_neg (by omega)]
    exact f3 m v hm
theorem EvX.shut (h : EvX w g N ev D j dv) (hs : SlFl D' w dv (ev j).data) (hn : (ev j).data = [] → dv = .slice none 0 0) (hD : ∀ b, D b → D' b) : EvF w g N ev D' := by
  obtain ⟨cs, dvf, hB, hsz, rfl, hh⟩ := h
  refine ⟨cs, dvf, hB, hsz, fun i hi => ?_⟩
  obtain ⟨f1, f2, f3⟩ := hh i hi
  by_cases hij : i = j
  · subst hij; exact ⟨f1, ⟨hs, hn⟩, f3⟩
  · exact ⟨f1, ⟨Sl.keep (f2 hij).1 RFld.kept hD (Same.refl _ _), (f2 hij).2⟩, f3⟩
theorem EvX.ext {ev' : Nat → Ev} (h : EvX w g N ev D j dv) (he : ∀ i, ev' i = ev i) : EvX w g N ev' D j dv := by
  have : ev' = ev := funext he
  rw [this]; exact h
end
def fldC (f : Fld) : List Value := [.string f.nm, .int .i64 f.v.kind, .int .i64 f.v.n, .string f.v.s]
theorem fldC_one (f : Fld) : ∀ u ∈ fldC f, u.oneCell' = true := by
  intro u hu
  simp [fldC] at hu
  rcases hu with rfl | rfl | rfl | rfl <;> rfl
abbrev OwnFs (w : World) (base : Nat) (v : Value) (fs : List Fld) : Prop := OwnW 4 fldC w base 64 v fs
theorem appFlds : AppInfo Tryz.prog 55 64 4 := AppInfo.mk' (z := .agg #[.string ⟨#[]⟩, .int .i64 0, .int .i64 0, .string ⟨#[]⟩]) (bytes := 48) Tryz.underlying55 (by kernel_rfl) (by decide) rfl (by decide)
theorem OwnFs.isSlice {w : World} {base : Nat} {v : Value} {l : List Fld} (h : OwnFs w base v l) : ∃ A c, v = .slice A l.length c := by
  rcases h.2 with ⟨rfl, h0⟩ | ⟨g, cap, cur, rfl, _⟩
  · exact ⟨none, 0, by rw [h0]⟩
  · exact ⟨some ⟨g, 0, none⟩, cap, rfl⟩
theorem OwnFs.none_ {w : World} {base : Nat} {v : Value} {l : List Fld} (h : OwnFs w base v l) (hl : l = []) : v = .slice none 0 0 ∨ ∃ g cap, v = .slice (some ⟨g, 0, none⟩) 0 cap := by
  subst hl
  rcases h.2 with ⟨rfl, h0⟩ | ⟨g, cap, cur, rfl, _⟩
  · exact .inl rfl
  · exact .inr ⟨g, cap, rfl⟩
theorem ownW_chg {α : Type} {size : Nat} {fc : α → List Value} {w w' : World} {base t : Nat} {v : Value} {xs : List α} {S : Nat → Prop} (h : OwnW size fc w base t v xs) (k : Chg S w w') (hS : ∀ b, base ≤ b → b < w.heap.size → ¬ S b) : OwnW size fc w' base t v xs :=
  ⟨h.1, by
    rcases h.2 with h0 | ⟨g, cap, cur, rfl, h1, h2, h3⟩
    · exact .inl h0
    · have := World.ownsRow.lt h g rfl
      exact .inr ⟨g, cap, cur, rfl, h1, (k.block g this.2 (hS g this.1 this.2)).trans h2, h3⟩⟩
theorem OwnFs.slD {w : World} {base : Nat} {D : Nat → Prop} {v : Value} {fs : List Fld} (h : OwnFs w base v fs) (hf : ∀ f ∈ fs, FitFl f) (hD : ∀ b, base ≤ b → b < w.heap.size → D b) : SlFl D w v fs :=
  Sl.of_own h rfl (fun g hg => by have := World.ownsRow.lt h g hg; exact hD g this.1 this.2) fun i x hx => ⟨fldC x, rfl, fun j u hu => by
    rw [flat_get (size := 4) (fun _ => rfl) fs i j x hx (List.getElem?_eq_some_iff.1 hu).1]; exact hu, rfl, hf x (List.mem_of_getElem? hx)⟩
end Go.Proofs.YtjglmjdfndcmmaaGreat

set_option linter.all false
namespace Go.Proofs.YtjglmjdfndcmmaaGreat
open Go.RowKit
theorem Chg.next {S : Nat → Prop} {w a b : World} (h : Chg S w a) (k : Chg (fun i => S i ∨ w.heap.size ≤ i) a b) : Chg S w b :=
  ⟨k.os.trans h.os, k.tape.trans h.tape, k.output.trans h.output, Nat.le_trans h.size k.size, fun i hi hn => (k.block i (Nat.lt_of_lt_of_le hi h.size) (fun e => by
    rcases e with e | e
    · exact hn e
    · omega)).trans (h.block i hi hn)⟩
theorem OwnS.slD {w : World} {base : Nat} {D : Nat → Prop} {v : Value} {ss : List Bs} (h : OwnS w base v ss) (hf : ∀ s ∈ ss, s.length ≤ maxLen) (hD : ∀ b, base ≤ b → b < w.heap.size → D b) : SlS D w v (ss.map mkS) :=
  Sl.of_own1 h (by simp) (fun g hg => by have := World.ownsRow.lt h g hg; exact hD g this.1 this.2) fun i x hx => by
    rw [List.getElem?_map, Option.map_eq_some_iff] at hx
    obtain ⟨s, hs, rfl⟩ := hx
    exact ⟨encStr s, by rw [List.getElem?_map, hs]; rfl, rfl, hf s (List.mem_of_getElem? hs)⟩
theorem OwnS.isSlice {w : World} {base : Nat} {v : Value} {l : List Bs} (h : OwnS w base v l) : ∃ A c, v = .slice A l.length c := by
  rcases h.2 with ⟨rfl, h0⟩ | ⟨g, cap, cur, rfl, _⟩
  · exact ⟨none, 0, by rw [h0]⟩
  · exact ⟨some ⟨g, 0, none⟩, cap, rfl⟩
theorem OwnS.chg {w w' : World} {base : Nat} {v : Value} {ss : List Bs} {S : Nat → Prop} (h : OwnS w base v ss) (k : Chg S w w') (hS : ∀ b, base ≤ b → b < w.heap.size → ¬ S b) : OwnS w' base v ss :=
  ⟨h.1, by
    rcases h.2 with h0 | ⟨g, cap, cur, rfl, h1, h2, h3⟩
    · exact .inl h0
    · have := World.ownsRow.lt h g rfl
      exact .inr ⟨g, cap, cur, rfl, h1, (k.block g this.2 (hS g this.1 this.2)).trans h2, h3⟩⟩
structure WordsAt (len : Nat) (l : List UInt8) (q : Bool) (cnt i : Nat) (out : List Bs) (l' : List UInt8) (q' : Bool) : Prop where
  up : q' = false → q = false
  count : out.length = i
  fit : ∀ s ∈ out, s.length ≤ maxLen
  whole : ∀ es t, PremB len l q es t → q' = false ∧ cnt = (words es).length ∧ out = (words es).take i ∧ l' = ((words es).drop i).flatMap arText ++ tail1 es t
theorem WordsAt.start {len cnt : Nat} {l l' : List UInt8} {q q' : Bool} (hlen : len ≤ 100) (h : GotN 300 l q cnt l' q') : WordsAt len l q cnt 0 [] l' q' := by
  refine ⟨h.up, rfl, by simp, fun es t hp => ?_⟩
  have h1 := words_len es
  have h2 := hp.len
  obtain ⟨e1, e2, e3⟩ := h.whole _ _ hp.q (by rw [hp.code, block_tail]) (by omega) (by omega)
  exact ⟨e3, e1, by simp, e2⟩
theorem WordsAt.step {len cnt i : Nat} {l l' l2 : List UInt8} {q q2 : Bool} {out : List Bs} {s : ByteArray} (h : WordsAt len l q cnt i out l' false) (hi : i < cnt) (h2 : GotT l' false s l2 q2) (hs : s.size ≤ maxLen) : WordsAt len l q cnt (i + 1) (out ++ [s.data.toList]) l2 q2 := by
  refine ⟨fun _ => h.up rfl, by rw [List.length_append, h.count]; rfl, fun x hx => ?_, fun es t hp => ?_⟩
  · rcases List.mem_append.1 hx with hx | hx
    · exact h.fit x hx
    · rw [List.mem_singleton.1 hx, size_eq]; exact hs
  · obtain ⟨-, e1, e2, e3⟩ := h.whole es t hp
    have hiw : (words es)[i]? = some (words es)[i] := List.getElem?_eq_getElem (by omega)
    rw [flat_drop arText hiw, List.append_assoc] at e3
    obtain ⟨e4, e5, e6⟩ := h2.whole _ _ rfl e3
    exact ⟨e6, e1, by rw [take_next hiw, e2, e4], e5⟩
theorem WordsAt.done {len cnt : Nat} {l l' : List UInt8} {q q' : Bool} {out : List Bs} (h : WordsAt len l q cnt cnt out l' q') : ∀ es t, PremB len l q es t → q' = false ∧ out = words es ∧ l' = tail1 es t := by
  intro es t hp
  obtain ⟨e1, e2, e3, e4⟩ := h.whole es t hp
  rw [List.drop_eq_nil_of_le (by omega)] at e4
  exact ⟨e1, by rw [e3, List.take_of_length_le (by omega)], by simpa using e4⟩
theorem words_pushed {w5 w' : World} {base bw t : Nat} {v v' u : Value} {out : List Bs} {s : ByteArray} (hown' : w'.ownsRow base 9 1 v' (out.length + 1) (out.map encStr ++ [.string s])) (hgr : w5.grownBy w' v.ownBlock) (hown : OwnS w5 base v out) (hW : Blk w5 bw t #[u]) (hbw : bw < base) :
    ∃ A c, v' = .slice A (out ++ [s.data.toList]).length c ∧ OwnS w' base (.slice A (out ++ [s.data.toList]).length c) (out ++ [s.data.toList]) ∧ Blk w' bw t #[u] ∧ Chg (fun i => base ≤ i) w5 w' := by
  have hO : OwnS w' base v' (out ++ [s.data.toList]) := by
    unfold OwnS
    rw [List.length_append, List.map_append]
    have e : [s.data.toList].map encStr = [Value.string s] := by
      show [Value.string (mkS s.data.toList)] = _
      rw [mkS_of]
    rw [e]
    exact hown'
  obtain ⟨A, c, rfl⟩ := hO.isSlice
  exact ⟨A, c, rfl, hO, hW.grown hgr (fun e => by have := (World.ownsRow.lt hown bw e.symm).1; omega), ⟨hgr.os, hgr.tape, hgr.output, hgr.size, fun i hi hn => hgr.block i hi (fun e => hn (World.ownsRow.lt hown i e.symm).1)⟩⟩
theorem drew_blk {w : World} {g t : Nat} {cs : Array Value} (h : Blk w g t cs) : Blk w.drew g t cs := h
theorem drew_own {w : World} {base : Nat} {v : Value} {ss : List Bs} (h : OwnS w base v ss) : OwnS w.drew base v ss := h
theorem ne_one {R n i : Nat} (hR : R < n) (hi : n ≤ i) : ¬ One R i := fun e => by unfold One at e; omega
theorem words_fin {B R t : Nat} {w wo w5 w' : World} {u vb : Value} {out' : List Bs} {l3 : List UInt8} {q3 : Bool} (hB : B ≤ R) (hRl : R < w.heap.size) (hb : Blk wo w.heap.size 84 #[.pointer (some ⟨R, 0, none⟩)]) (hC : Chg (One R) w wo) (hR5 : RdP B w5 R l3 q3)
    (hC5 : Chg (One R) wo.drew w5) (hC6 : Chg (fun i => w.heap.size + 2 ≤ i) w5 w') (hO6 : OwnS w' (w.heap.size + 2) vb out') (hW6 : Blk w' (w.heap.size + 1) t #[u]) :
    RdP B (w'.setCell ⟨w.heap.size + 1, 0, none⟩ vb) R l3 q3 ∧ Blk (w'.setCell ⟨w.heap.size + 1, 0, none⟩ vb) w.heap.size 84 #[.pointer (some ⟨R, 0, none⟩)] ∧ Blk (w'.setCell ⟨w.heap.size + 1, 0, none⟩ vb) (w.heap.size + 1) t #[vb] ∧ OwnS (w'.setCell ⟨w.heap.size + 1, 0, none⟩ vb) (w.heap.size + 2) vb out' ∧ Chg (One R) w (w'.setCell ⟨w.heap.size + 1, 0, none⟩ vb) := by
  have hs5 : w.heap.size ≤ w5.heap.size := Nat.le_trans hC.size (Nat.le_trans (Nat.le_of_eq rfl) hC5.size)
  refine ⟨(hR5.chg hC6 (by have := hR5.lt; omega) (by omega) (fun i hi => by omega)).far hB (p := ⟨w.heap.size + 1, 0, none⟩) ⟨by show w.heap.size + 1 ≠ R; omega, by show B ≤ w.heap.size + 1; omega⟩ _,
    (((drew_blk hb).chg hC5 (ne_one hRl (Nat.le_refl _))).chg hC6 (by omega)).far (p := ⟨w.heap.size + 1, 0, none⟩) (by show w.heap.size ≠ w.heap.size + 1; omega) _, hW6.set_ 0 _,
    OwnS.chg hO6 (Chg.set (S := fun i => i = w.heap.size + 1) Chg.refl (p := ⟨w.heap.size + 1, 0, none⟩) (.inr rfl) vb) (fun b h1 _ => by omega), ?_⟩
  refine Chg.next ((hC.drew).trans hC5) ?_
  exact (hC6.mono fun i _ h => .inr (by omega)).set (p := ⟨w.heap.size + 1, 0, none⟩) (.inr (.inr (by show w.heap.size ≤ w.heap.size + 1; omega))) _
def fill4 (z e : Ev) : Ev := { z with cas := e.cas, act := e.act, res := e.res, life := e.life }
theorem runs4 {s len : Nat} {ev ev1 ev2 ev3 ev4 : Nat → Ev} {l l2 l3 l4 l5 l6 : List UInt8} {q q2 q3 q4 q5 q6 : Bool} {out : List Bs} (hlen : len ≤ 100) (h0 : ∀ es t, PremB len l q es t → q2 = false ∧ out = words es ∧ l2 = tail1 es t)
    (h1 : GotR (fun e n => { e with cas := wordAt (out.map mkS) n }) (fun n => decide ((out.map mkS).length ≤ n)) 300 s len ev l2 q2 ev1 l3 q3) (h2 : GotR (fun e n => { e with act := wordAt (out.map mkS) n }) (fun n => decide ((out.map mkS).length ≤ n)) 300 s len ev1 l3 q3 ev2 l4 q4)
    (h3 : GotR (fun e n => { e with res := wordAt (out.map mkS) n }) (fun n => decide ((out.map mkS).length ≤ n)) 300 s len ev2 l4 q4 ev3 l5 q5) (h4 : GotR (fun e n => { e with life := (n : Int) }) (fun _ => false) 6 s len ev3 l5 q5 ev4 l6 q6) :
    ∀ es t, PremB len l q es t → q6 = false ∧ l6 = tail5 es t ∧ ∀ i e, es[i]? = some e → ev4 (s + i) = fill4 (ev (s + i)) e := by
  intro es t hp
  obtain ⟨rfl, rfl, e2⟩ := h0 es t hp
  obtain ⟨rfl, e3, g1⟩ := h1.whole _ _ (hp.col hlen 0 e2)
  obtain ⟨rfl, e4, g2⟩ := h2.whole _ _ (hp.col hlen 1 e3)
  obtain ⟨rfl, e5, g3⟩ := h3.whole _ _ (hp.col hlen 2 e4)
  obtain ⟨rfl, e6, g4⟩ := h4.whole _ _ (hp.life e5)
  refine ⟨rfl, e6, fun i e he => ?_⟩
  have hm := List.mem_of_getElem? he
  have w0 := atW_at (word_mem3 hm 0)
  have w1 := atW_at (word_mem3 hm 1)
  have w2 := atW_at (word_mem3 hm 2)
  simp only [if_true, if_false, Nat.one_ne_zero, show ¬ (2 : Nat) = 0 by omega, show ¬ (2 : Nat) = 1 by omega] at w0 w1 w2
  have k1 := g1 i (atW (words es) e.cas) (by unfold colV; rw [List.getElem?_map, he]; rfl)
  have k2 := g2 i (atW (words es) e.act) (by unfold colV; rw [List.getElem?_map, he]; rfl)
  have k3 := g3 i (atW (words es) e.res) (by unfold colV; rw [List.getElem?_map, he]; rfl)
  have k4 := g4 i e.life.toNat (by rw [List.getElem?_map, he]; rfl)
  have hl := (hp.ok e hm).life
  rw [k4, k3, k2, k1]
  unfold fill4
  simp only [w0, w1, w2]
  congr 1
  omega
def fill5 (z e : Ev) : Ev := { fill4 z e with time := e.time }
structure TimeAt (s len : Nat) (ev : Nat → Ev) (l : List UInt8) (q : Bool) (j T : Nat) (ev' : Nat → Ev) (l' : List UInt8) (q' : Bool) : Prop where
  up : q' = false → q = false
  data : ∀ i, (ev' i).data = (ev i).data
  out : ∀ i, i < s ∨ s + len ≤ i → ev' i = ev i
  whole : ∀ es t, PremB len l q es t → q' = false ∧ l' = arTimes T (es.drop j) ++ (es.flatMap arData ++ t) ∧ TimeI es j T ∧ (∀ i e, i < j → es[i]? = some e → ev' (s + i) = fill5 (ev (s + i)) e) ∧ (∀ i e, j ≤ i → es[i]? = some e → ev' (s + i) = fill4 (ev (s + i)) e)
theorem TimeAt.step {s len j T n : Nat} {ev ev' : Nat → Ev} {l l' l2 : List UInt8} {q q' q2 : Bool} (h : TimeAt s len ev l q j T ev' l' q') (hj : j < len) (hn : GotN 1099511627776 l' q' n l2 q2) : TimeAt s len ev l q (j + 1) (T + n) (upd ev' (s + j) { ev' (s + j) with time := ((T + n : Nat) : Int) }) l2 q2 := by
  refine ⟨fun h2 => h.up (hn.up h2), fun i => ?_, fun i hi => ?_, fun es t hp => ?_⟩
  · by_cases e : i = s + j
    · subst e; rw [upd_same]; exact h.data _
    · rw [upd_ne e]; exact h.data i
  · rw [upd_ne (by omega)]; exact h.out i hi
  · obtain ⟨e1, e2, e3, e4, e5⟩ := h.whole es t hp
    have hlt : j < es.length := by rw [hp.len]; exact hj
    have he : es[j]? = some es[j] := List.getElem?_eq_getElem hlt
    generalize es[j] = e at he
    have hto := (hp.ok e (List.mem_of_getElem? he)).time
    have hTe : (T : Int) ≤ e.time := by
      rcases Nat.eq_zero_or_pos j with h0 | h0
      · have := e3.first h0; omega
      · have hjj : es[j - 1]? = some es[j - 1] := List.getElem?_eq_getElem (by omega)
        have h1 := e3.last (j - 1) (by omega) _ hjj
        have h2 := List.pairwise_iff_getElem.1 hp.mono (j - 1) j (by omega) hlt (by omega)
        rw [h1]
        have h3 : es[j] = e := by rw [List.getElem?_eq_getElem hlt] at he; injection he
        rw [h3] at h2
        exact h2
    rw [time_step he, List.append_assoc] at e2
    obtain ⟨rfl, e6, e7⟩ := hn.whole _ _ e1 e2 (by omega) (by omega)
    have hT2 : ((T + (e.time - T).toNat : Nat) : Int) = e.time := by omega
    refine ⟨e7, by rw [hT2]; exact e6, ⟨fun h => absurd h (by omega), fun i hi e' he' => ?_⟩, fun i e' hi he' => ?_, fun i e' hi he' => ?_⟩
    · obtain rfl : i = j := by omega
      rw [he] at he'
      injection he' with he'
      rw [← he', hT2]
    · by_cases hij : i = j
      · subst hij
        rw [he] at he'
        injection he' with he'
        subst he'
        rw [upd_same, e5 i e (Nat.le_refl _) he, hT2]
        rfl
      · rw [upd_ne (by omega)]
        exact e4 i e' (by omega) he'
    · rw [upd_ne (by omega)]
      exact e5 i e' (by omega) he'
structure DataAt (s len : Nat) (ev : Nat → Ev) (l : List UInt8) (q : Bool) (j : Nat) (ev' : Nat → Ev) (l' : List UInt8) (q' : Bool) : Prop where
  up : q' = false → q = false
  none : ∀ i, j ≤ i → i < len → (ev' (s + i)).data = []
  out : ∀ i, i < s ∨ s + len ≤ i → ev' i = ev i
  whole : ∀ es t, PremB len l q es t → q' = false ∧ l' = (es.drop j).flatMap arData ++ t ∧ (∀ i e, i < j → es[i]? = some e → ev' (s + i) = e) ∧ (∀ i e, j ≤ i → es[i]? = some e → ev' (s + i) = fill5 (ev (s + i)) e)
structure FldAt (s len : Nat) (ev : Nat → Ev) (l : List UInt8) (q : Bool) (j cnt i : Nat) (fs : List Fld) (l' : List UInt8) (q' : Bool) : Prop where
  up : q' = false → q = false
  count : fs.length = i
  fit : ∀ f ∈ fs, FitFl f
  whole : ∀ es t, PremB len l q es t → ∀ e, es[j]? = some e → q' = false ∧ cnt = e.data.length ∧ fs = e.data.take i ∧ l' = (e.data.drop i).flatMap arFld ++ ((es.drop (j + 1)).flatMap arData ++ t)
theorem TimeAt.done {s len T : Nat} {ev ev' : Nat → Ev} {l l' : List UInt8} {q q' : Bool} (h : TimeAt s len ev l q len T ev' l' q') (hz : ∀ j, s ≤ j → j < s + len → (ev j).data = []) : DataAt s len ev l q 0 ev' l' q' := by
  refine ⟨h.up, fun i _ hi => (h.data _).trans (hz _ (by omega) (by omega)), h.out, fun es t hp => ?_⟩
  obtain ⟨e1, e2, -, e4, -⟩ := h.whole es t hp
  rw [List.drop_eq_nil_of_le (by rw [hp.len]; exact Nat.le_refl _)] at e2
  exact ⟨e1, by simpa [arTimes] using e2, fun i e hi => absurd hi (by omega), fun i e _ he => e4 i e (by have := (List.getElem?_eq_some_iff.1 he).1; rw [hp.len] at this; exact this) he⟩
theorem DataAt.start {s len j cnt : Nat} {ev ev' : Nat → Ev} {l l' l2 : List UInt8} {q q' q2 : Bool} (h : DataAt s len ev l q j ev' l' q') (hn : GotN 8 l' q' cnt l2 q2) : FldAt s len ev l q j cnt 0 [] l2 q2 := by
  refine ⟨fun h2 => h.up (hn.up h2), rfl, by simp, fun es t hp e he => ?_⟩
  obtain ⟨e1, e2, -, -⟩ := h.whole es t hp
  have hok := hp.ok e (List.mem_of_getElem? he)
  rw [flat_drop arData he] at e2
  unfold arData at e2
  obtain ⟨e3, e4, e5⟩ := hn.whole e.data.length (e.data.flatMap arFld ++ ((es.drop (j + 1)).flatMap arData ++ t)) e1 (by rw [e2]; simp only [List.append_assoc]; rfl) hok.len (by have := hok.len; omega)
  exact ⟨e5, e3, by simp, by simpa using e4⟩
theorem FldAt.step {s len j cnt i : Nat} {ev : Nat → Ev} {l l' l2 l3 : List UInt8} {q q2 q3 : Bool} {fs : List Fld} {sx : ByteArray} {vx : Val} (h : FldAt s len ev l q j cnt i fs l' false) (hi : i < cnt) (h2 : GotT l' false sx l2 q2) (h3 : GotV l2 q2 vx l3 q3) (hs : sx.size ≤ maxLen) : FldAt s len ev l q j cnt (i + 1) (fs ++ [⟨sx, vx⟩]) l3 q3 := by
  refine ⟨fun _ => h.up rfl, by rw [List.length_append, h.count]; rfl, fun f hf => ?_, fun es t hp e he => ?_⟩
  · rcases List.mem_append.1 hf with hf | hf
    · exact h.fit f hf
    · rw [List.mem_singleton.1 hf]; exact ⟨hs, h3.fit⟩
  · obtain ⟨-, e1, e2, e3⟩ := h.whole es t hp e he
    have hif : e.data[i]? = some e.data[i] := List.getElem?_eq_getElem (by omega)
    generalize e.data[i]'(by omega) = f at hif
    obtain ⟨-, hfv⟩ := fld_parts (flds_mem (hp.ok e (List.mem_of_getElem? he)).flds f (List.mem_of_getElem? hif))
    rw [flat_drop arFld hif] at e3
    unfold arFld at e3
    obtain ⟨e4, e5, e6⟩ := h2.whole f.nm.data.toList (arVal f.v ++ ((e.data.drop (i + 1)).flatMap arFld ++ ((es.drop (j + 1)).flatMap arData ++ t))) rfl (by rw [e3]; simp only [List.append_assoc]; rfl)
    obtain ⟨e7, e8, e9⟩ := h3.whole f.v _ e6 hfv e5
    refine ⟨e9, e1, ?_, e8⟩
    rw [take_next hif, e2]
    congr 2
    cases f with
    | mk a b =>
      simp only at e4 e7
      subst e7
      congr
      cases sx; cases a
      simp only at e4
      congr
      exact Array.ext' e4
theorem FldAt.done {s len j cnt : Nat} {ev ev' : Nat → Ev} {l l' l0 : List UInt8} {q q' q0 : Bool} {fs : List Fld} (h : FldAt s len ev l q j cnt cnt fs l' q') (h0 : DataAt s len ev l q j ev' l0 q0) (hj : j < len) (hz : ∀ i, s ≤ i → i < s + len → (ev i).data = []) : DataAt s len ev l q (j + 1) (upd ev' (s + j) { ev' (s + j) with data := fs }) l' q' := by
  refine ⟨h.up, fun i h1 h2 => by rw [upd_ne (by omega)]; exact h0.none i (by omega) h2, fun i hi => by rw [upd_ne (by omega)]; exact h0.out i hi, fun es t hp => ?_⟩
  have hlt : j < es.length := by rw [hp.len]; exact hj
  have he : es[j]? = some es[j] := List.getElem?_eq_getElem hlt
  generalize es[j] = e at he
  obtain ⟨e1, e2, e3, e4⟩ := h.whole es t hp e he
  obtain ⟨-, -, e5, e6⟩ := h0.whole es t hp
  refine ⟨e1, ?_, fun i e' hi he' => ?_, fun i e' hi he' => ?_⟩
  · rw [e4, List.drop_eq_nil_of_le (by omega)]; rfl
  · by_cases hij : i = j
    · subst hij
      rw [he] at he'
      injection he' with he'
      subst he'
      rw [upd_same, e6 i e (Nat.le_refl _) he, e3, List.take_of_length_le (by omega)]
      rfl
    · rw [upd_ne (by omega)]; exact e5 i e' (by omega) he'
  · rw [upd_ne (by omega)]; exact e6 i e' (by omega) he'
theorem flds_pushed {w5 w' : World} {base : Nat} {v v' : Value} {fs : List Fld} {f : Fld} (hown' : w'.ownsRow base 64 4 v' (fs.length + 1) (flat fldC fs ++ fldC f)) (hgr : w5.grownBy w' v.ownBlock) (hown : OwnFs w5 base v fs) :
    ∃ A c, v' = .slice A (fs ++ [f]).length c ∧ OwnFs w' base (.slice A (fs ++ [f]).length c) (fs ++ [f]) ∧ Chg (fun i => base ≤ i) w5 w' := by
  have hO : OwnFs w' base v' (fs ++ [f]) := by
    unfold OwnFs OwnW
    rw [flat_append, List.length_append]
    simpa [flat] using hown'
  obtain ⟨A, c, rfl⟩ := hO.isSlice
  exact ⟨A, c, rfl, hO, ⟨hgr.os, hgr.tape, hgr.output, hgr.size, fun i hi hn => hgr.block i hi (fun e => hn (World.ownsRow.lt hown i e.symm).1)⟩⟩
theorem drew_x {w : World} {g N j : Nat} {ev : Nat → Ev} {D : Nat → Prop} {dv : Value} (h : EvX w g N ev D j dv) : EvX w.drew g N ev D j dv := h
theorem drew_fs {w : World} {base : Nat} {v : Value} {fs : List Fld} (h : OwnFs w base v fs) : OwnFs w.drew base v fs := h
theorem rdDat_agg (B R : Nat) (l : List UInt8) (q : Bool) (w : World) (h : RdP B w R l q) (hB : B ≤ R) :
    Calls Tryz.prog 65 #[.pointer (some ⟨R, 0, none⟩)] w fun e w' => ∃ v l' q', e = .returned (.agg #[.int .i64 v.kind, .int .i64 v.n, .string v.s]) ∧ RdP B w' R l' q' ∧ GotV l q v l' q' ∧ Chg (One R) w w' := rdDat_any B R l q w h hB
theorem EvX.at5' {w : World} {g N j p : Nat} {ev : Nat → Ev} {D : Nat → Prop} {dv : Value} (h : EvX w g N ev D j dv) (hj : j < N) (hp : j * 6 = p) : w.cell? ⟨g, p + 5, none⟩ = some dv := by subst hp; exact h.at5 hj
theorem dn_one {L g R : Nat} {w : World} (hs : L ≤ w.heap.size) : ∀ b, Dn L g R b → b < w.heap.size ∧ ¬ One R b := fun b hb => ⟨Nat.lt_of_lt_of_le hb.1 hs, Dn.ner hb⟩
theorem dn_no {L g R : Nat} {w : World} (hs : L ≤ w.heap.size) : ∀ b, Dn L g R b → b < w.heap.size ∧ ¬ False := fun b hb => ⟨Nat.lt_of_lt_of_le hb.1 hs, id⟩
theorem dn_ge {L g R : Nat} {w : World} (hs : L ≤ w.heap.size) : ∀ b, Dn L g R b → b < w.heap.size ∧ ¬ L ≤ b := fun b hb => ⟨Nat.lt_of_lt_of_le hb.1 hs, Nat.not_le.2 hb.1⟩
theorem flds_fin {B R g N L j n p : Nat} {w w17 w5 w6 w' : World} {ev : Nat → Ev} {fs fs' : List Fld} {dv vb : Value} {l3 : List UInt8} {q3 : Bool} (hB : B ≤ R) (hBg : B ≤ g) (hgR : g ≠ R) (hRl : R < w.heap.size) (hgl : g < w.heap.size) (hL : w.heap.size < L) (hL17 : L ≤ w17.heap.size) (hj : j < N) (hp : j * 6 = p) (hn : fs'.length = n)
    (hRB : Blk w17 w.heap.size 84 #[.pointer (some ⟨R, 0, none⟩)]) (hC : Chg (Two R g) w w17) (hC5 : Chg (One R) w17.drew w5) (hC6 : Chg (One R) w5 w6) (hR6 : RdP B w6 R l3 q3) (hX6 : EvX w6 g N (upd ev j { ev j with data := fs }) (Dn L g R) j dv) (hC7 : Chg (fun i => L ≤ i) w6 w')
    (hO7 : OwnFs w' L vb fs') :
    RdP B (w'.setCell ⟨g, p + 5, none⟩ vb) R l3 q3 ∧ EvX (w'.setCell ⟨g, p + 5, none⟩ vb) g N (upd ev j { ev j with data := fs' }) (Dn L g R) j vb ∧ OwnFs (w'.setCell ⟨g, p + 5, none⟩ vb) L vb fs' ∧ L ≤ (w'.setCell ⟨g, p + 5, none⟩ vb).heap.size ∧ Chg (Two R g) w (w'.setCell ⟨g, p + 5, none⟩ vb) ∧ Blk (w'.setCell ⟨g, p + 5, none⟩ vb) w.heap.size 84 #[.pointer (some ⟨R, 0, none⟩)] := by
  subst hp
  have hC56 : Chg (One R) w17 w6 := (Chg.refl.drew).trans (hC5.trans hC6)
  have h6 : L ≤ w6.heap.size := Nat.le_trans hL17 hC56.size
  have hX7 := (hX6.chg hC7 (by omega) (dn_ge h6)).set5 hj (fun h => h.2.1 rfl) vb fs'
  refine ⟨(hR6.chg hC7 (by have := hR6.lt; omega) (by omega) (fun i hi => by omega)).far hB (p := ⟨g, j * 6 + 5, none⟩) ⟨hgR, hBg⟩ vb, hX7.ext fun i => ?_, ownW_chg hO7 (Chg.set (S := fun i => i = g) Chg.refl (p := ⟨g, j * 6 + 5, none⟩) (.inr rfl) vb) (fun b h1 _ => by omega), ?_, ?_, ?_⟩
  · by_cases e : i = j
    · subst e
      rw [upd_same, upd_same, upd_same]
    · rw [upd_ne e, upd_ne e, upd_ne e]
  · rw [World.size_setCell]; exact Nat.le_trans h6 hC7.size
  · refine (Chg.next (hC.trans (hC56.two (g := g))) ?_).set (p := ⟨g, j * 6 + 5, none⟩) (.inr (.inr rfl)) vb
    exact hC7.mono fun i _ h => .inr (by omega)
  · exact (((hRB.chg hC56 (ne_one hRl (Nat.le_refl _))).chg hC7 (by omega))).far (p := ⟨g, j * 6 + 5, none⟩) (by show w.heap.size ≠ g; omega) vb
def RetBlk (B R g N s len : Nat) (ev : Nat → Ev) (l : List UInt8) (q : Bool) (w : World) (e : Ending) (w' : World) : Prop := e = .returned (.tuple #[]) ∧ ∃ ev' l' q', RdP B w' R l' q' ∧ EvF w' g N ev' (Dn w'.heap.size g R) ∧ Chg (Two R g) w w' ∧ GotB s len ev l q ev' l' q'
-- WALK
set_option maxHeartbeats 4000000 in
set_option maxRecDepth 100000 in
theorem rdBlk_any (B R g N L s len o c : Nat) (ev : Nat → Ev) (l : List UInt8) (q : Bool) (w : World) (h : RdP B w R l q) (hE : EvF w g N ev (Dn L g R)) (hB : B ≤ R) (hBg : B ≤ g) (hgR : g ≠ R) (hL : L ≤ w.heap.size) (hs : s + len ≤ N) (ho : o = s * 6) (hc : len ≤ c)
    (hlen : len ≤ 100) (hz : ∀ j, s ≤ j → j < s + len → (ev j).data = []) :
    Calls Tryz.prog 42 #[.pointer (some ⟨R, 0, none⟩), .slice (some ⟨g, o, none⟩) len c] w (RetBlk B R g N s len ev l q w) := by
  have hRl := h.lt
  have hgl := hE.lt
  have hb1 := bbox (bone w (.cells #[.pointer (some ⟨R, 0, none⟩)] 84)) (.cells #[.slice none 0 0] 42)
  have hr1 := (Blk.new w 84 #[.pointer (some ⟨R, 0, none⟩)]).alloc (.cells #[.slice none 0 0] 42)
  have hw1 := Blk.new (w.alloc (.cells #[.pointer (some ⟨R, 0, none⟩)] 84)) 42 #[.slice none 0 0]
  rw [World.size_alloc] at hw1
  have c0 := hr1.c1
  have HN := Lib.hid (rdNum_z B R 300 300 rfl l q _ (h.now hB hb1) hB (by omega))
  have HE := Lib.hid hE
  have HO := Lib.hid ho
  have HSN := Lib.hid hs
  have HLS := Lib.hid hL
  have HGR := Lib.hid hgR
  have HZ := Lib.hid hz
  have HB1 := Lib.hid hb1
  have HR1 := Lib.hid hr1
  have HW1 := Lib.hid hw1
  clear h hE ho hs hL hgR hz hb1 hr1 hw1
  go_enter Tryz.func42, Tryz.ntmps42
  go_wp2_with fail
  (with_reducible refine HN.out.mono ?_)
  rintro _ w2 ⟨cnt, l1, q1, rfl, hR2, hG2, hC2⟩
  have hoR : ∀ i, w.heap.size ≤ i → ¬ One R i := fun i hi e => by unfold One at e; omega
  have HR2 := Lib.hid hR2
  have HC2 := Lib.hid ((Chg.of_below HB1.out).trans hC2 : Chg (One R) w w2)
  have HRB := Lib.hid (HR1.out.chg hC2 (hoR _ (Nat.le_refl _)))
  have HWB := Lib.hid (HW1.out.chg hC2 (hoR _ (Nat.le_succ _)))
  have HWA := Lib.hid (WordsAt.start hlen hG2)
  have hcl := hG2.le
  clear hR2 hG2 hC2 HN c0
  go_wp2_with fail
  go_loopw [11] (fun iv wr => ∃ (i : Nat) (out : List Bs) (v : Value) (l' : List UInt8) (q' : Bool), iv = .int .i64 (i : Int) ∧ i ≤ cnt ∧ Hid (RdP B wr R l' q') ∧ Hid (Blk wr w.heap.size 84 #[.pointer (some ⟨R, 0, none⟩)]) ∧ Hid (Blk wr (w.heap.size + 1) 42 #[v]) ∧ Hid (OwnS wr (w.heap.size + 2) v out) ∧ Hid (Chg (One R) w wr) ∧ Hid (WordsAt len l q cnt i out l' q')) (fun iv _ => cnt - (intOf iv).toNat)
  case atStart => exact ⟨0, [], .slice none 0 0, l1, q1, rfl, Nat.zero_le _, HR2, HRB, HWB, Lib.hid (World.ownsRow_nil _ _ _ _), HC2, HWA⟩
  case round =>
    obtain ⟨i, out, v, l2, q2, rfl, hi, HR, HRb, HWb, HO2, HC, HA⟩ := hrel
    obtain ⟨wo, rfl⟩ : ∃ wo, wo = wr := ⟨wr, rfl⟩
    obtain ⟨b0, o0, k0, hK, _, _, _⟩ := HR.out
    obtain ⟨d0, d1⟩ := hK.c2
    have a0 := HRb.out.c1
    clear hK
    by_cases hlt : i < cnt
    · cases q2
      · obtain ⟨Av, cv, rfl⟩ := HO2.out.isSlice
        have a1 := HWb.out.c1
        have HTX := Lib.hid (rdText_any B R l2 false wo.drew (HR.out.chg (S := fun _ => False) (Chg.refl.drew) (by have := HR.out.lt; omega) id (fun _ _ => id)) hB)
        have hol : out.length < 10000000 := by have := HA.out.count; omega
        have HMX : Hid (l2.length ≤ maxLen) := Lib.hid (by obtain ⟨_, _, _, _, h2, h3, _⟩ := HR.out; unfold maxLen; omega)
        go_upto_region 5 with fail
        go_region_law (first | (refine step_push appStrs rfl (.tmp 17) (.tmp 20) rfl _ [.string sx] rfl (by simp [Value.oneCell']) _ out.length (out.map encStr) rfl hown5 rfl hol hsz5 ?_; intro v' w' hown' hgr hat; obtain ⟨A6, c6, rfl, hO6, hW6, hC6⟩ := words_pushed hown' hgr hown5 hW5 (Nat.lt_succ_self _); have f6 := hW6.frozen 0; have a6 := hW6.c1) | (go_simp; go_at_call 58; (with_reducible refine HTX.out.mono ?_); rintro _ w5 ⟨sx, l3, q3, rfl, hR5, hG5, hC5⟩; have hW5 := (drew_blk HWb.out).chg hC5 (ne_one hRl (Nat.le_succ _)); have a5 := hW5.c1; have b5 := fun o => (hW5.alloc o).c1; have hown5 := (drew_own HO2.out).chg hC5 (fun b h1 _ => ne_one hRl (Nat.le_trans (Nat.le_add_right _ 2) h1)); have hsz5 := Nat.lt_of_lt_of_le hW5.lt (Nat.le_refl _)))
        all_goals
          have hfin := words_fin hB hRl HRb.out HC.out hR5 hC5 hC6 hO6 hW6
          rw [show (out ++ [sx.data.toList]).length = out.length + 1 by simp] at hfin
          have HF := Lib.hid hfin
          have HG := Lib.hid (HA.out.step hlt hG5 (Nat.le_trans hG5.size HMX.out))
          clear hfin
          go_wp2_with fail
          go_roundw
          case rel => exact ⟨i + 1, out ++ [sx.data.toList], _, l3, q3, by go_num, by omega, Lib.hid HF.out.1, Lib.hid HF.out.2.1, Lib.hid HF.out.2.2.1, Lib.hid HF.out.2.2.2.1, Lib.hid HF.out.2.2.2.2, HG⟩
          case measure => simp [intOf]; omega
      · have HF : Hid (EvF wo g N ev (Dn wo.heap.size g R) ∧ GotB s len ev l q ev l2 true) := Lib.hid ⟨HE.out.chg HC.out (fun e => HGR.out e) (fun b hb => ⟨Nat.lt_of_lt_of_le hb.1 HLS.out, Dn.ner hb⟩) (fun b hb => ⟨Nat.lt_of_lt_of_le hb.1 (Nat.le_trans HLS.out HC.out.size), hb.2⟩),
          fun h => (by cases h), fun _ _ => rfl, fun es t hp => by have := (HA.out.whole es t hp).1; cases this⟩
        go_wp2_with fail
        refine bodyPost_ret (v := .tuple #[]) (by simp [results, Tryz.results42]) rfl ?_
        exact ⟨rfl, ev, l2, true, HR.out, HF.out.1, HC.out.two, HF.out.2⟩
    · obtain rfl : i = cnt := by omega
      obtain ⟨Av, cv, rfl⟩ := HO2.out.isSlice
      have HDN := Lib.hid HA.out.done
      have hup := HA.out.up
      have HUP := Lib.hid hup
      have hb8 := bone wo (.cells #[.func (.func 59) #[] #[.pointer (some ⟨w.heap.size + 1, 0, none⟩), .pointer (some ⟨w.heap.size, 0, none⟩)]] 102)
      have hF8 := Blk.new wo 102 #[.func (.func 59) #[] #[.pointer (some ⟨w.heap.size + 1, 0, none⟩), .pointer (some ⟨w.heap.size, 0, none⟩)]]
      have hsw := HWb.out.lt
      have hO8 : OwnS (wo.alloc (.cells #[.func (.func 59) #[] #[.pointer (some ⟨w.heap.size + 1, 0, none⟩), .pointer (some ⟨w.heap.size, 0, none⟩)]] 102)) (w.heap.size + 2) (.slice Av out.length cv) out := own_now HO2.out hb8
      have hI8 : WordsI (w.heap.size + 1) w.heap.size wo.heap.size R g (wo.alloc (.cells #[.func (.func 59) #[] #[.pointer (some ⟨w.heap.size + 1, 0, none⟩), .pointer (some ⟨w.heap.size, 0, none⟩)]] 102)).heap.size Av cv (out.map mkS) (wo.alloc (.cells #[.func (.func 59) #[] #[.pointer (some ⟨w.heap.size + 1, 0, none⟩), .pointer (some ⟨w.heap.size, 0, none⟩)]] 102)) := by
        refine ⟨?_, ?_, HRb.out.now hb8, hF8, Nat.le_refl _, by omega, by omega, by omega, by omega, by omega, by omega⟩
        · rw [List.length_map]; exact HWb.out.now hb8
        · rw [List.length_map]; exact hO8.slD HA.out.fit (fun b h1 h2 => ⟨h2, by omega, by omega⟩)
      have HR8 := Lib.hid (HR.out.now hB hb8)
      have HC8 : Hid (Chg (Two R g) w _) := Lib.hid ((HC.out.two (g := g)).trans (Chg.of_below hb8))
      have HE8 := Lib.hid (HE.out.chg (HC.out.trans (Chg.of_below hb8)) (fun e => HGR.out e) (fun b hb => ⟨Nat.lt_of_lt_of_le hb.1 HLS.out, Dn.ner hb⟩) (fun _ => id))
      have hws : ∀ x ∈ out.map mkS, x.size ≤ maxLen := fun x hx => by
        obtain ⟨y, hy, rfl⟩ := List.mem_map.1 hx
        exact HA.out.fit y hy
      have HI8 := Lib.hid hI8
      have HWS := Lib.hid hws
      have c8 := hI8.r.c1
      obtain ⟨w8, hw8⟩ : ∃ w8, wo.alloc (.cells #[.func (.func 59) #[] #[.pointer (some ⟨w.heap.size + 1, 0, none⟩), .pointer (some ⟨w.heap.size, 0, none⟩)]] 102) = w8 := ⟨_, rfl⟩
      have HW8 := Lib.hid hw8
      rw [hw8] at HI8 HR8 HC8 HE8 c8
      have HX := Lib.hid (rdRuns_any 61 #[.pointer (some ⟨wo.heap.size, 0, none⟩)] _ _ _ B R g N L s len o c 300 300 ev l2 q2 w8 (puts1 _ _ wo.heap.size R g _ cv Av (out.map mkS) HWS.out) HR8.out HE8.out HI8.out hB hBg HGR.out (Nat.le_trans HLS.out HC8.out.size) HSN.out HO.out hc (by omega) rfl (by omega) (fun _ _ => rfl))
      clear hb8 hF8 hO8 hI8 hws hup HO2 a0 HE HB1 HR1 HW1 HR2 HC2 HRB HWB HWA HRb HWb HR HC hoR d0 d1 hcl hsw
      go_upto_region 8 with fail
      go_wp2_with fail
      (with_reducible refine HX.out.mono ?_)
      rintro _ w9 ⟨rfl, ev1, l3, q3, hR9, hE9, hC9, hI9, hG9⟩
      have HI9 := Lib.hid hI9
      have HR9 := Lib.hid hR9
      have HE9 := Lib.hid hE9
      have HG9 := Lib.hid hG9
      have HC9 := Lib.hid (HC8.out.trans hC9)
      have c9 := hI9.r.c1
      clear hI9 hR9 hE9 hG9 hC9 HX
      have HX := Lib.hid (rdRuns_any 62 #[.pointer (some ⟨wo.heap.size, 0, none⟩)] _ _ _ B R g N L s len o c 300 300 ev1 l3 q3 w9 (puts2 _ _ wo.heap.size R g _ cv Av (out.map mkS) HWS.out) HR9.out HE9.out HI9.out hB hBg HGR.out (Nat.le_trans HLS.out HC9.out.size) HSN.out HO.out hc (by omega) rfl (by omega) (fun _ _ => rfl))
      go_wp2_with fail
      (with_reducible refine HX.out.mono ?_)
      rintro _ w10 ⟨rfl, ev2, l4, q4, hR10, hE10, hC10, hI10, hG10⟩
      have HI10 := Lib.hid hI10
      have HR10 := Lib.hid hR10
      have HE10 := Lib.hid hE10
      have HG10 := Lib.hid hG10
      have HC10 := Lib.hid (HC9.out.trans hC10)
      have c10 := hI10.r.c1
      clear hI10 hR10 hE10 hG10 hC10 HX
      have HX := Lib.hid (rdRuns_any 63 #[.pointer (some ⟨wo.heap.size, 0, none⟩)] _ _ _ B R g N L s len o c 300 300 ev2 l4 q4 w10 (puts3 _ _ wo.heap.size R g _ cv Av (out.map mkS) HWS.out) HR10.out HE10.out HI10.out hB hBg HGR.out (Nat.le_trans HLS.out HC10.out.size) HSN.out HO.out hc (by omega) rfl (by omega) (fun _ _ => rfl))
      go_wp2_with fail
      (with_reducible refine HX.out.mono ?_)
      rintro _ w11 ⟨rfl, ev3, l5, q5, hR11, hE11, hC11, hI11, hG11⟩
      have HI11 := Lib.hid hI11
      have HR11 := Lib.hid hR11
      have HE11 := Lib.hid hE11
      have HG11 := Lib.hid hG11
      have HC11 := Lib.hid (HC10.out.trans hC11)
      have c11 := hI11.r.c1
      clear hI11 hR11 hE11 hG11 hC11 HX
      have HX := Lib.hid (rdRuns_any 64 #[] _ _ _ B R g N L s len o c 6 6 ev3 l5 q5 w11 (puts4 R g) HR11.out HE11.out trivial hB hBg HGR.out (Nat.le_trans HLS.out HC11.out.size) HSN.out HO.out hc (by omega) rfl (by omega) (fun _ _ => rfl))
      go_wp2_with fail
      (with_reducible refine HX.out.mono ?_)
      rintro _ w12 ⟨rfl, ev4, l6, q6, hR12, hE12, hC12, -, hG12⟩
      have HRB12 := Lib.hid ((HI11.out.chg hC12).r)
      have HR12 := Lib.hid hR12
      have HE12 := Lib.hid hE12
      have HC12 := Lib.hid (HC11.out.trans hC12)
      have HW4 := Lib.hid (runs4 hlen HDN.out HG9.out HG10.out HG11.out hG12)
      have HU4 : Hid (q6 = false → q = false) := Lib.hid fun h => HUP.out (HG9.out.up (HG10.out.up (HG11.out.up (hG12.up h))))
      have HDT4 : Hid (∀ j, (ev4 j).data = (ev j).data) := Lib.hid fun j => (hG12.data j).trans ((HG11.out.data j).trans ((HG10.out.data j).trans (HG9.out.data j)))
      have HOUT4 : Hid (∀ j, j < s ∨ s + len ≤ j → ev4 j = ev j) := Lib.hid fun j hj => (hG12.out j hj).trans ((HG11.out.out j hj).trans ((HG10.out.out j hj).trans (HG9.out.out j hj)))
      clear hR12 hE12 hC12 hG12 HX HI8 HI9 HI10 HI11 HR8 HR9 HR10 HR11 HE8 HE9 HE10 HE11 HG9 HG10 HG11 HW8 HWS HDN HUP HA c8 c9 c10 c11 HC8 HC9 HC10 HC11
      have HTA : Hid (TimeAt s len ev l q 0 0 ev4 l6 q6) := Lib.hid ⟨HU4.out, HDT4.out, HOUT4.out, fun es t hp => by
        obtain ⟨e1, e2, e3⟩ := HW4.out es t hp
        exact ⟨e1, e2, ⟨fun _ => rfl, fun j hj => absurd hj (by omega)⟩, fun i e hi => absurd hi (by omega), fun i e _ he => e3 i e he⟩⟩
      clear HW4 HU4 HDT4 HOUT4
      go_wp2_with fail
      go_loopw [6, 7, 41] (fun lv iv xv wr => ∃ (j T : Nat) (ev' : Nat → Ev) (l' : List UInt8) (q' : Bool), xv = .int .i64 (j : Int) ∧ lv = .int .i64 (T : Int) ∧ j ≤ len ∧ T ≤ j * 1099511627776 ∧ Hid (RdP B wr R l' q') ∧ Hid (EvF wr g N ev' (Dn L g R)) ∧ Hid (Chg (Two R g) w wr) ∧ Hid (Blk wr w.heap.size 84 #[.pointer (some ⟨R, 0, none⟩)]) ∧ Hid (TimeAt s len ev l q j T ev' l' q')) (fun _ _ xv _ => len - (intOf xv).toNat)
      case atStart => exact ⟨0, 0, ev4, l6, q6, rfl, rfl, Nat.zero_le _, Nat.zero_le _, HR12, HE12, HC12, HRB12, HTA⟩
      case round =>
        obtain ⟨j, T, ev5, l7, q7, rfl, rfl, hj, hT, HR, HE, HC, HRb, HA⟩ := hrel
        obtain ⟨w13, rfl⟩ : ∃ w13, w13 = wr := ⟨wr, rfl⟩
        have a0 := HRb.out.c1
        by_cases hlt : j < len
        · have HN := Lib.hid (rdNum_z B R 1099511627776 1099511627776 rfl l7 q7 w13 HR.out hB (by omega))
          go_wp2_with fail
          (with_reducible refine HN.out.mono ?_)
          rintro _ w14 ⟨n, l8, q8, rfl, hR14, hG14, hC14⟩
          have hnl := hG14.le
          have hE14 := HE.out.chg hC14 (fun e => HGR.out e) (fun b hb => ⟨Nat.lt_of_lt_of_le hb.1 (Nat.le_trans HLS.out HC.out.size), Dn.ner hb⟩) (fun _ => id)
          have hjN : s + j < N := by have := HSN.out; omega
          have hpos : (s + j) * 6 = o + j * 6 := by rw [HO.out]; omega
          have hE15 := hE14.put (k := 4) (u := .int .i64 ((T + n : Nat) : Int)) (e' := { ev5 (s + j) with time := ((T + n : Nat) : Int) }) hjN (by omega) (fun h => h.2.1 rfl) (fun _ => rfl) rfl (fun h => ⟨h.cas, h.act, h.res, h.life, fitI (by show _ ≤ ((T + n : Nat) : Int) ∧ ((T + n : Nat) : Int) ≤ _; omega)⟩)
          obtain ⟨dv, _, _, f0, f1, f2, f3, f4, f5⟩ := hE14.at_ hjN
          have fz := hE14.frozen ((s + j) * 6 + 4)
          rw [hpos] at f4 fz hE15
          have hR15 := hR14.far hB (p := ⟨g, o + j * 6 + 4, none⟩) ⟨HGR.out, hBg⟩ (.int .i64 ((T + n : Nat) : Int))
          have hC15 := (HC.out.trans (hC14.two (g := g))).set (p := ⟨g, o + j * 6 + 4, none⟩) (.inr (.inr rfl)) (.int .i64 ((T + n : Nat) : Int))
          have hB15 := (HRb.out.chg hC14 (ne_one hRl (Nat.le_refl _))).far (p := ⟨g, o + j * 6 + 4, none⟩) (by show w.heap.size ≠ g; omega) (.int .i64 ((T + n : Nat) : Int))
          rw [Int.natCast_add] at hE15 hR15 hC15 hB15
          have HF := Lib.hid (And.intro hR15 (And.intro hE15 (And.intro hC15 hB15)))
          have hst := HA.out.step hlt hG14
          rw [Int.natCast_add] at hst
          have HST := Lib.hid hst
          clear hR14 hG14 hC14 hE14 hE15 hR15 hC15 hB15 hst f0 f1 f2 f3 f5
          go_wp2_with fail
          go_roundw
          case rel => exact ⟨j + 1, T + n, _, l8, q8, by go_num, by go_num, by omega, by omega, Lib.hid HF.out.1, Lib.hid HF.out.2.1, Lib.hid HF.out.2.2.1, Lib.hid HF.out.2.2.2, HST⟩
          case measure => simp [intOf]; omega
        · obtain rfl : len = j := by omega
          have HDA := Lib.hid (HA.out.done HZ.out)
          have HE13 := Lib.hid (HE.out.chg (Chg.refl (S := fun _ => False)) id (fun b hb => ⟨Nat.lt_of_lt_of_le hb.1 (Nat.le_trans HLS.out HC.out.size), id⟩) (D' := Dn w13.heap.size g R) (fun b hb => ⟨Nat.lt_of_lt_of_le hb.1 (Nat.le_trans HLS.out HC.out.size), hb.2⟩))
          clear HA HE hT
          go_wp2_with fail
          go_loopw [8, 56] (fun iv xv wr => ∃ (j : Nat) (ev' : Nat → Ev) (l' : List UInt8) (q' : Bool), xv = .int .i64 (j : Int) ∧ j ≤ len ∧ Hid (RdP B wr R l' q') ∧ Hid (EvF wr g N ev' (Dn wr.heap.size g R)) ∧ Hid (Chg (Two R g) w wr) ∧ Hid (Blk wr w.heap.size 84 #[.pointer (some ⟨R, 0, none⟩)]) ∧ Hid (DataAt s len ev l q j ev' l' q')) (fun _ xv _ => len - (intOf xv).toNat)
          case atStart => exact ⟨0, ev5, l7, q7, rfl, Nat.zero_le _, HR, HE13, HC, HRb, HDA⟩
          case round =>
            obtain ⟨j, ev6, l8, q8, rfl, hj, HR, HE, HC, HRb, HA⟩ := hrel
            obtain ⟨w15, rfl⟩ : ∃ w15, w15 = wr := ⟨wr, rfl⟩
            have a0 := HRb.out.c1
            by_cases hlt : j < len
            · have HN := Lib.hid (rdNum_z B R 8 8 rfl l8 q8 w15 HR.out hB (by omega))
              have hjN : s + j < N := by have := HSN.out; omega
              have hpos : (s + j) * 6 = o + j * 6 := by rw [HO.out]; omega
              have hsz15 := HC.out.size
              have hwL := HRb.out.lt
              go_wp2_with fail
              (with_reducible refine HN.out.mono ?_)
              rintro _ w16 ⟨cnt2, l9, q9, rfl, hR16, hG16, hC16⟩
              have hcl2 := hG16.le
              have HR16 := Lib.hid hR16
              have HX16 := Lib.hid (((HE.out.open_ hjN (HA.out.none j (Nat.le_refl _) hlt)).chg hC16 (fun e => HGR.out e) (fun b hb => ⟨hb.1, Dn.ner hb⟩)).ext (ev' := upd ev6 (s + j) { ev6 (s + j) with data := [] }) (fun i => by
                by_cases e : i = s + j
                · subst e
                  rw [upd_same]
                  have := HA.out.none j (Nat.le_refl _) hlt
                  generalize ev6 (s + j) = x at this
                  cases x
                  simp only at this
                  rw [this]
                · rw [upd_ne e]))
              have HC16 := Lib.hid (HC.out.trans (hC16.two (g := g)))
              have HRB16 := Lib.hid (HRb.out.chg hC16 (ne_one hRl (Nat.le_refl _)))
              have HFA := Lib.hid (HA.out.start hG16)
              have hsz16 := hC16.size
              clear hR16 hG16 hC16 HN
              go_wp2_with fail
              go_loopw [61] (fun xv wr => ∃ (i : Nat) (fs : List Fld) (dv : Value) (l' : List UInt8) (q' : Bool), xv = .int .i64 (i : Int) ∧ i ≤ cnt2 ∧ Hid (RdP B wr R l' q') ∧ Hid (EvX wr g N (upd ev6 (s + j) { ev6 (s + j) with data := fs }) (Dn w15.heap.size g R) (s + j) dv) ∧ Hid (OwnFs wr w15.heap.size dv fs) ∧ Hid (fs = [] → dv = .slice none 0 0) ∧ w15.heap.size ≤ wr.heap.size ∧ Hid (Chg (Two R g) w wr) ∧ Hid (Blk wr w.heap.size 84 #[.pointer (some ⟨R, 0, none⟩)]) ∧ Hid (FldAt s len ev l q j cnt2 i fs l' q')) (fun xv _ => cnt2 - (intOf xv).toNat)
              case atStart => exact ⟨0, [], .slice none 0 0, l9, q9, rfl, Nat.zero_le _, HR16, HX16, Lib.hid OwnW.nil, Lib.hid (fun _ => rfl), hsz16, HC16, HRB16, HFA⟩
              case round =>
                obtain ⟨i, fs, dv, l10, q10, rfl, hi, HRr, HXr, HOr, HNr, hszr, HCr, HRBr, HFr⟩ := hrel
                obtain ⟨w17, rfl⟩ : ∃ w17, w17 = wr := ⟨wr, rfl⟩
                obtain ⟨b0, o0, k0, hK, _, _, _⟩ := HRr.out
                obtain ⟨d0, d1⟩ := hK.c2
                have a1 := HRBr.out.c1
                have HSH : Hid (EvF w17 g N (upd ev6 (s + j) { ev6 (s + j) with data := fs }) (Dn w17.heap.size g R)) := Lib.hid (HXr.out.shut (by rw [upd_same]; exact HOr.out.slD HFr.out.fit (fun b h1 h2 => ⟨h2, by omega, by omega⟩)) (by rw [upd_same]; exact HNr.out) (fun b hb => ⟨Nat.lt_of_lt_of_le hb.1 hszr, hb.2⟩))
                clear hK
                by_cases hlt2 : i < cnt2
                · cases q10
                  · obtain ⟨Ad, cd, rfl⟩ := HOr.out.isSlice
                    have c5 := HXr.out.at5' hjN hpos
                    have HTX := Lib.hid (rdText_any B R l10 false w17.drew (HRr.out.chg (S := fun _ => False) (Chg.refl.drew) (by have := HRr.out.lt; omega) id (fun _ _ => id)) hB)
                    have hol : fs.length < 10000000 := by have := HFr.out.count; omega
                    have HMX : Hid (l10.length ≤ maxLen) := Lib.hid (by obtain ⟨_, _, _, _, h2, h3, _⟩ := HRr.out; unfold maxLen; omega)
                    have y1 : (j : Int) < (len : Int) := by omega
                    clear HSH
                    go_upto_region 25 with fail
                    go_region_law (first
                      | (refine step_push appFlds rfl (.tmp 73) (.tmp 79) rfl _ (fldC ⟨sx, vx⟩) rfl (fldC_one _) _ fs.length (flat fldC fs) rfl hO6 rfl hol hs6 ?_; intro v' w' hown' hgr hat; obtain ⟨A7, c7, rfl, hO7, hC7⟩ := flds_pushed hown' hgr hO6; have hX7 := hX6.chg hC7 (Nat.not_le.2 (Nat.lt_of_lt_of_le hgl hsz15)) (dn_ge hs6); have f7 := hX7.frozen (o + j * 6 + 5); have e7 := hX7.at5' hjN hpos)
                      | (go_simp; go_at_call 58; (with_reducible refine HTX.out.mono ?_); rintro _ w5 ⟨sx, l11, q11, rfl, hR5, hG5, hC5⟩; have hs5 := Nat.le_trans hszr hC5.size; have hX5 := (drew_x HXr.out).chg hC5 HGR.out (dn_one hszr); have e5 := hX5.at5' hjN hpos; have hB5 := (drew_blk HRBr.out).chg hC5 (ne_one hRl (Nat.le_refl _)); have b5 := hB5.c1; have hO5 := ownW_chg (drew_fs HOr.out) hC5 (fun b h1 _ => ne_one hRl (Nat.le_trans hsz15 h1)); have HDX := Lib.hid (rdDat_agg B R l11 q11 w5 hR5 hB))
                      | (go_simp; go_at_call 65; (with_reducible refine HDX.out.mono ?_); rintro _ w6 ⟨vx, l12, q12, rfl, hR6, hG6, hC6⟩; have hs6 := Nat.le_trans hs5 hC6.size; have hX6 := hX5.chg hC6 HGR.out (dn_one hs5); have e6 := hX6.at5' hjN hpos; have hO6 := ownW_chg hO5 hC6 (fun b h1 _ => ne_one hRl (Nat.le_trans hsz15 h1)); have z6 := fun ob => EvX.at5' (hX6.chg (S := fun _ => False) (Chg.of_below (bone w6 ob)) id (dn_no hs6)) hjN hpos))
                    all_goals
                      have hfin := flds_fin (fs' := fs ++ [⟨sx, vx⟩]) hB hBg HGR.out hRl hgl hwL hszr hjN hpos (by rw [List.length_append]; rfl : (fs ++ [(⟨sx, vx⟩ : Fld)]).length = fs.length + 1) HRBr.out HCr.out hC5 hC6 hR6 hX6 hC7 hO7
                      rw [show (fs ++ [(⟨sx, vx⟩ : Fld)]).length = fs.length + 1 by rw [List.length_append]; rfl] at hfin
                      have HF := Lib.hid hfin
                      have HG := Lib.hid (HFr.out.step hlt2 hG5 hG6 (Nat.le_trans hG5.size HMX.out))
                      clear hfin hX5 hX6 hX7 hO5 hO6 hO7 hC5 hC6 hC7 hR5 hR6 hG5 hG6 hB5 e5 e6 e7 z6 f7 b5 HTX HDX
                      go_wp2_with fail
                      go_roundw
                      case rel => exact ⟨i + 1, fs ++ [⟨sx, vx⟩], _, l12, q12, by go_num, by omega, Lib.hid HF.out.1, Lib.hid HF.out.2.1, Lib.hid HF.out.2.2.1, Lib.hid (fun h => absurd h (by simp)), HF.out.2.2.2.1, Lib.hid HF.out.2.2.2.2.1, Lib.hid HF.out.2.2.2.2.2, HG⟩
                      case measure => simp [intOf]; omega
                  · have HF : Hid (GotB s len ev l q (upd ev6 (s + j) { ev6 (s + j) with data := fs }) l10 true) := Lib.hid ⟨fun h => (by cases h), fun i hi => by rw [upd_ne (by omega)]; exact HA.out.out i hi, fun es t hp => by
                      have := (HFr.out.whole es t hp (es[j]'(by rw [hp.len]; exact hlt)) (List.getElem?_eq_getElem _)).1
                      cases this⟩
                    go_wp2_with fail
                    refine bodyPost_ret (v := .tuple #[]) (by simp [results, Tryz.results42]) rfl ?_
                    exact ⟨rfl, _, l10, true, HRr.out, HSH.out, HCr.out, HF.out⟩
                · obtain rfl : i = cnt2 := by omega
                  have HD2 := Lib.hid (HFr.out.done HA.out hlt HZ.out)
                  go_wp2_with fail
                  go_roundw
                  case rel => exact ⟨j + 1, _, l10, q10, by go_num, by omega, HRr, HSH, HCr, HRBr, HD2⟩
                  case measure => simp [intOf]; omega
            · obtain rfl : len = j := by omega
              go_wp2_with fail
              go_end0
              refine ⟨rfl, ev6, l8, q8, HR.out, HE.out, HC.out, HA.out.up, HA.out.out, fun es t hp => ?_⟩
              obtain ⟨e1, e2, e3, -⟩ := HA.out.whole es t hp
              refine ⟨e1, ?_, fun i e he => e3 i e (by have := (List.getElem?_eq_some_iff.1 he).1; rw [hp.len] at this; exact this) he⟩
              rw [e2, List.drop_eq_nil_of_le (by rw [hp.len]; exact Nat.le_refl _)]
              rfl
end Go.Proofs.YtjglmjdfndcmmaaGreat
