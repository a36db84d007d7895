/- Texts of this seat, merged. -/
import Derived.StillTailTactics
import Derived.Deep.RegionHeld3
import Derived.Deep.CutRange
import Derived.Test.YtjglmjdfndcmmaaZo01
import Derived.Test.YtjglmjdfndcmmaaZo02
import Derived.Test.YtjglmjdfndcmmaaZo03
import Derived.Test.YtjglmjdfndcmmaaZo04
import Derived.Test.YtjglmjdfndcmmaaZo14
import Derived.Test.YtjglmjdfndcmmaaZo15
import Derived.Test.YtjglmjdfndcmmaaZo16
set_option linter.all false
set_option linter.all false
namespace Go.Proofs.Ytjglmjdfndcmmaa
open Go.RowKit
theorem appNs : AppInfo Try.prog 99 3 1 := AppInfo.mk' (z := .int .i64 0) (bytes := 8) Try.underlying99 (by kernel_rfl) (by omega) rfl (by omega)
def atC (ws : List Bs) (k : Nat) (es : List Ev) : List Nat := (col k es).map ws.idxOf
def runsTo (ws : List Bs) (es : List Ev) (k : Nat) : List UInt8 := (List.range k).flatMap fun j => arRuns (atC ws j es)
theorem runsTo_succ (ws : List Bs) (es : List Ev) (k : Nat) : runsTo ws es (k + 1) = runsTo ws es k ++ arRuns (atC ws k es) := by
  unfold runsTo; rw [List.range_succ, List.flatMap_append]; simp
theorem atC_len (ws : List Bs) (k : Nat) (es : List Ev) : (atC ws k es).length = es.length := by unfold atC; rw [List.length_map, col_len]
theorem atC_lt {ws : List Bs} {k : Nat} {es : List Ev} : ∀ x ∈ atC ws k es, x ≤ ws.length := by
  intro x hx
  obtain ⟨s, _, rfl⟩ := List.mem_map.1 hx
  exact List.idxOf_le_length
theorem runsTo3 (ws : List Bs) (es : List Ev) : runsTo ws es 3 = arRuns (es.map fun e => atW ws e.cas) ++ arRuns (es.map fun e => atW ws e.act) ++ arRuns (es.map fun e => atW ws e.res) := by
  rw [runsTo_succ, runsTo_succ, runsTo_succ]
  have h0 : runsTo ws es 0 = [] := rfl
  have e0 : atC ws 0 es = es.map fun e => atW ws e.cas := List.map_map
  have e1 : atC ws 1 es = es.map fun e => atW ws e.act := List.map_map
  have e2 : atC ws 2 es = es.map fun e => atW ws e.res := List.map_map
  rw [h0, e0, e1, e2, List.nil_append]
theorem col_mem {k : Nat} {es : List Ev} {s : Bs} (h : s ∈ col k es) : s ∈ words es := by
  obtain ⟨e, he, rfl⟩ := List.mem_map.1 h
  refine words_mem.2 ⟨e, he, ?_⟩
  unfold colE
  split
  · exact .inl rfl
  · split
    · exact .inr (.inl rfl)
    · exact .inr (.inr rfl)
theorem value_agg (x : Val) (base : Nat) (v : Value) (l : List UInt8) (w : World) (hv : validV x = true) (hown : OwnC w base v l) (hb : base ≤ w.heap.size) (hl : l.length + (arVal x).length ≤ 9000000) :
    Calls Try.prog 61 #[v, .agg #[.int .i64 x.kind, .int .i64 x.n, .string x.s]] w (RetAdd base w v (l ++ arVal x)) := valueR x base v l w hv hown hb hl
theorem OwnN.now {w w' : World} {base : Nat} {v : Value} {l : List Nat} (h : OwnN w base v l) (hb : Below w.heap.size w w') : OwnN w' base v l := OwnW.now h hb
-- WALK
set_option maxHeartbeats 4000000 in
set_option maxRecDepth 100000 in
theorem blockR (es : List Ev) (u : Value) (base : Nat) (v : Value) (l : List UInt8) (w : World) (hu : SlEv (Lt base) w u es) (hok : ∀ e ∈ es, EvOk e) (hlen : es.length ≤ 100) (hmono : es.Pairwise fun a b => a.time ≤ b.time) (hown : OwnC w base v l) (hb : base ≤ w.heap.size)
    (hl : l.length + (arBlock es).length ≤ 9000000) :
    Calls Try.prog 35 #[v, u] w (RetAdd base w v (l ++ arBlock es)) := by
  obtain ⟨A, c, rfl, h1, h2, hs⟩ := hu.open_
  have HS := Lib.hid hs
  have HOK := Lib.hid hok
  have H0 := Lib.hid hown
  have HL := Lib.hid hl
  have HB := Lib.hid hb
  have HMO := Lib.hid hmono
  have HD1 := Lib.hid (dict_ref es _ w (SlEv.below hs (Below.refl _ _) hb) hlen)
  clear hmono hu hs hok hown hl hb
  go_enter Try.func35, Try.ntmps35
  go_wp2_with fail
  (with_reducible refine HD1.out.mono ?_)
  rintro _ w2 ⟨v2, rfl, hwd, hb02⟩
  have hwl := words_len es
  have HWS := Lib.hid (words_size HOK.out)
  obtain ⟨ws, hws⟩ : ∃ ws, words es = ws := ⟨_, rfl⟩
  have HWE := Lib.hid hws
  have hlb : Hid (arBlock es = arNum ws.length ++ ws.flatMap arText ++ (runsTo ws es 3 ++ arRuns (es.map fun e => e.life.toNat) ++ arTimes 0 es ++ es.flatMap arData)) := by
    refine Lib.hid ?_
    unfold arBlock
    rw [hws, runsTo3]
    simp only [List.append_assoc]
  have hCM : Hid (∀ k s, s ∈ col k es → s ∈ ws) := Lib.hid (fun k s h => by rw [← hws]; exact col_mem h)
  rw [hws] at hwd hwl HWS
  clear hws
  have hr1 : l.length + ((arNum ws.length).length + (ws.flatMap arText).length) ≤ 9000000 := by
    have := HL.out
    rw [hlb.out] at this
    simp only [List.length_append] at this ⊢
    omega
  obtain ⟨Av, cv, rfl, hv1, hv2, hsv⟩ := SlS.open_ (hwd.slS (fun s hs => by have := HWS.out s hs; unfold maxLen; omega))
  rw [List.length_map] at hwd hsv hv1 ⊢
  have HWd := Lib.hid hwd
  have HA2 := Lib.hid ((Adds.refl H0.out).post hb02)
  have HC8 := Lib.hid (numR ws.length base v l w2 (by omega) HA2.out.own (by have := hb02.size; have := HB.out; omega) (by omega))
  have HB02 := Lib.hid hb02
  clear hb02 hsv hwd HD1
  go_wp2_with fail
  (with_reducible refine HC8.out.mono ?_)
  rintro _ w3 ⟨v3, rfl, hA3⟩
  have HA3 : Hid (Adds base w v (l ++ arNum ws.length) w3 v3) := Lib.hid (HA2.out.trans hA3)
  have HW3 := Lib.hid (HWd.out.keepX (hA3.keepX HA2.out.own))
  clear hA3 HC8 HWd
  go_wp2_with fail
  go_loopw [0, 6] (fun sv kv wr => ∃ k : Nat, kv = .int .i64 (k : Int) ∧ k ≤ ws.length ∧ Hid (Adds base w v (l ++ arNum ws.length ++ (ws.take k).flatMap arText) wr sv) ∧ Hid (OwnS wr w.heap.size (.slice Av ws.length cv) ws)) (fun _ kv _ => ws.length - (intOf kv).toNat)
  case atStart => exact ⟨0, rfl, Nat.zero_le _, Lib.hid (by simpa using HA3.out), HW3⟩
  case round =>
    obtain ⟨k, rfl, hk, HA, HW⟩ := hrel
    obtain ⟨wo, rfl⟩ : ∃ wo, wo = wr := ⟨wr, rfl⟩
    by_cases hlt : k < ws.length
    · have hsv := HW.out.slS (fun s hs => by have := HWS.out s hs; unfold maxLen; omega)
      obtain ⟨b, o, x, rfl, hD, hx, hxs, hc⟩ := SlS.at_ (k := k) hsv hlt
      obtain ⟨s, hs, rfl⟩ : ∃ s, ws[k]? = some s ∧ mkS s = x := by
        rw [List.getElem?_map, Option.map_eq_some_iff] at hx
        exact hx
      have HT := Lib.hid (flat_next arText hs)
      have hft := flat_take arText hs
      have HCT := Lib.hid (textR (mkS s) base u0 (l ++ arNum ws.length ++ (ws.take k).flatMap arText) wo (by rw [mkS_size]; have := HWS.out s (List.mem_of_getElem? hs); omega) HA.out.own (by have := HA.out.grown.size; have := HB.out; omega) (by rw [mkS_data]; simp only [List.length_append]; omega))
      clear hsv hft hx hs
      go_wp2_with fail
      (with_reducible refine HCT.out.mono ?_)
      rintro _ w5 ⟨v5, rfl, hA5⟩
      have HX5 := Lib.hid (hA5.keepX HA.out.own)
      go_wp2_with fail
      go_roundw
      case rel =>
        refine ⟨k + 1, by go_num, by omega, Lib.hid ?_, Lib.hid (HW.out.keepX HX5.out)⟩
        rw [HT.out, ← List.append_assoc]
        exact HA.out.trans hA5
      case measure => simp [intOf]; omega
    · obtain rfl : k = ws.length := by omega
      rw [List.take_length] at HA
      obtain ⟨L0, hL0⟩ : ∃ L0, l ++ arNum ws.length ++ ws.flatMap arText = L0 := ⟨_, rfl⟩
      rw [hL0] at HA
      obtain ⟨c4, hc4⟩ : ∃ c4, arRuns (es.map fun e => e.life.toNat) = c4 := ⟨_, rfl⟩
      have hroom : L0.length + (runsTo ws es 3).length + c4.length + (arTimes 0 es).length + (es.flatMap arData).length ≤ 9000000 := by
        have h1 := HL.out
        rw [hlb.out, hc4] at h1
        rw [← hL0]
        simp only [List.length_append] at h1 ⊢
        omega
      have HLB : Hid (l ++ arBlock es = L0 ++ runsTo ws es 3 ++ c4 ++ arTimes 0 es ++ es.flatMap arData) := by
        refine Lib.hid ?_
        rw [hlb.out, hc4, ← hL0]
        simp only [List.append_assoc]
      have HC4 := Lib.hid hc4
      clear hL0 hc4 hlb hr1 hk hlt HA3 HW3
      go_wp2_with fail
      go_loopw [0, 7] (fun sv kv wr => ∃ k : Nat, kv = .int .i64 (k : Int) ∧ k ≤ 3 ∧ Hid (Adds base w v (L0 ++ runsTo ws es k) wr sv) ∧ Hid (OwnS wr w.heap.size (.slice Av ws.length cv) ws)) (fun _ kv _ => 3 - (intOf kv).toNat)
      case atStart => exact ⟨0, rfl, by omega, Lib.hid (by simpa [runsTo] using HA.out), HW⟩
      case round =>
        obtain ⟨k, rfl, hk, HA, HW⟩ := hrel
        obtain ⟨wo, rfl⟩ : ∃ wo, wo = wr := ⟨wr, rfl⟩
        by_cases hlt : k < 3
        · have hszo : base ≤ wo.heap.size := Nat.le_trans HB.out HA.out.grown.size
          have HCC := Lib.hid (column_ref k es (.slice A es.length c) wo hlt (SlEv.below HS.out (HA.out.below H0.out HB.out) hszo) (by omega))
          have hrk : (runsTo ws es k).length + (arRuns (atC ws k es)).length ≤ (runsTo ws es 3).length := by
            rcases (show k = 0 ∨ k = 1 ∨ k = 2 by omega) with rfl | rfl | rfl <;> simp only [runsTo_succ, List.length_append] <;> omega
          go_wp2_with fail
          (with_reducible refine HCC.out.mono ?_)
          rintro _ w8 ⟨v8, rfl, hc8, hb8⟩
          obtain ⟨Ac, cc, rfl, hcc1, hcc2, hsc⟩ := SlS.open_ (hc8.slS (col_fit (SlEv.fit HS.out)))
          rw [List.length_map, col_len] at hsc hcc1 ⊢
          have HSC := Lib.hid hsc
          have HA8 := Lib.hid (HA.out.post hb8)
          have hwn := OwnS.now HW.out hb8
          have HWL := Lib.hid (hwn.slS (fun s hs => by have := HWS.out s hs; unfold maxLen; omega))
          have HW8 := Lib.hid hwn
          have hsz8 : base ≤ w8.heap.size := Nat.le_trans hszo hb8.size
          clear hsc hc8 hb8 HCC hwn
          go_wp2_with fail
          go_loopw [9, 10] (fun ov iv wr => ∃ i : Nat, iv = .int .i64 (i : Int) ∧ i ≤ es.length ∧ Hid (OwnN wr w8.heap.size ov ((atC ws k es).take i)) ∧ Below w8.heap.size w8 wr) (fun _ iv _ => es.length - (intOf iv).toNat)
          case atStart => exact ⟨0, rfl, Nat.zero_le _, Lib.hid OwnW.nil, Below.refl _ _⟩
          case round =>
            obtain ⟨i, rfl, hi, HO, hbr⟩ := hrel
            obtain ⟨w9, rfl⟩ : ∃ w9, w9 = wr := ⟨wr, rfl⟩
            have hszr := hbr.size
            by_cases hlt : i < es.length
            · obtain ⟨b, o, x, rfl, hD, hx, hxs, hc⟩ := SlS.at_ (k := i) HSC.out hlt
              obtain ⟨s, hs, rfl⟩ : ∃ s, (col k es)[i]? = some s ∧ mkS s = x := by
                rw [List.getElem?_map, Option.map_eq_some_iff] at hx
                exact hx
              have c0 := (hbr.cell (p := ⟨b, o + i, none⟩) hD).trans hc
              have hsw : s ∈ ws := hCM.out k s (List.mem_of_getElem? hs)
              have hci := index_ref _ _ (mkS s) _ (HWL.out.now hbr)
              rw [atS_mem (ws := ws) (s := mkS s) hsw] at hci
              have HT : Hid ((atC ws k es).take (i + 1) = (atC ws k es).take i ++ [atW ws (mkS s)]) := Lib.hid (take_next (by unfold atC; rw [List.getElem?_map, hs]; rfl))
              generalize atW ws (mkS s) = z at *
              have HC := Lib.hid hci
              have HBr := Lib.hid hbr
              have hol : ((atC ws k es).take i).length < 10000000 := by rw [List.length_take]; omega
              clear hx hs hc hsw hbr hci
              go_wp2_with fail
              (with_reducible refine HC.out.mono ?_)
              rintro _ w10 ⟨rfl, rfl⟩
              go_wp2_with (at_builtin; refine wpList_pushW (fc := cellN) appNs rfl (.tmp 47) (.tmp 54) rfl w9 z ((atC ws k es).take i) rfl (cellN_one z) _ rfl HO.out rfl hol hszr ?_; intro v' w' hown' hgr hat)
              go_roundw
              case rel =>
                refine ⟨i + 1, by go_num, by omega, Lib.hid ?_, HBr.out.trans (below_of_grown hgr hszr (fun g hg => (World.ownsRow.lt HO.out g hg).1))⟩
                rw [HT.out]
                exact hown'
              case measure => simp [intOf]; omega
            · obtain rfl : i = es.length := by omega
              have ho := HO.out
              rw [List.take_of_length_le (by rw [atC_len]; exact Nat.le_refl _)] at ho
              have HA9 := Lib.hid (HA8.out.post hbr)
              have hcr := runsR (atC ws k es) u9 w8.heap.size base u0 (L0 ++ runsTo ws es k) w9 (fun x hx => by have := atC_lt x hx; omega) ho HA9.out.own (by omega) (by rw [atC_len]; omega) (by rw [List.length_append]; omega)
              have HCR := Lib.hid hcr
              have HW9 := Lib.hid (OwnS.now HW8.out hbr)
              clear ho hcr
              go_wp2_with fail
              (with_reducible refine HCR.out.mono ?_)
              rintro _ w11 ⟨v11, rfl, hA11⟩
              go_wp2_with fail
              go_roundw
              case rel =>
                refine ⟨k + 1, by go_num, by omega, Lib.hid ?_, Lib.hid (HW9.out.keepX (hA11.keepX HA9.out.own))⟩
                rw [runsTo_succ, ← List.append_assoc]
                exact HA9.out.trans hA11
              case measure => simp [intOf]; omega
        · have hk3 : k = 3 := by omega
          rw [hk3] at HA
          have z3 : ¬ (k : Int) < 3 := by omega
          clear HW hk hlt hk3
          go_wp2_with fail
          go_loopw [11, 12] (fun ov iv wr => ∃ i : Nat, iv = .int .i64 (i : Int) ∧ i ≤ es.length ∧ Hid (OwnN wr wo.heap.size ov ((es.map fun e => e.life.toNat).take i)) ∧ Below wo.heap.size wo wr) (fun _ iv _ => es.length - (intOf iv).toNat)
          case atStart => exact ⟨0, rfl, Nat.zero_le _, Lib.hid OwnW.nil, Below.refl _ _⟩
          case round =>
            obtain ⟨i, rfl, hi, HO, hbr⟩ := hrel
            obtain ⟨w9, rfl⟩ : ∃ w9, w9 = wr := ⟨wr, rfl⟩
            have hszr := hbr.size
            have HA9 := Lib.hid (HA.out.post hbr)
            by_cases hlt : i < es.length
            · obtain ⟨b, o, e, dv, rfl, hD, hx, hff, hdv, f0, f1, f2, f3, f4, f5⟩ := SlEv.at_ (SlEv.below HS.out (HA9.out.below H0.out HB.out) (Nat.le_refl _)) hlt
              have hlf := (HOK.out e (List.mem_of_getElem? hx)).life
              obtain ⟨z, hz⟩ : ∃ z : Nat, e.life = z := ⟨e.life.toNat, by omega⟩
              have HT : Hid ((es.map fun e => e.life.toNat).take (i + 1) = (es.map fun e => e.life.toNat).take i ++ [z]) := Lib.hid (take_next (by rw [List.getElem?_map, hx]; simp [hz]))
              rw [hz] at f3
              have hol : ((es.map fun e => e.life.toNat).take i).length < 10000000 := by rw [List.length_take]; omega
              have HBr := Lib.hid hbr
              clear hx hff hdv f0 f1 f2 f4 f5 hlf hz hbr
              go_wp2_with (at_builtin; refine wpList_pushW (fc := cellN) appNs rfl (.tmp 65) (.tmp 71) rfl w9 z ((es.map fun e => e.life.toNat).take i) rfl (cellN_one z) _ rfl HO.out rfl hol hszr ?_; intro v' w' hown' hgr hat)
              go_roundw
              case rel =>
                refine ⟨i + 1, by go_num, by omega, Lib.hid ?_, HBr.out.trans (below_of_grown hgr hszr (fun g hg => (World.ownsRow.lt HO.out g hg).1))⟩
                rw [HT.out]
                exact hown'
              case measure => simp [intOf]; omega
            · obtain rfl : i = es.length := by omega
              have ho := HO.out
              rw [List.take_of_length_le (by rw [List.length_map]; exact Nat.le_refl _)] at ho
              have hcr := runsR (es.map fun e => e.life.toNat) u11 wo.heap.size base u0 (L0 ++ runsTo ws es 3) w9 (fun x hx => by
                obtain ⟨e, he, rfl⟩ := List.mem_map.1 hx
                have := (HOK.out e he).life
                omega) ho HA9.out.own (by have := HA9.out.grown.size; have := HB.out; omega) (by rw [List.length_map]; omega) (by rw [HC4.out, List.length_append]; omega)
              rw [HC4.out] at hcr
              have HCR := Lib.hid hcr
              clear ho hcr hbr
              go_wp2_with fail
              (with_reducible refine HCR.out.mono ?_)
              rintro _ w14 ⟨v14, rfl, hA14⟩
              have HA14 : Hid (Adds base w v (L0 ++ runsTo ws es 3 ++ c4) w14 v14) := Lib.hid (HA9.out.trans hA14)
              obtain ⟨L4, hL4⟩ : ∃ L4, L0 ++ runsTo ws es 3 ++ c4 = L4 := ⟨_, rfl⟩
              rw [hL4] at HA14 HLB
              have hroom4 : L4.length + (arTimes 0 es).length + (es.flatMap arData).length ≤ 9000000 := by rw [← hL4]; simp only [List.length_append]; omega
              clear hroom hL4 HA HA9 HO HC4 HCR hA14 hi hlt hszr
              go_wp2_with fail
              go_loopw [0, 13] (fun sv kv wr => ∃ (k : Nat) (t : Int) (d : List UInt8), kv = .int .i64 (k : Int) ∧ k ≤ es.length ∧ Hid ((k = 0 → t = 0) ∧ (∀ j, j + 1 = k → ∀ e, es[j]? = some e → t = e.time) ∧ (0 ≤ t ∧ t ≤ 1099511627776) ∧ ∀ e, es[k]? = some e → t ≤ e.time) ∧ Hid (arTimes 0 es = d ++ arTimes t (es.drop k)) ∧ Hid (Adds base w v (L4 ++ d) wr sv)) (fun _ kv _ => es.length - (intOf kv).toNat)
              case atStart => exact ⟨0, 0, [], rfl, Nat.zero_le _, Lib.hid ⟨fun _ => rfl, fun j hj => absurd hj (by omega), by omega, fun e he => (HOK.out e (List.mem_of_getElem? he)).time.1⟩, Lib.hid rfl, Lib.hid (by simpa using HA14.out)⟩
              case round =>
                obtain ⟨k, t, d, rfl, hk, HT0, HTD, HA⟩ := hrel
                obtain ⟨w5, rfl⟩ : ∃ w5, w5 = wr := ⟨wr, rfl⟩
                have hsz5 : base ≤ w5.heap.size := Nat.le_trans HB.out HA.out.grown.size
                by_cases hlt : k < es.length
                · have hsl := SlEv.below HS.out (HA.out.below H0.out HB.out) (Nat.le_refl _)
                  obtain ⟨b, o, e, dv, rfl, hD, hx, hff, hdv, f0, f1, f2, f3, f4, f5⟩ := SlEv.at_ hsl hlt
                  have HX := Lib.hid hx
                  obtain ⟨ht1, ht2, ht3, ht4⟩ := HT0.out
                  have hte := ht4 e hx
                  have hto := (HOK.out e (List.mem_of_getElem? hx)).time
                  have hst : arTimes t (es.drop k) = arNum (e.time - t).toNat ++ arTimes e.time (es.drop (k + 1)) := by
                    have he : es[k] = e := by rw [List.getElem?_eq_getElem hlt] at hx; injection hx
                    rw [List.drop_eq_getElem_cons hlt, he, arTimes]
                  have hroom : (L4 ++ d).length + (arNum (e.time - t).toNat).length ≤ 9000000 := by
                    have h1 := hroom4
                    rw [HTD.out, hst] at h1
                    simp only [List.length_append] at h1 ⊢
                    omega
                  have HST := Lib.hid hst
                  have HREL : Hid (∀ (W : World) (v6 : Value), Adds base w5 u0 (L4 ++ d ++ arNum (e.time - t).toNat) W v6 → ∃ (k' : Nat) (t : Int) (d : List UInt8), Value.int .i64 ((k : Int) + 1) = .int .i64 (k' : Int) ∧ k' ≤ es.length ∧ Hid ((k' = 0 → t = 0) ∧ (∀ j, j + 1 = k' → ∀ e, es[j]? = some e → t = e.time) ∧ (0 ≤ t ∧ t ≤ 1099511627776) ∧ ∀ e, es[k']? = some e → t ≤ e.time) ∧ Hid (arTimes 0 es = d ++ arTimes t (es.drop k')) ∧ Hid (Adds base w v (L4 ++ d) W v6)) := by
                    refine Lib.hid fun W v6 hA6 => ⟨k + 1, e.time, d ++ arNum (e.time - t).toNat, by congr 1, by omega, Lib.hid ⟨fun h => absurd h (by omega), fun j hj e' he' => ?_, by omega, fun e' he' => ?_⟩, Lib.hid ?_, Lib.hid ?_⟩
                    · obtain rfl : j = k := by omega
                      rw [HX.out] at he'
                      injection he' with he'
                      rw [he']
                    · have h1 := List.pairwise_iff_getElem.1 HMO.out k (k + 1) hlt (List.getElem?_eq_some_iff.1 he').1 (by omega)
                      have h2 : es[k] = e := by have := HX.out; rw [List.getElem?_eq_getElem hlt] at this; injection this
                      have h3 := (List.getElem?_eq_some_iff.1 he').2
                      rw [h2, h3] at h1
                      exact h1
                    · rw [HTD.out, HST.out, List.append_assoc]
                    · rw [← List.append_assoc]
                      exact HA.out.trans hA6
                  by_cases hk0 : k = 0
                  · obtain rfl := ht1 hk0
                    have hc := numR (e.time - 0).toNat base u0 (L4 ++ d) w5 (by omega) HA.out.own hsz5 hroom
                    rw [show ((e.time - 0).toNat : Int) = e.time by omega] at hc
                    have HC := Lib.hid hc
                    have z0 : ((k : Int) == 0) = true := by simp [hk0]
                    have z1 : decide ((k : Int) = 0) = true := by simp [hk0]
                    have z2 : decide (k = 0) = true := by simp [hk0]
                    have z3 : (k == 0) = true := by simp [hk0]
                    clear hk0 hc hx hst hroom hff hdv hsl ht1 ht2 ht3 ht4 hte hto f0 f1 f2 f3 f5
                    go_wp2_with fail
                    (with_reducible refine HC.out.mono ?_)
                    rintro _ w6 ⟨v6, rfl, hA6⟩
                    go_wp2_with fail
                    go_roundw
                    case rel => exact HREL.out _ _ hA6
                    case measure => simp [intOf]; omega
                  · obtain ⟨j, hj⟩ : ∃ j, j + 1 = k := ⟨k - 1, by omega⟩
                    obtain ⟨b', o', p, dv', hA', hD', hx', hff', hdv', g0, g1, g2, g3, g4, g5⟩ := SlEv.at_ (k := j) hsl (by omega)
                    injection hA' with hA'
                    injection hA' with e1 e2 _
                    subst e1 e2
                    obtain rfl := ht2 j hj p hx'
                    have hc := numR (e.time - p.time).toNat base u0 (L4 ++ d) w5.drew (by omega) (HA.out.post ((Below.refl w5.heap.size w5).drew)).own hsz5 hroom
                    rw [show ((e.time - p.time).toNat : Int) = e.time - p.time by omega] at hc
                    have HC := Lib.hid hc
                    have HDR := Lib.hid ((Below.refl w5.heap.size w5).drew)
                    have HKP := Lib.hid (HREL.out)
                    have z0 : ((k : Int) == 0) = false := by simp [hk0]
                    have z1 : decide ((k : Int) = 0) = false := by simp [hk0]
                    have z2 : decide (k = 0) = false := by simp [hk0]
                    have z3 : (k == 0) = false := by simp [hk0]
                    have hwj : IntKind.i64.wrap ((k : Int) - 1) = (j : Int) := by rw [i64wrap (by omega)]; omega
                    have hwt : IntKind.i64.wrap (e.time - p.time) = e.time - p.time := i64wrap (by omega)
                    have y1 : (0 : Int) ≤ (j : Int) := by omega
                    have y2 : (j : Int) < (es.length : Int) := by omega
                    have y3 : (0 : Int) ≤ (k : Int) := by omega
                    have y4 : (k : Int) < (es.length : Int) := by omega
                    clear hk0 hj hc hx hst hroom hff hdv hsl ht1 ht2 ht3 ht4 hte hto f0 f1 f2 f3 f5 hx' hff' hdv' g0 g1 g2 g3 g5
                    go_upto_region 28 with fail
                    go_still_tail 13, (by kernel_rfl)
                    change wpList _ _ _ _ _ w5.drew
                    generalize hW : w5.drew = W at *
                    clear hW
                    go_wp2_with fail
                    (with_reducible refine HC.out.mono ?_)
                    rintro _ w6 ⟨v6, rfl, hA6⟩
                    go_wp2_with fail
                    go_roundw
                    case rel => exact HREL.out _ _ (Adds.pre HDR.out hA6)
                    case measure => simp [intOf]; omega
                · obtain rfl : k = es.length := by omega
                  have HTD2 : Hid (arTimes 0 es = d) := Lib.hid (by rw [HTD.out, List.drop_eq_nil_of_le (Nat.le_refl _)]; simp [arTimes])
                  obtain ⟨L5, hL5⟩ : ∃ L5, L4 ++ d = L5 := ⟨_, rfl⟩
                  rw [hL5] at HA
                  have HLB5 : Hid (l ++ arBlock es = L5 ++ es.flatMap arData) := Lib.hid (by rw [HLB.out, HTD2.out, hL5])
                  have hroom5 : L5.length + (es.flatMap arData).length ≤ 9000000 := by
                    rw [← hL5]
                    have h1 := hroom4
                    rw [HTD2.out] at h1
                    simp only [List.length_append]
                    omega
                  clear hroom4 HT0 HTD HTD2 HLB hL5 hk hlt HA14
                  go_wp2_with fail
                  go_loopw [0, 14] (fun sv kv wr => ∃ k : Nat, kv = .int .i64 (k : Int) ∧ k ≤ es.length ∧ Hid (Adds base w v (L5 ++ (es.take k).flatMap arData) wr sv)) (fun _ kv _ => es.length - (intOf kv).toNat)
                  case atStart => exact ⟨0, rfl, Nat.zero_le _, Lib.hid (by simpa using HA.out)⟩
                  case round =>
                    obtain ⟨k, rfl, hk, HAk⟩ := hrel
                    obtain ⟨w7, rfl⟩ : ∃ w7, w7 = wr := ⟨wr, rfl⟩
                    have hsz7 : base ≤ w7.heap.size := Nat.le_trans HB.out HAk.out.grown.size
                    by_cases hlt : k < es.length
                    · have hBk := HAk.out.below H0.out HB.out
                      obtain ⟨b, o, e, dv, rfl, hD, hx, hff, hdv, f0, f1, f2, f3, f4, f5⟩ := SlEv.at_ HS.out hlt
                      have HF5 := Lib.hid f5
                      replace f5 := (hBk.cell (p := ⟨b, o + k * 6 + 5, none⟩) hD).trans f5
                      obtain ⟨Ad, cd, rfl, hcd1, hcd2, hdv⟩ := hdv.open_
                      have hev := HOK.out e (List.mem_of_getElem? hx)
                      have HEV := Lib.hid hev
                      have HX := Lib.hid hx
                      have HDV := Lib.hid hdv
                      have hd8 := hev.len
                      have HFN := Lib.hid (flat_next arData hx)
                      have hft := flat_take arData hx
                      have hdd : (arData e).length = (arNum e.data.length).length + (e.data.flatMap arFld).length := by unfold arData; rw [List.length_append]
                      have hroom : (L5 ++ (es.take k).flatMap arData).length + (arNum e.data.length).length + (e.data.flatMap arFld).length ≤ 9000000 := by
                        rw [List.length_append]; omega
                      have HC := Lib.hid (numR e.data.length base u0 (L5 ++ (es.take k).flatMap arData) w7 (by omega) HAk.out.own hsz7 (by omega))
                      clear hx hff hdv hft hdd hev hBk f0 f1 f2 f3 f4
                      go_wp2_with fail
                      (with_reducible refine HC.out.mono ?_)
                      rintro _ w8 ⟨v8, rfl, hA8⟩
                      have HA8 := Lib.hid (HAk.out.trans hA8)
                      obtain ⟨L6, hL6⟩ : ∃ L6, L5 ++ (es.take k).flatMap arData ++ arNum e.data.length = L6 := ⟨_, rfl⟩
                      rw [hL6] at HA8
                      have hroom6 : L6.length + (e.data.flatMap arFld).length ≤ 9000000 := by rw [← hL6, List.length_append]; omega
                      have HL6 := Lib.hid hL6
                      clear hL6 hA8 HC f5 hroom
                      go_wp2_with fail
                      go_loopw [0, 15] (fun sv jv wr => ∃ j : Nat, jv = .int .i64 (j : Int) ∧ j ≤ e.data.length ∧ Hid (Adds base w v (L6 ++ (e.data.take j).flatMap arFld) wr sv)) (fun _ jv _ => e.data.length - (intOf jv).toNat)
                      case atStart => exact ⟨0, rfl, Nat.zero_le _, Lib.hid (by simpa using HA8.out)⟩
                      case round =>
                        obtain ⟨j, rfl, hj, HAj⟩ := hrel
                        obtain ⟨w9, rfl⟩ : ∃ w9, w9 = wr := ⟨wr, rfl⟩
                        have HBj := Lib.hid (HAj.out.below H0.out HB.out)
                        have q5 := (HBj.out.cell (p := ⟨b, o + k * 6 + 5, none⟩) hD).trans HF5.out
                        have hsz9 : base ≤ w9.heap.size := Nat.le_trans HB.out HAj.out.grown.size
                        by_cases hjt : j < e.data.length
                        · obtain ⟨b', o', f, rfl, hD', hxf, hff, g0, g1, g2, g3⟩ := SlFl.at_ HDV.out hjt
                          obtain ⟨hfn, hfv⟩ := fld_parts (flds_mem HEV.out.flds f (List.mem_of_getElem? hxf))
                          have HFV := Lib.hid hfv
                          have hfs := (name_size hfn).2
                          have HFN2 := Lib.hid (flat_next arFld hxf)
                          have hft := flat_take arFld hxf
                          have hdd : (arFld f).length = (arText f.nm.data.toList).length + (arVal f.v).length := by unfold arFld; rw [List.length_append]
                          have hroom7 : (L6 ++ (e.data.take j).flatMap arFld).length + (arText f.nm.data.toList).length + (arVal f.v).length ≤ 9000000 := by rw [List.length_append]; omega
                          have HFD : Hid (arFld f = arText f.nm.data.toList ++ arVal f.v) := Lib.hid rfl
                          have HSS : Hid (∀ W, Below base w W → W.cell? ⟨b, o + k * 6 + 5, none⟩ = some (.slice (some ⟨b', o', none⟩) e.data.length cd) ∧ W.cell? ⟨b', o' + j * 4, none⟩ = some (.string f.nm) ∧ W.cell? ⟨b', o' + j * 4 + 1, none⟩ = some (.int .i64 f.v.kind) ∧ W.cell? ⟨b', o' + j * 4 + 2, none⟩ = some (.int .i64 f.v.n) ∧ W.cell? ⟨b', o' + j * 4 + 3, none⟩ = some (.string f.v.s)) :=
                            Lib.hid fun W hW => ⟨(hW.cell (p := ⟨b, o + k * 6 + 5, none⟩) hD).trans HF5.out, (hW.cell (p := ⟨b', o' + j * 4, none⟩) hD').trans g0, (hW.cell (p := ⟨b', o' + j * 4 + 1, none⟩) hD').trans g1, (hW.cell (p := ⟨b', o' + j * 4 + 2, none⟩) hD').trans g2, (hW.cell (p := ⟨b', o' + j * 4 + 3, none⟩) hD').trans g3⟩
                          have HA9 : Hid (Adds base w v (L6 ++ (e.data.take j).flatMap arFld) w9.drew u0) := Lib.hid (HAj.out.post ((Below.refl _ _).drew))
                          have HCT := Lib.hid (textR f.nm base u0 (L6 ++ (e.data.take j).flatMap arFld) w9.drew (by omega) HA9.out.own hsz9 (by omega))
                          have hbd : Below base w w9.drew := HA9.out.below H0.out HB.out
                          clear hxf hff hft hdd hfn hfv g0 g1 g2 g3
                          obtain ⟨a0, a1, a2, a3, a4⟩ := HSS.out _ hbd
                          go_upto_region 36 with fail
                          go_region_held3 (fun W => W.cell? ⟨b, o + k * 6 + 5, none⟩ = some (.slice (some ⟨b', o', none⟩) e.data.length cd) ∧ W.cell? ⟨b', o' + j * 4, none⟩ = some (.string f.nm) ∧ W.cell? ⟨b', o' + j * 4 + 1, none⟩ = some (.int .i64 f.v.kind) ∧ W.cell? ⟨b', o' + j * 4 + 2, none⟩ = some (.int .i64 f.v.n) ∧ W.cell? ⟨b', o' + j * 4 + 3, none⟩ = some (.string f.v.s)) (first | exact HSS.out _ (by assumption))
                            (first | (go_at_call 57; (with_reducible refine HCT.out.mono ?_); rintro _ w11 ⟨v11, rfl, hA11⟩; have HA11 := Lib.hid (HA9.out.trans hA11); have hb11 := HA11.out.below H0.out HB.out; have hdt := Lib.hid (value_agg f.v base v11 (L6 ++ (e.data.take j).flatMap arFld ++ arText f.nm.data.toList) w11 HFV.out hA11.own (Nat.le_trans hsz9 hA11.grown.size) (by rw [List.length_append]; omega))) | (go_at_call 61; (with_reducible refine hdt.out.mono ?_); rintro _ w12 ⟨v12, rfl, hA12⟩; have HA12 := Lib.hid (HA11.out.trans hA12); have hb12 := HA12.out.below H0.out HB.out))
                          all_goals
                            clear HCT
                            go_wp2_with fail
                            go_roundw
                            case rel =>
                              refine ⟨j + 1, by go_num, by omega, Lib.hid ?_⟩
                              rw [HFN2.out, HFD.out]
                              have := HA12.out
                              simp only [List.append_assoc] at this ⊢
                              exact this
                            case measure => simp [intOf]; omega
                        · obtain rfl : j = e.data.length := by omega
                          rw [List.take_length] at HAj
                          go_wp2_with fail
                          go_roundw
                          case rel =>
                            refine ⟨k + 1, by go_num, by omega, Lib.hid ?_⟩
                            have := HAj.out
                            rw [← HL6.out] at this
                            rw [HFN.out]
                            unfold arData
                            simp only [List.append_assoc] at this ⊢
                            exact this
                          case measure => simp [intOf]; omega
                    · obtain rfl : k = es.length := by omega
                      rw [List.take_length] at HAk
                      go_wp2_with fail
                      go_ret
                      exact ⟨_, rfl, by rw [HLB5.out]; exact HAk.out⟩
end Go.Proofs.Ytjglmjdfndcmmaa
