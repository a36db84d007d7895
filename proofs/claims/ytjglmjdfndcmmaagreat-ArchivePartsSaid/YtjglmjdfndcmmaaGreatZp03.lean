/- Texts of this seat, merged. -/
import Derived.Deep.CutRange
import Derived.Test.YtjglmjdfndcmmaaGreatProg
import Derived.Maps.OwnOps
import Derived.Maps.OwnSet
import Derived.Maps.Views
import Derived.Maps.Keyed
import Derived.StringKeys
import Derived.Sort.KeysCollected
import Derived.Shelf.SlIter.Nil
import Derived.Shelf.SortM.Plain
import Derived.Shelf.SortM.SortNone
import Derived.Ground.GgzProg
import Derived.Ground.SlgmProg
import Derived.Shelf.Small.Bits
import Derived.Shelf.Strconv.Itoa0
import Derived.Shelf.Sort.Plain
import Derived.Shelf.Slices.Equal
import Derived.Shelf.Slices.In.SortNone
import Derived.Shelf.Slices.Empties2
import Derived.Shelf.Bytes.SlSearch0
import Derived.Shelf.Bytes.SlSmallAll
import Derived.Shelf.Bytes.SlEqualAll
import Derived.Shelf.Bytes.Small
import Derived.Sort.OwnSorted
import Derived.Lib.Bytes
import Derived.Test.YtjglmjdfndcmmaaGreatZp01
import Derived.Test.YtjglmjdfndcmmaaGreatZp02
set_option linter.all false
set_option linter.all false
namespace Go.Proofs.YtjglmjdfndcmmaaGreat
open Go.RowKit
theorem i64wrap {n : Int} (h : -9223372036854775808 ≤ n ∧ n ≤ 9223372036854775807) : IntKind.i64.wrap n = n := by
  simp [IntKind.wrap, IntKind.bits, IntKind.signed]
  split <;> omega
structure Veil (p : Prop) : Prop where
  out : p
theorem veil_step {P : Program} {ops : Array Oper} {C : World → Prop} {Q : Act → Prop} {a : Act} {o : Oper} {rest : List Oper}
    (h : ∀ K : Act → Prop, (∀ a, Veil (wpQuiet P ops C Q rest a) → K a) → if Region.wanted o (yielded ops a.tmps) then o.quiet P a C K else K (a.put o.dst undef)) : Veil (wpQuiet P ops C Q (o :: rest) a) :=
  ⟨wpQuiet_step fun K hK => h K fun a ha => hK a ha.out⟩
theorem veil_nil {P : Program} {ops : Array Oper} {C : World → Prop} {Q : Act → Prop} {a : Act} (h : Q a) : Veil (wpQuiet P ops C Q [] a) := ⟨wpQuiet_nil h⟩
theorem wp_region_growV {P : Program} {id : Nat} {Q : Exit → Act → World → Prop} {a : Act} {w : World} {l : List Oper} (hm : P.follows .mixedOrders = true) (hB : Region.lexB .any l.toArray = true)
    (h : Veil (wpQuiet P l.toArray (fun w' => ∃ W, w' = ext w W) (fun a' => ∀ w', (∃ W, w' = ext w W) → Q .normal a' w') l a)) : (Code.region id l.toArray true).wp P Q a w :=
  wp_region_grow hm hB h.out
theorem wp_region_drawV {P : Program} {id : Nat} {Q : Exit → Act → World → Prop} {a : Act} {w : World} {l : List Oper} (hm : P.follows .mixedOrders = true) (hB : Region.lexB .any l.toArray = true)
    (h : Veil (wpQuiet P l.toArray (fun w' => ∃ n, w' = w.drewN n) (fun a' => ∀ w', (∃ n, w' = w.drewN n) → Q .normal a' w') l a)) : (Code.region id l.toArray true).wp P Q a w :=
  wp_region_quiet_lit hm hB h.out
end Go.Proofs.YtjglmjdfndcmmaaGreat

set_option linter.all false
namespace Go.Proofs.YtjglmjdfndcmmaaGreat
open Go.RowKit
structure KeepX (W W' : World) : Prop where
  size : W.heap.size ≤ W'.heap.size
  same : ∀ g, g < W.heap.size → (∀ cs fz, W.heap[g]? ≠ some (.cells cs 5 fz)) → W'.heap[g]? = W.heap[g]?
theorem KeepX.refl (W : World) : KeepX W W := ⟨Nat.le_refl _, fun _ _ _ => rfl⟩
theorem KeepX.trans {A B C : World} (h : KeepX A B) (k : KeepX B C) : KeepX A C :=
  ⟨Nat.le_trans h.size k.size, fun g hg hn => (k.same g (Nat.lt_of_lt_of_le hg h.size) (fun cs fz => by rw [h.same g hg hn]; exact hn cs fz)).trans (h.same g hg hn)⟩
theorem KeepX.of_below {W W' : World} (h : Below W.heap.size W W') : KeepX W W' := ⟨h.size, fun g hg _ => h.block g hg⟩
theorem Adds.keepX {base : Nat} {w w' : World} {v v' : Value} {l l0 : List UInt8} (h : Adds base w v l w' v') (h0 : OwnC w base v l0) : KeepX w w' :=
  ⟨h.grown.size, fun g hg hn => h.grown.block g hg (fun e => by
    obtain ⟨c, fz, hc⟩ := Lib.ownsRow_kind h0 g e.symm
    exact hn _ _ hc)⟩
theorem Blk.keepX {w w' : World} {g t : Nat} {cs : Array Value} (hB : Blk w g t cs) (h : KeepX w w') (ht : t ≠ 5) : Blk w' g t cs :=
  (h.same g hB.lt (fun c fz e => by
    have := hB.symm.trans e
    injection this with this
    injection this with _ e2 _
    exact ht e2)).trans hB
structure Takes (k : FuncId) (caps : Array Value) (f : Ev → Nat) (I : World → Prop) (Pe : Ev → Prop) : Prop where
  enter : ∀ z w, (callFunc k (#[z] ++ caps)).run Tryz.prog w = .ok (.enter k (#[z] ++ caps)) w
  keep : ∀ W W', KeepX W W' → I W → I W'
  step : ∀ W u e, Pe e → I W → IsEv (Lt W.heap.size) W u e → Calls Tryz.prog k (#[u] ++ caps) W fun x W' => x = .returned (.int .i64 (f e : Int)) ∧ Below W.heap.size W W'
set_option maxHeartbeats 2000000 in
set_option maxRecDepth 100000 in
theorem runs_any (k : FuncId) (caps : Array Value) (f : Ev → Nat) (I : World → Prop) (Pe : Ev → Prop) (hT : Takes k caps f I Pe) (es : List Ev) (u : Value) (base : Nat) (v : Value) (l : List UInt8) (w : World)
    (hf : ∀ e ∈ es, f e < 1000000000) (hPe : ∀ e ∈ es, Pe e) (hu : SlEv (Lt base) w u es) (hI : I w) (hown : OwnC w base v l) (hb : base ≤ w.heap.size) (hl : l.length + (arRuns (es.map f)).length ≤ 9000000) :
    Calls Tryz.prog 81 #[v, u, .func (.func k) #[] caps] w (RetAdd base w v (l ++ arRuns (es.map f))) := by
  obtain ⟨A, c, rfl, h1, h2, hs⟩ := hu.open_
  have HS := Lib.hid hs
  have HT := Lib.hid hT
  have HF := Lib.hid hf
  have HPe := Lib.hid hPe
  have H0 := Lib.hid hown
  have HA0 := Lib.hid (Adds.refl hown)
  have HI := Lib.hid hI
  have HB := Lib.hid hb
  have HLN : Hid (∃ vals : List Nat, vals = es.map f) := ⟨_, rfl⟩
  obtain ⟨vals, hvals⟩ := HLN.out
  rw [← hvals] at hl ⊢
  have HV := Lib.hid hvals
  have HL := Lib.hid hl
  have eg := HT.out.enter
  clear hu hs hT hf hPe hown hI hb hvals hl HLN
  go_enter Tryz.func81, Tryz.ntmps81
  go_wp2_with fail
  go_loopw [0, 7] (fun sv iv wr => ∃ (i : Nat) (d : List UInt8), iv = .int .i64 (i : Int) ∧ i ≤ es.length ∧ Hid (arRuns vals = d ++ arRuns (vals.drop i)) ∧ Hid (Adds base w v (l ++ d) wr sv)) (fun _ iv _ => es.length - (intOf iv).toNat)
  case atStart => exact ⟨0, [], rfl, Nat.zero_le _, rfl, Lib.hid (by simpa using HA0.out)⟩
  case round =>
    obtain ⟨i, d, rfl, hi, HD, HA⟩ := hrel
    obtain ⟨wo, rfl⟩ : ∃ wo, wo = wr := ⟨wr, rfl⟩
    by_cases hlt : i < es.length
    · have HBr : Hid (Below base w wo) := HA.out.below H0.out HB.out
      have HSr : Hid (SlEv (Lt base) wo (.slice A es.length c) es) := SlEv.below HS.out HBr.out (Nat.le_refl _)
      have HIr : Hid (I wo) := HT.out.keep _ _ (HA.out.keepX H0.out) HI.out
      obtain ⟨b, o, ei, di, rfl, hD, hxi, hffi, hdi, a0, a1, a2, a3, a4, a5⟩ := SlEv.at_ HSr.out hlt
      have HXI := Lib.hid hxi
      have HPI := Lib.hid (HPe.out ei (List.mem_of_getElem? hxi))
      have hbr := HBr.out.size
      have hown := HA.out.own
      have hszr := Nat.le_trans HB.out HA.out.grown.size
      have hDw : b < wo.heap.size := Nat.lt_of_lt_of_le hD hszr
      have HVI : Hid (vals[i]? = some (f ei)) := by show _ = _; rw [HV.out, List.getElem?_map, hxi]; rfl
      clear hxi
      go_wp2_with fail
      go_loopw [8] (fun kv wr => ∃ k' : Nat, kv = .int .i64 (k' : Int) ∧ i ≤ k' ∧ k' ≤ es.length ∧ Hid (∀ j, i ≤ j → j < k' → vals[j]? = some (f ei)) ∧ Below wo.heap.size wo wr) (fun kv _ => es.length - (intOf kv).toNat)
      case atStart => exact ⟨i, rfl, Nat.le_refl _, hi, fun j h1 h2 => absurd h1 (by omega), Below.refl _ _⟩
      case round =>
        obtain ⟨k', rfl, hik, hk, HK, hbi⟩ := hrel
        have hDi : b < wr.heap.size := Nat.lt_of_lt_of_le hDw hbi.size
        go_upto_region 4 with fail
        go_cut [32] from 14 to 32 (fun v W => v = .bool (decide (vals[k']? = some (f ei))) ∧ Below wr.heap.size wr W)
        case first =>
          by_cases hlk : k' < es.length
          · obtain ⟨b', o', ek, dk, hA', hD', hxk, hffk, hdk, c0, c1, c2, c3, c4, c5⟩ := SlEv.at_ HSr.out hlk
            have HPK := Lib.hid (HPe.out ek (List.mem_of_getElem? hxk))
            injection hA' with hA'
            injection hA' with e1 e2 _
            subst e1 e2
            have HQ : Hid (decide (vals[k']? = some (f ei)) = decide (f ek = f ei)) := by
              show _ = _
              rw [HV.out, List.getElem?_map, hxk]
              simp
            have hq : ((f ek : Int) == (f ei : Int)) = decide (f ek = f ei) := by
              by_cases hh : f ek = f ei
              · rw [hh]; simp
              · have h2 : ¬ (f ek : Int) = (f ei : Int) := by omega
                simp [hh, h2]
            generalize decide (f ek = f ei) = q at *
            generalize decide (vals[k']? = some (f ei)) = q' at *
            have z1 : decide ((k' : Int) < (es.length : Int)) = true := by simp; omega
            have z2 : (0 : Int) ≤ (k' : Int) := by omega
            have z3 : (k' : Int) < (es.length : Int) := by omega
            have z4 : (0 : Int) ≤ (i : Int) := by omega
            have z5 : (i : Int) < (es.length : Int) := by omega
            have ti0 : ∀ W, (ext wr W).cell? ⟨b, o + i * 6, none⟩ = some (.string ei.cas) := fun W => ((ext_below wr W).cell (p := ⟨b, o + i * 6, none⟩) hDi).trans ((hbi.cell (p := ⟨b, o + i * 6, none⟩) hDw).trans a0)
            have ti1 : ∀ W, (ext wr W).cell? ⟨b, o + i * 6 + 1, none⟩ = some (.string ei.act) := fun W => ((ext_below wr W).cell (p := ⟨b, o + i * 6 + 1, none⟩) hDi).trans ((hbi.cell (p := ⟨b, o + i * 6 + 1, none⟩) hDw).trans a1)
            have ti2 : ∀ W, (ext wr W).cell? ⟨b, o + i * 6 + 2, none⟩ = some (.string ei.res) := fun W => ((ext_below wr W).cell (p := ⟨b, o + i * 6 + 2, none⟩) hDi).trans ((hbi.cell (p := ⟨b, o + i * 6 + 2, none⟩) hDw).trans a2)
            have ti3 : ∀ W, (ext wr W).cell? ⟨b, o + i * 6 + 3, none⟩ = some (.int .i64 ei.life) := fun W => ((ext_below wr W).cell (p := ⟨b, o + i * 6 + 3, none⟩) hDi).trans ((hbi.cell (p := ⟨b, o + i * 6 + 3, none⟩) hDw).trans a3)
            have ti4 : ∀ W, (ext wr W).cell? ⟨b, o + i * 6 + 4, none⟩ = some (.int .i64 ei.time) := fun W => ((ext_below wr W).cell (p := ⟨b, o + i * 6 + 4, none⟩) hDi).trans ((hbi.cell (p := ⟨b, o + i * 6 + 4, none⟩) hDw).trans a4)
            have ti5 : ∀ W, (ext wr W).cell? ⟨b, o + i * 6 + 5, none⟩ = some (di) := fun W => ((ext_below wr W).cell (p := ⟨b, o + i * 6 + 5, none⟩) hDi).trans ((hbi.cell (p := ⟨b, o + i * 6 + 5, none⟩) hDw).trans a5)
            have tk0 : ∀ W, (ext wr W).cell? ⟨b, o + k' * 6, none⟩ = some (.string ek.cas) := fun W => ((ext_below wr W).cell (p := ⟨b, o + k' * 6, none⟩) hDi).trans ((hbi.cell (p := ⟨b, o + k' * 6, none⟩) hDw).trans c0)
            have tk1 : ∀ W, (ext wr W).cell? ⟨b, o + k' * 6 + 1, none⟩ = some (.string ek.act) := fun W => ((ext_below wr W).cell (p := ⟨b, o + k' * 6 + 1, none⟩) hDi).trans ((hbi.cell (p := ⟨b, o + k' * 6 + 1, none⟩) hDw).trans c1)
            have tk2 : ∀ W, (ext wr W).cell? ⟨b, o + k' * 6 + 2, none⟩ = some (.string ek.res) := fun W => ((ext_below wr W).cell (p := ⟨b, o + k' * 6 + 2, none⟩) hDi).trans ((hbi.cell (p := ⟨b, o + k' * 6 + 2, none⟩) hDw).trans c2)
            have tk3 : ∀ W, (ext wr W).cell? ⟨b, o + k' * 6 + 3, none⟩ = some (.int .i64 ek.life) := fun W => ((ext_below wr W).cell (p := ⟨b, o + k' * 6 + 3, none⟩) hDi).trans ((hbi.cell (p := ⟨b, o + k' * 6 + 3, none⟩) hDw).trans c3)
            have tk4 : ∀ W, (ext wr W).cell? ⟨b, o + k' * 6 + 4, none⟩ = some (.int .i64 ek.time) := fun W => ((ext_below wr W).cell (p := ⟨b, o + k' * 6 + 4, none⟩) hDi).trans ((hbi.cell (p := ⟨b, o + k' * 6 + 4, none⟩) hDw).trans c4)
            have tk5 : ∀ W, (ext wr W).cell? ⟨b, o + k' * 6 + 5, none⟩ = some (dk) := fun W => ((ext_below wr W).cell (p := ⟨b, o + k' * 6 + 5, none⟩) hDi).trans ((hbi.cell (p := ⟨b, o + k' * 6 + 5, none⟩) hDw).trans c5)
            have HCI : Hid (∀ W, Calls Tryz.prog k (#[evV ei di] ++ caps) (ext wr W) fun x W' => x = .returned (.int .i64 (f ei : Int)) ∧ Below (ext wr W).heap.size (ext wr W) W') := fun W =>
              HT.out.step _ _ ei HPI.out (HT.out.keep _ _ ((KeepX.of_below hbi).trans (KeepX.of_below (ext_below wr W))) HIr.out) ⟨di, rfl, hffi, (hdi.below (hbi.mono hszr) (Nat.le_refl _)).below ((ext_below wr W).mono (Nat.le_trans hszr hbi.size)) (Nat.le_trans hszr (Nat.le_trans hbi.size (ext_below wr W).size))⟩
            have HCK : Hid (∀ W, Calls Tryz.prog k (#[evV ek dk] ++ caps) (ext wr W) fun x W' => x = .returned (.int .i64 (f ek : Int)) ∧ Below (ext wr W).heap.size (ext wr W) W') := fun W =>
              HT.out.step _ _ ek HPK.out (HT.out.keep _ _ ((KeepX.of_below hbi).trans (KeepX.of_below (ext_below wr W))) HIr.out) ⟨dk, rfl, hffk, (hdk.below (hbi.mono hszr) (Nat.le_refl _)).below ((ext_below wr W).mono (Nat.le_trans hszr hbi.size)) (Nat.le_trans hszr (Nat.le_trans hbi.size (ext_below wr W).size))⟩
            unfold evV at HCI HCK
            clear a0 a1 a2 a3 a4 a5 c0 c1 c2 c3 c4 c5 hxk
            refine wp_region_growV (by kernel_rfl) (by kernel_rfl) ?_
            repeat (refine veil_step (fun K hK => ?_); go_simp; first | (refine hK _ ?_; clear hK K) | (apply Exists.intro; refine ⟨fun Wq => ?_, hK _ ?_⟩; (go_at_fn k; first | exact grow_of (HCK.out Wq) | exact grow_of (HCI.out Wq)); clear hK K))
            refine veil_nil ?_
            intro _ hw'
            obtain ⟨W, rfl⟩ := hw'
            go_wp2_with fail
            go_meet
            exact ⟨by rw [HQ.out], ext_below wr W⟩
          · have HQ : Hid (decide (vals[k']? = some (f ei)) = false) := by
              show _ = _
              rw [HV.out, List.getElem?_eq_none (by rw [List.length_map]; omega)]; rfl
            generalize decide (vals[k']? = some (f ei)) = q' at *
            have z1 : decide ((k' : Int) < (es.length : Int)) = false := by simp; omega
            clear a0 a1 a2 a3 a4 a5
            refine wp_region_growV (by kernel_rfl) (by kernel_rfl) ?_
            repeat (refine veil_step (fun K hK => ?_); go_simp; (refine hK _ ?_; clear hK K))
            refine veil_nil ?_
            intro _ hw'
            obtain ⟨W, rfl⟩ := hw'
            go_wp2_with fail
            go_meet
            exact ⟨by rw [HQ.out], ext_below wr W⟩
        obtain ⟨rfl, hb3⟩ := hcut
        generalize hq : decide (vals[k']? = some (f ei)) = q
        cases q
        · have hne : vals[k']? ≠ some (f ei) := by simpa using hq
          have hik2 : i < k' := by
            rcases Nat.lt_or_ge i k' with h | h
            · exact h
            · obtain rfl : k' = i := by omega
              exact absurd HVI.out hne
          have HST : Hid (arRuns (vals.drop i) = arNum (f ei) ++ arNum (k' - i) ++ arRuns (vals.drop k')) := arRuns_step hik2 (by rw [HV.out]; simpa using hk) HK.out hne
          have hroom : (l ++ d).length + (arNum (f ei)).length + (arNum (k' - i)).length ≤ 9000000 := by
            have h1 := HL.out
            rw [HD.out, HST.out] at h1
            simp only [List.length_append] at h1 ⊢
            omega
          have hfe : f ei < 1000000000 := HF.out ei (List.mem_of_getElem? HXI.out)
          have hb03 := hbi.trans (hb3.mono hbi.size)
          rename_i wc
          have hsc := hb03.size
          have c0 := (hb03.cell (p := ⟨b, o + i * 6, none⟩) hDw).trans a0
          have c1 := (hb03.cell (p := ⟨b, o + i * 6 + 1, none⟩) hDw).trans a1
          have c2 := (hb03.cell (p := ⟨b, o + i * 6 + 2, none⟩) hDw).trans a2
          have c3 := (hb03.cell (p := ⟨b, o + i * 6 + 3, none⟩) hDw).trans a3
          have c4 := (hb03.cell (p := ⟨b, o + i * 6 + 4, none⟩) hDw).trans a4
          have c5 := (hb03.cell (p := ⟨b, o + i * 6 + 5, none⟩) hDw).trans a5
          have HCI := Lib.hid (HT.out.step _ _ ei HPI.out (HT.out.keep _ _ (KeepX.of_below hb03) HIr.out) ⟨di, rfl, hffi, hdi.below (hb03.mono hszr) (Nat.le_trans hszr hsc)⟩)
          unfold evV at HCI
          have hA3 := Lib.hid (HA.out.post hb03)
          have HSZ := Lib.hid (And.intro hszr hsc)
          clear a0 a1 a2 a3 a4 a5 hq hne hb3 hb03 hszr hsc hown
          go_wp2_with (go_at_fn k; (with_reducible refine HCI.out.mono ?_); rintro x w4 ⟨rfl, hb4⟩)
          have hA4 := Lib.hid (hA3.out.post hb4)
          have hc4 := arNumber_any (f ei) base _ _ w4 (by omega) hA4.out.own (by have := HSZ.out; have := hb4.size; omega) (by omega)
          have HC4 := Lib.hid hc4
          clear hc4
          go_wp2_with fail
          (with_reducible refine HC4.out.mono ?_)
          rintro x w5 ⟨v5, rfl, hA5⟩
          have hc5 := arNumber_any (k' - i) base _ _ w5 (by omega) hA5.own (by have := HSZ.out; have := hb4.size; have := hA5.grown.size; omega) (by simp only [List.length_append] at hroom ⊢; omega)
          rw [show ((k' - i : Nat) : Int) = (k' : Int) - (i : Int) by omega] at hc5
          have HC5 := Lib.hid hc5
          have HA5 := Lib.hid hA5
          clear hc5 hA5
          go_wp2_with fail
          (with_reducible refine HC5.out.mono ?_)
          rintro x w6 ⟨v6, rfl, hA6⟩
          go_wp2_with fail
          go_roundw
          case rel =>
            refine ⟨k', d ++ arNum (f ei) ++ arNum (k' - i), rfl, hk, ?_, ?_⟩
            · refine Lib.hid ?_
              rw [HD.out, HST.out]
              simp only [List.append_assoc]
            · refine Lib.hid ?_
              have := (hA4.out.trans HA5.out).trans hA6
              simp only [List.append_assoc] at this ⊢
              exact this
          case measure => simp [intOf]; omega
        · have hqe : vals[k']? = some (f ei) := by simpa using hq
          have hk2 : k' < es.length := by
            rcases Nat.lt_or_ge k' es.length with h | h
            · exact h
            · rw [List.getElem?_eq_none (by rw [HV.out, List.length_map]; exact h)] at hqe; cases hqe
          have HQE := Lib.hid hqe
          clear hq hqe
          go_wp2_with fail
          go_roundw
          case rel => exact ⟨k' + 1, by go_num, by omega, by omega, Lib.hid fun j h1 h2 => (by
            by_cases ej : j = k'
            · subst ej; exact HQE.out
            · exact HK.out j h1 (by omega)), hbi.trans (hb3.mono hbi.size)⟩
          case measure => simp [intOf]; omega
    · obtain rfl : i = es.length := by omega
      go_wp2_with fail
      go_ret
      refine ⟨_, rfl, ?_⟩
      have hd : arRuns vals = d := by rw [HD.out, List.drop_eq_nil_of_le (by rw [HV.out]; simp), arRuns_nil, List.append_nil]
      rw [hd]
      exact HA.out
end Go.Proofs.YtjglmjdfndcmmaaGreat

set_option linter.all false
namespace Go.Proofs.YtjglmjdfndcmmaaGreat
open Go.RowKit Go.Maps Go.WideMaps
theorem wfn {k : Nat} (hk : k < 10000000) : (Lit.int .i64 (k : Int)).wf = true := by
  unfold Lit.wf
  rw [Bool.and_eq_true, decide_eq_true_eq, decide_eq_true_eq]
  have h1 : IntKind.i64.min = -9223372036854775808 := by decide
  have h2 : IntKind.i64.max = 9223372036854775807 := by decide
  omega
theorem perm_setB {ss ks ts : List Bs} (h : ss.Perm ts) (hts : ts.Nodup) (hm : ∀ x, x ∈ ts ↔ x ∈ ks) : ss.mergeSort (fun x y => decide (x ≤ y)) = setB ks := by
  have h1 : (setB ks).Perm ts := (List.perm_ext_iff_of_nodup (asc_nodup (setB_asc ks)) hts).2 fun x => by rw [setB_mem, hm]
  have h2 := mergeSort_of_perm (h.trans h1.symm)
  refine h2.trans ?_
  have hs := setB_asc ks
  refine List.mergeSort_of_pairwise ?_
  exact hs.imp fun {a b} (hab : a < b) => by simpa using List.le_of_lt hab
def MapN (w : World) (b n : Nat) (f : Bs → Option Nat) : Prop :=
  ∃ D : DataW Unit, w.ownsMap Tryz.prog 9 (plainElem Tryz.prog 3) b n D ∧ IsMap D ∧ (∀ s : Bs, has D (.string s) = (f s).isSome) ∧ ∀ s : Bs, D.atKey (.string s) (.lit (.int .i64 0)) = .lit (.int .i64 (((f s).getD 0 : Nat) : Int))
theorem MapN.made (w : World) : MapN (w.alloc (.map #[] 0)) w.heap.size 0 fun _ => none :=
  ⟨.map [], World.ownsMap_made w _ _ _, isMap_empty, fun s => rfl, fun s => rfl⟩
theorem MapN.now {w w' : World} {b n : Nat} {f : Bs → Option Nat} (h : MapN w b n f) (hb : Below w.heap.size w w') : MapN w' b n f := by
  obtain ⟨D, h1, h2, h3⟩ := h
  exact ⟨D, h1.kept (grown_of_below hb none) (by simp), h2, h3⟩
theorem MapN.grown {w w' : World} {b n : Nat} {f : Bs → Option Nat} {row : Option Nat} (h : MapN w b n f) (hb : w.grownBy w' row) (hne : some b ≠ row) : MapN w' b n f := by
  obtain ⟨D, h1, h2, h3⟩ := h
  exact ⟨D, h1.kept hb hne, h2, h3⟩
theorem MapN.lt {w : World} {b n : Nat} {f : Bs → Option Nat} (h : MapN w b n f) : b < w.heap.size := by
  obtain ⟨D, h1, _⟩ := h
  exact h1.lt
theorem MapN.ne {w : World} {b n g : Nat} {f : Bs → Option Nat} (h : MapN w b n f) {cs : Array Value} {t : TypeId} {fz : Nat × Nat} (hg : w.heap[g]? = some (.cells cs t fz)) : some b ≠ some g := by
  rintro ⟨⟩
  obtain ⟨D, ⟨es, clock, hb, _⟩, _⟩ := h
  rw [hb] at hg; cases hg
theorem MapN.look {w : World} {b n : Nat} {f : Bs → Option Nat} (h : MapN w b n f) {s : ByteArray} (hs : s.size ≤ maxLen) :
    (Instr.lookup 116 (.map (some b)) (.string s) false).run Tryz.prog w = .ok (.int .i64 (((f s.data.toList).getD 0 : Nat) : Int)) w := by
  obtain ⟨D, h1, h2, h3, h4⟩ := h
  have hz : (zeroValue 3).run Tryz.prog w = .ok (.int .i64 0) w := by kernel_rfl
  obtain ⟨v, ps, hrun, hv⟩ := h1.lookup (string_keyed Tryz.underlying9) Tryz.underlying116 hz (plainElem_int Tryz.underlying3 (by decide)) (keyOf_string_mk Tryz.underlying9 hs)
  obtain ⟨c, rfl, hc, _⟩ := plainElem_int_inv Tryz.underlying3 hv
  rw [h4] at hc
  simp only [Prod.mk.injEq, DataW.lit.injEq, Lit.int.injEq] at hc
  rw [hc.1.2]
  exact hrun
theorem MapN.put {w : World} {b n : Nat} {f : Bs → Option Nat} (h : MapN w b n f) {s : ByteArray} (hs : s.size ≤ maxLen) (hn : n < maxLen) {k : Nat} (hk : k < 10000000) :
    ∃ w', (Instr.mapUpdate 116 (.map (some b)) (.string s) (.int .i64 (k : Int))).run Tryz.prog w = .ok () w' ∧ MapN w' b (n + 1) (fun t => if t = s.data.toList then some k else f t) ∧ w.grownBy w' (some b) := by
  obtain ⟨D, h1, h2, h3, h4⟩ := h
  obtain ⟨w', r0, r1, r2⟩ := h1.update (string_keyed Tryz.underlying9) Tryz.underlying116 hn (keyOf_string_mk Tryz.underlying9 hs) (plainElem_int Tryz.underlying3 (wfn hk))
  refine ⟨w', r0, ⟨_, r1, h2.put _ _, fun t => ?_, fun t => ?_⟩, r2⟩
  · by_cases e : t = s.data.toList
    · subst e
      rw [has_put_same h2 (by simp [WideAt.IsKeyLit])]; dsimp only; rw [if_pos rfl]; rfl
    · rw [has_put_other (by simpa using e), h3]; dsimp only; rw [if_neg e]
  · by_cases e : t = s.data.toList
    · subst e
      rw [atKey_put_same h2 (by simp [WideAt.IsKeyLit])]; dsimp only; rw [if_pos rfl]; rfl
    · rw [atKey_put_other (by simpa using e), h4]; dsimp only; rw [if_neg e]
theorem MapN.mono {w : World} {b n m : Nat} {f : Bs → Option Nat} (h : MapN w b n f) (hm : n ≤ m) : MapN w b m f := by
  obtain ⟨D, h1, h2⟩ := h
  exact ⟨D, h1.mono hm, h2⟩
theorem MapN.keys {w : World} {b n : Nat} {f : Bs → Option Nat} {ks : List Bs} (h : MapN w b n f) (hf : ∀ s, (f s).isSome = true ↔ s ∈ ks) :
    ∃ D : DataW Unit, w.ownsMap Tryz.prog 9 (plainElem Tryz.prog 3) b n D ∧ Maps.size D ≤ n ∧ ∀ ss : List Bs, ss.Perm (strKeys D) → ss.mergeSort (fun x y => decide (x ≤ y)) = setB ks := by
  obtain ⟨D, h1, h2, h3, h4⟩ := h
  refine ⟨D, h1, h1.size_le, fun ss hss => ?_⟩
  obtain ⟨es, hD, hpw, _⟩ := h1.entries (string_keyed Tryz.underlying9)
  obtain ⟨es', hD', hko⟩ := h1.keysOf
  obtain rfl : es = es' := by rw [hD] at hD'; simpa using hD'
  subst hD
  have hp := perm_strKeys (ss := setB ks) hpw (fun p hp => by obtain ⟨v, hv⟩ := hko p hp; obtain ⟨x, _, hx, _⟩ := Maps.keyOf_str Tryz.underlying9 hv; exact ⟨x, hx⟩) (asc_nodup (setB_asc ks)) (fun x => by rw [setB_mem, h3, hf])
  exact perm_setB (hss.trans hp.symm) (asc_nodup (setB_asc ks)) (fun x => setB_mem ks x)
end Go.Proofs.YtjglmjdfndcmmaaGreat

set_option linter.all false
namespace Go.Proofs.YtjglmjdfndcmmaaGreat
open Go.RowKit Go.Maps
theorem MapN.keepX {w w' : World} {b n : Nat} {f : Bs → Option Nat} (h : MapN w b n f) (k : KeepX w w') : MapN w' b n f := by
  have hlt := h.lt
  obtain ⟨D, ⟨es, clock, hb, rest⟩, r⟩ := h
  exact ⟨D, ⟨es, clock, (k.same b hlt (fun cs fz e => by rw [hb] at e; cases e)).trans hb, rest⟩, r⟩
def HoldsM (g b n : Nat) (f : Bs → Option Nat) (W : World) : Prop := Blk W g 116 #[.map (some b)] ∧ MapN W b n f
theorem HoldsM.keepX {g b n : Nat} {f : Bs → Option Nat} {W W' : World} (h : HoldsM g b n f W) (k : KeepX W W') : HoldsM g b n f W' := ⟨h.1.keepX k (by decide), h.2.keepX k⟩
def lookN (f : Bs → Option Nat) (s : ByteArray) : Nat := (f s.data.toList).getD 0
set_option maxHeartbeats 400000 in
theorem takes1 (g b n : Nat) (f : Bs → Option Nat) : Takes 82 #[.pointer (some ⟨g, 0, none⟩)] (fun e => lookN f e.cas) (HoldsM g b n f) (fun _ => True) := by
  refine ⟨fun z w => enters_of Tryz.func82 (by kernel_rfl) rfl _ w, fun _ _ k h => h.keepX k, ?_⟩
  rintro W u e _ ⟨hB, hM⟩ ⟨dv, rfl, hf, hd⟩
  show Calls Tryz.prog 82 #[evV e dv, .pointer (some ⟨g, 0, none⟩)] W _
  obtain ⟨Ad, cd, rfl, _, _, _⟩ := hd.open_
  have hb1 := bone W (.cells #[.string e.cas, .string e.act, .string e.res, .int .i64 e.life, .int .i64 e.time, .slice Ad e.data.length cd] 57)
  have hN1 := Blk.new W 57 #[.string e.cas, .string e.act, .string e.res, .int .i64 e.life, .int .i64 e.time, .slice Ad e.data.length cd]
  obtain ⟨q0, q1, q2, q3, q4, q5⟩ := hN1.c6
  have hc := (hB.now hb1).c1
  have hlk := (hM.now hb1).look hf.cas
  have HR : Hid (lookN f e.cas = (f e.cas.data.toList).getD 0) := rfl
  generalize (f e.cas.data.toList).getD 0 = z at *
  unfold evV
  clear hB hM hN1 hd hf
  go_enter Tryz.func82, Tryz.ntmps82
  go_wp2_with fail
  go_ret
  exact ⟨by rw [HR.out]; rfl, hb1⟩
set_option maxHeartbeats 400000 in
theorem takes2 (g b n : Nat) (f : Bs → Option Nat) : Takes 83 #[.pointer (some ⟨g, 0, none⟩)] (fun e => lookN f e.act) (HoldsM g b n f) (fun _ => True) := by
  refine ⟨fun z w => enters_of Tryz.func83 (by kernel_rfl) rfl _ w, fun _ _ k h => h.keepX k, ?_⟩
  rintro W u e _ ⟨hB, hM⟩ ⟨dv, rfl, hf, hd⟩
  show Calls Tryz.prog 83 #[evV e dv, .pointer (some ⟨g, 0, none⟩)] W _
  obtain ⟨Ad, cd, rfl, _, _, _⟩ := hd.open_
  have hb1 := bone W (.cells #[.string e.cas, .string e.act, .string e.res, .int .i64 e.life, .int .i64 e.time, .slice Ad e.data.length cd] 57)
  have hN1 := Blk.new W 57 #[.string e.cas, .string e.act, .string e.res, .int .i64 e.life, .int .i64 e.time, .slice Ad e.data.length cd]
  obtain ⟨q0, q1, q2, q3, q4, q5⟩ := hN1.c6
  have hc := (hB.now hb1).c1
  have hlk := (hM.now hb1).look hf.act
  have HR : Hid (lookN f e.act = (f e.act.data.toList).getD 0) := rfl
  generalize (f e.act.data.toList).getD 0 = z at *
  unfold evV
  clear hB hM hN1 hd hf
  go_enter Tryz.func83, Tryz.ntmps83
  go_wp2_with fail
  go_ret
  exact ⟨by rw [HR.out]; rfl, hb1⟩
set_option maxHeartbeats 400000 in
theorem takes3 (g b n : Nat) (f : Bs → Option Nat) : Takes 84 #[.pointer (some ⟨g, 0, none⟩)] (fun e => lookN f e.res) (HoldsM g b n f) (fun _ => True) := by
  refine ⟨fun z w => enters_of Tryz.func84 (by kernel_rfl) rfl _ w, fun _ _ k h => h.keepX k, ?_⟩
  rintro W u e _ ⟨hB, hM⟩ ⟨dv, rfl, hf, hd⟩
  show Calls Tryz.prog 84 #[evV e dv, .pointer (some ⟨g, 0, none⟩)] W _
  obtain ⟨Ad, cd, rfl, _, _, _⟩ := hd.open_
  have hb1 := bone W (.cells #[.string e.cas, .string e.act, .string e.res, .int .i64 e.life, .int .i64 e.time, .slice Ad e.data.length cd] 57)
  have hN1 := Blk.new W 57 #[.string e.cas, .string e.act, .string e.res, .int .i64 e.life, .int .i64 e.time, .slice Ad e.data.length cd]
  obtain ⟨q0, q1, q2, q3, q4, q5⟩ := hN1.c6
  have hc := (hB.now hb1).c1
  have hlk := (hM.now hb1).look hf.res
  have HR : Hid (lookN f e.res = (f e.res.data.toList).getD 0) := rfl
  generalize (f e.res.data.toList).getD 0 = z at *
  unfold evV
  clear hB hM hN1 hd hf
  go_enter Tryz.func84, Tryz.ntmps84
  go_wp2_with fail
  go_ret
  exact ⟨by rw [HR.out]; rfl, hb1⟩
set_option maxHeartbeats 400000 in
theorem takes4 : Takes 85 #[] (fun e => e.life.toNat) (fun _ => True) (fun e => 0 ≤ e.life) := by
  refine ⟨fun z w => enters_of Tryz.func85 (by kernel_rfl) rfl _ w, fun _ _ _ h => h, ?_⟩
  rintro W u e hl _ ⟨dv, rfl, hf, hd⟩
  show Calls Tryz.prog 85 #[evV e dv] W _
  obtain ⟨Ad, cd, rfl, _, _, _⟩ := hd.open_
  obtain ⟨z, hz⟩ : ∃ z : Nat, e.life = z := ⟨e.life.toNat, by omega⟩
  have hz2 : e.life.toNat = z := by omega
  unfold evV
  rw [hz, Int.toNat_natCast]
  have hb1 := bone W (.cells #[.string e.cas, .string e.act, .string e.res, .int .i64 z, .int .i64 e.time, .slice Ad e.data.length cd] 57)
  have hN1 := Blk.new W 57 #[.string e.cas, .string e.act, .string e.res, .int .i64 z, .int .i64 e.time, .slice Ad e.data.length cd]
  obtain ⟨q0, q1, q2, q3, q4, q5⟩ := hN1.c6
  clear hN1 hd hf hl hz hz2
  go_enter Tryz.func85, Tryz.ntmps85
  go_wp2_with fail
  go_ret
  exact ⟨rfl, hb1⟩
end Go.Proofs.YtjglmjdfndcmmaaGreat

namespace Go.Proofs
open Go.Shelf
def Tryz.keys31_ren : Go.Shelf.Ren := ⟨fun | 7 => 31 | 10 => 51 | n => n, fun | 23 => 68 | 26 => 9 | 3 => 4 | 28 => 71 | 0 => 0 | 27 => 70 | 33 => 93 | 4 => 4 | n => n, fun | n => n⟩
theorem Tryz.keys31 : Go.Proofs.SlLaysZ.n7 Tryz.prog Tryz.keys31_ren := {
  mixed := by kernel_rfl
  f7 := ⟨Tryz.f31.name, by decide, Tryz.func31.trans (congrArg some (by kernel_rfl))⟩
  f10 := ⟨Tryz.f51.name, by decide, Tryz.func51.trans (congrArg some (by kernel_rfl))⟩
  t0 := Tryz.underlying0
  a0 := Tryz.isAgg0
  z0 := Tryz.sizeOf0
  v0 := Tryz.zeroValue0
  t4 := Tryz.underlying4
  a4 := Tryz.isAgg4
  z4 := Tryz.sizeOf4
  v4 := Tryz.zeroValue4
  t23 := Tryz.underlying68
  a23 := Tryz.isAgg68
  z23 := Tryz.sizeOf68
  v23 := Tryz.zeroValue68
  t26 := Tryz.underlying9
  a26 := Tryz.isAgg9
  z26 := Tryz.sizeOf9
  v26 := Tryz.zeroValue9
  t27 := Tryz.underlying70
  a27 := Tryz.isAgg70
  z27 := Tryz.sizeOf70
  v27 := Tryz.zeroValue70
  t28 := Tryz.underlying71
  a28 := Tryz.isAgg71
  z28 := Tryz.sizeOf71
  v28 := Tryz.zeroValue71
  t33 := Tryz.underlying93
  a33 := Tryz.isAgg93
  z33 := Tryz.sizeOf93
  v33 := Tryz.zeroValue93 }
def Tryz.sorted30_ren : Go.Shelf.Ren := ⟨fun | 6 => 30 | 8 => 49 | 9 => 50 | 11 => 75 | 13 => 77 | 12 => 76 | 23 => 103 | 24 => 104 | 14 => 94 | 15 => 95 | 16 => 96 | 17 => 97 | 18 => 98 | 19 => 99 | 20 => 100 | 21 => 101 | 22 => 102 | 25 => 110 | 26 => 111 | 27 => 112 | 28 => 113 | 29 => 114 | 30 => 115 | 31 => 117 | n => n, fun | 26 => 9 | 28 => 71 | 24 => 42 | 0 => 0 | 3 => 3 | 37 => 83 | 48 => 101 | 50 => 133 | 4 => 4 | 40 => 124 | 39 => 123 | 45 => 129 | 5 => 5 | 9 => 9 | 51 => 135 | 55 => 139 | 57 => 142 | 58 => 143 | 33 => 93 | n => n, fun | n => n⟩
theorem Tryz.sorted30 : Go.Proofs.SlLaysZ.n6 Tryz.prog Tryz.sorted30_ren := {
  mixed := by kernel_rfl
  f6 := ⟨Tryz.f30.name, by decide, Tryz.func30.trans (congrArg some (by kernel_rfl))⟩
  f8 := ⟨Tryz.f49.name, by decide, Tryz.func49.trans (congrArg some (by kernel_rfl))⟩
  f11 := ⟨Tryz.f75.name, by decide, Tryz.func75.trans (congrArg some (by kernel_rfl))⟩
  t0 := Tryz.underlying0
  a0 := Tryz.isAgg0
  z0 := Tryz.sizeOf0
  v0 := Tryz.zeroValue0
  t24 := Tryz.underlying42
  a24 := Tryz.isAgg42
  z24 := Tryz.sizeOf42
  v24 := Tryz.zeroValue42
  t26 := Tryz.underlying9
  a26 := Tryz.isAgg9
  z26 := Tryz.sizeOf9
  v26 := Tryz.zeroValue9
  t28 := Tryz.underlying71
  a28 := Tryz.isAgg71
  z28 := Tryz.sizeOf71
  v28 := Tryz.zeroValue71
  i26 := by kernel_rfl }
def Tryz.sort50_ren : Go.Shelf.Ren := ⟨fun | 6 => 50 | 8 => 77 | 9 => 76 | 19 => 103 | 20 => 104 | 21 => 94 | 22 => 95 | 23 => 96 | 24 => 97 | 25 => 98 | 26 => 99 | 27 => 100 | 28 => 101 | 29 => 102 | 36 => 110 | 31 => 111 | 32 => 112 | 37 => 113 | 38 => 114 | 39 => 115 | 41 => 117 | n => n, fun | 27 => 42 | 29 => 9 | 3 => 3 | 32 => 83 | 26 => 42 | 0 => 0 | 44 => 101 | 46 => 133 | 4 => 4 | 36 => 124 | 35 => 123 | 41 => 129 | 5 => 5 | 9 => 9 | 53 => 135 | 57 => 139 | 63 => 142 | 64 => 143 | n => n, fun | n => n⟩
theorem Tryz.sort50 : Go.Proofs.SlLaysM.n6 Tryz.prog Tryz.sort50_ren := {
  mixed := by kernel_rfl
  f6 := ⟨Tryz.f50.name, by decide, Tryz.func50.trans (congrArg some (by kernel_rfl))⟩
  f8 := Tryz.func77.trans (congrArg some (by kernel_rfl))
  f9 := ⟨Tryz.f76.name, by decide, Tryz.func76.trans (congrArg some (by kernel_rfl))⟩
  f19 := Tryz.func103.trans (congrArg some (by kernel_rfl))
  f20 := Tryz.func104.trans (congrArg some (by kernel_rfl))
  f21 := ⟨Tryz.f94.name, by decide, Tryz.func94.trans (congrArg some (by kernel_rfl))⟩
  f22 := ⟨Tryz.f95.name, by decide, Tryz.func95.trans (congrArg some (by kernel_rfl))⟩
  f23 := ⟨Tryz.f96.name, by decide, Tryz.func96.trans (congrArg some (by kernel_rfl))⟩
  f24 := ⟨Tryz.f97.name, by decide, Tryz.func97.trans (congrArg some (by kernel_rfl))⟩
  f25 := ⟨Tryz.f98.name, by decide, Tryz.func98.trans (congrArg some (by kernel_rfl))⟩
  f26 := ⟨Tryz.f99.name, by decide, Tryz.func99.trans (congrArg some (by kernel_rfl))⟩
  f27 := ⟨Tryz.f100.name, by decide, Tryz.func100.trans (congrArg some (by kernel_rfl))⟩
  f28 := ⟨Tryz.f101.name, by decide, Tryz.func101.trans (congrArg some (by kernel_rfl))⟩
  f29 := ⟨Tryz.f102.name, by decide, Tryz.func102.trans (congrArg some (by kernel_rfl))⟩
  f31 := Tryz.func111.trans (congrArg some (by kernel_rfl))
  f32 := Tryz.func112.trans (congrArg some (by kernel_rfl))
  f36 := ⟨Tryz.f110.name, by decide, Tryz.func110.trans (congrArg some (by kernel_rfl))⟩
  f37 := ⟨Tryz.f113.name, by decide, Tryz.func113.trans (congrArg some (by kernel_rfl))⟩
  f38 := ⟨Tryz.f114.name, by decide, Tryz.func114.trans (congrArg some (by kernel_rfl))⟩
  f39 := ⟨Tryz.f115.name, by decide, Tryz.func115.trans (congrArg some (by kernel_rfl))⟩
  f41 := ⟨Tryz.f117.name, by decide, Tryz.func117.trans (congrArg some (by kernel_rfl))⟩
  t0 := Tryz.underlying0
  a0 := Tryz.isAgg0
  z0 := Tryz.sizeOf0
  v0 := Tryz.zeroValue0
  t3 := Tryz.underlying3
  a3 := Tryz.isAgg3
  z3 := Tryz.sizeOf3
  v3 := Tryz.zeroValue3
  t4 := Tryz.underlying4
  a4 := Tryz.isAgg4
  z4 := Tryz.sizeOf4
  v4 := Tryz.zeroValue4
  t5 := Tryz.underlying5
  a5 := Tryz.isAgg5
  z5 := Tryz.sizeOf5
  v5 := Tryz.zeroValue5
  t9 := Tryz.underlying9
  a9 := Tryz.isAgg9
  z9 := Tryz.sizeOf9
  v9 := Tryz.zeroValue9
  t26 := Tryz.underlying42
  a26 := Tryz.isAgg42
  z26 := Tryz.sizeOf42
  v26 := Tryz.zeroValue42
  t27 := Tryz.underlying42
  a27 := Tryz.isAgg42
  z27 := Tryz.sizeOf42
  v27 := Tryz.zeroValue42
  t29 := Tryz.underlying9
  a29 := Tryz.isAgg9
  z29 := Tryz.sizeOf9
  v29 := Tryz.zeroValue9
  t32 := Tryz.underlying83
  a32 := Tryz.isAgg83
  z32 := Tryz.sizeOf83
  v32 := Tryz.zeroValue83
  t35 := Tryz.underlying123
  a35 := Tryz.isAgg123
  z35 := Tryz.sizeOf123
  v35 := Tryz.zeroValue123
  t36 := Tryz.underlying124
  a36 := Tryz.isAgg124
  z36 := Tryz.sizeOf124
  v36 := Tryz.zeroValue124
  t41 := Tryz.underlying129
  a41 := Tryz.isAgg129
  z41 := Tryz.sizeOf129
  v41 := Tryz.zeroValue129
  t44 := Tryz.underlying101
  a44 := Tryz.isAgg101
  z44 := Tryz.sizeOf101
  v44 := Tryz.zeroValue101
  t46 := Tryz.underlying133
  a46 := Tryz.isAgg133
  z46 := Tryz.sizeOf133
  v46 := Tryz.zeroValue133
  t53 := Tryz.underlying135
  a53 := Tryz.isAgg135
  z53 := Tryz.sizeOf135
  v53 := Tryz.zeroValue135
  t57 := Tryz.underlying139
  a57 := Tryz.isAgg139
  z57 := Tryz.sizeOf139
  v57 := Tryz.zeroValue139
  t63 := Tryz.underlying142
  a63 := Tryz.isAgg142
  z63 := Tryz.sizeOf142
  v63 := Tryz.zeroValue142
  t64 := Tryz.underlying143
  a64 := Tryz.isAgg143
  z64 := Tryz.sizeOf143
  v64 := Tryz.zeroValue143 }
def Tryz.keys79_ren : Go.Shelf.Ren := ⟨fun | 7 => 79 | 10 => 105 | n => n, fun | 23 => 116 | 26 => 9 | 3 => 3 | 28 => 71 | 0 => 0 | 27 => 70 | 33 => 93 | 4 => 4 | n => n, fun | n => n⟩
theorem Tryz.keys79 : Go.Proofs.SlLaysZ.n7 Tryz.prog Tryz.keys79_ren := {
  mixed := by kernel_rfl
  f7 := ⟨Tryz.f79.name, by decide, Tryz.func79.trans (congrArg some (by kernel_rfl))⟩
  f10 := ⟨Tryz.f105.name, by decide, Tryz.func105.trans (congrArg some (by kernel_rfl))⟩
  t0 := Tryz.underlying0
  a0 := Tryz.isAgg0
  z0 := Tryz.sizeOf0
  v0 := Tryz.zeroValue0
  t4 := Tryz.underlying4
  a4 := Tryz.isAgg4
  z4 := Tryz.sizeOf4
  v4 := Tryz.zeroValue4
  t23 := Tryz.underlying116
  a23 := Tryz.isAgg116
  z23 := Tryz.sizeOf116
  v23 := Tryz.zeroValue116
  t26 := Tryz.underlying9
  a26 := Tryz.isAgg9
  z26 := Tryz.sizeOf9
  v26 := Tryz.zeroValue9
  t27 := Tryz.underlying70
  a27 := Tryz.isAgg70
  z27 := Tryz.sizeOf70
  v27 := Tryz.zeroValue70
  t28 := Tryz.underlying71
  a28 := Tryz.isAgg71
  z28 := Tryz.sizeOf71
  v28 := Tryz.zeroValue71
  t33 := Tryz.underlying93
  a33 := Tryz.isAgg93
  z33 := Tryz.sizeOf93
  v33 := Tryz.zeroValue93 }
end Go.Proofs

namespace Go.Proofs
open Go.Shelf
def Tryz.lays128_ren : Go.Shelf.Ren := ⟨fun | 128 => 103 | n => n, fun | 51 => 101 | 3 => 3 | 4 => 4 | 46 => 83 | 5 => 5 | 9 => 9 | n => n, fun | n => n⟩
def Tryz.lays125_ren : Go.Shelf.Ren := ⟨fun | 125 => 77 | 128 => 103 | 129 => 104 | n => n, fun | 46 => 83 | 3 => 3 | 51 => 101 | 53 => 133 | 4 => 4 | 5 => 5 | 9 => 9 | n => n, fun | n => n⟩
def Tryz.lays129_ren : Go.Shelf.Ren := ⟨fun | 129 => 104 | n => n, fun | 53 => 133 | 3 => 3 | 4 => 4 | 46 => 83 | 5 => 5 | 9 => 9 | n => n, fun | n => n⟩
def Tryz.lays190_ren : Go.Shelf.Ren := ⟨fun | 190 => 50 | 125 => 77 | 258 => 76 | 128 => 103 | 129 => 104 | 302 => 94 | 303 => 95 | 304 => 96 | 305 => 97 | 306 => 98 | 307 => 99 | 308 => 100 | 309 => 101 | 310 => 102 | 333 => 110 | 329 => 111 | 330 => 112 | 334 => 113 | 335 => 114 | 336 => 115 | 344 => 117 | n => n, fun | 31 => 42 | 9 => 9 | 3 => 3 | 46 => 83 | 0 => 0 | 51 => 101 | 53 => 133 | 4 => 4 | 183 => 124 | 182 => 123 | 131 => 129 | 5 => 5 | 218 => 135 | 222 => 139 | 228 => 142 | 229 => 143 | n => n, fun | n => n⟩
theorem Tryz.lays190 : Go.Proofs.Lays.n190 Tryz.prog Tryz.lays190_ren := {
  mixed := by kernel_rfl
  f125 := Tryz.func77.trans (congrArg some (by kernel_rfl))
  f128 := Tryz.func103.trans (congrArg some (by kernel_rfl))
  f129 := Tryz.func104.trans (congrArg some (by kernel_rfl))
  f190 := Tryz.func50.trans (congrArg some (by kernel_rfl))
  f258 := Tryz.func76.trans (congrArg some (by kernel_rfl))
  f302 := Tryz.func94.trans (congrArg some (by kernel_rfl))
  f303 := Tryz.func95.trans (congrArg some (by kernel_rfl))
  f304 := Tryz.func96.trans (congrArg some (by kernel_rfl))
  f305 := Tryz.func97.trans (congrArg some (by kernel_rfl))
  f306 := Tryz.func98.trans (congrArg some (by kernel_rfl))
  f307 := Tryz.func99.trans (congrArg some (by kernel_rfl))
  f308 := Tryz.func100.trans (congrArg some (by kernel_rfl))
  f309 := Tryz.func101.trans (congrArg some (by kernel_rfl))
  f310 := Tryz.func102.trans (congrArg some (by kernel_rfl))
  f329 := Tryz.func111.trans (congrArg some (by kernel_rfl))
  f330 := Tryz.func112.trans (congrArg some (by kernel_rfl))
  f333 := Tryz.func110.trans (congrArg some (by kernel_rfl))
  f334 := Tryz.func113.trans (congrArg some (by kernel_rfl))
  f335 := Tryz.func114.trans (congrArg some (by kernel_rfl))
  f336 := Tryz.func115.trans (congrArg some (by kernel_rfl))
  f344 := Tryz.func117.trans (congrArg some (by kernel_rfl))
  t0 := Tryz.underlying0
  a0 := Tryz.isAgg0
  z0 := Tryz.sizeOf0
  v0 := Tryz.zeroValue0
  t3 := Tryz.underlying3
  a3 := Tryz.isAgg3
  z3 := Tryz.sizeOf3
  v3 := Tryz.zeroValue3
  t4 := Tryz.underlying4
  a4 := Tryz.isAgg4
  z4 := Tryz.sizeOf4
  v4 := Tryz.zeroValue4
  t5 := Tryz.underlying5
  a5 := Tryz.isAgg5
  z5 := Tryz.sizeOf5
  v5 := Tryz.zeroValue5
  t9 := Tryz.underlying9
  a9 := Tryz.isAgg9
  z9 := Tryz.sizeOf9
  v9 := Tryz.zeroValue9
  t31 := Tryz.underlying42
  a31 := Tryz.isAgg42
  z31 := Tryz.sizeOf42
  v31 := Tryz.zeroValue42
  t46 := Tryz.underlying83
  a46 := Tryz.isAgg83
  z46 := Tryz.sizeOf83
  v46 := Tryz.zeroValue83
  t51 := Tryz.underlying101
  a51 := Tryz.isAgg101
  z51 := Tryz.sizeOf101
  v51 := Tryz.zeroValue101
  t53 := Tryz.underlying133
  a53 := Tryz.isAgg133
  z53 := Tryz.sizeOf133
  v53 := Tryz.zeroValue133
  t131 := Tryz.underlying129
  a131 := Tryz.isAgg129
  z131 := Tryz.sizeOf129
  v131 := Tryz.zeroValue129
  t182 := Tryz.underlying123
  a182 := Tryz.isAgg123
  z182 := Tryz.sizeOf123
  v182 := Tryz.zeroValue123
  t183 := Tryz.underlying124
  a183 := Tryz.isAgg124
  z183 := Tryz.sizeOf124
  v183 := Tryz.zeroValue124
  t218 := Tryz.underlying135
  a218 := Tryz.isAgg135
  z218 := Tryz.sizeOf135
  v218 := Tryz.zeroValue135
  t222 := Tryz.underlying139
  a222 := Tryz.isAgg139
  z222 := Tryz.sizeOf139
  v222 := Tryz.zeroValue139
  t228 := Tryz.underlying142
  a228 := Tryz.isAgg142
  z228 := Tryz.sizeOf142
  v228 := Tryz.zeroValue142
  t229 := Tryz.underlying143
  a229 := Tryz.isAgg143
  z229 := Tryz.sizeOf143
  v229 := Tryz.zeroValue143 }
open Go.Sort Go.RowKit in
theorem Tryz.slices_Sort_string (blk off cap : Nat) (ss : List (List UInt8)) (w : World) (hH : Holds encStr w blk off ss.toArray) (hblk : blk < w.heap.size) (hsz : ss.length < 4611686018427387904) :
    Calls Tryz.prog 50 #[.slice (some ⟨blk, off, none⟩) ss.length cap] w fun e w' =>
      e = .returned (.tuple #[]) ∧ ∃ n os, w' = grow (putRow encStr (Sort.ahead w n) blk off (ss.mergeSort fun x y => decide (x ≤ y)).toArray) os := Any.slices_Sort_string Tryz.lays190 blk off cap ss w hH hblk hsz
def Tryz.lays193_ren : Go.Shelf.Ren := ⟨fun | 193 => 19 | n => n, fun | 31 => 42 | 9 => 9 | 4 => 4 | 3 => 3 | 0 => 0 | n => n, fun | n => n⟩
theorem Tryz.lays193 : Go.Proofs.Lays.n193 Tryz.prog Tryz.lays193_ren := {
  mixed := by kernel_rfl
  f193 := Tryz.func19.trans (congrArg some (by kernel_rfl))
  t0 := Tryz.underlying0
  a0 := Tryz.isAgg0
  z0 := Tryz.sizeOf0
  v0 := Tryz.zeroValue0
  t3 := Tryz.underlying3
  a3 := Tryz.isAgg3
  z3 := Tryz.sizeOf3
  v3 := Tryz.zeroValue3
  t4 := Tryz.underlying4
  a4 := Tryz.isAgg4
  z4 := Tryz.sizeOf4
  v4 := Tryz.zeroValue4
  t9 := Tryz.underlying9
  a9 := Tryz.isAgg9
  z9 := Tryz.sizeOf9
  v9 := Tryz.zeroValue9
  t31 := Tryz.underlying42
  a31 := Tryz.isAgg42
  z31 := Tryz.sizeOf42
  v31 := Tryz.zeroValue42 }
open Go.RowKit Go.Lib in
theorem Tryz.slices_Equal_string (b1 o1 n c b2 o2 m d : Nat) (xs ys : List ByteArray) (w : World) (hx : n ≤ xs.length) (hy : m ≤ ys.length) (hbig : n ≤ 9223372036854775807) (hbig2 : m ≤ 9223372036854775807) (hc1 : ∀ j, j < xs.length → w.cell? ⟨b1, o1 + j, none⟩ = some (.string (xs.getD j ByteArray.empty))) (hc2 : ∀ j, j < ys.length → w.cell? ⟨b2, o2 + j, none⟩ = some (.string (ys.getD j ByteArray.empty))) :
    Calls Tryz.prog 19 #[.slice (some ⟨b1, o1, none⟩) n c, .slice (some ⟨b2, o2, none⟩) m d] w fun e w' => e = .returned (.bool (decide (xs.take n = ys.take m))) ∧ ∃ q, w' = w.drewN q := Any.slices_Equal_string Tryz.lays193 b1 o1 n c b2 o2 m d xs ys w hx hy hbig hbig2 hc1 hc2
open Go.RowKit Go.Lib in
theorem Tryz.slices_Equal_string_empty (a1 a2 : Option Addr) (c m d : Nat) (w : World) (hbig2 : m ≤ 9223372036854775807) :
    Calls Tryz.prog 19 #[.slice a1 0 c, .slice a2 m d] w fun e w' => e = .returned (.bool (decide (m = 0))) ∧ w' = w := Any.slices_Equal_string_empty Tryz.lays193 a1 a2 c m d w hbig2
open Go.RowKit Go.Sort in
theorem Tryz.slices_Sort_string_none (p : Option Addr) (cap : Nat) (w : World) :
    Calls Tryz.prog 50 #[.slice p 0 cap] w fun e w' => e = .returned (.tuple #[]) ∧ w' = w := Any.slices_Sort_string_none Tryz.lays190 p cap w
open Go.RowKit Go.Lib in
theorem Tryz.slices_Equal_string_lens (a1 a2 : Option Addr) (n c m d : Nat) (w : World) (hnm : n ≠ m) :
    Calls Tryz.prog 19 #[.slice a1 n c, .slice a2 m d] w fun e w' => e = .returned (.bool false) ∧ w' = w := Any.slices_Equal_string_lens Tryz.lays193 a1 a2 n c m d w hnm
def Tryz.lays115_ren : Go.Shelf.Ren := ⟨fun | 115 => 10 | n => n, fun | 37 => 22 | 4 => 4 | 9 => 9 | 5 => 5 | n => n, fun | n => n⟩
def Tryz.laysnb116_ren : Go.Shelf.Ren := ⟨fun | 116 => 22 | 115 => 10 | n => n, fun | 37 => 22 | 4 => 4 | 3 => 3 | 9 => 9 | 5 => 5 | n => n, fun | n => n⟩
theorem Tryz.laysnb116 : Go.Proofs.Lays.nb116 Tryz.prog Tryz.laysnb116_ren := {
  mixed := by kernel_rfl
  f115 := Tryz.func10.trans (congrArg some (by kernel_rfl))
  f116 := Tryz.func22.trans (congrArg some (by kernel_rfl))
  t3 := Tryz.underlying3
  a3 := Tryz.isAgg3
  z3 := Tryz.sizeOf3
  v3 := Tryz.zeroValue3
  t4 := Tryz.underlying4
  a4 := Tryz.isAgg4
  z4 := Tryz.sizeOf4
  v4 := Tryz.zeroValue4
  t9 := Tryz.underlying9
  a9 := Tryz.isAgg9
  z9 := Tryz.sizeOf9
  v9 := Tryz.zeroValue9
  t37 := Tryz.underlying22
  a37 := Tryz.isAgg22
  z37 := Tryz.sizeOf22
  v37 := Tryz.zeroValue22
  t5 := Tryz.underlying5
  a5 := Tryz.isAgg5
  z5 := Tryz.sizeOf5
  v5 := Tryz.zeroValue5 }
theorem Tryz.bytes_HasPrefix_all (p1 p2 : Option Addr) (n c m d : Nat) (xs ys : List Int) (w : World) (hx : xs.length = n) (hy : ys.length = m) (hnc : n ≤ c) (h1 : Lib.BytesIn w p1 n xs) (h2 : Lib.BytesIn w p2 m ys) :
    Calls Tryz.prog 22 #[.slice p1 n c, .slice p2 m d] w fun e w' => e = .returned (.bool (Lib.hasPrefix (Lib.bytesOf xs) (Lib.bytesOf ys))) ∧ w' = w := Any.bytes_HasPrefix_all Tryz.laysnb116 p1 p2 n c m d xs ys w hx hy hnc h1 h2
def Tryz.laysnb115_ren : Go.Shelf.Ren := ⟨fun | 115 => 10 | n => n, fun | 37 => 22 | 4 => 4 | 9 => 9 | 5 => 5 | n => n, fun | n => n⟩
theorem Tryz.laysnb115 : Go.Proofs.Lays.nb115 Tryz.prog Tryz.laysnb115_ren := {
  mixed := by kernel_rfl
  f115 := Tryz.func10.trans (congrArg some (by kernel_rfl))
  t4 := Tryz.underlying4
  a4 := Tryz.isAgg4
  z4 := Tryz.sizeOf4
  v4 := Tryz.zeroValue4
  t9 := Tryz.underlying9
  a9 := Tryz.isAgg9
  z9 := Tryz.sizeOf9
  v9 := Tryz.zeroValue9
  t37 := Tryz.underlying22
  a37 := Tryz.isAgg22
  z37 := Tryz.sizeOf22
  v37 := Tryz.zeroValue22
  t5 := Tryz.underlying5
  a5 := Tryz.isAgg5
  z5 := Tryz.sizeOf5
  v5 := Tryz.zeroValue5 }
theorem Tryz.bytes_Equal_all (p1 p2 : Option Addr) (n c m d : Nat) (xs ys : List Int) (w : World) (hx : xs.length = n) (hy : ys.length = m) (h1 : Lib.BytesIn w p1 n xs) (h2 : Lib.BytesIn w p2 m ys) :
    Calls Tryz.prog 10 #[.slice p1 n c, .slice p2 m d] w fun e w' => e = .returned (.bool (Lib.bytesOf xs == Lib.bytesOf ys)) ∧ w' = w := Any.bytes_Equal_all Tryz.laysnb115 p1 p2 n c m d xs ys w hx hy h1 h2
end Go.Proofs

set_option linter.all false
namespace Go.Proofs.YtjglmjdfndcmmaaGreat
open Go.RowKit
def mkS (l : Bs) : ByteArray := ⟨l.toArray⟩
theorem mkS_data (l : Bs) : (mkS l).data.toList = l := rfl
theorem mkS_toList (l : Bs) : (mkS l).toList = l := by rw [Lib.toList_data]; rfl
theorem mkS_of (s : ByteArray) : mkS s.data.toList = s := by cases s; rfl
theorem mkS_size (l : Bs) : (mkS l).size = l.length := rfl
theorem less_eq : ∀ (x y : Bs), Op.bytesLess x y = decide (x < y)
  | [], [] => by simp [Op.bytesLess]
  | _ :: _, [] => by simp [Op.bytesLess]
  | [], _ :: _ => by simp [Op.bytesLess]
  | a :: x, b :: y => by
    rw [Op.bytesLess, less_eq x y]
    simp only [List.cons_lt_cons_iff]
    by_cases h1 : a < b <;> by_cases h2 : a = b <;> by_cases h3 : x < y <;> simp [h1, h2, h3]
abbrev OwnS (w : World) (base : Nat) (v : Value) (ss : List Bs) : Prop := w.ownsRow base 9 1 v ss.length (ss.map encStr)
theorem OwnS.slS {w : World} {base : Nat} {v : Value} {ss : List Bs} (h : OwnS w base v ss) (hf : ∀ s ∈ ss, s.length ≤ maxLen) : SlS (Lt w.heap.size) w v (ss.map mkS) :=
  SlS.of_own (zs := ss.map mkS) (by rw [List.map_map]; exact h) (fun z hz => by obtain ⟨s, hs, rfl⟩ := List.mem_map.1 hz; exact hf s hs)
end Go.Proofs.YtjglmjdfndcmmaaGreat

set_option linter.all false
namespace Go.Proofs.YtjglmjdfndcmmaaGreat
open Go.RowKit Go.Maps Go.Sort Go.Shelf
theorem sortsN (m : Nat) : AnyZ.SortsIn Tryz.prog Tryz.sorted30_ren Fence.wide m :=
  ⟨fun blk off cap ss W hH hblk hsz => callsIn_wide.2 (AnyM.slices_Sort_string Tryz.sort50 blk off cap ss W hH hblk hsz),
   fun p cap W => callsIn_wide.2 (AnyM.slices_Sort_string_none Tryz.sort50 p cap W)⟩
theorem keysN (mb : Option Nat) (W : World) : Calls Tryz.prog 79 #[.map mb] W fun e w' => e = .returned (.func (.func 105) #[] #[.pointer (some ⟨W.heap.size, 0, none⟩)]) ∧ w' = W.alloc (.cells #[.map mb] 116) :=
  (callsIn_wide (n := 5)).1 (AnyZ.keys_in Tryz.keys79 Fence.wide 5 trivial rfl mb W)
set_option maxHeartbeats 1000000 in
theorem sortedN (b n : Nat) (f : Bs → Option Nat) (ks : List Bs) (w : World) (hM : MapN w b n f) (hf : ∀ s, (f s).isSome = true ↔ s ∈ ks) (hn : n ≤ 1000000) :
    Calls Tryz.prog 30 #[.func (.func 105) #[] #[.pointer (some ⟨w.heap.size, 0, none⟩)]] (w.alloc (.cells #[.map (some b)] 116)) fun e w' =>
      ∃ v : Value, e = .returned v ∧ OwnS w' (w.alloc (.cells #[.map (some b)] 116)).heap.size v (setB ks) ∧ Below (w.alloc (.cells #[.map (some b)] 116)).heap.size (w.alloc (.cells #[.map (some b)] 116)) w' := by
  obtain ⟨D0, hown, hsz, hperm⟩ := hM.keys hf
  have hbl := hown.lt
  have hseq : SeqGives Fence.wide 2 Tryz.prog 105 #[.pointer (some ⟨w.heap.size, 0, none⟩)] encStr (fun ss => ss.Perm (strKeys D0)) (Maps.size D0) (w.alloc (.cells #[.map (some b)] 116)) :=
    AnyZ.keys_gives (ρ := Tryz.keys79_ren) { Tryz.keys79 with } Fence.wide _ trivial rfl (by omega) w.heap.size b n D0 _ (by simp) (by simp) (by
      obtain ⟨es, clock, hb, Ft, hs, hD⟩ := hown
      exact ⟨es, clock, (Below.heap_alloc _ _ b hbl).trans hb, Ft, hs, hD⟩)
  refine ((callsIn_wide (n := 5)).1 (AnyZ.sorted_in Tryz.sorted30 Fence.wide 5 trivial trivial trivial trivial rfl (by omega) (sortsN _) (enters_of Tryz.func50 (by kernel_rfl) rfl) 105 #[.pointer (some ⟨w.heap.size, 0, none⟩)] trivial (enters_of Tryz.func105 (by kernel_rfl) rfl) _ _ (by unfold maxLen; omega) (by omega) _ hseq)).mono ?_
  rintro e w' ⟨v, ss, rfl, hS, hrow, _, hb⟩
  refine ⟨v, rfl, ?_, hb⟩
  have h1 := hperm ss hS
  have h2 : (ss.mergeSort (fun x y => decide (x ≤ y))).length = ss.length := (List.mergeSort_perm ss _).length_eq
  unfold OwnS
  rw [← h1, h2]
  exact hrow
end Go.Proofs.YtjglmjdfndcmmaaGreat
