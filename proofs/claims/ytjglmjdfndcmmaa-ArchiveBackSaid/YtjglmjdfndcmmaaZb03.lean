/- Texts of this seat, merged. -/
import Derived.Deep.CutRange
import Derived.Test.YtjglmjdfndcmmaaProg
import Derived.Maps.OwnOps
import Derived.Maps.OwnSet
import Derived.Maps.Views
import Derived.Maps.Keyed
import Derived.StringKeys
import Derived.Sort.KeysCollected
import Derived.Shelf.SlIter.Nil
import Derived.Shelf.SortM.Plain
import Derived.Shelf.SortM.SortNone
import Derived.Ground.GgzProg
import Derived.Ground.SlgmProg
import Derived.Shelf.Small.Bits
import Derived.Shelf.Strconv.Itoa0
import Derived.Shelf.Sort.Plain
import Derived.Shelf.Slices.Turned
import Derived.Shelf.Slices.In.SortNone
import Derived.Shelf.Bytes.SlSearch0
import Derived.Shelf.Bytes.SlSmallAll
import Derived.Shelf.Bytes.SlEqualAll
import Derived.Shelf.Bytes.Small
import Derived.Sort.OwnSorted
import Derived.Lib.Bytes
import Derived.Test.YtjglmjdfndcmmaaZb01
import Derived.Test.YtjglmjdfndcmmaaZb02
set_option linter.all false
set_option linter.all false
namespace Go.Proofs.Ytjglmjdfndcmmaa
open Go.RowKit
structure KeepX (W W' : World) : Prop where
  size : W.heap.size ≤ W'.heap.size
  same : ∀ g, g < W.heap.size → (∀ cs fz, W.heap[g]? ≠ some (.cells cs 5 fz)) → W'.heap[g]? = W.heap[g]?
theorem KeepX.refl (W : World) : KeepX W W := ⟨Nat.le_refl _, fun _ _ _ => rfl⟩
theorem KeepX.trans {A B C : World} (h : KeepX A B) (k : KeepX B C) : KeepX A C :=
  ⟨Nat.le_trans h.size k.size, fun g hg hn => (k.same g (Nat.lt_of_lt_of_le hg h.size) (fun cs fz => by rw [h.same g hg hn]; exact hn cs fz)).trans (h.same g hg hn)⟩
theorem KeepX.of_below {W W' : World} (h : Below W.heap.size W W') : KeepX W W' := ⟨h.size, fun g hg _ => h.block g hg⟩
theorem Adds.keepX {base : Nat} {w w' : World} {v v' : Value} {l l0 : List UInt8} (h : Adds base w v l w' v') (h0 : OwnC w base v l0) : KeepX w w' :=
  ⟨h.grown.size, fun g hg hn => h.grown.block g hg (fun e => by
    obtain ⟨c, fz, hc⟩ := Lib.ownsRow_kind h0 g e.symm
    exact hn _ _ hc)⟩
theorem Blk.keepX {w w' : World} {g t : Nat} {cs : Array Value} (hB : Blk w g t cs) (h : KeepX w w') (ht : t ≠ 5) : Blk w' g t cs :=
  (h.same g hB.lt (fun c fz e => by
    have := hB.symm.trans e
    injection this with this
    injection this with _ e2 _
    exact ht e2)).trans hB
structure Takes (k : FuncId) (caps : Array Value) (f : Ev → Nat) (I : World → Prop) (Pe : Ev → Prop) : Prop where
  enter : ∀ z w, (callFunc k (#[z] ++ caps)).run Try.prog w = .ok (.enter k (#[z] ++ caps)) w
  keep : ∀ W W', KeepX W W' → I W → I W'
  step : ∀ W u e, Pe e → I W → IsEv (Lt W.heap.size) W u e → Calls Try.prog k (#[u] ++ caps) W fun x W' => x = .returned (.int .i64 (f e : Int)) ∧ Below W.heap.size W W'
set_option maxHeartbeats 2000000 in
set_option maxRecDepth 100000 in
theorem runs_any (k : FuncId) (caps : Array Value) (f : Ev → Nat) (I : World → Prop) (Pe : Ev → Prop) (hT : Takes k caps f I Pe) (es : List Ev) (u : Value) (base : Nat) (v : Value) (l : List UInt8) (w : World)
    (hf : ∀ e ∈ es, f e < 1000000000) (hPe : ∀ e ∈ es, Pe e) (hu : SlEv (Lt base) w u es) (hI : I w) (hown : OwnC w base v l) (hb : base ≤ w.heap.size) (hl : l.length + (arRuns (es.map f)).length ≤ 9000000) :
    Calls Try.prog 83 #[v, u, .func (.func k) #[] caps] w (RetAdd base w v (l ++ arRuns (es.map f))) := by
  obtain ⟨A, c, rfl, h1, h2, hs⟩ := hu.open_
  have HS := Lib.hid hs
  have HT := Lib.hid hT
  have HF := Lib.hid hf
  have HPe := Lib.hid hPe
  have H0 := Lib.hid hown
  have HA0 := Lib.hid (Adds.refl hown)
  have HI := Lib.hid hI
  have HB := Lib.hid hb
  have HLN : Hid (∃ vals : List Nat, vals = es.map f) := ⟨_, rfl⟩
  obtain ⟨vals, hvals⟩ := HLN.out
  rw [← hvals] at hl ⊢
  have HV := Lib.hid hvals
  have HL := Lib.hid hl
  have eg := HT.out.enter
  clear hu hs hT hf hPe hown hI hb hvals hl HLN
  go_enter Try.func83, Try.ntmps83
  go_wp2_with fail
  go_loopw [0, 7] (fun sv iv wr => ∃ (i : Nat) (d : List UInt8), iv = .int .i64 (i : Int) ∧ i ≤ es.length ∧ Hid (arRuns vals = d ++ arRuns (vals.drop i)) ∧ Hid (Adds base w v (l ++ d) wr sv)) (fun _ iv _ => es.length - (intOf iv).toNat)
  case atStart => exact ⟨0, [], rfl, Nat.zero_le _, rfl, Lib.hid (by simpa using HA0.out)⟩
  case round =>
    obtain ⟨i, d, rfl, hi, HD, HA⟩ := hrel
    obtain ⟨wo, rfl⟩ : ∃ wo, wo = wr := ⟨wr, rfl⟩
    by_cases hlt : i < es.length
    · have HBr : Hid (Below base w wo) := HA.out.below H0.out HB.out
      have HSr : Hid (SlEv (Lt base) wo (.slice A es.length c) es) := SlEv.below HS.out HBr.out (Nat.le_refl _)
      have HIr : Hid (I wo) := HT.out.keep _ _ (HA.out.keepX H0.out) HI.out
      obtain ⟨b, o, ei, di, rfl, hD, hxi, hffi, hdi, a0, a1, a2, a3, a4, a5⟩ := SlEv.at_ HSr.out hlt
      have HXI := Lib.hid hxi
      have HPI := Lib.hid (HPe.out ei (List.mem_of_getElem? hxi))
      have hbr := HBr.out.size
      have hown := HA.out.own
      have hszr := Nat.le_trans HB.out HA.out.grown.size
      have hDw : b < wo.heap.size := Nat.lt_of_lt_of_le hD hszr
      have HVI : Hid (vals[i]? = some (f ei)) := by show _ = _; rw [HV.out, List.getElem?_map, hxi]; rfl
      clear hxi
      go_wp2_with fail
      go_loopw [8] (fun kv wr => ∃ k' : Nat, kv = .int .i64 (k' : Int) ∧ i ≤ k' ∧ k' ≤ es.length ∧ Hid (∀ j, i ≤ j → j < k' → vals[j]? = some (f ei)) ∧ Below wo.heap.size wo wr) (fun kv _ => es.length - (intOf kv).toNat)
      case atStart => exact ⟨i, rfl, Nat.le_refl _, hi, fun j h1 h2 => absurd h1 (by omega), Below.refl _ _⟩
      case round =>
        obtain ⟨k', rfl, hik, hk, HK, hbi⟩ := hrel
        have hDi : b < wr.heap.size := Nat.lt_of_lt_of_le hDw hbi.size
        go_upto_region 4 with fail
        go_cut [32] from 14 to 32 (fun v W => v = .bool (decide (vals[k']? = some (f ei))) ∧ Below wr.heap.size wr W)
        case first =>
          by_cases hlk : k' < es.length
          · obtain ⟨b', o', ek, dk, hA', hD', hxk, hffk, hdk, c0, c1, c2, c3, c4, c5⟩ := SlEv.at_ HSr.out hlk
            have HPK := Lib.hid (HPe.out ek (List.mem_of_getElem? hxk))
            injection hA' with hA'
            injection hA' with e1 e2 _
            subst e1 e2
            have HQ : Hid (decide (vals[k']? = some (f ei)) = decide (f ek = f ei)) := by
              show _ = _
              rw [HV.out, List.getElem?_map, hxk]
              simp
            have hq : ((f ek : Int) == (f ei : Int)) = decide (f ek = f ei) := by
              by_cases hh : f ek = f ei
              · rw [hh]; simp
              · have h2 : ¬ (f ek : Int) = (f ei : Int) := by omega
                simp [hh, h2]
            generalize decide (f ek = f ei) = q at *
            generalize decide (vals[k']? = some (f ei)) = q' at *
            have z1 : decide ((k' : Int) < (es.length : Int)) = true := by simp; omega
            have z2 : (0 : Int) ≤ (k' : Int) := by omega
            have z3 : (k' : Int) < (es.length : Int) := by omega
            have z4 : (0 : Int) ≤ (i : Int) := by omega
            have z5 : (i : Int) < (es.length : Int) := by omega
            have ti0 : ∀ W, (ext wr W).cell? ⟨b, o + i * 6, none⟩ = some (.string ei.cas) := fun W => ((ext_below wr W).cell (p := ⟨b, o + i * 6, none⟩) hDi).trans ((hbi.cell (p := ⟨b, o + i * 6, none⟩) hDw).trans a0)
            have ti1 : ∀ W, (ext wr W).cell? ⟨b, o + i * 6 + 1, none⟩ = some (.string ei.act) := fun W => ((ext_below wr W).cell (p := ⟨b, o + i * 6 + 1, none⟩) hDi).trans ((hbi.cell (p := ⟨b, o + i * 6 + 1, none⟩) hDw).trans a1)
            have ti2 : ∀ W, (ext wr W).cell? ⟨b, o + i * 6 + 2, none⟩ = some (.string ei.res) := fun W => ((ext_below wr W).cell (p := ⟨b, o + i * 6 + 2, none⟩) hDi).trans ((hbi.cell (p := ⟨b, o + i * 6 + 2, none⟩) hDw).trans a2)
            have ti3 : ∀ W, (ext wr W).cell? ⟨b, o + i * 6 + 3, none⟩ = some (.int .i64 ei.life) := fun W => ((ext_below wr W).cell (p := ⟨b, o + i * 6 + 3, none⟩) hDi).trans ((hbi.cell (p := ⟨b, o + i * 6 + 3, none⟩) hDw).trans a3)
            have ti4 : ∀ W, (ext wr W).cell? ⟨b, o + i * 6 + 4, none⟩ = some (.int .i64 ei.time) := fun W => ((ext_below wr W).cell (p := ⟨b, o + i * 6 + 4, none⟩) hDi).trans ((hbi.cell (p := ⟨b, o + i * 6 + 4, none⟩) hDw).trans a4)
            have ti5 : ∀ W, (ext wr W).cell? ⟨b, o + i * 6 + 5, none⟩ = some (di) := fun W => ((ext_below wr W).cell (p := ⟨b, o + i * 6 + 5, none⟩) hDi).trans ((hbi.cell (p := ⟨b, o + i * 6 + 5, none⟩) hDw).trans a5)
            have tk0 : ∀ W, (ext wr W).cell? ⟨b, o + k' * 6, none⟩ = some (.string ek.cas) := fun W => ((ext_below wr W).cell (p := ⟨b, o + k' * 6, none⟩) hDi).trans ((hbi.cell (p := ⟨b, o + k' * 6, none⟩) hDw).trans c0)
            have tk1 : ∀ W, (ext wr W).cell? ⟨b, o + k' * 6 + 1, none⟩ = some (.string ek.act) := fun W => ((ext_below wr W).cell (p := ⟨b, o + k' * 6 + 1, none⟩) hDi).trans ((hbi.cell (p := ⟨b, o + k' * 6 + 1, none⟩) hDw).trans c1)
            have tk2 : ∀ W, (ext wr W).cell? ⟨b, o + k' * 6 + 2, none⟩ = some (.string ek.res) := fun W => ((ext_below wr W).cell (p := ⟨b, o + k' * 6 + 2, none⟩) hDi).trans ((hbi.cell (p := ⟨b, o + k' * 6 + 2, none⟩) hDw).trans c2)
            have tk3 : ∀ W, (ext wr W).cell? ⟨b, o + k' * 6 + 3, none⟩ = some (.int .i64 ek.life) := fun W => ((ext_below wr W).cell (p := ⟨b, o + k' * 6 + 3, none⟩) hDi).trans ((hbi.cell (p := ⟨b, o + k' * 6 + 3, none⟩) hDw).trans c3)
            have tk4 : ∀ W, (ext wr W).cell? ⟨b, o + k' * 6 + 4, none⟩ = some (.int .i64 ek.time) := fun W => ((ext_below wr W).cell (p := ⟨b, o + k' * 6 + 4, none⟩) hDi).trans ((hbi.cell (p := ⟨b, o + k' * 6 + 4, none⟩) hDw).trans c4)
            have tk5 : ∀ W, (ext wr W).cell? ⟨b, o + k' * 6 + 5, none⟩ = some (dk) := fun W => ((ext_below wr W).cell (p := ⟨b, o + k' * 6 + 5, none⟩) hDi).trans ((hbi.cell (p := ⟨b, o + k' * 6 + 5, none⟩) hDw).trans c5)
            have HCI : Hid (∀ W, Calls Try.prog k (#[evV ei di] ++ caps) (ext wr W) fun x W' => x = .returned (.int .i64 (f ei : Int)) ∧ Below (ext wr W).heap.size (ext wr W) W') := fun W =>
              HT.out.step _ _ ei HPI.out (HT.out.keep _ _ ((KeepX.of_below hbi).trans (KeepX.of_below (ext_below wr W))) HIr.out) ⟨di, rfl, hffi, (hdi.below (hbi.mono hszr) (Nat.le_refl _)).below ((ext_below wr W).mono (Nat.le_trans hszr hbi.size)) (Nat.le_trans hszr (Nat.le_trans hbi.size (ext_below wr W).size))⟩
            have HCK : Hid (∀ W, Calls Try.prog k (#[evV ek dk] ++ caps) (ext wr W) fun x W' => x = .returned (.int .i64 (f ek : Int)) ∧ Below (ext wr W).heap.size (ext wr W) W') := fun W =>
              HT.out.step _ _ ek HPK.out (HT.out.keep _ _ ((KeepX.of_below hbi).trans (KeepX.of_below (ext_below wr W))) HIr.out) ⟨dk, rfl, hffk, (hdk.below (hbi.mono hszr) (Nat.le_refl _)).below ((ext_below wr W).mono (Nat.le_trans hszr hbi.size)) (Nat.le_trans hszr (Nat.le_trans hbi.size (ext_below wr W).size))⟩
            unfold evV at HCI HCK
            clear a0 a1 a2 a3 a4 a5 c0 c1 c2 c3 c4 c5 hxk
            refine wp_region_growV (by kernel_rfl) (by kernel_rfl) ?_
            repeat (refine veil_step (fun K hK => ?_); go_simp; first | (refine hK _ ?_; clear hK K) | (apply Exists.intro; refine ⟨fun Wq => ?_, hK _ ?_⟩; (go_at_fn k; first | exact grow_of (HCK.out Wq) | exact grow_of (HCI.out Wq)); clear hK K))
            refine veil_nil ?_
            intro _ hw'
            obtain ⟨W, rfl⟩ := hw'
            go_wp2_with fail
            go_meet
            exact ⟨by rw [HQ.out], ext_below wr W⟩
          · have HQ : Hid (decide (vals[k']? = some (f ei)) = false) := by
              show _ = _
              rw [HV.out, List.getElem?_eq_none (by rw [List.length_map]; omega)]; rfl
            generalize decide (vals[k']? = some (f ei)) = q' at *
            have z1 : decide ((k' : Int) < (es.length : Int)) = false := by simp; omega
            clear a0 a1 a2 a3 a4 a5
            refine wp_region_growV (by kernel_rfl) (by kernel_rfl) ?_
            repeat (refine veil_step (fun K hK => ?_); go_simp; (refine hK _ ?_; clear hK K))
            refine veil_nil ?_
            intro _ hw'
            obtain ⟨W, rfl⟩ := hw'
            go_wp2_with fail
            go_meet
            exact ⟨by rw [HQ.out], ext_below wr W⟩
        obtain ⟨rfl, hb3⟩ := hcut
        generalize hq : decide (vals[k']? = some (f ei)) = q
        cases q
        · have hne : vals[k']? ≠ some (f ei) := by simpa using hq
          have hik2 : i < k' := by
            rcases Nat.lt_or_ge i k' with h | h
            · exact h
            · obtain rfl : k' = i := by omega
              exact absurd HVI.out hne
          have HST : Hid (arRuns (vals.drop i) = arNum (f ei) ++ arNum (k' - i) ++ arRuns (vals.drop k')) := arRuns_step hik2 (by rw [HV.out]; simpa using hk) HK.out hne
          have hroom : (l ++ d).length + (arNum (f ei)).length + (arNum (k' - i)).length ≤ 9000000 := by
            have h1 := HL.out
            rw [HD.out, HST.out] at h1
            simp only [List.length_append] at h1 ⊢
            omega
          have hfe : f ei < 1000000000 := HF.out ei (List.mem_of_getElem? HXI.out)
          have hb03 := hbi.trans (hb3.mono hbi.size)
          rename_i wc
          have hsc := hb03.size
          have c0 := (hb03.cell (p := ⟨b, o + i * 6, none⟩) hDw).trans a0
          have c1 := (hb03.cell (p := ⟨b, o + i * 6 + 1, none⟩) hDw).trans a1
          have c2 := (hb03.cell (p := ⟨b, o + i * 6 + 2, none⟩) hDw).trans a2
          have c3 := (hb03.cell (p := ⟨b, o + i * 6 + 3, none⟩) hDw).trans a3
          have c4 := (hb03.cell (p := ⟨b, o + i * 6 + 4, none⟩) hDw).trans a4
          have c5 := (hb03.cell (p := ⟨b, o + i * 6 + 5, none⟩) hDw).trans a5
          have HCI := Lib.hid (HT.out.step _ _ ei HPI.out (HT.out.keep _ _ (KeepX.of_below hb03) HIr.out) ⟨di, rfl, hffi, hdi.below (hb03.mono hszr) (Nat.le_trans hszr hsc)⟩)
          unfold evV at HCI
          have hA3 := Lib.hid (HA.out.post hb03)
          have HSZ := Lib.hid (And.intro hszr hsc)
          clear a0 a1 a2 a3 a4 a5 hq hne hb3 hb03 hszr hsc hown
          go_wp2_with (go_at_fn k; (with_reducible refine HCI.out.mono ?_); rintro x w4 ⟨rfl, hb4⟩)
          have hA4 := Lib.hid (hA3.out.post hb4)
          have hc4 := arNumber_any (f ei) base _ _ w4 (by omega) hA4.out.own (by have := HSZ.out; have := hb4.size; omega) (by omega)
          have HC4 := Lib.hid hc4
          clear hc4
          go_wp2_with fail
          (with_reducible refine HC4.out.mono ?_)
          rintro x w5 ⟨v5, rfl, hA5⟩
          have hc5 := arNumber_any (k' - i) base _ _ w5 (by omega) hA5.own (by have := HSZ.out; have := hb4.size; have := hA5.grown.size; omega) (by simp only [List.length_append] at hroom ⊢; omega)
          rw [show ((k' - i : Nat) : Int) = (k' : Int) - (i : Int) by omega] at hc5
          have HC5 := Lib.hid hc5
          have HA5 := Lib.hid hA5
          clear hc5 hA5
          go_wp2_with fail
          (with_reducible refine HC5.out.mono ?_)
          rintro x w6 ⟨v6, rfl, hA6⟩
          go_wp2_with fail
          go_roundw
          case rel =>
            refine ⟨k', d ++ arNum (f ei) ++ arNum (k' - i), rfl, hk, ?_, ?_⟩
            · refine Lib.hid ?_
              rw [HD.out, HST.out]
              simp only [List.append_assoc]
            · refine Lib.hid ?_
              have := (hA4.out.trans HA5.out).trans hA6
              simp only [List.append_assoc] at this ⊢
              exact this
          case measure => simp [intOf]; omega
        · have hqe : vals[k']? = some (f ei) := by simpa using hq
          have hk2 : k' < es.length := by
            rcases Nat.lt_or_ge k' es.length with h | h
            · exact h
            · rw [List.getElem?_eq_none (by rw [HV.out, List.length_map]; exact h)] at hqe; cases hqe
          have HQE := Lib.hid hqe
          clear hq hqe
          go_wp2_with fail
          go_roundw
          case rel => exact ⟨k' + 1, by go_num, by omega, by omega, Lib.hid fun j h1 h2 => (by
            by_cases ej : j = k'
            · subst ej; exact HQE.out
            · exact HK.out j h1 (by omega)), hbi.trans (hb3.mono hbi.size)⟩
          case measure => simp [intOf]; omega
    · obtain rfl : i = es.length := by omega
      go_wp2_with fail
      go_ret
      refine ⟨_, rfl, ?_⟩
      have hd : arRuns vals = d := by rw [HD.out, List.drop_eq_nil_of_le (by rw [HV.out]; simp), arRuns_nil, List.append_nil]
      rw [hd]
      exact HA.out
end Go.Proofs.Ytjglmjdfndcmmaa

set_option linter.all false
namespace Go.Proofs.Ytjglmjdfndcmmaa
open Go.RowKit Go.Maps Go.WideMaps
theorem wfn {k : Nat} (hk : k < 10000000) : (Lit.int .i64 (k : Int)).wf = true := by
  unfold Lit.wf
  rw [Bool.and_eq_true, decide_eq_true_eq, decide_eq_true_eq]
  have h1 : IntKind.i64.min = -9223372036854775808 := by decide
  have h2 : IntKind.i64.max = 9223372036854775807 := by decide
  omega
theorem perm_setB {ss ks ts : List Bs} (h : ss.Perm ts) (hts : ts.Nodup) (hm : ∀ x, x ∈ ts ↔ x ∈ ks) : ss.mergeSort (fun x y => decide (x ≤ y)) = setB ks := by
  have h1 : (setB ks).Perm ts := (List.perm_ext_iff_of_nodup (asc_nodup (setB_asc ks)) hts).2 fun x => by rw [setB_mem, hm]
  have h2 := mergeSort_of_perm (h.trans h1.symm)
  refine h2.trans ?_
  have hs := setB_asc ks
  refine List.mergeSort_of_pairwise ?_
  exact hs.imp fun {a b} (hab : a < b) => by simpa using List.le_of_lt hab
def MapN (w : World) (b n : Nat) (f : Bs → Option Nat) : Prop :=
  ∃ D : DataW Unit, w.ownsMap Try.prog 9 (plainElem Try.prog 3) b n D ∧ IsMap D ∧ (∀ s : Bs, has D (.string s) = (f s).isSome) ∧ ∀ s : Bs, D.atKey (.string s) (.lit (.int .i64 0)) = .lit (.int .i64 (((f s).getD 0 : Nat) : Int))
theorem MapN.made (w : World) : MapN (w.alloc (.map #[] 0)) w.heap.size 0 fun _ => none :=
  ⟨.map [], World.ownsMap_made w _ _ _, isMap_empty, fun s => rfl, fun s => rfl⟩
theorem MapN.now {w w' : World} {b n : Nat} {f : Bs → Option Nat} (h : MapN w b n f) (hb : Below w.heap.size w w') : MapN w' b n f := by
  obtain ⟨D, h1, h2, h3⟩ := h
  exact ⟨D, h1.kept (grown_of_below hb none) (by simp), h2, h3⟩
theorem MapN.grown {w w' : World} {b n : Nat} {f : Bs → Option Nat} {row : Option Nat} (h : MapN w b n f) (hb : w.grownBy w' row) (hne : some b ≠ row) : MapN w' b n f := by
  obtain ⟨D, h1, h2, h3⟩ := h
  exact ⟨D, h1.kept hb hne, h2, h3⟩
theorem MapN.lt {w : World} {b n : Nat} {f : Bs → Option Nat} (h : MapN w b n f) : b < w.heap.size := by
  obtain ⟨D, h1, _⟩ := h
  exact h1.lt
theorem MapN.ne {w : World} {b n g : Nat} {f : Bs → Option Nat} (h : MapN w b n f) {cs : Array Value} {t : TypeId} {fz : Nat × Nat} (hg : w.heap[g]? = some (.cells cs t fz)) : some b ≠ some g := by
  rintro ⟨⟩
  obtain ⟨D, ⟨es, clock, hb, _⟩, _⟩ := h
  rw [hb] at hg; cases hg
theorem MapN.look {w : World} {b n : Nat} {f : Bs → Option Nat} (h : MapN w b n f) {s : ByteArray} (hs : s.size ≤ maxLen) :
    (Instr.lookup 114 (.map (some b)) (.string s) false).run Try.prog w = .ok (.int .i64 (((f s.data.toList).getD 0 : Nat) : Int)) w := by
  obtain ⟨D, h1, h2, h3, h4⟩ := h
  have hz : (zeroValue 3).run Try.prog w = .ok (.int .i64 0) w := by kernel_rfl
  obtain ⟨v, ps, hrun, hv⟩ := h1.lookup (string_keyed Try.underlying9) Try.underlying114 hz (plainElem_int Try.underlying3 (by decide)) (keyOf_string_mk Try.underlying9 hs)
  obtain ⟨c, rfl, hc, _⟩ := plainElem_int_inv Try.underlying3 hv
  rw [h4] at hc
  simp only [Prod.mk.injEq, DataW.lit.injEq, Lit.int.injEq] at hc
  rw [hc.1.2]
  exact hrun
theorem MapN.put {w : World} {b n : Nat} {f : Bs → Option Nat} (h : MapN w b n f) {s : ByteArray} (hs : s.size ≤ maxLen) (hn : n < maxLen) {k : Nat} (hk : k < 10000000) :
    ∃ w', (Instr.mapUpdate 114 (.map (some b)) (.string s) (.int .i64 (k : Int))).run Try.prog w = .ok () w' ∧ MapN w' b (n + 1) (fun t => if t = s.data.toList then some k else f t) ∧ w.grownBy w' (some b) := by
  obtain ⟨D, h1, h2, h3, h4⟩ := h
  obtain ⟨w', r0, r1, r2⟩ := h1.update (string_keyed Try.underlying9) Try.underlying114 hn (keyOf_string_mk Try.underlying9 hs) (plainElem_int Try.underlying3 (wfn hk))
  refine ⟨w', r0, ⟨_, r1, h2.put _ _, fun t => ?_, fun t => ?_⟩, r2⟩
  · by_cases e : t = s.data.toList
    · subst e
      rw [has_put_same h2 (by simp [WideAt.IsKeyLit])]; dsimp only; rw [if_pos rfl]; rfl
    · rw [has_put_other (by simpa using e), h3]; dsimp only; rw [if_neg e]
  · by_cases e : t = s.data.toList
    · subst e
      rw [atKey_put_same h2 (by simp [WideAt.IsKeyLit])]; dsimp only; rw [if_pos rfl]; rfl
    · rw [atKey_put_other (by simpa using e), h4]; dsimp only; rw [if_neg e]
theorem MapN.mono {w : World} {b n m : Nat} {f : Bs → Option Nat} (h : MapN w b n f) (hm : n ≤ m) : MapN w b m f := by
  obtain ⟨D, h1, h2⟩ := h
  exact ⟨D, h1.mono hm, h2⟩
theorem MapN.keys {w : World} {b n : Nat} {f : Bs → Option Nat} {ks : List Bs} (h : MapN w b n f) (hf : ∀ s, (f s).isSome = true ↔ s ∈ ks) :
    ∃ D : DataW Unit, w.ownsMap Try.prog 9 (plainElem Try.prog 3) b n D ∧ Maps.size D ≤ n ∧ ∀ ss : List Bs, ss.Perm (strKeys D) → ss.mergeSort (fun x y => decide (x ≤ y)) = setB ks := by
  obtain ⟨D, h1, h2, h3, h4⟩ := h
  refine ⟨D, h1, h1.size_le, fun ss hss => ?_⟩
  obtain ⟨es, hD, hpw, _⟩ := h1.entries (string_keyed Try.underlying9)
  obtain ⟨es', hD', hko⟩ := h1.keysOf
  obtain rfl : es = es' := by rw [hD] at hD'; simpa using hD'
  subst hD
  have hp := perm_strKeys (ss := setB ks) hpw (fun p hp => by obtain ⟨v, hv⟩ := hko p hp; obtain ⟨x, _, hx, _⟩ := Maps.keyOf_str Try.underlying9 hv; exact ⟨x, hx⟩) (asc_nodup (setB_asc ks)) (fun x => by rw [setB_mem, h3, hf])
  exact perm_setB (hss.trans hp.symm) (asc_nodup (setB_asc ks)) (fun x => setB_mem ks x)
end Go.Proofs.Ytjglmjdfndcmmaa

set_option linter.all false
namespace Go.Proofs.Ytjglmjdfndcmmaa
open Go.RowKit Go.Maps
theorem MapN.keepX {w w' : World} {b n : Nat} {f : Bs → Option Nat} (h : MapN w b n f) (k : KeepX w w') : MapN w' b n f := by
  have hlt := h.lt
  obtain ⟨D, ⟨es, clock, hb, rest⟩, r⟩ := h
  exact ⟨D, ⟨es, clock, (k.same b hlt (fun cs fz e => by rw [hb] at e; cases e)).trans hb, rest⟩, r⟩
def HoldsM (g b n : Nat) (f : Bs → Option Nat) (W : World) : Prop := Blk W g 114 #[.map (some b)] ∧ MapN W b n f
theorem HoldsM.keepX {g b n : Nat} {f : Bs → Option Nat} {W W' : World} (h : HoldsM g b n f W) (k : KeepX W W') : HoldsM g b n f W' := ⟨h.1.keepX k (by decide), h.2.keepX k⟩
def lookN (f : Bs → Option Nat) (s : ByteArray) : Nat := (f s.data.toList).getD 0
set_option maxHeartbeats 400000 in
theorem takes1 (g b n : Nat) (f : Bs → Option Nat) : Takes 84 #[.pointer (some ⟨g, 0, none⟩)] (fun e => lookN f e.cas) (HoldsM g b n f) (fun _ => True) := by
  refine ⟨fun z w => enters_of Try.func84 (by kernel_rfl) rfl _ w, fun _ _ k h => h.keepX k, ?_⟩
  rintro W u e _ ⟨hB, hM⟩ ⟨dv, rfl, hf, hd⟩
  show Calls Try.prog 84 #[evV e dv, .pointer (some ⟨g, 0, none⟩)] W _
  obtain ⟨Ad, cd, rfl, _, _, _⟩ := hd.open_
  have hb1 := bone W (.cells #[.string e.cas, .string e.act, .string e.res, .int .i64 e.life, .int .i64 e.time, .slice Ad e.data.length cd] 57)
  have hN1 := Blk.new W 57 #[.string e.cas, .string e.act, .string e.res, .int .i64 e.life, .int .i64 e.time, .slice Ad e.data.length cd]
  obtain ⟨q0, q1, q2, q3, q4, q5⟩ := hN1.c6
  have hc := (hB.now hb1).c1
  have hlk := (hM.now hb1).look hf.cas
  have HR : Hid (lookN f e.cas = (f e.cas.data.toList).getD 0) := rfl
  generalize (f e.cas.data.toList).getD 0 = z at *
  unfold evV
  clear hB hM hN1 hd hf
  go_enter Try.func84, Try.ntmps84
  go_wp2_with fail
  go_ret
  exact ⟨by rw [HR.out]; rfl, hb1⟩
set_option maxHeartbeats 400000 in
theorem takes2 (g b n : Nat) (f : Bs → Option Nat) : Takes 85 #[.pointer (some ⟨g, 0, none⟩)] (fun e => lookN f e.act) (HoldsM g b n f) (fun _ => True) := by
  refine ⟨fun z w => enters_of Try.func85 (by kernel_rfl) rfl _ w, fun _ _ k h => h.keepX k, ?_⟩
  rintro W u e _ ⟨hB, hM⟩ ⟨dv, rfl, hf, hd⟩
  show Calls Try.prog 85 #[evV e dv, .pointer (some ⟨g, 0, none⟩)] W _
  obtain ⟨Ad, cd, rfl, _, _, _⟩ := hd.open_
  have hb1 := bone W (.cells #[.string e.cas, .string e.act, .string e.res, .int .i64 e.life, .int .i64 e.time, .slice Ad e.data.length cd] 57)
  have hN1 := Blk.new W 57 #[.string e.cas, .string e.act, .string e.res, .int .i64 e.life, .int .i64 e.time, .slice Ad e.data.length cd]
  obtain ⟨q0, q1, q2, q3, q4, q5⟩ := hN1.c6
  have hc := (hB.now hb1).c1
  have hlk := (hM.now hb1).look hf.act
  have HR : Hid (lookN f e.act = (f e.act.data.toList).getD 0) := rfl
  generalize (f e.act.data.toList).getD 0 = z at *
  unfold evV
  clear hB hM hN1 hd hf
  go_enter Try.func85, Try.ntmps85
  go_wp2_with fail
  go_ret
  exact ⟨by rw [HR.out]; rfl, hb1⟩
set_option maxHeartbeats 400000 in
theorem takes3 (g b n : Nat) (f : Bs → Option Nat) : Takes 86 #[.pointer (some ⟨g, 0, none⟩)] (fun e => lookN f e.res) (HoldsM g b n f) (fun _ => True) := by
  refine ⟨fun z w => enters_of Try.func86 (by kernel_rfl) rfl _ w, fun _ _ k h => h.keepX k, ?_⟩
  rintro W u e _ ⟨hB, hM⟩ ⟨dv, rfl, hf, hd⟩
  show Calls Try.prog 86 #[evV e dv, .pointer (some ⟨g, 0, none⟩)] W _
  obtain ⟨Ad, cd, rfl, _, _, _⟩ := hd.open_
  have hb1 := bone W (.cells #[.string e.cas, .string e.act, .string e.res, .int .i64 e.life, .int .i64 e.time, .slice Ad e.data.length cd] 57)
  have hN1 := Blk.new W 57 #[.string e.cas, .string e.act, .string e.res, .int .i64 e.life, .int .i64 e.time, .slice Ad e.data.length cd]
  obtain ⟨q0, q1, q2, q3, q4, q5⟩ := hN1.c6
  have hc := (hB.now hb1).c1
  have hlk := (hM.now hb1).look hf.res
  have HR : Hid (lookN f e.res = (f e.res.data.toList).getD 0) := rfl
  generalize (f e.res.data.toList).getD 0 = z at *
  unfold evV
  clear hB hM hN1 hd hf
  go_enter Try.func86, Try.ntmps86
  go_wp2_with fail
  go_ret
  exact ⟨by rw [HR.out]; rfl, hb1⟩
set_option maxHeartbeats 400000 in
theorem takes4 : Takes 87 #[] (fun e => e.life.toNat) (fun _ => True) (fun e => 0 ≤ e.life) := by
  refine ⟨fun z w => enters_of Try.func87 (by kernel_rfl) rfl _ w, fun _ _ _ h => h, ?_⟩
  rintro W u e hl _ ⟨dv, rfl, hf, hd⟩
  show Calls Try.prog 87 #[evV e dv] W _
  obtain ⟨Ad, cd, rfl, _, _, _⟩ := hd.open_
  obtain ⟨z, hz⟩ : ∃ z : Nat, e.life = z := ⟨e.life.toNat, by omega⟩
  have hz2 : e.life.toNat = z := by omega
  unfold evV
  rw [hz, Int.toNat_natCast]
  have hb1 := bone W (.cells #[.string e.cas, .string e.act, .string e.res, .int .i64 z, .int .i64 e.time, .slice Ad e.data.length cd] 57)
  have hN1 := Blk.new W 57 #[.string e.cas, .string e.act, .string e.res, .int .i64 z, .int .i64 e.time, .slice Ad e.data.length cd]
  obtain ⟨q0, q1, q2, q3, q4, q5⟩ := hN1.c6
  clear hN1 hd hf hl hz hz2
  go_enter Try.func87, Try.ntmps87
  go_wp2_with fail
  go_ret
  exact ⟨rfl, hb1⟩
end Go.Proofs.Ytjglmjdfndcmmaa

namespace Go.Proofs
open Go.Shelf
def Try.keys47_ren : Go.Shelf.Ren := ⟨fun | 7 => 47 | 10 => 78 | n => n, fun | 23 => 84 | 26 => 9 | 3 => 4 | 28 => 87 | 0 => 0 | 27 => 86 | 33 => 109 | 4 => 4 | n => n, fun | n => n⟩
theorem Try.keys47 : Go.Proofs.SlLaysZ.n7 Try.prog Try.keys47_ren := {
  mixed := by kernel_rfl
  f7 := ⟨Try.f47.name, by decide, Try.func47.trans (congrArg some (by kernel_rfl))⟩
  f10 := ⟨Try.f78.name, by decide, Try.func78.trans (congrArg some (by kernel_rfl))⟩
  t0 := Try.underlying0
  a0 := Try.isAgg0
  z0 := Try.sizeOf0
  v0 := Try.zeroValue0
  t4 := Try.underlying4
  a4 := Try.isAgg4
  z4 := Try.sizeOf4
  v4 := Try.zeroValue4
  t23 := Try.underlying84
  a23 := Try.isAgg84
  z23 := Try.sizeOf84
  v23 := Try.zeroValue84
  t26 := Try.underlying9
  a26 := Try.isAgg9
  z26 := Try.sizeOf9
  v26 := Try.zeroValue9
  t27 := Try.underlying86
  a27 := Try.isAgg86
  z27 := Try.sizeOf86
  v27 := Try.zeroValue86
  t28 := Try.underlying87
  a28 := Try.isAgg87
  z28 := Try.sizeOf87
  v28 := Try.zeroValue87
  t33 := Try.underlying109
  a33 := Try.isAgg109
  z33 := Try.sizeOf109
  v33 := Try.zeroValue109 }
def Try.sorted46_ren : Go.Shelf.Ren := ⟨fun | 6 => 46 | 8 => 76 | 9 => 77 | 11 => 96 | 13 => 98 | 12 => 97 | 23 => 114 | 24 => 115 | 14 => 106 | 15 => 107 | 16 => 108 | 17 => 109 | 18 => 110 | 19 => 111 | 20 => 48 | 21 => 112 | 22 => 113 | 25 => 118 | 26 => 119 | 27 => 120 | 28 => 121 | 29 => 122 | 30 => 79 | 31 => 123 | n => n, fun | 26 => 9 | 28 => 87 | 24 => 51 | 0 => 0 | 3 => 3 | 37 => 72 | 48 => 36 | 50 => 135 | 4 => 4 | 40 => 127 | 39 => 126 | 45 => 131 | 5 => 5 | 9 => 9 | 51 => 137 | 55 => 141 | 57 => 143 | 58 => 144 | 33 => 109 | n => n, fun | n => n⟩
theorem Try.sorted46 : Go.Proofs.SlLaysZ.n6 Try.prog Try.sorted46_ren := {
  mixed := by kernel_rfl
  f6 := ⟨Try.f46.name, by decide, Try.func46.trans (congrArg some (by kernel_rfl))⟩
  f8 := ⟨Try.f76.name, by decide, Try.func76.trans (congrArg some (by kernel_rfl))⟩
  f11 := ⟨Try.f96.name, by decide, Try.func96.trans (congrArg some (by kernel_rfl))⟩
  t0 := Try.underlying0
  a0 := Try.isAgg0
  z0 := Try.sizeOf0
  v0 := Try.zeroValue0
  t24 := Try.underlying51
  a24 := Try.isAgg51
  z24 := Try.sizeOf51
  v24 := Try.zeroValue51
  t26 := Try.underlying9
  a26 := Try.isAgg9
  z26 := Try.sizeOf9
  v26 := Try.zeroValue9
  t28 := Try.underlying87
  a28 := Try.isAgg87
  z28 := Try.sizeOf87
  v28 := Try.zeroValue87
  i26 := by kernel_rfl }
def Try.sort77_ren : Go.Shelf.Ren := ⟨fun | 6 => 77 | 8 => 98 | 9 => 97 | 19 => 114 | 20 => 115 | 21 => 106 | 22 => 107 | 23 => 108 | 24 => 109 | 25 => 110 | 26 => 111 | 27 => 48 | 28 => 112 | 29 => 113 | 36 => 118 | 31 => 119 | 32 => 120 | 37 => 121 | 38 => 122 | 39 => 79 | 41 => 123 | n => n, fun | 27 => 51 | 29 => 9 | 3 => 3 | 32 => 72 | 26 => 51 | 0 => 0 | 44 => 36 | 46 => 135 | 4 => 4 | 36 => 127 | 35 => 126 | 41 => 131 | 5 => 5 | 9 => 9 | 53 => 137 | 57 => 141 | 63 => 143 | 64 => 144 | n => n, fun | n => n⟩
theorem Try.sort77 : Go.Proofs.SlLaysM.n6 Try.prog Try.sort77_ren := {
  mixed := by kernel_rfl
  f6 := ⟨Try.f77.name, by decide, Try.func77.trans (congrArg some (by kernel_rfl))⟩
  f8 := Try.func98.trans (congrArg some (by kernel_rfl))
  f9 := ⟨Try.f97.name, by decide, Try.func97.trans (congrArg some (by kernel_rfl))⟩
  f19 := Try.func114.trans (congrArg some (by kernel_rfl))
  f20 := Try.func115.trans (congrArg some (by kernel_rfl))
  f21 := ⟨Try.f106.name, by decide, Try.func106.trans (congrArg some (by kernel_rfl))⟩
  f22 := ⟨Try.f107.name, by decide, Try.func107.trans (congrArg some (by kernel_rfl))⟩
  f23 := ⟨Try.f108.name, by decide, Try.func108.trans (congrArg some (by kernel_rfl))⟩
  f24 := ⟨Try.f109.name, by decide, Try.func109.trans (congrArg some (by kernel_rfl))⟩
  f25 := ⟨Try.f110.name, by decide, Try.func110.trans (congrArg some (by kernel_rfl))⟩
  f26 := ⟨Try.f111.name, by decide, Try.func111.trans (congrArg some (by kernel_rfl))⟩
  f27 := ⟨Try.f48.name, by decide, Try.func48.trans (congrArg some (by kernel_rfl))⟩
  f28 := ⟨Try.f112.name, by decide, Try.func112.trans (congrArg some (by kernel_rfl))⟩
  f29 := ⟨Try.f113.name, by decide, Try.func113.trans (congrArg some (by kernel_rfl))⟩
  f31 := Try.func119.trans (congrArg some (by kernel_rfl))
  f32 := Try.func120.trans (congrArg some (by kernel_rfl))
  f36 := ⟨Try.f118.name, by decide, Try.func118.trans (congrArg some (by kernel_rfl))⟩
  f37 := ⟨Try.f121.name, by decide, Try.func121.trans (congrArg some (by kernel_rfl))⟩
  f38 := ⟨Try.f122.name, by decide, Try.func122.trans (congrArg some (by kernel_rfl))⟩
  f39 := ⟨Try.f79.name, by decide, Try.func79.trans (congrArg some (by kernel_rfl))⟩
  f41 := ⟨Try.f123.name, by decide, Try.func123.trans (congrArg some (by kernel_rfl))⟩
  t0 := Try.underlying0
  a0 := Try.isAgg0
  z0 := Try.sizeOf0
  v0 := Try.zeroValue0
  t3 := Try.underlying3
  a3 := Try.isAgg3
  z3 := Try.sizeOf3
  v3 := Try.zeroValue3
  t4 := Try.underlying4
  a4 := Try.isAgg4
  z4 := Try.sizeOf4
  v4 := Try.zeroValue4
  t5 := Try.underlying5
  a5 := Try.isAgg5
  z5 := Try.sizeOf5
  v5 := Try.zeroValue5
  t9 := Try.underlying9
  a9 := Try.isAgg9
  z9 := Try.sizeOf9
  v9 := Try.zeroValue9
  t26 := Try.underlying51
  a26 := Try.isAgg51
  z26 := Try.sizeOf51
  v26 := Try.zeroValue51
  t27 := Try.underlying51
  a27 := Try.isAgg51
  z27 := Try.sizeOf51
  v27 := Try.zeroValue51
  t29 := Try.underlying9
  a29 := Try.isAgg9
  z29 := Try.sizeOf9
  v29 := Try.zeroValue9
  t32 := Try.underlying72
  a32 := Try.isAgg72
  z32 := Try.sizeOf72
  v32 := Try.zeroValue72
  t35 := Try.underlying126
  a35 := Try.isAgg126
  z35 := Try.sizeOf126
  v35 := Try.zeroValue126
  t36 := Try.underlying127
  a36 := Try.isAgg127
  z36 := Try.sizeOf127
  v36 := Try.zeroValue127
  t41 := Try.underlying131
  a41 := Try.isAgg131
  z41 := Try.sizeOf131
  v41 := Try.zeroValue131
  t44 := Try.underlying36
  a44 := Try.isAgg36
  z44 := Try.sizeOf36
  v44 := Try.zeroValue36
  t46 := Try.underlying135
  a46 := Try.isAgg135
  z46 := Try.sizeOf135
  v46 := Try.zeroValue135
  t53 := Try.underlying137
  a53 := Try.isAgg137
  z53 := Try.sizeOf137
  v53 := Try.zeroValue137
  t57 := Try.underlying141
  a57 := Try.isAgg141
  z57 := Try.sizeOf141
  v57 := Try.zeroValue141
  t63 := Try.underlying143
  a63 := Try.isAgg143
  z63 := Try.sizeOf143
  v63 := Try.zeroValue143
  t64 := Try.underlying144
  a64 := Try.isAgg144
  z64 := Try.sizeOf144
  v64 := Try.zeroValue144 }
def Try.keys81_ren : Go.Shelf.Ren := ⟨fun | 7 => 81 | 10 => 99 | n => n, fun | 23 => 114 | 26 => 9 | 3 => 3 | 28 => 87 | 0 => 0 | 27 => 86 | 33 => 109 | 4 => 4 | n => n, fun | n => n⟩
theorem Try.keys81 : Go.Proofs.SlLaysZ.n7 Try.prog Try.keys81_ren := {
  mixed := by kernel_rfl
  f7 := ⟨Try.f81.name, by decide, Try.func81.trans (congrArg some (by kernel_rfl))⟩
  f10 := ⟨Try.f99.name, by decide, Try.func99.trans (congrArg some (by kernel_rfl))⟩
  t0 := Try.underlying0
  a0 := Try.isAgg0
  z0 := Try.sizeOf0
  v0 := Try.zeroValue0
  t4 := Try.underlying4
  a4 := Try.isAgg4
  z4 := Try.sizeOf4
  v4 := Try.zeroValue4
  t23 := Try.underlying114
  a23 := Try.isAgg114
  z23 := Try.sizeOf114
  v23 := Try.zeroValue114
  t26 := Try.underlying9
  a26 := Try.isAgg9
  z26 := Try.sizeOf9
  v26 := Try.zeroValue9
  t27 := Try.underlying86
  a27 := Try.isAgg86
  z27 := Try.sizeOf86
  v27 := Try.zeroValue86
  t28 := Try.underlying87
  a28 := Try.isAgg87
  z28 := Try.sizeOf87
  v28 := Try.zeroValue87
  t33 := Try.underlying109
  a33 := Try.isAgg109
  z33 := Try.sizeOf109
  v33 := Try.zeroValue109 }
end Go.Proofs

namespace Go.Proofs
open Go.Shelf
def Try.lays128_ren : Go.Shelf.Ren := ⟨fun | 128 => 114 | n => n, fun | 51 => 36 | 3 => 3 | 4 => 4 | 46 => 72 | 5 => 5 | 9 => 9 | n => n, fun | n => n⟩
def Try.lays125_ren : Go.Shelf.Ren := ⟨fun | 125 => 98 | 128 => 114 | 129 => 115 | n => n, fun | 46 => 72 | 3 => 3 | 51 => 36 | 53 => 135 | 4 => 4 | 5 => 5 | 9 => 9 | n => n, fun | n => n⟩
def Try.lays129_ren : Go.Shelf.Ren := ⟨fun | 129 => 115 | n => n, fun | 53 => 135 | 3 => 3 | 4 => 4 | 46 => 72 | 5 => 5 | 9 => 9 | n => n, fun | n => n⟩
def Try.lays190_ren : Go.Shelf.Ren := ⟨fun | 190 => 77 | 125 => 98 | 258 => 97 | 128 => 114 | 129 => 115 | 302 => 106 | 303 => 107 | 304 => 108 | 305 => 109 | 306 => 110 | 307 => 111 | 308 => 48 | 309 => 112 | 310 => 113 | 333 => 118 | 329 => 119 | 330 => 120 | 334 => 121 | 335 => 122 | 336 => 79 | 344 => 123 | n => n, fun | 31 => 51 | 9 => 9 | 3 => 3 | 46 => 72 | 0 => 0 | 51 => 36 | 53 => 135 | 4 => 4 | 183 => 127 | 182 => 126 | 131 => 131 | 5 => 5 | 218 => 137 | 222 => 141 | 228 => 143 | 229 => 144 | n => n, fun | n => n⟩
theorem Try.lays190 : Go.Proofs.Lays.n190 Try.prog Try.lays190_ren := {
  mixed := by kernel_rfl
  f125 := Try.func98.trans (congrArg some (by kernel_rfl))
  f128 := Try.func114.trans (congrArg some (by kernel_rfl))
  f129 := Try.func115.trans (congrArg some (by kernel_rfl))
  f190 := Try.func77.trans (congrArg some (by kernel_rfl))
  f258 := Try.func97.trans (congrArg some (by kernel_rfl))
  f302 := Try.func106.trans (congrArg some (by kernel_rfl))
  f303 := Try.func107.trans (congrArg some (by kernel_rfl))
  f304 := Try.func108.trans (congrArg some (by kernel_rfl))
  f305 := Try.func109.trans (congrArg some (by kernel_rfl))
  f306 := Try.func110.trans (congrArg some (by kernel_rfl))
  f307 := Try.func111.trans (congrArg some (by kernel_rfl))
  f308 := Try.func48.trans (congrArg some (by kernel_rfl))
  f309 := Try.func112.trans (congrArg some (by kernel_rfl))
  f310 := Try.func113.trans (congrArg some (by kernel_rfl))
  f329 := Try.func119.trans (congrArg some (by kernel_rfl))
  f330 := Try.func120.trans (congrArg some (by kernel_rfl))
  f333 := Try.func118.trans (congrArg some (by kernel_rfl))
  f334 := Try.func121.trans (congrArg some (by kernel_rfl))
  f335 := Try.func122.trans (congrArg some (by kernel_rfl))
  f336 := Try.func79.trans (congrArg some (by kernel_rfl))
  f344 := Try.func123.trans (congrArg some (by kernel_rfl))
  t0 := Try.underlying0
  a0 := Try.isAgg0
  z0 := Try.sizeOf0
  v0 := Try.zeroValue0
  t3 := Try.underlying3
  a3 := Try.isAgg3
  z3 := Try.sizeOf3
  v3 := Try.zeroValue3
  t4 := Try.underlying4
  a4 := Try.isAgg4
  z4 := Try.sizeOf4
  v4 := Try.zeroValue4
  t5 := Try.underlying5
  a5 := Try.isAgg5
  z5 := Try.sizeOf5
  v5 := Try.zeroValue5
  t9 := Try.underlying9
  a9 := Try.isAgg9
  z9 := Try.sizeOf9
  v9 := Try.zeroValue9
  t31 := Try.underlying51
  a31 := Try.isAgg51
  z31 := Try.sizeOf51
  v31 := Try.zeroValue51
  t46 := Try.underlying72
  a46 := Try.isAgg72
  z46 := Try.sizeOf72
  v46 := Try.zeroValue72
  t51 := Try.underlying36
  a51 := Try.isAgg36
  z51 := Try.sizeOf36
  v51 := Try.zeroValue36
  t53 := Try.underlying135
  a53 := Try.isAgg135
  z53 := Try.sizeOf135
  v53 := Try.zeroValue135
  t131 := Try.underlying131
  a131 := Try.isAgg131
  z131 := Try.sizeOf131
  v131 := Try.zeroValue131
  t182 := Try.underlying126
  a182 := Try.isAgg126
  z182 := Try.sizeOf126
  v182 := Try.zeroValue126
  t183 := Try.underlying127
  a183 := Try.isAgg127
  z183 := Try.sizeOf127
  v183 := Try.zeroValue127
  t218 := Try.underlying137
  a218 := Try.isAgg137
  z218 := Try.sizeOf137
  v218 := Try.zeroValue137
  t222 := Try.underlying141
  a222 := Try.isAgg141
  z222 := Try.sizeOf141
  v222 := Try.zeroValue141
  t228 := Try.underlying143
  a228 := Try.isAgg143
  z228 := Try.sizeOf143
  v228 := Try.zeroValue143
  t229 := Try.underlying144
  a229 := Try.isAgg144
  z229 := Try.sizeOf144
  v229 := Try.zeroValue144 }
open Go.Sort Go.RowKit in
theorem Try.slices_Sort_string (blk off cap : Nat) (ss : List (List UInt8)) (w : World) (hH : Holds encStr w blk off ss.toArray) (hblk : blk < w.heap.size) (hsz : ss.length < 4611686018427387904) :
    Calls Try.prog 77 #[.slice (some ⟨blk, off, none⟩) ss.length cap] w fun e w' =>
      e = .returned (.tuple #[]) ∧ ∃ n os, w' = grow (putRow encStr (Sort.ahead w n) blk off (ss.mergeSort fun x y => decide (x ≤ y)).toArray) os := Any.slices_Sort_string Try.lays190 blk off cap ss w hH hblk hsz
def Try.lays109_ren : Go.Shelf.Ren := ⟨fun | 109 => 49 | n => n, fun | 31 => 51 | 9 => 9 | 3 => 3 | 0 => 0 | 4 => 4 | n => n, fun | n => n⟩
def Try.lays110_ren : Go.Shelf.Ren := ⟨fun | 110 => 25 | 109 => 49 | n => n, fun | 31 => 51 | 9 => 9 | 4 => 4 | 3 => 3 | 0 => 0 | n => n, fun | n => n⟩
theorem Try.lays110 : Go.Proofs.Lays.n110 Try.prog Try.lays110_ren := {
  mixed := by kernel_rfl
  f109 := Try.func49.trans (congrArg some (by kernel_rfl))
  f110 := Try.func25.trans (congrArg some (by kernel_rfl))
  t0 := Try.underlying0
  a0 := Try.isAgg0
  z0 := Try.sizeOf0
  v0 := Try.zeroValue0
  t3 := Try.underlying3
  a3 := Try.isAgg3
  z3 := Try.sizeOf3
  v3 := Try.zeroValue3
  t4 := Try.underlying4
  a4 := Try.isAgg4
  z4 := Try.sizeOf4
  v4 := Try.zeroValue4
  t9 := Try.underlying9
  a9 := Try.isAgg9
  z9 := Try.sizeOf9
  v9 := Try.zeroValue9
  t31 := Try.underlying51
  a31 := Try.isAgg51
  z31 := Try.sizeOf51
  v31 := Try.zeroValue51 }
open Go.Lib in
theorem Try.slices_Contains_string (b off n c : Nat) (zs : List ByteArray) (x : ByteArray) (w : World) (hz : n ≤ zs.length) (hbig : n ≤ 9223372036854775807) (hc : ∀ j, j < zs.length → w.cell? ⟨b, off + j, none⟩ = some (.string (zs.getD j ByteArray.empty))) :
    Calls Try.prog 25 #[.slice (some ⟨b, off, none⟩) n c, .string x] w fun e w' => e = .returned (.bool (Lib.containsS (zs.take n) x)) ∧ w' = w := Any.slices_Contains_string Try.lays110 b off n c zs x w hz hbig hc
open Go.RowKit Go.Sort in
theorem Try.slices_Sort_string_none (p : Option Addr) (cap : Nat) (w : World) :
    Calls Try.prog 77 #[.slice p 0 cap] w fun e w' => e = .returned (.tuple #[]) ∧ w' = w := Any.slices_Sort_string_none Try.lays190 p cap w
def Try.lays115_ren : Go.Shelf.Ren := ⟨fun | 115 => 11 | n => n, fun | 37 => 25 | 4 => 4 | 9 => 9 | 5 => 5 | n => n, fun | n => n⟩
def Try.laysnb116_ren : Go.Shelf.Ren := ⟨fun | 116 => 26 | 115 => 11 | n => n, fun | 37 => 25 | 4 => 4 | 3 => 3 | 9 => 9 | 5 => 5 | n => n, fun | n => n⟩
theorem Try.laysnb116 : Go.Proofs.Lays.nb116 Try.prog Try.laysnb116_ren := {
  mixed := by kernel_rfl
  f115 := Try.func11.trans (congrArg some (by kernel_rfl))
  f116 := Try.func26.trans (congrArg some (by kernel_rfl))
  t3 := Try.underlying3
  a3 := Try.isAgg3
  z3 := Try.sizeOf3
  v3 := Try.zeroValue3
  t4 := Try.underlying4
  a4 := Try.isAgg4
  z4 := Try.sizeOf4
  v4 := Try.zeroValue4
  t9 := Try.underlying9
  a9 := Try.isAgg9
  z9 := Try.sizeOf9
  v9 := Try.zeroValue9
  t37 := Try.underlying25
  a37 := Try.isAgg25
  z37 := Try.sizeOf25
  v37 := Try.zeroValue25
  t5 := Try.underlying5
  a5 := Try.isAgg5
  z5 := Try.sizeOf5
  v5 := Try.zeroValue5 }
theorem Try.bytes_HasPrefix_all (p1 p2 : Option Addr) (n c m d : Nat) (xs ys : List Int) (w : World) (hx : xs.length = n) (hy : ys.length = m) (hnc : n ≤ c) (h1 : Lib.BytesIn w p1 n xs) (h2 : Lib.BytesIn w p2 m ys) :
    Calls Try.prog 26 #[.slice p1 n c, .slice p2 m d] w fun e w' => e = .returned (.bool (Lib.hasPrefix (Lib.bytesOf xs) (Lib.bytesOf ys))) ∧ w' = w := Any.bytes_HasPrefix_all Try.laysnb116 p1 p2 n c m d xs ys w hx hy hnc h1 h2
def Try.laysnb115_ren : Go.Shelf.Ren := ⟨fun | 115 => 11 | n => n, fun | 37 => 25 | 4 => 4 | 9 => 9 | 5 => 5 | n => n, fun | n => n⟩
theorem Try.laysnb115 : Go.Proofs.Lays.nb115 Try.prog Try.laysnb115_ren := {
  mixed := by kernel_rfl
  f115 := Try.func11.trans (congrArg some (by kernel_rfl))
  t4 := Try.underlying4
  a4 := Try.isAgg4
  z4 := Try.sizeOf4
  v4 := Try.zeroValue4
  t9 := Try.underlying9
  a9 := Try.isAgg9
  z9 := Try.sizeOf9
  v9 := Try.zeroValue9
  t37 := Try.underlying25
  a37 := Try.isAgg25
  z37 := Try.sizeOf25
  v37 := Try.zeroValue25
  t5 := Try.underlying5
  a5 := Try.isAgg5
  z5 := Try.sizeOf5
  v5 := Try.zeroValue5 }
theorem Try.bytes_Equal_all (p1 p2 : Option Addr) (n c m d : Nat) (xs ys : List Int) (w : World) (hx : xs.length = n) (hy : ys.length = m) (h1 : Lib.BytesIn w p1 n xs) (h2 : Lib.BytesIn w p2 m ys) :
    Calls Try.prog 11 #[.slice p1 n c, .slice p2 m d] w fun e w' => e = .returned (.bool (Lib.bytesOf xs == Lib.bytesOf ys)) ∧ w' = w := Any.bytes_Equal_all Try.laysnb115 p1 p2 n c m d xs ys w hx hy h1 h2
end Go.Proofs

set_option linter.all false
namespace Go.Proofs.Ytjglmjdfndcmmaa
open Go.RowKit
def mkS (l : Bs) : ByteArray := ⟨l.toArray⟩
theorem mkS_data (l : Bs) : (mkS l).data.toList = l := rfl
theorem mkS_of (s : ByteArray) : mkS s.data.toList = s := by cases s; rfl
theorem mkS_size (l : Bs) : (mkS l).size = l.length := rfl
abbrev OwnS (w : World) (base : Nat) (v : Value) (ss : List Bs) : Prop := w.ownsRow base 9 1 v ss.length (ss.map encStr)
theorem OwnS.slS {w : World} {base : Nat} {v : Value} {ss : List Bs} (h : OwnS w base v ss) (hf : ∀ s ∈ ss, s.length ≤ maxLen) : SlS (Lt w.heap.size) w v (ss.map mkS) :=
  SlS.of_own (zs := ss.map mkS) (by rw [List.map_map]; exact h) (fun z hz => by obtain ⟨s, hs, rfl⟩ := List.mem_map.1 hz; exact hf s hs)
end Go.Proofs.Ytjglmjdfndcmmaa

set_option linter.all false
namespace Go.Proofs.Ytjglmjdfndcmmaa
open Go.RowKit Go.Maps Go.Sort Go.Shelf
theorem sortsN (m : Nat) : AnyZ.SortsIn Try.prog Try.sorted46_ren Fence.wide m :=
  ⟨fun blk off cap ss W hH hblk hsz => callsIn_wide.2 (AnyM.slices_Sort_string Try.sort77 blk off cap ss W hH hblk hsz),
   fun p cap W => callsIn_wide.2 (AnyM.slices_Sort_string_none Try.sort77 p cap W)⟩
theorem keysN (mb : Option Nat) (W : World) : Calls Try.prog 81 #[.map mb] W fun e w' => e = .returned (.func (.func 99) #[] #[.pointer (some ⟨W.heap.size, 0, none⟩)]) ∧ w' = W.alloc (.cells #[.map mb] 114) :=
  (callsIn_wide (n := 5)).1 (AnyZ.keys_in Try.keys81 Fence.wide 5 trivial rfl mb W)
set_option maxHeartbeats 1000000 in
theorem sortedN (b n : Nat) (f : Bs → Option Nat) (ks : List Bs) (w : World) (hM : MapN w b n f) (hf : ∀ s, (f s).isSome = true ↔ s ∈ ks) (hn : n ≤ 1000000) :
    Calls Try.prog 46 #[.func (.func 99) #[] #[.pointer (some ⟨w.heap.size, 0, none⟩)]] (w.alloc (.cells #[.map (some b)] 114)) fun e w' =>
      ∃ v : Value, e = .returned v ∧ OwnS w' (w.alloc (.cells #[.map (some b)] 114)).heap.size v (setB ks) ∧ Below (w.alloc (.cells #[.map (some b)] 114)).heap.size (w.alloc (.cells #[.map (some b)] 114)) w' := by
  obtain ⟨D0, hown, hsz, hperm⟩ := hM.keys hf
  have hbl := hown.lt
  have hseq : SeqGives Fence.wide 2 Try.prog 99 #[.pointer (some ⟨w.heap.size, 0, none⟩)] encStr (fun ss => ss.Perm (strKeys D0)) (Maps.size D0) (w.alloc (.cells #[.map (some b)] 114)) :=
    AnyZ.keys_gives (ρ := Try.keys81_ren) { Try.keys81 with } Fence.wide _ trivial rfl (by omega) w.heap.size b n D0 _ (by simp) (by simp) (by
      obtain ⟨es, clock, hb, Ft, hs, hD⟩ := hown
      exact ⟨es, clock, (Below.heap_alloc _ _ b hbl).trans hb, Ft, hs, hD⟩)
  refine ((callsIn_wide (n := 5)).1 (AnyZ.sorted_in Try.sorted46 Fence.wide 5 trivial trivial trivial trivial rfl (by omega) (sortsN _) (enters_of Try.func77 (by kernel_rfl) rfl) 99 #[.pointer (some ⟨w.heap.size, 0, none⟩)] trivial (enters_of Try.func99 (by kernel_rfl) rfl) _ _ (by unfold maxLen; omega) (by omega) _ hseq)).mono ?_
  rintro e w' ⟨v, ss, rfl, hS, hrow, _, hb⟩
  refine ⟨v, rfl, ?_, hb⟩
  have h1 := hperm ss hS
  have h2 : (ss.mergeSort (fun x y => decide (x ≤ y))).length = ss.length := (List.mergeSort_perm ss _).length_eq
  unfold OwnS
  rw [← h1, h2]
  exact hrow
end Go.Proofs.Ytjglmjdfndcmmaa
