/- archive.runs, whatever it takes of an event. -/
import Derived.Test.YtjglmjdfndcmmaaArSum
import Derived.Test.YtjglmjdfndcmmaaGrowV
import Derived.Deep.CutRange
set_option linter.all false
namespace Go.Proofs.Ytjglmjdfndcmmaa
open Go.RowKit

/-- Every block is kept but rows of bytes. -/
structure KeepX (W W' : World) : Prop where
  size : W.heap.size ≤ W'.heap.size
  same : ∀ g, g < W.heap.size → (∀ cs fz, W.heap[g]? ≠ some (.cells cs 5 fz)) → W'.heap[g]? = W.heap[g]?
theorem KeepX.refl (W : World) : KeepX W W := ⟨Nat.le_refl _, fun _ _ _ => rfl⟩
theorem KeepX.trans {A B C : World} (h : KeepX A B) (k : KeepX B C) : KeepX A C :=
  ⟨Nat.le_trans h.size k.size, fun g hg hn => (k.same g (Nat.lt_of_lt_of_le hg h.size) (fun cs fz => by rw [h.same g hg hn]; exact hn cs fz)).trans (h.same g hg hn)⟩
theorem KeepX.of_below {W W' : World} (h : Below W.heap.size W W') : KeepX W W' := ⟨h.size, fun g hg _ => h.block g hg⟩
theorem Adds.keepX {base : Nat} {w w' : World} {v v' : Value} {l l0 : List UInt8} (h : Adds base w v l w' v') (h0 : OwnC w base v l0) : KeepX w w' :=
  ⟨h.grown.size, fun g hg hn => h.grown.block g hg (fun e => by
    obtain ⟨c, fz, hc⟩ := Lib.ownsRow_kind h0 g e.symm
    exact hn _ _ hc)⟩
theorem Blk.keepX {w w' : World} {g t : Nat} {cs : Array Value} (hB : Blk w g t cs) (h : KeepX w w') (ht : t ≠ 5) : Blk w' g t cs :=
  (h.same g hB.lt (fun c fz e => by
    have := hB.symm.trans e
    injection this with this
    injection this with _ e2 _
    exact ht e2)).trans hB
/-- What a function of an event does that runs calls. -/
structure Takes (k : FuncId) (caps : Array Value) (f : Ev → Nat) (I : World → Prop) (Pe : Ev → Prop) : Prop where
  enter : ∀ z w, (callFunc k (#[z] ++ caps)).run Try.prog w = .ok (.enter k (#[z] ++ caps)) w
  keep : ∀ W W', KeepX W W' → I W → I W'
  step : ∀ W u e, Pe e → I W → IsEv (Lt W.heap.size) W u e → Calls Try.prog k (#[u] ++ caps) W fun x W' => x = .returned (.int .i64 (f e : Int)) ∧ Below W.heap.size W W'

set_option maxHeartbeats 2000000 in
set_option maxRecDepth 100000 in
theorem runs_any (k : FuncId) (caps : Array Value) (f : Ev → Nat) (I : World → Prop) (Pe : Ev → Prop) (hT : Takes k caps f I Pe) (es : List Ev) (u : Value) (base : Nat) (v : Value) (l : List UInt8) (w : World)
    (hf : ∀ e ∈ es, f e < 1000000000) (hPe : ∀ e ∈ es, Pe e) (hu : SlEv (Lt base) w u es) (hI : I w) (hown : OwnC w base v l) (hb : base ≤ w.heap.size) (hl : l.length + (arRuns (es.map f)).length ≤ 9000000) :
    Calls Try.prog 83 #[v, u, .func (.func k) #[] caps] w (RetAdd base w v (l ++ arRuns (es.map f))) := by
  obtain ⟨A, c, rfl, h1, h2, hs⟩ := hu.open_
  have HS := Lib.hid hs
  have HT := Lib.hid hT
  have HF := Lib.hid hf
  have HPe := Lib.hid hPe
  have H0 := Lib.hid hown
  have HA0 := Lib.hid (Adds.refl hown)
  have HI := Lib.hid hI
  have HB := Lib.hid hb
  have HLN : Hid (∃ vals : List Nat, vals = es.map f) := ⟨_, rfl⟩
  obtain ⟨vals, hvals⟩ := HLN.out
  rw [← hvals] at hl ⊢
  have HV := Lib.hid hvals
  have HL := Lib.hid hl
  have eg := HT.out.enter
  clear hu hs hT hf hPe hown hI hb hvals hl HLN
  go_enter Try.func83, Try.ntmps83
  go_wp2_with fail
  go_loopw [0, 7] (fun sv iv wr => ∃ (i : Nat) (d : List UInt8), iv = .int .i64 (i : Int) ∧ i ≤ es.length ∧ Hid (arRuns vals = d ++ arRuns (vals.drop i)) ∧ Hid (Adds base w v (l ++ d) wr sv)) (fun _ iv _ => es.length - (intOf iv).toNat)
  case atStart => exact ⟨0, [], rfl, Nat.zero_le _, rfl, Lib.hid (by simpa using HA0.out)⟩
  case round =>
    obtain ⟨i, d, rfl, hi, HD, HA⟩ := hrel
    obtain ⟨wo, rfl⟩ : ∃ wo, wo = wr := ⟨wr, rfl⟩
    by_cases hlt : i < es.length
    · have HBr : Hid (Below base w wo) := HA.out.below H0.out HB.out
      have HSr : Hid (SlEv (Lt base) wo (.slice A es.length c) es) := SlEv.below HS.out HBr.out (Nat.le_refl _)
      have HIr : Hid (I wo) := HT.out.keep _ _ (HA.out.keepX H0.out) HI.out
      obtain ⟨b, o, ei, di, rfl, hD, hxi, hffi, hdi, a0, a1, a2, a3, a4, a5⟩ := SlEv.at_ HSr.out hlt
      have HXI := Lib.hid hxi
      have HPI := Lib.hid (HPe.out ei (List.mem_of_getElem? hxi))
      have hbr := HBr.out.size
      have hown := HA.out.own
      have hszr := Nat.le_trans HB.out HA.out.grown.size
      have hDw : b < wo.heap.size := Nat.lt_of_lt_of_le hD hszr
      have HVI : Hid (vals[i]? = some (f ei)) := by show _ = _; rw [HV.out, List.getElem?_map, hxi]; rfl
      clear hxi
      go_wp2_with fail
      go_loopw [8] (fun kv wr => ∃ k' : Nat, kv = .int .i64 (k' : Int) ∧ i ≤ k' ∧ k' ≤ es.length ∧ Hid (∀ j, i ≤ j → j < k' → vals[j]? = some (f ei)) ∧ Below wo.heap.size wo wr) (fun kv _ => es.length - (intOf kv).toNat)
      case atStart => exact ⟨i, rfl, Nat.le_refl _, hi, fun j h1 h2 => absurd h1 (by omega), Below.refl _ _⟩
      case round =>
        obtain ⟨k', rfl, hik, hk, HK, hbi⟩ := hrel
        have hDi : b < wr.heap.size := Nat.lt_of_lt_of_le hDw hbi.size
        go_upto_region 4 with fail
        go_cut [32] from 14 to 32 (fun v W => v = .bool (decide (vals[k']? = some (f ei))) ∧ Below wr.heap.size wr W)
        case first =>
          by_cases hlk : k' < es.length
          · obtain ⟨b', o', ek, dk, hA', hD', hxk, hffk, hdk, c0, c1, c2, c3, c4, c5⟩ := SlEv.at_ HSr.out hlk
            have HPK := Lib.hid (HPe.out ek (List.mem_of_getElem? hxk))
            injection hA' with hA'
            injection hA' with e1 e2 _
            subst e1 e2
            have HQ : Hid (decide (vals[k']? = some (f ei)) = decide (f ek = f ei)) := by
              show _ = _
              rw [HV.out, List.getElem?_map, hxk]
              simp
            have hq : ((f ek : Int) == (f ei : Int)) = decide (f ek = f ei) := by
              by_cases hh : f ek = f ei
              · rw [hh]; simp
              · have h2 : ¬ (f ek : Int) = (f ei : Int) := by omega
                simp [hh, h2]
            generalize decide (f ek = f ei) = q at *
            generalize decide (vals[k']? = some (f ei)) = q' at *
            have z1 : decide ((k' : Int) < (es.length : Int)) = true := by simp; omega
            have z2 : (0 : Int) ≤ (k' : Int) := by omega
            have z3 : (k' : Int) < (es.length : Int) := by omega
            have z4 : (0 : Int) ≤ (i : Int) := by omega
            have z5 : (i : Int) < (es.length : Int) := by omega
            have ti0 : ∀ W, (ext wr W).cell? ⟨b, o + i * 6, none⟩ = some (.string ei.cas) := fun W => ((ext_below wr W).cell (p := ⟨b, o + i * 6, none⟩) hDi).trans ((hbi.cell (p := ⟨b, o + i * 6, none⟩) hDw).trans a0)
            have ti1 : ∀ W, (ext wr W).cell? ⟨b, o + i * 6 + 1, none⟩ = some (.string ei.act) := fun W => ((ext_below wr W).cell (p := ⟨b, o + i * 6 + 1, none⟩) hDi).trans ((hbi.cell (p := ⟨b, o + i * 6 + 1, none⟩) hDw).trans a1)
            have ti2 : ∀ W, (ext wr W).cell? ⟨b, o + i * 6 + 2, none⟩ = some (.string ei.res) := fun W => ((ext_below wr W).cell (p := ⟨b, o + i * 6 + 2, none⟩) hDi).trans ((hbi.cell (p := ⟨b, o + i * 6 + 2, none⟩) hDw).trans a2)
            have ti3 : ∀ W, (ext wr W).cell? ⟨b, o + i * 6 + 3, none⟩ = some (.int .i64 ei.life) := fun W => ((ext_below wr W).cell (p := ⟨b, o + i * 6 + 3, none⟩) hDi).trans ((hbi.cell (p := ⟨b, o + i * 6 + 3, none⟩) hDw).trans a3)
            have ti4 : ∀ W, (ext wr W).cell? ⟨b, o + i * 6 + 4, none⟩ = some (.int .i64 ei.time) := fun W => ((ext_below wr W).cell (p := ⟨b, o + i * 6 + 4, none⟩) hDi).trans ((hbi.cell (p := ⟨b, o + i * 6 + 4, none⟩) hDw).trans a4)
            have ti5 : ∀ W, (ext wr W).cell? ⟨b, o + i * 6 + 5, none⟩ = some (di) := fun W => ((ext_below wr W).cell (p := ⟨b, o + i * 6 + 5, none⟩) hDi).trans ((hbi.cell (p := ⟨b, o + i * 6 + 5, none⟩) hDw).trans a5)
            have tk0 : ∀ W, (ext wr W).cell? ⟨b, o + k' * 6, none⟩ = some (.string ek.cas) := fun W => ((ext_below wr W).cell (p := ⟨b, o + k' * 6, none⟩) hDi).trans ((hbi.cell (p := ⟨b, o + k' * 6, none⟩) hDw).trans c0)
            have tk1 : ∀ W, (ext wr W).cell? ⟨b, o + k' * 6 + 1, none⟩ = some (.string ek.act) := fun W => ((ext_below wr W).cell (p := ⟨b, o + k' * 6 + 1, none⟩) hDi).trans ((hbi.cell (p := ⟨b, o + k' * 6 + 1, none⟩) hDw).trans c1)
            have tk2 : ∀ W, (ext wr W).cell? ⟨b, o + k' * 6 + 2, none⟩ = some (.string ek.res) := fun W => ((ext_below wr W).cell (p := ⟨b, o + k' * 6 + 2, none⟩) hDi).trans ((hbi.cell (p := ⟨b, o + k' * 6 + 2, none⟩) hDw).trans c2)
            have tk3 : ∀ W, (ext wr W).cell? ⟨b, o + k' * 6 + 3, none⟩ = some (.int .i64 ek.life) := fun W => ((ext_below wr W).cell (p := ⟨b, o + k' * 6 + 3, none⟩) hDi).trans ((hbi.cell (p := ⟨b, o + k' * 6 + 3, none⟩) hDw).trans c3)
            have tk4 : ∀ W, (ext wr W).cell? ⟨b, o + k' * 6 + 4, none⟩ = some (.int .i64 ek.time) := fun W => ((ext_below wr W).cell (p := ⟨b, o + k' * 6 + 4, none⟩) hDi).trans ((hbi.cell (p := ⟨b, o + k' * 6 + 4, none⟩) hDw).trans c4)
            have tk5 : ∀ W, (ext wr W).cell? ⟨b, o + k' * 6 + 5, none⟩ = some (dk) := fun W => ((ext_below wr W).cell (p := ⟨b, o + k' * 6 + 5, none⟩) hDi).trans ((hbi.cell (p := ⟨b, o + k' * 6 + 5, none⟩) hDw).trans c5)
            have HCI : Hid (∀ W, Calls Try.prog k (#[evV ei di] ++ caps) (ext wr W) fun x W' => x = .returned (.int .i64 (f ei : Int)) ∧ Below (ext wr W).heap.size (ext wr W) W') := fun W =>
              HT.out.step _ _ ei HPI.out (HT.out.keep _ _ ((KeepX.of_below hbi).trans (KeepX.of_below (ext_below wr W))) HIr.out) ⟨di, rfl, hffi, (hdi.below (hbi.mono hszr) (Nat.le_refl _)).below ((ext_below wr W).mono (Nat.le_trans hszr hbi.size)) (Nat.le_trans hszr (Nat.le_trans hbi.size (ext_below wr W).size))⟩
            have HCK : Hid (∀ W, Calls Try.prog k (#[evV ek dk] ++ caps) (ext wr W) fun x W' => x = .returned (.int .i64 (f ek : Int)) ∧ Below (ext wr W).heap.size (ext wr W) W') := fun W =>
              HT.out.step _ _ ek HPK.out (HT.out.keep _ _ ((KeepX.of_below hbi).trans (KeepX.of_below (ext_below wr W))) HIr.out) ⟨dk, rfl, hffk, (hdk.below (hbi.mono hszr) (Nat.le_refl _)).below ((ext_below wr W).mono (Nat.le_trans hszr hbi.size)) (Nat.le_trans hszr (Nat.le_trans hbi.size (ext_below wr W).size))⟩
            unfold evV at HCI HCK
            clear a0 a1 a2 a3 a4 a5 c0 c1 c2 c3 c4 c5 hxk
            refine wp_region_growV (by kernel_rfl) (by kernel_rfl) ?_
            repeat (refine veil_step (fun K hK => ?_); go_simp; first | (refine hK _ ?_; clear hK K) | (apply Exists.intro; refine ⟨fun Wq => ?_, hK _ ?_⟩; (go_at_fn k; first | exact grow_of (HCK.out Wq) | exact grow_of (HCI.out Wq)); clear hK K))
            refine veil_nil ?_
            intro _ hw'
            obtain ⟨W, rfl⟩ := hw'
            go_wp2_with fail
            go_meet
            exact ⟨by rw [HQ.out], ext_below wr W⟩
          · have HQ : Hid (decide (vals[k']? = some (f ei)) = false) := by
              show _ = _
              rw [HV.out, List.getElem?_eq_none (by rw [List.length_map]; omega)]; rfl
            generalize decide (vals[k']? = some (f ei)) = q' at *
            have z1 : decide ((k' : Int) < (es.length : Int)) = false := by simp; omega
            clear a0 a1 a2 a3 a4 a5
            refine wp_region_growV (by kernel_rfl) (by kernel_rfl) ?_
            repeat (refine veil_step (fun K hK => ?_); go_simp; (refine hK _ ?_; clear hK K))
            refine veil_nil ?_
            intro _ hw'
            obtain ⟨W, rfl⟩ := hw'
            go_wp2_with fail
            go_meet
            exact ⟨by rw [HQ.out], ext_below wr W⟩
        obtain ⟨rfl, hb3⟩ := hcut
        generalize hq : decide (vals[k']? = some (f ei)) = q
        cases q
        · have hne : vals[k']? ≠ some (f ei) := by simpa using hq
          have hik2 : i < k' := by
            rcases Nat.lt_or_ge i k' with h | h
            · exact h
            · obtain rfl : k' = i := by omega
              exact absurd HVI.out hne
          have HST : Hid (arRuns (vals.drop i) = arNum (f ei) ++ arNum (k' - i) ++ arRuns (vals.drop k')) := arRuns_step hik2 (by rw [HV.out]; simpa using hk) HK.out hne
          have hroom : (l ++ d).length + (arNum (f ei)).length + (arNum (k' - i)).length ≤ 9000000 := by
            have h1 := HL.out
            rw [HD.out, HST.out] at h1
            simp only [List.length_append] at h1 ⊢
            omega
          have hfe : f ei < 1000000000 := HF.out ei (List.mem_of_getElem? HXI.out)
          have hb03 := hbi.trans (hb3.mono hbi.size)
          rename_i wc
          have hsc := hb03.size
          have c0 := (hb03.cell (p := ⟨b, o + i * 6, none⟩) hDw).trans a0
          have c1 := (hb03.cell (p := ⟨b, o + i * 6 + 1, none⟩) hDw).trans a1
          have c2 := (hb03.cell (p := ⟨b, o + i * 6 + 2, none⟩) hDw).trans a2
          have c3 := (hb03.cell (p := ⟨b, o + i * 6 + 3, none⟩) hDw).trans a3
          have c4 := (hb03.cell (p := ⟨b, o + i * 6 + 4, none⟩) hDw).trans a4
          have c5 := (hb03.cell (p := ⟨b, o + i * 6 + 5, none⟩) hDw).trans a5
          have HCI := Lib.hid (HT.out.step _ _ ei HPI.out (HT.out.keep _ _ (KeepX.of_below hb03) HIr.out) ⟨di, rfl, hffi, hdi.below (hb03.mono hszr) (Nat.le_trans hszr hsc)⟩)
          unfold evV at HCI
          have hA3 := Lib.hid (HA.out.post hb03)
          have HSZ := Lib.hid (And.intro hszr hsc)
          clear a0 a1 a2 a3 a4 a5 hq hne hb3 hb03 hszr hsc hown
          go_wp2_with (go_at_fn k; (with_reducible refine HCI.out.mono ?_); rintro x w4 ⟨rfl, hb4⟩)
          have hA4 := Lib.hid (hA3.out.post hb4)
          have hc4 := arNumber_any (f ei) base _ _ w4 (by omega) hA4.out.own (by have := HSZ.out; have := hb4.size; omega) (by omega)
          have HC4 := Lib.hid hc4
          clear hc4
          go_wp2_with fail
          (with_reducible refine HC4.out.mono ?_)
          rintro x w5 ⟨v5, rfl, hA5⟩
          have hc5 := arNumber_any (k' - i) base _ _ w5 (by omega) hA5.own (by have := HSZ.out; have := hb4.size; have := hA5.grown.size; omega) (by simp only [List.length_append] at hroom ⊢; omega)
          rw [show ((k' - i : Nat) : Int) = (k' : Int) - (i : Int) by omega] at hc5
          have HC5 := Lib.hid hc5
          have HA5 := Lib.hid hA5
          clear hc5 hA5
          go_wp2_with fail
          (with_reducible refine HC5.out.mono ?_)
          rintro x w6 ⟨v6, rfl, hA6⟩
          go_wp2_with fail
          go_roundw
          case rel =>
            refine ⟨k', d ++ arNum (f ei) ++ arNum (k' - i), rfl, hk, ?_, ?_⟩
            · refine Lib.hid ?_
              rw [HD.out, HST.out]
              simp only [List.append_assoc]
            · refine Lib.hid ?_
              have := (hA4.out.trans HA5.out).trans hA6
              simp only [List.append_assoc] at this ⊢
              exact this
          case measure => simp [intOf]; omega
        · have hqe : vals[k']? = some (f ei) := by simpa using hq
          have hk2 : k' < es.length := by
            rcases Nat.lt_or_ge k' es.length with h | h
            · exact h
            · rw [List.getElem?_eq_none (by rw [HV.out, List.length_map]; exact h)] at hqe; cases hqe
          have HQE := Lib.hid hqe
          clear hq hqe
          go_wp2_with fail
          go_roundw
          case rel => exact ⟨k' + 1, by go_num, by omega, by omega, Lib.hid fun j h1 h2 => (by
            by_cases ej : j = k'
            · subst ej; exact HQE.out
            · exact HK.out j h1 (by omega)), hbi.trans (hb3.mono hbi.size)⟩
          case measure => simp [intOf]; omega
    · obtain rfl : i = es.length := by omega
      go_wp2_with fail
      go_ret
      refine ⟨_, rfl, ?_⟩
      have hd : arRuns vals = d := by rw [HD.out, List.drop_eq_nil_of_le (by rw [HV.out]; simp), arRuns_nil, List.append_nil]
      rw [hd]
      exact HA.out
end Go.Proofs.Ytjglmjdfndcmmaa
