/- Texts of this seat, merged. -/
import Derived.BigQuiet
import Derived.Test.YtoalecalahkblaaGreatDoorIl01
import Derived.Test.YtoalecalahkblaaGreatDoorIl02
import Derived.Test.YtoalecalahkblaaGreatDoorIl03
import Derived.Test.YtoalecalahkblaaGreatDoorIl04
import Derived.Test.YtoalecalahkblaaGreatDoorIl05
import Derived.Test.YtoalecalahkblaaGreatDoorIl06
import Derived.Test.YtoalecalahkblaaGreatDoorIl07
import Derived.Test.YtoalecalahkblaaGreatDoorIl08
import Derived.Test.YtoalecalahkblaaGreatDoorIl18
import Derived.Test.YtoalecalahkblaaGreatDoorIl20
import Derived.Test.YtoalecalahkblaaGreatDoorIl21
set_option linter.all false
set_option linter.all false
namespace Go.Proofs.YtoalecalahkblaaGreatDoor
open Go.RowKit
def colOk (k : Int) : Bool := decide (0 ≤ k) && decide (k < 40)
def badM (m : Mp) : Prop := isSep m.sep = false ∨ m.res < -1 ∨ m.life < -1 ∨ 8 < m.data.length ∨ m.kinds.length ≠ m.data.length
theorem colsR_perm {m : Mp} (h1 : ¬ m.res < -1) (h2 : ¬ m.life < -1) : (colsR m).Perm (colsB m) := by
  have e1 : (if 0 ≤ m.res then [m.res] else []) = (if m.res = -1 then [] else [m.res]) := by
    by_cases h : m.res = -1
    · rw [if_pos h, if_neg (by omega)]
    · rw [if_neg h, if_pos (by omega)]
  have e2 : (if 0 ≤ m.life then [m.life] else []) = (if m.life = -1 then [] else [m.life]) := by
    by_cases h : m.life = -1
    · rw [if_pos h, if_neg (by omega)]
    · rw [if_neg h, if_pos (by omega)]
  unfold colsR col2 col1 colsB
  rw [e1, e2]
  generalize (if m.res = -1 then [] else [m.res]) = A
  generalize (if m.life = -1 then [] else [m.life]) = B
  generalize m.data = D
  show ([m.cas, m.act] ++ A ++ B ++ [m.time] ++ D).Perm ([m.cas, m.act, m.time] ++ D ++ A ++ B)
  have h1 : ([m.cas, m.act] ++ A ++ B ++ [m.time] ++ D) = [m.cas, m.act] ++ ((A ++ B) ++ ([m.time] ++ D)) := by simp
  have h2 : ([m.cas, m.act, m.time] ++ D ++ A ++ B) = [m.cas, m.act] ++ (([m.time] ++ D) ++ (A ++ B)) := by simp
  rw [h1, h2]
  exact (List.perm_append_comm).append_left _
theorem mapB_badM {m : Mp} (h : badM m) : mapB m = false := by
  rcases h with h | h | h | h | h
  · exact mapB_bad (.inl h)
  · unfold mapB
    have : (colsB m).all (fun k => decide (0 ≤ k) && decide (k < 40)) = false := by
      rw [List.all_eq_false]
      refine ⟨m.res, ?_, by simp; omega⟩
      unfold colsB
      rw [if_neg (by omega)]
      simp
    rw [this]; simp
  · unfold mapB
    have : (colsB m).all (fun k => decide (0 ≤ k) && decide (k < 40)) = false := by
      rw [List.all_eq_false]
      refine ⟨m.life, ?_, by simp; omega⟩
      unfold colsB
      rw [if_neg (show ¬ m.life = -1 by omega)]
      simp
    rw [this]; simp
  · exact mapB_bad (.inr (.inl h))
  · exact mapB_bad (.inr (.inr h))
theorem mapB_good {m : Mp} (h : ¬ badM m) : mapB m = ((colsR m).all colOk && decide (colsR m).Nodup && m.kinds.all kindB) := by
  unfold badM at h
  simp only [not_or] at h
  obtain ⟨h1, h2, h3, h4, h5⟩ := h
  have hp := colsR_perm h2 h3
  rw [mapB_eq (by simpa using h1) (by omega) (by simpa using h5)]
  have e1 : (colsB m).all (fun k => decide (0 ≤ k) && decide (k < 40)) = (colsR m).all colOk := by
    rw [Bool.eq_iff_iff, List.all_eq_true, List.all_eq_true]
    exact ⟨fun h k hk => h k (hp.mem_iff.1 hk), fun h k hk => h k (hp.mem_iff.2 hk)⟩
  have e2 : decide (colsB m).Nodup = decide (colsR m).Nodup := decide_eq_decide.2 hp.nodup_iff.symm
  rw [e1, e2]
theorem all_step {α : Type} {p : α → Bool} {xs : List α} {i : Nat} {x : α} (h : ∀ y ∈ xs.take i, p y = true) (hx : xs[i]? = some x) (hp : p x = true) : ∀ y ∈ xs.take (i + 1), p y = true := by
  intro y hy
  rw [List.take_add_one, hx] at hy
  rcases List.mem_append.1 hy with hy | hy
  · exact h y hy
  · simp at hy; rw [hy]; exact hp
theorem nodup_step {xs : List Int} {i : Nat} {x : Int} (h : (xs.take i).Nodup) (hx : xs[i]? = some x) (hp : x ∉ xs.take i) : (xs.take (i + 1)).Nodup := by
  rw [List.take_add_one, hx]
  show (xs.take i ++ [x]).Nodup
  rw [List.nodup_append]
  exact ⟨h, by simp, fun a ha b hb => by rw [List.mem_singleton] at hb; rw [hb]; exact fun e => hp (e ▸ ha)⟩
theorem nmem_step {xs : List Int} {j : Nat} {x y : Int} (h : y ∉ xs.take j) (hx : xs[j]? = some x) (hp : x ≠ y) : y ∉ xs.take (j + 1) := by
  rw [List.take_add_one, hx]
  intro hy
  rcases List.mem_append.1 hy with hy | hy
  · exact h hy
  · simp at hy; exact hp hy.symm
set_option maxHeartbeats 4000000 in
set_option maxRecDepth 100000 in
theorem valid_ref (u : Value) (m : Mp) (w : World) (h : IsMp (Lt w.heap.size) w u m) (hb : m.data.length ≤ 1000000) :
    Calls Tryz.prog 19 #[u] w fun e w' => e = .returned (.bool (mapB m)) ∧ Below w.heap.size w w' := by
  have HCR := Lib.hid (fun W hW => columns_ref u m W hW hb)
  have HMP := Lib.hid h
  have HSP := Lib.hid (separator_ref m.sep)
  obtain ⟨dv, kv, rfl, hfm, hd, hk⟩ := h
  obtain ⟨Ad, cd, rfl, _, _, hd⟩ := hd.open_
  obtain ⟨Ak, ck, rfl, _, _, hk⟩ := hk.open_
  obtain ⟨z, hz⟩ : ∃ z, (m.sep.toNat : Int) = z := ⟨_, rfl⟩
  have HMD := Lib.hid hd
  have HMK := Lib.hid hk
  unfold mpV at HCR HMP ⊢
  rw [hz] at HCR HMP HSP ⊢
  clear hfm hd hk hz hb
  have HB1 := Lib.hid (bone w (.cells #[.int .i64 m.cas, .int .i64 m.act, .int .i64 m.res, .int .i64 m.life, .int .i64 m.time, .slice Ad m.data.length cd, .slice Ak m.kinds.length ck, .int .u8 z] 33))
  have HM1 := Lib.hid (Blk.new w 33 #[.int .i64 m.cas, .int .i64 m.act, .int .i64 m.res, .int .i64 m.life, .int .i64 m.time, .slice Ad m.data.length cd, .slice Ak m.kinds.length ck, .int .u8 z])
  obtain ⟨q1, hq1⟩ : ∃ q, isSep m.sep = q := ⟨_, rfl⟩
  have HQ1 := Lib.hid hq1
  rw [hq1] at HSP
  clear hq1
  go_enter Tryz.func19, Tryz.ntmps19
  go_upto_region 1 with fail
  obtain ⟨w1, hw1⟩ : ∃ w1, w.alloc (.cells #[.int .i64 m.cas, .int .i64 m.act, .int .i64 m.res, .int .i64 m.life, .int .i64 m.time, .slice Ad m.data.length cd, .slice Ak m.kinds.length ck, .int .u8 z] 33) = w1 := ⟨_, rfl⟩
  rw [hw1] at HB1 HM1 ⊢
  clear hw1
  go_cut [35] from 7 to 35 (fun b W => ∃ q, b = .bool q ∧ (q = true ↔ badM m) ∧ w1 = W)
  case first =>
    obtain ⟨c0, c1, c2, c3, c4, c5, c6, c7⟩ := HM1.out.c8m
    have HG : Hid (∀ q : Bool, (q = true ↔ badM m) → (q = true ↔ badM m)) := Lib.hid fun _ h => h
    cases q1 with
    | false =>
      have HBD : Hid (badM m) := .inl HQ1.out
      go_wp2_with (go_at_call 50; (with_reducible refine (HSP.out _).mono ?_); rintro _ w2 ⟨rfl, rfl⟩)
      go_meet
      exact ⟨true, rfl, ⟨fun _ => HBD.out, fun _ => rfl⟩, rfl⟩
    | true =>
      by_cases h2 : m.res < -1
      · have HBD : Hid (badM m) := .inr (.inl h2)
        go_wp2_with (go_at_call 50; (with_reducible refine (HSP.out _).mono ?_); rintro _ w2 ⟨rfl, rfl⟩)
        go_meet
        exact ⟨true, rfl, ⟨fun _ => HBD.out, fun _ => rfl⟩, rfl⟩
      by_cases h3 : m.life < -1
      · have HBD : Hid (badM m) := .inr (.inr (.inl h3))
        go_wp2_with (go_at_call 50; (with_reducible refine (HSP.out _).mono ?_); rintro _ w2 ⟨rfl, rfl⟩)
        go_meet
        exact ⟨true, rfl, ⟨fun _ => HBD.out, fun _ => rfl⟩, rfl⟩
      by_cases h4 : (8 : Int) < (m.data.length : Int)
      · have HBD : Hid (badM m) := .inr (.inr (.inr (.inl (by omega))))
        go_wp2_with (go_at_call 50; (with_reducible refine (HSP.out _).mono ?_); rintro _ w2 ⟨rfl, rfl⟩)
        go_meet
        exact ⟨true, rfl, ⟨fun _ => HBD.out, fun _ => rfl⟩, rfl⟩
      by_cases h5 : m.kinds.length = m.data.length
      · have HBD : Hid (¬ badM m) := Lib.hid fun h => by
          rcases h with h | h | h | h | h
          · rw [HQ1.out] at h; cases h
          · exact h2 h
          · exact h3 h
          · exact h4 (by omega)
          · exact h h5
        have x5 : ((m.kinds.length : Int) != (m.data.length : Int)) = false := by simp [h5]
        clear h5
        go_wp2_with (go_at_call 50; (with_reducible refine (HSP.out _).mono ?_); rintro _ w2 ⟨rfl, rfl⟩)
        go_meet
        exact ⟨false, by rw [decide_eq_false (show ¬ m.res < -1 by omega), decide_eq_false (show ¬ m.life < -1 by omega), decide_eq_false (show ¬ (8 : Int) < (m.data.length : Int) by omega)]; rfl, ⟨fun h => Bool.noConfusion h, fun h => absurd h HBD.out⟩, rfl⟩
      · have HBD : Hid (badM m) := .inr (.inr (.inr (.inr h5)))
        have x5 : ((m.kinds.length : Int) != (m.data.length : Int)) = true := by simp; omega
        clear h5
        go_wp2_with (go_at_call 50; (with_reducible refine (HSP.out _).mono ?_); rintro _ w2 ⟨rfl, rfl⟩)
        go_meet
        exact ⟨true, rfl, ⟨fun _ => HBD.out, fun _ => rfl⟩, rfl⟩
  case rest =>
  obtain ⟨q, rfl, hq, rfl⟩ := hcut
  obtain ⟨c0, c1, c2, c3, c4, c5, c6, c7⟩ := HM1.out.c8m
  cases q with
  | true =>
    have HE : Hid (mapB m = false) := Lib.hid (mapB_badM (hq.1 rfl))
    clear hq
    go_wp2_with fail
    go_ret
    exact ⟨ret_bool HE.out.symm, HB1.out⟩
  | false =>
  have HE := Lib.hid (mapB_good (m := m) (fun h => by have := hq.2 h; cases this))
  have HNB : Hid (¬ badM m) := Lib.hid fun h => by have := hq.2 h; cases this
  have HC1 := Lib.hid (HCR.out w1 (HMP.out.now HB1.out))
  clear hq
  go_wp2_with fail
  (with_reducible refine HC1.out.mono ?_)
  rintro _ w2 ⟨v, rfl, hv, hb2⟩
  have HB2 := Lib.hid hb2
  obtain ⟨A, c, rfl, hv1, hv2, hv⟩ := hv.open_
  have HV := Lib.hid hv
  have HN0 : Hid ((colsR m).Nodup ∨ ¬ (colsR m).Nodup) := Classical.em _
  obtain ⟨xs, hxs⟩ : ∃ xs, colsR m = xs := ⟨_, rfl⟩
  rw [hxs] at HE HV hv1 ⊢
  clear hxs hb2 hv HC1 c0 c1 c2 c3 c4 c5 c6 c7 HN0
  go_wp2_with fail
  go_loopw [4] (fun iv wr => ∃ i : Nat, iv = .int .i64 (i : Int) ∧ i ≤ xs.length ∧ Hid (∀ y ∈ xs.take i, colOk y = true) ∧ Hid ((xs.take i).Nodup) ∧ Hid (Below w2.heap.size w2 wr)) (fun iv _ => xs.length - (intOf iv).toNat)
  case atStart => exact ⟨0, rfl, Nat.zero_le _, Lib.hid (by simp), Lib.hid (by simp), Lib.hid (Below.refl _ _)⟩
  case round =>
    obtain ⟨i, rfl, hi, HA, HN, HB3⟩ := hrel
    obtain ⟨w3, hw3⟩ : ∃ w3, wr = w3 := ⟨_, rfl⟩
    rw [hw3] at HB3 ⊢
    clear hw3
    by_cases hlt : i < xs.length
    · obtain ⟨b, o, x, rfl, hD, hx, _, hc⟩ := SlI.at_ (SlI.now HV.out HB3.out) hlt
      have HX := Lib.hid hx
      have i0 : (0 : Int) ≤ (i : Int) := by omega
      have i1 : (i : Int) < (xs.length : Int) := by omega
      have HCO := Lib.hid (fun W => column_ref x W)
      obtain ⟨qc, hqc⟩ : ∃ qc, colOk x = qc := ⟨_, rfl⟩
      have HQC := Lib.hid hqc
      have HCO : Hid (∀ W, Calls Tryz.prog 65 #[.int .i64 x] W fun e w' => e = .returned (.bool qc) ∧ W = w') := Lib.hid fun W => by rw [← hqc]; exact HCO.out W
      clear hx hqc hD
      go_wp2_with fail
      (with_reducible refine (HCO.out _).mono ?_)
      rintro _ w4 ⟨rfl, rfl⟩
      cases qc with
      | false =>
        have HF : Hid (mapB m = false) := by
          show _ = _
          rw [HE.out]
          have : xs.all colOk = false := List.all_eq_false.2 ⟨x, List.mem_of_getElem? HX.out, by rw [HQC.out]; decide⟩
          rw [this]; rfl
        go_wp2_with fail
        go_ret
        exact ⟨ret_bool HF.out.symm, HB1.out.trans (((HB2.out.trans (HB3.out.mono HB2.out.size))).mono HB1.out.size)⟩
      | true =>
        have HA2 := Lib.hid (all_step HA.out HX.out HQC.out)
        clear hc
        go_wp2_with fail
        go_loopw [5] (fun jv wr => ∃ j : Nat, jv = .int .i64 (j : Int) ∧ j ≤ i ∧ Hid (x ∉ xs.take j) ∧ Hid (Below w2.heap.size w2 wr)) (fun jv _ => i - (intOf jv).toNat)
        case atStart => exact ⟨0, rfl, Nat.zero_le _, Lib.hid (by simp), HB3⟩
        case round =>
          obtain ⟨j, rfl, hj, HNJ, HB4⟩ := hrel
          obtain ⟨w5, hw5⟩ : ∃ w5, wr = w5 := ⟨_, rfl⟩
          rw [hw5] at HB4 ⊢
          clear hw5 HB3
          by_cases hlj : j < i
          · have hjx : j < xs.length := by omega
            have hix : i < xs.length := by omega
            obtain ⟨b1, o1, x1, hA1, hD1, hx1, _, hc1⟩ := SlI.at_ (SlI.now HV.out HB4.out) hjx
            injection hA1 with hA1
            injection hA1 with e1 e2
            subst e1 e2
            obtain ⟨b2, o2, x2, hA2, hD2, hx2, _, hc2⟩ := SlI.at_ (SlI.now HV.out HB4.out) hix
            injection hA2 with hA2
            injection hA2 with e1 e2
            subst e1 e2
            have hx3 := HX.out
            rw [hx2] at hx3
            injection hx3 with hx3
            subst hx3
            have HX1 := Lib.hid hx1
            have j0 : (0 : Int) ≤ (j : Int) := by omega
            have j1 : (j : Int) < (xs.length : Int) := by omega
            clear hx1 hx2 hD1 hD2 hjx hix
            go_upto_region 12 with fail
            by_cases he : x1 = x2
            · have HF : Hid (mapB m = false) := by
                show _ = _
                rw [HE.out]
                have hn : ¬ xs.Nodup := fun hn => by
                  obtain ⟨l1, g1⟩ := List.getElem?_eq_some_iff.1 HX1.out
                  obtain ⟨l2, g2⟩ := List.getElem?_eq_some_iff.1 HX.out
                  exact List.pairwise_iff_getElem.1 hn j i l1 l2 hlj (g1.trans (he.trans g2.symm))
                rw [decide_eq_false hn]; simp
              have d1 : decide (x1 = x2) = true := decide_eq_true he
              have d2 : (x1 == x2) = true := by simpa using he
              clear he
              go_quiet (fail)
              go_wp2_with fail
              go_ret
              exact ⟨ret_bool HF.out.symm, bdrawn (HB1.out.trans (((HB2.out.trans (HB4.out.mono HB2.out.size))).mono HB1.out.size)) _⟩
            · have d1 : decide (x1 = x2) = false := decide_eq_false he
              have d2 : (x1 == x2) = false := by simpa using he
              have HNX := Lib.hid (nmem_step HNJ.out HX1.out he)
              clear he
              go_quiet (fail)
              go_wp2_with fail
              go_roundw
              case rel => exact ⟨j + 1, by go_num, by omega, HNX, Lib.hid (bdrawn HB4.out _)⟩
              case measure => simp [intOf]; omega
          · have hji : j = i := by omega
            have HNN : Hid ((xs.take (i + 1)).Nodup) := Lib.hid (nodup_step HN.out HX.out (by have := HNJ.out; rwa [hji] at this))
            have hjl : ¬ (j : Int) < (i : Int) := by omega
            clear hji
            go_wp2_with fail
            go_roundw
            case rel => exact ⟨i + 1, by go_num, by omega, HA2, HNN, HB4⟩
            case measure => simp [intOf]; omega
    · have hie : i = xs.length := by omega
      have hil : ¬ (i : Int) < (xs.length : Int) := by omega
      have HE2 : Hid (mapB m = m.kinds.all kindB) := by
        show _ = _
        rw [HE.out]
        have h1 : xs.all colOk = true := List.all_eq_true.2 (by have := HA.out; rwa [hie, List.take_of_length_le (Nat.le_refl _)] at this)
        have h2 : xs.Nodup := by have := HN.out; rwa [hie, List.take_of_length_le (Nat.le_refl _)] at this
        rw [h1, decide_eq_true h2]; rfl
      clear hie hlt
      go_wp2_with fail
      go_loopw [6] (fun jv wr => ∃ j : Nat, jv = .int .i64 (j : Int) ∧ j ≤ m.kinds.length ∧ Hid (∀ y ∈ m.kinds.take j, kindB y = true) ∧ Hid (Below w2.heap.size w2 wr)) (fun jv _ => m.kinds.length - (intOf jv).toNat)
      case atStart => exact ⟨0, rfl, Nat.zero_le _, Lib.hid (by simp), HB3⟩
      case round =>
        obtain ⟨j, rfl, hj, HKJ, HB4⟩ := hrel
        obtain ⟨w5, hw5⟩ : ∃ w5, wr = w5 := ⟨_, rfl⟩
        rw [hw5] at HB4 ⊢
        clear hw5 HB3
        have HB14 : Hid (Below w1.heap.size w1 w5) := Lib.hid (HB2.out.trans (HB4.out.mono HB2.out.size))
        obtain ⟨c0, c1, c2, c3, c4, c5, c6, c7⟩ := (HM1.out.now HB14.out).c8m
        by_cases hlj : j < m.kinds.length
        · obtain ⟨b1, o1, x1, rfl, hD1, hx1, _, hc1⟩ := SlI.at_ (SlI.now HMK.out (bthen HB1.out HB14.out)) hlj
          have HX1 := Lib.hid hx1
          have j0 : (0 : Int) ≤ (j : Int) := by omega
          have j1 : (j : Int) < (m.kinds.length : Int) := by omega
          clear hx1 hD1
          by_cases k1 : x1 = 1
          · subst k1
            have HS := Lib.hid (all_step HKJ.out HX1.out (by decide))
            go_wp2_with fail
            go_roundw
            case rel => exact ⟨j + 1, by go_num, by omega, HS, HB4⟩
            case measure => simp [intOf]; omega
          by_cases k2 : x1 = 2
          · subst k2
            have HS := Lib.hid (all_step HKJ.out HX1.out (by decide))
            clear k1
            go_wp2_with fail
            go_roundw
            case rel => exact ⟨j + 1, by go_num, by omega, HS, HB4⟩
            case measure => simp [intOf]; omega
          by_cases k3 : x1 = 3
          · subst k3
            have HS := Lib.hid (all_step HKJ.out HX1.out (by decide))
            clear k1 k2
            go_wp2_with fail
            go_roundw
            case rel => exact ⟨j + 1, by go_num, by omega, HS, HB4⟩
            case measure => simp [intOf]; omega
          have HF : Hid (mapB m = false) := by
            show _ = _
            rw [HE2.out]
            refine List.all_eq_false.2 ⟨x1, List.mem_of_getElem? HX1.out, ?_⟩
            unfold kindB
            simp [k1, k2, k3]
          have y1 : (x1 != 1) = true := by simpa using k1
          have y2 : (x1 != 2) = true := by simpa using k2
          have y3 : (x1 != 3) = true := by simpa using k3
          clear k1 k2 k3
          go_wp2_with fail
          go_ret
          exact ⟨ret_bool HF.out.symm, bthen HB1.out HB14.out⟩
        · have hje : j = m.kinds.length := by omega
          have HT : Hid (mapB m = true) := by
            show _ = _
            rw [HE2.out]
            exact List.all_eq_true.2 (by have := HKJ.out; rwa [hje, List.take_of_length_le (Nat.le_refl _)] at this)
          have hjl : ¬ (j : Int) < (m.kinds.length : Int) := by omega
          clear hje
          go_wp2_with fail
          go_ret
          exact ⟨ret_bool HT.out.symm, bthen HB1.out HB14.out⟩
end Go.Proofs.YtoalecalahkblaaGreatDoor

set_option linter.all false
namespace Go.Proofs.YtoalecalahkblaaGreatDoor
open Go.RowKit
end Go.Proofs.YtoalecalahkblaaGreatDoor
