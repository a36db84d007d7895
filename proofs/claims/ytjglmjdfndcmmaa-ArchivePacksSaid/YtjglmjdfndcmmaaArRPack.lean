/- casebookref16.Part, Blocks, Pack. -/
import Derived.Test.YtjglmjdfndcmmaaArRBlock
import Derived.Test.YtjglmjdfndcmmaaArPackP
import Derived.Test.YtjglmjdfndcmmaaArLogVR
import Derived.Test.YtjglmjdfndcmmaaArSum
set_option linter.all false
namespace Go.Proofs.Ytjglmjdfndcmmaa
open Go.RowKit

theorem part_sl' {D : Nat → Prop} {w : World} {b o n c : Nat} {es : List Ev} (h : SlEv D w (.slice (some ⟨b, o, none⟩) n c) es) {x : Nat} (hx : x < nParts es) (hn : n = es.length) (c' : Nat) (h1 : min 100 (n - 100 * x) ≤ c') (h2 : c' ≤ maxLen) :
    SlEv D w (.slice (some ⟨b, o + 100 * x * 6, none⟩) (min 100 (n - 100 * x)) c') (part es x) := by
  unfold nParts at hx
  subst hn
  have h2 := Sl.sub h (100 * x) (min 100 (es.length - 100 * x)) c' (by omega) h1 h2
  have h3 : (es.drop (100 * x)).take (min 100 (es.length - 100 * x)) = part es x := by
    unfold part
    rw [← List.length_drop, ← List.take_eq_take_min]
  rw [h3] at h2
  exact h2
set_option maxHeartbeats 1000000 in
theorem partR (b o n c x : Nat) (w : World) (hx : 100 * x < n) (hn : n ≤ 1000000) (hc : n ≤ c) (hc2 : c ≤ 9223372036854775807) :
    Calls Try.prog 36 #[.agg #[.slice (some ⟨b, o, none⟩) n c], .int .i64 (x : Int)] w fun e w' => e = .returned (.slice (some ⟨b, o + 100 * x * 6, none⟩) (min 100 (n - 100 * x)) (c - 100 * x)) ∧ Below w.heap.size w w' := by
  have hb1 := bone w (.cells #[.slice (some ⟨b, o, none⟩) n c] 24)
  have hc1 := (Blk.new w 24 #[.slice (some ⟨b, o, none⟩) n c]).c1
  have hw1 : IntKind.i64.wrap (100 * (x : Int)) = 100 * (x : Int) := i64wrap (by omega)
  have hw2 : IntKind.i64.wrap (100 * (x : Int) + 100) = 100 * (x : Int) + 100 := i64wrap (by omega)
  have z1 : (0 : Int) ≤ 100 * (x : Int) := by omega
  have z2 : 100 * (x : Int) ≤ (n : Int) := by omega
  have z3 : 100 * (x : Int) ≤ (c : Int) := by omega
  have z4 : 100 * (x : Int) < (n : Int) := by omega
  have m1 : 100 * (x : Int) ≤ min (100 * (x : Int) + 100) (n : Int) := by omega
  have m2 : min (100 * (x : Int) + 100) (n : Int) ≤ (c : Int) := by omega
  have m3 : (0 : Int) ≤ min (100 * (x : Int) + 100) (n : Int) := by omega
  have hme : (min (100 * (x : Int) + 100) (n : Int)).toNat - 100 * x = min 100 (n - 100 * x) := by omega
  rw [← hme]
  clear hme
  go_enter Try.func36, Try.ntmps36
  go_wp2_with fail
  go_ret
  exact ⟨rfl, hb1⟩
set_option maxHeartbeats 1000000 in
theorem blocksR (A : Option Addr) (n c : Nat) (w : World) (hn : n ≤ 1000000) :
    Calls Try.prog 34 #[.agg #[.slice A n c]] w fun e w' => e = .returned (.int .i64 (((n + 99) / 100 : Nat) : Int)) ∧ Below w.heap.size w w' := by
  have hb1 := bone w (.cells #[.slice A n c] 24)
  have hc1 := (Blk.new w 24 #[.slice A n c]).c1
  have hw1 : IntKind.i64.wrap ((n : Int) + 100) = (n : Int) + 100 := i64wrap (by omega)
  have hw2 : IntKind.i64.wrap ((n : Int) + 100 - 1) = (n : Int) + 100 - 1 := i64wrap (by omega)
  have hw3 : IntKind.i64.wrap (((n : Int) + 100 - 1) / 100) = ((n : Int) + 100 - 1) / 100 := i64wrap (by omega)
  go_enter Try.func34, Try.ntmps34
  go_wp2_with fail
  go_ret
  refine ⟨?_, hb1⟩
  show Ending.returned (.int .i64 (((n : Int) + 100 - 1) / 100)) = _
  rw [show ((n : Int) + 100 - 1) / 100 = (((n + 99) / 100 : Nat) : Int) by omega]
def le4To (s k : Nat) : List UInt8 := (le4 s).take k
theorem le4To_succ {s k : Nat} (hk : k < 4) : le4To s (k + 1) = le4To s k ++ [UInt8.ofNat (s / 256 ^ k % 256)] := by
  rcases (show k = 0 ∨ k = 1 ∨ k = 2 ∨ k = 3 by omega) with rfl | rfl | rfl | rfl <;> simp [le4To, le4]
theorem parts_room {es : List Ev} (hl : es.length ≤ 2000) (hok : ∀ e ∈ es, EvOk e) {x : Nat} (hx : x < nParts es) : (arNum es.length ++ arParts es x).length + (arBlock (part es x)).length ≤ 9000000 := by
  have a1 := arNum_len (n := es.length) (by omega)
  have a2 := arParts_len hok x
  have a3 := arBlock_len (l := part es x) (fun e he => hok e (part_mem he)) (part_len es x)
  have a4 : x ≤ 20 := by unfold nParts at hx; omega
  rw [List.length_append]
  omega
set_option maxRecDepth 100000 in
set_option maxHeartbeats 2000000 in
theorem packR (es : List Ev) (u : Value) (w : World) (h : IsLog (Lt w.heap.size) w u es) :
    Calls Try.prog 10 #[u] w (RetPack w.heap.size w (packE es)) := by
  have h0 := h
  obtain ⟨ev, rfl, hs⟩ := h
  obtain ⟨A, c, rfl, hcl, hcm, hs⟩ := hs.open_
  have hb1 := bone w (.cells #[.slice A es.length c] 24)
  have hB1 := Blk.new w 24 #[.slice A es.length c]
  have hc1 := hB1.c1
  have HV := Lib.hid (logValid_ref es _ _ (h0.now hb1))
  cases hv : logB es
  · have HE : Hid (packE es = ([], 1)) := by show _ = _; unfold packE; rw [hv]; rfl
    rw [hv] at HV
    clear hv h0 hs
    go_enter Try.func10, Try.ntmps10
    go_wp2_with fail
    (with_reducible refine HV.out.mono ?_)
    rintro x w1 ⟨rfl, hb2⟩
    go_wp2_with fail
    go_ret2
    refine ⟨.slice none 0 0, ?_, ?_, hb1.trans (hb2.mono hb1.size)⟩
    · rw [HE.out]; rfl
    · rw [HE.out]; exact ownC_nil _ _
  · obtain ⟨hlen, hok⟩ := log_parts hv
    have HOK := Lib.hid hok
    have HMO := Lib.hid (log_time hv)
    have HE : Hid (packE es = if 262144 < (arPack es).length then ([], 5) else (arPack es, 0)) := by show _ = _; unfold packE; rw [hv, if_pos rfl]
    have hpl := arPack_len hv
    have HPL := Lib.hid hpl
    rw [hv] at HV
    have HSL := Lib.hid hs
    have HVV := Lib.hid hv
    clear hv h0 hs hok hpl
    go_enter Try.func10, Try.ntmps10
    go_wp2_with fail
    (with_reducible refine HV.out.mono ?_)
    rintro x w1 ⟨rfl, hb2⟩
    have hB2 := hB1.now hb2
    have hc2 := hB2.c1
    have hb12 := hb1.trans (hb2.mono hb1.size)
    have HS := Lib.hid (SlEv.now HSL.out hb12)
    have HB12 := Lib.hid hb12
    have HCN := Lib.hid (numR es.length w1.heap.size (.slice none 0 0) [] w1 (by omega) (ownC_nil _ _) (Nat.le_refl _) (by have := arNum_len (n := es.length) (by omega); simp; omega))
    have HB2 := Lib.hid hB2
    clear hb1 hB1 hc1 hb2 hB2 hb12 HV
    go_wp2_with fail
    (with_reducible refine HCN.out.mono ?_)
    rintro _ w2 ⟨v2, rfl, hA2⟩
    rw [List.nil_append] at hA2
    have HA2 := Lib.hid hA2
    clear hA2 hc2
    go_wp2_with fail
    go_loopw [4, 5] (fun sv kv wr => ∃ k : Nat, kv = .int .i64 (k : Int) ∧ k ≤ nParts es ∧ Hid (Adds w1.heap.size w1 (.slice none 0 0) (arNum es.length ++ arParts es k) wr sv)) (fun _ kv _ => nParts es - (intOf kv).toNat)
    case atStart => exact ⟨0, rfl, Nat.zero_le _, Lib.hid (by simpa [arParts] using HA2.out)⟩
    case round =>
      obtain ⟨k, rfl, hk, HA⟩ := hrel
      obtain ⟨wo, rfl⟩ : ∃ wo, wo = wr := ⟨wr, rfl⟩
      have HBW := Lib.hid (HA.out.below (ownC_nil _ _) (Nat.le_refl _))
      have hG := HB2.out.now HBW.out
      have g1 := hG.c1
      have HCB := Lib.hid (blocksR A es.length c wo (by omega))
      rw [show (es.length + 99) / 100 = nParts es from rfl] at HCB
      by_cases hlt : k < nParts es
      · have z0 : (k : Int) < (nParts es : Int) := by omega
        have hl2 : 100 * k < es.length := by unfold nParts at hlt; omega
        obtain ⟨b, o, _, _, rfl, -⟩ := SlEv.at_ HS.out (k := 0) (by omega)
        have HRM := Lib.hid (parts_room hlen HOK.out hlt)
        go_wp2_with fail
        (with_reducible refine HCB.out.mono ?_)
        rintro _ w3 ⟨rfl, hb3⟩
        have hG3 := hG.now hb3
        have g3 := hG3.c1
        have HP := Lib.hid (partR b o es.length c k w3 hl2 (by omega) hcl hcm)
        clear g1 hG
        go_wp2_with fail
        (with_reducible refine HP.out.mono ?_)
        rintro _ w4 ⟨rfl, hb4⟩
        have HA4 := Lib.hid (HA.out.post (hb3.trans (hb4.mono hb3.size)))
        have HBK := Lib.hid (blockR (part es k) _ w1.heap.size u4 (arNum es.length ++ arParts es k) w4 (part_sl' (SlEv.below HS.out (HA4.out.below (ownC_nil _ _) (Nat.le_refl _)) (Nat.le_refl _)) hlt rfl (c - 100 * k) (by omega) (by unfold maxLen; omega)) (fun e he => HOK.out e (part_mem he)) (part_len es k) (HMO.out.sublist ((List.take_sublist _ _).trans (List.drop_sublist _ _))) HA4.out.own HA4.out.grown.size HRM.out)
        clear g3 hG3 hb3 hb4
        go_wp2_with fail
        (with_reducible refine HBK.out.mono ?_)
        rintro _ w5 ⟨v5, rfl, hA5⟩
        go_wp2_with fail
        go_roundw
        case rel =>
          refine ⟨k + 1, by go_num, by omega, Lib.hid ?_⟩
          rw [arParts_succ, ← List.append_assoc]
          exact HA4.out.trans hA5
        case measure => simp [intOf]; omega
      · obtain rfl : k = nParts es := by omega
        have z0 : ¬ (nParts es : Int) < (nParts es : Int) := by omega
        go_wp2_with fail
        (with_reducible refine HCB.out.mono ?_)
        rintro _ w3 ⟨rfl, hb3⟩
        have hA3 := HA.out.post hb3
        rw [show arNum es.length ++ arParts es (nParts es) = arBody es from rfl] at hA3
        have HA3 := Lib.hid hA3
        have HSM := Lib.hid (sum_ref u4 (arBody es) w3 hA3.own.slC)
        have hbl : (arBody es).length ≤ 4900000 := arBody_len HVV.out
        have hsl := sumOf_lt (arBody es)
        have HPK : Hid (arPack es = arBody es ++ le4To (sumOf (arBody es)) 4) := Lib.hid rfl
        have hsz1 : w1.heap.size ≤ w3.heap.size := HA3.out.grown.size
        clear g1 hG hA3 hb3 HCB HA hk hlt
        generalize arBody es = L at *
        generalize sumOf L = s at *
        go_wp2_with fail
        (with_reducible refine HSM.out.mono ?_)
        rintro _ w4 ⟨rfl, rfl⟩
        go_wp2_with fail
        go_loopw [4, 6, 7] (fun sv tv kv wr => ∃ k : Nat, kv = .int .i64 (k : Int) ∧ tv = .int .i64 ((s / 256 ^ k : Nat) : Int) ∧ k ≤ 4 ∧ Hid (Adds w1.heap.size w1 (.slice none 0 0) (L ++ le4To s k) wr sv)) (fun _ _ kv _ => 4 - (intOf kv).toNat)
        case atStart => exact ⟨0, rfl, by simp, by omega, Lib.hid (by simpa [le4To] using HA3.out)⟩
        case round =>
          obtain ⟨k, rfl, rfl, hk, HA⟩ := hrel
          have hszr := HA.out.grown.size
          by_cases hlt : k < 4
          · have HT := Lib.hid (le4To_succ (s := s) hlt)
            have hs2 : s / 256 ^ k < 4294967296 := Nat.lt_of_le_of_lt (Nat.div_le_self _ _) hsl
            have HD : Hid (s / 256 ^ (k + 1) = s / 256 ^ k / 256) := Lib.hid (by rw [Nat.pow_succ, Nat.div_div_eq_div_mul])
            generalize s / 256 ^ k = z at *
            have HZ := Lib.hid (show (z : Int) % 256 = ((UInt8.ofNat (z % 256)).toNat : Int) by rw [UInt8.toNat_ofNat']; omega)
            have hown := HA.out.own
            have hll : (L ++ le4To s k).length < 10000000 := by
              have : (le4To s k).length ≤ 4 := by unfold le4To; rw [List.length_take]; exact Nat.le_trans (Nat.min_le_left _ _) hk
              rw [List.length_append]; omega
            go_wp2_with (at_builtin; refine wpList_pushC rfl (.tmp 32) (.tmp 36) rfl (UInt8.ofNat (z % 256)) _ HZ.out rfl hown rfl hll hszr ?_; intro v' w' hA)
            go_roundw
            case rel =>
              refine ⟨k + 1, by go_num, ?_, by omega, Lib.hid ?_⟩
              · rw [HD.out]; go_num
              · rw [HT.out, ← List.append_assoc]
                exact HA.out.trans hA
            case measure => simp [intOf]; omega
          · obtain rfl : k = 4 := by omega
            rw [← HPK.out] at HA
            obtain ⟨A2, c2, rfl⟩ := HA.out.own.isSlice
            have hO := HA.out.own
            have HB5 := Lib.hid (HB12.out.trans ((HA.out.below (ownC_nil _ _) (Nat.le_refl _)).mono HB12.out.size))
            generalize arPack es = M at *
            by_cases hbig : 262144 < M.length
            · have hbi : (262144 : Int) < (M.length : Int) := by omega
              have HE2 : Hid ((if 262144 < M.length then (([], 5) : List UInt8 × Int) else (M, 0)) = ([], 5)) := by show _ = _; rw [if_pos hbig]
              go_wp2_with fail
              go_ret2
              refine ⟨.slice none 0 0, ?_, ?_, HB5.out⟩
              · rw [HE.out, HE2.out]; rfl
              · rw [HE.out, HE2.out]; exact ownC_nil _ _
            · have hbi : ¬ (262144 : Int) < (M.length : Int) := by omega
              have HE2 : Hid ((if 262144 < M.length then (([], 5) : List UInt8 × Int) else (M, 0)) = (M, 0)) := by show _ = _; rw [if_neg hbig]
              go_wp2_with fail
              go_ret2
              refine ⟨.slice A2 M.length c2, ?_, ?_, HB5.out⟩
              · rw [HE.out, HE2.out]; rfl
              · rw [HE.out, HE2.out]
                exact ownsRow_base_a hO HB12.out.size
end Go.Proofs.Ytjglmjdfndcmmaa
