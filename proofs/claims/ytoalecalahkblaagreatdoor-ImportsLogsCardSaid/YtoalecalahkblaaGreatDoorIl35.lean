/- Texts of this seat, merged. -/
import Derived.Test.YtoalecalahkblaaGreatDoorIl01
import Derived.Test.YtoalecalahkblaaGreatDoorIl02
import Derived.Test.YtoalecalahkblaaGreatDoorIl03
import Derived.Test.YtoalecalahkblaaGreatDoorIl04
import Derived.Test.YtoalecalahkblaaGreatDoorIl05
import Derived.Test.YtoalecalahkblaaGreatDoorIl06
import Derived.Test.YtoalecalahkblaaGreatDoorIl07
import Derived.Test.YtoalecalahkblaaGreatDoorIl08
import Derived.Test.YtoalecalahkblaaGreatDoorIl16
import Derived.Test.YtoalecalahkblaaGreatDoorIl18
import Derived.Test.YtoalecalahkblaaGreatDoorIl20
import Derived.Test.YtoalecalahkblaaGreatDoorIl21
import Derived.Test.YtoalecalahkblaaGreatDoorIl28
import Derived.Test.YtoalecalahkblaaGreatDoorIl34
set_option linter.all false
set_option linter.all false
namespace Go.Proofs.YtoalecalahkblaaGreatDoor
open Go.RowKit
theorem q_ends {sep : UInt8} : ∀ (n : Nat) (t acc b r : Bt), t.length ≤ n → quotedR sep acc t = .ok b r → endsB sep r = true
  | _, [], acc, b, r, _, h => by unfold quotedR at h; cases h
  | 0, c :: t, acc, b, r, h, _ => by simp at h
  | n + 1, c :: t, acc, b, r, h, hq => by
    have hl : t.length ≤ n := by simpa using h
    by_cases h1 : printB c = false
    · rw [quotedR_bad h1] at hq; cases hq
    have h1 : printB c = true := by simpa using h1
    by_cases h2 : c = 34
    · subst h2
      by_cases h3 : t.head? = some 34
      · cases t with
        | nil => cases h3
        | cons d t =>
          injection h3 with h3
          subst h3
          rw [quotedR_two] at hq
          exact q_ends n t _ b r (by simp at hl; omega) hq
      · rw [quotedR_stop h3] at hq
        by_cases h4 : endsB sep t = true
        · rw [if_pos h4] at hq; injection hq with _ hq; rw [← hq]; exact h4
        · rw [if_neg h4] at hq; cases hq
    · rw [quotedR_chr h1 h2] at hq
      exact q_ends n t _ b r hl hq
theorem p_ends {sep : UInt8} : ∀ (t acc b r : Bt), plainR sep acc t = .ok b r → endsB sep r = true
  | [], acc, b, r, h => by unfold plainR at h; injection h with _ h; rw [← h]; rfl
  | c :: t, acc, b, r, h => by
    by_cases h1 : c = 10 ∨ c = sep
    · rw [plR_stop h1] at h
      injection h with _ h
      rw [← h]
      show (c == 10 || c == sep) = true
      rcases h1 with h1 | h1 <;> simp [h1]
    by_cases h2 : printB c = false ∨ c = 34
    · rw [plR_bad h1 h2] at h; cases h
    rw [plR_more h1 h2] at h
    exact p_ends t _ b r h
theorem cell_ends {sep : UInt8} {t b r : Bt} (h : cellR sep t = .ok b r) : endsB sep r = true := by
  unfold cellR at h
  split at h
  · exact q_ends _ _ _ _ _ (Nat.le_refl _) h
  · exact p_ends _ _ _ _ h
set_option maxHeartbeats 8000000 in
set_option maxRecDepth 100000 in
theorem cells_ref (s : ByteArray) (sep : UInt8) (w : World) (hsz : s.size ≤ 9223372036854775807) :
    Calls Tryz.prog 58 #[.string s, .int .u8 (sep.toNat : Int)] w (RetRows (cellsE sep s.data.toList) w) := by
  have HLEN : Hid (s.data.toList.length = s.size) := Lib.hid (by simp)
  obtain ⟨sz, hsz'⟩ : ∃ sz, (sep.toNat : Int) = sz := ⟨_, rfl⟩
  have HSEP := Lib.hid (separator_ref sep)
  have HSP := Lib.hid (fun c : UInt8 => neI c sep sz hsz')
  have HSB := Lib.hid (fun c : UInt8 => beqI c sep sz hsz')
  have HTE := Lib.hid (fun c : UInt8 => neI c 10 10 rfl)
  have HQU := Lib.hid (fun c : UInt8 => beqI c 34 34 rfl)
  obtain ⟨q, hq⟩ : ∃ q, isSep sep = q := ⟨_, rfl⟩
  rw [hq] at HSEP
  rw [hsz'] at HSEP ⊢
  have HQS := Lib.hid hq
  have HSZ := Lib.hid hsz'
  have HPL := Lib.hid (fun n W h1 h2 => place_ref s n W h1 h2)
  have HPN := Lib.hid (fun j W h1 h2 => by have := plain_ref s sep j W h1 h2; rwa [hsz'] at this)
  have HQT := Lib.hid (fun j W h1 h2 => quoted_ref s j W h1 h2)
  have hb1 := bone w (.cells #[.int .i64 0, .int .i64 0] 40)
  have hP1 := Blk.new w 40 #[.int .i64 0, .int .i64 0]
  clear hq hsz'
  go_enter Tryz.func58, Tryz.ntmps58
  go_upto_region 1 with fail
  obtain ⟨w1, hw1⟩ : ∃ w1, w.alloc (.cells #[.int .i64 0, .int .i64 0] 40) = w1 := ⟨_, rfl⟩
  rw [hw1] at hb1 hP1 ⊢
  have HB1 := Lib.hid hb1
  have HP1 := Lib.hid hP1
  have f0 := hP1.frozen 0
  have f1 := hP1.frozen 1
  obtain ⟨d0, d1⟩ := hP1.c2
  clear hw1 hb1 hP1
  go_wp2_with fail
  (with_reducible refine (HSEP.out _).mono ?_)
  rintro _ w2 ⟨rfl, rfl⟩
  cases q with
  | false =>
    have HE : Hid (cellsE sep s.data.toList = ([], (0, 0), 1)) := by show _ = _; unfold cellsE; rw [if_pos HQS.out]
    go_wp2_with fail
    obtain ⟨r0, r1⟩ := (HP1.out.put2 (.int .i64 0) (.int .i64 0)).c2
    refine bodyPost_ret (v := .tuple #[.slice none 0 0, .agg #[.int .i64 0, .int .i64 0], .int .i64 1]) (by simp [results, Tryz.results58, go_sem, r0, r1]) rfl ?_
    rw [HE.out]
    exact ⟨_, rfl, Sl.none_, bset2' HB1.out (Nat.le_refl _) _ _⟩
  | true =>
  by_cases hlong : 16384 < s.size
  · have HE : Hid (cellsE sep s.data.toList = ([], (0, 0), 5)) := by show _ = _; unfold cellsE; rw [if_neg (by rw [HQS.out]; decide), if_pos (by rw [HLEN.out]; omega)]
    have i1 : (16384 : Int) < (s.size : Int) := by omega
    go_wp2_with fail
    obtain ⟨r0, r1⟩ := (HP1.out.put2 (.int .i64 0) (.int .i64 0)).c2
    refine bodyPost_ret (v := .tuple #[.slice none 0 0, .agg #[.int .i64 0, .int .i64 0], .int .i64 5]) (by simp [results, Tryz.results58, go_sem, r0, r1]) rfl ?_
    rw [HE.out]
    exact ⟨_, rfl, Sl.none_, bset2' HB1.out (Nat.le_refl _) _ _⟩
  have hs : s.size ≤ 16384 := by omega
  have HE : Hid (cellsE sep s.data.toList = tabE s.data.toList (tabR sep s.data.toList.length [] s.data.toList)) := by
    show _ = _
    unfold cellsE
    rw [if_neg (by rw [HQS.out]; decide), if_neg (by rw [HLEN.out]; omega)]
  have i1 : ¬ (16384 : Int) < (s.size : Int) := by omega
  -- a fault's return
  have HFAULT : Hid (∀ (f : Nat) (e : Int), f ≤ s.size → tabR sep s.data.toList.length [] s.data.toList = .bad (s.data.toList.drop f) e → cellsE sep s.data.toList = ([], plAt s.data.toList f, e)) := Lib.hid fun f e hf h => by
    rw [HE.out, h]
    show ([], plAt s.data.toList (s.data.toList.length - (s.data.toList.drop f).length), e) = _
    rw [dropLen hf]
  clear hlong d0 d1 f0 f1
  go_wp2_with fail
  go_loopw [7, 8] (fun ov iv wr => ∃ (i n : Nat) (acc : List (List Bt)), iv = .int .i64 (i : Int) ∧ i ≤ s.size + 1 ∧ Hid (acc.length ≤ i) ∧ Hid (Blk wr w.heap.size 40 #[.int .i64 0, .int .i64 0]) ∧ Hid (OwnR 1 RStrs (Lt w1.heap.size) wr w1.heap.size 51 ov acc) ∧ Hid (Below w.heap.size w wr) ∧ Hid (w1.heap.size ≤ wr.heap.size) ∧ Hid (s.size ≤ n + i) ∧ Hid (tabR sep s.data.toList.length [] s.data.toList = tabR sep n acc (s.data.toList.drop i))) (fun _ iv _ => s.size + 1 - (intOf iv).toNat)
  case atStart => exact ⟨0, s.size, [], by go_num, Nat.zero_le _, Lib.hid (Nat.zero_le _), HP1, Lib.hid OwnR.nil, HB1, Lib.hid (Nat.le_refl _), Lib.hid (by show _ ≤ _; omega), Lib.hid (by show _ = _; rw [HLEN.out, List.drop_zero])⟩
  case round =>
    obtain ⟨i, n, acc, rfl, his, HAL, HP, HO, HB, HS, HN, HT⟩ := hrel
    obtain ⟨A, cb, hA⟩ := HO.out.open_
    subst hA
    obtain ⟨wo, hwo⟩ : ∃ wo, wr = wo := ⟨_, rfl⟩
    rw [hwo] at HP HO HB HS ⊢
    clear hwo
    by_cases hi : i < s.size
    · have HDI := Lib.hid (dropAt hi)
      by_cases hful : acc.length = 2001
      · have e1 : ((acc.length : Int) == 2001) = true := by rw [hful]; rfl
        have HF := Lib.hid (HFAULT.out i 5 (by omega) (by rw [HT.out, HDI.out, tabR_full hful]))
        have HPC := Lib.hid (HPL.out i wo hs (by omega))
        obtain ⟨pl, hpl⟩ : ∃ pl, plAt s.data.toList i = pl := ⟨_, rfl⟩
        rw [hpl] at HF HPC
        obtain ⟨p1, p2⟩ := pl
        clear hful hpl
        go_wp2_with fail
        (with_reducible refine HPC.out.mono ?_)
        rintro _ w3 ⟨rfl, hb3⟩
        have HP3 := Lib.hid (HP.out.now hb3)
        have HB3 := Lib.hid (bthen HB.out hb3)
        obtain ⟨d0, d1⟩ := HP3.out.c2
        have f0 := HP3.out.frozen 0
        have f1 := HP3.out.frozen 1
        clear hb3
        go_wp2_with fail
        have hz := HP3.out.put2 (.int .i64 p1) (.int .i64 p2)
        have hbz := bset2' HB3.out (Nat.le_refl _) (.int .i64 p1) (.int .i64 p2)
        generalize ((w3.setCell ⟨w.heap.size, 0, none⟩ (.int .i64 p1)).setCell ⟨w.heap.size, 1, none⟩ (.int .i64 p2)) = wz at hz hbz ⊢
        obtain ⟨r0, r1⟩ := hz.c2
        refine bodyPost_ret (v := .tuple #[.slice none 0 0, .agg #[.int .i64 p1, .int .i64 p2], .int .i64 5]) (by simp [results, Tryz.results58, go_sem, r0, r1]) rfl ?_
        rw [HF.out]
        exact ⟨_, rfl, Sl.none_, hbz⟩
      · have e1 : ((acc.length : Int) == 2001) = false := beq_false_of_ne (by omega)
        have HFUL := Lib.hid hful
        clear hful
        go_wp2_with fail
        go_loopw [8, 9, 10] (fun jv rv qv wr2 => ∃ (j m : Nat) (racc : List Bt) (q : Bool), jv = .int .i64 (j : Int) ∧ qv = .bool q ∧ i ≤ j ∧ j ≤ s.size + 1 ∧ Hid (racc.length ≤ j) ∧ Hid (∀ l ∈ racc, l.length ≤ maxLen) ∧ Hid (OwnT wr2 wo.heap.size rv racc) ∧ Hid (Below wo.heap.size wo wr2) ∧ Hid (q = true → j ≤ s.size ∧ s.size ≤ m + j ∧ rowR sep (s.data.toList.drop i).length [] (s.data.toList.drop i) = rowR sep m racc (s.data.toList.drop j)) ∧ Hid (q = false → i < j ∧ rowR sep (s.data.toList.drop i).length [] (s.data.toList.drop i) = .ok racc (s.data.toList.drop j))) (fun jv _ _ _ => s.size + 1 - (intOf jv).toNat)
        case atStart => exact ⟨i, (s.data.toList.drop i).length, [], true, rfl, rfl, Nat.le_refl _, his, Lib.hid (Nat.zero_le _), Lib.hid (fun l hl => by cases hl), Lib.hid OwnT.nil, Lib.hid (Below.refl _ _), Lib.hid (fun _ => ⟨by omega, by rw [List.length_drop, HLEN.out]; omega, rfl⟩), Lib.hid (fun h => by cases h)⟩
        case round =>
          obtain ⟨j, m, racc, q, rfl, rfl, hij, hjs, HRA, HRL, HTr, HBr, HQT1, HQF1⟩ := hrel
          obtain ⟨Ar, cr, hA⟩ := HTr.out.open_
          subst hA
          obtain ⟨wi, hwi⟩ : ∃ wi, wr = wi := ⟨_, rfl⟩
          rw [hwi] at HTr HBr ⊢
          clear hwi
          cases q with
          | true =>
            obtain ⟨hjs2, hmj, hrow⟩ : j ≤ s.size ∧ s.size ≤ m + j ∧ rowR sep (s.data.toList.drop i).length [] (s.data.toList.drop i) = rowR sep m racc (s.data.toList.drop j) := by first | exact HQT1.out rfl | exact HQT1.out trivial | exact HQT1.out
            have HROW := Lib.hid hrow
            clear hrow HQT1 HQF1
            go_upto_region 17 with fail
            go_cut [44] from 35 to 44 (fun x W => ∃ q : Bool, x = .bool q ∧ Hid (q = true → ∃ h : j < s.size, s[j] = 34) ∧ Hid (q = false → ¬ ∃ h : j < s.size, s[j] = 34) ∧ wi = W)
            case first =>
              by_cases hjl : j < s.size
              · have i2 : (0 : Int) ≤ (j : Int) := by omega
                have i3 : (j : Int) < (s.size : Int) := by omega
                have b2 := HQU.out s[j]
                by_cases h34 : s[j] = 34
                · have e2 : ((s[j].toNat : Int) == 34) = true := by rw [b2, h34]; rfl
                  clear b2
                  have HX : Hid (∃ h : j < s.size, s[j] = 34) := Lib.hid ⟨hjl, h34⟩
                  clear h34
                  go_wp2_with fail
                  go_meet
                  exact ⟨true, rfl, Lib.hid (fun _ => HX.out), Lib.hid (fun h => by cases h), rfl⟩
                · have e2 : ((s[j].toNat : Int) == 34) = false := by rw [b2]; exact beq_false_of_ne h34
                  clear b2
                  have HX : Hid (¬ ∃ h : j < s.size, s[j] = 34) := Lib.hid (fun ⟨_, h⟩ => h34 h)
                  clear h34
                  go_wp2_with fail
                  go_meet
                  exact ⟨false, rfl, Lib.hid (fun h => by cases h), Lib.hid (fun _ => HX.out), rfl⟩
              · have i3 : ¬ (j : Int) < (s.size : Int) := by omega
                have HX : Hid (¬ ∃ h : j < s.size, s[j] = 34) := Lib.hid (fun ⟨h, _⟩ => hjl h)
                go_wp2_with fail
                go_meet
                exact ⟨false, rfl, Lib.hid (fun h => by cases h), Lib.hid (fun _ => HX.out), rfl⟩
            case rest =>
            obtain ⟨qc, rfl, HQC1, HQC2, rfl⟩ := hcut
            go_upto_if 44 with fail
            go_cut [11, 12, 13, 14] from 46 to 85 (fun cv fv ev kv W => ∃ (b : Bt) (k f : Nat) (e fz kz : Int), cv = .string (bsOf b) ∧ fv = .int .i64 fz ∧ ev = .int .i64 e ∧ kv = .int .i64 kz ∧ Hid (e = 0 → kz = (k : Int) ∧ cellR sep (s.data.toList.drop j) = .ok b (s.data.toList.drop k) ∧ j ≤ k ∧ k ≤ s.size) ∧ Hid (e ≠ 0 → fz = (f : Int) ∧ cellR sep (s.data.toList.drop j) = .bad (s.data.toList.drop f) e ∧ f ≤ s.size) ∧ Below wi.heap.size wi W)
            case first =>
              cases qc with
              | true =>
                obtain ⟨hjl, h34⟩ : ∃ h : j < s.size, s[j] = 34 := by first | exact HQC1.out rfl | exact HQC1.out trivial | exact HQC1.out
                have i2 : (0 : Int) ≤ (j : Int) := by omega
                have i3 : (j : Int) < (s.size : Int) := by omega
                have HCQ : Hid (cellR sep (s.data.toList.drop j) = (match qR [] (s.data.toList.drop (j + 1)) with | .bad r e => .bad r e | .ok b r => if endsB sep r = true then .ok b r else .bad r 3)) := by
                  show _ = _
                  rw [dropAt hjl, h34, cellR_q]
                  cases qR [] (s.data.toList.drop (j + 1)) <;> rfl
                have HSUF := Lib.hid (qR_suf _ (s.data.toList.drop (j + 1)) [] (Nat.le_refl _))
                have HQC := Lib.hid (HQT.out j wi hs hjl)
                have HQE : Hid (quE s.data.toList j = (match qR [] (s.data.toList.drop (j + 1)) with | .ok b rest => (b, ((s.data.toList.length - rest.length : Nat) : Int), -1, 0) | .bad rest e => ([], 0, ((s.data.toList.length - rest.length : Nat) : Int), e))) := rfl
                obtain ⟨qe, hqe⟩ : ∃ qe, quE s.data.toList j = qe := ⟨_, rfl⟩
                rw [hqe] at HQC HQE
                have HER := Lib.hid (fun r e => qR_err _ (s.data.toList.drop (j + 1)) [] r e (Nat.le_refl _))
                obtain ⟨qr, hqr⟩ : ∃ qr, qR [] (s.data.toList.drop (j + 1)) = qr := ⟨_, rfl⟩
                rw [hqr] at HCQ HSUF HQE HER
                clear hqe hqr h34
                go_wp2_with fail
                (with_reducible refine HQC.out.mono ?_)
                rintro _ w3 ⟨rfl, hb3⟩
                have HB3 := Lib.hid hb3
                clear hb3 HQC
                cases qr with
                | bad r e =>
                  obtain ⟨h1, h2⟩ := suf_drop (s := s.data.toList) (show r <:+ s.data.toList.drop (j + 1) from HSUF.out) (by rw [HLEN.out]; omega)
                  obtain ⟨f, hf⟩ : ∃ f, s.data.toList.length - r.length = f := ⟨_, rfl⟩
                  have HQE2 : Hid (qe = ([], 0, (f : Int), e)) := by show _ = _; rw [HQE.out, ← hf]
                  have he := HER.out r e rfl
                  have HG : Hid (cellR sep (s.data.toList.drop j) = .bad (s.data.toList.drop f) e) := Lib.hid (by rw [HCQ.out, ← hf]; rw [← h1])
                  have HFS : Hid (f ≤ s.size) := Lib.hid (by rw [← hf, HLEN.out]; omega)
                  have hqe := HQE2.out
                  subst hqe
                  have e3 : (e == 0) = false := beq_false_of_ne he
                  have HEN := Lib.hid he
                  clear HQE HCQ HER HSUF h1 h2 hf he HQE2
                  go_wp2_with fail
                  go_meet
                  exact ⟨[], 0, f, e, (f : Int), 0, rfl, rfl, rfl, rfl, Lib.hid (fun h => absurd h HEN.out), Lib.hid (fun _ => ⟨rfl, HG.out, HFS.out⟩), HB3.out⟩
                | ok b r =>
                  obtain ⟨h1, h2⟩ := suf_drop (s := s.data.toList) (show r <:+ s.data.toList.drop (j + 1) from HSUF.out) (by rw [HLEN.out]; omega)
                  obtain ⟨k, hf⟩ : ∃ k, s.data.toList.length - r.length = k := ⟨_, rfl⟩
                  have HQE2 : Hid (qe = (b, (k : Int), -1, 0)) := by show _ = _; rw [HQE.out, ← hf]
                  have hks : k ≤ s.size := by rw [← hf, HLEN.out]; omega
                  have hjk : j ≤ k := by rw [← hf]; omega
                  rw [hf] at h1
                  have HCQ2 : Hid (cellR sep (s.data.toList.drop j) = if endsB sep (s.data.toList.drop k) = true then .ok b (s.data.toList.drop k) else .bad (s.data.toList.drop k) 3) := by show _ = _; rw [HCQ.out, h1]
                  have hqe := HQE2.out
                  subst hqe
                  clear HQE HCQ HER HSUF h1 h2 hf HQE2
                  by_cases hkl : k < s.size
                  · have HDK := Lib.hid (dropAt hkl)
                    obtain ⟨c, hc⟩ : ∃ c, s[k] = c := ⟨_, rfl⟩
                    rw [hc] at HDK
                    have b1 := HSP.out c
                    have b2 := HTE.out c
                    have i4 : (0 : Int) ≤ (k : Int) := by omega
                    have i5 : (k : Int) < (s.size : Int) := by omega
                    obtain ⟨cz, hcz⟩ : ∃ cz, (c.toNat : Int) = cz := ⟨_, rfl⟩
                    rw [hcz] at b1 b2
                    by_cases hcs : c = sep
                    · have e3 : (cz != sz) = false := by rw [b1, hcs]; simp
                      have HG : Hid (cellR sep (s.data.toList.drop j) = .ok b (s.data.toList.drop k)) := Lib.hid (by rw [HCQ2.out, HDK.out, if_pos (by rw [hcs]; simp [endsB])])
                      clear b1 b2 hcs
                      go_wp2_with fail
                      go_meet
                      exact ⟨b, k, 0, 0, -1, (k : Int), rfl, rfl, rfl, rfl, Lib.hid (fun _ => ⟨rfl, HG.out, hjk, hks⟩), Lib.hid (fun h => absurd rfl h), HB3.out⟩
                    · have e3 : (cz != sz) = true := by rw [b1]; simpa using hcs
                      by_cases hc10 : c = 10
                      · have e4 : (cz != 10) = false := by rw [b2, hc10]; rfl
                        have HG : Hid (cellR sep (s.data.toList.drop j) = .ok b (s.data.toList.drop k)) := Lib.hid (by rw [HCQ2.out, HDK.out, if_pos (by rw [hc10]; rfl)])
                        clear b1 b2 hcs hc10
                        go_wp2_with fail
                        go_meet
                        exact ⟨b, k, 0, 0, -1, (k : Int), rfl, rfl, rfl, rfl, Lib.hid (fun _ => ⟨rfl, HG.out, hjk, hks⟩), Lib.hid (fun h => absurd rfl h), HB3.out⟩
                      · have e4 : (cz != 10) = true := by rw [b2]; simpa using hc10
                        have hne : endsB sep (s.data.toList.drop k) = false := by rw [HDK.out]; show (c == 10 || c == sep) = false; rw [beq_false_of_ne hc10, beq_false_of_ne hcs]; rfl
                        have HCB : Hid (cellR sep (s.data.toList.drop j) = .bad (s.data.toList.drop k) 3) := by show _ = _; rw [HCQ2.out, if_neg (by rw [hne]; decide)]
                        have HF := Lib.hid (HFAULT.out k 3 hks (by
                          obtain ⟨n', rfl⟩ : ∃ n', n = n' + 1 := ⟨n - 1, by have := HN.out; omega⟩
                          rw [HT.out, HDI.out, tabR_bad HFUL.out (by rw [← HDI.out, HROW.out, rowR_bad HCB.out])]))
                        have HPC := Lib.hid (HPL.out k w3 hs hks)
                        obtain ⟨pl, hpl⟩ : ∃ pl, plAt s.data.toList k = pl := ⟨_, rfl⟩
                        rw [hpl] at HF HPC
                        obtain ⟨p1, p2⟩ := pl
                        clear hpl b1 b2 hcs hc10 hne
                        go_wp2_with fail
                        (with_reducible refine HPC.out.mono ?_)
                        rintro _ w4 ⟨rfl, hb4⟩
                        have hb04 : Below wo.heap.size wo w4 := HBr.out.trans ((bthen HB3.out hb4).mono HBr.out.size)
                        have HP4 := Lib.hid (HP.out.now hb04)
                        have HB4 := Lib.hid (bthen HB.out hb04)
                        obtain ⟨d0, d1⟩ := HP4.out.c2
                        have f0 := HP4.out.frozen 0
                        have f1 := HP4.out.frozen 1
                        clear hb4 hb04
                        go_wp2_with fail
                        have hz := HP4.out.put2 (.int .i64 p1) (.int .i64 p2)
                        have hbz := bset2' HB4.out (Nat.le_refl _) (.int .i64 p1) (.int .i64 p2)
                        generalize ((w4.setCell ⟨w.heap.size, 0, none⟩ (.int .i64 p1)).setCell ⟨w.heap.size, 1, none⟩ (.int .i64 p2)) = wz at hz hbz ⊢
                        obtain ⟨r0, r1⟩ := hz.c2
                        refine bodyPost_ret (v := .tuple #[.slice none 0 0, .agg #[.int .i64 p1, .int .i64 p2], .int .i64 3]) (by simp [results, Tryz.results58, go_sem, r0, r1]) rfl ?_
                        rw [HF.out]
                        exact ⟨_, rfl, Sl.none_, hbz⟩
                  · have i5 : ¬ (k : Int) < (s.size : Int) := by omega
                    have HG : Hid (cellR sep (s.data.toList.drop j) = .ok b (s.data.toList.drop k)) := Lib.hid (by rw [HCQ2.out, if_pos (by rw [dropEnd (show s.size ≤ k by omega)]; rfl)])
                    go_wp2_with fail
                    go_meet
                    exact ⟨b, k, 0, 0, -1, (k : Int), rfl, rfl, rfl, rfl, Lib.hid (fun _ => ⟨rfl, HG.out, hjk, hks⟩), Lib.hid (fun h => absurd rfl h), HB3.out⟩
              | false =>
                have hq34 : ¬ ∃ h : j < s.size, s[j] = 34 := by first | exact HQC2.out rfl | exact HQC2.out trivial | exact HQC2.out
                have HCP : Hid (cellR sep (s.data.toList.drop j) = plainR sep [] (s.data.toList.drop j)) := Lib.hid (cellR_plain (fun h => hq34 (by
                  by_cases hjl : j < s.size
                  · rw [headDrop hjl] at h
                    injection h with h
                    exact ⟨hjl, h⟩
                  · rw [dropEnd (by omega)] at h; cases h)))
                have HSUF := Lib.hid (plR_suf (sep := sep) (s.data.toList.drop j) [])
                have HQC := Lib.hid (HPN.out j wi hs hjs2)
                have HQE : Hid (plE sep s.data.toList j = (match plainR sep [] (s.data.toList.drop j) with | .ok b rest => (b, ((s.data.toList.length - rest.length : Nat) : Int), -1, 0) | .bad rest e => ([], 0, ((s.data.toList.length - rest.length : Nat) : Int), e))) := rfl
                obtain ⟨qe, hqe⟩ : ∃ qe, plE sep s.data.toList j = qe := ⟨_, rfl⟩
                rw [hqe] at HQC HQE
                have HER := Lib.hid (fun r e => plR_err (sep := sep) (s.data.toList.drop j) [] r e)
                obtain ⟨qr, hqr⟩ : ∃ qr, plainR sep [] (s.data.toList.drop j) = qr := ⟨_, rfl⟩
                rw [hqr] at HCP HSUF HQE HER
                have HPOST : Hid (∃ (b : Bt) (k f : Nat) (e fz kz : Int), qe = (b, kz, fz, e) ∧ (e = 0 → kz = (k : Int) ∧ cellR sep (s.data.toList.drop j) = .ok b (s.data.toList.drop k) ∧ j ≤ k ∧ k ≤ s.size) ∧ (e ≠ 0 → fz = (f : Int) ∧ cellR sep (s.data.toList.drop j) = .bad (s.data.toList.drop f) e ∧ f ≤ s.size)) := Lib.hid (by
                  obtain ⟨h1, h2⟩ := suf_drop (s := s.data.toList) HSUF.out (by rw [HLEN.out]; omega)
                  cases qr with
                  | bad r e =>
                    have h1 : r = s.data.toList.drop (s.data.toList.length - r.length) := h1
                    have h2 : j ≤ s.data.toList.length - r.length := h2
                    exact ⟨[], 0, s.data.toList.length - r.length, e, _, 0, HQE.out, fun h => absurd h (HER.out r e rfl), fun _ => ⟨rfl, by rw [HCP.out, ← h1], by rw [HLEN.out]; omega⟩⟩
                  | ok b r =>
                    have h1 : r = s.data.toList.drop (s.data.toList.length - r.length) := h1
                    have h2 : j ≤ s.data.toList.length - r.length := h2
                    exact ⟨b, s.data.toList.length - r.length, 0, 0, -1, _, HQE.out, fun _ => ⟨rfl, by rw [HCP.out, ← h1], h2, by rw [HLEN.out]; omega⟩, fun h => absurd rfl h⟩)
                obtain ⟨b, k, f, e, fz, kz, hqe2, hg1, hg2⟩ := HPOST.out
                rw [hqe2] at HQC
                have HG1 := Lib.hid hg1
                have HG2 := Lib.hid hg2
                clear hqe hqr hg1 hg2 HPOST HCP HSUF HQE HER hqe2
                have HCUT : Hid (∀ W, Below wi.heap.size wi W → ∃ (b' : Bt) (k' f' : Nat) (e' fz' kz' : Int), Value.string (bsOf b) = .string (bsOf b') ∧ Value.int .i64 fz = .int .i64 fz' ∧ Value.int .i64 e = .int .i64 e' ∧ Value.int .i64 kz = .int .i64 kz' ∧ Hid (e' = 0 → kz' = (k' : Int) ∧ cellR sep (s.data.toList.drop j) = .ok b' (s.data.toList.drop k') ∧ j ≤ k' ∧ k' ≤ s.size) ∧ Hid (e' ≠ 0 → fz' = (f' : Int) ∧ cellR sep (s.data.toList.drop j) = .bad (s.data.toList.drop f') e' ∧ f' ≤ s.size) ∧ Below wi.heap.size wi W) := Lib.hid fun W hW => ⟨b, k, f, e, fz, kz, rfl, rfl, rfl, rfl, HG1, HG2, hW⟩
                clear hq34
                go_wp2_with fail
                (with_reducible refine HQC.out.mono ?_)
                rintro _ w3 ⟨rfl, hb3⟩
                have HB3 := Lib.hid hb3
                clear hb3 HQC
                go_wp2_with fail
                go_meet
                exact HCUT.out _ HB3.out
            case rest =>
            obtain ⟨b, k, f, e, fz, kz, rfl, rfl, rfl, rfl, HOK, HBD, hb3⟩ := hcut
            obtain ⟨w3, hw3⟩ : ∃ w3, wc = w3 := ⟨_, rfl⟩
            rw [hw3] at hb3 ⊢
            have HB3 := Lib.hid hb3
            have HBO3 := Lib.hid (HBr.out.trans (hb3.mono HBr.out.size))
            have HT3 : Hid (OwnT w3 wo.heap.size (.slice Ar racc.length cr) racc) := Lib.hid (own_now HTr.out hb3)
            clear hw3 hb3
            by_cases he : e = 0
            case neg =>
              obtain ⟨hfz, hbad, hfs⟩ := HBD.out he
              subst hfz
              have HCB := Lib.hid hbad
              have e3 : (e != 0) = true := by simpa using he
              have HF := Lib.hid (HFAULT.out f e hfs (by
                obtain ⟨n', rfl⟩ : ∃ n', n = n' + 1 := ⟨n - 1, by have := HN.out; omega⟩
                rw [HT.out, HDI.out, tabR_bad HFUL.out (by rw [← HDI.out, HROW.out, rowR_bad HCB.out])]))
              have HPC := Lib.hid (HPL.out f w3 hs hfs)
              obtain ⟨pl, hpl⟩ : ∃ pl, plAt s.data.toList f = pl := ⟨_, rfl⟩
              rw [hpl] at HF HPC
              obtain ⟨p1, p2⟩ := pl
              clear hpl he hbad HOK HBD
              go_wp2_with fail
              (with_reducible refine HPC.out.mono ?_)
              rintro _ w4 ⟨rfl, hb4⟩
              have hb04 : Below wo.heap.size wo w4 := HBO3.out.trans (hb4.mono HBO3.out.size)
              have HP4 := Lib.hid (HP.out.now hb04)
              have HB4 := Lib.hid (bthen HB.out hb04)
              obtain ⟨d0, d1⟩ := HP4.out.c2
              have f0 := HP4.out.frozen 0
              have f1 := HP4.out.frozen 1
              clear hb4 hb04
              go_wp2_with fail
              have hz := HP4.out.put2 (.int .i64 p1) (.int .i64 p2)
              have hbz := bset2' HB4.out (Nat.le_refl _) (.int .i64 p1) (.int .i64 p2)
              generalize ((w4.setCell ⟨w.heap.size, 0, none⟩ (.int .i64 p1)).setCell ⟨w.heap.size, 1, none⟩ (.int .i64 p2)) = wz at hz hbz ⊢
              obtain ⟨r0, r1⟩ := hz.c2
              refine bodyPost_ret (v := .tuple #[.slice none 0 0, .agg #[.int .i64 p1, .int .i64 p2], .int .i64 e]) (by simp [results, Tryz.results58, go_sem, r0, r1]) rfl ?_
              rw [HF.out]
              exact ⟨_, rfl, Sl.none_, hbz⟩
            case pos =>
              subst he
              obtain ⟨hkz, hcok, hjk, hks⟩ := HOK.out rfl
              subst hkz
              have HCK := Lib.hid hcok
              have hbl : b.length ≤ 16384 := by have h8 := cellR_le hcok; have h9 : (s.data.toList.drop j).length = s.size - j := (by rw [List.length_drop, HLEN.out]); omega
              have HRL2 : Hid (∀ l ∈ racc ++ [b], l.length ≤ maxLen) := Lib.hid fun l hl => by
                rcases List.mem_append.1 hl with hl | hl
                · exact HRL.out l hl
                · rw [List.mem_singleton] at hl; rw [hl]; unfold maxLen; omega
              have hrl2 : (racc ++ [b]).length = racc.length + 1 := by rw [List.length_append, List.length_singleton]
              have HLL := Lib.hid hrl2
              have HSW : wo.heap.size ≤ w3.heap.size := HBO3.out.size
              have hra := HRA.out
              clear hcok HOK HBD hrl2
              go_upto_region 25 with (at_builtin; refine wpList_push appStr rfl (.tmp 92) (.tmp 94) rfl w3 [.string (bsOf b)] rfl (fun u hu => by simp at hu; subst hu; rfl) _ racc.length (racc.map fun l => Value.string (bsOf l)) rfl HT3.out rfl (by omega) HSW ?_; intro v' w4 hown hgr hat)
              have HT4 : Hid (OwnT w4 wo.heap.size v' (racc ++ [b])) := by
                show World.ownsRow _ _ _ _ _ _ _
                rw [HLL.out, List.map_append]; exact hown
              have HB4 := Lib.hid (HBO3.out.grown hgr HSW (fun g hg => (World.ownsRow.lt HT3.out g hg).1))
              obtain ⟨Av, cv, hv⟩ := HT4.out.open_
              rw [HLL.out] at hv
              subst hv
              clear hown hgr hat HT3
              by_cases hkl : k < s.size
              · have HDK := Lib.hid (dropAt hkl)
                obtain ⟨c, hc⟩ : ∃ c, s[k] = c := ⟨_, rfl⟩
                rw [hc] at HDK
                have b1 := HSB.out c
                have i4 : (0 : Int) ≤ (k : Int) := by omega
                have i5 : (k : Int) < (s.size : Int) := by omega
                obtain ⟨cz, hcz⟩ : ∃ cz, (c.toNat : Int) = cz := ⟨_, rfl⟩
                rw [hcz] at b1
                have HCK2 : Hid (cellR sep (s.data.toList.drop j) = .ok b (c :: s.data.toList.drop (k + 1))) := Lib.hid (by rw [HCK.out, HDK.out])
                by_cases hcs : c = sep
                · have e4 : (cz == sz) = true := by rw [b1, hcs]; simp
                  have hc10 : c ≠ 10 := by rw [hcs]; exact (isSep_print HQS.out).2
                  have HRW : Hid (rowR sep (s.data.toList.drop i).length [] (s.data.toList.drop i) = rowR sep (m - 1) (racc ++ [b]) (s.data.toList.drop (k + 1))) := Lib.hid (by
                    obtain ⟨m', rfl⟩ : ∃ m', m = m' + 1 := ⟨m - 1, by omega⟩
                    rw [HROW.out, rowR_next HCK2.out hc10]; rfl)
                  clear b1 hcs hc10
                  go_wp2_with fail
                  go_roundw
                  case rel => exact ⟨k + 1, m - 1, racc ++ [b], true, by go_num, rfl, by omega, by omega, Lib.hid (by rw [HLL.out]; omega), HRL2, HT4, HB4, Lib.hid (fun _ => ⟨by omega, by omega, HRW.out⟩), Lib.hid (fun h => by cases h)⟩
                  case measure => simp [intOf]; omega
                · have e4 : (cz == sz) = false := by rw [b1]; exact beq_false_of_ne hcs
                  have hc10 : c = 10 := by
                    have h2 := cell_ends HCK2.out
                    unfold endsB at h2
                    simp only [Bool.or_eq_true, beq_iff_eq] at h2
                    exact h2.resolve_right hcs
                  have HRW : Hid (rowR sep (s.data.toList.drop i).length [] (s.data.toList.drop i) = .ok (racc ++ [b]) (s.data.toList.drop (k + 1))) := Lib.hid (by
                    have h3 := HCK2.out
                    rw [hc10] at h3
                    rw [HROW.out, rowR_line h3])
                  clear b1 hcs hc10
                  go_wp2_with fail
                  go_roundw
                  case rel => exact ⟨k + 1, m, racc ++ [b], false, by go_num, rfl, by omega, by omega, Lib.hid (by rw [HLL.out]; omega), HRL2, HT4, HB4, Lib.hid (fun h => by cases h), Lib.hid (fun _ => ⟨by omega, HRW.out⟩)⟩
                  case measure => simp [intOf]; omega
              · have i5 : ¬ (k : Int) < (s.size : Int) := by omega
                have HRW : Hid (rowR sep (s.data.toList.drop i).length [] (s.data.toList.drop i) = .ok (racc ++ [b]) (s.data.toList.drop (k + 1))) := Lib.hid (by
                  have h3 := HCK.out
                  rw [dropEnd (show s.size ≤ k by omega)] at h3
                  rw [HROW.out, rowR_end h3, dropEnd (show s.size ≤ k + 1 by omega)])
                go_wp2_with fail
                go_roundw
                case rel => exact ⟨k + 1, m, racc ++ [b], false, by go_num, rfl, by omega, by omega, Lib.hid (by rw [HLL.out]; omega), HRL2, HT4, HB4, Lib.hid (fun h => by cases h), Lib.hid (fun _ => ⟨by omega, HRW.out⟩)⟩
                case measure => simp [intOf]; omega
          | false =>
            obtain ⟨hij2, hrow⟩ : i < j ∧ rowR sep (s.data.toList.drop i).length [] (s.data.toList.drop i) = .ok racc (s.data.toList.drop j) := by first | exact HQF1.out rfl | exact HQF1.out trivial | exact HQF1.out
            obtain ⟨n', hn'⟩ : ∃ n', n = n' + 1 := ⟨n - 1, by have := HN.out; omega⟩
            have HTT : Hid (tabR sep s.data.toList.length [] s.data.toList = tabR sep n' (acc ++ [racc]) (s.data.toList.drop j)) := Lib.hid (by
              rw [HT.out, hn', HDI.out, tabR_row HFUL.out (by rw [← HDI.out, hrow])])
            have HNN : Hid (s.size ≤ n' + j) := Lib.hid (by have := HN.out; omega)
            have HOW2 := Lib.hid (OwnR.now HO.out RStrs.kept HBr.out)
            have HOL := Lib.hid (fun g' (h : (Value.slice A acc.length cb).ownBlock = some g') => (OwnR.lt HO.out g' h).2)
            have HREV : Hid (RStrs (Off (Lt w1.heap.size) wi (.slice A acc.length cb)) wi racc [.slice Ar racc.length cr]) := Lib.hid (by
              refine ⟨_, rfl, own_slPD HTr.out (fun g' e => ?_) HRL.out⟩
              have h5 := World.ownsRow.lt HTr.out g' e
              refine ⟨h5.2, fun e => ?_, fun e => ?_⟩
              · have := HOL.out g' e; omega
              · have e : g' < w1.heap.size := e; have := HS.out; omega)
            have hsz8 : w1.heap.size ≤ wi.heap.size := Nat.le_trans HS.out HBr.out.size
            have hal := HAL.out
            clear HQT1 HQF1 hrow hn'
            go_wp2_with (at_builtin; refine wpList_pushR (X := Lt w1.heap.size) (base := w1.heap.size) appStrs RStrs.kept rfl (.tmp 109) (.tmp 111) rfl wi [.slice Ar racc.length cr] rfl (by intro v hv; simp at hv; rw [hv]; rfl) _ acc racc rfl HOW2.out HREV.out rfl (by omega) hsz8 ?_; intro v' w5 hown hgr hat; have HOW3 := Lib.hid hown; have HGR := Lib.hid hgr; clear hown hgr hat)
            have HLA : Hid ((acc ++ [racc]).length ≤ j) := Lib.hid (by rw [List.length_append, List.length_singleton]; omega)
            have HB5 : Hid (Below w.heap.size w w5) := Lib.hid ((bthen HB.out HBr.out).grown HGR.out (bthen HB.out HBr.out).size (fun g hg => by have h6 := (OwnR.lt HOW2.out g hg).1; have := HP1.out.lt; omega))
            have HP5 : Hid (Blk w5 w.heap.size 40 #[.int .i64 0, .int .i64 0]) := Lib.hid ((HP.out.now HBr.out).grown HGR.out (fun e => by have h6 := (OwnR.lt HOW2.out _ e.symm).1; have := HP1.out.lt; omega))
            have HS5 : Hid (w1.heap.size ≤ w5.heap.size) := Lib.hid (Nat.le_trans hsz8 HGR.out.size)
            go_roundw
            case rel => exact ⟨j, n', acc ++ [racc], by go_num, hjs, HLA, HP5, HOW3, HB5, HS5, HNN, HTT⟩
            case measure => simp [intOf]; omega
    · have hd : s.data.toList.drop i = [] := dropEnd (by omega)
      have HF : Hid (cellsE sep s.data.toList = (acc, (0, 0), 0)) := by
        show _ = _
        rw [HE.out, HT.out, hd, tabR_end]; rfl
      obtain ⟨d0, d1⟩ := HP.out.c2
      have f0 := HP.out.frozen 0
      have f1 := HP.out.frozen 1
      clear hd
      go_wp2_with fail
      have hz := HP.out.put2 (.int .i64 0) (.int .i64 0)
      have hbz := bset2' HB.out (Nat.le_refl _) (.int .i64 0) (.int .i64 0)
      have q1 := OwnR.far (p := ⟨w.heap.size, 0, none⟩) HO.out RStrs.kept HP1.out.lt (fun e => by have h9 : w1.heap.size ≤ w.heap.size := (OwnR.lt HO.out _ e).1; have := HP1.out.lt; omega) (.int .i64 0)
      have q2 := OwnR.far (p := ⟨w.heap.size, 1, none⟩) q1 RStrs.kept HP1.out.lt (fun e => by have h9 : w1.heap.size ≤ w.heap.size := (OwnR.lt HO.out _ e).1; have := HP1.out.lt; omega) (.int .i64 0)
      generalize ((wo.setCell ⟨w.heap.size, 0, none⟩ (.int .i64 0)).setCell ⟨w.heap.size, 1, none⟩ (.int .i64 0)) = wz at hz hbz q2 ⊢
      obtain ⟨r0, r1⟩ := hz.c2
      refine bodyPost_ret (v := .tuple #[.slice A acc.length cb, .agg #[.int .i64 0, .int .i64 0], .int .i64 0]) (by simp [results, Tryz.results58, go_sem, r0, r1]) rfl ?_
      rw [HF.out]
      exact ⟨_, rfl, q2.sl RStrs.kept, hbz⟩
end Go.Proofs.YtoalecalahkblaaGreatDoor
