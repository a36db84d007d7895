/- The reference's literal, Quote, read, Unquote. -/
import Derived.Test.YtchfmjociflgfaaGreatDoorValUnq
import Derived.Test.YtchfmjociflgfaaGreatDoorBytesOwn
import Derived.Test.YtchfmjociflgfaaGreatDoorValValid
namespace Go.Proofs.YtchfmjociflgfaaGreatDoor
open Go.RowKit

set_option maxHeartbeats 1000000 in
theorem literal_ref (s : ByteArray) (w : World) (hs : s.size ≤ 1000000) : Calls Tryz.prog 92 #[.string s] w fun e w' => e = .returned (.string (quoteS s)) ∧ Below w.heap.size w w' := by
  have hO0 := OwnC.one w 34
  have hb0 := bone w (.cells #[.int .u8 ((34 : UInt8).toNat : Int)] 5)
  have e34 : ((34 : UInt8).toNat : Int) = 34 := rfl
  rw [e34] at hO0 hb0
  go_enter Tryz.func92, Tryz.ntmps92
  go_wp2_with fail
  go_loopw [3, 4] (fun bv i wr => ∃ k : Nat, k ≤ s.size ∧ i = .int .i64 k ∧ OwnC wr w.heap.size bv (34 :: escB (s.data.toList.take k)) ∧ Below w.heap.size w wr) (fun _ i _ => s.size - (intOf i).toNat)
  case atStart => exact ⟨0, Nat.zero_le _, rfl, hO0, hb0⟩
  case round =>
    obtain ⟨k, hk, rfl, hOr, hbr⟩ := hrel
    have hsz := hbr.size
    clear hO0 hb0 e34
    by_cases hlt : k < s.size
    · have HN := Lib.hid (escB_snoc (byteOf hlt))
      have hle : (34 :: escB (s.data.toList.take k)).length < 5000000 := by
        have := escB_len (s.data.toList.take k)
        rw [List.length_take] at this
        simp only [List.length_cons]
        omega
      have HU : Hid (∀ c : UInt8, escC c = if c.toNat = 34 ∨ c.toNat = 92 then [92, c] else [c]) := fun _ => rfl
      generalize hL : 34 :: escB (s.data.toList.take k) = L at *
      have HL := Lib.hid hL
      clear hL
      have i1 : (0 : Int) ≤ (k : Int) := by omega
      have i2 : (k : Int) < (s.size : Int) := by omega
      by_cases hq : (s[k].toNat : Int) = 34 ∨ (s[k].toNat : Int) = 92
      · have HX : Hid (34 :: escB (s.data.toList.take (k + 1)) = L ++ [92] ++ [s[k]]) := by
          show _ = _
          rw [HN.out, HU.out, if_pos (by omega), ← HL.out]; simp
        have HG : ∀ (Q : Prop), (((s[k].toNat : Int) == 34) = true → Q) → (((s[k].toNat : Int) == 34) = false → ((s[k].toNat : Int) == 92) = true → Q) → Q := by
          intro Q h1 h2
          by_cases e : (s[k].toNat : Int) = 34
          · exact h1 (beq_iff_eq.2 e)
          · exact h2 (beq_eq_false_iff_ne.2 e) (beq_iff_eq.2 (by omega))
        clear hq
        refine HG _ (fun h1 => ?_) (fun h1 h2 => ?_)
        all_goals
          clear HG
          have hb1 := bone wr (.cells #[.int .u8 92] 5)
          go_wp2_with (at_builtin; first | refine wpList_pushW (fc := cellC) appBytes rfl (.tmp 22) (.tmp 23) rfl wr (92 : UInt8) L rfl (cellC_one _) _ rfl hOr rfl (by omega) hsz ?_)
          intro v2 w2 hO2 hg2 ha2
          have hbg2 : Below w.heap.size wr w2 := below_of_grown hg2 hsz (fun g hg => (World.ownsRow.lt hOr g hg).1)
          have hsz2 := Nat.le_trans hsz hbg2.size
          clear hb1
          go_wp2_with (at_builtin; first | refine wpList_pushW (fc := cellC) appBytes rfl (.tmp 25) (.tmp 29) rfl w2 s[k] (L ++ [92]) rfl (cellC_one _) _ rfl hO2 rfl (by simp; omega) hsz2 ?_)
          intro v3 w3 hO3 hg3 ha3
          have hbg3 : Below w.heap.size w2 w3 := below_of_grown hg3 hsz2 (fun g hg => (World.ownsRow.lt hO2 g hg).1)
          go_wp2_with fail
          go_roundw
          case rel => exact ⟨k + 1, by omega, by go_num, by rw [HX.out, List.append_assoc]; exact hO3, (hbr.trans hbg2).trans hbg3⟩
          case measure => simp [intOf]; omega
      · have HX : Hid (34 :: escB (s.data.toList.take (k + 1)) = L ++ [s[k]]) := by
          show _ = _
          rw [HN.out, HU.out, if_neg (by omega), ← HL.out]; simp
        have h1 : ((s[k].toNat : Int) == 34) = false := beq_eq_false_iff_ne.2 (fun h => hq (Or.inl h))
        have h2 : ((s[k].toNat : Int) == 92) = false := beq_eq_false_iff_ne.2 (fun h => hq (Or.inr h))
        clear hq
        go_wp2_with (at_builtin; first | refine wpList_pushW (fc := cellC) appBytes rfl (.tmp 25) (.tmp 29) rfl wr s[k] L rfl (cellC_one _) _ rfl hOr rfl (by omega) hsz ?_)
        intro v3 w3 hO3 hg3 ha3
        have hbg3 : Below w.heap.size wr w3 := below_of_grown hg3 hsz (fun g hg => (World.ownsRow.lt hOr g hg).1)
        go_wp2_with fail
        go_roundw
        case rel => exact ⟨k + 1, by omega, by go_num, by rw [HX.out]; exact hO3, hbr.trans hbg3⟩
        case measure => simp [intOf]; omega
    · obtain rfl : k = s.size := by omega
      have HT : Hid (34 :: escB (s.data.toList.take s.size) ++ [34] = quoteL s.data.toList) := by
        show _ = _
        unfold quoteL
        rw [List.take_of_length_le (by simp)]; rfl
      have hle : (34 :: escB (s.data.toList.take s.size)).length < 5000000 := by
        have := escB_len (s.data.toList.take s.size)
        rw [List.length_take] at this
        simp only [List.length_cons]
        omega
      generalize 34 :: escB (s.data.toList.take s.size) = L at *
      go_wp2_with (at_builtin; first | refine wpList_pushW (fc := cellC) appBytes rfl (.tmp 31) (.tmp 32) rfl wr (34 : UInt8) L rfl (cellC_one _) _ rfl hOr rfl (by omega) hsz ?_)
      intro v3 w3 hO3 hg3 ha3
      have hbg3 : Below w.heap.size wr w3 := below_of_grown hg3 hsz (fun g hg => (World.ownsRow.lt hOr g hg).1)
      have hcv := OwnC.conv hO3
      go_wp2_with fail
      go_ret
      refine ⟨?_, hbr.trans hbg3⟩
      rw [HT.out]; rfl

set_option maxHeartbeats 400000 in
theorem quote_ref (s : ByteArray) (w : World) (hs : s.size ≤ maxLen) : Calls Tryz.prog 62 #[.string s] w fun e w' => e = .returned (.tuple #[.string (quoteE s).1, .int .i64 (quoteE s).2]) ∧ Below w.heap.size w w' := by
  have hs0 := hs
  unfold maxLen at hs
  go_enter Tryz.func62, Tryz.ntmps62
  by_cases h1 : 16384 < s.size
  · have HE : Hid (quoteE s = (⟨#[]⟩, 5)) := if_pos h1
    go_wp2_with fail
    go_ret2
    exact ⟨ret_si (by rw [HE.out]), Below.refl _ _⟩
  have HE : Hid (quoteE s = if plainS s then (quoteS s, 0) else (⟨#[]⟩, 3)) := if_neg h1
  go_wp2_with fail
  refine (printable_ref s _ hs0).mono ?_
  rintro e w1 ⟨rfl, rfl⟩
  generalize plainS s = q at *
  cases q
  · go_wp2_with fail
    go_ret2
    exact ⟨ret_si (by rw [HE.out]; rfl), Below.refl _ _⟩
  · go_wp2_with fail
    refine (literal_ref s _ (by omega)).mono ?_
    rintro e w2 ⟨rfl, hb2⟩
    go_wp2_with fail
    go_ret2
    exact ⟨ret_si (by rw [HE.out]; rfl), hb2⟩

def ReadPost (s : ByteArray) (R : Int × List UInt8 × List UInt8) (w : World) (e : Ending) (w' : World) : Prop :=
  ∃ z : Int, e = .returned (.tuple #[.string ⟨R.2.1.toArray⟩, .int .i64 z, .int .i64 R.1]) ∧ (R.1 = 0 → z = (s.size - R.2.2.length : Nat)) ∧ Below w.heap.size w w'
theorem ret_sii {a b : ByteArray} {z c d : Int} (h1 : a = b) (h2 : c = d) : Ending.returned (.tuple #[.string a, .int .i64 z, .int .i64 c]) = .returned (.tuple #[.string b, .int .i64 z, .int .i64 d]) := by rw [h1, h2]
set_option maxHeartbeats 2000000 in
theorem read_ref (s : ByteArray) (w : World) (hs : s.size ≤ 32770) (h1 : 1 ≤ s.size) :
    Calls Tryz.prog 88 #[.string s] w (ReadPost s (readB [] (s.data.toList.drop 1)) w) := by
  generalize hR : readB [] (s.data.toList.drop 1) = R
  have HR := Lib.hid hR
  clear hR
  go_enter Tryz.func88, Tryz.ntmps88
  go_wp2_with fail
  go_loopw [5, 6] (fun bv i wr => ∃ (j : Nat) (L : List UInt8), j ≤ s.size ∧ i = .int .i64 j ∧ readB L (s.data.toList.drop j) = R ∧ L.length ≤ j ∧ OwnC wr w.heap.size bv L ∧ Below w.heap.size w wr) (fun _ i _ => s.size - (intOf i).toNat)
  case atStart => exact ⟨1, [], h1, rfl, HR.out, Nat.zero_le _, OwnW.nil, Below.refl _ _⟩
  case round =>
    obtain ⟨j, L, hj, rfl, hrd, hLj, hO, hbr⟩ := hrel
    have HRD := Lib.hid hrd
    have hsz := hbr.size
    clear hrd HR
    by_cases hlt : j < s.size
    · have HD := Lib.hid (drop_at hlt)
      have i1 : (0 : Int) ≤ (j : Int) := by omega
      have i2 : (j : Int) < (s.size : Int) := by omega
      by_cases h34 : (s[j].toNat : Int) = 34
      · have HE : Hid (R = (0, L, s.data.toList.drop (j + 1))) := by
          show _ = _
          rw [← HRD.out, HD.out, read_end (by omega)]
        have b1 : ((s[j].toNat : Int) == 34) = true := by rw [h34]; rfl
        have hcv := OwnC.conv hO
        clear h34
        go_wp2_with fail
        go_ret3
        refine ⟨(j : Int) + 1, ret_sii (by rw [HE.out]) (by rw [HE.out]), fun _ => ?_, hbr⟩
        rw [HE.out]
        dsimp only
        rw [drop_len s (by omega)]
        omega
      · have b1 : ((s[j].toNat : Int) == 34) = false := beq_eq_false_iff_ne.2 h34
        by_cases h92 : (s[j].toNat : Int) = 92
        · have b2 : ((s[j].toNat : Int) == 92) = true := by rw [h92]; rfl
          have HX := Lib.hid (And.intro h34 h92)
          clear h34 h92
          by_cases hlt' : j + 1 < s.size
          · have HD' := Lib.hid (drop_at hlt')
            have i3 : (0 : Int) ≤ (j : Int) + 1 := by omega
            have i4 : (j : Int) + 1 < (s.size : Int) := by omega
            have i5 : ((j : Int) + 1).toNat = j + 1 := by omega
            have n1 : ((j : Int) + 1 == (s.size : Int)) = false := by rw [beq_eq_false_iff_ne]; omega
            by_cases hd : (s[j + 1].toNat : Int) = 34 ∨ (s[j + 1].toNat : Int) = 92
            · have HE : Hid (readB (L ++ [s[j + 1]]) (s.data.toList.drop (j + 2)) = R) := by
                show _ = _
                rw [← HRD.out, HD.out, HD'.out, read_esc (by have := HX.out.1; omega) (by have := HX.out.2; omega) (by omega)]
              have HG : ∀ (Q : Prop), (((s[j + 1].toNat : Int) != 34) = false → Q) → (((s[j + 1].toNat : Int) != 34) = true → ((s[j + 1].toNat : Int) != 92) = false → Q) → Q := by
                intro Q h1 h2
                by_cases e : (s[j + 1].toNat : Int) = 34
                · exact h1 (by rw [e]; rfl)
                · exact h2 (by simpa using e) (by have : (s[j + 1].toNat : Int) = 92 := by omega
                                                  rw [this]; rfl)
              clear hd
              refine HG _ (fun h1 => ?_) (fun h1 h2 => ?_)
              all_goals
                clear HG
                go_wp2_with (at_builtin; first | refine wpList_pushW (fc := cellC) appBytes rfl (.tmp 39) (.tmp 43) rfl wr s[j + 1] L rfl (cellC_one _) _ rfl hO rfl (by omega) hsz ?_)
                intro v3 w3 hO3 hg3 ha3
                have hbg3 : Below w.heap.size wr w3 := below_of_grown hg3 hsz (fun g hg => (World.ownsRow.lt hO g hg).1)
                go_wp2_with fail
                go_roundw
                case rel => exact ⟨j + 2, L ++ [s[j + 1]], by omega, by go_num, HE.out, by simp; omega, hO3, hbr.trans hbg3⟩
                case measure => simp [intOf]; omega
            · have HE : Hid (R = (3, [], [])) := by
                show _ = _
                rw [← HRD.out, HD.out, HD'.out, read_bad (by have := HX.out.1; omega) (by have := HX.out.2; omega) (by omega)]
              have b3 : ((s[j + 1].toNat : Int) != 34) = true := by simp; omega
              have b4 : ((s[j + 1].toNat : Int) != 92) = true := by simp; omega
              clear hd
              go_wp2_with fail
              go_ret3
              refine ⟨0, ret_sii (by rw [HE.out]) (by rw [HE.out]), fun h => ?_, hbr⟩
              rw [HE.out] at h
              cases h
          · have HE : Hid (R = (4, [], [])) := by
              show _ = _
              rw [← HRD.out, HD.out, drop_none hlt', read_bs (by have := HX.out.1; omega) (by have := HX.out.2; omega)]
            have n1 : ((j : Int) + 1 == (s.size : Int)) = true := by rw [beq_iff_eq]; omega
            go_wp2_with fail
            go_ret3
            refine ⟨0, ret_sii (by rw [HE.out]) (by rw [HE.out]), fun h => ?_, hbr⟩
            rw [HE.out] at h
            cases h
        · have b2 : ((s[j].toNat : Int) == 92) = false := beq_eq_false_iff_ne.2 h92
          have HE : Hid (readB (L ++ [s[j]]) (s.data.toList.drop (j + 1)) = R) := by
            show _ = _
            rw [← HRD.out, HD.out, read_one (by omega) (by omega)]
          clear h34 h92
          go_wp2_with (at_builtin; first | refine wpList_pushW (fc := cellC) appBytes rfl (.tmp 39) (.tmp 43) rfl wr s[j] L rfl (cellC_one _) _ rfl hO rfl (by omega) hsz ?_)
          intro v3 w3 hO3 hg3 ha3
          have hbg3 : Below w.heap.size wr w3 := below_of_grown hg3 hsz (fun g hg => (World.ownsRow.lt hO g hg).1)
          go_wp2_with fail
          go_roundw
          case rel => exact ⟨j + 1, L ++ [s[j]], by omega, by go_num, HE.out, by simp; omega, hO3, hbr.trans hbg3⟩
          case measure => simp [intOf]; omega
    · have HE : Hid (R = (4, [], [])) := by
        show _ = _
        rw [← HRD.out, drop_none hlt, read_nil]
      go_wp2_with fail
      go_ret3
      refine ⟨0, ret_sii (by rw [HE.out]) (by rw [HE.out]), fun h => ?_, hbr⟩
      rw [HE.out] at h
      cases h
end Go.Proofs.YtchfmjociflgfaaGreatDoor
