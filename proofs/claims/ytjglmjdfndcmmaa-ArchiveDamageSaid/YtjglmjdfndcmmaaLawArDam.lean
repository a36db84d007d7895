/- The law of damage. -/
import Derived.Test.YtjglmjdfndcmmaaArAwake
import Derived.Test.YtjglmjdfndcmmaaArSmall
import Derived.Test.YtjglmjdfndcmmaaArDamP
import Derived.StillTailTactics
set_option linter.all false
namespace Go.Proofs.Ytjglmjdfndcmmaa
open Go.RowKit

def YesB (w : World) (x : Ending) (w' : World) : Prop := x = .returned (.bool true) ∧ Below w.heap.size w w'
theorem packE_cases (l : List Ev) : (∃ k : Int, packE l = ([], k) ∧ k ≠ 0 ∧ 0 ≤ k ∧ k ≤ 5) ∨ (packE l = (arPack l, 0) ∧ (arPack l).length ≤ 262144) := by
  unfold packE
  split
  · split
    · exact .inl ⟨5, rfl, by omega, by omega, by omega⟩
    · exact .inr ⟨rfl, by omega⟩
  · exact .inl ⟨1, rfl, by omega, by omega, by omega⟩
theorem ik_facts {i n : Nat} {k : Int} (h : i + 4 ≤ n) (hn : (n : Int) ≤ 262144) (hk : 0 ≤ k ∧ k < 4) : (0 : Int) ≤ (i : Int) + k ∧ (i : Int) + k < n ∧ IntKind.i64.wrap ((i : Int) + k) = (i : Int) + k :=
  ⟨by omega, by omega, i64wrap (by omega)⟩
set_option maxHeartbeats 4000000 in
set_option maxRecDepth 100000 in
theorem archiveDamage_law (l : List Ev) (z m : Nat) (u : Value) (w : World) (h : IsLog (Lt w.heap.size) w u l) (hz : z < 4294967296) (hm : m < 4294967296) :
    Calls Try.prog 4 #[u, .int .u32 (z : Int), .int .u32 (m : Int)] w (YesB w) := by
  have h0 := h
  obtain ⟨ev, rfl, hs⟩ := h
  obtain ⟨A, c, rfl, _, _, _⟩ := hs.open_
  have hb1 := bone w (.cells #[.slice A l.length c] 24)
  have hB1 := Blk.new w 24 #[.slice A l.length c]
  have HAW := Lib.hid awake_any
  have HL := Lib.hid (h0.now hb1)
  clear hs h0
  go_enter Try.func4, Try.ntmps4
  go_wp2_with fail
  (with_reducible refine (HAW.out _).mono ?_)
  rintro e w2 ⟨rfl, hb2⟩
  have hL2 := HL.out.now hb2
  have hb12 := hb1.trans (hb2.mono hb1.size)
  have hB2 := hB1.now hb2
  have hc2 := hB2.c1
  have HSM := Lib.hid (small_any l _ w2 hL2)
  go_wp2_with fail
  (with_reducible refine HSM.out.mono ?_)
  rintro e w3 ⟨⟨q, rfl⟩, hb3⟩
  have hL3 := Lib.hid (hL2.now hb3)
  have hb13 := hb12.trans (hb3.mono hb12.size)
  have hB3 := hB2.now hb3
  have hc3 := hB3.c1
  clear HSM hL2 hB2 hc2 hb2 hb3 hb12
  cases q
  · go_wp2_with fail
    (with_reducible refine (HAW.out _).mono ?_)
    rintro e w4 ⟨rfl, hb4⟩
    go_wp2_with fail
    go_ret
    exact ⟨rfl, hb13.trans (hb4.mono hb13.size)⟩
  by_cases hm0 : m = 0
  · subst hm0
    go_wp2_with fail
    (with_reducible refine (HAW.out _).mono ?_)
    rintro e w4 ⟨rfl, hb4⟩
    go_wp2_with fail
    go_ret
    exact ⟨rfl, hb13.trans (hb4.mono hb13.size)⟩
  have hme : ((m : Int) == 0) = false := by simp; omega
  have HM0 := Lib.hid hm0
  have hpk := packP_any l _ w3 hL3.out
  clear hm0
  rcases packE_cases l with ⟨k, hk, hk0, hk1, hk2⟩ | ⟨hk, hlen⟩
  · rw [hk] at hpk
    have HPK := Lib.hid hpk
    have hke : (k != 0) = true := by simp; omega
    clear hpk hk
    go_wp2_with fail
    (with_reducible refine HPK.out.mono ?_)
    rintro e w4 ⟨v4, rfl, hO4, hb4⟩
    obtain ⟨A4, c4, rfl⟩ := hO4.isSlice
    rw [show (([] : List UInt8), k).1.length = 0 from rfl]
    go_wp2_with fail
    go_ret
    exact ⟨rfl, hb13.trans (hb4.mono hb13.size)⟩
  · rw [hk] at hpk
    have HPK := Lib.hid hpk
    have h4 : 4 ≤ (arPack l).length := by
      unfold arPack
      rw [List.length_append]
      show 4 ≤ _ + 4
      omega
    have HPL : Hid (arPack l = arBody l ++ le4 (sumOf (arBody l))) := Lib.hid rfl
    clear hpk hk
    generalize arPack l = L at *
    go_wp2_with fail
    (with_reducible refine HPK.out.mono ?_)
    rintro e w4 ⟨v4, rfl, hO4, hb4⟩
    obtain ⟨A4, c4, rfl⟩ := hO4.isSlice
    rw [show (L, (0 : Int)).1.length = L.length from rfl] at hO4 ⊢
    replace hO4 : OwnC w4 w3.heap.size (.slice A4 L.length c4) L := hO4
    obtain ⟨g, cap, hv, _, hgb, hgs⟩ := OwnW.form hO4 (by omega)
    injection hv with hv1 hv2 hv3
    subst hv1 hv3
    obtain ⟨n, hn⟩ : ∃ n, L.length = n := ⟨_, rfl⟩
    have HN := Lib.hid (And.intro hn (And.intro h4 hlen))
    rw [hn] at hO4 ⊢
    obtain ⟨i, hi⟩ : ∃ i, z % (n - 3) = i := ⟨_, rfl⟩
    have hi4 : i + 4 ≤ n := by
      have := Nat.mod_lt z (show 0 < n - 3 by omega)
      omega
    have hie : (z : Int) % ((n : Int) - 3) = (i : Int) := by rw [← hi, Int.natCast_emod, show ((n - 3 : Nat) : Int) = (n : Int) - 3 by omega]
    have hn4 : (4 : Int) ≤ (n : Int) := by omega
    have hnb : (n : Int) ≤ 262144 := by omega
    have HI4 := Lib.hid hi4
    have HZ := Lib.hid (And.intro hz hm)
    have hw : IntKind.u32.wrap ((n : Int) - 3) = (n : Int) - 3 := by rw [IntKind.wrap_u32']; omega
    have hw2 : ((n : Int) - 3) % 4294967296 = (n : Int) - 3 := by omega
    have hwi : wrap64 (i : Int) = i := w64 (by omega)
    clear hi hn h4 hlen hi4 hz hm
    go_wp2_with fail
    rw [hwi]
    clear hie hw hw2
    have hbg : Hid (w3.heap.size ≤ g) := Lib.hid hgb
    have hb14 : Hid (Below w.heap.size w w4) := Lib.hid (hb13.trans (hb4.mono hb13.size))
    go_loopw [51] (fun kv wr => ∃ (k : Nat) (L' : List UInt8), kv = .int .i64 (k : Int) ∧ k ≤ 4 ∧ Hid (OwnC wr w3.heap.size (.slice (some ⟨g, 0, none⟩) n c4) L') ∧ Hid (Chg L L' i m k) ∧ Hid (Below w.heap.size w wr)) (fun kv _ => 4 - (intOf kv).toNat)
    case atStart => exact ⟨0, L, rfl, by omega, Lib.hid hO4, Lib.hid (Chg.zero L i m), hb14⟩
    case round =>
      obtain ⟨k, L', rfl, hk, HO, HC, HB⟩ := hrel
      have hlL : Hid (L'.length = n) := Lib.hid (HC.out.len.trans HN.out.1)
      have HOX : Hid (OwnC wr w3.heap.size (.slice (some ⟨g, 0, none⟩) L'.length c4) L') := Lib.hid (by rw [hlL.out]; exact HO.out)
      by_cases hlt : k < 4
      · rcases (show k = 0 ∨ k = 1 ∨ k = 2 ∨ k = 3 by omega) with rfl | rfl | rfl | rfl
        · have hj : i < L'.length := by have := hlL.out; have := HI4.out; omega
          obtain ⟨x, hx⟩ : ∃ x, L'[i]? = some x := ⟨_, List.getElem?_eq_getElem hj⟩
          have hcl : wr.drew.cell? ⟨g, i, none⟩ = some (.int .u8 (x.toNat : Int)) := by
            have := World.ownsRow.cellAt HOX.out (i) (by rw [Nat.mul_one]; exact hj)
            refine Eq.trans this ?_
            rw [flatC, List.getElem?_map, hx]; rfl
          have hfz : wr.drew.frozen? ⟨g, i, none⟩ = false := World.ownsRow.frozenAt HOX.out _
          have hxr : bits .xor .u8 (x.toNat : Int) ((m : Int) % 256) = ((x ^^^ mb m 0).toNat : Int) := by
            have h1 : (m : Int) % 256 = (((mb m 0).toNat : Nat) : Int) := by
              unfold mb
              rw [UInt8.toNat_ofNat', show (256 : Nat) ^ 0 = 1 from rfl]
              omega
            rw [h1, u8_xor_nat _ _ (UInt8.toNat_lt x) (UInt8.toNat_lt _), UInt8.toNat_xor]
          have HC2 : Hid (Chg L (L'.set (i) (x ^^^ mb m 0)) i m 1) := Lib.hid (HC.out.step (k := 0) hx)
          have HO2 : Hid (OwnC (wr.drew.setCell ⟨g, i, none⟩ (.int .u8 ((x ^^^ mb m 0).toNat : Int))) w3.heap.size (.slice (some ⟨g, 0, none⟩) n c4) (L'.set (i) (x ^^^ mb m 0))) := by
            refine Lib.hid ?_
            have hrow : wr.drew.ownsRow w3.heap.size 5 1 (.slice (some ⟨g, 0, none⟩) L'.length c4) L'.length (flat cellC L') := HOX.out
            have := (hrow.stored (i) (.int .u8 ((x ^^^ mb m 0).toNat : Int))).1
            unfold OwnC OwnW
            rw [List.length_set, flatC, List.map_set, ← flatC, ← hlL.out]
            exact this
          have HB2 : Hid (Below w.heap.size w (wr.drew.setCell ⟨g, i, none⟩ (.int .u8 ((x ^^^ mb m 0).toNat : Int)))) := Lib.hid ((HB.out.drew).setCell (p := ⟨g, i, none⟩) (Nat.le_trans hb13.size hbg.out) _)
          have y1 : (0 : Int) ≤ (i : Int) := (ik_facts HI4.out hnb (k := 0) (by decide)).1
          have y2 : (i : Int) < (n : Int) := (ik_facts HI4.out hnb (k := 0) (by decide)).2.1
          have y0 : IntKind.i64.wrap ((i : Int)) = (i : Int) := (ik_facts HI4.out hnb (k := 0) (by decide)).2.2
          have y3 : ((i : Int)).toNat = i := by show _ = i + 0; exact Int.toNat_natCast _
          have y4 : IntKind.i64.wrap 0 = 0 := by decide
          clear hx hj
          go_upto_region 10 with fail
          go_still_tail 13, (by kernel_rfl)
          change wpList _ _ _ _ _ wr.drew
          generalize hW : wr.drew = W at *
          clear hW
          go_wp2_with fail
          all_goals
            go_roundw
            case rel => exact ⟨1, _, by go_num, by omega, HO2, HC2, HB2⟩
            case measure => simp [intOf]
        · have hj : i + 1 < L'.length := by have := hlL.out; have := HI4.out; omega
          obtain ⟨x, hx⟩ : ∃ x, L'[i + 1]? = some x := ⟨_, List.getElem?_eq_getElem hj⟩
          have hcl : wr.drew.cell? ⟨g, i + 1, none⟩ = some (.int .u8 (x.toNat : Int)) := by
            have := World.ownsRow.cellAt HOX.out (i + 1) (by rw [Nat.mul_one]; exact hj)
            refine Eq.trans this ?_
            rw [flatC, List.getElem?_map, hx]; rfl
          have hfz : wr.drew.frozen? ⟨g, i + 1, none⟩ = false := World.ownsRow.frozenAt HOX.out _
          have hxr : bits .xor .u8 (x.toNat : Int) ((m : Int) / 256 % 256) = ((x ^^^ mb m 1).toNat : Int) := by
            have h1 : (m : Int) / 256 % 256 = (((mb m 1).toNat : Nat) : Int) := by
              unfold mb
              rw [UInt8.toNat_ofNat', show (256 : Nat) ^ 1 = 256 from rfl]
              omega
            rw [h1, u8_xor_nat _ _ (UInt8.toNat_lt x) (UInt8.toNat_lt _), UInt8.toNat_xor]
          have HC2 : Hid (Chg L (L'.set (i + 1) (x ^^^ mb m 1)) i m 2) := Lib.hid (HC.out.step (k := 1) hx)
          have HO2 : Hid (OwnC (wr.drew.setCell ⟨g, i + 1, none⟩ (.int .u8 ((x ^^^ mb m 1).toNat : Int))) w3.heap.size (.slice (some ⟨g, 0, none⟩) n c4) (L'.set (i + 1) (x ^^^ mb m 1))) := by
            refine Lib.hid ?_
            have hrow : wr.drew.ownsRow w3.heap.size 5 1 (.slice (some ⟨g, 0, none⟩) L'.length c4) L'.length (flat cellC L') := HOX.out
            have := (hrow.stored (i + 1) (.int .u8 ((x ^^^ mb m 1).toNat : Int))).1
            unfold OwnC OwnW
            rw [List.length_set, flatC, List.map_set, ← flatC, ← hlL.out]
            exact this
          have HB2 : Hid (Below w.heap.size w (wr.drew.setCell ⟨g, i + 1, none⟩ (.int .u8 ((x ^^^ mb m 1).toNat : Int)))) := Lib.hid ((HB.out.drew).setCell (p := ⟨g, i + 1, none⟩) (Nat.le_trans hb13.size hbg.out) _)
          have y1 : (0 : Int) ≤ (i : Int) + 1 := (ik_facts HI4.out hnb (k := 1) (by decide)).1
          have y2 : (i : Int) + 1 < (n : Int) := (ik_facts HI4.out hnb (k := 1) (by decide)).2.1
          have y0 : IntKind.i64.wrap ((i : Int) + 1) = (i : Int) + 1 := (ik_facts HI4.out hnb (k := 1) (by decide)).2.2
          have y3 : ((i : Int) + 1).toNat = i + 1 := by show _ = i + 1; exact Int.toNat_natCast _
          have y4 : IntKind.i64.wrap 8 = 8 := by decide
          clear hx hj
          go_upto_region 10 with fail
          go_still_tail 13, (by kernel_rfl)
          change wpList _ _ _ _ _ wr.drew
          generalize hW : wr.drew = W at *
          clear hW
          go_wp2_with fail
          all_goals
            go_roundw
            case rel => exact ⟨2, _, by go_num, by omega, HO2, HC2, HB2⟩
            case measure => simp [intOf]
        · have hj : i + 2 < L'.length := by have := hlL.out; have := HI4.out; omega
          obtain ⟨x, hx⟩ : ∃ x, L'[i + 2]? = some x := ⟨_, List.getElem?_eq_getElem hj⟩
          have hcl : wr.drew.cell? ⟨g, i + 2, none⟩ = some (.int .u8 (x.toNat : Int)) := by
            have := World.ownsRow.cellAt HOX.out (i + 2) (by rw [Nat.mul_one]; exact hj)
            refine Eq.trans this ?_
            rw [flatC, List.getElem?_map, hx]; rfl
          have hfz : wr.drew.frozen? ⟨g, i + 2, none⟩ = false := World.ownsRow.frozenAt HOX.out _
          have hxr : bits .xor .u8 (x.toNat : Int) ((m : Int) / 65536 % 256) = ((x ^^^ mb m 2).toNat : Int) := by
            have h1 : (m : Int) / 65536 % 256 = (((mb m 2).toNat : Nat) : Int) := by
              unfold mb
              rw [UInt8.toNat_ofNat', show (256 : Nat) ^ 2 = 65536 from rfl]
              omega
            rw [h1, u8_xor_nat _ _ (UInt8.toNat_lt x) (UInt8.toNat_lt _), UInt8.toNat_xor]
          have HC2 : Hid (Chg L (L'.set (i + 2) (x ^^^ mb m 2)) i m 3) := Lib.hid (HC.out.step (k := 2) hx)
          have HO2 : Hid (OwnC (wr.drew.setCell ⟨g, i + 2, none⟩ (.int .u8 ((x ^^^ mb m 2).toNat : Int))) w3.heap.size (.slice (some ⟨g, 0, none⟩) n c4) (L'.set (i + 2) (x ^^^ mb m 2))) := by
            refine Lib.hid ?_
            have hrow : wr.drew.ownsRow w3.heap.size 5 1 (.slice (some ⟨g, 0, none⟩) L'.length c4) L'.length (flat cellC L') := HOX.out
            have := (hrow.stored (i + 2) (.int .u8 ((x ^^^ mb m 2).toNat : Int))).1
            unfold OwnC OwnW
            rw [List.length_set, flatC, List.map_set, ← flatC, ← hlL.out]
            exact this
          have HB2 : Hid (Below w.heap.size w (wr.drew.setCell ⟨g, i + 2, none⟩ (.int .u8 ((x ^^^ mb m 2).toNat : Int)))) := Lib.hid ((HB.out.drew).setCell (p := ⟨g, i + 2, none⟩) (Nat.le_trans hb13.size hbg.out) _)
          have y1 : (0 : Int) ≤ (i : Int) + 2 := (ik_facts HI4.out hnb (k := 2) (by decide)).1
          have y2 : (i : Int) + 2 < (n : Int) := (ik_facts HI4.out hnb (k := 2) (by decide)).2.1
          have y0 : IntKind.i64.wrap ((i : Int) + 2) = (i : Int) + 2 := (ik_facts HI4.out hnb (k := 2) (by decide)).2.2
          have y3 : ((i : Int) + 2).toNat = i + 2 := by show _ = i + 2; exact Int.toNat_natCast _
          have y4 : IntKind.i64.wrap 16 = 16 := by decide
          clear hx hj
          go_upto_region 10 with fail
          go_still_tail 13, (by kernel_rfl)
          change wpList _ _ _ _ _ wr.drew
          generalize hW : wr.drew = W at *
          clear hW
          go_wp2_with fail
          all_goals
            go_roundw
            case rel => exact ⟨3, _, by go_num, by omega, HO2, HC2, HB2⟩
            case measure => simp [intOf]
        · have hj : i + 3 < L'.length := by have := hlL.out; have := HI4.out; omega
          obtain ⟨x, hx⟩ : ∃ x, L'[i + 3]? = some x := ⟨_, List.getElem?_eq_getElem hj⟩
          have hcl : wr.drew.cell? ⟨g, i + 3, none⟩ = some (.int .u8 (x.toNat : Int)) := by
            have := World.ownsRow.cellAt HOX.out (i + 3) (by rw [Nat.mul_one]; exact hj)
            refine Eq.trans this ?_
            rw [flatC, List.getElem?_map, hx]; rfl
          have hfz : wr.drew.frozen? ⟨g, i + 3, none⟩ = false := World.ownsRow.frozenAt HOX.out _
          have hxr : bits .xor .u8 (x.toNat : Int) ((m : Int) / 16777216 % 256) = ((x ^^^ mb m 3).toNat : Int) := by
            have h1 : (m : Int) / 16777216 % 256 = (((mb m 3).toNat : Nat) : Int) := by
              unfold mb
              rw [UInt8.toNat_ofNat', show (256 : Nat) ^ 3 = 16777216 from rfl]
              omega
            rw [h1, u8_xor_nat _ _ (UInt8.toNat_lt x) (UInt8.toNat_lt _), UInt8.toNat_xor]
          have HC2 : Hid (Chg L (L'.set (i + 3) (x ^^^ mb m 3)) i m 4) := Lib.hid (HC.out.step (k := 3) hx)
          have HO2 : Hid (OwnC (wr.drew.setCell ⟨g, i + 3, none⟩ (.int .u8 ((x ^^^ mb m 3).toNat : Int))) w3.heap.size (.slice (some ⟨g, 0, none⟩) n c4) (L'.set (i + 3) (x ^^^ mb m 3))) := by
            refine Lib.hid ?_
            have hrow : wr.drew.ownsRow w3.heap.size 5 1 (.slice (some ⟨g, 0, none⟩) L'.length c4) L'.length (flat cellC L') := HOX.out
            have := (hrow.stored (i + 3) (.int .u8 ((x ^^^ mb m 3).toNat : Int))).1
            unfold OwnC OwnW
            rw [List.length_set, flatC, List.map_set, ← flatC, ← hlL.out]
            exact this
          have HB2 : Hid (Below w.heap.size w (wr.drew.setCell ⟨g, i + 3, none⟩ (.int .u8 ((x ^^^ mb m 3).toNat : Int)))) := Lib.hid ((HB.out.drew).setCell (p := ⟨g, i + 3, none⟩) (Nat.le_trans hb13.size hbg.out) _)
          have y1 : (0 : Int) ≤ (i : Int) + 3 := (ik_facts HI4.out hnb (k := 3) (by decide)).1
          have y2 : (i : Int) + 3 < (n : Int) := (ik_facts HI4.out hnb (k := 3) (by decide)).2.1
          have y0 : IntKind.i64.wrap ((i : Int) + 3) = (i : Int) + 3 := (ik_facts HI4.out hnb (k := 3) (by decide)).2.2
          have y3 : ((i : Int) + 3).toNat = i + 3 := by show _ = i + 3; exact Int.toNat_natCast _
          have y4 : IntKind.i64.wrap 24 = 24 := by decide
          clear hx hj
          go_upto_region 10 with fail
          go_still_tail 13, (by kernel_rfl)
          change wpList _ _ _ _ _ wr.drew
          generalize hW : wr.drew = W at *
          clear hW
          go_wp2_with fail
          all_goals
            go_roundw
            case rel => exact ⟨4, _, by go_num, by omega, HO2, HC2, HB2⟩
            case measure => simp [intOf]
      · obtain rfl : k = 4 := by omega
        have HOB : Hid (Calls Try.prog 14 #[.slice (some ⟨g, 0, none⟩) n c4] wr fun e w' => e = .returned (.tuple #[noLog, .int .i64 14]) ∧ Below wr.heap.size wr w') := by
          refine Lib.hid ?_
          have hn4' : 4 ≤ L'.length := by have := hlL.out; have := HN.out; omega
          have hm4' : L'.length ≤ 262144 := by have := hlL.out; have := HN.out; omega
          have := open_bad _ L' wr HOX.out.slC hn4' hm4' (damage (HPL.out ▸ HC.out) (by rw [← HPL.out]; have := HI4.out; have := HN.out; omega) HM0.out HZ.out.2)
          rw [hlL.out] at this
          exact this
        clear HOX HC HO
        go_wp2_with fail
        (with_reducible refine HOB.out.mono ?_)
        rintro e w5 ⟨rfl, hb5⟩
        have hB5 := Blk.new w5 24 #[.slice none 0 0]
        have hb6 := bone w5 (.cells #[.slice none 0 0] 24)
        have hc5 := hB5.c1
        unfold noLog
        go_wp2_with fail
        go_ret
        exact ⟨rfl, (HB.out.trans (hb5.mono HB.out.size)).trans (hb6.mono (HB.out.trans (hb5.mono HB.out.size)).size)⟩
end Go.Proofs.Ytjglmjdfndcmmaa
