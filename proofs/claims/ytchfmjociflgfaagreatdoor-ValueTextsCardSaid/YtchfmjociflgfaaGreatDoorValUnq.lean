/- name.Unquote and what it calls. -/
import Derived.Test.YtchfmjociflgfaaGreatDoorValRead
import Derived.BigQuiet
namespace Go.Proofs.YtchfmjociflgfaaGreatDoor
open Go.RowKit

def IsReader (w : World) (g : Nat) (s : ByteArray) (k : Nat) : Prop := Blk w g 105 #[.string s, .int .i64 k]
theorem grown_setCell (w : World) (g k : Nat) (u : Value) : w.grownBy (w.setCell ⟨g, k, none⟩ u) (some g) :=
  ⟨rfl, rfl, rfl, by simp [World.setCell], fun i _ hi => Below.heap_setCell _ _ _ _ (fun e => hi (by simp [e]))⟩
theorem grown_trans {a b c : World} {row : Option Nat} (h : a.grownBy b row) (k : b.grownBy c row) : a.grownBy c row :=
  ⟨k.os.trans h.os, k.tape.trans h.tape, k.output.trans h.output, Nat.le_trans h.size k.size, fun i hi hr => (k.block i (Nat.lt_of_lt_of_le hi h.size) hr).trans (h.block i hi hr)⟩
theorem grown_drewN {a b : World} {row : Option Nat} (h : a.grownBy b row) (n : Nat) : a.grownBy (b.drewN n) row := ⟨h.os, h.tape, h.output, h.size, h.block⟩
theorem grown_of_belowB {a b c : World} {row : Option Nat} {B : Nat} (h : a.grownBy b row) (k : Below B b c) (hB : a.heap.size ≤ B) : a.grownBy c row :=
  ⟨k.os.trans h.os, k.tape.trans h.tape, k.output.trans h.output, Nat.le_trans h.size k.size, fun i hi hr => (k.block i (Nat.lt_of_lt_of_le hi hB)).trans (h.block i hi hr)⟩
/-- A builder stays where another block below its base is written to. -/
theorem Bld.grown {w w' : World} {B b g : Nat} {l : List UInt8} (h : Bld w B b l) (hg : g < B) (hw : w.grownBy w' (some g)) : Bld w' B b l := by
  have key : ∀ p, Lib.BuilderAtF 126 5 B b p (Lib.byteCells l) w → Lib.BuilderAtF 126 5 B b p (Lib.byteCells l) w' := by
    rintro p ⟨hB, v, hbk, hown, hne⟩
    have hlt : b < w.heap.size := by
      rcases Nat.lt_or_ge b w.heap.size with h' | h'
      · exact h'
      · rw [Array.getElem?_eq_none h'] at hbk; cases hbk
    refine ⟨hB, v, (hw.block b hlt (by simp; omega)).trans hbk, hown.kept hw ?_, hne⟩
    cases e : v.ownBlock with
    | none => exact .inl rfl
    | some k => right; have := (hown.lt k e).1; simp; omega
  rcases h with h | h
  · exact .inl (key _ h)
  · exact .inr (key _ h)

set_option maxHeartbeats 400000 in
theorem more_any (g : Nat) (s : ByteArray) (k : Nat) (w : World) (_hs : s.size ≤ 32770) (_hk : k ≤ s.size) (hB : IsReader w g s k) :
    Calls Tryz.prog 85 #[.pointer (some ⟨g, 0, none⟩)] w fun e w' => e = .returned (.bool (decide (k < s.size))) ∧ ∃ q, w' = w.drewN q := by
  have hB' : Blk w g 105 #[.string s, .int .i64 k] := hB
  obtain ⟨c0, c1⟩ := hB'.c2
  go_enter Tryz.func85, Tryz.ntmps85
  go_wp2_with fail
  go_quiet (fail)
  go_wp2_with fail
  go_ret
  exact ⟨rfl, _, rfl⟩

set_option maxHeartbeats 400000 in
theorem next_any_b (g : Nat) (s : ByteArray) (k : Nat) (w : World) (hs : s.size ≤ 32770) (hk : k < s.size) (hB : IsReader w g s k) :
    Calls Tryz.prog 110 #[.pointer (some ⟨g, 0, none⟩)] w fun e w' => e = .returned (.int .u8 (s[k].toNat : Int)) ∧ IsReader w' g s (k + 1) ∧ w.grownBy w' (some g) := by
  have hB' : Blk w g 105 #[.string s, .int .i64 k] := hB
  obtain ⟨c0, c1⟩ := hB'.c2
  have z1 := hB'.frozen 1
  have hB2 := hB'.set_ 1 (.int .i64 ((k : Int) + 1))
  have hg := grown_setCell w g 1 (.int .i64 ((k : Int) + 1))
  have w0 : IntKind.i64.wrap ((k : Int) + 1) = (k : Int) + 1 := IntWalk.i64_in _ (by omega)
  go_enter Tryz.func110, Tryz.ntmps110
  go_upto_region 2 with fail
  generalize w.setCell ⟨g, 1, none⟩ (.int .i64 ((k : Int) + 1)) = w1 at *
  clear c0 c1 z1
  have hB3 : Blk w1 g 105 #[.string s, .int .i64 ((k : Int) + 1)] := hB2
  obtain ⟨c0, c1⟩ := hB3.c2
  have w1' : IntKind.i64.wrap ((k : Int) + 1 - 1) = (k : Int) := by rw [IntWalk.i64_in _ (by omega)]; omega
  have i1 : (0 : Int) ≤ (k : Int) := by omega
  have i2 : (k : Int) < (s.size : Int) := by omega
  have i3 : (k : Int).toNat = k := by omega
  go_quiet (fail)
  go_wp2_with fail
  go_ret
  refine ⟨?_, ?_, grown_drewN hg _⟩
  · rfl
  · exact hB2

theorem drop_at {s : ByteArray} {k : Nat} (h : k < s.size) : s.data.toList.drop k = s[k] :: s.data.toList.drop (k + 1) := by
  rw [List.drop_eq_getElem_cons (by rw [size_list]; exact h)]; rfl
theorem drop_none {s : ByteArray} {k : Nat} (h : ¬ k < s.size) : s.data.toList.drop k = [] := List.drop_eq_nil_of_le (by rw [size_list]; omega)
theorem drop_len (s : ByteArray) {k : Nat} (h : k ≤ s.size) : s.size - (s.data.toList.drop k).length = k := by
  rw [List.length_drop]
  rw [size_list]
  omega

def LitPost (g : Nat) (s : ByteArray) (R : Int × List UInt8 × List UInt8) (w : World) (e : Ending) (w' : World) : Prop :=
  e = .returned (.tuple #[.string ⟨R.2.1.toArray⟩, .int .i64 R.1]) ∧ w.grownBy w' (some g) ∧ (R.1 = 0 → IsReader w' g s (s.size - R.2.2.length))
set_option maxHeartbeats 2000000 in
theorem lit_any (g : Nat) (s : ByteArray) (k : Nat) (w : World) (hs : s.size ≤ 32770) (hk : k ≤ s.size) (hB : IsReader w g s k) :
    Calls Tryz.prog 84 #[.pointer (some ⟨g, 0, none⟩)] w (LitPost g s (readB [] (s.data.toList.drop k)) w) := by
  have hg : g < w.heap.size := Blk.lt hB
  generalize hR : readB [] (s.data.toList.drop k) = R
  have HR := Lib.hid hR
  clear hR
  have hb0 := Bld.new (Blk.new w 126 #[.pointer none, .slice none 0 0]) (Nat.le_refl _)
  have hr0 : IsReader (w.alloc (.cells #[.pointer none, .slice none 0 0] 126)) g s k := Blk.alloc hB _
  have hgr0 : w.grownBy (w.alloc (.cells #[.pointer none, .slice none 0 0] 126)) (some g) := World.grownBy_alloc w _ _
  go_enter Tryz.func84, Tryz.ntmps84
  go_wp2_with fail
  go_loopg [] (s.size - k) (fun gg wr => ∃ (j : Nat) (L : List UInt8), s.size - j ≤ gg ∧ j ≤ s.size ∧ readB L (s.data.toList.drop j) = R ∧ L.length ≤ j ∧ IsReader wr g s j ∧ Bld wr w.heap.size w.heap.size L ∧ w.grownBy wr (some g))
  case atStart => exact ⟨k, [], Nat.le_refl _, hk, HR.out, Nat.zero_le _, hr0, hb0, hgr0⟩
  case round =>
    obtain ⟨j, L, hgk, hj, hrd, hLj, hBr, hbl, hgr⟩ := hrel
    have HRD := Lib.hid hrd
    have hszr := hgr.size
    clear hrd hr0 hb0 hgr0 HR hB
    go_wp2_with fail
    refine (more_any g s j _ hs hj hBr).mono ?_
    rintro e w2 ⟨rfl, q, rfl⟩
    have hBr2 : IsReader (wr.drewN q) g s j := hBr
    have hbl2 : Bld (wr.drewN q) w.heap.size w.heap.size L := hbl
    have hgr2 : w.grownBy (wr.drewN q) (some g) := grown_drewN hgr q
    have hsz2 : w.heap.size ≤ (wr.drewN q).heap.size := hszr
    generalize wr.drewN q = w2 at *
    clear hBr hbl hgr hszr
    by_cases hlt : j < s.size
    · rw [decide_eq_true hlt]
      have hd := drop_at hlt
      have HD := Lib.hid hd
      clear hd
      go_wp2_with fail
      refine (next_any_b g s j _ hs hlt hBr2).mono ?_
      rintro e w3 ⟨rfl, hBr3, hg3⟩
      have hbl3 := hbl2.grown hg hg3
      have hgr3 := grown_trans hgr2 hg3
      have hsz3 := hgr3.size
      clear hBr2 hbl2 hgr2 hsz2
      generalize s[j] = c at *
      by_cases h34 : c.toNat = 34
      · have HE : Hid (R = (0, L, s.data.toList.drop (j + 1))) := by
          show _ = _
          rw [← HRD.out, HD.out, read_end h34]
        have b1 : ((c.toNat : Int) == 34) = true := by rw [h34]; rfl
        clear h34
        go_wp2_with fail
        refine (string_any w.heap.size w.heap.size L _ hbl3 hsz3).mono ?_
        rintro e w4 ⟨rfl, hbl4, hb4, _⟩
        go_wp2_with fail
        go_ret2
        refine ⟨ret_si (by rw [HE.out]), grown_of_belowB hgr3 hb4 (Nat.le_refl _), fun _ => ?_⟩
        rw [HE.out]
        dsimp only
        rw [drop_len s (by omega)]
        exact Blk.below hBr3 hb4 hg
      · have b1 : ((c.toNat : Int) == 34) = false := by rw [beq_eq_false_iff_ne]; omega
        by_cases h92 : c.toNat = 92
        · have b2 : ((c.toNat : Int) == 92) = true := by rw [h92]; rfl
          have HX := Lib.hid (And.intro h34 h92)
          clear h34 h92
          go_wp2_with fail
          refine (more_any g s (j + 1) _ hs (by omega) hBr3).mono ?_
          rintro e w4 ⟨rfl, q, rfl⟩
          have hBr4 : IsReader (w3.drewN q) g s (j + 1) := hBr3
          have hbl4 : Bld (w3.drewN q) w.heap.size w.heap.size L := hbl3
          have hgr4 : w.grownBy (w3.drewN q) (some g) := grown_drewN hgr3 q
          generalize w3.drewN q = w4 at *
          clear hBr3 hbl3 hgr3 hsz3
          have hsz4 := hgr4.size
          by_cases hlt' : j + 1 < s.size
          · rw [decide_eq_true hlt']
            have HD' := Lib.hid (drop_at hlt')
            go_wp2_with fail
            refine (next_any_b g s (j + 1) _ hs hlt' hBr4).mono ?_
            rintro e w5 ⟨rfl, hBr5, hg5⟩
            have hbl5 := hbl4.grown hg hg5
            have hgr5 := grown_trans hgr4 hg5
            have hsz5 := hgr5.size
            clear hBr4 hbl4 hgr4 hsz4
            generalize s[j + 1] = d at *
            by_cases hd : d.toNat = 34 ∨ d.toNat = 92
            · have HE : Hid (readB (L ++ [d]) (s.data.toList.drop (j + 2)) = R) := by
                show _ = _
                rw [← HRD.out, HD.out, HD'.out, read_esc HX.out.1 HX.out.2 hd]
              rcases hd with hd | hd
              · have b3 : ((d.toNat : Int) != 34) = false := by rw [hd]; rfl
                clear hd
                go_wp2_with fail
                refine (writeByte_any w.heap.size w.heap.size L d _ hbl5 (by omega) hsz5).mono ?_
                rintro e w6 ⟨rfl, hbl6, hb6, _⟩
                go_wp2_with fail
                go_roundg (s.size - (j + 2))
                case rel => exact ⟨j + 2, L ++ [d], Nat.le_refl _, by omega, HE.out, by simp; omega, Blk.below hBr5 hb6 hg, hbl6, grown_of_belowB hgr5 hb6 (Nat.le_refl _)⟩
                case measure => omega
              · have b3 : ((d.toNat : Int) != 34) = true := by rw [hd]; rfl
                have b4 : ((d.toNat : Int) != 92) = false := by rw [hd]; rfl
                clear hd
                go_wp2_with fail
                refine (writeByte_any w.heap.size w.heap.size L d _ hbl5 (by omega) hsz5).mono ?_
                rintro e w6 ⟨rfl, hbl6, hb6, _⟩
                go_wp2_with fail
                go_roundg (s.size - (j + 2))
                case rel => exact ⟨j + 2, L ++ [d], Nat.le_refl _, by omega, HE.out, by simp; omega, Blk.below hBr5 hb6 hg, hbl6, grown_of_belowB hgr5 hb6 (Nat.le_refl _)⟩
                case measure => omega
            · have HE : Hid (R = (3, [], [])) := by
                show _ = _
                rw [← HRD.out, HD.out, HD'.out, read_bad HX.out.1 HX.out.2 hd]
              have b3 : ((d.toNat : Int) != 34) = true := by simp; omega
              have b4 : ((d.toNat : Int) != 92) = true := by simp; omega
              clear hd
              go_wp2_with fail
              go_ret2
              refine ⟨ret_si (by rw [HE.out]), hgr5, fun h => ?_⟩
              rw [HE.out] at h
              cases h
          · rw [decide_eq_false hlt']
            have HE : Hid (R = (4, [], [])) := by
              show _ = _
              rw [← HRD.out, HD.out, drop_none hlt', read_bs HX.out.1 HX.out.2]
            go_wp2_with fail
            go_ret2
            refine ⟨ret_si (by rw [HE.out]), hgr4, fun h => ?_⟩
            rw [HE.out] at h
            cases h
        · have b2 : ((c.toNat : Int) == 92) = false := by rw [beq_eq_false_iff_ne]; omega
          have HE : Hid (readB (L ++ [c]) (s.data.toList.drop (j + 1)) = R) := by
            show _ = _
            rw [← HRD.out, HD.out, read_one h34 h92]
          clear h34 h92
          go_wp2_with fail
          refine (writeByte_any w.heap.size w.heap.size L c _ hbl3 (by omega) hsz3).mono ?_
          rintro e w6 ⟨rfl, hbl6, hb6, _⟩
          go_wp2_with fail
          go_roundg (s.size - (j + 1))
          case rel => exact ⟨j + 1, L ++ [c], Nat.le_refl _, by omega, HE.out, by simp; omega, Blk.below hBr3 hb6 hg, hbl6, grown_of_belowB hgr3 hb6 (Nat.le_refl _)⟩
          case measure => omega
    · rw [decide_eq_false hlt]
      have HE : Hid (R = (4, [], [])) := by
        show _ = _
        rw [← HRD.out, drop_none hlt, read_nil]
      go_wp2_with fail
      go_ret2
      refine ⟨ret_si (by rw [HE.out]), hgr2, fun h => ?_⟩
      rw [HE.out] at h
      cases h
end Go.Proofs.YtchfmjociflgfaaGreatDoor
