/- Texts of this seat, merged. -/
import Derived.BigQuiet
import Derived.Deep.CutRange
import Derived.Deep.CutBlock
import Derived.Shelf.Strconv.ErrVarAll
import Derived.Test.YtoalecalahkblaaGreatDoorIy01
import Derived.Test.YtoalecalahkblaaGreatDoorIy02
import Derived.Test.YtoalecalahkblaaGreatDoorIy03
import Derived.Test.YtoalecalahkblaaGreatDoorIy04
import Derived.Test.YtoalecalahkblaaGreatDoorIy05
import Derived.Test.YtoalecalahkblaaGreatDoorIy06
import Derived.Test.YtoalecalahkblaaGreatDoorIy07
import Derived.Test.YtoalecalahkblaaGreatDoorIy09
import Derived.Test.YtoalecalahkblaaGreatDoorIy11
import Derived.Test.YtoalecalahkblaaGreatDoorIy12
import Derived.Test.YtoalecalahkblaaGreatDoorIy14
import Derived.Test.YtoalecalahkblaaGreatDoorIy16
import Derived.Test.YtoalecalahkblaaGreatDoorIy17
set_option linter.all false
set_option linter.all false
namespace Go.Proofs.YtoalecalahkblaaGreatDoor
open Go.RowKit
def IsReader (w : World) (g : Nat) (s : ByteArray) (k : Nat) : Prop := Blk w g 214 #[.string s, .int .i64 k]
theorem grown_setCell (w : World) (g k : Nat) (u : Value) : w.grownBy (w.setCell ⟨g, k, none⟩ u) (some g) :=
  ⟨rfl, rfl, rfl, by simp [World.setCell], fun i _ hi => Below.heap_setCell _ _ _ _ (fun e => hi (by simp [e]))⟩
theorem grown_trans {a b c : World} {row : Option Nat} (h : a.grownBy b row) (k : b.grownBy c row) : a.grownBy c row :=
  ⟨k.os.trans h.os, k.tape.trans h.tape, k.output.trans h.output, Nat.le_trans h.size k.size, fun i hi hr => (k.block i (Nat.lt_of_lt_of_le hi h.size) hr).trans (h.block i hi hr)⟩
theorem grown_drewN {a b : World} {row : Option Nat} (h : a.grownBy b row) (n : Nat) : a.grownBy (b.drewN n) row := ⟨h.os, h.tape, h.output, h.size, h.block⟩
theorem grown_of_belowB {a b c : World} {row : Option Nat} {B : Nat} (h : a.grownBy b row) (k : Below B b c) (hB : a.heap.size ≤ B) : a.grownBy c row :=
  ⟨k.os.trans h.os, k.tape.trans h.tape, k.output.trans h.output, Nat.le_trans h.size k.size, fun i hi hr => (k.block i (Nat.lt_of_lt_of_le hi hB)).trans (h.block i hi hr)⟩
theorem Bld.grown {w w' : World} {B b g : Nat} {l : List UInt8} (h : Bld w B b l) (hg : g < B) (hw : w.grownBy w' (some g)) : Bld w' B b l := by
  have key : ∀ p, Lib.BuilderAtF 75 5 B b p (Lib.byteCells l) w → Lib.BuilderAtF 75 5 B b p (Lib.byteCells l) w' := by
    rintro p ⟨hB, v, hbk, hown, hne⟩
    have hlt : b < w.heap.size := by
      rcases Nat.lt_or_ge b w.heap.size with h' | h'
      · exact h'
      · rw [Array.getElem?_eq_none h'] at hbk; cases hbk
    refine ⟨hB, v, (hw.block b hlt (by simp; omega)).trans hbk, hown.kept hw ?_, hne⟩
    cases e : v.ownBlock with
    | none => exact .inl rfl
    | some k => right; have := (hown.lt k e).1; simp; omega
  rcases h with h | h
  · exact .inl (key _ h)
  · exact .inr (key _ h)
set_option maxHeartbeats 400000 in
theorem vp_more_any (g : Nat) (s : ByteArray) (k : Nat) (w : World) (_hs : s.size ≤ 32770) (_hk : k ≤ s.size) (hB : IsReader w g s k) :
    Calls Tryz.prog 208 #[.pointer (some ⟨g, 0, none⟩)] w fun e w' => e = .returned (.bool (decide (k < s.size))) ∧ ∃ q, w' = w.drewN q := by
  have hB' : Blk w g 214 #[.string s, .int .i64 k] := hB
  obtain ⟨c0, c1⟩ := hB'.c2
  go_enter Tryz.func208, Tryz.ntmps208
  go_wp2_with fail
  go_quiet (fail)
  go_wp2_with fail
  go_ret
  exact ⟨rfl, _, rfl⟩
set_option maxHeartbeats 400000 in
theorem next_any_b (g : Nat) (s : ByteArray) (k : Nat) (w : World) (hs : s.size ≤ 32770) (hk : k < s.size) (hB : IsReader w g s k) :
    Calls Tryz.prog 228 #[.pointer (some ⟨g, 0, none⟩)] w fun e w' => e = .returned (.int .u8 (s[k].toNat : Int)) ∧ IsReader w' g s (k + 1) ∧ w.grownBy w' (some g) := by
  have hB' : Blk w g 214 #[.string s, .int .i64 k] := hB
  obtain ⟨c0, c1⟩ := hB'.c2
  have z1 := hB'.frozen 1
  have hB2 := hB'.set_ 1 (.int .i64 ((k : Int) + 1))
  have hg := grown_setCell w g 1 (.int .i64 ((k : Int) + 1))
  have w0 : IntKind.i64.wrap ((k : Int) + 1) = (k : Int) + 1 := IntWalk.i64_in _ (by omega)
  go_enter Tryz.func228, Tryz.ntmps228
  go_upto_region 2 with fail
  generalize w.setCell ⟨g, 1, none⟩ (.int .i64 ((k : Int) + 1)) = w1 at *
  clear c0 c1 z1
  have hB3 : Blk w1 g 214 #[.string s, .int .i64 ((k : Int) + 1)] := hB2
  obtain ⟨c0, c1⟩ := hB3.c2
  have w1' : IntKind.i64.wrap ((k : Int) + 1 - 1) = (k : Int) := by rw [IntWalk.i64_in _ (by omega)]; omega
  have i1 : (0 : Int) ≤ (k : Int) := by omega
  have i2 : (k : Int) < (s.size : Int) := by omega
  have i3 : (k : Int).toNat = k := by omega
  go_quiet (fail)
  go_wp2_with fail
  go_ret
  refine ⟨?_, ?_, grown_drewN hg _⟩
  · rfl
  · exact hB2
theorem drop_at {s : ByteArray} {k : Nat} (h : k < s.size) : s.data.toList.drop k = s[k] :: s.data.toList.drop (k + 1) := by
  rw [List.drop_eq_getElem_cons (by rw [size_list]; exact h)]; rfl
theorem drop_none {s : ByteArray} {k : Nat} (h : ¬ k < s.size) : s.data.toList.drop k = [] := List.drop_eq_nil_of_le (by rw [size_list]; omega)
theorem drop_len (s : ByteArray) {k : Nat} (h : k ≤ s.size) : s.size - (s.data.toList.drop k).length = k := by
  rw [List.length_drop]
  rw [size_list]
  omega
def LitPost (g : Nat) (s : ByteArray) (R : Int × List UInt8 × List UInt8) (w : World) (e : Ending) (w' : World) : Prop :=
  e = .returned (.tuple #[.string ⟨R.2.1.toArray⟩, .int .i64 R.1]) ∧ w.grownBy w' (some g) ∧ (R.1 = 0 → IsReader w' g s (s.size - R.2.2.length))
set_option maxHeartbeats 2000000 in
theorem lit_any (g : Nat) (s : ByteArray) (k : Nat) (w : World) (hs : s.size ≤ 32770) (hk : k ≤ s.size) (hB : IsReader w g s k) :
    Calls Tryz.prog 207 #[.pointer (some ⟨g, 0, none⟩)] w (LitPost g s (readB [] (s.data.toList.drop k)) w) := by
  have hg : g < w.heap.size := Blk.lt hB
  generalize hR : readB [] (s.data.toList.drop k) = R
  have HR := Lib.hid hR
  clear hR
  have hb0 := Bld.new (Blk.new w 75 #[.pointer none, .slice none 0 0]) (Nat.le_refl _)
  have hr0 : IsReader (w.alloc (.cells #[.pointer none, .slice none 0 0] 75)) g s k := Blk.alloc hB _
  have hgr0 : w.grownBy (w.alloc (.cells #[.pointer none, .slice none 0 0] 75)) (some g) := World.grownBy_alloc w _ _
  go_enter Tryz.func207, Tryz.ntmps207
  go_wp2_with fail
  go_loopg [] (s.size - k) (fun gg wr => ∃ (j : Nat) (L : List UInt8), s.size - j ≤ gg ∧ j ≤ s.size ∧ readB L (s.data.toList.drop j) = R ∧ L.length ≤ j ∧ IsReader wr g s j ∧ Bld wr w.heap.size w.heap.size L ∧ w.grownBy wr (some g))
  case atStart => exact ⟨k, [], Nat.le_refl _, hk, HR.out, Nat.zero_le _, hr0, hb0, hgr0⟩
  case round =>
    obtain ⟨j, L, hgk, hj, hrd, hLj, hBr, hbl, hgr⟩ := hrel
    have HRD := Lib.hid hrd
    have hszr := hgr.size
    clear hrd hr0 hb0 hgr0 HR hB
    go_wp2_with fail
    refine (vp_more_any g s j _ hs hj hBr).mono ?_
    rintro e w2 ⟨rfl, q, rfl⟩
    have hBr2 : IsReader (wr.drewN q) g s j := hBr
    have hbl2 : Bld (wr.drewN q) w.heap.size w.heap.size L := hbl
    have hgr2 : w.grownBy (wr.drewN q) (some g) := grown_drewN hgr q
    have hsz2 : w.heap.size ≤ (wr.drewN q).heap.size := hszr
    generalize wr.drewN q = w2 at *
    clear hBr hbl hgr hszr
    by_cases hlt : j < s.size
    · rw [decide_eq_true hlt]
      have hd := drop_at hlt
      have HD := Lib.hid hd
      clear hd
      go_wp2_with fail
      refine (next_any_b g s j _ hs hlt hBr2).mono ?_
      rintro e w3 ⟨rfl, hBr3, hg3⟩
      have hbl3 := hbl2.grown hg hg3
      have hgr3 := grown_trans hgr2 hg3
      have hsz3 := hgr3.size
      clear hBr2 hbl2 hgr2 hsz2
      generalize s[j] = c at *
      by_cases h34 : c.toNat = 34
      · have HE : Hid (R = (0, L, s.data.toList.drop (j + 1))) := by
          show _ = _
          rw [← HRD.out, HD.out, read_end h34]
        have b1 : ((c.toNat : Int) == 34) = true := by rw [h34]; rfl
        clear h34
        go_wp2_with fail
        refine (string_any w.heap.size w.heap.size L _ hbl3 hsz3).mono ?_
        rintro e w4 ⟨rfl, hbl4, hb4, _⟩
        go_wp2_with fail
        go_ret2
        refine ⟨ret_si (by rw [HE.out]), grown_of_belowB hgr3 hb4 (Nat.le_refl _), fun _ => ?_⟩
        rw [HE.out]
        dsimp only
        rw [drop_len s (by omega)]
        exact Blk.below hBr3 hb4 hg
      · have b1 : ((c.toNat : Int) == 34) = false := by rw [beq_eq_false_iff_ne]; omega
        by_cases h92 : c.toNat = 92
        · have b2 : ((c.toNat : Int) == 92) = true := by rw [h92]; rfl
          have HX := Lib.hid (And.intro h34 h92)
          clear h34 h92
          go_wp2_with fail
          refine (vp_more_any g s (j + 1) _ hs (by omega) hBr3).mono ?_
          rintro e w4 ⟨rfl, q, rfl⟩
          have hBr4 : IsReader (w3.drewN q) g s (j + 1) := hBr3
          have hbl4 : Bld (w3.drewN q) w.heap.size w.heap.size L := hbl3
          have hgr4 : w.grownBy (w3.drewN q) (some g) := grown_drewN hgr3 q
          generalize w3.drewN q = w4 at *
          clear hBr3 hbl3 hgr3 hsz3
          have hsz4 := hgr4.size
          by_cases hlt' : j + 1 < s.size
          · rw [decide_eq_true hlt']
            have HD' := Lib.hid (drop_at hlt')
            go_wp2_with fail
            refine (next_any_b g s (j + 1) _ hs hlt' hBr4).mono ?_
            rintro e w5 ⟨rfl, hBr5, hg5⟩
            have hbl5 := hbl4.grown hg hg5
            have hgr5 := grown_trans hgr4 hg5
            have hsz5 := hgr5.size
            clear hBr4 hbl4 hgr4 hsz4
            generalize s[j + 1] = d at *
            by_cases hd : d.toNat = 34 ∨ d.toNat = 92
            · have HE : Hid (readB (L ++ [d]) (s.data.toList.drop (j + 2)) = R) := by
                show _ = _
                rw [← HRD.out, HD.out, HD'.out, read_esc HX.out.1 HX.out.2 hd]
              rcases hd with hd | hd
              · have b3 : ((d.toNat : Int) != 34) = false := by rw [hd]; rfl
                clear hd
                go_wp2_with fail
                refine (writeByte_any w.heap.size w.heap.size L d _ hbl5 (by omega) hsz5).mono ?_
                rintro e w6 ⟨rfl, hbl6, hb6, _⟩
                go_wp2_with fail
                go_roundg (s.size - (j + 2))
                case rel => exact ⟨j + 2, L ++ [d], Nat.le_refl _, by omega, HE.out, by simp; omega, Blk.below hBr5 hb6 hg, hbl6, grown_of_belowB hgr5 hb6 (Nat.le_refl _)⟩
                case measure => omega
              · have b3 : ((d.toNat : Int) != 34) = true := by rw [hd]; rfl
                have b4 : ((d.toNat : Int) != 92) = false := by rw [hd]; rfl
                clear hd
                go_wp2_with fail
                refine (writeByte_any w.heap.size w.heap.size L d _ hbl5 (by omega) hsz5).mono ?_
                rintro e w6 ⟨rfl, hbl6, hb6, _⟩
                go_wp2_with fail
                go_roundg (s.size - (j + 2))
                case rel => exact ⟨j + 2, L ++ [d], Nat.le_refl _, by omega, HE.out, by simp; omega, Blk.below hBr5 hb6 hg, hbl6, grown_of_belowB hgr5 hb6 (Nat.le_refl _)⟩
                case measure => omega
            · have HE : Hid (R = (3, [], [])) := by
                show _ = _
                rw [← HRD.out, HD.out, HD'.out, read_bad HX.out.1 HX.out.2 hd]
              have b3 : ((d.toNat : Int) != 34) = true := by simp; omega
              have b4 : ((d.toNat : Int) != 92) = true := by simp; omega
              clear hd
              go_wp2_with fail
              go_ret2
              refine ⟨ret_si (by rw [HE.out]), hgr5, fun h => ?_⟩
              rw [HE.out] at h
              cases h
          · rw [decide_eq_false hlt']
            have HE : Hid (R = (4, [], [])) := by
              show _ = _
              rw [← HRD.out, HD.out, drop_none hlt', read_bs HX.out.1 HX.out.2]
            go_wp2_with fail
            go_ret2
            refine ⟨ret_si (by rw [HE.out]), hgr4, fun h => ?_⟩
            rw [HE.out] at h
            cases h
        · have b2 : ((c.toNat : Int) == 92) = false := by rw [beq_eq_false_iff_ne]; omega
          have HE : Hid (readB (L ++ [c]) (s.data.toList.drop (j + 1)) = R) := by
            show _ = _
            rw [← HRD.out, HD.out, read_one h34 h92]
          clear h34 h92
          go_wp2_with fail
          refine (writeByte_any w.heap.size w.heap.size L c _ hbl3 (by omega) hsz3).mono ?_
          rintro e w6 ⟨rfl, hbl6, hb6, _⟩
          go_wp2_with fail
          go_roundg (s.size - (j + 1))
          case rel => exact ⟨j + 1, L ++ [c], Nat.le_refl _, by omega, HE.out, by simp; omega, Blk.below hBr3 hb6 hg, hbl6, grown_of_belowB hgr3 hb6 (Nat.le_refl _)⟩
          case measure => omega
    · rw [decide_eq_false hlt]
      have HE : Hid (R = (4, [], [])) := by
        show _ = _
        rw [← HRD.out, drop_none hlt, read_nil]
      go_wp2_with fail
      go_ret2
      refine ⟨ret_si (by rw [HE.out]), hgr2, fun h => ?_⟩
      rw [HE.out] at h
      cases h
end Go.Proofs.YtoalecalahkblaaGreatDoor

set_option linter.all false
namespace Go.Proofs.YtoalecalahkblaaGreatDoor
open Go.RowKit
theorem Blk.set3 {w : World} {g : Nat} {t : TypeId} {a b c : Value} (h : Blk w g t #[a, b, c]) (x y z : Value) :
    Blk (((w.setCell ⟨g, 0, none⟩ x).setCell ⟨g, 1, none⟩ y).setCell ⟨g, 2, none⟩ z) g t #[x, y, z] := by
  have := ((h.set_ 0 x).set_ 1 y).set_ 2 z
  exact this
theorem bset3 {w w1 : World} {g : Nat} (h : Below w.heap.size w w1) (hg : w.heap.size ≤ g) (x y z : Value) :
    Below w.heap.size w (((w1.setCell ⟨g, 0, none⟩ x).setCell ⟨g, 1, none⟩ y).setCell ⟨g, 2, none⟩ z) :=
  ((h.setCell (p := ⟨g, 0, none⟩) hg x).setCell (p := ⟨g, 1, none⟩) hg y).setCell (p := ⟨g, 2, none⟩) hg z
theorem size_arr (t : List UInt8) : (⟨t.toArray⟩ : ByteArray).size = t.length := List.size_toArray
theorem size_nil : (⟨#[]⟩ : ByteArray).size = 0 := rfl
theorem ne_of_beq {s t : ByteArray} (h : (s.toList == t.toList) = false) : s ≠ t := by rintro rfl; simp at h
theorem eq_of_beq' {s t : ByteArray} (h : (s.toList == t.toList) = true) : s = t := by
  have h := eq_of_beq h
  rw [Lib.toList_data, Lib.toList_data] at h
  cases s; cases t
  congr 1
  exact Array.toList_inj.1 h
theorem text_check {v : Val} {s : ByteArray} (h : textE v ≠ (s, 0)) : (textE v).2 ≠ 0 ∨ (textE v).1 ≠ s := by
  rcases Classical.em ((textE v).2 = 0) with h2 | h2
  · right; intro h1; exact h (by rw [← h1, ← h2])
  · exact .inl h2
theorem parse_check_txt {s t : ByteArray} (h1 : s ≠ trueS) (h2 : s ≠ falseS) (hq : headB s.data.toList = true) (hu : unquoteE s = (t, 0)) :
    parseE s = if textE ⟨3, 0, t⟩ = (s, 0) then (⟨3, 0, t⟩, 0) else (noV, 3) := by
  have hqt := unquote_ok hu
  by_cases ht : textB t = true
  · rw [parse_txt h1 h2 (num_quoted hq) (txt_some.2 ⟨hu, ht⟩)]
    have hv : validV ⟨3, 0, t⟩ = true := by show (decide ((0 : Int) = 0) && textB t) = true; rw [ht]; rfl
    have : textE ⟨3, 0, t⟩ = (s, 0) := by
      unfold textE
      rw [hv, if_pos rfl]
      show (quoteS t, (0 : Int)) = _
      rw [hqt]
    rw [if_pos this]
  · have : txtOf s = none := by
      cases hx : txtOf s with
      | none => rfl
      | some t' =>
        obtain ⟨e1, e2⟩ := txt_some.1 hx
        rw [hu] at e1
        injection e1 with e1 _
        subst e1
        exact absurd e2 ht
    rw [parse_none h1 h2 (num_quoted hq) this]
    have hv : validV ⟨3, 0, t⟩ = false := by
      show (decide ((0 : Int) = 0) && textB t) = false
      cases hx : textB t
      · rfl
      · exact absurd hx ht
    have : textE ⟨3, 0, t⟩ ≠ (s, 0) := by
      unfold textE
      rw [hv]
      intro h; injection h with _ h; cases h
    rw [if_neg this]; rfl
theorem parse_check_bad {s : ByteArray} (h1 : s ≠ trueS) (h2 : s ≠ falseS) (hq : headB s.data.toList = true) (hu : (unquoteE s).2 ≠ 0) : parseE s = (noV, 3) := by
  have : txtOf s = none := by
    cases hx : txtOf s with
    | none => rfl
    | some t' =>
      obtain ⟨e1, e2⟩ := txt_some.1 hx
      rw [e1] at hu
      exact absurd rfl hu
  rw [parse_none h1 h2 (num_quoted hq) this]; rfl
theorem parse_check_num {s : ByteArray} {n : Int} (h1 : s ≠ trueS) (h2 : s ≠ falseS) (hq : headB s.data.toList = false) (hu : okOf (Lib.atoiAll s.data.toList) = some n) :
    parseE s = if textE ⟨2, n, ⟨#[]⟩⟩ = (s, 0) then (⟨2, n, ⟨#[]⟩⟩, 0) else (noV, 3) := by
  have hv : validV ⟨2, n, ⟨#[]⟩⟩ = numB n := by show (numB n && noS ⟨#[]⟩) = numB n; rw [show noS ⟨#[]⟩ = true by decide +kernel, Bool.and_true]
  have ht : textE ⟨2, n, ⟨#[]⟩⟩ = if numB n then (itoaS n, 0) else (⟨#[]⟩, 1) := by unfold textE; rw [hv]; rfl
  have hn : numOf s = if numB n && decide (itoaS n = s) then some n else none := by unfold numOf; rw [hu]; rfl
  rw [ht]
  by_cases hb : numB n = true
  · by_cases hs : itoaS n = s
    · rw [parse_num h1 h2 (num_some.2 ⟨hb, hs⟩), hb, if_pos rfl, if_pos (by rw [hs])]
    · rw [parse_none h1 h2 (by rw [hn, if_neg (by simp [hs])]) (txt_bare hq), hb, if_pos rfl, if_neg (by intro h; injection h with h _; exact hs h)]; rfl
  · rw [parse_none h1 h2 (by rw [hn, if_neg (by simp [hb])]) (txt_bare hq), if_neg hb, if_neg (by intro h; injection h with _ h; cases h)]; rfl
theorem parse_check_none {s : ByteArray} (h1 : s ≠ trueS) (h2 : s ≠ falseS) (hq : headB s.data.toList = false) (hu : okOf (Lib.atoiAll s.data.toList) = none) : parseE s = (noV, 3) := by
  rw [parse_none h1 h2 (by unfold numOf; rw [hu]; rfl) (txt_bare hq)]; rfl
theorem text_true : textE ⟨1, 1, ⟨#[]⟩⟩ = (trueS, 0) := by decide +kernel
theorem text_false : textE ⟨1, 0, ⟨#[]⟩⟩ = (falseS, 0) := by decide +kernel
theorem unq_size (s : ByteArray) : (unquoteE s).1.size ≤ 16384 := by
  unfold unquoteE
  split
  · show (⟨#[]⟩ : ByteArray).size ≤ 16384
    rw [size_nil]; omega
  split
  · unfold endE
    split
    · split
      · show (⟨#[]⟩ : ByteArray).size ≤ 16384
        rw [size_nil]; omega
      · show (⟨_⟩ : ByteArray).size ≤ 16384
        rw [size_arr]; omega
    · show (⟨#[]⟩ : ByteArray).size ≤ 16384
      rw [size_nil]; omega
    · show (⟨#[]⟩ : ByteArray).size ≤ 16384
      rw [size_nil]; omega
  · show (⟨#[]⟩ : ByteArray).size ≤ 16384
    rw [size_nil]; omega
theorem prefix_head (s : ByteArray) : Lib.hasPrefix s.data.toList (⟨#[34]⟩ : ByteArray).data.toList = headB s.data.toList := by
  unfold Lib.hasPrefix headB
  cases h : s.data.toList with
  | nil => rfl
  | cons c l =>
    show ((34 : UInt8) == c && List.isPrefixOf [] l) = decide (c.toNat = 34)
    have : List.isPrefixOf [] l = true := by cases l <;> rfl
    rw [this, Bool.and_true]
    rw [Bool.eq_iff_iff]
    simp only [beq_iff_eq, decide_eq_true_eq]
    constructor
    · rintro rfl; rfl
    · intro h; exact (toNat_34 h).symm
set_option maxHeartbeats 1000000 in
theorem unquote_any (s : ByteArray) (w : World) (hs : s.size ≤ maxLen) : Calls Tryz.prog 168 #[.string s] w fun e w' => e = .returned (.tuple #[.string (unquoteE s).1, .int .i64 (unquoteE s).2]) ∧ Below w.heap.size w w' := by
  have hs0 := hs
  unfold maxLen at hs
  go_enter Tryz.func168, Tryz.ntmps168
  by_cases h1 : 32770 < s.size
  · have HE := Lib.hid (unquote_full h1)
    go_wp2_with fail
    go_ret2
    exact ⟨ret_si (by rw [HE.out]), Below.refl _ _⟩
  have hp := prefix_head s
  generalize hh : headB s.data.toList = hd at hp
  have HH := Lib.hid hh
  clear hh
  have HP := Lib.hid hp
  clear hp
  go_wp2_with fail
  refine (Tryz.strings_HasPrefix s ⟨#[34]⟩ _).mono ?_
  rintro e w1 ⟨rfl, rfl⟩
  rw [HP.out]
  cases hd
  · have HE := Lib.hid (unquote_form h1 (by rw [HH.out]; rfl))
    go_wp2_with fail
    go_ret2
    exact ⟨ret_si (by rw [HE.out]), Below.refl _ _⟩
  go_wp2_with fail
  refine (vp_printable_any s _ hs0).mono ?_
  rintro e w2 ⟨rfl, rfl⟩
  generalize hq : plainS s = q
  have HQ := Lib.hid hq
  clear hq
  cases q
  · have HE := Lib.hid (unquote_form h1 (by rw [HH.out, HQ.out]; rfl))
    go_wp2_with fail
    go_ret2
    exact ⟨ret_si (by rw [HE.out]), Below.refl _ _⟩
  have HE := Lib.hid (unquote_read h1 (by rw [HH.out, HQ.out]; rfl))
  have hl1 : 1 ≤ s.size := by
    rcases Nat.lt_or_ge 0 s.size with h | h
    · exact h
    · have e0 : s.data.toList = [] := List.eq_nil_of_length_eq_zero (by rw [size_list]; omega)
      have := HH.out
      rw [e0] at this
      cases this
  have hB0 : IsReader (w1.alloc (.cells #[.string s, .int .i64 1] 214)) w1.heap.size s 1 := Blk.new w1 _ _
  have hb0 := bone w1 (.cells #[.string s, .int .i64 1] 214)
  go_wp2_with fail
  refine (lit_any w1.heap.size s 1 _ (by omega) hl1 hB0).mono ?_
  rintro e w3 ⟨rfl, hg3, hr3⟩
  have hb3 : Below w1.heap.size w1 w3 := hb0.trans (below_of_grown hg3 (by simp) (fun g hg => by injection hg with hg; omega))
  have hrl := read_len _ (s.data.toList.drop 1) [] (Nat.le_refl _)
  have hrl2 : (s.data.toList.drop 1).length ≤ s.size := by rw [List.length_drop, size_list]; omega
  generalize readB [] (s.data.toList.drop 1) = R at *
  obtain ⟨z, t, rest⟩ := R
  dsimp only at *
  by_cases hz : z = 0
  · subst hz
    have hBr := hr3 rfl
    clear hr3 hB0 hb0 hg3
    go_wp2_with fail
    refine (vp_more_any w1.heap.size s (s.size - rest.length) _ (by omega) (by omega) hBr).mono ?_
    rintro e w4 ⟨rfl, q, rfl⟩
    cases rest with
    | cons a l =>
      have HR : Hid (unquoteE s = (⟨#[]⟩, 3)) := HE.out
      rw [decide_eq_true (by simp; omega)]
      clear hBr
      go_wp2_with fail
      go_ret2
      exact ⟨ret_si (by rw [HR.out]), bdrawn hb3 _⟩
    | nil =>
      rw [decide_eq_false (by simp)]
      clear hBr
      by_cases hl : 16384 < t.length
      · have HR : Hid (unquoteE s = (⟨#[]⟩, 5)) := by show _ = _; rw [HE.out]; exact if_pos hl
        have hsz : 16384 < (⟨t.toArray⟩ : ByteArray).size := by rw [size_arr]; exact hl
        go_wp2_with fail
        go_ret2
        exact ⟨ret_si (by rw [HR.out]), bdrawn hb3 _⟩
      · have HR : Hid (unquoteE s = (⟨t.toArray⟩, 0)) := by show _ = _; rw [HE.out]; exact if_neg hl
        have hsz : (⟨t.toArray⟩ : ByteArray).size ≤ 16384 := by rw [size_arr]; omega
        go_wp2_with fail
        go_ret2
        exact ⟨ret_si (by rw [HR.out]), bdrawn hb3 _⟩
  · have HR : Hid (unquoteE s = (⟨#[]⟩, z)) := by
      show _ = _
      rw [HE.out]
      unfold endE
      split
      · rename_i h1; injection h1 with h1 _; exact absurd h1 hz
      · rename_i h1; injection h1 with h1 _; exact absurd h1 hz
      · rename_i h1; injection h1 with h1 _; rw [h1]
    have b1 : (z != 0) = true := by simpa using hz
    clear hr3 hB0 hb0 hg3 hz
    go_wp2_with fail
    go_ret2
    exact ⟨ret_si (by rw [HR.out]), hb3⟩
def BlkV (w : World) (g : Nat) (v : Val) : Prop := Blk w g 121 #[.int .i64 v.kind, .int .i64 v.n, .string v.s]
theorem head_no {s : ByteArray} (h : headB s.data.toList = false) : s.toList.isEmpty = true ∨ (s.toList.isEmpty = false ∧ ∃ h : 0 < s.size, ((s[0].toNat : Int) == 34) = false) := by
  rw [Lib.toList_data]
  by_cases h2 : 0 < s.size
  · right
    have e := drop_at (s := s) (k := 0) h2
    rw [List.drop_zero] at e
    rw [e] at h ⊢
    refine ⟨rfl, h2, ?_⟩
    have h' : ¬ (s[0].toNat = 34) := of_decide_eq_false h
    rw [beq_eq_false_iff_ne]; omega
  · left
    have e0 : s.data.toList = [] := List.eq_nil_of_length_eq_zero (by rw [size_list]; omega)
    rw [e0]; rfl
theorem head_yes {s : ByteArray} (h : headB s.data.toList = true) : s.toList.isEmpty = false ∧ ∃ h : 0 < s.size, ((s[0].toNat : Int) == 34) = true := by
  rw [Lib.toList_data]
  by_cases h2 : 0 < s.size
  · have e := drop_at (s := s) (k := 0) h2
    rw [List.drop_zero] at e
    rw [e] at h ⊢
    refine ⟨rfl, h2, ?_⟩
    have h' : s[0].toNat = 34 := of_decide_eq_true h
    rw [h']; rfl
  · have e0 : s.data.toList = [] := List.eq_nil_of_length_eq_zero (by rw [size_list]; omega)
    rw [e0] at h; cases h
theorem t_true : trueS.toList = [116, 114, 117, 101] := by rw [Lib.toList_data]; rfl
theorem t_false : falseS.toList = [102, 97, 108, 115, 101] := by rw [Lib.toList_data]; rfl
theorem fit_small (a b : Int) (ha : 0 ≤ a ∧ a ≤ 3) (hb : 0 ≤ b ∧ b ≤ 3) : FitV ⟨a, b, ⟨#[]⟩⟩ := ⟨by unfold Fit; dsimp only; omega, by unfold Fit; dsimp only; omega, by rw [size_nil]; exact Nat.zero_le _⟩
theorem put3 {w w1 : World} (hB : Blk w1 w.heap.size 121 #[.int .i64 0, .int .i64 0, .string ⟨#[]⟩]) (hC : Blk w1 (w.heap.size + 1) 121 #[.int .i64 0, .int .i64 0, .string ⟨#[]⟩]) (hb : Below w.heap.size w w1) (v : Val) :
    BlkV (((w1.setCell ⟨w.heap.size + 1, 0, none⟩ (.int .i64 v.kind)).setCell ⟨w.heap.size + 1, 1, none⟩ (.int .i64 v.n)).setCell ⟨w.heap.size + 1, 2, none⟩ (.string v.s)) w.heap.size noV ∧
    BlkV (((w1.setCell ⟨w.heap.size + 1, 0, none⟩ (.int .i64 v.kind)).setCell ⟨w.heap.size + 1, 1, none⟩ (.int .i64 v.n)).setCell ⟨w.heap.size + 1, 2, none⟩ (.string v.s)) (w.heap.size + 1) v ∧
    Below w.heap.size w (((w1.setCell ⟨w.heap.size + 1, 0, none⟩ (.int .i64 v.kind)).setCell ⟨w.heap.size + 1, 1, none⟩ (.int .i64 v.n)).setCell ⟨w.heap.size + 1, 2, none⟩ (.string v.s)) :=
  ⟨((hB.far (p := ⟨w.heap.size + 1, 0, none⟩) (by simp) _).far (p := ⟨w.heap.size + 1, 1, none⟩) (by simp) _).far (p := ⟨w.heap.size + 1, 2, none⟩) (by simp) _, hC.set3 _ _ _, bset3 hb (by omega) _ _ _⟩
def ParsePost (s : ByteArray) (w : World) (e : Ending) (w' : World) : Prop := e = .returned (.tuple #[valV (parseE s).1, .int .i64 (parseE s).2]) ∧ Below w.heap.size w w'
set_option maxHeartbeats 4000000 in
theorem parse_any (s : ByteArray) (w : World) (hs : s.size ≤ 1000000) (ha : AmbP w) : Calls Tryz.prog 144 #[.string s] w (ParsePost s w) := by
  have hb0 := bone w (.cells #[.int .i64 0, .int .i64 0, .string ⟨#[]⟩] 121)
  have hb := bbox hb0 (.cells #[.int .i64 0, .int .i64 0, .string ⟨#[]⟩] 121)
  have hB := (Blk.new w 121 #[.int .i64 0, .int .i64 0, .string ⟨#[]⟩]).alloc (.cells #[.int .i64 0, .int .i64 0, .string ⟨#[]⟩] 121)
  have hC := Blk.new_at (t := 121) (cs := #[.int .i64 0, .int .i64 0, .string ⟨#[]⟩]) (w := w.alloc (.cells #[.int .i64 0, .int .i64 0, .string ⟨#[]⟩] 121)) (s := w.heap.size + 1) (by simp)
  go_enter Tryz.func144, Tryz.ntmps144
  go_upto_block 0 with fail
  generalize hw1 : (w.alloc (.cells #[.int .i64 0, .int .i64 0, .string ⟨#[]⟩] 121)).alloc (.cells #[.int .i64 0, .int .i64 0, .string ⟨#[]⟩] 121) = w1 at *
  have ha1 := ha.now hb
  clear hw1
  go_cut [] from 11 to 46 (fun wc => ∃ v : Val, FitV v ∧ parseE s = (if textE v = (s, 0) then (v, 0) else (noV, 3)) ∧ BlkV wc w.heap.size noV ∧ BlkV wc (w.heap.size + 1) v ∧ Below w.heap.size w wc)
  case first =>
    generalize q1 : (s.toList == [116, 114, 117, 101]) = r1
    obtain ⟨y0, y1, y2⟩ := hC.c3
    obtain ⟨x0, x1, x2⟩ := hB.c3
    have z0 := hC.frozen 0
    have z1 := hC.frozen 1
    have z2 := hC.frozen 2
    have k0 := hB.frozen 0
    have k1 := hB.frozen 1
    have k2 := hB.frozen 2
    cases r1
    rotate_left
    · have e1 : s = trueS := eq_of_beq' (t := trueS) (by rw [t_true]; exact q1)
      have hS := Lib.hid (put3 hB hC hb ⟨1, 1, ⟨#[]⟩⟩)
      have HP : Hid (parseE s = (if textE ⟨1, 1, ⟨#[]⟩⟩ = (s, 0) then (⟨1, 1, ⟨#[]⟩⟩, 0) else (noV, 3))) := by
        show _ = _
        rw [parse_true e1, text_true, e1, if_pos rfl]
      clear hB hC hb e1 k0 k1 k2 x0 x1 x2
      go_wp2_with fail
      go_meet
      exact ⟨⟨1, 1, ⟨#[]⟩⟩, fit_small 1 1 (by omega) (by omega), HP.out, hS.out.1, hS.out.2.1, hS.out.2.2⟩
    have n1 : s ≠ trueS := ne_of_beq (t := trueS) (by rw [t_true]; exact q1)
    generalize q2 : (s.toList == [102, 97, 108, 115, 101]) = r2
    cases r2
    rotate_left
    · have e1 : s = falseS := eq_of_beq' (t := falseS) (by rw [t_false]; exact q2)
      have hS := Lib.hid (put3 hB hC hb ⟨1, 0, ⟨#[]⟩⟩)
      have HP : Hid (parseE s = (if textE ⟨1, 0, ⟨#[]⟩⟩ = (s, 0) then (⟨1, 0, ⟨#[]⟩⟩, 0) else (noV, 3))) := by
        show _ = _
        rw [parse_false e1, text_false, e1, if_pos rfl]
      clear hB hC hb e1 n1 k0 k1 k2 x0 x1 x2
      go_wp2_with fail
      go_meet
      exact ⟨⟨1, 0, ⟨#[]⟩⟩, fit_small 1 0 (by omega) (by omega), HP.out, hS.out.1, hS.out.2.1, hS.out.2.2⟩
    have n2 : s ≠ falseS := ne_of_beq (t := falseS) (by rw [t_false]; exact q2)
    have N := Lib.hid (And.intro n1 n2)
    clear n1 n2
    generalize hh : headB s.data.toList = hd
    have HH := Lib.hid hh
    clear hh
    cases hd
    · have HS : Hid (s.toList.isEmpty = true ∨ (s.toList.isEmpty = false ∧ ∃ h : 0 < s.size, ((s[0].toNat : Int) == 34) = false)) := head_no HH.out
      have HG : ∀ Q : Prop, (s.toList.isEmpty = true → Q) → (s.toList.isEmpty = false → ∀ h : 0 < s.size, ((s[0].toNat : Int) == 34) = false → Q) → Q := fun Q a b => HS.out.elim a (fun h => h.2.elim fun h1 h2 => b h.1 h1 h2)
      clear k0 k1 k2 x0 x1 x2 y0 y1 y2 z0 z1 z2
      have HX := Lib.hid (And.intro hB (And.intro hC hb))
      clear hB hC hb
      refine HG _ (fun s3 => ?_) (fun s3 s4 s5 => ?_)
      all_goals
        clear HG HS
        try (have s4' : (0 : Int) < (s.size : Int) := by omega)
        go_wp2_with fail
        refine (atoi_call s _ hs ha1).mono ?_
        rintro e w2 ⟨hat, hb2⟩
        obtain ⟨hB, hC, hb⟩ := HX.out
        have hB2 := hB.now hb2
        have hC2 := hC.now hb2
        have hbw2 := bthen hb hb2
        clear hB hC hb
        rcases hat with ⟨n, hn, hf, rfl⟩ | ⟨hn, z, N0, rfl⟩
        · have HP := Lib.hid (parse_check_num N.out.1 N.out.2 HH.out hn)
          have hS := Lib.hid (put3 hB2 hC2 hbw2 ⟨2, n, ⟨#[]⟩⟩)
          obtain ⟨y0, y1, y2⟩ := hC2.c3
          have z0 := hC2.frozen 0
          have z1 := hC2.frozen 1
          have z2 := hC2.frozen 2
          clear hB2 hC2 hbw2 hn
          go_wp2_with fail
          go_meet
          exact ⟨⟨2, n, ⟨#[]⟩⟩, ⟨by simp [Fit], hf, by rw [size_nil]; exact Nat.zero_le _⟩, HP.out, hS.out.1, hS.out.2.1, hS.out.2.2⟩
        · have HP := Lib.hid (parse_check_none N.out.1 N.out.2 HH.out hn)
          obtain ⟨x0, x1, x2⟩ := hB2.c3
          have k0 := hB2.frozen 0
          have k1 := hB2.frozen 1
          have k2 := hB2.frozen 2
          clear hn
          go_wp2_with fail
          obtain ⟨t0, t1, t2⟩ := (hB2.set3 (.int .i64 0) (.int .i64 0) (.string ⟨#[]⟩)).c3
          refine bodyPost_ret (v := .tuple #[.agg #[.int .i64 0, .int .i64 0, .string ⟨#[]⟩], .int .i64 3]) (by simp [results, Tryz.results144, go_sem, t0, t1, t2]) rfl ?_
          exact ⟨by rw [HP.out]; rfl, bset3 hbw2 (Nat.le_refl _) _ _ _⟩
    · obtain ⟨s3, s4, s5⟩ := head_yes HH.out
      have HX := Lib.hid (And.intro hB (And.intro hC hb))
      clear hB hC hb k0 k1 k2 x0 x1 x2 y0 y1 y2 z0 z1 z2
      have s4' : (0 : Int) < (s.size : Int) := by omega
      go_wp2_with fail
      refine (unquote_any s _ (by unfold maxLen; omega)).mono ?_
      rintro e w2 ⟨rfl, hb2⟩
      obtain ⟨hB, hC, hb⟩ := HX.out
      have hB2 := hB.now hb2
      have hC2 := hC.now hb2
      have hbw2 := bthen hb hb2
      clear hB hC hb HX
      have hus := unq_size s
      generalize hu : unquoteE s = u at *
      obtain ⟨t, z⟩ := u
      dsimp only at *
      by_cases hz : z = 0
      · subst hz
        have HP := Lib.hid (parse_check_txt N.out.1 N.out.2 HH.out hu)
        have hS := Lib.hid (put3 hB2 hC2 hbw2 ⟨3, 0, t⟩)
        obtain ⟨y0, y1, y2⟩ := hC2.c3
        have z0 := hC2.frozen 0
        have z1 := hC2.frozen 1
        have z2 := hC2.frozen 2
        clear hB2 hC2 hbw2 hu
        go_wp2_with fail
        go_meet
        exact ⟨⟨3, 0, t⟩, ⟨by simp [Fit], by simp [Fit], by unfold maxLen; show t.size ≤ _; omega⟩, HP.out, hS.out.1, hS.out.2.1, hS.out.2.2⟩
      · have HP := Lib.hid (parse_check_bad N.out.1 N.out.2 HH.out (by rw [hu]; exact hz))
        have b1 : (z != 0) = true := by simpa using hz
        obtain ⟨x0, x1, x2⟩ := hB2.c3
        have k0 := hB2.frozen 0
        have k1 := hB2.frozen 1
        have k2 := hB2.frozen 2
        clear hz hu
        go_wp2_with fail
        obtain ⟨t0, t1, t2⟩ := (hB2.set3 (.int .i64 0) (.int .i64 0) (.string ⟨#[]⟩)).c3
        refine bodyPost_ret (v := .tuple #[.agg #[.int .i64 0, .int .i64 0, .string ⟨#[]⟩], .int .i64 3]) (by simp [results, Tryz.results144, go_sem, t0, t1, t2]) rfl ?_
        exact ⟨by rw [HP.out]; rfl, bset3 hbw2 (Nat.le_refl _) _ _ _⟩
  case rest =>
    obtain ⟨v, hf, hp, hB, hC, hb⟩ := hcut
    have HP := Lib.hid hp
    clear hp
    unfold BlkV at hB hC
    have ha2 := ha.now hb
    obtain ⟨y0, y1, y2⟩ := hC.c3
    go_wp2_with fail
    refine (textE_any v _ hf ha2).mono ?_
    rintro e w4 ⟨rfl, hb4⟩
    have hB4 := hB.now hb4
    have hC4 := hC.now hb4
    have hbw4 := bthen hb hb4
    clear hB hC hb y0 y1 y2
    obtain ⟨x0, x1, x2⟩ := hB4.c3
    obtain ⟨y0, y1, y2⟩ := hC4.c3
    have k0 := hB4.frozen 0
    have k1 := hB4.frozen 1
    have k2 := hB4.frozen 2
    by_cases ht : textE v = (s, 0)
    · rw [ht]
      have HE : Hid (parseE s = (v, 0)) := by show _ = _; rw [HP.out, if_pos ht]
      clear ht
      go_wp2_with fail
      obtain ⟨t0, t1, t2⟩ := (hB4.set3 (.int .i64 v.kind) (.int .i64 v.n) (.string v.s)).c3
      refine bodyPost_ret (v := .tuple #[.agg #[.int .i64 v.kind, .int .i64 v.n, .string v.s], .int .i64 0]) (by simp [results, Tryz.results144, go_sem, t0, t1, t2]) rfl ?_
      exact ⟨by rw [HE.out]; rfl, bset3 hbw4 (Nat.le_refl _) _ _ _⟩
    · have HE : Hid (parseE s = (noV, 3)) := by show _ = _; rw [HP.out, if_neg ht]
      have hc := text_check ht
      generalize textE v = u at *
      obtain ⟨t, z⟩ := u
      dsimp only at *
      have HG : ∀ Q : Prop, ((z != 0) = true → Q) → ((z != 0) = false → (t.toList == s.toList) = false → Q) → Q := by
        intro Q a b
        by_cases hz : z = 0
        · refine b (by simpa using hz) ?_
          rcases hc with hc | hc
          · exact absurd hz hc
          · cases hq : (t.toList == s.toList)
            · rfl
            · exact absurd (eq_of_beq' hq) hc
        · exact a (by simpa using hz)
      clear hc ht
      refine HG _ (fun b1 => ?_) (fun b1 b2 => ?_)
      all_goals
        clear HG
        go_wp2_with fail
        obtain ⟨t0, t1, t2⟩ := (hB4.set3 (.int .i64 0) (.int .i64 0) (.string ⟨#[]⟩)).c3
        refine bodyPost_ret (v := .tuple #[.agg #[.int .i64 0, .int .i64 0, .string ⟨#[]⟩], .int .i64 3]) (by simp [results, Tryz.results144, go_sem, t0, t1, t2]) rfl ?_
        exact ⟨by rw [HE.out]; rfl, bset3 hbw4 (Nat.le_refl _) _ _ _⟩
end Go.Proofs.YtoalecalahkblaaGreatDoor

set_option linter.all false
namespace Go.Proofs.YtoalecalahkblaaGreatDoor
open Go.RowKit
def txtV (s : ByteArray) : Val := ⟨3, 0, s⟩
def datE (s : ByteArray) (k : Int) : Val × Int :=
  if k = 3 then (if validV (txtV s) then (txtV s, 0) else (noV, 11))
  else if (parseE s).2 ≠ 0 ∨ (parseE s).1.kind ≠ k then (noV, 11) else ((parseE s).1, 0)
def RetVE (p : Val × Int) (w : World) (e : Ending) (w' : World) : Prop := e = .returned (.tuple #[valV p.1, .int .i64 p.2]) ∧ Below w.heap.size w w'
set_option maxHeartbeats 4000000 in
theorem datum_any (s : ByteArray) (k : Int) (w : World) (hs : s.size ≤ 1000000) (hk : Fit k) (ha : AmbP w) :
    Calls Tryz.prog 100 #[.string s, .int .i64 k] w (RetVE (datE s k) w) := by
  have HAM := Lib.hid ha
  have HSZ := Lib.hid hs
  have hb1 := bone w (.cells #[.int .i64 0, .int .i64 0, .string ⟨#[]⟩] 121)
  have hB1 := Blk.new w 121 #[.int .i64 0, .int .i64 0, .string ⟨#[]⟩]
  have hs1 : (w.alloc (.cells #[.int .i64 0, .int .i64 0, .string ⟨#[]⟩] 121)).heap.size = w.heap.size + 1 := by simp
  obtain ⟨w1, hw1⟩ : ∃ w1, w.alloc (.cells #[.int .i64 0, .int .i64 0, .string ⟨#[]⟩] 121) = w1 := ⟨_, rfl⟩
  rw [hw1] at hb1 hB1 hs1
  have HW := Lib.hid hw1
  have HB1 := Lib.hid hB1
  have HBW := Lib.hid hb1
  have HS1 := Lib.hid hs1
  clear hw1 hB1 hb1 hs1 ha hs hk
  -- what is stored at the end
  have HST : Hid (∀ (W : World) (v : Val) (e : Int), Below w1.heap.size w1 W → ∃ t0 t1 t2, True) := fun _ _ _ _ => ⟨0, 0, 0, trivial⟩
  clear HST
  go_enter Tryz.func100, Tryz.ntmps100
  go_upto_region 1 with fail
  rw [HW.out]
  clear HW
  by_cases h3 : k = 3
  · subst h3
    have HE : Hid (datE s 3 = if validV (txtV s) then (txtV s, 0) else (noV, 11)) := if_pos rfl
    have HF : Hid (FitV (txtV s)) := ⟨by simp [txtV, Fit], by simp [txtV, Fit], by have := HSZ.out; show s.size ≤ maxLen; unfold maxLen; omega⟩
    have HV := Lib.hid (fun W => validV_any (txtV s) W HF.out)
    have HB2 := Lib.hid (bone w1 (.cells #[.int .i64 3, .int .i64 0, .string s] 121))
    have HN2 := Lib.hid (Blk.new w1 121 #[.int .i64 3, .int .i64 0, .string s])
    obtain ⟨w2, hw2⟩ : ∃ w2, w1.alloc (.cells #[.int .i64 3, .int .i64 0, .string s] 121) = w2 := ⟨_, rfl⟩
    rw [hw2] at HB2 HN2
    have HW2 := Lib.hid hw2
    clear hw2
    obtain ⟨b1, hb1⟩ : ∃ b1, w1.heap.size = b1 := ⟨_, rfl⟩
    have HQ := Lib.hid hb1
    rw [hb1] at HN2
    clear hb1
    obtain ⟨q, hq⟩ : ∃ q, validV (txtV s) = q := ⟨_, rfl⟩
    have HV2 := HV.out
    unfold valV txtV at HV2
    rw [show validV ⟨3, 0, s⟩ = q from hq] at HV2
    have HV3 := Lib.hid HV2
    rw [hq] at HE
    clear hq HV HV2
    go_upto_region 3 with fail
    rw [HW2.out, HQ.out]
    clear HW2 HQ
    obtain ⟨y0, y1, y2⟩ := HN2.out.c3
    go_wp2_with fail
    (with_reducible refine (HV3.out _).mono ?_)
    rintro e w3 ⟨rfl, hb3⟩
    have HR3 := Lib.hid ((HB1.out.now HB2.out).now hb3)
    have HN3 := Lib.hid (HN2.out.now hb3)
    have HBW3 := Lib.hid (bthen (bthen HBW.out HB2.out) hb3)
    clear y0 y1 y2 HV3 hb3 HB1 HN2 HBW
    obtain ⟨x0, x1, x2⟩ := HR3.out.c3
    obtain ⟨y0, y1, y2⟩ := HN3.out.c3
    have k0 := HR3.out.frozen 0
    have k1 := HR3.out.frozen 1
    have k2 := HR3.out.frozen 2
    cases q
    · go_wp2_with fail
      obtain ⟨t0, t1, t2⟩ := (HR3.out.set3 (.int .i64 0) (.int .i64 0) (.string ⟨#[]⟩)).c3
      refine bodyPost_ret (v := .tuple #[.agg #[.int .i64 0, .int .i64 0, .string ⟨#[]⟩], .int .i64 11]) (by simp [results, Tryz.results100, go_sem, t0, t1, t2]) rfl ?_
      show RetVE _ _ _ _
      rw [HE.out]
      exact ⟨rfl, bset3 HBW3.out (Nat.le_refl _) _ _ _⟩
    · go_wp2_with fail
      obtain ⟨t0, t1, t2⟩ := (HR3.out.set3 (.int .i64 3) (.int .i64 0) (.string s)).c3
      refine bodyPost_ret (v := .tuple #[.agg #[.int .i64 3, .int .i64 0, .string s], .int .i64 0]) (by simp [results, Tryz.results100, go_sem, t0, t1, t2]) rfl ?_
      show RetVE _ _ _ _
      rw [HE.out]
      exact ⟨rfl, bset3 HBW3.out (Nat.le_refl _) _ _ _⟩
  have HE : Hid (datE s k = if (parseE s).2 ≠ 0 ∨ (parseE s).1.kind ≠ k then (noV, 11) else ((parseE s).1, 0)) := if_neg h3
  have HP := Lib.hid (parse_any s w1 HSZ.out (HAM.out.now HBW.out))
  unfold ParsePost at HP
  generalize parseE s = p at *
  obtain ⟨v, z⟩ := p
  dsimp only at *
  unfold valV at HP
  have h3' : (k == 3) = false := beq_false_of_ne h3
  clear h3
  go_wp2_with fail
  (with_reducible refine HP.out.mono ?_)
  rintro e w2 ⟨rfl, hb2⟩
  have HR2 := Lib.hid (HB1.out.now hb2)
  have HBW2 := Lib.hid (bthen HBW.out hb2)
  clear HP HB1 HBW hb2
  have HB3 := Lib.hid (bone w2 (.cells #[.int .i64 v.kind, .int .i64 v.n, .string v.s] 121))
  have HN3 := Lib.hid (Blk.new w2 121 #[.int .i64 v.kind, .int .i64 v.n, .string v.s])
  obtain ⟨w3, hw3⟩ : ∃ w3, w2.alloc (.cells #[.int .i64 v.kind, .int .i64 v.n, .string v.s] 121) = w3 := ⟨_, rfl⟩
  rw [hw3] at HB3 HN3
  have HW3 := Lib.hid hw3
  clear hw3
  obtain ⟨b1, hb1⟩ : ∃ b1, w2.heap.size = b1 := ⟨_, rfl⟩
  have HQ := Lib.hid hb1
  clear hb1
  rw [HQ.out] at HN3
  go_upto_region 7 with fail
  rw [HW3.out, HQ.out]
  clear HW3 HQ
  have HR3 := Lib.hid (HR2.out.now HB3.out)
  have HBW3 := Lib.hid (bthen HBW2.out HB3.out)
  clear HR2 HBW2 HB3
  obtain ⟨x0, x1, x2⟩ := HR3.out.c3
  obtain ⟨y0, y1, y2⟩ := HN3.out.c3
  have k0 := HR3.out.frozen 0
  have k1 := HR3.out.frozen 1
  have k2 := HR3.out.frozen 2
  by_cases hz : z = 0
  · by_cases hk : v.kind = k
    · have HF : Hid (datE s k = (v, 0)) := by show _ = _; rw [HE.out, if_neg (by simp [hz, hk])]
      have z1 : (z != 0) = false := by rw [hz]; rfl
      have z2 : (v.kind != k) = false := by rw [hk]; simp
      clear hz hk HE
      go_wp2_with fail
      obtain ⟨t0, t1, t2⟩ := (HR3.out.set3 (.int .i64 v.kind) (.int .i64 v.n) (.string v.s)).c3
      refine bodyPost_ret (v := .tuple #[.agg #[.int .i64 v.kind, .int .i64 v.n, .string v.s], .int .i64 0]) (by simp [results, Tryz.results100, go_sem, t0, t1, t2]) rfl ?_
      show RetVE _ _ _ _
      rw [HF.out]
      exact ⟨rfl, bset3 HBW3.out (Nat.le_refl _) _ _ _⟩
    · have HF : Hid (datE s k = (noV, 11)) := by show _ = _; rw [HE.out, if_pos (.inr hk)]
      have z1 : (z != 0) = false := by rw [hz]; rfl
      have z2 : (v.kind != k) = true := by simpa using hk
      clear hz hk HE
      go_wp2_with fail
      obtain ⟨t0, t1, t2⟩ := (HR3.out.set3 (.int .i64 0) (.int .i64 0) (.string ⟨#[]⟩)).c3
      refine bodyPost_ret (v := .tuple #[.agg #[.int .i64 0, .int .i64 0, .string ⟨#[]⟩], .int .i64 11]) (by simp [results, Tryz.results100, go_sem, t0, t1, t2]) rfl ?_
      show RetVE _ _ _ _
      rw [HF.out]
      exact ⟨rfl, bset3 HBW3.out (Nat.le_refl _) _ _ _⟩
  · have HF : Hid (datE s k = (noV, 11)) := by show _ = _; rw [HE.out, if_pos (.inl hz)]
    have z1 : (z != 0) = true := by simpa using hz
    clear hz HE
    go_wp2_with fail
    obtain ⟨t0, t1, t2⟩ := (HR3.out.set3 (.int .i64 0) (.int .i64 0) (.string ⟨#[]⟩)).c3
    refine bodyPost_ret (v := .tuple #[.agg #[.int .i64 0, .int .i64 0, .string ⟨#[]⟩], .int .i64 11]) (by simp [results, Tryz.results100, go_sem, t0, t1, t2]) rfl ?_
    show RetVE _ _ _ _
    rw [HF.out]
    exact ⟨rfl, bset3 HBW3.out (Nat.le_refl _) _ _ _⟩
end Go.Proofs.YtoalecalahkblaaGreatDoor

set_option linter.all false
namespace Go.Proofs.YtoalecalahkblaaGreatDoor
open Go.RowKit
def cmpS (x y : ByteArray) : Int := if x.data.toList < y.data.toList then -1 else if y.data.toList < x.data.toList then 1 else 0
theorem isNaN_str (x : ByteArray) (w : World) : Calls Tryz.prog 147 #[.string x] w fun e w' => e = .returned (.bool false) ∧ w' = w := by
  go_enter Tryz.func147, Tryz.ntmps147
  go_wp2_with fail
  go_ret
  exact ⟨by simp, rfl⟩
theorem compare_str (x y : ByteArray) (w : World) : Calls Tryz.prog 103 #[.string x, .string y] w fun e w' => e = .returned (.int .i64 (cmpS x y)) ∧ w' = w := by
  have HX := Lib.hid (isNaN_str x)
  have HY := Lib.hid (isNaN_str y)
  have HC : Hid (cmpS x y = if x.data.toList < y.data.toList then -1 else if y.data.toList < x.data.toList then 1 else 0) := Lib.hid rfl
  have h1 := less_at x y
  have h2 := less_at y x
  by_cases hl : x.data.toList < y.data.toList
  · rw [decide_eq_true hl] at h1
    have HE : Hid (cmpS x y = -1) := Lib.hid (by rw [HC.out, if_pos hl])
    clear hl h2
    go_enter Tryz.func103, Tryz.ntmps103
    go_wp2_with (first | (go_at_call 147; (with_reducible first | refine (HX.out _).mono ?_ | refine (HY.out _).mono ?_); rintro e w' ⟨rfl, rfl⟩))
    go_ret
    exact ⟨by rw [HE.out]; rfl, rfl⟩
  · rw [decide_eq_false hl] at h1
    by_cases hg : y.data.toList < x.data.toList
    · rw [decide_eq_true hg] at h2
      have HE : Hid (cmpS x y = 1) := Lib.hid (by rw [HC.out, if_neg hl, if_pos hg])
      have hne : (x.toList == y.toList) = false := by
        rw [Lib.toList_data, Lib.toList_data, beq_eq_false_iff_ne]
        intro e; rw [e] at hg; exact List.lt_irrefl _ hg
      clear hl hg
      go_enter Tryz.func103, Tryz.ntmps103
      go_wp2_with (first | (go_at_call 147; (with_reducible first | refine (HX.out _).mono ?_ | refine (HY.out _).mono ?_); rintro e w' ⟨rfl, rfl⟩))
      go_ret
      exact ⟨by rw [HE.out]; rfl, rfl⟩
    · rw [decide_eq_false hg] at h2
      have HE : Hid (cmpS x y = 0) := Lib.hid (by rw [HC.out, if_neg hl, if_neg hg])
      have hne : (x.toList == y.toList) = true := by
        rw [Lib.toList_data, Lib.toList_data, beq_iff_eq]
        exact List.le_antisymm (List.not_lt.1 hg) (List.not_lt.1 hl)
      clear hl hg
      go_enter Tryz.func103, Tryz.ntmps103
      go_wp2_with (first | (go_at_call 147; (with_reducible first | refine (HX.out _).mono ?_ | refine (HY.out _).mono ?_); rintro e w' ⟨rfl, rfl⟩))
      go_ret
      exact ⟨by rw [HE.out]; rfl, rfl⟩
def nlt (x y : Fld) : Bool := decide (nmOf x < nmOf y)
theorem swo_nlt : Go.Sort.SWO nlt := by
  refine ⟨fun x => ?_, fun x y z => ?_, fun x y z => ?_⟩ <;> unfold nlt
  · exact decide_eq_false (List.lt_irrefl _)
  · simp only [decide_eq_true_eq]; exact fun h1 h2 => List.lt_trans h1 h2
  · simp only [decide_eq_false_iff_not, List.not_lt]; exact fun h1 h2 => List.le_trans h2 h1
theorem ltOf_nm : (Go.Proofs.ltOf fun x y : Fld => cmpS x.nm y.nm) = nlt := by
  funext x y
  unfold nlt
  show decide ((if nmOf x < nmOf y then (-1 : Int) else if nmOf y < nmOf x then 1 else 0) < 0) = _
  by_cases h : nmOf x < nmOf y
  · rw [if_pos h, decide_eq_true h]; rfl
  · rw [if_neg h, decide_eq_false h]
    by_cases h2 : nmOf y < nmOf x
    · rw [if_pos h2]; rfl
    · rw [if_neg h2]; rfl
theorem nlt_unique {l m : List Fld} (h : l.Perm m) (hn : (l.map nmOf).Nodup) (h1 : AscM nlt l) (h2 : AscM nlt m) : l = m := by
  have key : ∀ {k : List Fld}, (k.map nmOf).Nodup → AscM nlt k → k.Pairwise fun x y => nmOf x < nmOf y := fun {k} hd ha => by
    have hd := List.pairwise_map.1 hd
    refine List.Pairwise.imp₂ (fun x y (h1 : nmOf x ≠ nmOf y) (h2 : nlt y x = false) => ?_) hd ha
    have h3 : nmOf x ≤ nmOf y := List.not_lt.1 (of_decide_eq_false h2)
    rcases Classical.em (nmOf x < nmOf y) with h | h
    · exact h
    · exact absurd (List.le_antisymm h3 (List.not_lt.1 h)) h1
  exact List.Perm.eq_of_pairwise (fun a b _ _ e1 e2 => absurd (List.lt_trans e1 e2) (List.lt_irrefl _)) (key hn h1) (key ((h.map _).nodup_iff.1 hn) h2) h
def fldC (f : Fld) : List Value := [.string f.nm, .int .i64 f.v.kind, .int .i64 f.v.n, .string f.v.s]
theorem fldC_one (f : Fld) : ∀ v ∈ fldC f, v.oneCell' = true := fun v hv => by
  simp [fldC] at hv
  rcases hv with rfl | rfl | rfl | rfl <;> rfl
def OwnFl (w : World) (base : Nat) (v : Value) (L : List Fld) : Prop := OwnW 4 fldC w base 123 v L
theorem fldCmp_any (x y : Fld) (W : World) :
    Calls Tryz.prog 102 #[.agg (fldC x).toArray, .agg (fldC y).toArray] W fun e w' => e = .returned (.int .i64 (cmpS x.nm y.nm)) ∧ ∃ q os', w' = Go.Sort.grow (W.drewN q) os' := by
  have hb1 := bone W (.cells (fldC x).toArray 123)
  have hb2 := bone (W.alloc (.cells (fldC x).toArray 123)) (.cells (fldC y).toArray 123)
  unfold fldC at hb1 hb2 ⊢
  have HX := Lib.hid ((Blk.new W 123 #[.string x.nm, .int .i64 x.v.kind, .int .i64 x.v.n, .string x.v.s]).now hb2)
  have HY := Lib.hid (Blk.new (W.alloc (.cells #[.string x.nm, .int .i64 x.v.kind, .int .i64 x.v.n, .string x.v.s] 123)) 123 #[.string y.nm, .int .i64 y.v.kind, .int .i64 y.v.n, .string y.v.s])
  have hsz1 : (W.alloc (.cells #[.string x.nm, .int .i64 x.v.kind, .int .i64 x.v.n, .string x.v.s] 123)).heap.size = W.heap.size + 1 := by simp
  rw [hsz1] at HY
  have HG : Hid (∃ q os', (W.alloc (.cells #[.string x.nm, .int .i64 x.v.kind, .int .i64 x.v.n, .string x.v.s] 123)).alloc (.cells #[.string y.nm, .int .i64 y.v.kind, .int .i64 y.v.n, .string y.v.s] 123) = Go.Sort.grow (W.drewN q) os') := Lib.hid ⟨0, _, by rw [Go.Sort.alloc_eq_grow, Go.Sort.alloc_eq_grow, Go.Sort.grow_grow]; rfl⟩
  have HC := Lib.hid (compare_str x.nm y.nm)
  clear hb1 hb2 hsz1
  go_enter Tryz.func102, Tryz.ntmps102
  go_upto_region 1 with fail
  obtain ⟨w2, hw2⟩ : ∃ w2, (W.alloc (.cells #[.string x.nm, .int .i64 x.v.kind, .int .i64 x.v.n, .string x.v.s] 123)).alloc (.cells #[.string y.nm, .int .i64 y.v.kind, .int .i64 y.v.n, .string y.v.s] 123) = w2 := ⟨_, rfl⟩
  rw [hw2] at HX HY HG ⊢
  clear hw2
  obtain ⟨a0, a1, a2, a3⟩ := HX.out.c4
  obtain ⟨b0, b1, b2, b3⟩ := HY.out.c4
  go_wp2_with fail
  (with_reducible refine (HC.out _).mono ?_)
  rintro e w' ⟨rfl, rfl⟩
  go_wp2_with fail
  go_ret
  exact ⟨rfl, HG.out⟩
theorem enters_fldCmp : ∀ args w, (callFunc 102 args).run Tryz.prog w = .ok (.enter 102 args) w := enters_of Tryz.func102 (by kernel_rfl) rfl
theorem OwnFl.open_ {base : Nat} {w : World} {v : Value} {l : List Fld} (h : OwnFl w base v l) : ∃ A c, v = .slice A l.length c := by
  rcases h.2 with ⟨rfl, h0⟩ | ⟨g, cap, cur, rfl, _⟩
  · exact ⟨none, 0, by rw [h0]⟩
  · exact ⟨_, _, rfl⟩
theorem sortFl_any {w : World} {base : Nat} {v : Value} {L : List Fld} (ho : OwnFl w base v L) (hn : (L.map nmOf).Nodup) (hl : L.length ≤ 1000000) :
    Calls Tryz.prog 101 #[v, .func (.func 102) #[] #[]] w fun e w' => e = .returned (.tuple #[]) ∧ OwnFl w' base v (sortS nlt L) ∧ w.grownBy w' v.ownBlock := by
  rcases Nat.eq_zero_or_pos L.length with h0 | h0
  · have hx : L = [] := List.eq_nil_of_length_eq_zero h0
    subst hx
    obtain ⟨A, c, rfl⟩ := ho.open_
    have h := Go.Proofs.AnyF.slices_SortFunc_none Tryz.sortE A c (.func (.func 102) #[] #[]) w
    refine Calls.mono (show Calls Tryz.prog 101 _ _ _ from h) fun e w' ⟨he, hw⟩ => ⟨he, ?_, ?_⟩
    · rw [hw]; exact ho
    · rw [hw]; exact World.grownBy.refl w _
  · rcases ho.2 with ⟨_, h1⟩ | ⟨g, cap, cur, rfl, hb, hg, hc1, hc2, hc3, htk⟩
    · omega
    have hgl : g < w.heap.size := (Array.getElem?_eq_some_iff.1 hg).1
    haveI : Inhabited Fld := ⟨L[0]'h0⟩
    have hF : (Go.Sort.flatK fldC 4 L.toArray).toList = flat fldC L := by
      have := flatK_eq (k := 4) fldC fldC (fun x : Fld => x) (fun _ => rfl) (fun _ => rfl) L.toArray
      rw [this, List.map_id']
    have hfl : (flat fldC L).length = L.length * 4 := flat_len (size := 4) (fun _ => rfl) L
    have hH : Go.Sort.HoldsK fldC 4 w g 0 L.toArray := by
      intro j hj
      have hjs : j < L.length * 4 := by rw [← hfl, ← hF, Array.length_toList]; exact hj
      refine ⟨?_, by simp [World.frozen?, hg]⟩
      have h1 : (cur.toList.take (L.length * 4))[j]? = (flat fldC L)[j]? := by rw [htk]
      rw [List.getElem?_take_of_lt (by omega), ← hF] at h1
      simp only [World.cell?, hg, Nat.zero_add, Option.isSome_none, Bool.false_eq_true, if_false]
      rw [← Array.getElem?_toList, h1, Array.getElem?_toList, Array.getElem?_eq_getElem hj, getElem!_pos _ j hj]; rfl
    have hcmp : Go.Proofs.CmpLays Tryz.prog 102 #[] fldC 4 (fun x y : Fld => cmpS x.nm y.nm) g 0 L.toArray.size w := fun m os dk hdk x y => fldCmp_any x y _
    have h := Go.Proofs.AnyQ.slices_SortFunc Tryz.sortE 4 Tryz.isAgg123 Tryz.sizeOf123 fldC (fun _ => rfl) (fun x => fldC_one x) (fun x y : Fld => cmpS x.nm y.nm) (by rw [ltOf_nm]; exact swo_nlt) 102 #[] g 0 cap L.toArray w enters_fldCmp hcmp hH hgl (by show L.length < _; omega)
    have hsz : L.toArray.size = L.length := rfl
    rw [ltOf_nm, hsz] at h
    refine Calls.mono (show Calls Tryz.prog 101 #[.slice (some ⟨g, 0, none⟩) L.length cap, .func (.func 102) #[] #[]] w _ from h) fun e w' ⟨he, d', n, os, hp, hs, hw⟩ => ?_
    have hd' : d'.size = L.length := hp.1
    have hperm : d'.toList.Perm L := by
      obtain ⟨h1, _, h3⟩ := hp
      have e1 : (d'.extract 0 L.length) = d' := by rw [← hd']; exact Array.extract_size
      have e2 : (L.toArray.extract 0 L.length) = L.toArray := Array.extract_size
      rw [e1, e2] at h3
      have h4 := h3
      simpa using h4
    have hasc : AscM nlt d'.toList := by
      refine List.pairwise_iff_getElem.2 fun i j hi hj hij => ?_
      have hi' : i < d'.size := by simpa using hi
      have hj' : j < d'.size := by simpa using hj
      have h5 := hs i j (Nat.zero_le _) hij (by omega)
      rw [getElem!_pos d' i hi', getElem!_pos d' j hj'] at h5
      exact h5
    have hS : d'.toList = sortS nlt L := nlt_unique (hperm.trans (perm_sortS (lt := nlt) L).symm) ((hperm.map nmOf).nodup_iff.2 hn) hasc (asc_sortS swo_nlt L)
    have hgr : w.grownBy w' (some g) := by rw [hw]; exact grown_sorted fldC 4 w g n d' os
    refine ⟨he, ?_, hgr⟩
    rw [← hS]
    have hdl : d'.toList.length = L.length := Array.length_toList.trans hd'
    refine ⟨by rw [flat_len (size := 4) (fun _ => rfl)], .inr ⟨g, cap, _, by rw [hdl], hb, by rw [hw]; exact heap_sortedK fldC 4 w g n d' os hg, by rw [hdl]; exact hc1, hc2, by simp [Go.Sort.putCells, hc3], ?_⟩⟩
    have e1 : d'.toList.length * 4 = (Go.Sort.flatK fldC 4 d').size := by rw [Array.length_toList, Go.Sort.size_flatK]
    have e2 := flatK_eq (k := 4) fldC fldC (fun x : Fld => x) (fun _ => rfl) (fun _ => rfl) d'
    rw [List.map_id'] at e2
    rw [e1, take_put cur _ (by rw [Go.Sort.size_flatK, hc3, hd']; omega), e2]
end Go.Proofs.YtoalecalahkblaaGreatDoor

set_option linter.all false
namespace Go.Proofs.YtoalecalahkblaaGreatDoor
open Go.RowKit
def cellAt (r : List Bt) (k : Int) : Bt := r.getD k.toNat []
def headD (r : List Bt) : List Int → List Int → (Int × Int) × Int
  | _, [] => ((0, 0), 0)
  | seen, k :: ks =>
    if (r.length : Int) ≤ k then ((1, k + 1), 10)
    else if isNameB (bsOf (cellAt r k)) = false then ((1, k + 1), 8)
    else if (seen.any fun j => decide (cellAt r j = cellAt r k)) = true then ((1, k + 1), 9)
    else headD r (seen ++ [k]) ks
def headE (r : List Bt) (m : Mp) : (Int × Int) × Int :=
  match (fieldsB m).find? (fun k => decide ((r.length : Int) ≤ k)) with
  | some k => ((1, k + 1), 10)
  | none => headD r [] m.data
def RetPC (p : (Int × Int) × Int) (w : World) (e : Ending) (w' : World) : Prop := e = .returned (.tuple #[.agg #[.int .i64 p.1.1, .int .i64 p.1.2], .int .i64 p.2]) ∧ Below w.heap.size w w'
theorem cellAt_of {r : List Bt} {d : Nat} {s : Bt} (h : r[d]? = some s) : cellAt r (d : Int) = s := by
  unfold cellAt
  rw [Int.toNat_natCast, List.getD_eq_getElem?_getD, h]; rfl
theorem twice_any (r : List Bt) (Ar : Option Addr) (cr p1 p2 : Nat) (j k : Nat) (w : World) (hr : SlP (Lt w.heap.size) w (.slice Ar r.length cr) r) (h1 : w.cell? ⟨p1, 0, none⟩ = some (.slice Ar r.length cr)) (h2 : w.cell? ⟨p2, 0, none⟩ = some (.int .i64 (k : Int))) (hj : j < r.length) (hk : k < r.length) :
    Calls Tryz.prog 96 #[.int .i64 (j : Int), .pointer (some ⟨p1, 0, none⟩), .pointer (some ⟨p2, 0, none⟩)] w fun e w' => e = .returned (.bool (decide (cellAt r (j : Int) = cellAt r (k : Int)))) ∧ Below w.heap.size w w' := by
  obtain ⟨b, o, x, hA, hD, hx, _, hc⟩ := hr.at_ hj
  obtain ⟨b', o', y, hA', hD', hy, _, hc'⟩ := hr.at_ hk
  rw [hA] at hA'
  injection hA' with hA'
  injection hA' with e1 e2
  subst e1 e2 hA
  rw [cellAt_of hx, cellAt_of hy]
  have j0 : (0 : Int) ≤ (j : Int) := by omega
  have j1 : (j : Int) < (r.length : Int) := by omega
  have k0 : (0 : Int) ≤ (k : Int) := by omega
  have k1 : (k : Int) < (r.length : Int) := by omega
  have HE : Hid (((bsOf x).toList == (bsOf y).toList) = decide (x = y)) := by
    show _ = _
    rw [Lib.toList_data, Lib.toList_data]
    show (x == y) = decide (x = y)
    rw [Bool.eq_iff_iff]
    simp
  have heq : ((bsOf x).toList == (bsOf y).toList) = decide (x = y) := HE.out
  obtain ⟨q, hq⟩ : ∃ q, decide (x = y) = q := ⟨_, rfl⟩
  rw [hq] at heq ⊢
  clear hr hx hy hD hD' hq HE
  go_enter Tryz.func96, Tryz.ntmps96
  go_wp2_with fail
  go_quiet (fail)
  go_wp2_with fail
  go_ret
  exact ⟨rfl, bdrawn (Below.refl _ _) _⟩
theorem enters_twice : ∀ args w, (callFunc 96 args).run Tryz.prog w = .ok (.enter 96 args) w := enters_of Tryz.func96 (by kernel_rfl) rfl
theorem find_next {p : Int → Bool} {fs : List Int} {k : Nat} {x : Int} (h : ∀ y ∈ fs.take k, p y = false) (hx : fs[k]? = some x) (hp : p x = true) : fs.find? p = some x := by
  rw [← List.take_append_drop k fs, List.find?_append, List.find?_eq_none.2 (fun y hy => by rw [h y hy]; decide), drop_cons hx]
  simp [hp]
theorem find_none {p : Int → Bool} {fs : List Int} (h : ∀ y ∈ fs, p y = false) : fs.find? p = none := List.find?_eq_none.2 fun y hy => by rw [h y hy]; decide
theorem take_snocI {α : Type} {L : List α} {j : Nat} {x : α} (h : L[j]? = some x) : L.take (j + 1) = L.take j ++ [x] := by
  rw [List.take_add_one, h]; rfl
theorem all_stepF {α : Type} {p : α → Bool} {xs : List α} {i : Nat} {x : α} (h : ∀ y ∈ xs.take i, p y = false) (hx : xs[i]? = some x) (hp : p x = false) : ∀ y ∈ xs.take (i + 1), p y = false := by
  intro y hy
  rw [List.take_add_one, hx] at hy
  rcases List.mem_append.1 hy with hy | hy
  · exact h y hy
  · simp at hy; rw [hy]; exact hp
set_option maxHeartbeats 8000000 in
set_option maxRecDepth 100000 in
theorem header_any (r : List Bt) (rv u : Value) (m : Mp) (w : World) (hr : SlP (Lt w.heap.size) w rv r) (h : IsMp (Lt w.heap.size) w u m) (hok : MpOk m) :
    Calls Tryz.prog 53 #[rv, u] w (RetPC (headE r m) w) := by
  obtain ⟨Ar, cr, rfl, _, _, hr⟩ := hr.open_
  have HF := Lib.hid (fun W hW => fields_any u m W hW)
  have HM := Lib.hid h
  have HOK := Lib.hid hok
  have HRR := Lib.hid hr
  obtain ⟨dv, kv, rfl, hfm, hd, hk⟩ := h
  obtain ⟨Ad, cd, rfl, _, _, hd⟩ := hd.open_
  obtain ⟨Ak, ck, rfl, _, _, hk⟩ := hk.open_
  have HMD := Lib.hid hd
  obtain ⟨z, hz⟩ : ∃ z, (m.sep.toNat : Int) = z := ⟨_, rfl⟩
  unfold mpV at HM HF ⊢
  rw [hz] at HM HF ⊢
  have HFS := Lib.hid (fun k (hk : k ∈ fieldsB m) => (colsX_ok hok k (List.mem_append_left _ hk)))
  have HE : Hid (headE r m = match (fieldsB m).find? (fun k => decide ((r.length : Int) ≤ k)) with | some k => ((1, k + 1), 10) | none => headD r [] m.data) := rfl
  obtain ⟨p, hp⟩ : ∃ p, headE r m = p := ⟨_, rfl⟩
  rw [hp] at HE ⊢
  have hml : m.data.length ≤ 8 := hok.len
  clear hfm hd hk hz hr hok hp
  have hb1 := bone w (.cells #[.slice Ar r.length cr] 51)
  have hB1 := Blk.new w 51 #[.slice Ar r.length cr]
  have hs1 : (w.alloc (.cells #[.slice Ar r.length cr] 51)).heap.size = w.heap.size + 1 := by simp
  obtain ⟨w1, hw1⟩ : ∃ w1, w.alloc (.cells #[.slice Ar r.length cr] 51) = w1 := ⟨_, rfl⟩
  rw [hw1] at hb1 hB1 hs1
  have hb2 := bone w1 (.cells #[.int .i64 m.cas, .int .i64 m.act, .int .i64 m.res, .int .i64 m.life, .int .i64 m.time, .slice Ad m.data.length cd, .slice Ak m.kinds.length ck, .int .u8 z] 33)
  have hB2 := Blk.new w1 33 #[.int .i64 m.cas, .int .i64 m.act, .int .i64 m.res, .int .i64 m.life, .int .i64 m.time, .slice Ad m.data.length cd, .slice Ak m.kinds.length ck, .int .u8 z]
  have hs2 : (w1.alloc (.cells #[.int .i64 m.cas, .int .i64 m.act, .int .i64 m.res, .int .i64 m.life, .int .i64 m.time, .slice Ad m.data.length cd, .slice Ak m.kinds.length ck, .int .u8 z] 33)).heap.size = w.heap.size + 2 := by simp [hs1]
  rw [hs1] at hB2
  obtain ⟨w2, hw2⟩ : ∃ w2, w1.alloc (.cells #[.int .i64 m.cas, .int .i64 m.act, .int .i64 m.res, .int .i64 m.life, .int .i64 m.time, .slice Ad m.data.length cd, .slice Ak m.kinds.length ck, .int .u8 z] 33) = w2 := ⟨_, rfl⟩
  rw [hw2] at hb2 hB2 hs2
  have hb3 := bone w2 (.cells #[.int .i64 0, .int .i64 0] 40)
  have hB3 := Blk.new w2 40 #[.int .i64 0, .int .i64 0]
  rw [hs2] at hB3
  obtain ⟨w3, hw3⟩ : ∃ w3, w2.alloc (.cells #[.int .i64 0, .int .i64 0] 40) = w3 := ⟨_, rfl⟩
  have HB3 : Hid (Below w.heap.size w w3) := by rw [← hw3]; exact bthen (bthen hb1 hb2) hb3
  have HR3 : Hid (Blk w3 w.heap.size 51 #[.slice Ar r.length cr]) := by rw [← hw3]; exact (hB1.now hb2).now hb3
  have HM3 : Hid (Blk w3 (w.heap.size + 1) 33 #[.int .i64 m.cas, .int .i64 m.act, .int .i64 m.res, .int .i64 m.life, .int .i64 m.time, .slice Ad m.data.length cd, .slice Ak m.kinds.length ck, .int .u8 z]) := by rw [← hw3]; exact hB2.now hb3
  have HP3 : Hid (Blk w3 (w.heap.size + 2) 40 #[.int .i64 0, .int .i64 0]) := by rw [← hw3]; exact hB3
  have HW : Hid (((w.alloc (.cells #[.slice Ar r.length cr] 51)).alloc (.cells #[.int .i64 m.cas, .int .i64 m.act, .int .i64 m.res, .int .i64 m.life, .int .i64 m.time, .slice Ad m.data.length cd, .slice Ak m.kinds.length ck, .int .u8 z] 33)).alloc (.cells #[.int .i64 0, .int .i64 0] 40) = w3) := by show _ = _; rw [hw1, hw2, hw3]
  clear hb1 hB1 hs1 hw1 hb2 hB2 hs2 hw2 hb3 hB3 hw3
  go_enter Tryz.func53, Tryz.ntmps53
  go_upto_region 1 with fail
  rw [HW.out]
  clear HW
  obtain ⟨P, hP⟩ : ∃ P, w.heap.size + 2 = P := ⟨_, rfl⟩
  rw [hP] at HP3 ⊢
  have HPP : Hid (w.heap.size ≤ P) := by show _ ≤ P; omega
  have HPN : Hid (w.heap.size ≠ P ∧ w.heap.size + 1 ≠ P) := by show _ ∧ _; omega
  clear hP
  have HFW := Lib.hid (HF.out w3 (HM.out.now HB3.out))
  obtain ⟨c0, c1, c2, c3, c4, c5, c6, c7⟩ := HM3.out.c8m
  go_wp2_with fail
  (with_reducible refine HFW.out.mono ?_)
  rintro _ w4 ⟨v, rfl, hs, hb⟩
  obtain ⟨Af, cf, rfl, hf1, hf2, hs⟩ := hs.open_
  have HS4 := Lib.hid hs
  have HB4 := Lib.hid (bthen HB3.out hb)
  have HR4 := Lib.hid (HR3.out.now hb)
  have HM4 := Lib.hid (HM3.out.now hb)
  have HP4 := Lib.hid (HP3.out.now hb)
  clear hs hb HFW HF c0 c1 c2 c3 c4 c5 c6 c7 HR3 HM3 HP3 HB3
  generalize fieldsB m = fs at *
  have r0 := HR4.out.c1
  obtain ⟨p0, p1⟩ := HP4.out.c2
  have f0 := HP4.out.frozen 0
  have f1 := HP4.out.frozen 1
  go_wp2_with fail
  go_loopw [14] (fun iv wr => ∃ k : Nat, iv = .int .i64 (k : Int) ∧ k ≤ fs.length ∧ Hid (∀ y ∈ fs.take k, decide ((r.length : Int) ≤ y) = false) ∧ w4 = wr) (fun iv _ => fs.length - (intOf iv).toNat)
  case atStart => exact ⟨0, rfl, Nat.zero_le _, Lib.hid (by simp), rfl⟩
  case round =>
    obtain ⟨k, rfl, hk, HK, rfl⟩ := hrel
    by_cases hlt : k < fs.length
    · obtain ⟨b, o, x, rfl, hD, hx, _, d0⟩ := SlI.at_ HS4.out hlt
      have HXX := Lib.hid hx
      have hxb := HFS.out x (List.mem_of_getElem? hx)
      clear hx
      by_cases hxl : (r.length : Int) ≤ x
      · have HPE : Hid (p = ((1, x + 1), 10)) := by
          show _ = _
          rw [HE.out, find_next HK.out HXX.out (decide_eq_true hxl)]
        have hz3 : Blk ((w4.setCell ⟨P, 0, none⟩ (.int .i64 1)).setCell ⟨P, 1, none⟩ (.int .i64 (x + 1))) P 40 #[.int .i64 1, .int .i64 (x + 1)] := HP4.out.put2 _ _
        have HBZ := Lib.hid (bset2' HB4.out HPP.out (.int .i64 1) (.int .i64 (x + 1)))
        go_wp2_with fail
        obtain ⟨r0, r1⟩ := hz3.c2
        generalize (w4.setCell ⟨P, 0, none⟩ (.int .i64 1)).setCell ⟨P, 1, none⟩ (.int .i64 (x + 1)) = wz at *
        refine bodyPost_ret (v := .tuple #[.agg #[.int .i64 1, .int .i64 (x + 1)], .int .i64 10]) (by simp [results, Tryz.results53, go_sem, r0, r1]) rfl ?_
        show RetPC _ _ _ _
        rw [HPE.out]
        exact ⟨rfl, HBZ.out⟩
      · have HK2 := Lib.hid (all_stepF HK.out HXX.out (decide_eq_false hxl))
        go_wp2_with fail
        go_roundw
        case rel => exact ⟨k + 1, by go_num, by omega, HK2, trivial⟩
        case measure => simp [intOf]; omega
    · have hke : k = fs.length := by omega
      have HE2 : Hid (p = headD r [] m.data) := by
        show _ = _
        rw [HE.out, find_none (by have := HK.out; rwa [hke, List.take_of_length_le (Nat.le_refl _)] at this)]
      have hkl : ¬ (k : Int) < (fs.length : Int) := by omega
      clear hke hlt
      obtain ⟨c0, c1, c2, c3, c4, c5, c6, c7⟩ := HM4.out.c8m
      go_wp2_with fail
      clear c0 c1 c2 c3 c4 c5 c6 c7 p0 p1 f0 f1 r0
      go_loopw [29] (fun iv wr => ∃ i : Nat, iv = .int .i64 (i : Int) ∧ i ≤ m.data.length ∧ Hid (p = headD r (m.data.take i) (m.data.drop i)) ∧ Hid (∀ j ∈ m.data.take i, j < (r.length : Int)) ∧ Hid (Below w4.heap.size w4 wr)) (fun iv _ => m.data.length - (intOf iv).toNat)
      case atStart => exact ⟨0, rfl, Nat.zero_le _, HE2, Lib.hid (by simp), Lib.hid (Below.refl _ _)⟩
      case round =>
        obtain ⟨i, rfl, hi, HEi, HJi, HBi⟩ := hrel
        obtain ⟨wo, hwo⟩ : ∃ wo, wr = wo := ⟨_, rfl⟩
        rw [hwo] at HBi ⊢
        clear hwo HE2
        have HRo := Lib.hid (HR4.out.now HBi.out)
        have HMo := Lib.hid (HM4.out.now HBi.out)
        have HPo := Lib.hid (HP4.out.now HBi.out)
        have HB0 := Lib.hid (bthen HB4.out HBi.out)
        by_cases hlt : i < m.data.length
        · obtain ⟨b, o, x, rfl, hD, hx, _, d0⟩ := SlI.at_ (SlI.now HMD.out HB0.out) hlt
          have HXX := Lib.hid hx
          have hxb := HOK.out.data x (List.mem_of_getElem? hx)
          obtain ⟨d, rfl⟩ : ∃ d : Nat, x = (d : Int) := ⟨x.toNat, by omega⟩
          have i0 : (0 : Int) ≤ (i : Int) := by omega
          have i1 : (i : Int) < (m.data.length : Int) := by omega
          have HDD : Hid (p = if (r.length : Int) ≤ (d : Int) then ((1, (d : Int) + 1), 10) else if isNameB (bsOf (cellAt r (d : Int))) = false then ((1, (d : Int) + 1), 8) else if ((m.data.take i).any fun j => decide (cellAt r j = cellAt r (d : Int))) = true then ((1, (d : Int) + 1), 9) else headD r (m.data.take i ++ [(d : Int)]) (m.data.drop (i + 1))) := by
            show _ = _
            rw [HEi.out, drop_cons HXX.out]
            rfl
          clear hx hD
          obtain ⟨c0, c1, c2, c3, c4, c5, c6, c7⟩ := HMo.out.c8m
          have hb9 := bone wo (.cells #[.int .i64 (d : Int)] 3)
          have k9 := Blk.new wo 3 #[.int .i64 (d : Int)]
          have hs9 : (wo.alloc (.cells #[.int .i64 (d : Int)] 3)).heap.size = wo.heap.size + 1 := by simp
          have hb10 := bone (wo.alloc (.cells #[.int .i64 (d : Int)] 3)) (.cells #[.int .i64 1, .int .i64 ((d : Int) + 1)] 40)
          have k10 := Blk.new (wo.alloc (.cells #[.int .i64 (d : Int)] 3)) 40 #[.int .i64 1, .int .i64 ((d : Int) + 1)]
          rw [hs9] at k10
          have k9 := k9.now hb10
          have hbb := bthen hb9 hb10
          go_upto_region 11 with fail
          obtain ⟨w5, hw5⟩ : ∃ w5, (wo.alloc (.cells #[.int .i64 (d : Int)] 3)).alloc (.cells #[.int .i64 1, .int .i64 ((d : Int) + 1)] 40) = w5 := ⟨_, rfl⟩
          rw [hw5] at hbb k9 k10 ⊢
          have HB5 := Lib.hid hbb
          have HK9 := Lib.hid k9
          have HK10 := Lib.hid k10
          have HR5 := Lib.hid (HRo.out.now hbb)
          have HM5 := Lib.hid (HMo.out.now hbb)
          have HP5 := Lib.hid (HPo.out.now hbb)
          have HG9 : Hid (wo.heap.size ≠ P ∧ wo.heap.size + 1 ≠ P) := Lib.hid ⟨fun e => by have := HPo.out.lt; omega, fun e => by have := HPo.out.lt; omega⟩
          obtain ⟨g9, hg9⟩ : ∃ g9, wo.heap.size = g9 := ⟨_, rfl⟩
          rw [hg9] at HK9 HK10 HG9 ⊢
          clear hw5 hbb k9 k10 hb9 hb10 hs9 hg9 d0 c0 c1 c2 c3 c4 c5 c6 c7
          have HB05 := Lib.hid (bthen HB0.out HB5.out)
          have r0 := HR5.out.c1
          have b9 := HK9.out.c1
          obtain ⟨s0, s1⟩ := HK10.out.c2
          obtain ⟨p0, p1⟩ := HP5.out.c2
          have f0 := HP5.out.frozen 0
          have f1 := HP5.out.frozen 1
          have hz3 : Blk ((w5.setCell ⟨P, 0, none⟩ (.int .i64 1)).setCell ⟨P, 1, none⟩ (.int .i64 ((d : Int) + 1))) P 40 #[.int .i64 1, .int .i64 ((d : Int) + 1)] := HP5.out.put2 _ _
          have HBZ := Lib.hid (bset2' HB05.out HPP.out (.int .i64 1) (.int .i64 ((d : Int) + 1)))
          have HZ3 := Lib.hid hz3
          clear hz3
          by_cases hdl : (r.length : Int) ≤ (d : Int)
          · have HPE : Hid (p = ((1, (d : Int) + 1), 10)) := by show _ = _; rw [HDD.out, if_pos hdl]
            go_wp2_with fail
            obtain ⟨q0, q1⟩ := HZ3.out.c2
            generalize (w5.setCell ⟨P, 0, none⟩ (.int .i64 1)).setCell ⟨P, 1, none⟩ (.int .i64 ((d : Int) + 1)) = wz at *
            refine bodyPost_ret (v := .tuple #[.agg #[.int .i64 1, .int .i64 ((d : Int) + 1)], .int .i64 10]) (by simp [results, Tryz.results53, go_sem, q0, q1]) rfl ?_
            show RetPC _ _ _ _
            rw [HPE.out]
            exact ⟨rfl, HBZ.out⟩
          · have hdr : d < r.length := by omega
            obtain ⟨br, or_, s, rfl, hDr, hxr, hsl, cr0⟩ := SlP.at_ (SlP.now HRR.out HB05.out) hdr
            have HNM := Lib.hid (fun W => isName_any (bsOf s) W (by rw [bs_size]; exact hsl))
            have HCA : Hid (cellAt r (d : Int) = s) := Lib.hid (cellAt_of hxr)
            obtain ⟨qn, hqn⟩ : ∃ qn, isNameB (bsOf s) = qn := ⟨_, rfl⟩
            rw [hqn] at HNM
            have HQN := Lib.hid hqn
            have d0 : (0 : Int) ≤ (d : Int) := by omega
            have d1 : (d : Int) < (r.length : Int) := by omega
            clear hqn hxr hDr hsl
            cases qn with
            | false =>
              have HPE : Hid (p = ((1, (d : Int) + 1), 8)) := by show _ = _; rw [HDD.out, if_neg hdl, HCA.out, if_pos HQN.out]
              go_wp2_with fail
              (with_reducible refine (HNM.out _).mono ?_)
              rintro _ wq ⟨rfl, rfl⟩
              go_wp2_with fail
              obtain ⟨q0, q1⟩ := HZ3.out.c2
              generalize (w5.setCell ⟨P, 0, none⟩ (.int .i64 1)).setCell ⟨P, 1, none⟩ (.int .i64 ((d : Int) + 1)) = wz at *
              refine bodyPost_ret (v := .tuple #[.agg #[.int .i64 1, .int .i64 ((d : Int) + 1)], .int .i64 8]) (by simp [results, Tryz.results53, go_sem, q0, q1]) rfl ?_
              show RetPC _ _ _ _
              rw [HPE.out]
              exact ⟨rfl, HBZ.out⟩
            | true =>
              have HDT : Hid (SlI (Lt w5.heap.size) w5 (.slice (some ⟨b, o, none⟩) i cd) (m.data.take i)) := Lib.hid (Sl.take_ (SlI.now HMD.out HB05.out) (by omega))
              have HAK : Hid (AsksF 96 #[.pointer (some ⟨w.heap.size, 0, none⟩), .pointer (some ⟨g9, 0, none⟩)] RInt w5 (m.data.take i) (fun j => decide (cellAt r j = cellAt r (d : Int)))) := by
                intro y v W hy hry hbW
                obtain ⟨h1, _⟩ := hry
                injection h1 with h1
                subst h1
                have hyr := HJi.out y hy
                have hy0 := (HOK.out.data y (List.mem_of_mem_take hy)).1
                obtain ⟨yn, rfl⟩ : ∃ yn : Nat, y = (yn : Int) := ⟨y.toNat, by omega⟩
                exact twice_any r (some ⟨br, or_, none⟩) cr w.heap.size g9 yn d W (SlP.now HRR.out (bthen HB05.out hbW)) (HR5.out.now hbW).c1 (HK9.out.now hbW).c1 (by omega) hdr
              have HCT := Lib.hid (contFI 96 #[.pointer (some ⟨w.heap.size, 0, none⟩), .pointer (some ⟨g9, 0, none⟩)] enters_twice _ (m.data.take i) _ w5 HDT.out HAK.out)
              obtain ⟨qt, hqt⟩ : ∃ qt, ((m.data.take i).any fun j => decide (cellAt r j = cellAt r (d : Int))) = qt := ⟨_, rfl⟩
              rw [hqt] at HCT HDD
              obtain ⟨m0, m1, m2, m3, m4, m5, m6, m7⟩ := HM5.out.c8m
              have hicd : i ≤ cd := by
                obtain ⟨A', c', e1, e2, e3, _⟩ := Sl.open_ (SlI.now HMD.out HB05.out)
                injection e1 with _ _ e1
                omega
              have hcdm : cd ≤ 9223372036854775807 := by
                obtain ⟨A', c', e1, e2, e3, _⟩ := Sl.open_ (SlI.now HMD.out HB05.out)
                have e4 : cd = c' := by injection e1
                omega
              clear hqt
              go_wp2_with fail
              (with_reducible refine (HNM.out _).mono ?_)
              rintro _ wq ⟨rfl, rfl⟩
              go_wp2_with fail
              (with_reducible refine HCT.out.mono ?_)
              rintro _ w6 ⟨rfl, hb6⟩
              have HB6 := Lib.hid hb6
              have HP6 := Lib.hid (HP5.out.now hb6)
              have HK106 := Lib.hid (HK10.out.now hb6)
              have HB06 := Lib.hid (bthen HB05.out hb6)
              clear hb6 p0 p1 f0 f1 s0 s1 r0 b9 m0 m1 m2 m3 m4 m5 m6 m7 HCT HAK
              obtain ⟨s0, s1⟩ := HK106.out.c2
              obtain ⟨p0, p1⟩ := HP6.out.c2
              have f0 := HP6.out.frozen 0
              have f1 := HP6.out.frozen 1
              cases qt with
              | true =>
                have HPE : Hid (p = ((1, (d : Int) + 1), 9)) := by show _ = _; rw [HDD.out, if_neg (show ¬ (r.length : Int) ≤ (d : Int) by omega), HCA.out, if_neg (by rw [HQN.out]; decide), if_pos rfl]
                have HZ6 := Lib.hid (HP6.out.put2 (.int .i64 1) (.int .i64 ((d : Int) + 1)))
                have HBZ6 := Lib.hid (bset2' HB06.out HPP.out (.int .i64 1) (.int .i64 ((d : Int) + 1)))
                go_wp2_with fail
                obtain ⟨q0, q1⟩ := HZ6.out.c2
                generalize (w6.setCell ⟨P, 0, none⟩ (.int .i64 1)).setCell ⟨P, 1, none⟩ (.int .i64 ((d : Int) + 1)) = wz at *
                refine bodyPost_ret (v := .tuple #[.agg #[.int .i64 1, .int .i64 ((d : Int) + 1)], .int .i64 9]) (by simp [results, Tryz.results53, go_sem, q0, q1]) rfl ?_
                show RetPC _ _ _ _
                rw [HPE.out]
                exact ⟨rfl, HBZ6.out⟩
              | false =>
                have HNX : Hid (p = headD r (m.data.take (i + 1)) (m.data.drop (i + 1))) := by
                  show _ = _
                  rw [HDD.out, if_neg (show ¬ (r.length : Int) ≤ (d : Int) by omega), HCA.out, if_neg (by rw [HQN.out]; decide), if_neg (by decide), take_snocI HXX.out]
                have HJX : Hid (∀ j ∈ m.data.take (i + 1), j < (r.length : Int)) := Lib.hid fun j hj => by
                  rw [take_snocI HXX.out] at hj
                  rcases List.mem_append.1 hj with hj | hj
                  · exact HJi.out j hj
                  · rw [List.mem_singleton] at hj; rw [hj]; exact d1
                go_wp2_with fail
                go_roundw
                case rel => exact ⟨i + 1, by go_num, by omega, HNX, HJX, Lib.hid (bthen (bthen HBi.out HB5.out) HB6.out)⟩
                case measure => simp [intOf]; omega
        · have hie : i = m.data.length := by omega
          have HPE : Hid (p = ((0, 0), 0)) := by show _ = _; rw [HEi.out, hie, List.drop_eq_nil_of_le (Nat.le_refl _)]; rfl
          have hil : ¬ (i : Int) < (m.data.length : Int) := by omega
          obtain ⟨p0, p1⟩ := HPo.out.c2
          have f0 := HPo.out.frozen 0
          have f1 := HPo.out.frozen 1
          have HZ6 := Lib.hid (HPo.out.put2 (.int .i64 0) (.int .i64 0))
          have HBZ6 := Lib.hid (bset2' HB0.out HPP.out (.int .i64 0) (.int .i64 0))
          clear hie
          go_wp2_with fail
          obtain ⟨q0, q1⟩ := HZ6.out.c2
          generalize (wo.setCell ⟨P, 0, none⟩ (.int .i64 0)).setCell ⟨P, 1, none⟩ (.int .i64 0) = wz at *
          refine bodyPost_ret (v := .tuple #[.agg #[.int .i64 0, .int .i64 0], .int .i64 0]) (by simp [results, Tryz.results53, go_sem, q0, q1]) rfl ?_
          show RetPC _ _ _ _
          rw [HPE.out]
          exact ⟨rfl, HBZ6.out⟩
end Go.Proofs.YtoalecalahkblaaGreatDoor
