/- Texts of this seat, merged. -/
import Derived.Test.YtoalecalahkblaaGreatDoorIy01
import Derived.Test.YtoalecalahkblaaGreatDoorIy02
import Derived.Test.YtoalecalahkblaaGreatDoorIy03
set_option linter.all false
set_option linter.all false
namespace Go.Proofs.YtoalecalahkblaaGreatDoor
open Go.RowKit
theorem quotedR_bad {sep c : UInt8} {acc r : Bt} (h : printB c = false) : quotedR sep acc (c :: r) = .bad (c :: r) 3 := by unfold quotedR; rw [if_pos h]
theorem quotedR_chr {sep c : UInt8} {acc r : Bt} (h : printB c = true) (h2 : c ≠ 34) : quotedR sep acc (c :: r) = quotedR sep (acc ++ [c]) r := by
  conv => lhs; unfold quotedR
  rw [if_neg (by rw [h]; decide), if_neg h2]
theorem quotedR_two {sep : UInt8} {acc r : Bt} : quotedR sep acc (34 :: 34 :: r) = quotedR sep (acc ++ [34]) r := by
  conv => lhs; unfold quotedR
  rw [if_neg (by decide), if_pos rfl]
  simp only [if_pos]
theorem quotedR_stop {sep : UInt8} {acc r : Bt} (h : r.head? ≠ some 34) : quotedR sep acc (34 :: r) = if endsB sep r = true then .ok acc r else .bad r 3 := by
  unfold quotedR
  rw [if_neg (by decide), if_pos rfl]
  cases r with
  | nil => simp [endsB]
  | cons d r =>
    have : d ≠ 34 := fun e => h (by rw [e]; rfl)
    simp only [if_neg this]
def RetCell (R : Nat) (s : ByteArray) (sep : UInt8) (i : Nat) (c : CellR) (w : World) (e : Ending) (w' : World) : Prop := ∃ j, i ≤ j ∧ j ≤ s.size ∧ RdC w' R s sep j ∧ Chg (One R) w w' ∧ match c with
  | .ok b rest => rest = s.data.toList.drop j ∧ b.length ≤ s.size ∧ e = .returned (.tuple #[.string (bsOf b), .int .i64 0])
  | .bad rest k => rest = s.data.toList.drop j ∧ k ≠ 0 ∧ e = .returned (.tuple #[.string ⟨#[]⟩, .int .i64 k])
theorem dropAt {s : ByteArray} {j : Nat} (h : j < s.size) : s.data.toList.drop j = s[j] :: s.data.toList.drop (j + 1) := by
  rw [List.drop_eq_getElem_cons (rdByte h).1, (rdByte h).2]
theorem dropEnd {s : ByteArray} {j : Nat} (h : s.size ≤ j) : s.data.toList.drop j = [] := List.drop_eq_nil_of_le (by simpa using h)
theorem headDrop {s : ByteArray} {j : Nat} (h : j < s.size) : (s.data.toList.drop j).head? = some s[j] := by rw [dropAt h]; rfl
theorem Chg.more {S : Nat → Prop} {w w1 w2 : World} {row : Option Nat} (h : Chg S w w1) (k : w1.grownBy w2 row) (hr : ∀ g, row = some g → w.heap.size ≤ g ∨ S g) : Chg S w w2 :=
  ⟨k.os.trans h.os, k.tape.trans h.tape, k.output.trans h.output, Nat.le_trans h.size k.size, fun i hi hn => (k.block i (Nat.lt_of_lt_of_le hi h.size) fun e => by
    rcases hr i e.symm with h' | h'
    · omega
    · exact hn h').trans (h.block i hi hn)⟩
theorem Chg.grown {R : Nat} {w w' : World} (h : Chg (One R) w w') : w.grownBy w' (some R) := ⟨h.os, h.tape, h.output, h.size, fun i hi hne => h.block i hi fun e => hne (by rw [show i = R from e])⟩
theorem OwnC.chg {R base : Nat} {w w' : World} {v : Value} {l : List UInt8} (h : OwnC w base v l) (k : Chg (One R) w w') (hR : R < base) : OwnC w' base v l := by
  refine World.ownsRow.kept h k.grown ?_
  cases e : v.ownBlock with
  | none => exact .inl rfl
  | some g => exact .inr (fun h' => by injection h' with h'; have := (World.ownsRow.lt h g e).1; omega)
theorem OwnC.open_ {base : Nat} {w : World} {v : Value} {l : List UInt8} (h : OwnC w base v l) : ∃ A c, v = .slice A l.length c := by
  rcases h.2 with ⟨rfl, h0⟩ | ⟨g, cap, cur, rfl, _⟩
  · exact ⟨none, 0, by rw [h0]⟩
  · exact ⟨_, _, rfl⟩
theorem RdC.grown {R : Nat} {s : ByteArray} {sep : UInt8} {i : Nat} {w w' : World} {row : Option Nat} (h : RdC w R s sep i) (k : w.grownBy w' row) (hr : some R ≠ row) : RdC w' R s sep i := Blk.grown h k hr
set_option maxHeartbeats 8000000 in
set_option maxRecDepth 100000 in
theorem quoted_any (R : Nat) (s : ByteArray) (sep : UInt8) (i : Nat) (w : World) (h : RdC w R s sep i) (hs : s.size ≤ 16384) (hi : i < s.size) :
    Calls Tryz.prog 116 #[.pointer (some ⟨R, 0, none⟩)] w (RetCell R s sep i (quotedR sep [] (s.data.toList.drop (i + 1))) w) := by
  have HR0 := Lib.hid (Blk.lt h)
  have HN := Lib.hid (next_any R s sep i w h hs hi)
  clear h
  go_enter Tryz.func116, Tryz.ntmps116
  go_wp2_with fail
  (with_reducible refine HN.out.mono ?_)
  rintro _ w1 ⟨rfl, hR1, hC1⟩
  have HR1 := Lib.hid hR1
  have HC1 := Lib.hid hC1
  clear hR1 hC1 HN
  go_wp2_with fail
  go_loopg [4] s.size (fun g1 bv wr => ∃ (j : Nat) (acc : Bt), i + 1 ≤ j ∧ j ≤ s.size ∧ s.size ≤ g1 + j ∧ acc.length ≤ j ∧ OwnC wr w.heap.size bv acc ∧ RdC wr R s sep j ∧ Chg (One R) w wr ∧ Hid (quotedR sep [] (s.data.toList.drop (i + 1)) = quotedR sep acc (s.data.toList.drop j)))
  case atStart => exact ⟨i + 1, [], Nat.le_refl _, by omega, by omega, Nat.zero_le _, OwnW.nil, HR1.out, HC1.out, rfl⟩
  case round =>
    obtain ⟨j, acc, hij, hjs, hg, hal, hO, hR, hC, hQ⟩ := hrel
    have HO := Lib.hid hO
    have HRj := Lib.hid hR
    have HC := Lib.hid hC
    have HMJ := Lib.hid (more_any R s sep j wr hR hs)
    have HWS := Lib.hid hC.size
    obtain ⟨A, cb, hA⟩ := hO.open_
    subst hA
    clear hO hR hC
    by_cases hj : j < s.size
    · have HM : Hid (Calls Tryz.prog 68 #[.pointer (some ⟨R, 0, none⟩)] wr fun e w' => e = .returned (.bool true) ∧ Below wr.heap.size wr w') := by have := HMJ.out; rwa [decide_eq_true hj] at this
      clear HMJ
      go_wp2_with fail
      (with_reducible refine HM.out.mono ?_)
      rintro _ w2 ⟨rfl, hb2⟩
      have hR2 := Blk.now HRj.out hb2
      have hC2 := HC.out.trans (Chg.of_below hb2)
      have hO2 := HO.out.now hb2
      clear HM hb2 HRj HC HO
      have i1 : (0 : Int) ≤ (j : Int) := by omega
      have i2 : (j : Int) < (s.size : Int) := by omega
      obtain ⟨c0, c1, c2, c3, c4⟩ := hR2.c5
      go_upto_region 5 with fail
      go_quiet (fail)
      obtain ⟨w3, hw3⟩ : ∃ w3, w2.drewN nq = w3 := ⟨_, rfl⟩
      have hb3 : Below w2.heap.size w2 w3 := by rw [← hw3]; exact bdrawn (Below.refl _ _) _
      have HR3 : Hid (RdC w3 R s sep j) := Blk.now hR2 hb3
      have HC3 := Lib.hid (hC2.trans (Chg.of_below hb3))
      have HO3 := Lib.hid (hO2.now hb3)
      rw [hw3]
      clear hw3 hb3 hR2 hC2 hO2 c0 c1 c2 c3 c4
      obtain ⟨c, hc⟩ : ∃ c, s[j] = c := ⟨_, rfl⟩
      rw [hc]
      have HN := Lib.hid (next_any R s sep j w3 HR3.out hs hj)
      have HQJ : Hid (quotedR sep [] (s.data.toList.drop (i + 1)) = quotedR sep acc (c :: s.data.toList.drop (j + 1))) := by
        show _ = _
        rw [hQ.out, dropAt hj, hc]
      have HDJ : Hid (s.data.toList.drop j = c :: s.data.toList.drop (j + 1)) := by
        show _ = _
        rw [dropAt hj, hc]
      rw [hc] at HN
      have HCC := Lib.hid hc
      clear hc hQ
      have HP := Lib.hid (printable_any c)
      have HE := Lib.hid (beqI c 34 34 rfl)
      have hpc : ∃ q, printB c = q := ⟨_, rfl⟩
      obtain ⟨q, hq⟩ := hpc
      rw [hq] at HP
      obtain ⟨z, hz⟩ : ∃ z, (c.toNat : Int) = z := ⟨_, rfl⟩
      rw [hz] at HP HE HN ⊢
      cases q with
      | false =>
        have HQF : Hid (quotedR sep [] (s.data.toList.drop (i + 1)) = .bad (s.data.toList.drop j) 3) := by show _ = _; rw [HQJ.out, quotedR_bad hq, HDJ.out]
        clear HN HQJ HDJ HE hz hq
        go_wp2_with fail
        (with_reducible refine (HP.out _).mono ?_)
        rintro _ w4 ⟨rfl, rfl⟩
        go_wp2_with fail
        go_ret2
        rw [HQF.out]
        exact ⟨j, by omega, hjs, HR3.out, HC3.out, rfl, by decide, rfl⟩
      | true =>
        have HQ := Lib.hid hq
        have HZ := Lib.hid hz
        clear hq hz
        by_cases h34 : c = 34
        · have e1 : (z != 34) = false := by
            have := HE.out
            rw [h34] at this
            show (!(z == 34)) = false
            rw [this]; rfl
          have HQS : Hid (quotedR sep [] (s.data.toList.drop (i + 1)) = quotedR sep acc (34 :: s.data.toList.drop (j + 1))) := by show _ = _; rw [HQJ.out, h34]
          clear HE HQJ HDJ h34
          go_wp2_with fail
          (with_reducible refine (HP.out _).mono ?_)
          rintro _ w4 ⟨rfl, rfl⟩
          go_wp2_with fail
          (with_reducible refine HN.out.mono ?_)
          rintro _ w4 ⟨rfl, hR4, hC4⟩
          obtain ⟨j1, hje⟩ : ∃ j1, j + 1 = j1 := ⟨_, rfl⟩
          rw [hje] at hR4 HQS
          have HJ := Lib.hid hje
          clear hje
          have HO4 := Lib.hid (HO3.out.chg hC4 HR0.out)
          have HC4 := Lib.hid (HC3.out.trans hC4)
          have HR4 := Lib.hid hR4
          clear HN HO3 HC3 HR3 hC4
          have hR4' : Blk w4 R 107 (rdrCells s sep (j1) (plAt s.data.toList (j1))) := hR4
          have HM : Hid (∀ W, Calls Tryz.prog 68 #[.pointer (some ⟨R, 0, none⟩)] (ext w4 W) fun e w' => e = .returned (.bool (decide (j1 < s.size))) ∧ Below (ext w4 W).heap.size (ext w4 W) w') := fun W => more_any R s sep (j1) (ext w4 W) (hR4'.now (ext_below w4 W)) hs
          obtain ⟨p1, p2⟩ := plAt s.data.toList (j1)
          have cc := fun W => (hR4'.now (ext_below w4 W)).c5
          have c0 := fun W => (cc W).1
          have c2 := fun W => (cc W).2.2.1
          clear cc hR4' hR4
          have i0 : (0 : Int) ≤ ((j1 : Nat) : Int) := by have := HJ.out; omega
          -- whether a second quote follows
          by_cases hj1 : j1 < s.size
          · have i3 : ((j1 : Nat) : Int) < (s.size : Int) := by have := HJ.out; omega
            have HM2 : Hid (∀ W, Calls Tryz.prog 68 #[.pointer (some ⟨R, 0, none⟩)] (ext w4 W) fun e w' => e = .returned (.bool true) ∧ Below (ext w4 W).heap.size (ext w4 W) w') := fun W => by have := HM.out W; rwa [decide_eq_true hj1] at this
            clear HM
            have HDD := Lib.hid (dropAt hj1)
            have HN := Lib.hid (fun W => next_any R s sep (j1) (ext w4 W) (Blk.now HR4.out (ext_below w4 W)) hs hj1)
            have e2 := beqI s[j1] 34 34 rfl
            by_cases hd : s[j1] = 34
            · have e3 : ((s[j1].toNat : Int) == 34) = true := by rw [e2, hd]; rfl
              have HQT : Hid (quotedR sep [] (s.data.toList.drop (i + 1)) = quotedR sep (acc ++ [34]) (s.data.toList.drop (j1 + 1))) := by
                show _ = _
                rw [HQS.out, HDD.out, hd, quotedR_two]
              have HZ1 : Hid ((s[j1].toNat : Int) = ((34 : UInt8).toNat : Int)) := by show _ = _; rw [hd]
              clear hd HQS HDD e2
              go_upto_region 11 with fail
              refine wp_region_growV (by kernel_rfl) (by kernel_rfl) ?_
              repeat (refine veil_step (fun K hK => ?_); go_simp; first | (refine hK _ ?_; clear hK K) | (apply Exists.intro; refine ⟨fun Wq => ?_, hK _ ?_⟩; ((go_at_call 68; exact grow_of (HM2.out Wq))); clear hK K))
              refine veil_nil ?_
              intro _ hw'
              obtain ⟨W, rfl⟩ := hw'
              have hb5 := ext_below w4 W
              clear c0 c2 HM2
              have HN5 := Lib.hid (HN.out W)
              have HC5 := Lib.hid (HC4.out.trans (Chg.of_below hb5))
              have HO5 := Lib.hid (HO4.out.now hb5)
              obtain ⟨w5, hw5⟩ : ∃ w5, ext w4 W = w5 := ⟨_, rfl⟩
              rw [hw5] at HN5 HC5 HO5 ⊢
              clear hw5 hb5 HN HC4 HO4 HR4
              go_wp2_with fail
              (with_reducible refine HN5.out.mono ?_)
              rintro _ w6 ⟨rfl, hR6, hC6⟩
              have HO6 := Lib.hid (HO5.out.chg hC6 HR0.out)
              have HC6 := Lib.hid (HC5.out.trans hC6)
              have HR6 := Lib.hid hR6
              have HS6 := Lib.hid HC6.out.size
              clear HN5 HC5 HO5 hR6 hC6
              go_wp2_with (at_builtin; refine wpList_pushC rfl (.tmp 45) (.tmp 48) rfl 34 _ HZ1.out rfl HO6.out rfl (by have := HJ.out; omega) HS6.out ?_; intro v' w7 hA)
              have HA := Lib.hid hA
              clear hA
              go_roundg (s.size - (j1 + 1))
              case measure => have := HJ.out; omega
              case rel =>
                refine ⟨j1 + 1, acc ++ [34], by have := HJ.out; omega, by have := HJ.out; omega, by have := HJ.out; omega, by rw [List.length_append, List.length_singleton]; have := HJ.out; omega, HA.out.own, HR6.out.grown HA.out.grown ?_, HC6.out.more HA.out.grown ?_, HQT.out⟩
                · intro e
                  have := (World.ownsRow.lt HO6.out R e.symm).1
                  have := HR0.out
                  omega
                · intro g hg
                  exact .inl (World.ownsRow.lt HO6.out g hg).1
            · have e3 : ((s[j1].toNat : Int) == 34) = false := by rw [e2]; exact beq_false_of_ne hd
              have HHD : Hid ((s.data.toList.drop (j1)).head? ≠ some 34) := by
                show _ ≠ _
                rw [HDD.out]
                intro e
                have e : some s[j1] = some 34 := e
                injection e with e
                exact hd e
              clear e2 hd HDD HN
              go_upto_region 11 with fail
              refine wp_region_growV (by kernel_rfl) (by kernel_rfl) ?_
              repeat (refine veil_step (fun K hK => ?_); go_simp; first | (refine hK _ ?_; clear hK K) | (apply Exists.intro; refine ⟨fun Wq => ?_, hK _ ?_⟩; ((go_at_call 68; exact grow_of (HM2.out Wq))); clear hK K))
              refine veil_nil ?_
              intro _ hw'
              obtain ⟨W, rfl⟩ := hw'
              have hb5 := ext_below w4 W
              have HR5 : Hid (RdC (ext w4 W) R s sep (j1)) := Blk.now HR4.out hb5
              have HC5 := Lib.hid (HC4.out.trans (Chg.of_below hb5))
              have HO5 := Lib.hid (HO4.out.now hb5)
              obtain ⟨w5, hw5⟩ : ∃ w5, ext w4 W = w5 := ⟨_, rfl⟩
              rw [hw5] at HR5 HC5 HO5 ⊢
              clear hw5 hb5 c0 c2 HR4 HC4 HO4 HM2
              have HE5 := Lib.hid (ends_any R s sep (j1) w5 HR5.out hs)
              have hq : ∃ q, endsAt sep s.data.toList (j1) = q := ⟨_, rfl⟩
              obtain ⟨q, hq⟩ := hq
              rw [hq] at HE5
              have HQ2 : Hid (quotedR sep [] (s.data.toList.drop (i + 1)) = if q = true then .ok acc (s.data.toList.drop (j1)) else .bad (s.data.toList.drop (j1)) 3) := by
                show _ = _
                rw [HQS.out, quotedR_stop HHD.out, ← hq]; rfl
              clear hq HQS
              cases q with
              | false =>
                go_wp2_with fail
                (with_reducible refine HE5.out.mono ?_)
                rintro _ w6 ⟨rfl, hb6⟩
                have HR6 : Hid (RdC w6 R s sep (j1)) := Blk.now HR5.out hb6
                have HC6 := Lib.hid (HC5.out.trans (Chg.of_below hb6))
                clear hb6
                go_wp2_with fail
                go_ret2
                rw [HQ2.out, if_neg (by decide)]
                exact ⟨j1, by have := HJ.out; omega, by have := HJ.out; omega, HR6.out, HC6.out, rfl, by decide, rfl⟩
              | true =>
                go_wp2_with fail
                (with_reducible refine HE5.out.mono ?_)
                rintro _ w6 ⟨rfl, hb6⟩
                have HR6 : Hid (RdC w6 R s sep (j1)) := Blk.now HR5.out hb6
                have HC6 := Lib.hid (HC5.out.trans (Chg.of_below hb6))
                have hcv := (HO5.out.now hb6).conv
                clear hb6
                go_wp2_with fail
                go_ret2
                rw [HQ2.out, if_pos (by first | rfl | trivial)]
                exact ⟨j1, by have := HJ.out; omega, by have := HJ.out; omega, HR6.out, HC6.out, rfl, by have := HJ.out; omega, rfl⟩
          · have HM2 : Hid (∀ W, Calls Tryz.prog 68 #[.pointer (some ⟨R, 0, none⟩)] (ext w4 W) fun e w' => e = .returned (.bool false) ∧ Below (ext w4 W).heap.size (ext w4 W) w') := fun W => by have := HM.out W; rwa [decide_eq_false hj1] at this
            have HHD : Hid ((s.data.toList.drop (j1)).head? ≠ some 34) := by
              show _ ≠ _
              rw [dropEnd (by have := HJ.out; omega)]
              intro e; cases e
            clear HM
            go_upto_region 11 with fail
            refine wp_region_growV (by kernel_rfl) (by kernel_rfl) ?_
            repeat (refine veil_step (fun K hK => ?_); go_simp; first | (refine hK _ ?_; clear hK K) | (apply Exists.intro; refine ⟨fun Wq => ?_, hK _ ?_⟩; ((go_at_call 68; exact grow_of (HM2.out Wq))); clear hK K))
            refine veil_nil ?_
            intro _ hw'
            obtain ⟨W, rfl⟩ := hw'
            have hb5 := ext_below w4 W
            have HR5 : Hid (RdC (ext w4 W) R s sep (j1)) := Blk.now HR4.out hb5
            have HC5 := Lib.hid (HC4.out.trans (Chg.of_below hb5))
            have HO5 := Lib.hid (HO4.out.now hb5)
            obtain ⟨w5, hw5⟩ : ∃ w5, ext w4 W = w5 := ⟨_, rfl⟩
            rw [hw5] at HR5 HC5 HO5 ⊢
            clear hw5 hb5 c0 c2 HR4 HC4 HO4 HM2
            have HE5 := Lib.hid (ends_any R s sep (j1) w5 HR5.out hs)
            have hq : ∃ q, endsAt sep s.data.toList (j1) = q := ⟨_, rfl⟩
            obtain ⟨q, hq⟩ := hq
            rw [hq] at HE5
            have HQ2 : Hid (quotedR sep [] (s.data.toList.drop (i + 1)) = if q = true then .ok acc (s.data.toList.drop (j1)) else .bad (s.data.toList.drop (j1)) 3) := by
              show _ = _
              rw [HQS.out, quotedR_stop HHD.out, ← hq]; rfl
            clear hq HQS
            cases q with
            | false =>
              go_wp2_with fail
              (with_reducible refine HE5.out.mono ?_)
              rintro _ w6 ⟨rfl, hb6⟩
              have HR6 : Hid (RdC w6 R s sep (j1)) := Blk.now HR5.out hb6
              have HC6 := Lib.hid (HC5.out.trans (Chg.of_below hb6))
              clear hb6
              go_wp2_with fail
              go_ret2
              rw [HQ2.out, if_neg (by decide)]
              exact ⟨j1, by have := HJ.out; omega, by have := HJ.out; omega, HR6.out, HC6.out, rfl, by decide, rfl⟩
            | true =>
              go_wp2_with fail
              (with_reducible refine HE5.out.mono ?_)
              rintro _ w6 ⟨rfl, hb6⟩
              have HR6 : Hid (RdC w6 R s sep (j1)) := Blk.now HR5.out hb6
              have HC6 := Lib.hid (HC5.out.trans (Chg.of_below hb6))
              have hcv := (HO5.out.now hb6).conv
              clear hb6
              go_wp2_with fail
              go_ret2
              rw [HQ2.out, if_pos (by first | rfl | trivial)]
              exact ⟨j1, by have := HJ.out; omega, by have := HJ.out; omega, HR6.out, HC6.out, rfl, by have := HJ.out; omega, rfl⟩
        · have e1 : (z != 34) = true := by
            have := HE.out
            rw [beq_false_of_ne h34] at this
            show (!(z == 34)) = true
            rw [this]; rfl
          have HQS : Hid (quotedR sep [] (s.data.toList.drop (i + 1)) = quotedR sep (acc ++ [c]) (s.data.toList.drop (j + 1))) := by show _ = _; rw [HQJ.out, quotedR_chr HQ.out h34]
          clear HE HQJ HDJ h34
          go_wp2_with fail
          (with_reducible refine (HP.out _).mono ?_)
          rintro _ w4 ⟨rfl, rfl⟩
          go_wp2_with fail
          (with_reducible refine HN.out.mono ?_)
          rintro _ w4 ⟨rfl, hR4, hC4⟩
          have HO4 := Lib.hid (HO3.out.chg hC4 HR0.out)
          have HC4 := Lib.hid (HC3.out.trans hC4)
          have HR4 := Lib.hid hR4
          have HS4 := Lib.hid HC4.out.size
          clear HN HO3 HC3 HR3 hC4 hR4
          go_wp2_with (at_builtin; refine wpList_pushC rfl (.tmp 27) (.tmp 29) rfl c _ HZ.out.symm rfl HO4.out rfl (by omega) HS4.out ?_; intro v' w7 hA)
          have HA := Lib.hid hA
          clear hA
          go_roundg (s.size - (j + 1))
          case measure => omega
          case rel =>
            refine ⟨j + 1, acc ++ [c], by omega, by omega, by omega, by rw [List.length_append, List.length_singleton]; omega, HA.out.own, HR4.out.grown HA.out.grown ?_, HC4.out.more HA.out.grown ?_, HQS.out⟩
            · intro e
              have := (World.ownsRow.lt HO4.out R e.symm).1
              have := HR0.out
              omega
            · intro g hg
              exact .inl (World.ownsRow.lt HO4.out g hg).1
    · have HM : Hid (Calls Tryz.prog 68 #[.pointer (some ⟨R, 0, none⟩)] wr fun e w' => e = .returned (.bool false) ∧ Below wr.heap.size wr w') := by have := HMJ.out; rwa [decide_eq_false hj] at this
      have HQF : Hid (quotedR sep [] (s.data.toList.drop (i + 1)) = .bad (s.data.toList.drop j) 4) := by
        show _ = _
        rw [hQ.out, dropEnd (by omega)]; rfl
      clear HMJ
      go_wp2_with fail
      (with_reducible refine HM.out.mono ?_)
      rintro _ w2 ⟨rfl, hb2⟩
      have HR2 : Hid (RdC w2 R s sep j) := Blk.now HRj.out hb2
      have HC2 := Lib.hid (HC.out.trans (Chg.of_below hb2))
      clear hb2
      go_wp2_with fail
      go_ret2
      rw [HQF.out]
      exact ⟨j, by omega, hjs, HR2.out, HC2.out, rfl, by decide, rfl⟩
end Go.Proofs.YtoalecalahkblaaGreatDoor

set_option linter.all false
namespace Go.Proofs.YtoalecalahkblaaGreatDoor
open Go.RowKit
theorem plainR_end {sep : UInt8} {acc t : Bt} (h : endsB sep t = true) : plainR sep acc t = .ok acc t := by
  cases t with
  | nil => rfl
  | cons c r =>
    unfold plainR
    unfold endsB at h
    simp only [Bool.or_eq_true, beq_iff_eq] at h
    rw [if_pos h]
theorem plainR_bad {sep c : UInt8} {acc r : Bt} (h : endsB sep (c :: r) = false) (h2 : printB c = false ∨ c = 34) : plainR sep acc (c :: r) = .bad (c :: r) 3 := by
  have h : (c == 10 || c == sep) = false := h
  unfold plainR
  rw [if_neg (by intro e; rw [show (c == 10 || c == sep) = true by simpa using e] at h; cases h), if_pos h2]
theorem plainR_chr {sep c : UInt8} {acc r : Bt} (h : endsB sep (c :: r) = false) (h2 : printB c = true) (h3 : c ≠ 34) : plainR sep acc (c :: r) = plainR sep (acc ++ [c]) r := by
  have h : (c == 10 || c == sep) = false := h
  conv => lhs; unfold plainR
  rw [if_neg (by intro e; rw [show (c == 10 || c == sep) = true by simpa using e] at h; cases h), if_neg (by rintro (e | e); (rw [h2] at e; cases e); exact h3 e)]
theorem cellR_quote {sep : UInt8} {r : Bt} : cellR sep (34 :: r) = quotedR sep [] r := rfl
theorem cellR_plain {sep : UInt8} {t : Bt} (h : t.head? ≠ some 34) : cellR sep t = plainR sep [] t := by
  unfold cellR
  split
  · exact absurd rfl h
  · rfl
theorem takeStep {s : ByteArray} {i j : Nat} (h : j < s.size) (hij : i ≤ j) : (s.data.toList.drop i).take (j + 1 - i) = (s.data.toList.drop i).take (j - i) ++ [s[j]] := by
  have hl : j - i < (s.data.toList.drop i).length := by rw [List.length_drop]; have := (rdByte h).1; omega
  rw [show j + 1 - i = (j - i) + 1 by omega, List.take_succ_eq_append_getElem hl]
  congr 2
  rw [List.getElem_drop]
  have e : i + (j - i) = j := by omega
  simp only [e]
  exact (rdByte h).2 _
theorem extBs (s : ByteArray) (a b : Nat) : s.extract a b = bsOf ((s.data.toList.drop a).take (b - a)) := by
  rw [← bs_of (s.extract a b)]
  congr 1
  rw [ByteArray.data_extract, Array.toList_extract, List.extract_eq_take_drop]
set_option maxHeartbeats 8000000 in
set_option maxRecDepth 100000 in
theorem cell_any (R : Nat) (s : ByteArray) (sep : UInt8) (i : Nat) (w : World) (h : RdC w R s sep i) (hs : s.size ≤ 16384) (his : i ≤ s.size) :
    Calls Tryz.prog 69 #[.pointer (some ⟨R, 0, none⟩)] w (RetCell R s sep i (cellR sep (s.data.toList.drop i)) w) := by
  have HR := Lib.hid h
  have h' : Blk w R 107 (rdrCells s sep i (plAt s.data.toList i)) := h
  have HM : Hid (∀ W, Calls Tryz.prog 68 #[.pointer (some ⟨R, 0, none⟩)] (ext w W) fun e w' => e = .returned (.bool (decide (i < s.size))) ∧ Below (ext w W).heap.size (ext w W) w') := fun W => more_any R s sep i (ext w W) (h'.now (ext_below w W)) hs
  obtain ⟨p1, p2⟩ := plAt s.data.toList i
  have cc := fun W => (h'.now (ext_below w W)).c5
  have c0 := fun W => (cc W).1
  have c2 := fun W => (cc W).2.2.1
  clear cc h' h
  have i0 : (0 : Int) ≤ (i : Int) := by omega
  -- the rest, where the cell is not quoted
  have HPL : Hid ((s.data.toList.drop i).head? ≠ some 34 → cellR sep (s.data.toList.drop i) = plainR sep [] (s.data.toList.drop i)) := fun h => cellR_plain h
  by_cases hq : ∃ hi : i < s.size, s[i] = 34
  · obtain ⟨hi, hq⟩ := hq
    have i2 : (i : Int) < (s.size : Int) := by omega
    have HM2 : Hid (∀ W, Calls Tryz.prog 68 #[.pointer (some ⟨R, 0, none⟩)] (ext w W) fun e w' => e = .returned (.bool true) ∧ Below (ext w W).heap.size (ext w W) w') := fun W => by have := HM.out W; rwa [decide_eq_true hi] at this
    have e1 : ((s[i].toNat : Int) == 34) = true := by rw [hq]; rfl
    have HQ : Hid (cellR sep (s.data.toList.drop i) = quotedR sep [] (s.data.toList.drop (i + 1))) := by
      show _ = _
      rw [dropAt hi, hq, cellR_quote]
    have HQC := Lib.hid (fun W => quoted_any R s sep i (ext w W) (Blk.now HR.out (ext_below w W)) hs hi)
    clear HM hq HPL
    go_enter Tryz.func69, Tryz.ntmps69
    go_upto_region 1 with fail
    refine wp_region_growV (by kernel_rfl) (by kernel_rfl) ?_
    repeat (refine veil_step (fun K hK => ?_); go_simp; first | (refine hK _ ?_; clear hK K) | (apply Exists.intro; refine ⟨fun Wq => ?_, hK _ ?_⟩; ((go_at_call 68; exact grow_of (HM2.out Wq))); clear hK K))
    refine veil_nil ?_
    intro _ hw'
    obtain ⟨W, rfl⟩ := hw'
    have HQ5 := Lib.hid (HQC.out W)
    have HC5 := Lib.hid (Chg.of_below (S := One R) (ext_below w W))
    obtain ⟨w5, hw5⟩ : ∃ w5, ext w W = w5 := ⟨_, rfl⟩
    rw [hw5] at HQ5 HC5 ⊢
    clear hw5 c0 c2 HM2 HQC HR
    go_wp2_with fail
    (with_reducible refine HQ5.out.mono ?_)
    rintro e w6 hret
    have HRET := Lib.hid hret
    obtain ⟨j, hij, hjs, hR6, hC6, hm⟩ := hret
    have HF : Hid (RetCell R s sep i (cellR sep (s.data.toList.drop i)) w e w6) := by
      show RetCell _ _ _ _ _ _ _ _
      rw [HQ.out]
      exact ⟨j, hij, hjs, hR6, HC5.out.trans hC6, hm⟩
    clear HQ5 HQ HRET HC5 hR6 hC6
    obtain ⟨x, y, rfl⟩ : ∃ x y, e = .returned (.tuple #[x, y]) := by
      generalize quotedR sep [] (s.data.toList.drop (i + 1)) = cr at hm
      cases cr with
      | ok b rest => exact ⟨_, _, hm.2.2⟩
      | bad rest k => exact ⟨_, _, hm.2.2⟩
    clear hm
    go_wp2_with fail
    go_ret2
    exact HF.out
  · have HPL2 : Hid (cellR sep (s.data.toList.drop i) = plainR sep [] (s.data.toList.drop i)) := HPL.out (by
      intro e
      rcases Nat.lt_or_ge i s.size with hi | hi
      · rw [headDrop hi] at e
        injection e with e
        exact hq ⟨hi, e⟩
      · rw [dropEnd hi] at e; cases e)
    clear HPL
    go_enter Tryz.func69, Tryz.ntmps69
    go_upto_region 1 with fail
    go_cut [19] from 6 to 19 (fun b W => b = .bool false ∧ Below w.heap.size w W)
    case first =>
      by_cases hi : i < s.size
      · have i2 : (i : Int) < (s.size : Int) := by omega
        have HM2 : Hid (∀ W, Calls Tryz.prog 68 #[.pointer (some ⟨R, 0, none⟩)] (ext w W) fun e w' => e = .returned (.bool true) ∧ Below (ext w W).heap.size (ext w W) w') := fun W => by have := HM.out W; rwa [decide_eq_true hi] at this
        have e1 : ((s[i].toNat : Int) == 34) = false := by
          rw [beqI s[i] 34 34 rfl]
          exact beq_false_of_ne fun e => hq ⟨hi, e⟩
        clear HM hq
        refine wp_region_growV (by kernel_rfl) (by kernel_rfl) ?_
        repeat (refine veil_step (fun K hK => ?_); go_simp; first | (refine hK _ ?_; clear hK K) | (apply Exists.intro; refine ⟨fun Wq => ?_, hK _ ?_⟩; ((go_at_call 68; exact grow_of (HM2.out Wq))); clear hK K))
        refine veil_nil ?_
        intro _ hw'
        obtain ⟨W, rfl⟩ := hw'
        go_wp2_with fail
        go_meet
        exact ⟨rfl, ext_below w W⟩
      · have HM2 : Hid (∀ W, Calls Tryz.prog 68 #[.pointer (some ⟨R, 0, none⟩)] (ext w W) fun e w' => e = .returned (.bool false) ∧ Below (ext w W).heap.size (ext w W) w') := fun W => by have := HM.out W; rwa [decide_eq_false hi] at this
        clear HM hq
        refine wp_region_growV (by kernel_rfl) (by kernel_rfl) ?_
        repeat (refine veil_step (fun K hK => ?_); go_simp; first | (refine hK _ ?_; clear hK K) | (apply Exists.intro; refine ⟨fun Wq => ?_, hK _ ?_⟩; ((go_at_call 68; exact grow_of (HM2.out Wq))); clear hK K))
        refine veil_nil ?_
        intro _ hw'
        obtain ⟨W, rfl⟩ := hw'
        go_wp2_with fail
        go_meet
        exact ⟨rfl, ext_below w W⟩
    obtain ⟨rfl, hb1⟩ := hcut
    clear c0 c2 HM hq
    have HR1 : Hid (RdC _ R s sep i) := Blk.now HR.out hb1
    have HC1 := Lib.hid (Chg.of_below (S := One R) hb1)
    have hB1 : Blk _ R 107 (rdrCells s sep i (plAt s.data.toList i)) := HR1.out
    obtain ⟨c0, c1, c2, c3, c4⟩ := hB1.c5
    clear HR hb1 hB1
    go_wp2_with fail
    clear c0 c1 c2 c3 c4
    go_loopg [] s.size (fun g1 wr => ∃ j : Nat, i ≤ j ∧ j ≤ s.size ∧ s.size ≤ g1 + j ∧ RdC wr R s sep j ∧ Chg (One R) w wr ∧ Hid (plainR sep [] (s.data.toList.drop i) = plainR sep ((s.data.toList.drop i).take (j - i)) (s.data.toList.drop j)))
    case atStart => exact ⟨i, Nat.le_refl _, his, by omega, HR1.out, HC1.out, by show _ = _; rw [Nat.sub_self, List.take_zero]⟩
    case round =>
      obtain ⟨j, hij, hjs, hg, hR, hC, hQ⟩ := hrel
      have HRj := Lib.hid hR
      have HC := Lib.hid hC
      have HEJ := Lib.hid (ends_any R s sep j wr hR hs)
      clear hR hC
      obtain ⟨q, hq⟩ : ∃ q, endsAt sep s.data.toList j = q := ⟨_, rfl⟩
      rw [hq] at HEJ
      cases q with
      | false =>
        have hj : j < s.size := by
          rcases Nat.lt_or_ge j s.size with h | h
          · exact h
          · rw [endsAt_end (by simpa using h)] at hq; cases hq
        have HED : Hid (endsB sep (s[j] :: s.data.toList.drop (j + 1)) = false) := by
          show _ = _
          rw [← dropAt hj]; exact hq
        go_wp2_with fail
        (with_reducible refine HEJ.out.mono ?_)
        rintro _ w2 ⟨rfl, hb2⟩
        have hR2 := Blk.now HRj.out hb2
        have hC2 := HC.out.trans (Chg.of_below hb2)
        clear HEJ hb2 HRj HC hq
        have i1 : (0 : Int) ≤ (j : Int) := by omega
        have i2 : (j : Int) < (s.size : Int) := by omega
        obtain ⟨c0, c1, c2, c3, c4⟩ := hR2.c5
        go_upto_region 5 with fail
        go_quiet (fail)
        obtain ⟨w3, hw3⟩ : ∃ w3, w2.drewN nq = w3 := ⟨_, rfl⟩
        have hb3 : Below w2.heap.size w2 w3 := by rw [← hw3]; exact bdrawn (Below.refl _ _) _
        have HR3 : Hid (RdC w3 R s sep j) := Blk.now hR2 hb3
        have HC3 := Lib.hid (hC2.trans (Chg.of_below hb3))
        rw [hw3]
        clear hw3 hb3 hR2 hC2 c0 c1 c2 c3 c4
        have HN := Lib.hid (next_any R s sep j w3 HR3.out hs hj)
        have HST := Lib.hid (takeStep hj hij)
        have HDJ := Lib.hid (dropAt hj)
        generalize s[j] = c at *
        have HP := Lib.hid (printable_any c)
        have HE := Lib.hid (beqI c 34 34 rfl)
        obtain ⟨q, hq⟩ : ∃ q, printB c = q := ⟨_, rfl⟩
        rw [hq] at HP
        obtain ⟨z, hz⟩ : ∃ z, (c.toNat : Int) = z := ⟨_, rfl⟩
        rw [hz] at HP HE HN ⊢
        clear hz
        cases q with
        | false =>
          have HQF : Hid (plainR sep [] (s.data.toList.drop i) = .bad (s.data.toList.drop j) 3) := by
            show _ = _
            rw [hQ.out, HDJ.out, plainR_bad HED.out (.inl hq)]
          clear HN HDJ HE hq
          go_wp2_with fail
          (with_reducible refine (HP.out _).mono ?_)
          rintro _ w4 ⟨rfl, rfl⟩
          go_wp2_with fail
          go_ret2
          rw [HPL2.out, HQF.out]
          exact ⟨j, by omega, hjs, HR3.out, HC3.out, rfl, by decide, rfl⟩
        | true =>
          have HQ := Lib.hid hq
          clear hq
          by_cases h34 : c = 34
          · have e1 : (z == 34) = true := by
              have := HE.out
              rw [h34] at this
              rw [this]; rfl
            have HQF : Hid (plainR sep [] (s.data.toList.drop i) = .bad (s.data.toList.drop j) 3) := by
              show _ = _
              rw [hQ.out, HDJ.out, plainR_bad HED.out (.inr h34)]
            clear HN HDJ HE h34
            go_wp2_with fail
            (with_reducible refine (HP.out _).mono ?_)
            rintro _ w4 ⟨rfl, rfl⟩
            go_wp2_with fail
            go_ret2
            rw [HPL2.out, HQF.out]
            exact ⟨j, by omega, hjs, HR3.out, HC3.out, rfl, by decide, rfl⟩
          · have e1 : (z == 34) = false := by
              have := HE.out
              rw [beq_false_of_ne h34] at this
              exact this
            have HQS : Hid (plainR sep [] (s.data.toList.drop i) = plainR sep ((s.data.toList.drop i).take (j + 1 - i)) (s.data.toList.drop (j + 1))) := by
              show _ = _
              rw [hQ.out, HDJ.out, plainR_chr HED.out HQ.out h34, HST.out]
            clear HE HDJ h34
            go_wp2_with fail
            (with_reducible refine (HP.out _).mono ?_)
            rintro _ w4 ⟨rfl, rfl⟩
            go_wp2_with fail
            (with_reducible refine HN.out.mono ?_)
            rintro _ w4 ⟨rfl, hR4, hC4⟩
            have HR4 := Lib.hid hR4
            have HC4 := Lib.hid (HC3.out.trans hC4)
            clear hR4 hC4 HN
            go_wp2_with fail
            go_roundg (s.size - (j + 1))
            case measure => omega
            case rel => exact ⟨j + 1, by omega, by omega, by omega, HR4.out, HC4.out, HQS.out⟩
      | true =>
        have HQF : Hid (plainR sep [] (s.data.toList.drop i) = .ok ((s.data.toList.drop i).take (j - i)) (s.data.toList.drop j)) := by
          show _ = _
          rw [hQ.out, plainR_end hq]
        clear hq
        go_wp2_with fail
        (with_reducible refine HEJ.out.mono ?_)
        rintro _ w2 ⟨rfl, hb2⟩
        have hR2 := Blk.now HRj.out hb2
        have hC2 := HC.out.trans (Chg.of_below hb2)
        clear HEJ hb2 HRj HC
        have i1 : (0 : Int) ≤ (i : Int) := by omega
        have i2 : (i : Int) ≤ (j : Int) := by omega
        have i3 : (j : Int) ≤ (s.size : Int) := by omega
        obtain ⟨c0, c1, c2, c3, c4⟩ := hR2.c5
        have HEX := Lib.hid (extBs s i j)
        go_upto_region 9 with fail
        go_quiet (fail)
        go_wp2_with fail
        go_ret2
        rw [HPL2.out, HQF.out]
        refine ⟨j, hij, hjs, hR2.drewN _, hC2.trans (Chg.of_below (bdrawn (Below.refl _ _) _)), rfl, ?_, ?_⟩
        · rw [List.length_take, List.length_drop]
          have : s.data.toList.length = s.size := by simp
          omega
        · rw [← HEX.out]; rfl
end Go.Proofs.YtoalecalahkblaaGreatDoor

set_option linter.all false
namespace Go.Proofs.YtoalecalahkblaaGreatDoor
open Go.RowKit
theorem rowR_bad {sep : UInt8} {n : Nat} {acc : List Bt} {t rest : Bt} {e : Int} (h : cellR sep t = .bad rest e) : rowR sep n acc t = .bad rest e := by
  cases n <;> (unfold rowR; rw [h])
theorem rowR_end {sep : UInt8} {n : Nat} {acc : List Bt} {t b : Bt} (h : cellR sep t = .ok b []) : rowR sep n acc t = .ok (acc ++ [b]) [] := by
  cases n <;> (unfold rowR; rw [h])
theorem rowR_line {sep : UInt8} {n : Nat} {acc : List Bt} {t b rest : Bt} (h : cellR sep t = .ok b (10 :: rest)) : rowR sep n acc t = .ok (acc ++ [b]) rest := by
  cases n with
  | zero => unfold rowR; rw [h]
  | succ n => unfold rowR; rw [h]; simp only [if_pos]
theorem rowR_next {sep c : UInt8} {n : Nat} {acc : List Bt} {t b rest : Bt} (h : cellR sep t = .ok b (c :: rest)) (hc : c ≠ 10) : rowR sep (n + 1) acc t = rowR sep n (acc ++ [b]) rest := by
  conv => lhs; unfold rowR
  rw [h]; simp only [if_neg hc]
theorem tabR_end {sep : UInt8} {n : Nat} {acc : List (List Bt)} : tabR sep n acc [] = .ok acc := by cases n <;> rfl
theorem tabR_full {sep c : UInt8} {n : Nat} {acc : List (List Bt)} {t : Bt} (h : acc.length = 2001) : tabR sep n acc (c :: t) = .bad (c :: t) 5 := by
  cases n with
  | zero => rfl
  | succ n => unfold tabR; rw [if_pos h]
theorem tabR_bad {sep c : UInt8} {n : Nat} {acc : List (List Bt)} {t rest : Bt} {e : Int} (h : acc.length ≠ 2001) (hr : rowR sep (c :: t).length [] (c :: t) = .bad rest e) : tabR sep (n + 1) acc (c :: t) = .bad rest e := by
  unfold tabR; rw [if_neg h, hr]
theorem tabR_row {sep c : UInt8} {n : Nat} {acc : List (List Bt)} {t rest : Bt} {r : List Bt} (h : acc.length ≠ 2001) (hr : rowR sep (c :: t).length [] (c :: t) = .ok r rest) : tabR sep (n + 1) acc (c :: t) = tabR sep n (acc ++ [r]) rest := by
  conv => lhs; unfold tabR
  rw [if_neg h, hr]
def RetRows (p : List (List Bt) × (Int × Int) × Int) (w : World) (e : Ending) (w' : World) : Prop := ∃ v, e = .returned (.tuple #[v, .agg #[.int .i64 p.2.1.1, .int .i64 p.2.1.2], .int .i64 p.2.2]) ∧ SlSS (Lt w'.heap.size) w' v p.1 ∧ Below w.heap.size w w'
theorem own_slPD {D : Nat → Prop} {w : World} {base t : Nat} {v : Value} {ls : List Bt} (h : w.ownsRow base t 1 v ls.length (ls.map fun l => Value.string (bsOf l))) (hD : ∀ g, v.ownBlock = some g → D g) (hf : ∀ l ∈ ls, l.length ≤ maxLen) : SlP D w v ls := by
  have e : (ls.map fun l => Value.string (bsOf l)) = (ls.map bsOf).map Value.string := by rw [List.map_map]; rfl
  rw [e] at h
  have hl : ls.length = (ls.map bsOf).length := by rw [List.length_map]
  rw [hl] at h
  refine Sl.of_own1 h rfl hD fun i x hx => ?_
  refine ⟨.string x, ?_, rfl, ?_⟩
  · rw [List.getElem?_map, hx]; rfl
  · obtain ⟨l, hl, rfl⟩ := List.mem_map.1 (List.mem_of_getElem? hx)
    rw [bs_size]; exact hf l hl
def OwnT (w : World) (base : Nat) (v : Value) (ls : List Bt) : Prop := w.ownsRow base 9 1 v ls.length (ls.map fun l => Value.string (bsOf l))
theorem OwnT.nil {w : World} {base : Nat} : OwnT w base (.slice none 0 0) [] := World.ownsRow_nil _ _ _ _
theorem OwnT.chg {R base : Nat} {w w' : World} {v : Value} {l : List Bt} (h : OwnT w base v l) (k : Chg (One R) w w') (hR : R < base) : OwnT w' base v l := by
  refine World.ownsRow.kept h k.grown ?_
  cases e : v.ownBlock with
  | none => exact .inl rfl
  | some g => exact .inr (fun h' => by injection h' with h'; have := (World.ownsRow.lt h g e).1; omega)
theorem OwnT.open_ {base : Nat} {w : World} {v : Value} {l : List Bt} (h : OwnT w base v l) : ∃ A c, v = .slice A l.length c := by
  rcases h.2 with ⟨rfl, h0⟩ | ⟨g, cap, cur, rfl, _⟩
  · exact ⟨none, 0, by rw [h0]⟩
  · exact ⟨_, _, rfl⟩
theorem appStr : AppInfo Tryz.prog 51 9 1 := AppInfo.mk' (z := .string ⟨#[]⟩) (bytes := 16) Tryz.underlying51 (by kernel_rfl) (by decide) rfl (by decide)
theorem appStrs : AppInfo Tryz.prog 22 51 1 := AppInfo.mk' (z := .slice none 0 0) (bytes := 24) Tryz.underlying22 (by kernel_rfl) (by decide) rfl (by decide)
theorem OwnR.chg {α : Type} {size : Nat} {E : ElemR α} {X : Nat → Prop} {R base t : Nat} {w w' : World} {v : Value} {xs : List α} (h : OwnR size E X w base t v xs) (hE : ElemR.Kept E) (k : Chg (One R) w w') (hX : X R) (hR : R < base) : OwnR size E X w' base t v xs :=
  h.grown hE k.grown fun g e => by
    injection e with e
    subst e
    exact ⟨hX, fun e => by have := (h.lt _ e).1; omega⟩
theorem bset2' {B g : Nat} {w0 w : World} (h : Below B w0 w) (hg : B ≤ g) (a b : Value) : Below B w0 ((w.setCell ⟨g, 0, none⟩ a).setCell ⟨g, 1, none⟩ b) :=
  (h.setCell (p := ⟨g, 0, none⟩) hg a).setCell (p := ⟨g, 1, none⟩) hg b
theorem Blk.put2 {w : World} {g t : Nat} {a b : Value} (h : Blk w g t #[a, b]) (x y : Value) : Blk ((w.setCell ⟨g, 0, none⟩ x).setCell ⟨g, 1, none⟩ y) g t #[x, y] := (h.set_ 0 x).set_ 1 y
set_option maxHeartbeats 8000000 in
set_option maxRecDepth 100000 in
theorem cells_any (s : ByteArray) (sep : UInt8) (w : World) (hsz : s.size ≤ 9223372036854775807) :
    Calls Tryz.prog 22 #[.string s, .int .u8 (sep.toNat : Int)] w (RetRows (cellsE sep s.data.toList) w) := by
  have hlen : s.data.toList.length = s.size := by simp
  have HSEP := Lib.hid (separates_any sep)
  obtain ⟨q, hq⟩ : ∃ q, isSep sep = q := ⟨_, rfl⟩
  rw [hq] at HSEP
  have hb1 := bone w (.cells #[.int .i64 0, .int .i64 0] 40)
  have hP1 := Blk.new w 40 #[.int .i64 0, .int .i64 0]
  have f0 := hP1.frozen 0
  have f1 := hP1.frozen 1
  cases q with
  | false =>
    have HE : Hid (cellsE sep s.data.toList = ([], (0, 0), 1)) := by show _ = _; unfold cellsE; rw [if_pos hq]
    clear hq hlen
    go_enter Tryz.func22, Tryz.ntmps22
    go_upto_region 1 with fail
    obtain ⟨w1, hw1⟩ : ∃ w1, w.alloc (.cells #[.int .i64 0, .int .i64 0] 40) = w1 := ⟨_, rfl⟩
    rw [hw1] at hb1 hP1 f0 f1 ⊢
    clear hw1
    obtain ⟨d0, d1⟩ := hP1.c2
    go_wp2_with fail
    (with_reducible refine (HSEP.out _).mono ?_)
    rintro _ w2 ⟨rfl, rfl⟩
    go_wp2_with fail
    obtain ⟨r0, r1⟩ := (hP1.put2 (.int .i64 0) (.int .i64 0)).c2
    refine bodyPost_ret (v := .tuple #[.slice none 0 0, .agg #[.int .i64 0, .int .i64 0], .int .i64 1]) (by simp [results, Tryz.results22, go_sem, r0, r1]) rfl ?_
    rw [HE.out]
    exact ⟨_, rfl, Sl.none_, bset2' hb1 (Nat.le_refl _) _ _⟩
  | true =>
  by_cases hlong : 16384 < s.size
  · have HE : Hid (cellsE sep s.data.toList = ([], (0, 0), 5)) := by show _ = _; unfold cellsE; rw [if_neg (by rw [hq]; decide), if_pos (by omega)]
    have i1 : (16384 : Int) < (s.size : Int) := by omega
    clear hq hlen
    go_enter Tryz.func22, Tryz.ntmps22
    go_upto_region 1 with fail
    obtain ⟨w1, hw1⟩ : ∃ w1, w.alloc (.cells #[.int .i64 0, .int .i64 0] 40) = w1 := ⟨_, rfl⟩
    rw [hw1] at hb1 hP1 f0 f1 ⊢
    clear hw1
    obtain ⟨d0, d1⟩ := hP1.c2
    go_wp2_with fail
    (with_reducible refine (HSEP.out _).mono ?_)
    rintro _ w2 ⟨rfl, rfl⟩
    go_wp2_with fail
    obtain ⟨r0, r1⟩ := (hP1.put2 (.int .i64 0) (.int .i64 0)).c2
    refine bodyPost_ret (v := .tuple #[.slice none 0 0, .agg #[.int .i64 0, .int .i64 0], .int .i64 5]) (by simp [results, Tryz.results22, go_sem, r0, r1]) rfl ?_
    rw [HE.out]
    exact ⟨_, rfl, Sl.none_, bset2' hb1 (Nat.le_refl _) _ _⟩
  have hs : s.size ≤ 16384 := by omega
  have HE : Hid (cellsE sep s.data.toList = tabE s.data.toList (tabR sep s.data.toList.length [] s.data.toList)) := by
    show _ = _
    unfold cellsE
    rw [if_neg (by rw [hq]; decide), if_neg (by omega)]
  have i1 : ¬ (16384 : Int) < (s.size : Int) := by omega
  clear hq hlong
  go_enter Tryz.func22, Tryz.ntmps22
  go_upto_region 1 with fail
  obtain ⟨w1, hw1⟩ : ∃ w1, w.alloc (.cells #[.int .i64 0, .int .i64 0] 40) = w1 := ⟨_, rfl⟩
  have hs1 : w1.heap.size = w.heap.size + 1 := by rw [← hw1]; simp
  rw [hw1] at hb1 hP1 f0 f1 ⊢
  clear hw1 f0 f1
  go_wp2_with fail
  (with_reducible refine (HSEP.out _).mono ?_)
  rintro _ w2 ⟨rfl, rfl⟩
  go_upto_region 6 with fail
  have hR2 := Blk.new w1 107 #[.string s, .int .u8 (sep.toNat : Int), .int .i64 0, .int .i64 1, .int .i64 1]
  have hb12 := bone w1 (.cells #[.string s, .int .u8 (sep.toNat : Int), .int .i64 0, .int .i64 1, .int .i64 1] 107)
  have hP2 := hP1.now hb12
  have hb2 := bbox hb1 (.cells #[.string s, .int .u8 (sep.toNat : Int), .int .i64 0, .int .i64 1, .int .i64 1] 107)
  have hs2 : (w1.alloc (.cells #[.string s, .int .u8 (sep.toNat : Int), .int .i64 0, .int .i64 1, .int .i64 1] 107)).heap.size = w.heap.size + 2 := by simp [hs1]
  rw [hs1] at hR2
  obtain ⟨w2, hw2⟩ : ∃ w2, w1.alloc (.cells #[.string s, .int .u8 (sep.toNat : Int), .int .i64 0, .int .i64 1, .int .i64 1] 107) = w2 := ⟨_, rfl⟩
  rw [hw2] at hR2 hP2 hb2 hs2 ⊢
  have HR2 : Hid (RdC w2 (w.heap.size + 1) s sep 0) := hR2
  have HP2 := Lib.hid hP2
  have HB2 := Lib.hid hb2
  have HS2 := Lib.hid hs2
  clear hw2 hb12 hP1 hb1 hs1 hR2 hP2 hb2 hs2
  go_wp2_with fail
  go_loopg [8] s.size (fun g1 ov wr => ∃ (i n : Nat) (acc : List (List Bt)), i ≤ s.size ∧ s.size ≤ g1 + i ∧ acc.length ≤ i ∧ RdC wr (w.heap.size + 1) s sep i ∧ Blk wr w.heap.size 40 #[.int .i64 0, .int .i64 0] ∧ OwnR 1 RStrs (Lt w2.heap.size) wr w2.heap.size 51 ov acc ∧ Chg (One (w.heap.size + 1)) w2 wr ∧ s.size ≤ n + i ∧ Hid (tabR sep s.data.toList.length [] s.data.toList = tabR sep n acc (s.data.toList.drop i)))
  case atStart => exact ⟨0, s.size, [], Nat.zero_le _, by omega, Nat.le_refl _, HR2.out, HP2.out, OwnR.nil, Chg.refl, by omega, by show _ = _; rw [hlen, List.drop_zero]⟩
  case round =>
    obtain ⟨i, n, acc, his, hg, hal, hR, hP, hO, hC, hn, hQ⟩ := hrel
    have HRI := Lib.hid hR
    have HPI := Lib.hid hP
    have HOI := Lib.hid hO
    have HC := Lib.hid hC
    have HMI := Lib.hid (more_any _ s sep i wr hR hs)
    obtain ⟨A, cb, hA⟩ := hO.open_
    subst hA
    clear hR hP hO hC
    by_cases hi : i < s.size
    · have HM : Hid (Calls Tryz.prog 68 #[.pointer (some ⟨w.heap.size + 1, 0, none⟩)] wr fun e w' => e = .returned (.bool true) ∧ Below wr.heap.size wr w') := by have := HMI.out; rwa [decide_eq_true hi] at this
      have HDI := Lib.hid (dropAt hi)
      clear HMI
      go_wp2_with fail
      (with_reducible refine HM.out.mono ?_)
      rintro _ w3 ⟨rfl, hb3⟩
      have HR3 : Hid (RdC w3 (w.heap.size + 1) s sep i) := Blk.now HRI.out hb3
      have HP3 := Lib.hid (HPI.out.now hb3)
      have HO3 := Lib.hid (HOI.out.now RStrs.kept hb3)
      have HC3 := Lib.hid (HC.out.trans (Chg.of_below hb3))
      clear HM hb3 HRI HPI HOI HC
      by_cases hful : acc.length = 2001
      · have e1 : ((acc.length : Int) == 2001) = true := by rw [hful]; rfl
        have HT : Hid (tabR sep s.data.toList.length [] s.data.toList = .bad (s.data.toList.drop i) 5) := by
          show _ = _
          rw [hQ.out, HDI.out, tabR_full hful]
        have hB3 : Blk w3 (w.heap.size + 1) 107 (rdrCells s sep i (plAt s.data.toList i)) := HR3.out
        obtain ⟨c0, c1, c2, c3, c4⟩ := hB3.c5
        obtain ⟨d0, d1⟩ := HP3.out.c2
        have f0 := HP3.out.frozen 0
        have f1 := HP3.out.frozen 1
        have HB3 := Lib.hid (HB2.out.trans (HC3.out.below (B := w.heap.size) (by have := HB2.out.size; omega) fun b hb e => by have e : b = w.heap.size + 1 := e; omega))
        clear hful hB3
        obtain ⟨⟨p1, p2⟩, hpl⟩ : ∃ pl, plAt s.data.toList i = pl := ⟨_, rfl⟩
        rw [hpl] at c3 c4
        have HPL := Lib.hid hpl
        clear hpl
        simp only at c3 c4
        go_upto_region 9 with fail
        go_region
        have hz := (HP3.out.put2 (.int .i64 p1) (.int .i64 p2)).drew
        have hbz := (bset2' HB3.out (Nat.le_refl _) (.int .i64 p1) (.int .i64 p2)).drew
        generalize ((w3.setCell ⟨w.heap.size, 0, none⟩ (.int .i64 p1)).setCell ⟨w.heap.size, 1, none⟩ (.int .i64 p2)).drew = wz at hz hbz ⊢
        obtain ⟨r0, r1⟩ := hz.c2
        go_wp2_with fail
        refine bodyPost_ret (v := .tuple #[.slice none 0 0, .agg #[.int .i64 p1, .int .i64 p2], .int .i64 5]) (by simp [results, Tryz.results22, go_sem, r0, r1]) rfl ?_
        have HF : cellsE sep s.data.toList = ([], (p1, p2), 5) := by
          rw [HE.out, HT.out]
          show ([], plAt s.data.toList (s.data.toList.length - (s.data.toList.drop i).length), 5) = _
          rw [List.length_drop, hlen, show s.size - (s.size - i) = i by omega, HPL.out]
        rw [HF]
        exact ⟨_, rfl, Sl.none_, hbz⟩
      · have e1 : ((acc.length : Int) == 2001) = false := beq_false_of_ne (by omega)
        go_wp2_with fail
        go_loopg [9] s.size (fun g2 rv wr2 => ∃ (j m : Nat) (racc : List Bt), i ≤ j ∧ j ≤ s.size ∧ s.size ≤ g2 + j ∧ racc.length ≤ j ∧ (∀ l ∈ racc, l.length ≤ maxLen) ∧ RdC wr2 (w.heap.size + 1) s sep j ∧ OwnT wr2 w3.heap.size rv racc ∧ Chg (One (w.heap.size + 1)) w3 wr2 ∧ s.size ≤ m + j ∧ Hid (rowR sep (s.data.toList.drop i).length [] (s.data.toList.drop i) = rowR sep m racc (s.data.toList.drop j)))
        case atStart => exact ⟨i, (s.data.toList.drop i).length, [], Nat.le_refl _, his, by omega, Nat.zero_le _, (fun l hl => by cases hl), HR3.out, OwnT.nil, Chg.refl, by rw [List.length_drop]; omega, rfl⟩
        case round =>
          obtain ⟨j, m, racc, hij, hjs, hg2, hrl, hrb, hR, hT, hC, hm, hRQ⟩ := hrel
          have HT := Lib.hid hT
          have HC := Lib.hid hC
          have HCELL := Lib.hid (cell_any _ s sep j wr hR hs hjs)
          obtain ⟨Ar, cr, hA⟩ := hT.open_
          subst hA
          clear hR hT hC
          go_wp2_with fail
          (with_reducible refine HCELL.out.mono ?_)
          rintro e w4 ⟨j1, hj1, hj1s, hR4, hC4, hm4⟩
          obtain ⟨cr, hcr⟩ : ∃ cr, cellR sep (s.data.toList.drop j) = cr := ⟨_, rfl⟩
          rw [hcr] at hm4
          have HC4 := Lib.hid (HC.out.trans hC4)
          have HT4 := Lib.hid (HT.out.chg hC4 (by have := HS2.out; have := HC3.out.size; omega))
          have HR4 := Lib.hid hR4
          clear HCELL HC HT hR4 hC4
          cases cr with
          | bad rest k =>
            obtain ⟨rfl, hk, rfl⟩ := hm4
            have hkk : (k != 0) = true := by simpa using hk
            obtain ⟨n', rfl⟩ : ∃ n', n = n' + 1 := ⟨n - 1, by omega⟩
            have HTT : Hid (tabR sep s.data.toList.length [] s.data.toList = .bad (s.data.toList.drop j1) k) := by
              show _ = _
              rw [hQ.out, HDI.out, tabR_bad hful (by rw [← HDI.out, hRQ.out, rowR_bad hcr])]
            have hB4 : Blk w4 (w.heap.size + 1) 107 (rdrCells s sep j1 (plAt s.data.toList j1)) := HR4.out
            obtain ⟨c0, c1, c2, c3, c4⟩ := hB4.c5
            have HP4 := Lib.hid (HP3.out.chg HC4.out (show ¬ w.heap.size = w.heap.size + 1 by omega))
            obtain ⟨d0, d1⟩ := HP4.out.c2
            have f0 := HP4.out.frozen 0
            have f1 := HP4.out.frozen 1
            have HB4 := Lib.hid (HB2.out.trans ((HC3.out.trans HC4.out).below (B := w.heap.size) (by have := HB2.out.size; omega) fun b hb e => by have e : b = w.heap.size + 1 := e; omega))
            clear hB4 hcr hk
            obtain ⟨⟨p1, p2⟩, hpl⟩ : ∃ pl, plAt s.data.toList j1 = pl := ⟨_, rfl⟩
            rw [hpl] at c3 c4
            have HPL := Lib.hid hpl
            clear hpl
            simp only at c3 c4
            go_upto_region 13 with fail
            go_region
            have hz := (HP4.out.put2 (.int .i64 p1) (.int .i64 p2)).drew
            have hbz := (bset2' HB4.out (Nat.le_refl _) (.int .i64 p1) (.int .i64 p2)).drew
            generalize ((w4.setCell ⟨w.heap.size, 0, none⟩ (.int .i64 p1)).setCell ⟨w.heap.size, 1, none⟩ (.int .i64 p2)).drew = wz at hz hbz ⊢
            obtain ⟨r0, r1⟩ := hz.c2
            go_wp2_with fail
            refine bodyPost_ret (v := .tuple #[.slice none 0 0, .agg #[.int .i64 p1, .int .i64 p2], .int .i64 k]) (by simp [results, Tryz.results22, go_sem, r0, r1]) rfl ?_
            have HF : cellsE sep s.data.toList = ([], (p1, p2), k) := by
              rw [HE.out, HTT.out]
              show ([], plAt s.data.toList (s.data.toList.length - (s.data.toList.drop j1).length), k) = _
              rw [List.length_drop, hlen, show s.size - (s.size - j1) = j1 by omega, HPL.out]
            rw [HF]
            exact ⟨_, rfl, Sl.none_, hbz⟩
          | ok b rest =>
            obtain ⟨hrest, hbl, rfl⟩ := hm4
            have HS4 := Lib.hid HC4.out.size
            have hbm : b.length ≤ maxLen := by unfold maxLen; omega
            have HCR := Lib.hid hcr
            have HREST := Lib.hid hrest
            clear hcr hrest
            go_upto_region 15 with (at_builtin; refine wpList_push appStr rfl (.tmp 48) (.tmp 50) rfl w4 [.string (bsOf b)] rfl (fun u hu => by simp at hu; subst hu; rfl) _ racc.length (racc.map fun l => Value.string (bsOf l)) rfl HT4.out rfl (by omega) HS4.out ?_; intro v' w5 hown hgr hat)
            have hrl2 : (racc ++ [b]).length = racc.length + 1 := by rw [List.length_append, List.length_singleton]
            have HT5 : Hid (OwnT w5 w3.heap.size v' (racc ++ [b])) := by
              show World.ownsRow _ _ _ _ _ _ _
              rw [hrl2, List.map_append]; exact hown
            have HR5 := Lib.hid (HR4.out.grown hgr (fun e => by have := (World.ownsRow.lt HT4.out _ e.symm).1; have := HS2.out; have := HC3.out.size; omega))
            have HC5 := Lib.hid (HC4.out.more hgr (fun g hg => .inl (World.ownsRow.lt HT4.out g hg).1))
            have hrb2 : ∀ l ∈ racc ++ [b], l.length ≤ maxLen := fun l hl => by
              rcases List.mem_append.1 hl with hl | hl
              · exact hrb l hl
              · rw [List.mem_singleton] at hl; rw [hl]; exact hbm
            obtain ⟨Av, cv, hv⟩ := HT5.out.open_
            rw [hrl2] at hv
            subst hv
            clear hown hgr hat HT4 HR4 HC4 hrb hbm
            have HMJ := Lib.hid (more_any _ s sep j1 w5 HR5.out hs)
            go_cut [59] from 52 to 59 (fun x W => ∃ (q : Bool) (j2 : Nat), x = .bool q ∧ RdC W (w.heap.size + 1) s sep j2 ∧ Chg (One (w.heap.size + 1)) w5 W ∧ i < j2 ∧ j2 ≤ s.size ∧ j1 ≤ j2 ∧ j ≤ j2 ∧ (q = true → rowR sep m racc (s.data.toList.drop j) = .ok (racc ++ [b]) (s.data.toList.drop j2)) ∧ (q = false → j < j2 ∧ 1 ≤ m ∧ rowR sep m racc (s.data.toList.drop j) = rowR sep (m - 1) (racc ++ [b]) (s.data.toList.drop j2)))
            case first =>
              by_cases hj1 : j1 < s.size
              · have HM : Hid (Calls Tryz.prog 68 #[.pointer (some ⟨w.heap.size + 1, 0, none⟩)] w5 fun e w' => e = .returned (.bool true) ∧ Below w5.heap.size w5 w') := by have := HMJ.out; rwa [decide_eq_true hj1] at this
                have HDJ := Lib.hid (dropAt hj1)
                have e3 := beqI s[j1] 10 10 rfl
                have HN0 := Lib.hid (fun W hW => next_any (w.heap.size + 1) s sep j1 W hW hs hj1)
                generalize s[j1] = c at *
                obtain ⟨z, hz⟩ : ∃ z, (c.toNat : Int) = z := ⟨_, rfl⟩
                rw [hz] at e3 HN0
                obtain ⟨q, hq⟩ : ∃ q, (c == 10) = q := ⟨_, rfl⟩
                rw [hq] at e3
                have HQQ := Lib.hid hq
                clear HMJ hz hq
                go_wp2_with fail
                (with_reducible refine HM.out.mono ?_)
                rintro _ w6 ⟨rfl, hb6⟩
                have HR6 : Hid (RdC w6 (w.heap.size + 1) s sep j1) := Blk.now HR5.out hb6
                have HC6 := Lib.hid (Chg.of_below (S := One (w.heap.size + 1)) hb6)
                clear hb6
                go_wp2_with fail
                (with_reducible refine (HN0.out w6 HR6.out).mono ?_)
                rintro _ w7 ⟨rfl, hR7, hC7⟩
                have HR7 := Lib.hid hR7
                have HC7 := Lib.hid (HC6.out.trans hC7)
                clear hR7 hC7
                go_wp2_with fail
                go_meet
                refine ⟨q, j1 + 1, rfl, HR7.out, HC7.out, by omega, by omega, by omega, by omega, fun h => ?_, fun h => ?_⟩
                · have hc : c = 10 := by have := HQQ.out; rw [h] at this; exact beq_iff_eq.1 this
                  have h1 := HCR.out
                  rw [HREST.out, HDJ.out, hc] at h1
                  exact rowR_line h1
                · have hc : c ≠ 10 := fun e => by have := HQQ.out; rw [h, e] at this; cases this
                  have h1 := HCR.out
                  rw [HREST.out, HDJ.out] at h1
                  obtain ⟨m', rfl⟩ : ∃ m', m = m' + 1 := ⟨m - 1, by omega⟩
                  exact ⟨by omega, by omega, rowR_next h1 hc⟩
              · have HM : Hid (Calls Tryz.prog 68 #[.pointer (some ⟨w.heap.size + 1, 0, none⟩)] w5 fun e w' => e = .returned (.bool false) ∧ Below w5.heap.size w5 w') := by have := HMJ.out; rwa [decide_eq_false hj1] at this
                clear HMJ
                go_wp2_with fail
                (with_reducible refine HM.out.mono ?_)
                rintro _ w6 ⟨rfl, hb6⟩
                have HR6 : Hid (RdC w6 (w.heap.size + 1) s sep j1) := Blk.now HR5.out hb6
                have HC6 := Lib.hid (Chg.of_below (S := One (w.heap.size + 1)) hb6)
                clear hb6
                go_wp2_with fail
                go_meet
                have hde : s.data.toList.drop j1 = [] := dropEnd (by omega)
                refine ⟨true, j1, rfl, HR6.out, HC6.out, by omega, by omega, by omega, by omega, fun h => ?_, fun h => by cases h⟩
                have h1 := HCR.out
                rw [HREST.out, hde] at h1
                rw [hde]
                exact rowR_end h1
            obtain ⟨q, j2, rfl, hR6, hC6, hij2, hj2s, hj12, hjj2, hqt, hqf⟩ := hcut
            have HT6 := Lib.hid (HT5.out.chg hC6 (by have := HS2.out; have := HC3.out.size; omega))
            have HC6 := Lib.hid (HC5.out.trans hC6)
            have HR6 := Lib.hid hR6
            clear hR6 hC6 HT5 HC5 HR5 HMJ
            cases q with
            | false =>
              obtain ⟨hlt, hm1, hrw⟩ := hqf rfl
              have HRW : Hid (rowR sep (s.data.toList.drop i).length [] (s.data.toList.drop i) = rowR sep (m - 1) (racc ++ [b]) (s.data.toList.drop j2)) := by show _ = _; rw [hRQ.out, hrw]
              clear hqt hqf hrw
              go_wp2_with fail
              go_roundg (s.size - j2)
              case measure => omega
              case rel => exact ⟨j2, m - 1, racc ++ [b], by omega, hj2s, by omega, by omega, hrb2, HR6.out, HT6.out, HC6.out, by omega, HRW.out⟩
            | true =>
              have hrw := hqt rfl
              obtain ⟨n', rfl⟩ : ∃ n', n = n' + 1 := ⟨n - 1, by omega⟩
              have HTR : Hid (tabR sep s.data.toList.length [] s.data.toList = tabR sep n' (acc ++ [racc ++ [b]]) (s.data.toList.drop j2)) := by
                show _ = _
                rw [hQ.out, HDI.out, tabR_row hful (by rw [← HDI.out, hRQ.out, hrw])]
              clear hqt hqf hrw
              have HP6 := Lib.hid (HP3.out.chg HC6.out (show ¬ w.heap.size = w.heap.size + 1 by omega))
              have HO6 := Lib.hid (OwnR.chg HO3.out RStrs.kept HC6.out (show w.heap.size + 1 < w2.heap.size by have := HS2.out; omega) (by have := HS2.out; omega))
              have HC6' := Lib.hid (HC3.out.trans HC6.out)
              have HS6 := Lib.hid HC6'.out.size
              have HY : Hid (RStrs (Off (Lt w2.heap.size) wc (.slice A acc.length cb)) wc (racc ++ [b]) [.slice Av (racc.length + 1) cv]) := by
                refine ⟨_, rfl, own_slPD HT6.out (fun g hg => ?_) hrb2⟩
                have h1 := World.ownsRow.lt HT6.out g hg
                have h2 := HS2.out
                have h3 := HC3.out.size
                refine ⟨h1.2, fun e => ?_, fun e => ?_⟩
                · have := (HO3.out.lt g e).2
                  omega
                · have e : g < w2.heap.size := e
                  omega
              clear HO3 HP3 HR3 HT6 HC6 hrb2
              go_wp2_with (at_builtin; refine wpList_pushR (X := Lt w2.heap.size) appStrs RStrs.kept rfl (.tmp 60) (.tmp 62) rfl wc [.slice Av (racc.length + 1) cv] rfl (fun u hu => by simp at hu; subst hu; rfl) _ acc (racc ++ [b]) rfl HO6.out HY.out rfl (by omega) HS6.out ?_; intro v' w7 hown hgr hat)
              have HO7 := Lib.hid hown
              have HG7 := Lib.hid hgr
              clear hown hgr hat
              go_roundg (s.size - j2)
              case measure => omega
              case rel =>
                have hne : ∀ x, x < w2.heap.size → some x ≠ (Value.slice A acc.length cb).ownBlock := fun x hx e => by
                  have := (HO6.out.lt x e.symm).1
                  omega
                refine ⟨j2, n', acc ++ [racc ++ [b]], hj2s, by omega, by rw [List.length_append, List.length_singleton]; omega, HR6.out.grown HG7.out (hne _ (by have := HS2.out; omega)), HP6.out.grown HG7.out (hne _ (by have := HS2.out; omega)), HO7.out, HC6'.out.more HG7.out (fun g hg => .inl (HO6.out.lt g hg).1), by omega, HTR.out⟩
    · have HM : Hid (Calls Tryz.prog 68 #[.pointer (some ⟨w.heap.size + 1, 0, none⟩)] wr fun e w' => e = .returned (.bool false) ∧ Below wr.heap.size wr w') := by have := HMI.out; rwa [decide_eq_false hi] at this
      have HF : Hid (cellsE sep s.data.toList = (acc, (0, 0), 0)) := by
        show _ = _
        rw [HE.out, hQ.out, dropEnd (by omega), tabR_end]; rfl
      clear HMI
      go_wp2_with fail
      (with_reducible refine HM.out.mono ?_)
      rintro _ w3 ⟨rfl, hb3⟩
      have HR3 : Hid (RdC w3 (w.heap.size + 1) s sep i) := Blk.now HRI.out hb3
      have hP3 := HPI.out.now hb3
      have HO3 := Lib.hid (HOI.out.now RStrs.kept hb3)
      have HC3 := Lib.hid (HC.out.trans (Chg.of_below hb3))
      have HB3 := Lib.hid (HB2.out.trans (HC3.out.below (B := w.heap.size) (by have := HB2.out.size; omega) fun b hb e => by have e : b = w.heap.size + 1 := e; omega))
      obtain ⟨d0, d1⟩ := hP3.c2
      have f0 := hP3.frozen 0
      have f1 := hP3.frozen 1
      have HP3 := Lib.hid hP3
      clear HM hb3 HRI HPI HOI HC hP3
      go_wp2_with fail
      have hz := HP3.out.put2 (.int .i64 0) (.int .i64 0)
      have hbz := bset2' HB3.out (Nat.le_refl _) (.int .i64 0) (.int .i64 0)
      have hoz : Sl 1 RStrs (Lt ((w3.setCell ⟨w.heap.size, 0, none⟩ (.int .i64 0)).setCell ⟨w.heap.size, 1, none⟩ (.int .i64 0)).heap.size) ((w3.setCell ⟨w.heap.size, 0, none⟩ (.int .i64 0)).setCell ⟨w.heap.size, 1, none⟩ (.int .i64 0)) (.slice A acc.length cb) acc := by
        have hpl : w.heap.size < w2.heap.size := by have := HS2.out; omega
        have hne : (Value.slice A acc.length cb).ownBlock ≠ some w.heap.size := fun e => by
          have := (HO3.out.lt _ e).1
          omega
        exact ((HO3.out.far RStrs.kept (p := ⟨w.heap.size, 0, none⟩) hpl hne _).far RStrs.kept (p := ⟨w.heap.size, 1, none⟩) hpl hne _).sl RStrs.kept
      generalize (w3.setCell ⟨w.heap.size, 0, none⟩ (.int .i64 0)).setCell ⟨w.heap.size, 1, none⟩ (.int .i64 0) = wz at hz hbz hoz ⊢
      obtain ⟨r0, r1⟩ := hz.c2
      refine bodyPost_ret (v := .tuple #[.slice A acc.length cb, .agg #[.int .i64 0, .int .i64 0], .int .i64 0]) (by simp [results, Tryz.results22, go_sem, r0, r1]) rfl ?_
      rw [HF.out]
      exact ⟨_, rfl, hoz, hbz⟩
end Go.Proofs.YtoalecalahkblaaGreatDoor
