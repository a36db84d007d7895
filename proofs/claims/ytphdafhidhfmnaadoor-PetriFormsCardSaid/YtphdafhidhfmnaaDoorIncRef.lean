/- casebookref21.Has and Incidence. -/
import Derived.Test.YtphdafhidhfmnaaDoorInc
import Derived.Test.YtphdafhidhfmnaaDoorOwnR
namespace Go.Proofs.YtphdafhidhfmnaaDoor
open Go.RowKit

set_option maxHeartbeats 400000 in
theorem has_ref (v : Value) (xs : List Int) (x : Int) (w : World) (hu : SlI (Lt w.heap.size) w v xs) :
    Calls Tryd.prog 58 #[v, .int .i64 x] w fun e w' => e = .returned (.bool (xs.contains x)) ∧ w = w' := by
  obtain ⟨A, c, rfl, h1, h2, hu⟩ := hu.open_
  generalize hc : xs.contains x = r
  have HR := Lib.hid hc
  clear hc
  go_enter Tryd.func58, Tryd.ntmps58
  go_wp2_with fail
  go_loop [5] (fun i => ∃ k : Nat, k ≤ xs.length ∧ i = .int .i64 k ∧ ∀ j, j < k → xs[j]? ≠ some x) (fun i => xs.length - (intOf i).toNat)
  case atStart => exact ⟨0, Nat.zero_le _, rfl, fun j h => absurd h (by omega)⟩
  case round =>
    obtain ⟨k, hk, rfl, hp⟩ := hrel
    have HP := Lib.hid hp
    clear hp
    by_cases hlt : k < xs.length
    · obtain ⟨b, o, y, rfl, hD, hx, hf, hcell⟩ := hu.at_ hlt
      have HX := Lib.hid hx
      clear hx
      by_cases hy : y = x
      · subst hy
        have HE : Hid (xs.contains y = true) := by
          show xs.contains y = true
          rw [List.contains_iff_mem]; exact List.mem_of_getElem? HX.out
        have t1 : (y == y) = true := by simp
        go_wp2
        go_ret
        exact ⟨ret_bool (HE.out.symm.trans HR.out), rfl⟩
      · have t1 : (y == x) = false := by simpa using hy
        have HY := Lib.hid hy
        clear hy
        go_wp2
        go_round
        case rel => exact ⟨k + 1, by omega, by go_num, fun j hj => by
          by_cases e : j = k
          · subst e; rw [HX.out]; intro e; injection e with e; exact HY.out e
          · exact HP.out j (by omega)⟩
        case measure => simp [intOf]; omega
    · have HE : Hid (xs.contains x = false) := by
        show xs.contains x = false
        rw [Bool.eq_false_iff]
        intro e
        rw [List.contains_iff_mem] at e
        obtain ⟨q, hq, e⟩ := List.mem_iff_getElem.1 e
        exact HP.out q (by omega) (by rw [List.getElem?_eq_getElem hq, e])
      go_wp2
      go_ret
      exact ⟨ret_bool (HE.out.symm.trans HR.out), rfl⟩

theorem OwnR.xs {α : Type} {size : Nat} {R : ElemR α} {X X' : Nat → Prop} {w : World} {base t : Nat} {v : Value} {xs : List α} (h : OwnR size R X w base t v xs) (hR : ElemR.Kept R) (hx : ∀ b, b < w.heap.size → X' b → X b) : OwnR size R X' w base t v xs := by
  obtain ⟨cs, h1, h2⟩ := h
  refine ⟨cs, h1, fun i x hi => ?_⟩
  obtain ⟨es, a, b, c⟩ := h2 i x hi
  exact ⟨es, a, b, hR _ _ _ _ _ _ (fun b hb => ⟨hb.1, hb.2.1, fun hX => hb.2.2 (hx b hb.1 hX)⟩) (Same.refl _ _) c⟩

structure JSt (w0 wr : World) (B0 B bx gr : Nat) (v : Value) (m : List (List Int)) (nv : Array Value) (row : List Int) : Prop where
  rows : OwnR 1 RRow (fun b => b = gr) wr B 25 v m
  row : OwnF (Value.int .i64) wr gr 3 gr row.length row
  net : Blk wr bx 24 nv
  below : Below B0 w0 wr
theorem JSt.set_ {w0 wr : World} {B0 B bx gr : Nat} {v : Value} {m : List (List Int)} {nv : Array Value} {row : List Int} (h : JSt w0 wr B0 B bx gr v m nv row) (j : Nat) (z : Int) (h1 : bx < gr) (h2 : v.ownBlock ≠ some gr) (hB : B0 ≤ gr) : JSt w0 (wr.setCell ⟨gr, j, none⟩ (.int .i64 z)) B0 B bx gr v m nv (row.set j z) :=
  ⟨h.rows.far RRow.kept (p := ⟨gr, j, none⟩) rfl h2 _, by rw [List.length_set]; exact h.row.set_ j z, h.net.far (by show bx ≠ gr; omega) _, h.below.setCell hB _⟩
theorem appRows : AppInfo Tryd.prog 54 25 1 := AppInfo.mk' (z := .slice none 0 0) (bytes := 24) Tryd.underlying54 (by kernel_rfl) (by omega) rfl (by omega)

set_option maxHeartbeats 2000000 in
theorem inc_ref (n : Net) (v : Value) (w : World) (h : IsNet (Lt w.heap.size) w v n) :
    Calls Tryd.prog 30 #[v] w (RetIIE (incE n).1 (incE n).2 w) := by
  have h0 := h
  obtain ⟨tv, rfl, hp, hs, hkk, ht⟩ := h
  obtain ⟨A, c, rfl, h1, h2, ht⟩ := ht.open_
  go_enter Tryd.func30, Tryd.ntmps30
  go_wp2_with fail
  have hb := bone w (Obj.cells #[Value.int IntKind.i64 n.places, Value.slice A n.trans.length c, Value.int IntKind.i64 n.source, Value.int IntKind.i64 n.sink] 24)
  refine (valid_ref n _ _ (h0.now hb)).mono ?_
  rintro e w1 ⟨rfl, hb1⟩
  have hbw := bthen hb hb1
  have hB1 := (Blk.new w 24 #[.int .i64 n.places, .slice A n.trans.length c, .int .i64 n.source, .int .i64 n.sink]).now hb1
  have hbx := hB1.lt
  clear hb hb1
  generalize hq : validB n = q
  have HV := Lib.hid hq
  clear hq
  cases q
  · have HE := Lib.hid (incE_inv HV.out)
    go_wp2_with fail
    go_ret2
    rw [HE.out]
    exact ⟨_, rfl, Sl.none_, hbw⟩
  obtain ⟨v1, v2, v3, v4⟩ := validOk HV.out
  clear v4
  obtain ⟨q0, q1, q2, q3⟩ := hB1.c4
  by_cases hc0 : n.trans.length < 1
  · have HE := Lib.hid (incE_full HV.out (.inl (by omega)))
    go_wp2_with fail
    go_ret2
    rw [HE.out]
    exact ⟨_, rfl, Sl.none_, hbw⟩
  by_cases hc1 : 20 < n.trans.length
  · have HE := Lib.hid (incE_full HV.out (.inr (.inl hc1)))
    go_wp2_with fail
    go_ret2
    rw [HE.out]
    exact ⟨_, rfl, Sl.none_, hbw⟩
  by_cases hc2 : 20 < n.places
  · have HE := Lib.hid (incE_full HV.out (.inr (.inr hc2)))
    go_wp2_with fail
    go_ret2
    rw [HE.out]
    exact ⟨_, rfl, Sl.none_, hbw⟩
  have HE := Lib.hid (incE_ok HV.out (by rintro (h | h | h); exact hc0 (by omega); exact hc1 h; exact hc2 h))
  obtain ⟨P, hP⟩ := Int.eq_ofNat_of_zero_le (show 0 ≤ n.places by omega)
  have HPn : Hid (n.places.toNat = P) := by show n.places.toNat = P; omega
  rw [hP] at q0 hB1
  have hP1 : 1 ≤ P := by omega
  have hP20 : P ≤ 20 := by omega
  clear hP hp hc2 v1 v2 v3
  go_wp2_with fail
  clear q0 q1 q2 q3
  go_loopw [4, 5] (fun o i wr => ∃ (k : Nat) (o4 : Value), k ≤ P ∧ i = .int .i64 k ∧ o = o4 ∧ OwnR 1 RRow (fun _ => False) wr w1.heap.size 25 o4 (incTo n k) ∧ Blk wr w.heap.size 24 #[.int .i64 P, .slice A n.trans.length c, .int .i64 n.source, .int .i64 n.sink] ∧ Below w.heap.size w wr ∧ w1.heap.size ≤ wr.heap.size) (fun _ i _ => P - (intOf i).toNat)
  case atStart => exact ⟨0, _, Nat.zero_le _, rfl, rfl, OwnR.nil, hB1, hbw, Nat.le_refl _⟩
  case round =>
    obtain ⟨k, o4, hk, rfl, rfl, hor, hBr, hbr, hle⟩ := hrel
    obtain ⟨q0, q1, q2, q3⟩ := hBr.c4
    by_cases hlt : k < P
    · have i1 : (k : Int) < (P : Int) := by omega
      have hmk := run_make_n (P := Tryd.prog) 25 3 (.int .i64 0) 8 Tryd.underlying25 intInfo n.trans.length (by omega) (by omega) rfl
      have hol := hor.lt
      go_upto_region 11 with fail
      have hst : JSt w (wr.alloc (.cells (madeCells #[.int .i64 0] n.trans.length) 3)) w.heap.size w1.heap.size w.heap.size wr.heap.size u4 (incTo n k) #[.int .i64 P, .slice A n.trans.length c, .int .i64 n.source, .int .i64 n.sink] (partRow n k 0) := by
        refine ⟨(hor.xs RRow.kept (fun b hb e => by omega)).now RRow.kept (bone _ _), ?_, hBr.alloc _, bbox hbr _⟩
        rw [part_zero]
        have := OwnF.made (f := Value.int .i64) wr 3 n.trans.length 0 (by unfold maxLen; omega)
        simpa using this
      have hne : u4.ownBlock ≠ some wr.heap.size := fun e => by have := hol _ e; omega
      have hgB := hbr.size
      have hgx : w.heap.size < wr.heap.size := by omega
      have hle1 : w1.heap.size ≤ wr.heap.size := hle
      clear hmk q0 q1 q2 q3 hor hBr hbr hol
      generalize hwi : wr.alloc (.cells (madeCells #[.int .i64 0] n.trans.length) 3) = wi at *
      clear hwi
      generalize hgrd : wr.heap.size = gr at *
      clear hgrd hle
      go_loopw [7] (fun i wr => ∃ j : Nat, j ≤ n.trans.length ∧ i = .int .i64 j ∧ JSt w wr w.heap.size w1.heap.size w.heap.size gr u4 (incTo n k) #[.int .i64 P, .slice A n.trans.length c, .int .i64 n.source, .int .i64 n.sink] (partRow n k j)) (fun i _ => n.trans.length - (intOf i).toNat)
      case atStart => exact ⟨0, Nat.zero_le _, rfl, hst⟩
      case round =>
        clear hst
        obtain ⟨j, hj, rfl, hst⟩ := hrel
        have hBs := hst.below.size
        obtain ⟨q0, q1, q2, q3⟩ := hst.net.c4
        by_cases hjl : j < n.trans.length
        · obtain ⟨b, o, t, iv, ov, rfl, hD, hx, hlb, hti, hto, d0, d1, d2⟩ := (ht.below hst.below (Nat.le_refl _)).at_ hjl
          have HX := Lib.hid hx
          obtain ⟨Ai, ci, rfl, i1', i2', hti⟩ := hti.open_
          obtain ⟨Ao, co, rfl, o1', o2', hto⟩ := hto.open_
          clear hx
          have hDb : b < w.heap.size := hD
          have HP0 := Lib.hid (part_get n k j hjl)
          have HLp := Lib.hid (part_len n k j hj)
          have HST := Lib.hid (part_step n k j HX.out)
          generalize hrow : partRow n k j = row at *
          clear hrow
          have g3 := hst.row.cell HP0.out
          have g4 := hst.row.frozen j
          go_wp2_with fail
          refine (has_ref _ t.outs k _ (hto.below (Below.refl _ _) hBs)).mono ?_
          rintro e w' ⟨rfl, rfl⟩
          have HQ1 : Hid (incAt (k : Int) t = (if t.outs.contains (k : Int) then 1 else 0) - (if t.ins.contains (k : Int) then 1 else 0)) := rfl
          generalize t.outs.contains (k : Int) = qo at *
          cases qo
          · go_wp2_with fail
            refine (has_ref _ t.ins k _ (hti.below (Below.refl _ _) hBs)).mono ?_
            rintro e w' ⟨rfl, rfl⟩
            generalize t.ins.contains (k : Int) = qi at *
            cases qi
            · go_wp2_with fail
              go_roundw
              case rel =>
                refine ⟨j + 1, by omega, by go_num, ?_⟩
                rw [← HST.out, HQ1.out]
                have : row.set j 0 = row := set_same HP0.out
                simpa [this] using hst
              case measure => simp [intOf]; omega
            · go_wp2_with fail
              go_roundw
              case rel =>
                refine ⟨j + 1, by omega, by go_num, ?_⟩
                rw [← HST.out, HQ1.out]
                exact hst.set_ j (-1) hgx hne (by omega)
              case measure => simp [intOf]; omega
          · go_upto_region 15 with fail
            have hst1 := hst.set_ j 1 hgx hne (by omega)
            have hbS := (Below.refl w.heap.size wr).setCell (p := ⟨gr, j, none⟩) (by show w.heap.size ≤ gr; omega) (.int .i64 1)
            have hti1 := hti.below hbS (Nat.le_refl _)
            have f0 := (hbS.cell (p := ⟨b, o + j * 3, none⟩) hDb).trans d0
            have f1 := (hbS.cell (p := ⟨b, o + j * 3 + 1, none⟩) hDb).trans d1
            have f2 := (hbS.cell (p := ⟨b, o + j * 3 + 2, none⟩) hDb).trans d2
            have hBs1 : w.heap.size ≤ (wr.setCell ⟨gr, j, none⟩ (.int .i64 1)).heap.size := by simpa using hBs
            have HP1 : Hid ((row.set j 1)[j]? = some 1) := by show (row.set j 1)[j]? = some 1; rw [List.getElem?_set_self (by rw [HLp.out]; exact hjl)]
            clear g3 g4 q0 q1 q2 q3 d0 d1 d2 hti hto hst hbS
            generalize hw1' : wr.setCell ⟨gr, j, none⟩ (.int .i64 1) = wb at *
            clear hw1'
            obtain ⟨q0, q1, q2, q3⟩ := hst1.net.c4
            have g3 := hst1.row.cell HP1.out
            have g4 := hst1.row.frozen j
            go_wp2_with fail
            refine (has_ref _ t.ins k _ (hti1.below (Below.refl _ _) hBs1)).mono ?_
            rintro e w' ⟨rfl, rfl⟩
            generalize t.ins.contains (k : Int) = qi at *
            cases qi
            · go_wp2_with fail
              go_roundw
              case rel =>
                refine ⟨j + 1, by omega, by go_num, ?_⟩
                rw [← HST.out, HQ1.out]
                exact hst1
              case measure => simp [intOf]; omega
            · go_wp2_with fail
              go_roundw
              case rel =>
                refine ⟨j + 1, by omega, by go_num, ?_⟩
                rw [← HST.out, HQ1.out]
                have := hst1.set_ j 0 hgx hne (by omega)
                rw [List.set_set] at this
                exact this
              case measure => simp [intOf]; omega
        · obtain rfl : j = n.trans.length := by omega
          rw [part_full] at hst
          have hgl := hst.row.lt
          have hown : OwnR 1 RRow (fun _ => False) wr w1.heap.size 25 u4 (incTo n k) := hst.rows.xs RRow.kept (fun _ _ h => h.elim)
          have HRow : Hid (RRow (Off (fun _ => False) wr u4) wr (incRow n k) [.slice (some ⟨gr, 0, none⟩) n.trans.length n.trans.length]) := by
            refine ⟨_, rfl, ?_⟩
            have hr := hst.row
            rw [incRow_len] at hr
            have := Sl.of_own1 (R := RInt) (D := Off (fun _ => False) wr u4) (xs := incRow n k) hr.1 rfl (fun g hg => by
              injection hg with hg; subst hg; exact ⟨hr.lt, hne, fun h => h⟩) (fun q x hq => ⟨.int .i64 x, by simp [hq], rfl, by have := incRow_fit n k x (List.mem_of_getElem? hq); unfold Fit; omega⟩)
            rw [incRow_len] at this
            exact this
          have hkl : (incTo n k).length < 10000000 := by rw [incTo_len]; omega
          have hle2 : w1.heap.size ≤ wr.heap.size := by omega
          go_wp2_with (at_builtin; refine wpList_pushR appRows RRow.kept rfl (.tmp 75) (.tmp 77) rfl wr [.slice (some ⟨gr, 0, none⟩) n.trans.length n.trans.length] rfl (by simp [Value.oneCell']) u4 (incTo n k) (incRow n k) rfl hown HRow.out rfl hkl hle2 ?_; intro v' w' hown' hgr hat)
          have hbg : Below w1.heap.size wr w' := below_of_grown hgr (by omega) (fun g hg => (hown.lt g hg).1)
          go_roundw
          case rel =>
            refine ⟨k + 1, _, by omega, by go_num, rfl, ?_, hst.net.below hbg (by omega), hst.below.trans (hbg.mono (by omega)), Nat.le_trans hle2 hbg.size⟩
            rw [incTo_succ]
            exact hown'
          case measure => simp [intOf]; omega
    · have hkP : k = P := by omega
      rw [hkP] at hor
      have hkP' : ¬ ((k : Int) < (P : Int)) := by omega
      clear hkP hk
      go_wp2_with fail
      go_ret2
      rw [HE.out]
      refine ⟨_, rfl, ?_, hbr⟩
      have := hor.sl RRow.kept
      unfold incB
      rw [HPn.out]
      exact this
end Go.Proofs.YtphdafhidhfmnaaDoor
