/- PetriEquation: the marking equation holds, for every input. The walk of the law. -/
import Derived.Test.YtphdafhidhfmnaaDoorAwake
import Derived.Test.YtphdafhidhfmnaaDoorGreat
import Derived.Test.YtphdafhidhfmnaaDoorRun
import Derived.Test.YtphdafhidhfmnaaDoorMul
import Derived.Deep.QuietTactic
import Derived.BigQuiet
namespace Go.Proofs.YtphdafhidhfmnaaDoor
open Go.RowKit

theorem inc_first {n : Net} (h1 : 1 ≤ n.places) : firstLen (incB n) = n.trans.length := by
  unfold incB
  obtain ⟨k, hk⟩ : ∃ k, n.places.toNat = k + 1 := ⟨n.places.toNat - 1, by omega⟩
  rw [hk]
  have : incTo n (k + 1) = incRow n 0 :: (List.range k).map (fun i => incRow n (i + 1)) := by
    unfold incTo; rw [List.range_succ_eq_map]; simp
  rw [this]
  exact incRow_len n 0
theorem inc_at {n : Net} {p : Nat} {r : List Int} (h : (incB n)[p]? = some r) : r = incRow n p := by
  unfold incB at h
  have hp : p < n.places.toNat := by
    rcases Nat.lt_or_ge p n.places.toNat with h' | h'
    · exact h'
    · rw [List.getElem?_eq_none (by rw [incTo_len]; exact h')] at h; cases h
  rw [incTo_get n hp] at h
  injection h with h
  exact h.symm
theorem inc_rlen {n : Net} {r : List Int} (h : r ∈ incB n) : r.length = n.trans.length := by
  obtain ⟨k, hk, rfl⟩ := List.mem_iff_getElem.1 h
  rw [inc_at (List.getElem?_eq_getElem hk)]; exact incRow_len n k
theorem inc_unit {n : Net} {r : List Int} (h : r ∈ incB n) : Unit1 r := by
  obtain ⟨k, hk, rfl⟩ := List.mem_iff_getElem.1 h
  rw [inc_at (List.getElem?_eq_getElem hk)]; exact unit_inc n k

set_option maxHeartbeats 4000000 in
set_option maxRecDepth 100000 in
theorem lawEquation (n : Net) (m l : List Int) (v mv lv : Value) (w : World) (h : IsNet (Lt w.heap.size) w v n) (hm : SlI (Lt w.heap.size) w mv m) (hl : SlI (Lt w.heap.size) w lv l) :
    Calls Tryd.prog 8 #[v, mv, lv] w fun e w' => e = .returned (.bool true) ∧ Below w.heap.size w w' := by
  have h0 := h
  obtain ⟨tv, rfl, hp, hs, hkk, ht⟩ := h
  obtain ⟨A, c, rfl, h1, h2, ht⟩ := ht.open_
  obtain ⟨Al, cl, rfl, l1, l2, hl⟩ := hl.open_
  obtain ⟨Am, cm, rfl, m1, m2, hm⟩ := hm.open_
  go_enter Tryd.func8, Tryd.ntmps8
  go_wp2_with fail
  have hb := bone w (Obj.cells #[Value.int IntKind.i64 n.places, Value.slice A n.trans.length c, Value.int IntKind.i64 n.source, Value.int IntKind.i64 n.sink] 24)
  have hB := Blk.new w 24 #[.int .i64 n.places, .slice A n.trans.length c, .int .i64 n.source, .int .i64 n.sink]
  refine (awake_any _).mono ?_
  rintro e w1 ⟨rfl, hb1⟩
  have hb2 := bthen hb hb1
  have hB1 := hB.now hb1
  obtain ⟨q0, q1, q2, q3⟩ := hB1.c4
  clear hb hB hb1
  go_wp2_with fail
  refine (great_any n _ _ (h0.now hb2)).mono ?_
  rintro e w2 ⟨rfl, hb3⟩
  have hb4 := bthen hb2 hb3
  have hB2 := hB1.now hb3
  clear q0 q1 q2 q3 hB1 hb2 hb3
  obtain ⟨q0, q1, q2, q3⟩ := hB2.c4
  generalize greatB n = g
  cases g
  rotate_left
  · go_wp2_with fail
    go_ret
    exact ⟨rfl, hb4⟩
  by_cases hm60 : 60 < m.length
  · go_wp2_with fail
    go_ret
    exact ⟨rfl, hb4⟩
  by_cases hl60 : 60 < l.length
  · go_wp2_with fail
    go_ret
    exact ⟨rfl, hb4⟩
  go_wp2_with fail
  refine (run_any n _ _ _ m l _ (h0.now hb4) (hm.now hb4) (hl.now hb4)).mono ?_
  rintro e w3 ⟨xv, rfl, hx, hb5⟩
  have hb6 := bthen hb4 hb5
  have hB3 := hB2.now hb5
  clear q0 q1 q2 q3 hB2 hb4 hb5
  obtain ⟨q0, q1, q2, q3⟩ := hB3.c4
  go_wp2_with fail
  refine (inc_any n _ _ (h0.now hb6)).mono ?_
  rintro e w4 ⟨iv, rfl, hi, hb7⟩
  have hb8 := bthen hb6 hb7
  have hB4 := hB3.now hb7
  have hx4 := hx.now hb7
  clear q0 q1 q2 q3 hB3 hb6 hb7 hx
  have HRQ : Hid ((runB n m l).2.2 = 0 → (validB n = true ∧ (m.length : Int) = n.places ∧ Within 0 100 m) ∧ (runB n m l).1.length = m.length ∧ ∀ p : Nat, (runB n m l).1.getD p 0 = m.getD p 0 + dotTo (incRow n p) (cntsTo l n.trans.length) n.trans.length) :=
    fun hz => ⟨⟨(runB_ok hz).1, (markOk (runB_ok hz).2).1, (markOk (runB_ok hz).2).2⟩, runB_eqn (by omega) hz⟩
  generalize runB n m l = R at *
  obtain ⟨x, kx, c2⟩ := R
  dsimp only at hx4 HRQ ⊢
  by_cases hc0 : c2 = 0
  rotate_left
  · have hc1 : (c2 != 0) = true := by simpa using hc0
    clear hc0
    go_wp2_with fail
    go_ret
    exact ⟨rfl, hb8⟩
  have hc1 : (c2 != 0) = false := by simpa using hc0
  obtain ⟨⟨hV, hML, hMB⟩, hXL, hEq⟩ := HRQ.out hc0
  have HMB := Lib.hid hMB
  have HV := Lib.hid hV
  have HML := Lib.hid hML
  have HXL := Lib.hid hXL
  have HEQ := Lib.hid hEq
  clear HRQ hV hML hMB hXL hEq
  subst hc0
  by_cases hbig : n.trans.length = 0 ∨ 20 < n.trans.length ∨ 20 < n.places
  · have HI := Lib.hid (incE_full HV.out hbig)
    rw [HI.out]
    clear hbig
    go_wp2_with fail
    go_ret
    exact ⟨rfl, hb8⟩
  have HI := Lib.hid (incE_ok HV.out hbig)
  rw [HI.out] at hi ⊢
  obtain ⟨v1, _, _, _⟩ := validOk HV.out
  have t1 : 1 ≤ n.trans.length := by omega
  have t2 : n.trans.length ≤ 20 := by omega
  have p2 : n.places ≤ 20 := by omega
  have HMT := Lib.hid (inc_mat v1 p2 t1 t2)
  have hIL : (incB n).length = m.length := by unfold incB; rw [incTo_len]; have := HML.out; omega
  have hm1 : 1 ≤ m.length := by have := HML.out; omega
  have hm20 : m.length ≤ 20 := by have := HML.out; omega
  clear hbig
  dsimp only at hi ⊢
  obtain ⟨Ax, cx, rfl, x1, x2, hx4⟩ := hx4.open_
  obtain ⟨Ai, ci, rfl, i1, i2, hi⟩ := hi.open_
  rw [HXL.out] at hx4 x1 ⊢
  rw [hIL] at hi i1 ⊢
  have HIL := Lib.hid hIL
  clear hIL
  have e0 : ((m.length : Int) != (m.length : Int)) = false := by simp
  obtain ⟨q0, q1, q2, q3⟩ := hB4.c4
  go_wp2_with fail
  clear q0 q1 q2 q3
  go_loopw [12, 68] (fun o i wr => ∃ k : Nat, k ≤ n.trans.length ∧ i = .int .i64 k ∧ OwnR 1 RRow (fun _ => False) wr w4.heap.size 25 o (colOf (cntsTo l k)) ∧ Below w4.heap.size w4 wr) (fun _ i _ => n.trans.length - (intOf i).toNat)
  case atStart => exact ⟨0, Nat.zero_le _, rfl, OwnR.nil, Below.refl _ _⟩
  case round =>
    obtain ⟨k, hk, rfl, hor, hbr⟩ := hrel
    by_cases hlt : k < n.trans.length
    · go_wp2_with fail
      go_loop [14, 73] (fun z i => ∃ j : Nat, j ≤ l.length ∧ i = .int .i64 j ∧ z = .int .i64 (cnt (l.take j) k : Nat)) (fun _ i => l.length - (intOf i).toNat)
      case atStart => exact ⟨0, Nat.zero_le _, rfl, rfl⟩
      case round =>
        obtain ⟨j, hj, rfl, rfl⟩ := hrel
        have hcb := cnt_le (l.take j) k
        rw [List.length_take, Nat.min_eq_left hj] at hcb
        by_cases hjl : j < l.length
        · obtain ⟨b, o, u, rfl, hD, hxu, hf, hcell⟩ := ((hl.now hb8).now hbr).at_ hjl
          have HCT := Lib.hid (cnt_take l k j hxu)
          clear hxu hD
          generalize cnt (l.take j) k = z at *
          by_cases hu : u = (k : Int)
          · have e1 : (u == (k : Int)) = true := by simpa using hu
            rw [if_pos hu] at HCT
            clear hu
            go_wp2
            go_round
            case rel => exact ⟨j + 1, by omega, by go_num, by rw [HCT.out]; go_num⟩
            case measure => simp [intOf]; omega
          · have e1 : (u == (k : Int)) = false := by simpa using hu
            rw [if_neg hu] at HCT
            clear hu
            go_wp2
            go_round
            case rel => exact ⟨j + 1, by omega, by go_num, by rw [HCT.out]; rfl⟩
            case measure => simp [intOf]; omega
        · obtain rfl : j = l.length := by omega
          rw [List.take_of_length_le (Nat.le_refl _)] at hcb ⊢
          have HC := Lib.hid (cntsTo_succ l k)
          have hor1 := hor.now RRow.kept (bone wr (.cells #[.int .i64 (cnt l k : Nat)] 3))
          have HRow : Hid (RRow (Off (fun _ => False) (wr.alloc (.cells #[.int .i64 (cnt l k : Nat)] 3)) u12) (wr.alloc (.cells #[.int .i64 (cnt l k : Nat)] 3)) [((cnt l k : Nat) : Int)] [.slice (some ⟨wr.heap.size, 0, none⟩) 1 1]) := by
            refine ⟨_, rfl, ?_⟩
            have hs1 := SlI.single (w := wr) (t := 3) (z := ((cnt l k : Nat) : Int)) (by unfold Fit; omega)
            obtain ⟨A1, c1, e1, l1', l2', hc⟩ := hs1
            refine ⟨A1, c1, e1, l1', l2', fun i x hix => ?_⟩
            obtain ⟨b, o, es, eA, hDb, r1, r2, r3⟩ := hc i x hix
            refine ⟨b, o, es, eA, ⟨hDb, fun e => ?_, fun h => h⟩, r1, r2, r3⟩
            have := hor.lt b e
            injection e1 with e1 _ _
            rw [eA] at e1
            injection e1 with e1
            injection e1 with e1 _ _
            omega
          generalize cnt l k = z at *
          have hcl : (colOf (cntsTo l k)).length < 10000000 := by rw [col_len, cntsTo_len]; omega
          have hle : w4.heap.size ≤ (wr.alloc (.cells #[.int .i64 (z : Nat)] 3)).heap.size := by have := hbr.size; simp; omega
          go_wp2_with (at_builtin; refine wpList_pushR appRows RRow.kept rfl (.tmp 83) (.tmp 86) rfl (wr.alloc (.cells #[.int .i64 (z : Nat)] 3)) [.slice (some ⟨wr.heap.size, 0, none⟩) 1 1] rfl (by simp [Value.oneCell']) u12 (colOf (cntsTo l k)) [((z : Nat) : Int)] rfl hor1 HRow.out (by rw [World.size_alloc]; rfl) hcl hle ?_; intro v' w' hown' hgr hat)
          have hbg : Below w4.heap.size (wr.alloc (.cells #[.int .i64 (z : Nat)] 3)) w' := below_of_grown hgr hle (fun g hg => (hor.lt g hg).1)
          go_roundw
          case rel =>
            refine ⟨k + 1, by omega, by go_num, ?_, (bbox hbr _).trans hbg⟩
            rw [HC.out]
            unfold colOf at hown' ⊢
            rw [List.map_append]
            exact hown'
          case measure => simp [intOf]; omega
    · have hkn : k = n.trans.length := by omega
      rw [hkn] at hor
      clear hk hkn
      obtain ⟨Ao, co, hoe⟩ := hor.open_
      subst hoe
      have hsl := hor.sl RRow.kept
      rw [col_len, cntsTo_len] at hsl ⊢
      have hi5 := hi.now hbr
      have hx5 := hx4.now hbr
      have hb9 := bthen hb8 hbr
      clear hor
      have HML' := Lib.hid (mul_any (incB n) (cntsTo l n.trans.length) _ _ wr hi5 hsl HMT.out (by rw [cntsTo_len]; exact inc_first v1) (fun r hr => by rw [cntsTo_len]; exact inc_rlen hr) (fun r hr => inc_unit hr) (few_cnts l _ (by omega)))
      go_wp2_with fail
      refine HML'.out.mono ?_
      rintro e w5 ⟨dv, rfl, hd, hb10⟩
      have hb11 := bthen hb9 hb10
      have hx6 := hx5.now hb10
      have hm6 := hm.now hb11
      clear HML' hi5 hx5 hsl hb9 hb10 hb8 hbr hi hx4
      have hdl : (mulTo (incB n) (cntsTo l n.trans.length) (incB n).length).length = m.length := by rw [mulTo_len _ _ (Nat.le_refl _)]; exact HIL.out
      have HGET : Hid (∀ (p : Nat) (r : List Int), (mulTo (incB n) (cntsTo l n.trans.length) (incB n).length)[p]? = some r → r = [dotTo (incRow n p) (cntsTo l n.trans.length) n.trans.length]) := by
        intro p r hr
        unfold mulTo at hr
        rw [List.take_of_length_le (Nat.le_refl _), List.getElem?_map] at hr
        cases hq : (incB n)[p]? with
        | none => rw [hq] at hr; cases hr
        | some s =>
          rw [hq] at hr
          injection hr with hr
          rw [← hr, inc_at hq, cntsTo_len]
      generalize mulTo (incB n) (cntsTo l n.trans.length) (incB n).length = dm at *
      obtain ⟨Ad, cd, rfl, d1, d2, hd⟩ := hd.open_
      rw [hdl] at hd d1 ⊢
      clear hdl
      go_wp2_with fail
      go_loopw [106] (fun i wr => ∃ p : Nat, p ≤ m.length ∧ i = .int .i64 p ∧ Below w5.heap.size w5 wr) (fun i _ => m.length - (intOf i).toNat)
      case atStart => exact ⟨0, Nat.zero_le _, rfl, Below.refl _ _⟩
      case round =>
        obtain ⟨p, hp', rfl, hbr⟩ := hrel
        by_cases hpl : p < m.length
        · obtain ⟨bx, ox, zx, rfl, hDx, hxx, hfx, c1⟩ := (hx6.now hbr).at_ hpl
          obtain ⟨bm, om, zm, rfl, hDm, hxm, hfm, c2⟩ := (hm6.now hbr).at_ hpl
          obtain ⟨bd, od, rd, rv, rfl, hDd, hxd, hsd, c3⟩ := (hd.now hbr).at_ hpl
          have hrd := HGET.out p rd hxd
          subst hrd
          obtain ⟨Ar, cr, rfl, r1, r2, hsd⟩ := hsd.open_
          rw [List.length_singleton] at c3 r1 hsd
          obtain ⟨br, or_, zd, rfl, hDr, hxz, hfz, c4⟩ := hsd.at_ (k := 0) (by omega)
          rw [Nat.add_zero] at c4
          injection hxz with hxz
          have hEQ := HEQ.out p
          rw [get_some' hxx, get_some' hxm, hxz] at hEQ
          have hdb := dot_b (unit_inc n p) (few_cnts l n.trans.length (by omega)) n.trans.length
          rw [hxz] at hdb
          have hmb := HMB.out zm (List.mem_of_getElem? hxm)
          have wr1 : IntKind.i64.wrap (zm + zd) = zm + zd := IntWalk.i64_in _ (by omega)
          have e5 : (zx != zm + zd) = false := by rw [hEQ]; simp
          have e6 : ((1 : Int) != 1) = false := rfl
          have j1 : (0 : Int) ≤ p := by omega
          have j2 : (p : Int) < (m.length : Int) := by omega
          clear hxx hxm hxd hxz hEQ hdb hmb hsd
          go_wp2
          go_quiet (fail)
          clear wr1 e5 e6
          go_wp2
          go_roundw
          case rel => exact ⟨p + 1, by omega, by go_num, below_drewN hbr _⟩
          case measure => simp [intOf]; omega
        · go_wp2_with fail
          go_ret
          exact ⟨rfl, bthen hb11 hbr⟩
end Go.Proofs.YtphdafhidhfmnaaDoor
