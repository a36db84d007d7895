/- Texts of this seat, merged. -/
import Derived.Test.YtijmnenojbfdnaaGreatDoorEm01
import Derived.Test.YtijmnenojbfdnaaGreatDoorEm02
import Derived.Test.YtijmnenojbfdnaaGreatDoorEm03
import Derived.Test.YtijmnenojbfdnaaGreatDoorEm04
import Derived.Test.YtijmnenojbfdnaaGreatDoorEm05
import Derived.Test.YtijmnenojbfdnaaGreatDoorEm06
import Derived.Test.YtijmnenojbfdnaaGreatDoorEm07
import Derived.Test.YtijmnenojbfdnaaGreatDoorEm08
import Derived.Test.YtijmnenojbfdnaaGreatDoorEm09
import Derived.Test.YtijmnenojbfdnaaGreatDoorEm10
import Derived.Test.YtijmnenojbfdnaaGreatDoorEm11
import Derived.Test.YtijmnenojbfdnaaGreatDoorEm12
import Derived.Test.YtijmnenojbfdnaaGreatDoorEm13
import Derived.Test.YtijmnenojbfdnaaGreatDoorEm21
import Derived.Test.YtijmnenojbfdnaaGreatDoorEm22
import Derived.Test.YtijmnenojbfdnaaGreatDoorEm23
set_option linter.unusedSimpArgs false
set_option linter.unusedVariables false
namespace Go.Proofs.YtijmnenojbfdnaaGreatDoor
open Go.RowKit
theorem all_two {z0 z1 k : Int} {ks : List Int} (h : ks = [z0, z1]) : ks.all (fun z => z == k) = (decide (z0 = k) && decide (z1 = k)) := by
  subst h
  rw [List.all_cons, List.all_cons, List.all_nil, Bool.and_true]
  rw [Bool.eq_iff_iff]; simp
theorem list_two {ks : List Int} {z0 z1 : Int} (h : ks.length = 2) (h0 : ks[0]? = some z0) (h1 : ks[1]? = some z1) : ks = [z0, z1] := by
  match ks, h with
  | [a, b], _ =>
    injection h0 with h0
    injection h1 with h1
    rw [h0, h1]
def LikeTo (ks : List Int) (z0 : Int) (t : Bool) (k : Nat) : Prop := ∀ j z, j < k → ks[j]? = some z → z = z0 ∧ (t = true → z = 1)
theorem like_all {ks : List Int} {z0 : Int} {t : Bool} (h : LikeTo ks z0 t ks.length) : ks.all (fun z => z == (if t then 1 else z0)) = true := by
  rw [List.all_eq_true]
  intro z hz
  obtain ⟨j, hj, rfl⟩ := List.mem_iff_getElem.1 hz
  have := h j _ hj (List.getElem?_eq_getElem hj)
  cases t
  · simpa using this.1
  · simpa using this.2 rfl
theorem like_not {ks : List Int} {z0 z : Int} {t : Bool} {k : Nat} (h0 : ks[0]? = some z0) (hz : ks[k]? = some z) (h : z ≠ z0 ∨ (t = true ∧ z ≠ 1)) : ks.all (fun y => y == (if t then 1 else z0)) = false := by
  rw [Bool.eq_false_iff]
  intro ha
  rw [List.all_eq_true] at ha
  have a0 := ha z0 (List.mem_of_getElem? h0)
  have a1 := ha z (List.mem_of_getElem? hz)
  cases t
  · rcases h with h | h
    · exact h (by simpa using a1)
    · cases h.1
  · rcases h with h | h
    · exact h (by have e0 : z0 = 1 := by simpa using a0
                  have e1 : z = 1 := by simpa using a1
                  rw [e0, e1])
    · exact h.2 (by simpa using a1)
set_option maxHeartbeats 8000000 in
set_option maxRecDepth 100000 in
theorem type_ref : ∀ (n : Nat) (vs : List Var) (x : Ex) (uv u : Value) (w : World), SlX (Lt w.heap.size) w uv vs → IsEx n (Lt w.heap.size) w u x → okX x = true →
    Calls Tryz.prog 67 #[uv, u] w (RetT vs x w) := by
  intro n
  induction n using Nat.strongRecOn with
  | _ n ih =>
    intro vs x uv u w hvs h hok
    obtain ⟨Av, cv, rfl, v1, v2, hvs⟩ := hvs.open_
    obtain ⟨lv, rfl, h1, h2, h3, h4⟩ := h
    obtain ⟨A, c, rfl, l1, l2, h4⟩ := h4.open_
    have hk := okX_eq x
    rw [hok] at hk
    replace hk := hk.symm
    simp only [Bool.and_eq_true, decide_eq_true_eq] at hk
    obtain ⟨⟨hsh, hlen⟩, hokl⟩ := hk
    have HSH := Lib.hid (shape_len hsh)
    have HOK := Lib.hid (okL_mem hokl)
    clear hsh hokl hok
    have hb0 := bone w (.cells #[.int .i64 x.op, .int .i64 x.v.kind, .int .i64 x.v.n, .string x.v.s, .string x.s, .slice A x.l.length c] 28)
    have hB0 := Blk.new w 28 #[.int .i64 x.op, .int .i64 x.v.kind, .int .i64 x.v.n, .string x.v.s, .string x.s, .slice A x.l.length c]
    have hl0 := SlE.now h4 hb0
    have hv0 := hvs.now hb0
    clear h4 hvs
    go_enter Tryz.func67, Tryz.ntmps67
    go_upto_region 1 with fail
    generalize hw1 : w.alloc (.cells #[.int .i64 x.op, .int .i64 x.v.kind, .int .i64 x.v.n, .string x.v.s, .string x.s, .slice A x.l.length c] 28) = w1 at *
    clear hw1
    go_wp2_with fail
    go_loopw [6, 7] (fun kv i wr => ∃ (k : Nat), k ≤ x.l.length ∧ i = .int .i64 k ∧ wr.ownsRow w1.heap.size 3 1 kv k ((kindsOf vs (x.l.take k)).map (Value.int .i64)) ∧ (∀ y ∈ x.l.take k, (typX vs y).2 = 0) ∧ (∀ z ∈ kindsOf vs (x.l.take k), Fit z) ∧ Below w1.heap.size w1 wr) (fun _ i _ => x.l.length - (intOf i).toNat)
    case atStart => exact ⟨0, Nat.zero_le _, rfl, World.ownsRow_nil _ _ _ _, fun y hy => by simp at hy, fun z hz => by simp [kindsOf] at hz, Below.refl _ _⟩
    case round =>
      obtain ⟨k, hk, rfl, hrow, hp, hfit, hb⟩ := hrel
      have HP := Lib.hid hp
      have HF := Lib.hid hfit
      clear hp hfit
      have hbw := bthen hb0 hb
      have hsz := hb.size
      have hBr := hB0.now hb
      obtain ⟨q0, q1, q2, q3, q4, q5⟩ := hBr.c6
      by_cases hlt : k < x.l.length
      · obtain ⟨b, o, y, lv, n', hn, rfl, hD, hx, hex, hfv, hsl, e0, e1, e2, e3, e4, e5⟩ := (SlE.now hl0 hb).at_ hlt
        have HX := Lib.hid hx
        have hoky := HOK.out y (List.mem_of_getElem? hx)
        obtain ⟨A2, c2', rfl, m1, m2, _⟩ := hsl.open_
        have hcall := Lib.hid (ih n' (by omega) vs y _ _ _ (hv0.now hb) hex hoky)
        have i1 : (0 : Int) ≤ (k : Int) := by omega
        have i2 : (k : Int) < (x.l.length : Int) := by omega
        clear hx hex hfv hsl hoky
        go_wp2_with fail
        refine hcall.out.mono ?_
        clear hcall
        rintro e w4 ⟨rfl, hft, hb4⟩
        have hbw4 := bthen hbw hb4
        have hb4' := bthen hb hb4
        have hrow4 := own_now hrow hb4
        by_cases hz : (typX vs y).2 = 0
        · have HST := Lib.hid (typed_step HX.out hz HP.out)
          have HFT := Lib.hid (kinds_fit HX.out hft HF.out)
          have HSN := Lib.hid (kinds_snoc (vs := vs) HX.out)
          rw [hz]
          clear hz
          generalize (typX vs y).1 = ty at *
          have hsz4 := hb4'.size
          go_wp2_with (at_builtin; first | refine wpList_push appInts rfl (.tmp 33) (.tmp 35) rfl w4 [.int .i64 ty] rfl (by simp [Value.oneCell']) _ k _ rfl hrow4 rfl (by omega) hsz4 ?_)
          intro v5 w5 hrow5 hg5 _
          have hb5 : Below w1.heap.size w1 w5 := hb4'.trans (below_of_grown hg5 hsz4 (fun g hg => (World.ownsRow.lt hrow4 g hg).1))
          go_wp2_with fail
          go_roundw
          case rel =>
            refine ⟨k + 1, by omega, by go_num, ?_, HST.out, HFT.out, hb5⟩
            rw [HSN.out, List.map_append]
            exact hrow5
          case measure => simp [intOf]; omega
        · have HR := Lib.hid (typX_stop HX.out hz HP.out)
          have b1 : ((typX vs y).2 != 0) = true := by simpa using hz
          clear hz
          go_wp2_with fail
          go_ret2
          exact ret_T HR.out (by unfold Fit; omega) hbw4
      · obtain rfl : k = x.l.length := by omega
        rw [List.take_of_length_le (Nat.le_refl _)] at hrow
        have hpp := HP.out
        have hff := HF.out
        rw [List.take_of_length_le (Nat.le_refl _)] at hpp hff
        have HT := Lib.hid (typX_all hpp)
        have hks := SlI.of_own hrow hff
        have HKL := Lib.hid (kinds_len vs x.l)
        clear hpp hff HP HF hrow
        generalize hkg : kindsOf vs x.l = ks at *
        clear hkg
        have hvr := hv0.now hb
        have HTO := HT.out
        unfold typO at HTO
        have HTO := Lib.hid HTO
        have hfk := h2.kind
        clear HT ih hl0 HOK
        obtain ⟨A3, c3', rfl, m1, m2, hks⟩ := hks.open_
        generalize x.op = o at *
        by_cases c1 : o = 1
        · subst c1
          have HR : Hid (typX vs x = (x.v.kind, 0)) := by show _ = _; rw [HTO.out, if_pos rfl]
          clear HTO
          go_wp2_with fail
          go_ret2
          exact ret_T HR.out hfk hbw
        by_cases c2 : o = 2
        · subst c2
          have HR : Hid (typX vs x = if findV vs x.s < 0 then (0, 8) else (kindAt vs (findV vs x.s), 0)) := by show _ = _; rw [HTO.out, if_neg (by decide), if_pos rfl]
          have HFI := Lib.hid (findV_any vs x.s)
          clear HTO
          go_wp2_with fail
          refine (find_ref vs x.s _ _ hvr).mono ?_
          rintro e w3 ⟨rfl, rfl⟩
          generalize findV vs x.s = z at *
          rcases HFI.out with hz | ⟨i, rfl, hi⟩
          · have HR : Hid (typX vs x = (0, 8)) := by show _ = _; rw [HR.out, if_pos hz]
            go_wp2_with fail
            go_ret2
            exact ret_T HR.out (by unfold Fit; omega) hbw
          · obtain ⟨b, o', y, iv, rfl, hD, hx, hvar, hiv, e0, e1, e2, e3, e4⟩ := hvr.at_ hi
            have hfy : Fit y.kind := by obtain ⟨_, _, _, hf, _⟩ := hvar; exact hf
            have HR : Hid (typX vs x = (y.kind, 0)) := by
              show _ = _
              rw [HR.out, if_neg (by omega)]
              unfold kindAt
              rw [Int.toNat_natCast, hx]; rfl
            have i1 : (0 : Int) ≤ (i : Int) := by omega
            have i2 : (i : Int) < (vs.length : Int) := by omega
            clear hx hvar hiv
            go_wp2_with fail
            go_ret2
            exact ret_T HR.out hfy hbw
        have hln : 1 ≤ ks.length := by have := HKL.out; have := HSH.out; omega
        obtain ⟨b, o', z0, rfl, hD, hx0, hf0, e0⟩ := hks.at_ (k := 0) (by omega)
        have e0' : wr.cell? ⟨b, o', none⟩ = some (.int .i64 z0) := e0
        have i0 : (0 : Int) < (ks.length : Int) := by omega
        have HX0 := Lib.hid hx0
        clear e0 hx0
        by_cases cA : o = 9 ∨ o = 10 ∨ o = 11 ∨ o = 7 ∨ o = 8
        · have hl2 : ks.length = 2 := by have := HKL.out; have := HSH.out; omega
          obtain ⟨b1, o1, z1, hA1, _, hx1, hf1, e1⟩ := hks.at_ (k := 1) (by omega)
          injection hA1 with hA1; injection hA1 with g1 g2 _; subst g1 g2
          have HAT := Lib.hid (fun k => all_two (k := k) (list_two hl2 HX0.out hx1))
          have i1 : (1 : Int) < (ks.length : Int) := by omega
          clear hx1 hl2
          have HG : Hid (∀ Q : Prop, ((z0 != 2) = true → z0 ≠ 2 → Q) → ((z0 != 2) = false → (z1 != 2) = true → z1 ≠ 2 → Q) → ((z0 != 2) = false → (z1 != 2) = false → z0 = 2 → z1 = 2 → Q) → Q) := by
            intro Q a1 a2 a3
            by_cases h0 : z0 = 2
            · by_cases h1 : z1 = 2
              · exact a3 (by simp [h0]) (by simp [h1]) h0 h1
              · exact a2 (by simp [h0]) (by simpa using h1) h1
            · exact a1 (by simpa using h0) h0
          by_cases c9 : o = 9
          · subst c9
            have HR : Hid (typX vs x = if (decide (z0 = 2) && decide (z1 = 2)) = true then (2, 0) else (0, 11)) := by show _ = _; rw [HTO.out, if_neg (by decide), if_neg (by decide), if_pos (by decide), HAT.out]
            clear HTO
            refine HG.out _ (fun b1 n1 => ?_) (fun b1 b2 n2 => ?_) (fun b1 b2 n1 n2 => ?_)
            · have HR : Hid (typX vs x = (0, 11)) := by show _ = _; rw [HR.out, decide_eq_false n1]; rfl
              clear n1
              go_wp2_with fail
              go_ret2
              exact ret_T HR.out (by unfold Fit; omega) hbw
            · have HR : Hid (typX vs x = (0, 11)) := by show _ = _; rw [HR.out, decide_eq_false n2, Bool.and_false]; rfl
              clear n2
              go_wp2_with fail
              go_ret2
              exact ret_T HR.out (by unfold Fit; omega) hbw
            · have HR : Hid (typX vs x = (2, 0)) := by show _ = _; rw [HR.out, decide_eq_true n1, decide_eq_true n2]; rfl
              clear n1 n2
              go_wp2_with fail
              go_ret2
              exact ret_T HR.out (by unfold Fit; omega) hbw
          by_cases c10 : o = 10
          · subst c10
            have HR : Hid (typX vs x = if (decide (z0 = 2) && decide (z1 = 2)) = true then (2, 0) else (0, 11)) := by show _ = _; rw [HTO.out, if_neg (by decide), if_neg (by decide), if_pos (by decide), HAT.out]
            clear HTO
            refine HG.out _ (fun b1 n1 => ?_) (fun b1 b2 n2 => ?_) (fun b1 b2 n1 n2 => ?_)
            · have HR : Hid (typX vs x = (0, 11)) := by show _ = _; rw [HR.out, decide_eq_false n1]; rfl
              clear n1
              go_wp2_with fail
              go_ret2
              exact ret_T HR.out (by unfold Fit; omega) hbw
            · have HR : Hid (typX vs x = (0, 11)) := by show _ = _; rw [HR.out, decide_eq_false n2, Bool.and_false]; rfl
              clear n2
              go_wp2_with fail
              go_ret2
              exact ret_T HR.out (by unfold Fit; omega) hbw
            · have HR : Hid (typX vs x = (2, 0)) := by show _ = _; rw [HR.out, decide_eq_true n1, decide_eq_true n2]; rfl
              clear n1 n2
              go_wp2_with fail
              go_ret2
              exact ret_T HR.out (by unfold Fit; omega) hbw
          by_cases c11 : o = 11
          · subst c11
            have HR : Hid (typX vs x = if (decide (z0 = 2) && decide (z1 = 2)) = true then (2, 0) else (0, 11)) := by show _ = _; rw [HTO.out, if_neg (by decide), if_neg (by decide), if_pos (by decide), HAT.out]
            clear HTO
            refine HG.out _ (fun b1 n1 => ?_) (fun b1 b2 n2 => ?_) (fun b1 b2 n1 n2 => ?_)
            · have HR : Hid (typX vs x = (0, 11)) := by show _ = _; rw [HR.out, decide_eq_false n1]; rfl
              clear n1
              go_wp2_with fail
              go_ret2
              exact ret_T HR.out (by unfold Fit; omega) hbw
            · have HR : Hid (typX vs x = (0, 11)) := by show _ = _; rw [HR.out, decide_eq_false n2, Bool.and_false]; rfl
              clear n2
              go_wp2_with fail
              go_ret2
              exact ret_T HR.out (by unfold Fit; omega) hbw
            · have HR : Hid (typX vs x = (2, 0)) := by show _ = _; rw [HR.out, decide_eq_true n1, decide_eq_true n2]; rfl
              clear n1 n2
              go_wp2_with fail
              go_ret2
              exact ret_T HR.out (by unfold Fit; omega) hbw
          by_cases c7 : o = 7
          · subst c7
            have HR : Hid (typX vs x = if (decide (z0 = 2) && decide (z1 = 2)) = true then (1, 0) else (0, 11)) := by show _ = _; rw [HTO.out, if_neg (by decide), if_neg (by decide), if_neg (by decide), if_pos (by decide), HAT.out]
            clear HTO
            refine HG.out _ (fun b1 n1 => ?_) (fun b1 b2 n2 => ?_) (fun b1 b2 n1 n2 => ?_)
            · have HR : Hid (typX vs x = (0, 11)) := by show _ = _; rw [HR.out, decide_eq_false n1]; rfl
              clear n1
              go_wp2_with fail
              go_ret2
              exact ret_T HR.out (by unfold Fit; omega) hbw
            · have HR : Hid (typX vs x = (0, 11)) := by show _ = _; rw [HR.out, decide_eq_false n2, Bool.and_false]; rfl
              clear n2
              go_wp2_with fail
              go_ret2
              exact ret_T HR.out (by unfold Fit; omega) hbw
            · have HR : Hid (typX vs x = (1, 0)) := by show _ = _; rw [HR.out, decide_eq_true n1, decide_eq_true n2]; rfl
              clear n1 n2
              go_wp2_with fail
              go_ret2
              exact ret_T HR.out (by unfold Fit; omega) hbw
          by_cases c8 : o = 8
          · subst c8
            have HR : Hid (typX vs x = if (decide (z0 = 2) && decide (z1 = 2)) = true then (1, 0) else (0, 11)) := by show _ = _; rw [HTO.out, if_neg (by decide), if_neg (by decide), if_neg (by decide), if_pos (by decide), HAT.out]
            clear HTO
            refine HG.out _ (fun b1 n1 => ?_) (fun b1 b2 n2 => ?_) (fun b1 b2 n1 n2 => ?_)
            · have HR : Hid (typX vs x = (0, 11)) := by show _ = _; rw [HR.out, decide_eq_false n1]; rfl
              clear n1
              go_wp2_with fail
              go_ret2
              exact ret_T HR.out (by unfold Fit; omega) hbw
            · have HR : Hid (typX vs x = (0, 11)) := by show _ = _; rw [HR.out, decide_eq_false n2, Bool.and_false]; rfl
              clear n2
              go_wp2_with fail
              go_ret2
              exact ret_T HR.out (by unfold Fit; omega) hbw
            · have HR : Hid (typX vs x = (1, 0)) := by show _ = _; rw [HR.out, decide_eq_true n1, decide_eq_true n2]; rfl
              clear n1 n2
              go_wp2_with fail
              go_ret2
              exact ret_T HR.out (by unfold Fit; omega) hbw
          exfalso; omega
        by_cases c12 : o = 12
        · subst c12
          have hl3 : ks.length = 3 := by have := HKL.out; have := HSH.out; omega
          obtain ⟨b1, o1, z1, hA1, _, hx1, hf1, e1⟩ := hks.at_ (k := 1) (by omega)
          injection hA1 with hA1; injection hA1 with g1 g2 _; subst g1 g2
          obtain ⟨b2, o2, z2, hA2, _, hx2, hf2, e2⟩ := hks.at_ (k := 2) (by omega)
          injection hA2 with hA2; injection hA2 with g1 g2 _; subst g1 g2
          have hx0 := HX0.out
          have d0 : ks.getD 0 0 = z0 := by rw [List.getD_eq_getElem?_getD, hx0]; rfl
          have d1 : ks.getD 1 0 = z1 := by rw [List.getD_eq_getElem?_getD, hx1]; rfl
          have d2 : ks.getD 2 0 = z2 := by rw [List.getD_eq_getElem?_getD, hx2]; rfl
          have HR : Hid (typX vs x = if z0 = 1 ∧ z1 = z2 then (z1, 0) else (0, 11)) := by show _ = _; rw [HTO.out, if_neg (by decide), if_neg (by decide), if_neg (by decide), if_neg (by decide), if_neg (by decide), if_pos (by decide), d0, d1, d2]
          have i1 : (1 : Int) < (ks.length : Int) := by omega
          have i2 : (2 : Int) < (ks.length : Int) := by omega
          clear HTO hx0 hx1 hx2 d0 d1 d2 hl3
          by_cases hz0 : z0 = 1
          · by_cases hz : z1 = z2
            · have HR : Hid (typX vs x = (z1, 0)) := by show _ = _; rw [HR.out, if_pos ⟨hz0, hz⟩]
              have b0 : (z0 != 1) = false := by simp [hz0]
              have b1 : (z1 != z2) = false := by simp [hz]
              clear hz0 hz
              go_upto_region 29 with fail
              go_quiet (fail)
              go_wp2_with fail
              go_ret2
              exact ret_T HR.out hf1 (bdrawn hbw _)
            · have HR : Hid (typX vs x = (0, 11)) := by show _ = _; rw [HR.out, if_neg (fun h => hz h.2)]
              have b0 : (z0 != 1) = false := by simp [hz0]
              have b1 : (z1 != z2) = true := by simpa using hz
              clear hz0 hz
              go_upto_region 29 with fail
              go_quiet (fail)
              go_wp2_with fail
              go_ret2
              exact ret_T HR.out (by unfold Fit; omega) (bdrawn hbw _)
          · have HR : Hid (typX vs x = (0, 11)) := by show _ = _; rw [HR.out, if_neg (fun h => hz0 h.1)]
            have b0 : (z0 != 1) = true := by simpa using hz0
            clear hz0
            go_upto_region 29 with fail
            go_quiet (fail)
            go_wp2_with fail
            go_ret2
            exact ret_T HR.out (by unfold Fit; omega) (bdrawn hbw _)
        have hx0 := HX0.out
        have d0 : ks.getD 0 0 = z0 := by rw [List.getD_eq_getElem?_getD, hx0]; rfl
        generalize ht : decide (o = 3 ∨ o = 4 ∨ o = 5) = t
        have HR : Hid (typX vs x = if ks.all (fun y => y == (if t then 1 else z0)) = true then (1, 0) else (0, 11)) := by
          show _ = _
          rw [HTO.out, if_neg c1, if_neg c2, if_neg (by omega), if_neg (by omega)]
          by_cases h3 : o = 3 ∨ o = 4 ∨ o = 5
          · rw [decide_eq_true h3] at ht
            subst ht
            rw [if_pos h3]; rfl
          · rw [decide_eq_false h3] at ht
            subst ht
            rw [if_neg h3, if_neg c12, d0]; rfl
        have b1 : (o == 1) = false := by simpa using c1
        have b2 : (o == 2) = false := by simpa using c2
        have b9 : (o == 9) = false := by rw [beq_eq_false_iff_ne]; omega
        have b10 : (o == 10) = false := by rw [beq_eq_false_iff_ne]; omega
        have b11 : (o == 11) = false := by rw [beq_eq_false_iff_ne]; omega
        have b7 : (o == 7) = false := by rw [beq_eq_false_iff_ne]; omega
        have b8 : (o == 8) = false := by rw [beq_eq_false_iff_ne]; omega
        have b12 : (o == 12) = false := by rw [beq_eq_false_iff_ne]; omega
        have HOP : Hid (∀ Q : Prop, ((o != 6) = false → t = false → Q) → ((o != 6) = true → (o != 13) = false → t = false → Q) → ((o != 6) = true → (o != 13) = true → t = true → Q) → Q) := by
          intro Q a1 a2 a3
          by_cases h6 : o = 6
          · exact a1 (by simp [h6]) (by rw [← ht]; simp [h6])
          · by_cases h13 : o = 13
            · exact a2 (by simpa using h6) (by simp [h13]) (by rw [← ht]; simp [h13])
            · exact a3 (by simpa using h6) (by simpa using h13) (by rw [← ht]; have := HSH.out; simp; omega)
        clear HTO d0 ht c1 c2 cA c12 hx0
        refine HOP.out _ (fun g6 ht => ?_) (fun g6 g13 ht => ?_) (fun g6 g13 ht => ?_)
        all_goals
          have HTT := Lib.hid ht
          clear HOP ht
          go_wp2_with fail
          go_loopw [12] (fun i wx => ∃ (j : Nat), j ≤ ks.length ∧ i = .int .i64 j ∧ LikeTo ks z0 t j ∧ Below wr.heap.size wr wx) (fun i _ => ks.length - (intOf i).toNat)
          case atStart => exact ⟨0, Nat.zero_le _, rfl, fun j z h _ => absurd h (by omega), Below.refl _ _⟩
          case round =>
            obtain ⟨j, hj, rfl, hlk, hbx⟩ := hrel
            have HLK := Lib.hid hlk
            clear hlk
            have hksx := hks.now hbx
            have hBx := hBr.now hbx
            have hbwx := bthen hbw hbx
            have e0x : wr.cell? ⟨b, o', none⟩ = some (.int .i64 z0) := by
              obtain ⟨b1, o1, z1, hA1, _, hx1, _, e1⟩ := hksx.at_ (k := 0) (by omega)
              injection hA1 with hA1; injection hA1 with g1 g2 _; subst g1 g2
              rw [HX0.out] at hx1; injection hx1 with hx1; subst hx1
              exact e1
            obtain ⟨p0, p1, p2, p3, p4, p5⟩ := hBx.c6
            by_cases hlt : j < ks.length
            · obtain ⟨b1, o1, z, hA1, _, hxz, hfz, ez⟩ := hksx.at_ hlt
              injection hA1 with hA1; injection hA1 with g1 g2 _; subst g1 g2
              have HXZ := Lib.hid hxz
              have j1 : (0 : Int) ≤ (j : Int) := by omega
              have j2 : (j : Int) < (ks.length : Int) := by omega
              clear hxz q0 q1 q2 q3 q4 q5 e0' hksx hBx
              by_cases hz : z = z0
              · have f1 : (z != z0) = false := by simp [hz]
                by_cases hz1 : z = 1
                · have f2 : (z != 1) = false := by simp [hz1]
                  have HN := Lib.hid (And.intro hz (fun _ : t = true => hz1))
                  clear hz hz1
                  go_upto_region 35 with fail
                  go_quiet (fail)
                  go_wp2_with fail
                  go_roundw
                  case rel =>
                    refine ⟨j + 1, by omega, by go_num, fun i y hi hy => ?_, bdrawn hbx _⟩
                    by_cases e : i = j
                    · subst e; rw [HXZ.out] at hy; injection hy with hy; subst hy; exact HN.out
                    · exact HLK.out i y (by omega) hy
                  case measure => simp [intOf]; omega
                · have f2 : (z != 1) = true := by simpa using hz1
                  first
                    | (have HN := Lib.hid (like_not HX0.out HXZ.out (.inr ⟨HTT.out, hz1⟩))
                       have HRR : Hid (typX vs x = (0, 11)) := by show _ = _; rw [HR.out]; exact (if_neg (by rw [HN.out]; simp))
                       clear hz hz1
                       go_upto_region 35 with fail
                       go_quiet (fail)
                       go_wp2_with fail
                       go_ret2
                       exact ret_T HRR.out (by unfold Fit; omega) (bdrawn hbwx _))
                    | (have HN : Hid (z = z0 ∧ (t = true → z = 1)) := ⟨hz, fun h => by rw [HTT.out] at h; cases h⟩
                       clear hz hz1
                       go_upto_region 35 with fail
                       go_quiet (fail)
                       go_wp2_with fail
                       go_roundw
                       case rel =>
                         refine ⟨j + 1, by omega, by go_num, fun i y hi hy => ?_, bdrawn hbx _⟩
                         by_cases e : i = j
                         · subst e; rw [HXZ.out] at hy; injection hy with hy; subst hy; exact HN.out
                         · exact HLK.out i y (by omega) hy
                       case measure => simp [intOf]; omega)
              · have f1 : (z != z0) = true := by simpa using hz
                have HN := Lib.hid (like_not (t := t) HX0.out HXZ.out (.inl hz))
                have HRR : Hid (typX vs x = (0, 11)) := by show _ = _; rw [HR.out]; exact (if_neg (by rw [HN.out]; simp))
                clear hz
                go_upto_region 35 with fail
                go_quiet (fail)
                go_wp2_with fail
                go_ret2
                exact ret_T HRR.out (by unfold Fit; omega) (bdrawn hbwx _)
            · obtain rfl : j = ks.length := by omega
              have HRR : Hid (typX vs x = (1, 0)) := by show _ = _; rw [HR.out]; exact if_pos (like_all HLK.out)
              go_wp2_with fail
              go_ret2
              exact ret_T HRR.out (by unfold Fit; omega) hbwx
end Go.Proofs.YtijmnenojbfdnaaGreatDoor
