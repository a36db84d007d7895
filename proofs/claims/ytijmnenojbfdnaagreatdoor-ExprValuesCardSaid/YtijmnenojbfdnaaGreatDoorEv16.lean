/- Texts of this seat, merged. -/
import Derived.BigQuiet
import Derived.Test.YtijmnenojbfdnaaGreatDoorEv01
import Derived.Test.YtijmnenojbfdnaaGreatDoorEv02
import Derived.Test.YtijmnenojbfdnaaGreatDoorEv03
import Derived.Test.YtijmnenojbfdnaaGreatDoorEv04
import Derived.Test.YtijmnenojbfdnaaGreatDoorEv05
import Derived.Test.YtijmnenojbfdnaaGreatDoorEv06
import Derived.Test.YtijmnenojbfdnaaGreatDoorEv07
import Derived.Test.YtijmnenojbfdnaaGreatDoorEv11
import Derived.Test.YtijmnenojbfdnaaGreatDoorEv12
import Derived.Test.YtijmnenojbfdnaaGreatDoorEv13
import Derived.Test.YtijmnenojbfdnaaGreatDoorEv14
import Derived.Test.YtijmnenojbfdnaaGreatDoorEv15
set_option linter.unusedSimpArgs false
set_option linter.unusedVariables false
namespace Go.Proofs.YtijmnenojbfdnaaGreatDoor
open Go.RowKit
theorem all_two {z0 z1 k : Int} {ks : List Int} (h : ks = [z0, z1]) : ks.all (fun z => z == k) = (decide (z0 = k) && decide (z1 = k)) := by
  subst h
  rw [List.all_cons, List.all_cons, List.all_nil, Bool.and_true]
  rw [Bool.eq_iff_iff]; simp
theorem list_two {ks : List Int} {z0 z1 : Int} (h : ks.length = 2) (h0 : ks[0]? = some z0) (h1 : ks[1]? = some z1) : ks = [z0, z1] := by
  match ks, h with
  | [a, b], _ =>
    injection h0 with h0
    injection h1 with h1
    rw [h0, h1]
def LikeTo (ks : List Int) (z0 : Int) (t : Bool) (k : Nat) : Prop := ∀ j z, j < k → ks[j]? = some z → z = z0 ∧ (t = true → z = 1)
theorem like_all {ks : List Int} {z0 : Int} {t : Bool} (h : LikeTo ks z0 t ks.length) : ks.all (fun z => z == (if t then 1 else z0)) = true := by
  rw [List.all_eq_true]
  intro z hz
  obtain ⟨j, hj, rfl⟩ := List.mem_iff_getElem.1 hz
  have := h j _ hj (List.getElem?_eq_getElem hj)
  cases t
  · simpa using this.1
  · simpa using this.2 rfl
theorem like_not {ks : List Int} {z0 z : Int} {t : Bool} {k : Nat} (h0 : ks[0]? = some z0) (hz : ks[k]? = some z) (h : z ≠ z0 ∨ (t = true ∧ z ≠ 1)) : ks.all (fun y => y == (if t then 1 else z0)) = false := by
  rw [Bool.eq_false_iff]
  intro ha
  rw [List.all_eq_true] at ha
  have a0 := ha z0 (List.mem_of_getElem? h0)
  have a1 := ha z (List.mem_of_getElem? hz)
  cases t
  · rcases h with h | h
    · exact h (by simpa using a1)
    · cases h.1
  · rcases h with h | h
    · exact h (by have e0 : z0 = 1 := by simpa using a0
                  have e1 : z = 1 := by simpa using a1
                  rw [e0, e1])
    · exact h.2 (by simpa using a1)
set_option maxHeartbeats 8000000 in
set_option maxRecDepth 100000 in
theorem type_ref : ∀ (n : Nat) (vs : List Var) (x : Ex) (uv u : Value) (w : World), SlX (Lt w.heap.size) w uv vs → IsEx n (Lt w.heap.size) w u x → okX x = true →
    Calls Tryz.prog 67 #[uv, u] w (RetT vs x w) := by
  intro n
  induction n using Nat.strongRecOn with
  | _ n ih =>
    intro vs x uv u w hvs h hok
    obtain ⟨Av, cv, rfl, v1, v2, hvs⟩ := hvs.open_
    obtain ⟨lv, rfl, h1, h2, h3, h4⟩ := h
    obtain ⟨A, c, rfl, l1, l2, h4⟩ := h4.open_
    have hk := okX_eq x
    rw [hok] at hk
    replace hk := hk.symm
    simp only [Bool.and_eq_true, decide_eq_true_eq] at hk
    obtain ⟨⟨hsh, hlen⟩, hokl⟩ := hk
    have HSH := Lib.hid (shape_len hsh)
    have HOK := Lib.hid (okL_mem hokl)
    clear hsh hokl hok
    have hb0 := bone w (.cells #[.int .i64 x.op, .int .i64 x.v.kind, .int .i64 x.v.n, .string x.v.s, .string x.s, .slice A x.l.length c] 28)
    have hB0 := Blk.new w 28 #[.int .i64 x.op, .int .i64 x.v.kind, .int .i64 x.v.n, .string x.v.s, .string x.s, .slice A x.l.length c]
    have hl0 := SlE.now h4 hb0
    have hv0 := hvs.now hb0
    clear h4 hvs
    go_enter Tryz.func67, Tryz.ntmps67
    go_upto_region 1 with fail
    generalize hw1 : w.alloc (.cells #[.int .i64 x.op, .int .i64 x.v.kind, .int .i64 x.v.n, .string x.v.s, .string x.s, .slice A x.l.length c] 28) = w1 at *
    clear hw1
    go_wp2_with fail
    go_loopw [6, 7] (fun kv i wr => ∃ (k : Nat), k ≤ x.l.length ∧ i = .int .i64 k ∧ wr.ownsRow w1.heap.size 3 1 kv k ((kindsOf vs (x.l.take k)).map (Value.int .i64)) ∧ (∀ y ∈ x.l.take k, (typX vs y).2 = 0) ∧ (∀ z ∈ kindsOf vs (x.l.take k), Fit z) ∧ Below w1.heap.size w1 wr) (fun _ i _ => x.l.length - (intOf i).toNat)
    case atStart => exact ⟨0, Nat.zero_le _, rfl, World.ownsRow_nil _ _ _ _, fun y hy => by simp at hy, fun z hz => by simp [kindsOf] at hz, Below.refl _ _⟩
    case round =>
      obtain ⟨k, hk, rfl, hrow, hp, hfit, hb⟩ := hrel
      have HP := Lib.hid hp
      have HF := Lib.hid hfit
      clear hp hfit
      have hbw := bthen hb0 hb
      have hsz := hb.size
      have hBr := hB0.now hb
      obtain ⟨q0, q1, q2, q3, q4, q5⟩ := hBr.c6
      by_cases hlt : k < x.l.length
      · obtain ⟨b, o, y, lv, n', hn, rfl, hD, hx, hex, hfv, hsl, e0, e1, e2, e3, e4, e5⟩ := (SlE.now hl0 hb).at_ hlt
        have HX := Lib.hid hx
        have hoky := HOK.out y (List.mem_of_getElem? hx)
        obtain ⟨A2, c2', rfl, m1, m2, _⟩ := hsl.open_
        have hcall := Lib.hid (ih n' (by omega) vs y _ _ _ (hv0.now hb) hex hoky)
        have i1 : (0 : Int) ≤ (k : Int) := by omega
        have i2 : (k : Int) < (x.l.length : Int) := by omega
        clear hx hex hfv hsl hoky
        go_wp2_with fail
        refine hcall.out.mono ?_
        clear hcall
        rintro e w4 ⟨rfl, hft, hb4⟩
        have hbw4 := bthen hbw hb4
        have hb4' := bthen hb hb4
        have hrow4 := own_now hrow hb4
        by_cases hz : (typX vs y).2 = 0
        · have HST := Lib.hid (typed_step HX.out hz HP.out)
          have HFT := Lib.hid (kinds_fit HX.out hft HF.out)
          have HSN := Lib.hid (kinds_snoc (vs := vs) HX.out)
          rw [hz]
          clear hz
          generalize (typX vs y).1 = ty at *
          have hsz4 := hb4'.size
          go_wp2_with (at_builtin; first | refine wpList_push appInts rfl (.tmp 33) (.tmp 35) rfl w4 [.int .i64 ty] rfl (by simp [Value.oneCell']) _ k _ rfl hrow4 rfl (by omega) hsz4 ?_)
          intro v5 w5 hrow5 hg5 _
          have hb5 : Below w1.heap.size w1 w5 := hb4'.trans (below_of_grown hg5 hsz4 (fun g hg => (World.ownsRow.lt hrow4 g hg).1))
          go_wp2_with fail
          go_roundw
          case rel =>
            refine ⟨k + 1, by omega, by go_num, ?_, HST.out, HFT.out, hb5⟩
            rw [HSN.out, List.map_append]
            exact hrow5
          case measure => simp [intOf]; omega
        · have HR := Lib.hid (typX_stop HX.out hz HP.out)
          have b1 : ((typX vs y).2 != 0) = true := by simpa using hz
          clear hz
          go_wp2_with fail
          go_ret2
          exact ret_T HR.out (by unfold Fit; omega) hbw4
      · obtain rfl : k = x.l.length := by omega
        rw [List.take_of_length_le (Nat.le_refl _)] at hrow
        have hpp := HP.out
        have hff := HF.out
        rw [List.take_of_length_le (Nat.le_refl _)] at hpp hff
        have HT := Lib.hid (typX_all hpp)
        have hks := SlI.of_own hrow hff
        have HKL := Lib.hid (kinds_len vs x.l)
        clear hpp hff HP HF hrow
        generalize hkg : kindsOf vs x.l = ks at *
        clear hkg
        have hvr := hv0.now hb
        have HTO := HT.out
        unfold typO at HTO
        have HTO := Lib.hid HTO
        have hfk := h2.kind
        clear HT ih hl0 HOK
        obtain ⟨A3, c3', rfl, m1, m2, hks⟩ := hks.open_
        generalize x.op = o at *
        by_cases c1 : o = 1
        · subst c1
          have HR : Hid (typX vs x = (x.v.kind, 0)) := by show _ = _; rw [HTO.out, if_pos rfl]
          clear HTO
          go_wp2_with fail
          go_ret2
          exact ret_T HR.out hfk hbw
        by_cases c2 : o = 2
        · subst c2
          have HR : Hid (typX vs x = if findV vs x.s < 0 then (0, 8) else (kindAt vs (findV vs x.s), 0)) := by show _ = _; rw [HTO.out, if_neg (by decide), if_pos rfl]
          have HFI := Lib.hid (findV_any vs x.s)
          clear HTO
          go_wp2_with fail
          refine (find_ref vs x.s _ _ hvr).mono ?_
          rintro e w3 ⟨rfl, rfl⟩
          generalize findV vs x.s = z at *
          rcases HFI.out with hz | ⟨i, rfl, hi⟩
          · have HR : Hid (typX vs x = (0, 8)) := by show _ = _; rw [HR.out, if_pos hz]
            go_wp2_with fail
            go_ret2
            exact ret_T HR.out (by unfold Fit; omega) hbw
          · obtain ⟨b, o', y, iv, rfl, hD, hx, hvar, hiv, e0, e1, e2, e3, e4⟩ := hvr.at_ hi
            have hfy : Fit y.kind := by obtain ⟨_, _, _, hf, _⟩ := hvar; exact hf
            have HR : Hid (typX vs x = (y.kind, 0)) := by
              show _ = _
              rw [HR.out, if_neg (by omega)]
              unfold kindAt
              rw [Int.toNat_natCast, hx]; rfl
            have i1 : (0 : Int) ≤ (i : Int) := by omega
            have i2 : (i : Int) < (vs.length : Int) := by omega
            clear hx hvar hiv
            go_wp2_with fail
            go_ret2
            exact ret_T HR.out hfy hbw
        have hln : 1 ≤ ks.length := by have := HKL.out; have := HSH.out; omega
        obtain ⟨b, o', z0, rfl, hD, hx0, hf0, e0⟩ := hks.at_ (k := 0) (by omega)
        have e0' : wr.cell? ⟨b, o', none⟩ = some (.int .i64 z0) := e0
        have i0 : (0 : Int) < (ks.length : Int) := by omega
        have HX0 := Lib.hid hx0
        clear e0 hx0
        by_cases cA : o = 9 ∨ o = 10 ∨ o = 11 ∨ o = 7 ∨ o = 8
        · have hl2 : ks.length = 2 := by have := HKL.out; have := HSH.out; omega
          obtain ⟨b1, o1, z1, hA1, _, hx1, hf1, e1⟩ := hks.at_ (k := 1) (by omega)
          injection hA1 with hA1; injection hA1 with g1 g2 _; subst g1 g2
          have HAT := Lib.hid (fun k => all_two (k := k) (list_two hl2 HX0.out hx1))
          have i1 : (1 : Int) < (ks.length : Int) := by omega
          clear hx1 hl2
          have HG : Hid (∀ Q : Prop, ((z0 != 2) = true → z0 ≠ 2 → Q) → ((z0 != 2) = false → (z1 != 2) = true → z1 ≠ 2 → Q) → ((z0 != 2) = false → (z1 != 2) = false → z0 = 2 → z1 = 2 → Q) → Q) := by
            intro Q a1 a2 a3
            by_cases h0 : z0 = 2
            · by_cases h1 : z1 = 2
              · exact a3 (by simp [h0]) (by simp [h1]) h0 h1
              · exact a2 (by simp [h0]) (by simpa using h1) h1
            · exact a1 (by simpa using h0) h0
          by_cases c9 : o = 9
          · subst c9
            have HR : Hid (typX vs x = if (decide (z0 = 2) && decide (z1 = 2)) = true then (2, 0) else (0, 11)) := by show _ = _; rw [HTO.out, if_neg (by decide), if_neg (by decide), if_pos (by decide), HAT.out]
            clear HTO
            refine HG.out _ (fun b1 n1 => ?_) (fun b1 b2 n2 => ?_) (fun b1 b2 n1 n2 => ?_)
            · have HR : Hid (typX vs x = (0, 11)) := by show _ = _; rw [HR.out, decide_eq_false n1]; rfl
              clear n1
              go_wp2_with fail
              go_ret2
              exact ret_T HR.out (by unfold Fit; omega) hbw
            · have HR : Hid (typX vs x = (0, 11)) := by show _ = _; rw [HR.out, decide_eq_false n2, Bool.and_false]; rfl
              clear n2
              go_wp2_with fail
              go_ret2
              exact ret_T HR.out (by unfold Fit; omega) hbw
            · have HR : Hid (typX vs x = (2, 0)) := by show _ = _; rw [HR.out, decide_eq_true n1, decide_eq_true n2]; rfl
              clear n1 n2
              go_wp2_with fail
              go_ret2
              exact ret_T HR.out (by unfold Fit; omega) hbw
          by_cases c10 : o = 10
          · subst c10
            have HR : Hid (typX vs x = if (decide (z0 = 2) && decide (z1 = 2)) = true then (2, 0) else (0, 11)) := by show _ = _; rw [HTO.out, if_neg (by decide), if_neg (by decide), if_pos (by decide), HAT.out]
            clear HTO
            refine HG.out _ (fun b1 n1 => ?_) (fun b1 b2 n2 => ?_) (fun b1 b2 n1 n2 => ?_)
            · have HR : Hid (typX vs x = (0, 11)) := by show _ = _; rw [HR.out, decide_eq_false n1]; rfl
              clear n1
              go_wp2_with fail
              go_ret2
              exact ret_T HR.out (by unfold Fit; omega) hbw
            · have HR : Hid (typX vs x = (0, 11)) := by show _ = _; rw [HR.out, decide_eq_false n2, Bool.and_false]; rfl
              clear n2
              go_wp2_with fail
              go_ret2
              exact ret_T HR.out (by unfold Fit; omega) hbw
            · have HR : Hid (typX vs x = (2, 0)) := by show _ = _; rw [HR.out, decide_eq_true n1, decide_eq_true n2]; rfl
              clear n1 n2
              go_wp2_with fail
              go_ret2
              exact ret_T HR.out (by unfold Fit; omega) hbw
          by_cases c11 : o = 11
          · subst c11
            have HR : Hid (typX vs x = if (decide (z0 = 2) && decide (z1 = 2)) = true then (2, 0) else (0, 11)) := by show _ = _; rw [HTO.out, if_neg (by decide), if_neg (by decide), if_pos (by decide), HAT.out]
            clear HTO
            refine HG.out _ (fun b1 n1 => ?_) (fun b1 b2 n2 => ?_) (fun b1 b2 n1 n2 => ?_)
            · have HR : Hid (typX vs x = (0, 11)) := by show _ = _; rw [HR.out, decide_eq_false n1]; rfl
              clear n1
              go_wp2_with fail
              go_ret2
              exact ret_T HR.out (by unfold Fit; omega) hbw
            · have HR : Hid (typX vs x = (0, 11)) := by show _ = _; rw [HR.out, decide_eq_false n2, Bool.and_false]; rfl
              clear n2
              go_wp2_with fail
              go_ret2
              exact ret_T HR.out (by unfold Fit; omega) hbw
            · have HR : Hid (typX vs x = (2, 0)) := by show _ = _; rw [HR.out, decide_eq_true n1, decide_eq_true n2]; rfl
              clear n1 n2
              go_wp2_with fail
              go_ret2
              exact ret_T HR.out (by unfold Fit; omega) hbw
          by_cases c7 : o = 7
          · subst c7
            have HR : Hid (typX vs x = if (decide (z0 = 2) && decide (z1 = 2)) = true then (1, 0) else (0, 11)) := by show _ = _; rw [HTO.out, if_neg (by decide), if_neg (by decide), if_neg (by decide), if_pos (by decide), HAT.out]
            clear HTO
            refine HG.out _ (fun b1 n1 => ?_) (fun b1 b2 n2 => ?_) (fun b1 b2 n1 n2 => ?_)
            · have HR : Hid (typX vs x = (0, 11)) := by show _ = _; rw [HR.out, decide_eq_false n1]; rfl
              clear n1
              go_wp2_with fail
              go_ret2
              exact ret_T HR.out (by unfold Fit; omega) hbw
            · have HR : Hid (typX vs x = (0, 11)) := by show _ = _; rw [HR.out, decide_eq_false n2, Bool.and_false]; rfl
              clear n2
              go_wp2_with fail
              go_ret2
              exact ret_T HR.out (by unfold Fit; omega) hbw
            · have HR : Hid (typX vs x = (1, 0)) := by show _ = _; rw [HR.out, decide_eq_true n1, decide_eq_true n2]; rfl
              clear n1 n2
              go_wp2_with fail
              go_ret2
              exact ret_T HR.out (by unfold Fit; omega) hbw
          by_cases c8 : o = 8
          · subst c8
            have HR : Hid (typX vs x = if (decide (z0 = 2) && decide (z1 = 2)) = true then (1, 0) else (0, 11)) := by show _ = _; rw [HTO.out, if_neg (by decide), if_neg (by decide), if_neg (by decide), if_pos (by decide), HAT.out]
            clear HTO
            refine HG.out _ (fun b1 n1 => ?_) (fun b1 b2 n2 => ?_) (fun b1 b2 n1 n2 => ?_)
            · have HR : Hid (typX vs x = (0, 11)) := by show _ = _; rw [HR.out, decide_eq_false n1]; rfl
              clear n1
              go_wp2_with fail
              go_ret2
              exact ret_T HR.out (by unfold Fit; omega) hbw
            · have HR : Hid (typX vs x = (0, 11)) := by show _ = _; rw [HR.out, decide_eq_false n2, Bool.and_false]; rfl
              clear n2
              go_wp2_with fail
              go_ret2
              exact ret_T HR.out (by unfold Fit; omega) hbw
            · have HR : Hid (typX vs x = (1, 0)) := by show _ = _; rw [HR.out, decide_eq_true n1, decide_eq_true n2]; rfl
              clear n1 n2
              go_wp2_with fail
              go_ret2
              exact ret_T HR.out (by unfold Fit; omega) hbw
          exfalso; omega
        by_cases c12 : o = 12
        · subst c12
          have hl3 : ks.length = 3 := by have := HKL.out; have := HSH.out; omega
          obtain ⟨b1, o1, z1, hA1, _, hx1, hf1, e1⟩ := hks.at_ (k := 1) (by omega)
          injection hA1 with hA1; injection hA1 with g1 g2 _; subst g1 g2
          obtain ⟨b2, o2, z2, hA2, _, hx2, hf2, e2⟩ := hks.at_ (k := 2) (by omega)
          injection hA2 with hA2; injection hA2 with g1 g2 _; subst g1 g2
          have hx0 := HX0.out
          have d0 : ks.getD 0 0 = z0 := by rw [List.getD_eq_getElem?_getD, hx0]; rfl
          have d1 : ks.getD 1 0 = z1 := by rw [List.getD_eq_getElem?_getD, hx1]; rfl
          have d2 : ks.getD 2 0 = z2 := by rw [List.getD_eq_getElem?_getD, hx2]; rfl
          have HR : Hid (typX vs x = if z0 = 1 ∧ z1 = z2 then (z1, 0) else (0, 11)) := by show _ = _; rw [HTO.out, if_neg (by decide), if_neg (by decide), if_neg (by decide), if_neg (by decide), if_neg (by decide), if_pos (by decide), d0, d1, d2]
          have i1 : (1 : Int) < (ks.length : Int) := by omega
          have i2 : (2 : Int) < (ks.length : Int) := by omega
          clear HTO hx0 hx1 hx2 d0 d1 d2 hl3
          by_cases hz0 : z0 = 1
          · by_cases hz : z1 = z2
            · have HR : Hid (typX vs x = (z1, 0)) := by show _ = _; rw [HR.out, if_pos ⟨hz0, hz⟩]
              have b0 : (z0 != 1) = false := by simp [hz0]
              have b1 : (z1 != z2) = false := by simp [hz]
              clear hz0 hz
              go_upto_region 29 with fail
              go_quiet (fail)
              go_wp2_with fail
              go_ret2
              exact ret_T HR.out hf1 (bdrawn hbw _)
            · have HR : Hid (typX vs x = (0, 11)) := by show _ = _; rw [HR.out, if_neg (fun h => hz h.2)]
              have b0 : (z0 != 1) = false := by simp [hz0]
              have b1 : (z1 != z2) = true := by simpa using hz
              clear hz0 hz
              go_upto_region 29 with fail
              go_quiet (fail)
              go_wp2_with fail
              go_ret2
              exact ret_T HR.out (by unfold Fit; omega) (bdrawn hbw _)
          · have HR : Hid (typX vs x = (0, 11)) := by show _ = _; rw [HR.out, if_neg (fun h => hz0 h.1)]
            have b0 : (z0 != 1) = true := by simpa using hz0
            clear hz0
            go_upto_region 29 with fail
            go_quiet (fail)
            go_wp2_with fail
            go_ret2
            exact ret_T HR.out (by unfold Fit; omega) (bdrawn hbw _)
        have hx0 := HX0.out
        have d0 : ks.getD 0 0 = z0 := by rw [List.getD_eq_getElem?_getD, hx0]; rfl
        generalize ht : decide (o = 3 ∨ o = 4 ∨ o = 5) = t
        have HR : Hid (typX vs x = if ks.all (fun y => y == (if t then 1 else z0)) = true then (1, 0) else (0, 11)) := by
          show _ = _
          rw [HTO.out, if_neg c1, if_neg c2, if_neg (by omega), if_neg (by omega)]
          by_cases h3 : o = 3 ∨ o = 4 ∨ o = 5
          · rw [decide_eq_true h3] at ht
            subst ht
            rw [if_pos h3]; rfl
          · rw [decide_eq_false h3] at ht
            subst ht
            rw [if_neg h3, if_neg c12, d0]; rfl
        have b1 : (o == 1) = false := by simpa using c1
        have b2 : (o == 2) = false := by simpa using c2
        have b9 : (o == 9) = false := by rw [beq_eq_false_iff_ne]; omega
        have b10 : (o == 10) = false := by rw [beq_eq_false_iff_ne]; omega
        have b11 : (o == 11) = false := by rw [beq_eq_false_iff_ne]; omega
        have b7 : (o == 7) = false := by rw [beq_eq_false_iff_ne]; omega
        have b8 : (o == 8) = false := by rw [beq_eq_false_iff_ne]; omega
        have b12 : (o == 12) = false := by rw [beq_eq_false_iff_ne]; omega
        have HOP : Hid (∀ Q : Prop, ((o != 6) = false → t = false → Q) → ((o != 6) = true → (o != 13) = false → t = false → Q) → ((o != 6) = true → (o != 13) = true → t = true → Q) → Q) := by
          intro Q a1 a2 a3
          by_cases h6 : o = 6
          · exact a1 (by simp [h6]) (by rw [← ht]; simp [h6])
          · by_cases h13 : o = 13
            · exact a2 (by simpa using h6) (by simp [h13]) (by rw [← ht]; simp [h13])
            · exact a3 (by simpa using h6) (by simpa using h13) (by rw [← ht]; have := HSH.out; simp; omega)
        clear HTO d0 ht c1 c2 cA c12 hx0
        refine HOP.out _ (fun g6 ht => ?_) (fun g6 g13 ht => ?_) (fun g6 g13 ht => ?_)
        all_goals
          have HTT := Lib.hid ht
          clear HOP ht
          go_wp2_with fail
          go_loopw [12] (fun i wx => ∃ (j : Nat), j ≤ ks.length ∧ i = .int .i64 j ∧ LikeTo ks z0 t j ∧ Below wr.heap.size wr wx) (fun i _ => ks.length - (intOf i).toNat)
          case atStart => exact ⟨0, Nat.zero_le _, rfl, fun j z h _ => absurd h (by omega), Below.refl _ _⟩
          case round =>
            obtain ⟨j, hj, rfl, hlk, hbx⟩ := hrel
            have HLK := Lib.hid hlk
            clear hlk
            have hksx := hks.now hbx
            have hBx := hBr.now hbx
            have hbwx := bthen hbw hbx
            have e0x : wr.cell? ⟨b, o', none⟩ = some (.int .i64 z0) := by
              obtain ⟨b1, o1, z1, hA1, _, hx1, _, e1⟩ := hksx.at_ (k := 0) (by omega)
              injection hA1 with hA1; injection hA1 with g1 g2 _; subst g1 g2
              rw [HX0.out] at hx1; injection hx1 with hx1; subst hx1
              exact e1
            obtain ⟨p0, p1, p2, p3, p4, p5⟩ := hBx.c6
            by_cases hlt : j < ks.length
            · obtain ⟨b1, o1, z, hA1, _, hxz, hfz, ez⟩ := hksx.at_ hlt
              injection hA1 with hA1; injection hA1 with g1 g2 _; subst g1 g2
              have HXZ := Lib.hid hxz
              have j1 : (0 : Int) ≤ (j : Int) := by omega
              have j2 : (j : Int) < (ks.length : Int) := by omega
              clear hxz q0 q1 q2 q3 q4 q5 e0' hksx hBx
              by_cases hz : z = z0
              · have f1 : (z != z0) = false := by simp [hz]
                by_cases hz1 : z = 1
                · have f2 : (z != 1) = false := by simp [hz1]
                  have HN := Lib.hid (And.intro hz (fun _ : t = true => hz1))
                  clear hz hz1
                  go_upto_region 35 with fail
                  go_quiet (fail)
                  go_wp2_with fail
                  go_roundw
                  case rel =>
                    refine ⟨j + 1, by omega, by go_num, fun i y hi hy => ?_, bdrawn hbx _⟩
                    by_cases e : i = j
                    · subst e; rw [HXZ.out] at hy; injection hy with hy; subst hy; exact HN.out
                    · exact HLK.out i y (by omega) hy
                  case measure => simp [intOf]; omega
                · have f2 : (z != 1) = true := by simpa using hz1
                  first
                    | (have HN := Lib.hid (like_not HX0.out HXZ.out (.inr ⟨HTT.out, hz1⟩))
                       have HRR : Hid (typX vs x = (0, 11)) := by show _ = _; rw [HR.out]; exact (if_neg (by rw [HN.out]; simp))
                       clear hz hz1
                       go_upto_region 35 with fail
                       go_quiet (fail)
                       go_wp2_with fail
                       go_ret2
                       exact ret_T HRR.out (by unfold Fit; omega) (bdrawn hbwx _))
                    | (have HN : Hid (z = z0 ∧ (t = true → z = 1)) := ⟨hz, fun h => by rw [HTT.out] at h; cases h⟩
                       clear hz hz1
                       go_upto_region 35 with fail
                       go_quiet (fail)
                       go_wp2_with fail
                       go_roundw
                       case rel =>
                         refine ⟨j + 1, by omega, by go_num, fun i y hi hy => ?_, bdrawn hbx _⟩
                         by_cases e : i = j
                         · subst e; rw [HXZ.out] at hy; injection hy with hy; subst hy; exact HN.out
                         · exact HLK.out i y (by omega) hy
                       case measure => simp [intOf]; omega)
              · have f1 : (z != z0) = true := by simpa using hz
                have HN := Lib.hid (like_not (t := t) HX0.out HXZ.out (.inl hz))
                have HRR : Hid (typX vs x = (0, 11)) := by show _ = _; rw [HR.out]; exact (if_neg (by rw [HN.out]; simp))
                clear hz
                go_upto_region 35 with fail
                go_quiet (fail)
                go_wp2_with fail
                go_ret2
                exact ret_T HRR.out (by unfold Fit; omega) (bdrawn hbwx _)
            · obtain rfl : j = ks.length := by omega
              have HRR : Hid (typX vs x = (1, 0)) := by show _ = _; rw [HR.out]; exact if_pos (like_all HLK.out)
              go_wp2_with fail
              go_ret2
              exact ret_T HRR.out (by unfold Fit; omega) hbwx
end Go.Proofs.YtijmnenojbfdnaaGreatDoor

namespace Go.Proofs.YtijmnenojbfdnaaGreatDoor
open Go.RowKit
set_option maxHeartbeats 4000000 in
theorem count_ref : ∀ (n : Nat) (x : Ex) (u : Value) (w : World) (a d : Int), IsEx n (Lt w.heap.size) w u x → -1 ≤ a → a ≤ 400 → -1 ≤ d → d ≤ 60 →
    Calls Tryz.prog 56 #[u, .int .i64 a, .int .i64 d] w fun e w' => e = .returned (.int .i64 (cntX x a d)) ∧ Below w.heap.size w w' := by
  intro n
  induction n using Nat.strongRecOn with
  | _ n ih =>
    intro x u w a d h ha1 ha2 hd1 hd2
    have h0 := h
    obtain ⟨lv, rfl, h1, h2, h3, h4⟩ := h
    obtain ⟨A, c, rfl, l1, l2, h4⟩ := h4.open_
    have HE := Lib.hid (cntX_eq x a d)
    have hb := bone w (.cells #[.int .i64 x.op, .int .i64 x.v.kind, .int .i64 x.v.n, .string x.v.s, .string x.s, .slice A x.l.length c] 28)
    have hB := Blk.new w 28 #[.int .i64 x.op, .int .i64 x.v.kind, .int .i64 x.v.n, .string x.v.s, .string x.s, .slice A x.l.length c]
    have hx1 := h0.now hb
    have hl1 := SlE.now h4 hb
    clear h0 h4
    have wa : IntKind.i64.wrap (a - 1) = a - 1 := IntWalk.i64_in _ (by omega)
    have wd : IntKind.i64.wrap (d - 1) = d - 1 := IntWalk.i64_in _ (by omega)
    generalize hw1 : w.alloc (.cells #[.int .i64 x.op, .int .i64 x.v.kind, .int .i64 x.v.n, .string x.v.s, .string x.s, .slice A x.l.length c] 28) = w1 at *
    obtain ⟨q0, q1, q2, q3, q4, q5⟩ := hB.c6
    by_cases c1 : a ≤ 0
    · have HR : Hid (cntX x a d = -1) := by show _ = _; rw [HE.out, if_pos (.inl c1)]
      have c1' : a - 1 < 0 := by omega
      clear c1
      go_enter Tryz.func56, Tryz.ntmps56
      go_wp2_with fail
      go_ret
      exact ⟨by rw [HR.out]; rfl, hb⟩
    have c1' : 0 ≤ a - 1 := by omega
    by_cases c2 : d ≤ 0
    · have HR : Hid (cntX x a d = -1) := by show _ = _; rw [HE.out, if_pos (.inr (.inl c2))]
      have c2' : d < 1 := by omega
      clear c1 c2
      go_enter Tryz.func56, Tryz.ntmps56
      go_wp2_with fail
      go_ret
      exact ⟨by rw [HR.out]; rfl, hb⟩
    have c2' : 1 ≤ d := by omega
    go_enter Tryz.func56, Tryz.ntmps56
    go_wp2_with fail
    refine (shape_ref _ x _ _ hx1).mono ?_
    rintro e w2 ⟨rfl, hb2⟩
    have hbw2 := bthen hb hb2
    have hl2 := SlE.now hl1 hb2
    have hB2 := hB.now hb2
    clear q0 q1 q2 q3 q4 q5 hB hl1 hx1
    obtain ⟨q0, q1, q2, q3, q4, q5⟩ := hB2.c6
    generalize hs : shapeX x = sh at *
    cases sh
    · have HR : Hid (cntX x a d = -1) := by show _ = _; rw [HE.out, if_pos (.inr (.inr rfl))]
      go_wp2_with fail
      go_ret
      exact ⟨by rw [HR.out]; rfl, hbw2⟩
    have HR : Hid (cntX x a d = cntL (x.l.drop 0) (a - 1) (d - 1)) := by show _ = _; rw [HE.out, if_neg (by simp [c1, c2]), List.drop_zero]
    clear HE hs
    go_wp2_with fail
    go_loopw [1, 7] (fun av i wr => ∃ (k : Nat) (a' : Int), k ≤ x.l.length ∧ i = .int .i64 k ∧ av = .int .i64 a' ∧ -1 ≤ a' ∧ a' ≤ 400 ∧ (0 ≤ a' → cntX x a d = cntL (x.l.drop k) a' (d - 1)) ∧ (a' < 0 → cntX x a d = a') ∧ Below w2.heap.size w2 wr) (fun _ i _ => x.l.length - (intOf i).toNat)
    case atStart => exact ⟨0, a - 1, Nat.zero_le _, rfl, rfl, by omega, by omega, fun _ => HR.out, fun h => by omega, Below.refl _ _⟩
    case round =>
      obtain ⟨k, a', hk, rfl, rfl, a1, a2, hc, hn, hbr2⟩ := hrel
      have HC := Lib.hid hc
      have HN := Lib.hid hn
      have hbr := bthen hbw2 hbr2
      have hBr := hB2.now hbr2
      clear hc hn HR q0 q1 q2 q3 q4 q5
      obtain ⟨q0, q1, q2, q3, q4, q5⟩ := hBr.c6
      by_cases hlt : k < x.l.length
      · have i1 : (0 : Int) ≤ (k : Int) := by omega
        have i2 : (k : Int) < (x.l.length : Int) := by omega
        by_cases hz0 : a' < 0
        · have HRR := Lib.hid (HN.out hz0)
          go_wp2_with fail
          go_ret
          exact ⟨by rw [HRR.out]; rfl, hbr⟩
        have hz0' : 0 ≤ a' := by omega
        obtain ⟨b, o, y, lv, n', hn, rfl, hD, hx, hex, hfv, hsl, e0, e1, e2, e3, e4, e5⟩ := (SlE.now hl2 hbr2).at_ hlt
        have HX := Lib.hid (cntL_drop hx a' (d - 1))
        have HLO := Lib.hid (cnt_low y a' (d - 1))
        have HRG := Lib.hid (cnt_range y a' (d - 1) a2)
        obtain ⟨A2, c2', rfl, m1, m2, _⟩ := hsl.open_
        have hcall := Lib.hid (ih n' (by omega) y _ _ a' (d - 1) hex (by omega) a2 (by omega) (by omega))
        clear hx hex hfv hsl hn
        generalize cntX y a' (d - 1) = z at *
        go_wp2_with fail
        refine hcall.out.mono ?_
        rintro e w4 ⟨rfl, hb4⟩
        have hbw4' : Below w2.heap.size w2 w4 := bthen hbr2 hb4
        have HRR : Hid (cntX x a d = if z < 0 then -1 else cntL (x.l.drop (k + 1)) z (d - 1)) := by show _ = _; rw [HC.out hz0', HX.out]
        clear hz0 q0 q1 q2 q3 q4 q5
        go_wp2_with fail
        go_roundw
        case rel =>
          refine ⟨k + 1, z, by omega, by go_num, rfl, ?_, ?_, fun h => by rw [HRR.out, if_neg (by omega)], fun h => by rw [HRR.out, if_pos h, HLO.out h], hbw4'⟩
          · rcases Int.lt_or_le z 0 with h | h
            · have := HLO.out h; omega
            · omega
          · have := HRG.out; omega
        case measure => simp [intOf]; omega
      · have i2 : (x.l.length : Int) ≤ (k : Int) := by omega
        have HRR : Hid (cntX x a d = a') := by
          show _ = _
          rcases Int.lt_or_le a' 0 with h | h
          · exact HN.out h
          · rw [HC.out h, List.drop_eq_nil_of_le (by omega), cntL_nil]
        go_wp2_with fail
        go_ret
        exact ⟨by rw [HRR.out]; rfl, hbr⟩
theorem validX_ref (n : Nat) (x : Ex) (u : Value) (w : World) (h : IsEx n (Lt w.heap.size) w u x) :
    Calls Tryz.prog 19 #[u] w fun e w' => e = .returned (.bool (validX x)) ∧ Below w.heap.size w w' := by
  have h0 := h
  obtain ⟨lv, rfl, h1, h2, h3, h4⟩ := h
  have hb := bone w (.cells #[.int .i64 x.op, .int .i64 x.v.kind, .int .i64 x.v.n, .string x.v.s, .string x.s, lv] 28)
  have hc := count_ref n x _ _ 400 60 (h0.now hb) (by omega) (by omega) (by omega) (by omega)
  have HC := Lib.hid hc
  have HV : Hid (validX x = decide (0 ≤ cntX x 400 60)) := rfl
  clear hc h4 h0
  generalize cntX x 400 60 = z at *
  go_enter Tryz.func19, Tryz.ntmps19
  go_wp2_with fail
  refine HC.out.mono ?_
  rintro e w2 ⟨rfl, hb2⟩
  have hbw := bthen hb hb2
  clear hb hb2 HC
  go_wp2_with fail
  go_ret
  exact ⟨ret_bool HV.out.symm, hbw⟩
set_option maxHeartbeats 1000000 in
theorem fault_ref (n : Nat) (vs : List Var) (x : Ex) (uv u : Value) (w : World) (hv : SlX (Lt w.heap.size) w uv vs) (h : IsEx n (Lt w.heap.size) w u x) :
    Calls Tryz.prog 45 #[uv, u] w fun e w' => e = .returned (.tuple #[.int .i64 (givenE vs x).1, .int .i64 (givenE vs x).2]) ∧ Fit (givenE vs x).1 ∧ Below w.heap.size w w' := by
  have h0 := h
  obtain ⟨lv, rfl, h1, h2, h3, h4⟩ := h
  have hb := bone w (.cells #[.int .i64 x.op, .int .i64 x.v.kind, .int .i64 x.v.n, .string x.v.s, .string x.s, lv] 28)
  have hB := Blk.new w 28 #[.int .i64 x.op, .int .i64 x.v.kind, .int .i64 x.v.n, .string x.v.s, .string x.s, lv]
  have hx1 := h0.now hb
  have hv1 := hv.now hb
  have HE : Hid (givenE vs x = if validX x && varsB vs then typX vs x else (0, 1)) := rfl
  clear h0 hv h4
  go_enter Tryz.func45, Tryz.ntmps45
  go_upto_region 1 with fail
  generalize hw1 : w.alloc (.cells #[.int .i64 x.op, .int .i64 x.v.kind, .int .i64 x.v.n, .string x.v.s, .string x.s, lv] 28) = w1 at *
  clear hw1
  go_wp2_with fail
  refine (validVars_ref vs _ _ hv1).mono ?_
  rintro e w2 ⟨rfl, hb2⟩
  have hbw2 := bthen hb hb2
  have hB2 := hB.now hb2
  have hx2 := hx1.now hb2
  have hv2 := hv1.now hb2
  generalize hq2 : varsB vs = q at *
  obtain ⟨q0, q1, q2, q3, q4, q5⟩ := hB2.c6
  cases q
  · have HR : Hid (givenE vs x = (0, 1)) := by show _ = _; rw [HE.out, Bool.and_false]; rfl
    clear hx1 hv1 hx2 hv2
    go_wp2_with fail
    go_ret2
    rw [HR.out]
    exact ⟨rfl, by unfold Fit; omega, hbw2⟩
  clear hx1 hv1
  go_wp2_with fail
  refine (validX_ref n x _ _ hx2).mono ?_
  rintro e w3 ⟨rfl, hb3⟩
  have hbw3 := bthen hbw2 hb3
  have hB3 := hB2.now hb3
  have hx3 := hx2.now hb3
  have hv3 := hv2.now hb3
  generalize hq : validX x = q at *
  clear q0 q1 q2 q3 q4 q5
  obtain ⟨q0, q1, q2, q3, q4, q5⟩ := hB3.c6
  cases q
  · have HR : Hid (givenE vs x = (0, 1)) := HE.out
    clear hx2 hv2 hx3 hv3
    go_wp2_with fail
    go_ret2
    rw [HR.out]
    exact ⟨rfl, by unfold Fit; omega, hbw3⟩
  have HR : Hid (givenE vs x = typX vs x) := HE.out
  have HC := Lib.hid (type_ref n vs x _ _ _ hv3 hx3 (valid_ok hq))
  clear hx2 hv2 hx3 hv3 hq
  go_wp2_with fail
  refine HC.out.mono ?_
  rintro e w4 ⟨rfl, hf, hb4⟩
  go_wp2_with fail
  go_ret2
  rw [HR.out]
  exact ⟨rfl, hf, bthen hbw3 hb4⟩
theorem typed_ref (n : Nat) (vs : List Var) (x : Ex) (uv u : Value) (w : World) (hv : SlX (Lt w.heap.size) w uv vs) (h : IsEx n (Lt w.heap.size) w u x) :
    Calls Tryz.prog 14 #[uv, u] w fun e w' => e = .returned (.tuple #[.int .i64 (givenE vs x).1, .int .i64 (givenE vs x).2]) ∧ Fit (givenE vs x).1 ∧ Below w.heap.size w w' := by
  have h0 := h
  obtain ⟨lv, rfl, h1, h2, h3, h4⟩ := h
  have hb := bone w (.cells #[.int .i64 x.op, .int .i64 x.v.kind, .int .i64 x.v.n, .string x.v.s, .string x.s, lv] 28)
  have HC := Lib.hid (fault_ref n vs x _ _ _ (hv.now hb) (h0.now hb))
  clear h0 hv h4
  go_enter Tryz.func14, Tryz.ntmps14
  go_wp2_with fail
  refine HC.out.mono ?_
  rintro e w1 ⟨rfl, hf, hb1⟩
  go_wp2_with fail
  go_ret2
  exact ⟨rfl, hf, bthen hb hb1⟩
end Go.Proofs.YtijmnenojbfdnaaGreatDoor

namespace Go.Proofs.YtijmnenojbfdnaaGreatDoor
open Go.RowKit
set_option maxHeartbeats 400000 in
theorem truth_ref (b : Bool) (w : World) : Calls Tryz.prog 88 #[.bool b] w fun e w' => e = .returned (valV (truthV b)) ∧ Below w.heap.size w w' := by
  have hb := bone w (.cells #[.int .i64 0, .int .i64 0, .string ⟨#[]⟩] 25)
  have hB := Blk.new w 25 #[.int .i64 0, .int .i64 0, .string ⟨#[]⟩]
  obtain ⟨x0, x1, x2⟩ := hB.c3
  have k0 := hB.frozen 0
  have k1 := hB.frozen 1
  have k2 := hB.frozen 2
  cases b
  · go_enter Tryz.func88, Tryz.ntmps88
    go_upto_region 1 with fail
    generalize hw1 : w.alloc (.cells #[.int .i64 0, .int .i64 0, .string ⟨#[]⟩] 25) = w1 at *
    clear hw1
    go_wp2_with fail
    obtain ⟨t0, t1, t2⟩ := (hB.set3 (.int .i64 1) (.int .i64 0) (.string ⟨#[]⟩)).c3
    refine bodyPost_ret (v := .agg #[.int .i64 1, .int .i64 0, .string ⟨#[]⟩]) (by simp [results, Tryz.results88, go_sem, t0, t1, t2]) rfl ?_
    exact ⟨rfl, bset3 hb (Nat.le_refl _) _ _ _⟩
  · go_enter Tryz.func88, Tryz.ntmps88
    go_upto_region 1 with fail
    generalize hw1 : w.alloc (.cells #[.int .i64 0, .int .i64 0, .string ⟨#[]⟩] 25) = w1 at *
    clear hw1
    go_wp2_with fail
    obtain ⟨t0, t1, t2⟩ := (hB.set3 (.int .i64 1) (.int .i64 1) (.string ⟨#[]⟩)).c3
    refine bodyPost_ret (v := .agg #[.int .i64 1, .int .i64 1, .string ⟨#[]⟩]) (by simp [results, Tryz.results88, go_sem, t0, t1, t2]) rfl ?_
    exact ⟨rfl, bset3 hb (Nat.le_refl _) _ _ _⟩
set_option maxHeartbeats 400000 in
theorem enumber_ref (n : Int) (w : World) : Calls Tryz.prog 89 #[.int .i64 n] w (RetO (numV n) w) := by
  have hb := bone w (.cells #[.int .i64 0, .int .i64 0, .string ⟨#[]⟩] 25)
  have hB := Blk.new w 25 #[.int .i64 0, .int .i64 0, .string ⟨#[]⟩]
  obtain ⟨x0, x1, x2⟩ := hB.c3
  have k0 := hB.frozen 0
  have k1 := hB.frozen 1
  have k2 := hB.frozen 2
  have HCS : Hid (∀ Q : Prop, ((-4503599627370496 ≤ n ∧ n ≤ 4503599627370496) → Q) → (n < -4503599627370496 → Q) → (-4503599627370496 ≤ n → 4503599627370496 < n → Q) → Q) := by
    intro Q a1 a2 a3
    by_cases h1 : n < -4503599627370496
    · exact a2 h1
    · by_cases h2 : 4503599627370496 < n
      · exact a3 (by omega) h2
      · exact a1 ⟨by omega, by omega⟩
  refine HCS.out _ (fun h => ?_) (fun h => ?_) (fun h h' => ?_)
  · have HN := Lib.hid (num_yes (numB_yes h.1 h.2))
    obtain ⟨h1, h2⟩ := h
    generalize numV n = r at *
    clear HCS
    go_enter Tryz.func89, Tryz.ntmps89
    go_upto_region 1 with fail
    generalize hw1 : w.alloc (.cells #[.int .i64 0, .int .i64 0, .string ⟨#[]⟩] 25) = w1 at *
    clear hw1
    go_wp2_with fail
    obtain ⟨t0, t1, t2⟩ := (hB.set3 (.int .i64 2) (.int .i64 n) (.string ⟨#[]⟩)).c3
    refine bodyPost_ret (v := .tuple #[.agg #[.int .i64 2, .int .i64 n, .string ⟨#[]⟩], .bool true]) (by simp [results, Tryz.results89, go_sem, t0, t1, t2]) rfl ?_
    exact ⟨⟨2, n, ⟨#[]⟩⟩, by rw [HN.out]; rfl, fun a h => (by rw [HN.out] at h; injection h), bset3 hb (Nat.le_refl _) _ _ _⟩
  all_goals
    have HN := Lib.hid (num_no (numB_no (n := n) (fun h => by omega)))
    generalize numV n = r at *
    clear HCS
    go_enter Tryz.func89, Tryz.ntmps89
    go_upto_region 1 with fail
    generalize hw1 : w.alloc (.cells #[.int .i64 0, .int .i64 0, .string ⟨#[]⟩] 25) = w1 at *
    clear hw1
    go_wp2_with fail
    obtain ⟨t0, t1, t2⟩ := (hB.set3 (.int .i64 0) (.int .i64 0) (.string ⟨#[]⟩)).c3
    refine bodyPost_ret (v := .tuple #[.agg #[.int .i64 0, .int .i64 0, .string ⟨#[]⟩], .bool false]) (by simp [results, Tryz.results89, go_sem, t0, t1, t2]) rfl ?_
    exact ⟨⟨0, 0, ⟨#[]⟩⟩, by rw [HN.out]; rfl, fun a h => (by rw [HN.out] at h; cases h), bset3 hb (Nat.le_refl _) _ _ _⟩
theorem quo_gt {a b : Nat} (hb : 1 ≤ b) : 4503599627370496 / b < a ↔ 4503599627370496 < a * b := by
  rw [Nat.div_lt_iff_lt_mul hb]
theorem abs_mul (a b : Int) : (a * b).natAbs = a.natAbs * b.natAbs := Int.natAbs_mul a b
theorem abs_le {z : Int} : (-4503599627370496 ≤ z ∧ z ≤ 4503599627370496) ↔ z.natAbs ≤ 4503599627370496 := by omega
theorem big_test {a b X Y : Int} (hX : X = a.natAbs) (hY : Y = b.natAbs) (hb : b ≠ 0) : (Int.tdiv 4503599627370496 Y < X) ↔ 4503599627370496 < (a * b).natAbs := by
  have e : Int.tdiv 4503599627370496 Y = ((4503599627370496 / b.natAbs : Nat) : Int) := by
    rw [hY, Int.tdiv_eq_ediv_of_nonneg (by omega), Int.natCast_ediv]; rfl
  rw [e, abs_mul, ← quo_gt (by omega), hX]
  omega
theorem quo_in {Y : Int} (hY : 0 < Y) : 0 ≤ Int.tdiv 4503599627370496 Y ∧ Int.tdiv 4503599627370496 Y ≤ 4503599627370496 := by
  rw [Int.tdiv_eq_ediv_of_nonneg (by omega)]
  refine ⟨Int.ediv_nonneg (by omega) (by omega), ?_⟩
  exact Int.ediv_le_self _ (by omega)
set_option maxHeartbeats 2000000 in
theorem times_ref (a b : Int) (w : World) (ha : -4503599627370496 ≤ a ∧ a ≤ 4503599627370496) (hb0 : -4503599627370496 ≤ b ∧ b ≤ 4503599627370496) :
    Calls Tryz.prog 90 #[.int .i64 a, .int .i64 b] w (RetO (numV (a * b)) w) := by
  have hb := bone w (.cells #[.int .i64 0, .int .i64 0, .string ⟨#[]⟩] 25)
  have hB := Blk.new w 25 #[.int .i64 0, .int .i64 0, .string ⟨#[]⟩]
  go_enter Tryz.func90, Tryz.ntmps90
  go_upto_region 1 with fail
  generalize hw1 : w.alloc (.cells #[.int .i64 0, .int .i64 0, .string ⟨#[]⟩] 25) = w1 at *
  clear hw1
  have HST : Hid (∀ (W : World) (x y z : Value), Below w1.heap.size w1 W →
      (W.frozen? ⟨w.heap.size, 0, none⟩ = false ∧ W.frozen? ⟨w.heap.size, 1, none⟩ = false ∧ W.frozen? ⟨w.heap.size, 2, none⟩ = false) ∧
      Blk (((W.setCell ⟨w.heap.size, 0, none⟩ x).setCell ⟨w.heap.size, 1, none⟩ y).setCell ⟨w.heap.size, 2, none⟩ z) w.heap.size 25 #[x, y, z] ∧
      (W.cell? ⟨w.heap.size, 0, none⟩ = some (.int .i64 0) ∧ W.cell? ⟨w.heap.size, 1, none⟩ = some (.int .i64 0) ∧ W.cell? ⟨w.heap.size, 2, none⟩ = some (.string ⟨#[]⟩)) ∧
      Below w.heap.size w (((W.setCell ⟨w.heap.size, 0, none⟩ x).setCell ⟨w.heap.size, 1, none⟩ y).setCell ⟨w.heap.size, 2, none⟩ z)) :=
    fun W x y z hW => ⟨⟨(hB.now hW).frozen 0, (hB.now hW).frozen 1, (hB.now hW).frozen 2⟩, (hB.now hW).set3 _ _ _, (hB.now hW).c3, bset3 (bthen hb hW) (Nat.le_refl _) _ _ _⟩
  clear hb hB
  by_cases hz : a = 0 ∨ b = 0
  · have e0 : a * b = 0 := by rcases hz with h | h <;> simp [h]
    have HEE : Hid (numV (a * b) = numV 0) := by show _ = _; rw [e0]
    have HZ : Hid (∀ Q : Prop, ((a == 0) = true → Q) → ((a == 0) = false → (b == 0) = true → Q) → Q) := by
      intro Q h1 h2
      by_cases e : a = 0
      · exact h1 (by simp [e])
      · exact h2 (by simp [e]) (by rcases hz with h | h; exact absurd h e; simp [h])
    clear hz e0
    refine HZ.out _ (fun b1 => ?_) (fun b1 b2 => ?_)
    all_goals
      go_wp2_with fail
      refine (enumber_ref 0 _).mono ?_
      rintro e w2 ⟨v, rfl, hv, hb2⟩
      obtain ⟨⟨k0, k1, k2⟩, hS, ⟨y0, y1, y2⟩, hbS⟩ := HST.out _ (.int .i64 v.kind) (.int .i64 v.n) (.string v.s) hb2
      generalize numV 0 = r at *
      go_wp2_with fail
      obtain ⟨t0, t1, t2⟩ := hS.c3
      refine bodyPost_ret (v := .tuple #[.agg #[.int .i64 v.kind, .int .i64 v.n, .string v.s], .bool r.isSome]) (by simp [results, Tryz.results90, go_sem, t0, t1, t2]) rfl ?_
      exact RetO.cast HEE.out ⟨v, rfl, hv, hbS⟩
  · have ha0 : a ≠ 0 := fun h => hz (.inl h)
    have hb1 : b ≠ 0 := fun h => hz (.inr h)
    have b1 : (a == 0) = false := by simp [ha0]
    have b2 : (b == 0) = false := by simp [hb1]
    clear hz
    have HBT := Lib.hid (fun (X Y : Int) (hX : X = a.natAbs) (hY : Y = b.natAbs) => big_test hX hY hb1)
    have HNB : Hid (4503599627370496 < (a * b).natAbs → numV (a * b) = none) := fun h => num_no (numB_no (fun h' => by have := abs_le.1 h'; omega))
    have HWR : Hid (¬ 4503599627370496 < (a * b).natAbs → IntKind.i64.wrap (a * b) = a * b) := fun h => IntWalk.i64_in _ (by have := abs_le.2 (Nat.le_of_not_lt h); omega)
    rcases Int.lt_or_le a 0 with ha1 | ha1
    · rcases Int.lt_or_le b 0 with hb2 | hb2
      · have hqi := quo_in (Y := -b) (by omega)
        have wq : IntKind.i64.wrap (Int.tdiv 4503599627370496 (-b)) = Int.tdiv 4503599627370496 (-b) := IntWalk.i64_in _ (by omega)
        have ht := HBT.out (-a) (-b) (by omega) (by omega)
        have wa : IntKind.i64.wrap (-a) = -a := IntWalk.i64_in _ (by omega)
        have wb : IntKind.i64.wrap (-b) = -b := IntWalk.i64_in _ (by omega)
        have nb : ¬ -b = 0 := by omega
        by_cases hbig : 4503599627370496 < (a * b).natAbs
        · have HNO := Lib.hid (HNB.out hbig)
          have h1 : Int.tdiv 4503599627370496 (-b) < -a := ht.2 hbig
          rw [Int.tdiv_neg] at h1 wq
          clear ht hbig
          obtain ⟨⟨k0, k1, k2⟩, hS, ⟨y0, y1, y2⟩, hbS⟩ := HST.out _ (.int .i64 0) (.int .i64 0) (.string ⟨#[]⟩) (Below.refl _ _)
          go_wp2_with fail
          obtain ⟨t0, t1, t2⟩ := hS.c3
          refine bodyPost_ret (v := .tuple #[.agg #[.int .i64 0, .int .i64 0, .string ⟨#[]⟩], .bool false]) (by simp [results, Tryz.results90, go_sem, t0, t1, t2]) rfl ?_
          exact RetO.cast HNO.out ⟨⟨0, 0, ⟨#[]⟩⟩, rfl, fun x h => (by cases h), hbS⟩
        · have h1 : -a ≤ Int.tdiv 4503599627370496 (-b) := Int.not_lt.1 (fun h => hbig (ht.1 h))
          rw [Int.tdiv_neg] at h1 wq
          have wm := HWR.out hbig
          clear ht hbig
          go_wp2_with fail
          refine (enumber_ref (a * b) _).mono ?_
          rintro e w2 ⟨v, rfl, hv, hb2⟩
          obtain ⟨⟨k0, k1, k2⟩, hS, ⟨y0, y1, y2⟩, hbS⟩ := HST.out _ (.int .i64 v.kind) (.int .i64 v.n) (.string v.s) hb2
          go_wp2_with fail
          obtain ⟨t0, t1, t2⟩ := hS.c3
          refine bodyPost_ret (v := .tuple #[.agg #[.int .i64 v.kind, .int .i64 v.n, .string v.s], .bool (numV (a * b)).isSome]) (by simp [results, Tryz.results90, go_sem, t0, t1, t2]) rfl ?_
          exact ⟨v, rfl, hv, hbS⟩
      · have hb3 : 0 < b := by omega
        have hqi := quo_in (Y := b) (by omega)
        have wq : IntKind.i64.wrap (Int.tdiv 4503599627370496 (b)) = Int.tdiv 4503599627370496 (b) := IntWalk.i64_in _ (by omega)
        have ht := HBT.out (-a) (b) (by omega) (by omega)
        have wa : IntKind.i64.wrap (-a) = -a := IntWalk.i64_in _ (by omega)
        by_cases hbig : 4503599627370496 < (a * b).natAbs
        · have HNO := Lib.hid (HNB.out hbig)
          have h1 : Int.tdiv 4503599627370496 (b) < -a := ht.2 hbig
          clear ht hbig
          obtain ⟨⟨k0, k1, k2⟩, hS, ⟨y0, y1, y2⟩, hbS⟩ := HST.out _ (.int .i64 0) (.int .i64 0) (.string ⟨#[]⟩) (Below.refl _ _)
          go_wp2_with fail
          obtain ⟨t0, t1, t2⟩ := hS.c3
          refine bodyPost_ret (v := .tuple #[.agg #[.int .i64 0, .int .i64 0, .string ⟨#[]⟩], .bool false]) (by simp [results, Tryz.results90, go_sem, t0, t1, t2]) rfl ?_
          exact RetO.cast HNO.out ⟨⟨0, 0, ⟨#[]⟩⟩, rfl, fun x h => (by cases h), hbS⟩
        · have h1 : -a ≤ Int.tdiv 4503599627370496 (b) := Int.not_lt.1 (fun h => hbig (ht.1 h))
          have wm := HWR.out hbig
          clear ht hbig
          go_wp2_with fail
          refine (enumber_ref (a * b) _).mono ?_
          rintro e w2 ⟨v, rfl, hv, hb2⟩
          obtain ⟨⟨k0, k1, k2⟩, hS, ⟨y0, y1, y2⟩, hbS⟩ := HST.out _ (.int .i64 v.kind) (.int .i64 v.n) (.string v.s) hb2
          go_wp2_with fail
          obtain ⟨t0, t1, t2⟩ := hS.c3
          refine bodyPost_ret (v := .tuple #[.agg #[.int .i64 v.kind, .int .i64 v.n, .string v.s], .bool (numV (a * b)).isSome]) (by simp [results, Tryz.results90, go_sem, t0, t1, t2]) rfl ?_
          exact ⟨v, rfl, hv, hbS⟩
    · rcases Int.lt_or_le b 0 with hb2 | hb2
      · have hqi := quo_in (Y := -b) (by omega)
        have wq : IntKind.i64.wrap (Int.tdiv 4503599627370496 (-b)) = Int.tdiv 4503599627370496 (-b) := IntWalk.i64_in _ (by omega)
        have ht := HBT.out (a) (-b) (by omega) (by omega)
        have wb : IntKind.i64.wrap (-b) = -b := IntWalk.i64_in _ (by omega)
        have nb : ¬ -b = 0 := by omega
        by_cases hbig : 4503599627370496 < (a * b).natAbs
        · have HNO := Lib.hid (HNB.out hbig)
          have h1 : Int.tdiv 4503599627370496 (-b) < a := ht.2 hbig
          rw [Int.tdiv_neg] at h1 wq
          clear ht hbig
          obtain ⟨⟨k0, k1, k2⟩, hS, ⟨y0, y1, y2⟩, hbS⟩ := HST.out _ (.int .i64 0) (.int .i64 0) (.string ⟨#[]⟩) (Below.refl _ _)
          go_wp2_with fail
          obtain ⟨t0, t1, t2⟩ := hS.c3
          refine bodyPost_ret (v := .tuple #[.agg #[.int .i64 0, .int .i64 0, .string ⟨#[]⟩], .bool false]) (by simp [results, Tryz.results90, go_sem, t0, t1, t2]) rfl ?_
          exact RetO.cast HNO.out ⟨⟨0, 0, ⟨#[]⟩⟩, rfl, fun x h => (by cases h), hbS⟩
        · have h1 : a ≤ Int.tdiv 4503599627370496 (-b) := Int.not_lt.1 (fun h => hbig (ht.1 h))
          rw [Int.tdiv_neg] at h1 wq
          have wm := HWR.out hbig
          clear ht hbig
          go_wp2_with fail
          refine (enumber_ref (a * b) _).mono ?_
          rintro e w2 ⟨v, rfl, hv, hb2⟩
          obtain ⟨⟨k0, k1, k2⟩, hS, ⟨y0, y1, y2⟩, hbS⟩ := HST.out _ (.int .i64 v.kind) (.int .i64 v.n) (.string v.s) hb2
          go_wp2_with fail
          obtain ⟨t0, t1, t2⟩ := hS.c3
          refine bodyPost_ret (v := .tuple #[.agg #[.int .i64 v.kind, .int .i64 v.n, .string v.s], .bool (numV (a * b)).isSome]) (by simp [results, Tryz.results90, go_sem, t0, t1, t2]) rfl ?_
          exact ⟨v, rfl, hv, hbS⟩
      · have hb3 : 0 < b := by omega
        have hqi := quo_in (Y := b) (by omega)
        have wq : IntKind.i64.wrap (Int.tdiv 4503599627370496 (b)) = Int.tdiv 4503599627370496 (b) := IntWalk.i64_in _ (by omega)
        have ht := HBT.out (a) (b) (by omega) (by omega)
        by_cases hbig : 4503599627370496 < (a * b).natAbs
        · have HNO := Lib.hid (HNB.out hbig)
          have h1 : Int.tdiv 4503599627370496 (b) < a := ht.2 hbig
          clear ht hbig
          obtain ⟨⟨k0, k1, k2⟩, hS, ⟨y0, y1, y2⟩, hbS⟩ := HST.out _ (.int .i64 0) (.int .i64 0) (.string ⟨#[]⟩) (Below.refl _ _)
          go_wp2_with fail
          obtain ⟨t0, t1, t2⟩ := hS.c3
          refine bodyPost_ret (v := .tuple #[.agg #[.int .i64 0, .int .i64 0, .string ⟨#[]⟩], .bool false]) (by simp [results, Tryz.results90, go_sem, t0, t1, t2]) rfl ?_
          exact RetO.cast HNO.out ⟨⟨0, 0, ⟨#[]⟩⟩, rfl, fun x h => (by cases h), hbS⟩
        · have h1 : a ≤ Int.tdiv 4503599627370496 (b) := Int.not_lt.1 (fun h => hbig (ht.1 h))
          have wm := HWR.out hbig
          clear ht hbig
          go_wp2_with fail
          refine (enumber_ref (a * b) _).mono ?_
          rintro e w2 ⟨v, rfl, hv, hb2⟩
          obtain ⟨⟨k0, k1, k2⟩, hS, ⟨y0, y1, y2⟩, hbS⟩ := HST.out _ (.int .i64 v.kind) (.int .i64 v.n) (.string v.s) hb2
          go_wp2_with fail
          obtain ⟨t0, t1, t2⟩ := hS.c3
          refine bodyPost_ret (v := .tuple #[.agg #[.int .i64 v.kind, .int .i64 v.n, .string v.s], .bool (numV (a * b)).isSome]) (by simp [results, Tryz.results90, go_sem, t0, t1, t2]) rfl ?_
          exact ⟨v, rfl, hv, hbS⟩
end Go.Proofs.YtijmnenojbfdnaaGreatDoor

namespace Go.Proofs.YtijmnenojbfdnaaGreatDoor
open Go.RowKit
set_option maxHeartbeats 4000000 in
set_option maxRecDepth 100000 in
theorem value_const (n : Nat) (vs : List Var) (vals : List Val) (x : Ex) (w : World) (uv vv u : Value) (h : EvArgs n vs vals x w uv vv u) (ho : x.op = 1) : Calls Tryz.prog 49 #[uv, vv, u] w (RetO (evX vs vals x) w) := by
  have HO := Lib.hid ho
  clear ho
  have h0 := h
  obtain ⟨hvs, hvl, hx, _, _, hA⟩ := h
  obtain ⟨Av, cv, rfl, v1, v2, hvs⟩ := hvs.open_
  obtain ⟨Aw, cw, rfl, v3, v4, hvl⟩ := hvl.open_
  obtain ⟨lv, rfl, h1, h2, h3, h4⟩ := hx
  obtain ⟨A, c, rfl, l1, l2, h4⟩ := h4.open_
  have hb := bbox (bone w (.cells #[.int .i64 x.op, .int .i64 x.v.kind, .int .i64 x.v.n, .string x.v.s, .string x.s, .slice A x.l.length c] 28)) (.cells #[.int .i64 0, .int .i64 0, .string ⟨#[]⟩] 25)
  have hB := (Blk.new w 28 #[.int .i64 x.op, .int .i64 x.v.kind, .int .i64 x.v.n, .string x.v.s, .string x.s, .slice A x.l.length c]).alloc (.cells #[.int .i64 0, .int .i64 0, .string ⟨#[]⟩] 25)
  have hR := Blk.new_at (t := 25) (cs := #[.int .i64 0, .int .i64 0, .string ⟨#[]⟩]) (w := w.alloc (.cells #[.int .i64 x.op, .int .i64 x.v.kind, .int .i64 x.v.n, .string x.v.s, .string x.s, .slice A x.l.length c] 28)) (s := w.heap.size + 1) (by simp)
  have hl1 := SlE.now h4 hb
  have hv1 := hvs.now hb
  have hw1 := hvl.now hb
  clear h4 hvs hvl
  go_enter Tryz.func49, Tryz.ntmps49
  go_upto_region 1 with fail
  generalize hww : (w.alloc (.cells #[.int .i64 x.op, .int .i64 x.v.kind, .int .i64 x.v.n, .string x.v.s, .string x.s, .slice A x.l.length c] 28)).alloc (.cells #[.int .i64 0, .int .i64 0, .string ⟨#[]⟩] 25) = w1 at *
  clear hww
  have ho := HO.out
  have HST : Hid (∀ (W : World) (x y z : Value), Below w1.heap.size w1 W →
      (W.frozen? ⟨w.heap.size + 1, 0, none⟩ = false ∧ W.frozen? ⟨w.heap.size + 1, 1, none⟩ = false ∧ W.frozen? ⟨w.heap.size + 1, 2, none⟩ = false) ∧
      Blk (((W.setCell ⟨w.heap.size + 1, 0, none⟩ x).setCell ⟨w.heap.size + 1, 1, none⟩ y).setCell ⟨w.heap.size + 1, 2, none⟩ z) (w.heap.size + 1) 25 #[x, y, z] ∧
      (W.cell? ⟨w.heap.size + 1, 0, none⟩ = some (.int .i64 0) ∧ W.cell? ⟨w.heap.size + 1, 1, none⟩ = some (.int .i64 0) ∧ W.cell? ⟨w.heap.size + 1, 2, none⟩ = some (.string ⟨#[]⟩)) ∧
      Below w.heap.size w (((W.setCell ⟨w.heap.size + 1, 0, none⟩ x).setCell ⟨w.heap.size + 1, 1, none⟩ y).setCell ⟨w.heap.size + 1, 2, none⟩ z)) :=
    fun W x y z hW => ⟨⟨(hR.now hW).frozen 0, (hR.now hW).frozen 1, (hR.now hW).frozen 2⟩, (hR.now hW).set3 _ _ _, (hR.now hW).c3, bset3 (bthen hb hW) (by omega) _ _ _⟩
  obtain ⟨q0, q1, q2, q3, q4, q5⟩ := hB.c6
  have HKEY := Lib.hid (ev_key vs vals x)
  have HSL := Lib.hid (shape_len h0.shape)
  have HR : Hid (evX vs vals x = some x.v) := by show _ = _; rw [HKEY.out]; unfold evO; rw [if_pos ho]
  obtain ⟨⟨k0, k1, k2⟩, hS, ⟨y0, y1, y2⟩, hbS⟩ := HST.out w1 (.int .i64 x.v.kind) (.int .i64 x.v.n) (.string x.v.s) (Below.refl _ _)
  go_wp2_with fail
  obtain ⟨t0, t1, t2⟩ := hS.c3
  refine bodyPost_ret (v := .tuple #[.agg #[.int .i64 x.v.kind, .int .i64 x.v.n, .string x.v.s], .bool true]) (by simp [results, Tryz.results49, go_sem, t0, t1, t2]) rfl ?_
  exact RetO.cast HR.out ⟨x.v, rfl, fun a h => (by injection h), hbS⟩
set_option maxHeartbeats 4000000 in
set_option maxRecDepth 100000 in
theorem value_var (n : Nat) (vs : List Var) (vals : List Val) (x : Ex) (w : World) (uv vv u : Value) (h : EvArgs n vs vals x w uv vv u) (ho : x.op = 2) : Calls Tryz.prog 49 #[uv, vv, u] w (RetO (evX vs vals x) w) := by
  have HO := Lib.hid ho
  clear ho
  have h0 := h
  obtain ⟨hvs, hvl, hx, _, _, hA⟩ := h
  obtain ⟨Av, cv, rfl, v1, v2, hvs⟩ := hvs.open_
  obtain ⟨Aw, cw, rfl, v3, v4, hvl⟩ := hvl.open_
  obtain ⟨lv, rfl, h1, h2, h3, h4⟩ := hx
  obtain ⟨A, c, rfl, l1, l2, h4⟩ := h4.open_
  have hb := bbox (bone w (.cells #[.int .i64 x.op, .int .i64 x.v.kind, .int .i64 x.v.n, .string x.v.s, .string x.s, .slice A x.l.length c] 28)) (.cells #[.int .i64 0, .int .i64 0, .string ⟨#[]⟩] 25)
  have hB := (Blk.new w 28 #[.int .i64 x.op, .int .i64 x.v.kind, .int .i64 x.v.n, .string x.v.s, .string x.s, .slice A x.l.length c]).alloc (.cells #[.int .i64 0, .int .i64 0, .string ⟨#[]⟩] 25)
  have hR := Blk.new_at (t := 25) (cs := #[.int .i64 0, .int .i64 0, .string ⟨#[]⟩]) (w := w.alloc (.cells #[.int .i64 x.op, .int .i64 x.v.kind, .int .i64 x.v.n, .string x.v.s, .string x.s, .slice A x.l.length c] 28)) (s := w.heap.size + 1) (by simp)
  have hl1 := SlE.now h4 hb
  have hv1 := hvs.now hb
  have hw1 := hvl.now hb
  clear h4 hvs hvl
  go_enter Tryz.func49, Tryz.ntmps49
  go_upto_region 1 with fail
  generalize hww : (w.alloc (.cells #[.int .i64 x.op, .int .i64 x.v.kind, .int .i64 x.v.n, .string x.v.s, .string x.s, .slice A x.l.length c] 28)).alloc (.cells #[.int .i64 0, .int .i64 0, .string ⟨#[]⟩] 25) = w1 at *
  clear hww
  have ho := HO.out
  have HST : Hid (∀ (W : World) (x y z : Value), Below w1.heap.size w1 W →
      (W.frozen? ⟨w.heap.size + 1, 0, none⟩ = false ∧ W.frozen? ⟨w.heap.size + 1, 1, none⟩ = false ∧ W.frozen? ⟨w.heap.size + 1, 2, none⟩ = false) ∧
      Blk (((W.setCell ⟨w.heap.size + 1, 0, none⟩ x).setCell ⟨w.heap.size + 1, 1, none⟩ y).setCell ⟨w.heap.size + 1, 2, none⟩ z) (w.heap.size + 1) 25 #[x, y, z] ∧
      (W.cell? ⟨w.heap.size + 1, 0, none⟩ = some (.int .i64 0) ∧ W.cell? ⟨w.heap.size + 1, 1, none⟩ = some (.int .i64 0) ∧ W.cell? ⟨w.heap.size + 1, 2, none⟩ = some (.string ⟨#[]⟩)) ∧
      Below w.heap.size w (((W.setCell ⟨w.heap.size + 1, 0, none⟩ x).setCell ⟨w.heap.size + 1, 1, none⟩ y).setCell ⟨w.heap.size + 1, 2, none⟩ z)) :=
    fun W x y z hW => ⟨⟨(hR.now hW).frozen 0, (hR.now hW).frozen 1, (hR.now hW).frozen 2⟩, (hR.now hW).set3 _ _ _, (hR.now hW).c3, bset3 (bthen hb hW) (by omega) _ _ _⟩
  obtain ⟨q0, q1, q2, q3, q4, q5⟩ := hB.c6
  have HKEY := Lib.hid (ev_key vs vals x)
  have HSL := Lib.hid (shape_len h0.shape)
  have hf : ¬ findV vs x.s < 0 := by
    intro hf
    have ht := (types_of h0.hty).2
    unfold typO at ht
    rw [if_neg (by omega), if_pos ho, if_pos hf] at ht
    cases ht
  obtain ⟨i, z, hi, hz⟩ := find_at hf
  have hil : i < vals.length := by
    rw [hA.len]
    rcases Nat.lt_or_ge i vs.length with h | h
    · exact h
    · rw [List.getElem?_eq_none h] at hz; cases hz
  have HFI := Lib.hid hi
  clear hf hi hz
  go_wp2_with fail
  refine (find_ref vs x.s _ _ hv1).mono ?_
  rintro e w9 ⟨rfl, rfl⟩
  have hb2 : Below w1.heap.size w1 w1 := Below.refl _ _
  rw [HFI.out]
  obtain ⟨b, o, v, rfl, hD, hv, hfv, c0, c1, c2⟩ := (hw1.now hb2).at_ hil
  have HR : Hid (evX vs vals x = some v) := by
    show _ = _
    rw [HKEY.out]
    unfold evO
    rw [if_neg (by omega), if_pos ho]
    unfold varV
    rw [HFI.out, Int.toNat_natCast, List.getD_eq_getElem?_getD, hv]; rfl
  have i1 : (0 : Int) ≤ (i : Int) := by omega
  have i2 : (i : Int) < (vals.length : Int) := by omega
  clear hv q0 q1 q2 q3 q4 q5
  obtain ⟨⟨k0, k1, k2⟩, hS, ⟨y0, y1, y2⟩, hbS⟩ := HST.out w1 (.int .i64 v.kind) (.int .i64 v.n) (.string v.s) hb2
  go_wp2_with fail
  obtain ⟨t0, t1, t2⟩ := hS.c3
  refine bodyPost_ret (v := .tuple #[.agg #[.int .i64 v.kind, .int .i64 v.n, .string v.s], .bool true]) (by simp [results, Tryz.results49, go_sem, t0, t1, t2]) rfl ?_
  exact RetO.cast HR.out ⟨v, rfl, fun a h => (by injection h), hbS⟩
set_option maxHeartbeats 4000000 in
set_option maxRecDepth 100000 in
theorem value_not (n : Nat) (ih : ∀ m, m < n → EvalAt 49 m) (vs : List Var) (vals : List Val) (x : Ex) (w : World) (uv vv u : Value) (h : EvArgs n vs vals x w uv vv u) (ho : x.op = 3) : Calls Tryz.prog 49 #[uv, vv, u] w (RetO (evX vs vals x) w) := by
  have HO := Lib.hid ho
  clear ho
  have h0 := h
  obtain ⟨hvs, hvl, hx, _, _, hA⟩ := h
  obtain ⟨Av, cv, rfl, v1, v2, hvs⟩ := hvs.open_
  obtain ⟨Aw, cw, rfl, v3, v4, hvl⟩ := hvl.open_
  obtain ⟨lv, rfl, h1, h2, h3, h4⟩ := hx
  obtain ⟨A, c, rfl, l1, l2, h4⟩ := h4.open_
  have hb := bbox (bone w (.cells #[.int .i64 x.op, .int .i64 x.v.kind, .int .i64 x.v.n, .string x.v.s, .string x.s, .slice A x.l.length c] 28)) (.cells #[.int .i64 0, .int .i64 0, .string ⟨#[]⟩] 25)
  have hB := (Blk.new w 28 #[.int .i64 x.op, .int .i64 x.v.kind, .int .i64 x.v.n, .string x.v.s, .string x.s, .slice A x.l.length c]).alloc (.cells #[.int .i64 0, .int .i64 0, .string ⟨#[]⟩] 25)
  have hR := Blk.new_at (t := 25) (cs := #[.int .i64 0, .int .i64 0, .string ⟨#[]⟩]) (w := w.alloc (.cells #[.int .i64 x.op, .int .i64 x.v.kind, .int .i64 x.v.n, .string x.v.s, .string x.s, .slice A x.l.length c] 28)) (s := w.heap.size + 1) (by simp)
  have hl1 := SlE.now h4 hb
  have hv1 := hvs.now hb
  have hw1 := hvl.now hb
  clear h4 hvs hvl
  go_enter Tryz.func49, Tryz.ntmps49
  go_upto_region 1 with fail
  generalize hww : (w.alloc (.cells #[.int .i64 x.op, .int .i64 x.v.kind, .int .i64 x.v.n, .string x.v.s, .string x.s, .slice A x.l.length c] 28)).alloc (.cells #[.int .i64 0, .int .i64 0, .string ⟨#[]⟩] 25) = w1 at *
  clear hww
  have ho := HO.out
  have HST : Hid (∀ (W : World) (x y z : Value), Below w1.heap.size w1 W →
      (W.frozen? ⟨w.heap.size + 1, 0, none⟩ = false ∧ W.frozen? ⟨w.heap.size + 1, 1, none⟩ = false ∧ W.frozen? ⟨w.heap.size + 1, 2, none⟩ = false) ∧
      Blk (((W.setCell ⟨w.heap.size + 1, 0, none⟩ x).setCell ⟨w.heap.size + 1, 1, none⟩ y).setCell ⟨w.heap.size + 1, 2, none⟩ z) (w.heap.size + 1) 25 #[x, y, z] ∧
      (W.cell? ⟨w.heap.size + 1, 0, none⟩ = some (.int .i64 0) ∧ W.cell? ⟨w.heap.size + 1, 1, none⟩ = some (.int .i64 0) ∧ W.cell? ⟨w.heap.size + 1, 2, none⟩ = some (.string ⟨#[]⟩)) ∧
      Below w.heap.size w (((W.setCell ⟨w.heap.size + 1, 0, none⟩ x).setCell ⟨w.heap.size + 1, 1, none⟩ y).setCell ⟨w.heap.size + 1, 2, none⟩ z)) :=
    fun W x y z hW => ⟨⟨(hR.now hW).frozen 0, (hR.now hW).frozen 1, (hR.now hW).frozen 2⟩, (hR.now hW).set3 _ _ _, (hR.now hW).c3, bset3 (bthen hb hW) (by omega) _ _ _⟩
  obtain ⟨q0, q1, q2, q3, q4, q5⟩ := hB.c6
  have HKEY := Lib.hid (ev_key vs vals x)
  have HSL := Lib.hid (shape_len h0.shape)
  have hlen : 1 ≤ x.l.length := by have := HSL.out; omega
  obtain ⟨b, o, y, ylv, n', hn, rfl, hD, hy, hex, hfv, hsl, e0, e1, e2, e3, e4, e5⟩ := hl1.at_ (k := 0) (by omega)
  have HY := Lib.hid hy
  have hym := List.mem_of_getElem? hy
  obtain ⟨A2, c2', rfl, m1, m2, _⟩ := hsl.open_
  have hcall := Lib.hid (ih n' (by omega) vs vals y _ _ _ _ (h0.part hym hb hex))
  have HV0 := Lib.hid (fun (a : Val) (h : evX vs vals y = some a) => h0.val hym h)
  have i0 : (0 : Int) < (x.l.length : Int) := by omega
  have e0' : w1.cell? ⟨b, o, none⟩ = some (.int .i64 y.op) := by simpa using e0
  have e1' : w1.cell? ⟨b, o + 1, none⟩ = some (.int .i64 y.v.kind) := by simpa using e1
  have e2' : w1.cell? ⟨b, o + 2, none⟩ = some (.int .i64 y.v.n) := by simpa using e2
  have e3' : w1.cell? ⟨b, o + 3, none⟩ = some (.string y.v.s) := by simpa using e3
  have e4' : w1.cell? ⟨b, o + 4, none⟩ = some (.string y.s) := by simpa using e4
  have e5' : w1.cell? ⟨b, o + 5, none⟩ = some (.slice A2 y.l.length c2') := by simpa using e5
  clear hy hex hsl hfv e0 e1 e2 e3 e4 e5 hn
  go_wp2_with fail
  refine hcall.out.mono ?_
  clear hcall e0' e1' e2' e3' e4' e5'
  rintro e w2 ⟨v0, rfl, hv0, hb2⟩
  have HG0 := Lib.hid (getD_map (f := evX vs vals) HY.out)
  generalize hr0 : evX vs vals y = r0 at *
  have hb3 := bone w2 (.cells #[.int .i64 v0.kind, .int .i64 v0.n, .string v0.s] 25)
  have hF := Blk.new w2 25 #[.int .i64 v0.kind, .int .i64 v0.n, .string v0.s]
  have hb13 := bthen hb2 hb3
  have hB3 := hB.now hb13
  have hl3 := SlE.now hl1 hb13
  clear q0 q1 q2 q3 q4 q5
  have l2' := hF.lt
  go_upto_region 7 with fail
  generalize hw3 : w2.alloc (.cells #[.int .i64 v0.kind, .int .i64 v0.n, .string v0.s] 25) = w3 at *
  clear hw3
  obtain ⟨q0, q1, q2, q3, q4, q5⟩ := hB3.c6
  obtain ⟨f0, f1, f2⟩ := hF.c3
  cases r0 with
  | none =>
    have HR : Hid (evX vs vals x = none) := by
      show _ = _
      rw [HKEY.out]
      unfold evO
      rw [if_neg (by omega), if_neg (by omega), HG0.out]
    clear f0 f1 f2 q0 q1 q2 q3 q4 q5
    obtain ⟨⟨k0, k1, k2⟩, hS, ⟨y0, y1, y2⟩, hbS⟩ := HST.out w3 (.int .i64 0) (.int .i64 0) (.string ⟨#[]⟩) hb13
    go_wp2_with fail
    obtain ⟨t0, t1, t2⟩ := hS.c3
    refine bodyPost_ret (v := .tuple #[.agg #[.int .i64 0, .int .i64 0, .string ⟨#[]⟩], .bool false]) (by simp [results, Tryz.results49, go_sem, t0, t1, t2]) rfl ?_
    exact RetO.cast HR.out ⟨⟨0, 0, ⟨#[]⟩⟩, rfl, fun a h => (by cases h), hbS⟩

  | some a =>
    obtain rfl : v0 = a := hv0 a rfl
    have HVA := Lib.hid (HV0.out _ rfl)
    clear hv0
    have HR : Hid (evX vs vals x = some (truthV (decide (v0.n = 0)))) := by
      show _ = _
      rw [HKEY.out]
      unfold evO
      rw [if_neg (by omega), if_neg (by omega), HG0.out]
      exact if_pos ho
    generalize hd : decide (v0.n = 0) = d at *
    have hd' : (v0.n == 0) = d := hd
    clear hd
    go_wp2_with fail
    refine (truth_ref d _).mono ?_
    rintro e w4 ⟨rfl, hb4⟩
    clear f0 f1 f2 q0 q1 q2 q3 q4 q5
    have ev : valV (truthV d) = .agg #[.int .i64 (truthV d).kind, .int .i64 (truthV d).n, .string (truthV d).s] := rfl
    rw [ev]
    generalize truthV d = tv at *
    obtain ⟨⟨k0, k1, k2⟩, hS, ⟨y0, y1, y2⟩, hbS⟩ := HST.out w4 (.int .i64 tv.kind) (.int .i64 tv.n) (.string tv.s) (bthen hb13 hb4)
    go_wp2_with fail
    obtain ⟨t0, t1, t2⟩ := hS.c3
    refine bodyPost_ret (v := .tuple #[.agg #[.int .i64 tv.kind, .int .i64 tv.n, .string tv.s], .bool true]) (by simp [results, Tryz.results49, go_sem, t0, t1, t2]) rfl ?_
    exact RetO.cast HR.out ⟨tv, rfl, fun a h => (by injection h), hbS⟩
end Go.Proofs.YtijmnenojbfdnaaGreatDoor
