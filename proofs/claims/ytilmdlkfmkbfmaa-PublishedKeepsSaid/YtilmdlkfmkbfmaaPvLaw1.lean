/- The law's closures, its small functions. -/
import Derived.Test.YtilmdlkfmkbfmaaPvLaw0
import Derived.Test.YtilmdlkfmkbfmaaEqualS
import Derived.Test.YtilmdlkfmkbfmaaPvSpend
set_option linter.all false
namespace Go.Proofs.Ytilmdlkfmkbfmaa
open Go.RowKit

/-- A part of a slice reads as a part of the list. -/
theorem Sl.sub {α : Type} {R : ElemR α} {size : Nat} {D : Nat → Prop} {w : World} {b o n c : Nat} {xs : List α} (h : Sl size R D w (.slice (some ⟨b, o, none⟩) n c) xs) (i m c' : Nat) (hi : i + m ≤ n) (hm : m ≤ c') (hc : c' ≤ maxLen) :
    Sl size R D w (.slice (some ⟨b, o + i * size, none⟩) m c') ((xs.drop i).take m) := by
  obtain ⟨A', c0, hv, h1, h2, h3⟩ := h
  injection hv with hA hn hcc
  subst hn hcc
  have hl : ((xs.drop i).take m).length = m := by rw [List.length_take, List.length_drop]; omega
  refine ⟨some ⟨b, o + i * size, none⟩, c', by rw [hl], by rw [hl]; exact hm, hc, fun k x hx => ?_⟩
  have hk : k < m := by
    rcases Nat.lt_or_ge k m with h | h
    · exact h
    · rw [List.getElem?_eq_none (by rw [hl]; exact h)] at hx; cases hx
  rw [List.getElem?_take, if_pos hk, List.getElem?_drop] at hx
  obtain ⟨b', o', cs, hA', hD, hcl, hR, hcell⟩ := h3 (i + k) x hx
  rw [← hA] at hA'
  injection hA' with hA'
  injection hA' with e1 e2 _
  subst e1 e2
  refine ⟨b, o + i * size, cs, rfl, hD, hcl, hR, fun j u hu => ?_⟩
  have := hcell j u hu
  rw [show o + i * size + k * size + j = o + (i + k) * size + j by rw [Nat.add_mul]; omega]
  exact this
theorem spendL_count : ∀ (l : List Fr) (i : Nat) (b : Fr), (spendL i b l).2.1 ≤ i + l.length
  | [], i, b => Nat.le_refl _
  | a :: l, i, b => by
    rw [spendL_cons]
    split
    · exact Nat.le_add_right _ _
    · split
      · have := spendL_count l (i + 1) (subF b a).1
        rw [List.length_cons]; omega
      · exact Nat.le_add_right _ _
theorem spendF_count (b : Fr) (l : List Fr) : (spendF b l).2.1 ≤ l.length := by
  unfold spendF
  split
  · exact Nat.zero_le _
  · split
    · exact Nat.zero_le _
    · have := spendL_count l 0 b
      omega
theorem cmpF_zero {a : Fr} (h : 0 ≤ a.num) : ¬ cmpF a ⟨0, 1⟩ < 0 := by
  unfold cmpF
  rw [if_neg (by show ¬ a.num * 1 < 0 * a.den; omega)]
  split <;> decide
theorem slF_from {D : Nat → Prop} {w : World} {As : Option Addr} {cs t : Nat} {sp : List Fr} (h : SlF D w (.slice As sp.length cs) sp) (ht : t ≤ sp.length) : SlF D w (.slice (if cs = t then As else Option.map (fun x => x.add (t * 2)) As) (sp.length - t) (cs - t)) (sp.drop t) := by
  obtain ⟨A', c', hv, h1, h2, h3⟩ := h
  injection hv with e1 e2 e3
  subst e1 e3
  rcases Nat.eq_zero_or_pos (sp.length - t) with h0 | h0
  · have hd : sp.drop t = [] := List.eq_nil_of_length_eq_zero (by rw [List.length_drop]; exact h0)
    rw [hd, h0]
    exact ⟨_, _, rfl, Nat.zero_le _, by omega, fun i x hx => by simp at hx⟩
  · obtain ⟨b, o, _, rfl, _⟩ := h3 0 sp[0] (List.getElem?_eq_getElem (by omega))
    rw [if_neg (by omega)]
    have hs := Sl.sub (size := 2) (R := RFr) (D := D) (w := w) (b := b) (o := o) (n := sp.length) (c := cs) (xs := sp) ⟨_, _, rfl, h1, h2, h3⟩ t (sp.length - t) (cs - t) (by omega) (by omega) (by omega)
    rw [List.take_of_length_le (by rw [List.length_drop]; omega)] at hs
    have ha : Option.map (fun x : Addr => x.add (t * 2)) (some ⟨b, o, none⟩) = some ⟨b, o + t * 2, none⟩ := by
      show some ((⟨b, o, none⟩ : Addr).add (t * 2)) = _
      unfold Addr.add
      by_cases h : t * 2 = 0
      · rw [if_pos h, h]; rfl
      · rw [if_neg h]
    rw [ha]
    exact hs
theorem long_any (x : Vr) (sv : Value) (W : World) (hsv : SlS (Lt W.heap.size) W sv x.acts) : Calls Try.prog 6 #[.agg #[sv, .int .i64 x.n]] W fun e w' => e = .returned (.bool (decide (8 < x.acts.length))) ∧ Below W.heap.size W w' := by
  obtain ⟨A, c, rfl, h1, h2, _⟩ := hsv.open_
  have hb := bone W (.cells #[.slice A x.acts.length c, .int .i64 x.n] 30)
  obtain ⟨t0, t1⟩ := (Blk.new W 30 #[.slice A x.acts.length c, .int .i64 x.n]).c2
  clear hsv
  go_enter Try.func6, Try.ntmps6
  go_wp2_with fail
  go_ret
  exact ⟨ret_bool (by rw [decide_eq_decide]; omega), hb⟩
theorem enters_long : ∀ args w, (callFunc 6 args).run Try.prog w = .ok (.enter 6 args) w := enters_of Try.func6 (by kernel_rfl) rfl
theorem same2_any (x : Vr) (u v : Value) (W : World) (hu : SlS (Lt W.heap.size) W u x.acts) (hv : SlS (Lt W.heap.size) W v x.acts) : Calls Try.prog 14 #[.agg #[u, .int .i64 x.n], .agg #[v, .int .i64 x.n]] W fun e w' => e = .returned (.bool true) ∧ Below W.heap.size W w' := by
  have hb1 := bone W (.cells #[u, .int .i64 x.n] 44)
  have hb2 := bone (W.alloc (.cells #[u, .int .i64 x.n] 44)) (.cells #[v, .int .i64 x.n] 44)
  have hb12 := hb1.trans (hb2.mono hb1.size)
  have HE := Lib.hid (equalS u v x.acts x.acts _ (Sl.below hu RStr.kept hb12 hb12.size) (Sl.below hv RStr.kept hb12 hb12.size))
  obtain ⟨t0, t1⟩ := ((Blk.new W 44 #[u, .int .i64 x.n]).now hb2).c2
  obtain ⟨s0, s1⟩ := (Blk.new (W.alloc (.cells #[u, .int .i64 x.n] 44)) 44 #[v, .int .i64 x.n]).c2
  obtain ⟨A, c, rfl, _, _, _⟩ := hu.open_
  obtain ⟨B, d, rfl, _, _, _⟩ := hv.open_
  have hsz1 : (W.alloc (.cells #[.slice A x.acts.length c, .int .i64 x.n] 44)).heap.size = W.heap.size + 1 := by simp
  rw [hsz1] at s0 s1
  have HB := Lib.hid hb12
  rw [decide_eq_true (rfl : x.acts = x.acts)] at HE
  clear hu hv hb1 hb2 hb12 hsz1
  go_enter Try.func14, Try.ntmps14
  go_upto_region 1 with fail
  obtain ⟨w2, hw2⟩ : ∃ w2, (W.alloc (.cells #[.slice A x.acts.length c, .int .i64 x.n] 44)).alloc (.cells #[.slice B x.acts.length d, .int .i64 x.n] 44) = w2 := ⟨_, rfl⟩
  rw [hw2] at HE HB t0 t1 s0 s1 ⊢
  clear hw2
  go_wp2_with fail
  (with_reducible refine HE.out.mono ?_)
  rintro e w' ⟨rfl, q, rfl⟩
  go_wp2_with fail
  go_ret
  exact ⟨rfl, bdrawn HB.out q⟩
theorem enters_same2 : ∀ args w, (callFunc 14 args).run Try.prog w = .ok (.enter 14 args) w := enters_of Try.func14 (by kernel_rfl) rfl
set_option maxHeartbeats 1000000 in
/-- slices.EqualFunc at one list twice. -/
theorem equalPub_any (u v : Value) (l : List Vr) (w : World) (hu : SlVr (Lt w.heap.size) w u l) (hv : SlVr (Lt w.heap.size) w v l) :
    Calls Try.prog 13 #[u, v, .func (.func 14) #[] #[]] w fun e w' => e = .returned (.bool true) ∧ Below w.heap.size w w' := by
  obtain ⟨A, c, rfl, h1, h2, hu⟩ := hu.open_
  obtain ⟨B, d, rfl, g1, g2, hv⟩ := hv.open_
  have HU := Lib.hid hu
  have HV := Lib.hid hv
  have eg := enters_same2
  clear hu hv
  go_enter Try.func13, Try.ntmps13
  go_wp2_with fail
  go_loopw [17] (fun iv wr => ∃ k : Nat, iv = .int .i64 (k : Int) ∧ k ≤ l.length ∧ Hid (Below w.heap.size w wr)) (fun iv _ => l.length - (intOf iv).toNat)
  case atStart => exact ⟨0, rfl, Nat.zero_le _, Lib.hid (Below.refl _ _)⟩
  case round =>
    obtain ⟨k, rfl, hk, HB⟩ := hrel
    by_cases hlt : k < l.length
    · obtain ⟨b1, o1, x, sv, rfl, hD, hx, hf, hs, c0', c1'⟩ := HU.out.at_ hlt
      obtain ⟨b2, o2, y, tv, rfl, hD2, hy, hf2, hs2, d0', d1'⟩ := HV.out.at_ hlt
      rw [hx] at hy
      injection hy with hy
      subst hy
      have c0 := (HB.out.cell (p := ⟨b1, o1 + k * 2, none⟩) hD).trans c0'
      have c1 := (HB.out.cell (p := ⟨b1, o1 + k * 2 + 1, none⟩) hD).trans c1'
      have d0 := (HB.out.cell (p := ⟨b2, o2 + k * 2, none⟩) hD2).trans d0'
      have d1 := (HB.out.cell (p := ⟨b2, o2 + k * 2 + 1, none⟩) hD2).trans d1'
      have hb1 := bone wr (.cells #[sv, .int .i64 x.n] 44)
      have hb2 := bone (wr.alloc (.cells #[sv, .int .i64 x.n] 44)) (.cells #[tv, .int .i64 x.n] 44)
      have hb12 := hb1.trans (hb2.mono hb1.size)
      have hbw := HB.out.trans (hb12.mono HB.out.size)
      have HC := Lib.hid (same2_any x sv tv _ (Sl.below hs RStr.kept hbw hbw.size) (Sl.below hs2 RStr.kept hbw hbw.size))
      have T0 := (Blk.new wr 44 #[sv, .int .i64 x.n]).now hb2
      have S0 := Blk.new (wr.alloc (.cells #[sv, .int .i64 x.n] 44)) 44 #[tv, .int .i64 x.n]
      have hsz1 : (wr.alloc (.cells #[sv, .int .i64 x.n] 44)).heap.size = wr.heap.size + 1 := by simp
      rw [hsz1] at S0
      have d0 := (hb1.cell (p := ⟨b2, o2 + k * 2, none⟩) (Nat.lt_of_lt_of_le hD2 HB.out.size)).trans d0
      have d1 := (hb1.cell (p := ⟨b2, o2 + k * 2 + 1, none⟩) (Nat.lt_of_lt_of_le hD2 HB.out.size)).trans d1
      obtain ⟨A1, e1, rfl, _, _, _⟩ := hs.open_
      obtain ⟨A2, e2, rfl, _, _, _⟩ := hs2.open_
      have HBW := Lib.hid hbw
      clear hx hs hs2 c0' c1' d0' d1' hb1 hb2 hb12 hbw hsz1
      go_upto_region 7 with fail
      obtain ⟨w2, hw2⟩ : ∃ w2, (wr.alloc (.cells #[.slice A1 x.acts.length e1, .int .i64 x.n] 44)).alloc (.cells #[.slice A2 x.acts.length e2, .int .i64 x.n] 44) = w2 := ⟨_, rfl⟩
      obtain ⟨T, hTT⟩ : ∃ T, wr.heap.size = T := ⟨_, rfl⟩
      rw [hw2] at HC HBW T0 S0 ⊢
      rw [hTT] at T0 S0 ⊢
      obtain ⟨t0, t1⟩ := T0.c2
      obtain ⟨s0, s1⟩ := S0.c2
      clear hw2 hTT c0 c1 d0 d1 T0 S0
      go_wp2_with fail
      (with_reducible refine HC.out.mono ?_)
      rintro e w' ⟨rfl, hb'⟩
      have HB5 := Lib.hid (bthen HBW.out hb')
      clear hb'
      go_wp2_with fail
      go_roundw
      case rel => exact ⟨k + 1, by go_num, by omega, HB5⟩
      case measure => simp [intOf]; omega
    · obtain rfl : k = l.length := by omega
      go_wp2_with fail
      go_ret
      exact ⟨rfl, HB.out⟩
theorem slV_two (w : World) (a b : Vr) (u v : Value) (ha : Fit a.n) (hb : Fit b.n) (hu : SlS (Lt w.heap.size) w u a.acts) (hv : SlS (Lt w.heap.size) w v b.acts) : SlVr (Lt (w.alloc (.cells #[u, .int .i64 a.n, v, .int .i64 b.n] 30)).heap.size) (w.alloc (.cells #[u, .int .i64 a.n, v, .int .i64 b.n] 30)) (.slice (some ⟨w.heap.size, 0, none⟩) 2 2) [a, b] := by
  have hB := Blk.new w 30 #[u, .int .i64 a.n, v, .int .i64 b.n]
  have hb1 := bone w (.cells #[u, .int .i64 a.n, v, .int .i64 b.n] 30)
  have hu2 := Sl.below hu RStr.kept hb1 hb1.size
  have hv2 := Sl.below hv RStr.kept hb1 hb1.size
  refine ⟨_, 2, rfl, Nat.le_refl _, by unfold maxLen; omega, fun i x hx => ?_⟩
  match i, hx with
  | 0, hx =>
    injection hx with hx; subst hx
    refine ⟨w.heap.size, 0, [u, .int .i64 a.n], rfl, hB.lt, rfl, ⟨u, rfl, ha, hu2⟩, fun j y hj => ?_⟩
    rw [hB.cell]
    match j, hj with
    | 0, hj => injection hj with hj; subst hj; rfl
    | 1, hj => injection hj with hj; subst hj; rfl
    | j + 2, hj => simp at hj
  | 1, hx =>
    injection hx with hx; subst hx
    refine ⟨w.heap.size, 0, [v, .int .i64 b.n], rfl, hB.lt, rfl, ⟨v, rfl, hb, hv2⟩, fun j y hj => ?_⟩
    rw [hB.cell]
    match j, hj with
    | 0, hj => injection hj with hj; subst hj; rfl
    | 1, hj => injection hj with hj; subst hj; rfl
    | j + 2, hj => simp at hj
  | i + 2, hx => simp at hx
set_option maxHeartbeats 1000000 in
theorem pubAwake_any (w : World) : Calls Try.prog 4 #[] w fun e w' => e = .returned (.bool true) ∧ Below w.heap.size w w' := by
  have hb1 := bone w (.cells #[.string tA] 9)
  have hs1 : SlS (Lt (w.alloc (.cells #[.string tA] 9)).heap.size) (w.alloc (.cells #[.string tA] 9)) (.slice (some ⟨w.heap.size, 0, none⟩) 1 1) [tA] := SlS.ofBlk (zs := [tA]) (Blk.new w 9 #[.string tA]) (by unfold maxLen; simp) (by intro z hz; simp at hz; subst hz; decide)
  have hb2 := bone (w.alloc (.cells #[.string tA] 9)) (.cells #[.string tA, .string tB] 9)
  have hs2 : SlS _ _ _ [tA, tB] := SlS.ofBlk (zs := [tA, tB]) (Blk.new (w.alloc (.cells #[.string tA] 9)) 9 #[.string tA, .string tB]) (by unfold maxLen; simp) (by intro z hz; simp at hz; rcases hz with rfl | rfl <;> decide)
  have hs1' := Sl.below hs1 RStr.kept hb2 hb2.size
  have hs3 := slV_two _ ⟨[tA], 2⟩ ⟨[tA, tB], 1⟩ _ _ (show Fit 2 by unfold Fit; omega) (show Fit 1 by unfold Fit; omega) hs1' hs2
  have hb3 := bone ((w.alloc (.cells #[.string tA] 9)).alloc (.cells #[.string tA, .string tB] 9)) (.cells #[.slice (some ⟨w.heap.size, 0, none⟩) 1 1, .int .i64 2, .slice (some ⟨(w.alloc (.cells #[.string tA] 9)).heap.size, 0, none⟩) 2 2, .int .i64 1] 30)
  have hb123 := (hb1.trans (hb2.mono hb1.size)).trans (hb3.mono (hb1.trans (hb2.mono hb1.size)).size)
  have HS := Lib.hid (suppress_any _ awk 2 _ hs3 (by decide) (by unfold Fit; omega))
  have HB := Lib.hid hb123
  simp only [World.size_alloc, List.length_cons, List.length_nil, Nat.zero_add, Nat.reduceAdd] at HS HB
  have eA : tA = ⟨#[97]⟩ := rfl
  have eB : tB = ⟨#[98]⟩ := rfl
  rw [eA, eB] at HS HB
  clear hb1 hs1 hb2 hs2 hs1' hs3 hb3 hb123 eA eB
  go_enter Try.func4, Try.ntmps4
  go_wp2_with fail
  (with_reducible refine HS.out.mono ?_)
  rintro e w' ⟨v, c, rfl, hb, hg⟩
  have hbw := HB.out.trans (hb.mono HB.out.size)
  clear hb HS HB
  rcases hg with ⟨h1, _⟩ | ⟨_, h1, _⟩ | ⟨_, _, s', hrun, hg⟩
  · rw [awk_right] at h1; cases h1
  · exact absurd ⟨by decide, by decide⟩ h1
  have ho := awake_run hrun
  rw [ho] at hg
  rcases hg with ⟨h1, _⟩ | ⟨_, rfl, ys, hp, _, hsl⟩
  · exact absurd h1 (by decide)
  obtain rfl := List.perm_singleton.1 hp
  obtain ⟨A, c, rfl, _, _, hsl⟩ := hsl.open_
  obtain ⟨b, o, x, sv, rfl, hD, hx, _, _, _, c1⟩ := hsl.at_ (k := 0) (by simp)
  injection hx with hx
  subst hx
  have c1 : w'.cell? ⟨b, o + 1, none⟩ = some (.int .i64 3) := by simpa using c1
  clear hrun ho hp hsl
  go_wp2_with fail
  go_ret
  exact ⟨rfl, hbw⟩
end Go.Proofs.Ytilmdlkfmkbfmaa
