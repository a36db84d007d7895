/- privacy.right, entryNumber. -/
import Derived.Test.YtilmdlkfmkbfmaaPvFind
import Derived.Deep.CutRange
set_option linter.all false
namespace Go.Proofs.Ytilmdlkfmkbfmaa
open Go.RowKit

def entB (x : Vr) : Bool := decide (x.acts.length ≤ 200) && decide (1 ≤ x.n) && decide (x.n ≤ 1048576) && !x.acts.any (fun s => !isNameB s)
def ordB (l : List Vr) (i : Nat) (x : Vr) : Bool := match i with
  | 0 => true
  | j + 1 => match l[j]? with
    | none => true
    | some y => decide (cmpW y.acts x.acts < 0)
theorem ordB_succ (l : List Vr) (m : Nat) (x y : Vr) (h : l[m]? = some y) : ordB l (m + 1) x = decide (cmpW y.acts x.acts < 0) := by
  show (match l[m]? with | none => true | some y => decide (cmpW y.acts x.acts < 0)) = _
  rw [h]
def entAt (l : List Vr) (i : Nat) : Bool := match l[i]? with
  | none => true
  | some x => entB x && ordB l i x
def rightB (l : List Vr) : Bool := decide (l.length ≤ 300) && (List.range l.length).all (entAt l)
theorem entAt_eq {l : List Vr} {i : Nat} {x : Vr} (h : l[i]? = some x) : entAt l i = (entB x && ordB l i x) := by unfold entAt; rw [h]
theorem right_no {l : List Vr} {i : Nat} (hi : i < l.length) (h : entAt l i = false) : rightB l = false := by
  unfold rightB
  have : (List.range l.length).all (entAt l) = false := by
    rw [List.all_eq_false]
    exact ⟨i, List.mem_range.2 hi, by simp [h]⟩
  rw [this, Bool.and_false]
theorem right_yes {l : List Vr} (h0 : l.length ≤ 300) (h : ∀ i, i < l.length → entAt l i = true) : rightB l = true := by
  unfold rightB
  rw [decide_eq_true h0, Bool.true_and, List.all_eq_true]
  intro i hi
  exact h i (List.mem_range.1 hi)
theorem right1_any (s : ByteArray) (w : World) (hs : s.size ≤ maxLen) : Calls Try.prog 39 #[.string s] w fun e w' => e = .returned (.bool (!isNameB s)) ∧ Below w.heap.size w w' := by
  have HN := Lib.hid (isName_any s w hs)
  generalize isNameB s = q at *
  clear hs
  go_enter Try.func39, Try.ntmps39
  go_wp2_with fail
  (with_reducible refine HN.out.mono ?_)
  rintro e w' ⟨rfl, hw⟩
  go_wp2_with fail
  go_ret
  exact ⟨rfl, by subst hw; exact Below.refl _ _⟩
theorem enters_right1 : ∀ args w, (callFunc 39 args).run Try.prog w = .ok (.enter 39 args) w := enters_of Try.func39 (by kernel_rfl) rfl
theorem entB_no1 {x : Vr} (h : ¬ (x.acts.length ≤ 200 ∧ 1 ≤ x.n ∧ x.n ≤ 1048576)) : entB x = false := by
  cases hb : entB x
  · rfl
  · simp [entB] at hb
    exact absurd ⟨hb.1.1.1, hb.1.1.2, hb.1.2⟩ h
set_option maxHeartbeats 4000000 in
set_option maxRecDepth 100000 in
theorem right_any (u : Value) (l : List Vr) (w : World) (hu : SlVr (Lt w.heap.size) w u l) :
    Calls Try.prog 22 #[u] w fun e w' => e = .returned (.bool (rightB l)) ∧ Below w.heap.size w w' := by
  obtain ⟨A, c, rfl, h1, h2, hu⟩ := hu.open_
  by_cases hbig : 300 < l.length
  · have HE : Hid (rightB l = false) := Lib.hid (by unfold rightB; rw [decide_eq_false (by omega)]; rfl)
    have z1 : (300 : Int) < (l.length : Int) := by omega
    go_enter Try.func22, Try.ntmps22
    go_wp2_with fail
    go_ret
    exact ⟨by rw [HE.out]; rfl, Below.refl _ _⟩
  have z1 : ¬ (300 : Int) < (l.length : Int) := by omega
  have HU := Lib.hid hu
  clear hu
  go_enter Try.func22, Try.ntmps22
  go_wp2_with fail
  go_loopw [10] (fun iv wr => ∃ k : Nat, iv = .int .i64 (k : Int) ∧ k ≤ l.length ∧ Hid (∀ j, j < k → entAt l j = true) ∧ Hid (Below w.heap.size w wr)) (fun iv _ => l.length - (intOf iv).toNat)
  case atStart => exact ⟨0, rfl, Nat.zero_le _, Lib.hid (fun j hj => absurd hj (by omega)), Lib.hid (Below.refl _ _)⟩
  case round =>
    obtain ⟨k, rfl, hk, HK, HB⟩ := hrel
    by_cases hlt : k < l.length
    · obtain ⟨b, o, x, sv, rfl, hD, hx, hf, hs, c0', c1'⟩ := HU.out.at_ hlt
      have c0 := (HB.out.cell (p := ⟨b, o + k * 2, none⟩) hD).trans c0'
      have c1 := (HB.out.cell (p := ⟨b, o + k * 2 + 1, none⟩) hD).trans c1'
      obtain ⟨As, cs, rfl, _, _, hs⟩ := hs.open_
      have HX := Lib.hid hx
      have HEA := Lib.hid (entAt_eq hx)
      have hb2 := bone wr (.cells #[.slice As x.acts.length cs, .int .i64 x.n] 62)
      have hT := Blk.new wr 62 #[.slice As x.acts.length cs, .int .i64 x.n]
      have hb02 := HB.out.trans (hb2.mono HB.out.size)
      have HS := Lib.hid hs
      clear hx hs c0' c1'
      go_upto_region 6 with fail
      obtain ⟨w2, hw2⟩ : ∃ w2, wr.alloc (.cells #[.slice As x.acts.length cs, .int .i64 x.n] 62) = w2 := ⟨_, rfl⟩
      obtain ⟨T, hTT⟩ : ∃ T, wr.heap.size = T := ⟨_, rfl⟩
      rw [hw2] at hT hb02 ⊢
      rw [hTT] at hT ⊢
      clear hw2 hTT hb2 c0 c1
      obtain ⟨t0, t1⟩ := hT.c2
      by_cases g1 : 200 < x.acts.length
      · have HE := Lib.hid (right_no hlt (by rw [HEA.out, entB_no1 (fun h => by omega)]; rfl))
        have y1 : (200 : Int) < (x.acts.length : Int) := by omega
        go_wp2_with fail
        go_ret
        exact ⟨by rw [HE.out]; rfl, hb02⟩
      · have y1 : ¬ (200 : Int) < (x.acts.length : Int) := by omega
        by_cases g2 : x.n < 1
        · have HE := Lib.hid (right_no hlt (by rw [HEA.out, entB_no1 (fun h => by omega)]; rfl))
          go_wp2_with fail
          go_ret
          exact ⟨by rw [HE.out]; rfl, hb02⟩
        · by_cases g3 : 1048576 < x.n
          · have HE := Lib.hid (right_no hlt (by rw [HEA.out, entB_no1 (fun h => by omega)]; rfl))
            go_wp2_with fail
            go_ret
            exact ⟨by rw [HE.out]; rfl, hb02⟩
          · have HC := Lib.hid (containsFuncS 39 enters_right1 _ x.acts (fun s => !isNameB s) w2 (Sl.below HS.out RStr.kept hb02 hb02.size) (fun s W _ hs _ => right1_any s W hs))
            have HEB : Hid (entB x = !x.acts.any (fun s => !isNameB s)) := Lib.hid (by unfold entB; rw [decide_eq_true (by omega), decide_eq_true (by omega), decide_eq_true (by omega)]; rfl)
            obtain ⟨q, hq⟩ : ∃ q, x.acts.any (fun s => !isNameB s) = q := ⟨_, rfl⟩
            rw [hq] at HC HEB
            clear hq
            go_wp2_with fail
            (with_reducible refine HC.out.mono ?_)
            rintro e w3 ⟨rfl, hb3⟩
            have hT3 := hT.now hb3
            have hb03 := hb02.trans (hb3.mono hb02.size)
            clear t0 t1 hT hb02 hb3 HC
            cases q
            · rw [show (!false) = true from rfl] at HEB
              have HEO : Hid (entAt l k = ordB l k x) := Lib.hid (by rw [HEA.out, HEB.out, Bool.true_and])
              go_upto_region 8 with fail
              obtain ⟨fa, hfa⟩ : ∃ fa, ordB l k x = fa := ⟨_, rfl⟩
              have HFA := Lib.hid hfa
              clear hfa
              go_cut [47] from 34 to 48 (fun b W => b = .bool (!fa) ∧ Below w3.heap.size w3 W)
              case first =>
                have t0 : ∀ W, (ext w3 W).cell? ⟨T, 0, none⟩ = some (.slice As x.acts.length cs) := fun W => (hT3.now (ext_below w3 W)).c2.1
                cases k with
                | zero =>
                  have HF : Hid (fa = true) := Lib.hid (by rw [← HFA.out]; rfl)
                  refine wp_region_growV (by kernel_rfl) (by kernel_rfl) ?_
                  repeat (refine veil_step (fun K hK => ?_); go_simp; (refine hK _ ?_; clear hK K))
                  refine veil_nil ?_
                  intro _ hw'
                  obtain ⟨W, rfl⟩ := hw'
                  go_wp2_with fail
                  go_meet
                  exact ⟨by rw [HF.out]; rfl, ext_below w3 W⟩
                | succ m =>
                  obtain ⟨b', o', y, sy, hA', hD', hy, hfy, hsy, d0', d1'⟩ := HU.out.at_ (k := m) (by omega)
                  injection hA' with hA'
                  injection hA' with e1 e2 _
                  subst e1 e2
                  obtain ⟨Ay, cy, rfl, _, _, hsy⟩ := hsy.open_
                  have HF : Hid (fa = decide (cmpW y.acts x.acts < 0)) := Lib.hid (by rw [← HFA.out, ordB_succ l m x y hy])
                  have t2 : ∀ W, (ext w3 W).cell? ⟨b, o + m * 2, none⟩ = some (.slice Ay y.acts.length cy) := fun W => ((hb03.trans ((ext_below w3 W).mono hb03.size)).cell (p := ⟨b, o + m * 2, none⟩) hD').trans d0'
                  have HCM : Hid (∀ W, Calls Try.prog 41 #[.slice Ay y.acts.length cy, .slice As x.acts.length cs] (ext w3 W) fun e w' => e = .returned (.int .i64 (cmpW y.acts x.acts)) ∧ w' = ext w3 W) := Lib.hid fun W =>
                    nameCompare_any _ _ _ _ _ (Sl.below hsy RStr.kept (hb03.trans ((ext_below w3 W).mono hb03.size)) (hb03.trans ((ext_below w3 W).mono hb03.size)).size) (Sl.below HS.out RStr.kept (hb03.trans ((ext_below w3 W).mono hb03.size)) (hb03.trans ((ext_below w3 W).mono hb03.size)).size)
                  obtain ⟨z, hz⟩ : ∃ z, cmpW y.acts x.acts = z := ⟨_, rfl⟩
                  rw [hz] at HCM HF
                  have d0 : decide ((0 : Int) < (m : Int) + 1) = true := by simp <;> omega
                  have d1 : (0 : Int) ≤ (m : Int) := by omega
                  have d2 : (m : Int) < (l.length : Int) := by omega
                  have d3 : IntKind.i64.wrap (m : Int) = m := i64wrap (by omega)
                  have d4 : decide (0 ≤ z) = !decide (z < 0) := by
                    by_cases h : z < 0
                    · rw [decide_eq_true h, decide_eq_false (by omega)]; rfl
                    · rw [decide_eq_false h, decide_eq_true (by omega)]; rfl
                  clear hz hsy d0' d1' hy hT3
                  refine wp_region_growV (by kernel_rfl) (by kernel_rfl) ?_
                  repeat (refine veil_step (fun K hK => ?_); go_simp; first | (refine hK _ ?_; clear hK K) | (apply Exists.intro; refine ⟨fun Wq => ?_, hK _ ?_⟩; (go_at_call 41; (with_reducible exact grow_same (HCM.out Wq))); clear hK K))
                  refine veil_nil ?_
                  intro _ hw'
                  obtain ⟨W, rfl⟩ := hw'
                  go_wp2_with fail
                  go_meet
                  exact ⟨by first | (rw [HF.out]; done) | (rw [HF.out]; rfl) | (rw [HF.out]; simp [d4]), ext_below w3 W⟩
              case rest =>
                obtain ⟨rfl, hb4⟩ := hcut
                have HB4 := Lib.hid (hb03.trans (hb4.mono hb03.size))
                clear hT3 hb03 hb4
                cases fa
                · have HE := Lib.hid (right_no hlt (by rw [HEO.out, HFA.out]))
                  go_wp2_with fail
                  go_ret
                  exact ⟨by rw [HE.out]; rfl, HB4.out⟩
                · have HN : Hid (∀ j, j < k + 1 → entAt l j = true) := Lib.hid (fun j hj => by
                    by_cases e : j = k
                    · subst e; rw [HEO.out, HFA.out]
                    · exact HK.out j (by omega))
                  go_wp2_with fail
                  go_roundw
                  case rel => exact ⟨k + 1, by go_num, by omega, HN, HB4⟩
                  case measure => simp [intOf]; omega
            · have HE := Lib.hid (right_no hlt (by rw [HEA.out, HEB.out]; first | done | rfl))
              go_wp2_with fail
              go_ret
              exact ⟨by rw [HE.out]; rfl, hb03⟩
    · obtain rfl : k = l.length := by omega
      have z2 : ¬ (l.length : Int) < (l.length : Int) := by omega
      have HE := Lib.hid (right_yes (by omega) HK.out)
      go_wp2_with fail
      go_ret
      exact ⟨by rw [HE.out]; rfl, HB.out⟩
theorem entryNumber_any (k : Int) (w : World) : Calls Try.prog 24 #[.int .i64 k] w fun e w' => e = .returned (.bool (decide (1 ≤ k) && decide (k ≤ 1048576))) ∧ w' = w := by
  by_cases h1 : 1 ≤ k
  · by_cases h2 : k ≤ 1048576
    · go_enter Try.func24, Try.ntmps24
      go_wp2_with fail
      go_ret
      exact ⟨by simp [h1, h2], rfl⟩
    · go_enter Try.func24, Try.ntmps24
      go_wp2_with fail
      go_ret
      exact ⟨by simp [h1, h2], rfl⟩
  · go_enter Try.func24, Try.ntmps24
    go_wp2_with fail
    go_ret
    exact ⟨by simp <;> omega, rfl⟩
end Go.Proofs.Ytilmdlkfmkbfmaa
