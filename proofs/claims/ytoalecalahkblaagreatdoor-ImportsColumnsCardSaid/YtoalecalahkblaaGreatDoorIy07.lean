/- Texts of this seat, merged. -/
import Derived.StillTailTactics
import Derived.RegionTactic
import Derived.Deep.CutRange
import Derived.Deep.CutBlock
import Derived.Laws.IdiomStrings
import Derived.Laws.BytesString
import Derived.Lib.OwnKind
import Derived.Orders
import Derived.Deep.Quiet
import Derived.StillTail
import Derived.Deep.RegionHeld
import Derived.Deep.RegionHeld3
import Derived.Test.YtoalecalahkblaaGreatDoorIy01
import Derived.Test.YtoalecalahkblaaGreatDoorIy02
import Derived.Test.YtoalecalahkblaaGreatDoorIy03
import Derived.Test.YtoalecalahkblaaGreatDoorIy04
import Derived.Test.YtoalecalahkblaaGreatDoorIy05
import Derived.Test.YtoalecalahkblaaGreatDoorIy06
set_option linter.all false
set_option linter.all false
namespace Go.Proofs.YtoalecalahkblaaGreatDoor
open Go.RowKit
def mpV (m : Mp) (dv kv : Value) : Value := .agg #[.int .i64 m.cas, .int .i64 m.act, .int .i64 m.res, .int .i64 m.life, .int .i64 m.time, dv, kv, .int .u8 (m.sep.toNat : Int)]
structure FitM (m : Mp) : Prop where
  cas : Fit m.cas
  act : Fit m.act
  res : Fit m.res
  life : Fit m.life
  time : Fit m.time
def IsMp (D : Nat → Prop) (w : World) (u : Value) (m : Mp) : Prop := ∃ dv kv, u = mpV m dv kv ∧ FitM m ∧ SlI D w dv m.data ∧ SlI D w kv m.kinds
theorem IsMp.now {w w' : World} {u : Value} {m : Mp} (h : IsMp (Lt w.heap.size) w u m) (hb : Below w.heap.size w w') : IsMp (Lt w'.heap.size) w' u m := by
  obtain ⟨dv, kv, rfl, hf, h1, h2⟩ := h
  exact ⟨dv, kv, rfl, hf, h1.now hb, h2.now hb⟩
theorem Blk.c8m {w : World} {g : Nat} {t : TypeId} {a b c d e f x y : Value} (h : Blk w g t #[a, b, c, d, e, f, x, y]) : w.cell? ⟨g, 0, none⟩ = some a ∧ w.cell? ⟨g, 1, none⟩ = some b ∧ w.cell? ⟨g, 2, none⟩ = some c ∧ w.cell? ⟨g, 3, none⟩ = some d ∧ w.cell? ⟨g, 4, none⟩ = some e ∧ w.cell? ⟨g, 5, none⟩ = some f ∧ w.cell? ⟨g, 6, none⟩ = some x ∧ w.cell? ⟨g, 7, none⟩ = some y :=
  ⟨h.cell 0, h.cell 1, h.cell 2, h.cell 3, h.cell 4, h.cell 5, h.cell 6, h.cell 7⟩
def headC (m : Mp) (k : Nat) : List Int := ([m.cas, m.act, m.time] ++ m.data) ++ (if 1 ≤ k ∧ m.res ≠ -1 then [m.res] else []) ++ (if 2 ≤ k ∧ m.life ≠ -1 then [m.life] else [])
theorem headC_two (m : Mp) : headC m 2 = colsB m := by
  unfold headC colsB
  congr 1
  · congr 1
    by_cases h : m.res = -1
    · rw [if_neg (by simp [h]), if_pos h]
    · rw [if_pos ⟨by omega, h⟩, if_neg h]
  · by_cases h : m.life = -1
    · rw [if_neg (by simp [h]), if_pos h]
    · rw [if_pos ⟨by omega, h⟩, if_neg h]
theorem headC_zero (m : Mp) : headC m 0 = [m.cas, m.act, m.time] ++ m.data := by
  unfold headC; rw [if_neg (by omega), if_neg (by omega)]; simp
theorem headC_res (m : Mp) : headC m 1 = headC m 0 ++ (if m.res = -1 then [] else [m.res]) := by
  rw [headC_zero]
  unfold headC
  rw [if_neg (by omega : ¬ (2 ≤ 1 ∧ m.life ≠ -1)), List.append_nil]
  congr 1
  by_cases h : m.res = -1
  · rw [if_neg (by simp [h]), if_pos h]
  · rw [if_pos ⟨by omega, h⟩, if_neg h]
theorem headC_life (m : Mp) : headC m 2 = headC m 1 ++ (if m.life = -1 then [] else [m.life]) := by
  unfold headC
  rw [if_neg (by omega : ¬ (2 ≤ 1 ∧ m.life ≠ -1)), List.append_nil]
  congr 1
  · congr 1
    by_cases h : m.res = -1
    · rw [if_neg (by simp [h]), if_neg (by simp [h])]
    · rw [if_pos ⟨by omega, h⟩, if_pos ⟨by omega, h⟩]
  · by_cases h : m.life = -1
    · rw [if_neg (by simp [h]), if_pos h]
    · rw [if_pos ⟨by omega, h⟩, if_neg h]
theorem nodup_of : ∀ zs : List Int, (∀ (i : Nat) x, zs[i]? = some x → x ∉ zs.take i) → zs.Nodup := by
  intro zs
  have key : ∀ n, n ≤ zs.length → (∀ (i : Nat) x, zs[i]? = some x → x ∉ zs.take i) → (zs.take n).Nodup := by
    intro n
    induction n with
    | zero => intro _ _; rw [List.take_zero]; exact List.nodup_nil
    | succ n ih =>
      intro hn h
      rw [List.take_add_one, List.getElem?_eq_getElem (by omega), List.nodup_append]
      refine ⟨ih (by omega) h, by simp, ?_⟩
      intro a ha b hb e
      have hb : b = zs[n] := by simpa using hb
      subst hb
      rw [e] at ha
      exact h n _ (List.getElem?_eq_getElem (by omega)) ha
  intro h
  have := key zs.length (Nat.le_refl _) h
  rwa [List.take_of_length_le (Nat.le_refl _)] at this
theorem not_nodup {zs : List Int} {i : Nat} {x : Int} (hx : zs[i]? = some x) (h : x ∈ zs.take i) : ¬ zs.Nodup := by
  intro hn
  obtain ⟨hi, rfl⟩ := List.getElem?_eq_some_iff.1 hx
  obtain ⟨j, hj, e⟩ := List.mem_iff_getElem.1 h
  rw [List.getElem_take] at e
  rw [List.length_take] at hj
  exact List.pairwise_iff_getElem.1 hn j i (by omega) hi (by omega) e
theorem mapB_eq {m : Mp} (h1 : isSep m.sep = true) (h2 : m.data.length ≤ 8) (h3 : m.kinds.length = m.data.length) : mapB m = ((colsB m).all (fun k => decide (0 ≤ k) && decide (k < 40)) && decide (colsB m).Nodup && m.kinds.all kindB) := by
  unfold mapB
  rw [h1, decide_eq_true h2, decide_eq_true h3]; rfl
theorem mapB_bad {m : Mp} (h : isSep m.sep = false ∨ 8 < m.data.length ∨ m.kinds.length ≠ m.data.length) : mapB m = false := by
  unfold mapB
  rcases h with h | h | h
  · rw [h]; rfl
  · rw [decide_eq_false (by omega : ¬ m.data.length ≤ 8)]; simp
  · rw [decide_eq_false h]; simp
theorem kind_any (k : Int) (w : World) : Calls Tryz.prog 63 #[.int .i64 k] w fun e w' => e = .returned (.bool (!kindB k)) ∧ w = w' := by
  have HK : Hid (kindB k = ((k == 1) || (k == 2) || (k == 3))) := by
    show _ = _
    unfold kindB
    rw [show (k == 1) = decide (k = 1) from rfl, show (k == 2) = decide (k = 2) from rfl, show (k == 3) = decide (k = 3) from rfl]
  generalize kindB k = q at *
  have e1 : (k != 1) = !(k == 1) := rfl
  have e2 : (k != 2) = !(k == 2) := rfl
  have e3 : (k != 3) = !(k == 3) := rfl
  generalize (k == 1) = q1 at *
  generalize (k == 2) = q2 at *
  generalize (k == 3) = q3 at *
  cases q1 <;> cases q2 <;> cases q3
  all_goals
    simp only [Bool.not_true, Bool.not_false] at e1 e2 e3
    go_enter Tryz.func63, Tryz.ntmps63
    go_wp2_with fail
    go_ret
    exact ⟨ret_bool (by rw [HK.out]; rfl), rfl⟩
theorem enters_kind : ∀ args w, (callFunc 63 args).run Tryz.prog w = .ok (.enter 63 args) w := enters_of Tryz.func63 (by kernel_rfl) rfl
theorem kinds_any (v : Value) (zs : List Int) (w : World) (h : SlI (Lt w.heap.size) w v zs) :
    Calls Tryz.prog 62 #[v, .func (.func 63) #[] #[]] w fun e w' => e = .returned (.bool (!zs.all kindB)) ∧ Below w.heap.size w w' := by
  have hf : AsksF 63 #[] RInt w zs (fun k => !kindB k) := by
    intro x u W _ hr _
    obtain ⟨h1, _⟩ := hr
    injection h1 with h1
    subst h1
    exact (kind_any x W).mono fun e w' ⟨h1, h2⟩ => ⟨h1, h2 ▸ Below.refl _ _⟩
  have hc := contFI 63 #[] enters_kind v zs _ w h hf
  have e : (zs.any fun k => !kindB k) = !zs.all kindB := by
    clear hc hf h
    induction zs with
    | nil => rfl
    | cons a r ih => simp [List.any_cons, List.all_cons, ih]
  rw [e] at hc
  exact hc
abbrev mpCells (m : Mp) (dv kv : Value) : Array Value := #[.int .i64 m.cas, .int .i64 m.act, .int .i64 m.res, .int .i64 m.life, .int .i64 m.time, dv, kv, .int .u8 (m.sep.toNat : Int)]
theorem appInts : AppInfo Tryz.prog 31 3 1 := AppInfo.mk' (z := .int .i64 0) (bytes := 8) Tryz.underlying31 (by kernel_rfl) (by decide) rfl (by decide)
def OwnZ (w : World) (base : Nat) (v : Value) (zs : List Int) : Prop := w.ownsRow base 3 1 v zs.length (zs.map (Value.int .i64))
set_option maxHeartbeats 8000000 in
set_option maxRecDepth 100000 in
theorem valid_any (u : Value) (m : Mp) (w : World) (h : IsMp (Lt w.heap.size) w u m) (hb : m.data.length ≤ 1000000) :
    Calls Tryz.prog 18 #[u] w fun e w' => e = .returned (.bool (mapB m)) ∧ Below w.heap.size w w' := by
  obtain ⟨dv, kv, rfl, hfm, hd, hk⟩ := h
  obtain ⟨Ad, cd, rfl, _, _, hd⟩ := hd.open_
  obtain ⟨Ak, ck, rfl, _, _, hk⟩ := hk.open_
  have HFM := Lib.hid hfm
  have HD := Lib.hid hd
  have HK := Lib.hid hk
  have HSEP := Lib.hid (separates_any m.sep)
  obtain ⟨q, hq⟩ : ∃ q, isSep m.sep = q := ⟨_, rfl⟩
  rw [hq] at HSEP
  have HQ := Lib.hid hq
  have HB1 := Lib.hid (bone w (.cells (mpCells m (.slice Ad m.data.length cd) (.slice Ak m.kinds.length ck)) 33))
  have HM1 := Lib.hid (Blk.new w 33 (mpCells m (.slice Ad m.data.length cd) (.slice Ak m.kinds.length ck)))
  obtain ⟨z, hz⟩ : ∃ z, (m.sep.toNat : Int) = z := ⟨_, rfl⟩
  unfold mpV
  unfold mpCells at HB1 HM1
  rw [hz] at HSEP HB1 HM1 ⊢
  clear hfm hd hk hq hz
  go_enter Tryz.func18, Tryz.ntmps18
  go_upto_region 1 with fail
  obtain ⟨w1, hw1⟩ : ∃ w1, w.alloc (.cells #[.int .i64 m.cas, .int .i64 m.act, .int .i64 m.res, .int .i64 m.life, .int .i64 m.time, .slice Ad m.data.length cd, .slice Ak m.kinds.length ck, .int .u8 z] 33) = w1 := ⟨_, rfl⟩
  rw [hw1] at HB1 HM1 ⊢
  clear hw1
  obtain ⟨c0, c1, c2, c3, c4, c5, c6, c7⟩ := HM1.out.c8m
  obtain ⟨q1, hq1⟩ : ∃ q1, decide ((8 : Int) < (m.data.length : Int)) = q1 := ⟨_, rfl⟩
  obtain ⟨q2, hq2⟩ : ∃ q2, ((m.kinds.length : Int) != (m.data.length : Int)) = q2 := ⟨_, rfl⟩
  have HQ1 := Lib.hid hq1
  have HQ2 := Lib.hid hq2
  go_cut [26] from 8 to 26 (fun x W => x = .bool (!q || (q1 || q2)) ∧ w1 = W)
  case first =>
    cases q <;> cases q1 <;> cases q2
    all_goals
      go_wp2_with (go_at_call 39; (with_reducible refine (HSEP.out _).mono ?_); rintro _ w' ⟨rfl, rfl⟩)
      go_meet
      exact ⟨rfl, rfl⟩
  obtain ⟨rfl, rfl⟩ := hcut
  have HBAD : Hid ((!q || (q1 || q2)) = true → mapB m = false) := fun h => by
    refine mapB_bad ?_
    cases q with
    | false => exact .inl HQ.out
    | true =>
      cases q1 with
      | true => exact .inr (.inl (by have := of_decide_eq_true HQ1.out; omega))
      | false =>
        cases q2 with
        | true => exact .inr (.inr (fun e => by have := HQ2.out; rw [e] at this; simp at this))
        | false => cases h
  have HGOOD : Hid ((!q || (q1 || q2)) = false → m.data.length ≤ 8 ∧ mapB m = ((colsB m).all (fun k => decide (0 ≤ k) && decide (k < 40)) && decide (colsB m).Nodup && m.kinds.all kindB)) := fun h => by
    cases q with
    | false => cases h
    | true =>
      cases q1 with
      | true => cases h
      | false =>
        cases q2 with
        | true => cases h
        | false =>
          have h1 : m.data.length ≤ 8 := by have := of_decide_eq_false HQ1.out; omega
          have h2 : m.kinds.length = m.data.length := by have := HQ2.out; simp at this; omega
          exact ⟨h1, mapB_eq HQ.out h1 h2⟩
  generalize (!q || (q1 || q2)) = qq at *
  clear hq1 hq2 HQ HQ1 HQ2 HSEP
  cases qq with
  | true =>
    have HE := Lib.hid (HBAD.out rfl)
    go_wp2_with fail
    go_ret
    exact ⟨ret_bool HE.out.symm, HB1.out⟩
  | false =>
    obtain ⟨hd8, hE⟩ := HGOOD.out rfl
    have HE := Lib.hid hE
    have HD1 : Hid (SlI (Lt w1.heap.size) w1 (.slice Ad m.data.length cd) m.data) := SlI.below HD.out HB1.out HB1.out.size
    have HK1 : Hid (SlI (Lt w1.heap.size) w1 (.slice Ak m.kinds.length ck) m.kinds) := SlI.below HK.out HB1.out HB1.out.size
    clear HBAD HGOOD hE HD HK
    have HB2 := Lib.hid (bone w1 (.cells #[.int .i64 m.cas, .int .i64 m.act, .int .i64 m.time] 3))
    have HO2 : Hid (World.ownsRow (w1.alloc (.cells #[.int .i64 m.cas, .int .i64 m.act, .int .i64 m.time] 3)) w1.heap.size 3 1 (.slice (some ⟨w1.heap.size, 0, none⟩) 3 3) 3 [.int .i64 m.cas, .int .i64 m.act, .int .i64 m.time]) := World.ownsRow_lit (base := w1.heap.size) (e := 3) (size := 1) w1 #[.int .i64 m.cas, .int .i64 m.act, .int .i64 m.time] 3 (Nat.le_refl _) (by unfold maxLen; omega) rfl
    obtain ⟨d0, d1, d2, d3, d4, d5, d6, d7⟩ := (HM1.out.now HB2.out).c8m
    have HM2 := Lib.hid (HM1.out.now HB2.out)
    have HDA := Lib.hid (SlI.below HD1.out HB2.out HB2.out.size)
    go_upto_region 4 with (at_builtin; refine wpList_appendAll (R := RInt) appInts rfl (.tmp 33) (.tmp 35) rfl _ _ 3 _ rfl HO2.out _ m.data (Value.int .i64) rfl HDA.out (fun y c h => by obtain ⟨h, _⟩ := h; injection h) (fun _ => rfl) (by omega) HB2.out.size ?_; intro v' w3 hown hgr hat)
    have HO3 : Hid (OwnZ w3 w1.heap.size v' (headC m 0)) := by
      show World.ownsRow _ _ _ _ _ _ _
      rw [headC_zero]
      have e : ([m.cas, m.act, m.time] ++ m.data).length = 3 + m.data.length := by rw [List.length_append]; rfl
      rw [e, List.map_append]
      exact hown
    have HB3 : Hid (Below w1.heap.size w1 w3) := HB2.out.grown hgr HB2.out.size (fun g hg => (HO2.out.lt g hg).1)
    clear hown hgr hat c0 c1 c2 c3 c4 c5 c6 c7 d0 d1 d2 d3 d4 d5 d6 d7 HDA HM2 HO2 HB2
    have HM3 := Lib.hid (HM1.out.now HB3.out)
    have HB4 := Lib.hid (HB3.out.trans ((bone w3 (.cells #[.int .i64 m.res, .int .i64 m.life] 3)).mono HB3.out.size))
    have HL4 := Lib.hid (Blk.new w3 3 #[.int .i64 m.res, .int .i64 m.life])
    have HO4 : Hid (OwnZ (w3.alloc (.cells #[.int .i64 m.res, .int .i64 m.life] 3)) w1.heap.size v' (headC m 0)) := own_now HO3.out (bone w3 _)
    have HN4 : Hid (v'.ownBlock ≠ some w3.heap.size) := fun e => by have := (World.ownsRow.lt HO3.out _ e).2; omega
    obtain ⟨c0, c1, c2, c3, c4, c5, c6, c7⟩ := HM3.out.c8m
    go_upto_region 5 with fail
    obtain ⟨w4, hw4⟩ : ∃ w4, w3.alloc (.cells #[.int .i64 m.res, .int .i64 m.life] 3) = w4 := ⟨_, rfl⟩
    have HLL : Hid (w3.heap.size < w4.heap.size) := by show _ < _; rw [← hw4]; simp
    rw [hw4] at HB4 HL4 HO4 ⊢
    clear hw4 c0 c1 c2 c3 c4 c5 c6 c7 HM3
    obtain ⟨L, hL⟩ : ∃ L, w3.heap.size = L := ⟨_, rfl⟩
    rw [hL] at HL4 HN4 HLL ⊢
    clear hL
    go_loopw [3, 43] (fun cv iv wr => ∃ k : Nat, iv = .int .i64 (k : Int) ∧ k ≤ 2 ∧ Hid (OwnZ wr w1.heap.size cv (headC m k)) ∧ Hid (Below w1.heap.size w1 wr) ∧ Hid (Blk wr L 3 #[.int .i64 m.res, .int .i64 m.life]) ∧ Hid (cv.ownBlock ≠ some L) ∧ Hid (L < wr.heap.size)) (fun _ iv _ => 2 - (intOf iv).toNat)
    case atStart => exact ⟨0, rfl, by omega, HO4, HB4, HL4, HN4, HLL⟩
    case round =>
      obtain ⟨k, rfl, hk, HO, HB, HL, HN, HLS⟩ := hrel
      obtain ⟨l0, l1⟩ := HL.out.c2
      have HLEN : Hid ((headC m k).length < 10000000) := by
        show _ < _
        unfold headC
        rw [List.length_append, List.length_append, List.length_append]
        have h1 : (if 1 ≤ k ∧ m.res ≠ -1 then [m.res] else []).length ≤ 1 := by by_cases h : 1 ≤ k ∧ m.res ≠ -1 <;> simp [h]
        have h2 : (if 2 ≤ k ∧ m.life ≠ -1 then [m.life] else []).length ≤ 1 := by by_cases h : 2 ≤ k ∧ m.life ≠ -1 <;> simp [h]
        simp only [List.length_cons, List.length_nil]
        omega
      have HSTEP : Hid (∀ x rest v' w7, headC m (k + 1) = headC m k ++ rest → rest = [x] → World.ownsRow w7 w1.heap.size 3 1 v' ((headC m k).length + 1) ((headC m k).map (Value.int .i64) ++ [.int .i64 x]) → OwnZ w7 w1.heap.size v' (headC m (k + 1))) := by
        intro x rest v' w7 h1 h2 h3
        show World.ownsRow _ _ _ _ _ _ _
        rw [h1, h2, List.length_append, List.map_append]
        exact h3
      rcases (by omega : k = 0 ∨ k = 1 ∨ k = 2) with rfl | rfl | rfl
      ·
        by_cases hr : m.res = -1
        · have e1 : (m.res != -1) = false := by rw [hr]; rfl
          have hh : headC m 1 = headC m 0 := by rw [headC_res, if_pos hr, List.append_nil]
          have HH := Lib.hid hh
          clear hr hh
          go_wp2_with fail
          go_roundw
          case rel => exact ⟨1, by go_num, by omega, by rw [HH.out]; exact HO, HB, HL, HN, HLS⟩
          case measure => simp [intOf]
        · have e1 : (m.res != -1) = true := by simpa using hr
          have hh : headC m 1 = headC m 0 ++ [m.res] := by rw [headC_res, if_neg hr]
          have HH := Lib.hid hh
          clear hr hh
          go_wp2_with (at_builtin; refine wpList_push appInts rfl (.tmp 49) (.tmp 51) rfl _ [.int .i64 m.res] rfl (fun u hu => by simp at hu; subst hu; rfl) _ _ _ rfl HO.out rfl HLEN.out HB.out.size ?_; intro v' w7 hown hgr hat)
          go_roundw
          case rel =>
            refine ⟨1, by go_num, by omega, HSTEP.out _ _ _ _ HH.out rfl hown, HB.out.grown hgr HB.out.size (fun g hg => (World.ownsRow.lt HO.out g hg).1), HL.out.grown hgr (fun e => HN.out e.symm), ?_, Nat.lt_of_lt_of_le HLS.out hgr.size⟩
            rcases hat with e | e
            · show _ ≠ _; rw [e]; exact HN.out
            · show _ ≠ _; rw [e]; intro e2; injection e2 with e2; have := HLS.out; omega
          case measure => simp [intOf]
      ·
        by_cases hr : m.life = -1
        · have e1 : (m.life != -1) = false := by rw [hr]; rfl
          have hh : headC m 2 = headC m 1 := by rw [headC_life, if_pos hr, List.append_nil]
          have HH := Lib.hid hh
          clear hr hh
          go_wp2_with fail
          go_roundw
          case rel => exact ⟨2, by go_num, by omega, by rw [HH.out]; exact HO, HB, HL, HN, HLS⟩
          case measure => simp [intOf]
        · have e1 : (m.life != -1) = true := by simpa using hr
          have hh : headC m 2 = headC m 1 ++ [m.life] := by rw [headC_life, if_neg hr]
          have HH := Lib.hid hh
          clear hr hh
          go_wp2_with (at_builtin; refine wpList_push appInts rfl (.tmp 49) (.tmp 51) rfl _ [.int .i64 m.life] rfl (fun u hu => by simp at hu; subst hu; rfl) _ _ _ rfl HO.out rfl HLEN.out HB.out.size ?_; intro v' w7 hown hgr hat)
          go_roundw
          case rel =>
            refine ⟨2, by go_num, by omega, HSTEP.out _ _ _ _ HH.out rfl hown, HB.out.grown hgr HB.out.size (fun g hg => (World.ownsRow.lt HO.out g hg).1), HL.out.grown hgr (fun e => HN.out e.symm), ?_, Nat.lt_of_lt_of_le HLS.out hgr.size⟩
            rcases hat with e | e
            · show _ ≠ _; rw [e]; exact HN.out
            · show _ ≠ _; rw [e]; intro e2; injection e2 with e2; have := HLS.out; omega
          case measure => simp [intOf]
      · rw [headC_two] at HO
        have hcl : (colsB m).length < 10000000 := by rw [← headC_two]; exact HLEN.out
        have hcp : 0 < (colsB m).length := by unfold colsB; simp
        obtain ⟨g, cap, rfl, hcap, hOI⟩ := OwnI.of HO.out hcp
        rw [show ((2 : Nat) : Int) = 2 from rfl]
        have HOI := Lib.hid hOI
        have HOZ := HO
        have HBW := Lib.hid (HB1.out.trans (HB.out.mono HB1.out.size))
        obtain ⟨zs, hzs⟩ : ∃ zs, colsB m = zs := ⟨_, rfl⟩
        rw [hzs] at HOI HE hcl hcp hcap ⊢
        clear hzs hOI HO HSTEP HLEN l0 l1 HOZ HN HL HLS
        obtain ⟨w5, hw5⟩ : ∃ w5, wr = w5 := ⟨_, rfl⟩
        rw [hw5] at HOI HB HBW ⊢
        clear hw5
        go_wp2_with fail
        go_loopw [56] (fun iv wr => ∃ i : Nat, iv = .int .i64 (i : Int) ∧ i ≤ zs.length ∧ Hid (∀ (j : Nat) x, j < i → zs[j]? = some x → 0 ≤ x ∧ x < 40 ∧ x ∉ zs.take j) ∧ w5 = wr) (fun iv _ => zs.length - (intOf iv).toNat)
        case atStart => exact ⟨0, rfl, Nat.zero_le _, fun j x hj _ => absurd hj (by omega), rfl⟩
        case round =>
          obtain ⟨i, rfl, hi, HP, rfl⟩ := hrel
          by_cases hlt : i < zs.length
          · have hx : zs[i]? = some zs[i] := List.getElem?_eq_getElem hlt
            have c0 := HOI.out.cell hx
            obtain ⟨x, hxx⟩ : ∃ x, zs[i] = x := ⟨_, rfl⟩
            rw [hxx] at hx c0
            have HX := Lib.hid hx
            have HCT := Lib.hid (Tryz.slices_Contains_int g 0 i cap zs x w5 (by omega) (by omega) (fun j hj => by
              have h1 := HOI.out.cell (List.getElem?_eq_getElem hj)
              rw [Nat.zero_add, h1, List.getD_eq_getElem?_getD, List.getElem?_eq_getElem hj]; rfl))
            have HNO : Hid (¬ (0 ≤ x ∧ x < 40 ∧ x ∉ zs.take i) → mapB m = false) := fun h => by
              rw [HE.out]
              have : (zs.all (fun k => decide (0 ≤ k) && decide (k < 40)) && decide zs.Nodup) = false := by
                rw [Bool.and_eq_false_iff]
                by_cases h1 : 0 ≤ x ∧ x < 40
                · right
                  have h2 : x ∈ zs.take i := by
                    by_cases h3 : x ∈ zs.take i
                    · exact h3
                    · exact absurd ⟨h1.1, h1.2, h3⟩ h
                  exact decide_eq_false (not_nodup HX.out h2)
                · left
                  rw [List.all_eq_false]
                  refine ⟨x, List.mem_of_getElem? HX.out, ?_⟩
                  rw [Bool.and_eq_true, decide_eq_true_eq, decide_eq_true_eq]
                  exact h1
              rw [this]; rfl
            have hic : (i : Int) ≤ (cap : Int) := by omega
            have hi0 : (0 : Int) ≤ (i : Int) := by omega
            clear hx hxx
            by_cases hx0 : x < 0
            · have HF := Lib.hid (HNO.out (fun h => by omega))
              clear HNO HCT
              go_wp2_with fail
              go_ret
              exact ⟨ret_bool HF.out.symm, HBW.out⟩
            by_cases hx40 : (40 : Int) ≤ x
            · have HF := Lib.hid (HNO.out (fun h => by omega))
              clear HNO HCT
              go_wp2_with fail
              go_ret
              exact ⟨ret_bool HF.out.symm, HBW.out⟩
            obtain ⟨q, hq⟩ : ∃ q, (zs.take i).contains x = q := ⟨_, rfl⟩
            rw [hq] at HCT
            cases q with
            | true =>
              have HF := Lib.hid (HNO.out (fun h => h.2.2 (by simpa using hq)))
              clear HNO hq
              go_wp2_with fail
              (with_reducible refine HCT.out.mono ?_)
              rintro _ w6 ⟨rfl, rfl⟩
              go_wp2_with fail
              go_ret
              exact ⟨ret_bool HF.out.symm, HBW.out⟩
            | false =>
              have HOK : Hid (0 ≤ x ∧ x < 40 ∧ x ∉ zs.take i) := ⟨by omega, by omega, by simpa using hq⟩
              clear HNO hq
              go_wp2_with fail
              (with_reducible refine HCT.out.mono ?_)
              rintro _ w6 ⟨rfl, rfl⟩
              go_wp2_with fail
              go_roundw
              case rel => exact ⟨i + 1, by go_num, by omega, fun j y hj hy => by
                by_cases e : j = i
                · subst e; rw [HX.out] at hy; injection hy with hy; subst hy; exact HOK.out
                · exact HP.out j y (by omega) hy, trivial⟩
              case measure => simp [intOf]; omega
          · have HF : Hid (mapB m = m.kinds.all kindB) := by
              show _ = _
              have h1 : zs.all (fun k => decide (0 ≤ k) && decide (k < 40)) = true := by
                rw [List.all_eq_true]
                intro x hx
                obtain ⟨j, hj, rfl⟩ := List.mem_iff_getElem.1 hx
                have := HP.out j zs[j] (by omega) (List.getElem?_eq_getElem hj)
                rw [decide_eq_true this.1, decide_eq_true this.2.1]; rfl
              have h2 : zs.Nodup := nodup_of zs fun j x hx => (HP.out j x (by have := (List.getElem?_eq_some_iff.1 hx).1; omega) hx).2.2
              rw [HE.out, h1, decide_eq_true h2]; rfl
            have HKK := Lib.hid (kinds_any _ m.kinds w5 (SlI.below HK1.out HB.out HB.out.size))
            obtain ⟨q, hq⟩ : ∃ q, m.kinds.all kindB = q := ⟨_, rfl⟩
            rw [hq] at HF HKK
            obtain ⟨c0, c1, c2, c3, c4, c5, c6, c7⟩ := (HM1.out.now HB.out).c8m
            clear hq
            go_wp2_with fail
            (with_reducible refine HKK.out.mono ?_)
            rintro _ w6 ⟨rfl, hb6⟩
            have HB6 := Lib.hid (bthen HBW.out hb6)
            clear hb6
            go_wp2_with fail
            go_ret
            exact ⟨ret_bool (by rw [HF.out]; first | done | rw [Bool.not_not] | simp), HB6.out⟩
end Go.Proofs.YtoalecalahkblaaGreatDoor

set_option linter.all false
namespace Go.Proofs.YtoalecalahkblaaGreatDoor
open Go.RowKit
def RowBi (w : World) (g : Nat) (l : List UInt8) : Prop := ∀ k c, l[k]? = some c → w.cell? ⟨g, k, none⟩ = some (.int .u8 (c.toNat : Int))
theorem any_false_i {α : Type} (p : α → Bool) (xs : List α) (h : ∀ q y, q < xs.length → xs[q]? = some y → p y = false) : xs.any p = false := by
  rw [List.any_eq_false]
  intro x hx
  obtain ⟨q, hq, rfl⟩ := List.mem_iff_getElem.1 hx
  rw [h q _ hq (List.getElem?_eq_getElem hq)]; simp
theorem rowB_newi (w : World) (s : ByteArray) (cap t : Nat) (fr : Nat × Nat) : RowBi (w.alloc (.cells (bytesRow s cap) t fr)).drew w.heap.size s.data.toList := by
  intro k c hk
  rw [Array.getElem?_toList] at hk
  have hkl : k < s.data.size := by
    rcases Nat.lt_or_ge k s.data.size with h | h
    · exact h
    · rw [Array.getElem?_eq_none h] at hk; cases hk
  have h1 : (w.alloc (.cells (bytesRow s cap) t fr)).drew.heap[w.heap.size]? = some (.cells (bytesRow s cap) t fr) := by
    show (w.heap.push _)[w.heap.size]? = _
    simp
  simp only [World.cell?, h1]
  simp only [Option.isSome_none, Bool.false_eq_true, if_false]
  unfold bytesRow
  rw [Array.getElem?_append_left (by simpa using hkl), Array.getElem?_map, hk]
  rfl
theorem prt1_any (c : UInt8) (w : World) : Calls Tryz.prog 42 #[.int .u8 (c.toNat : Int)] w fun e w' => e = .returned (.bool (!printB c)) ∧ w = w' := by
  have HP := Lib.hid (printable_any c)
  generalize printB c = q at *
  generalize (c.toNat : Int) = z at *
  go_enter Tryz.func42, Tryz.ntmps42
  go_wp2_with fail
  (with_reducible refine (HP.out _).mono ?_)
  rintro _ w' ⟨rfl, rfl⟩
  go_wp2_with fail
  go_ret
  exact ⟨rfl, rfl⟩
set_option maxHeartbeats 400000 in
theorem indexPrB (g c : Nat) (l : List UInt8) (w : World) (hl : l.length ≤ 1000000) (h : RowBi w g l) :
    Calls Tryz.prog 91 #[.slice (some ⟨g, 0, none⟩) l.length c, .func (.func 42) #[] #[]] w fun e w' => ∃ z : Int, e = .returned (.int .i64 z) ∧ decide (0 ≤ z) = (l.any fun x => !printB x) ∧ w = w' := by
  have eg : ∀ args w, (callFunc 42 args).run Tryz.prog w = .ok (.enter 42 args) w := enters_of Tryz.func42 (by kernel_rfl) rfl
  have HH := Lib.hid h
  clear h
  go_enter Tryz.func91, Tryz.ntmps91
  go_wp2_with fail
  go_loopw [8] (fun i wr => ∃ j : Nat, j ≤ l.length ∧ i = .int .i64 j ∧ (∀ q t, q < j → l[q]? = some t → (!printB t) = false) ∧ wr = w) (fun i _ => l.length - (intOf i).toNat)
  case atStart => exact ⟨0, Nat.zero_le _, rfl, fun q _ h => absurd h (by omega), rfl⟩
  case round =>
    obtain ⟨j, hj, rfl, hp, rfl⟩ := hrel
    have HP := Lib.hid hp
    clear hp
    by_cases hlt : j < l.length
    · have HX : Hid (l[j]? = some l[j]) := List.getElem?_eq_getElem hlt
      have c0 := HH.out j _ HX.out
      have HC := Lib.hid (fun W => prt1_any l[j] W)
      generalize l[j] = x at *
      generalize hq : printB x = q at *
      have HQ := Lib.hid hq
      clear hq
      cases q
      · go_wp2_with (go_at_fn 42; refine (HC.out _).mono ?_; rintro e w' ⟨rfl, rfl⟩)
        go_ret
        refine ⟨_, rfl, ?_, rfl⟩
        have : (l.any fun x => !printB x) = true := List.any_eq_true.2 ⟨x, List.mem_of_getElem? HX.out, by rw [HQ.out]; rfl⟩
        rw [this]
        simp
      · go_wp2_with (go_at_fn 42; refine (HC.out _).mono ?_; rintro e w' ⟨rfl, rfl⟩)
        go_roundw
        case rel =>
          refine ⟨j + 1, by omega, by go_num, fun q y hq hy => ?_, trivial⟩
          by_cases e : q = j
          · subst e; rw [HX.out] at hy; injection hy with hy; subst hy; rw [HQ.out]; rfl
          · exact HP.out q y (by omega) hy
        case measure => simp [intOf]; omega
    · go_wp2_with fail
      go_ret
      refine ⟨_, rfl, ?_, rfl⟩
      rw [any_false_i _ l (fun q y hq hy => HP.out q y (by omega) hy)]
      simp
theorem containsPrB (g c : Nat) (l : List UInt8) (w : World) (hl : l.length ≤ 1000000) (h : RowBi w g l) :
    Calls Tryz.prog 41 #[.slice (some ⟨g, 0, none⟩) l.length c, .func (.func 42) #[] #[]] w fun e w' => e = .returned (.bool (l.any fun x => !printB x)) ∧ w = w' := by
  have HC := Lib.hid (indexPrB g c l w hl h)
  clear h
  go_enter Tryz.func41, Tryz.ntmps41
  go_wp2_with (go_at_call 91; refine HC.out.mono ?_; rintro e w' ⟨z, rfl, hz, rfl⟩)
  go_ret
  exact ⟨rfl, rfl⟩
theorem cellBad_any (s : ByteArray) (w : World) (hs : s.size ≤ 1000000) : Calls Tryz.prog 40 #[.string s] w fun e w' => e = .returned (.bool (s.data.toList.any fun c => !printB c)) ∧ Below w.heap.size w w' := by
  have hconv := fun w => run_bytes_of_string (P := Tryz.prog) w 9 72 5 s Tryz.underlying9 Tryz.underlying72 Tryz.underlying5
  go_enter Tryz.func40, Tryz.ntmps40
  go_wp2_with fail
  refine (containsPrB w.heap.size _ s.data.toList _ (by rw [Array.length_toList]; show s.size ≤ _; omega) (rowB_newi w s _ _ _)).mono ?_
  rintro e w1 ⟨rfl, rfl⟩
  obtain ⟨q, hq⟩ : ∃ q, (s.data.toList.any fun x => !printB x) = q := ⟨_, rfl⟩
  rw [hq]
  have HQ := Lib.hid hq
  clear hq
  go_wp2_with fail
  go_ret
  exact ⟨ret_bool HQ.out.symm, (bone w _).drew⟩
theorem enters_cellBad : ∀ args w, (callFunc 40 args).run Tryz.prog w = .ok (.enter 40 args) w := enters_of Tryz.func40 (by kernel_rfl) rfl
theorem any_not_print (l : Bt) : (l.any fun x => !printB x) = !l.all printB := by
  induction l with
  | nil => rfl
  | cons a m ih => simp [List.any_cons, List.all_cons, ih]
theorem rowBad_eq : ∀ r : List Bt, ((r.map bsOf).any fun s => s.data.toList.any fun c => !printB c) = !r.all fun b => b.all printB
  | [] => rfl
  | b :: r => by
    have ih := rowBad_eq r
    have hb := any_not_print b
    rw [List.map_cons, List.any_cons, List.all_cons, ih]
    show ((b.any fun c => !printB c) || _) = _
    rw [hb]
    cases (b.all printB) <;> cases (r.all fun b => b.all printB) <;> rfl
theorem rowBad_any (v : Value) (r : List Bt) (w : World) (h : SlP (Lt w.heap.size) w v r) (hl : ∀ b ∈ r, b.length ≤ 1000000) :
    Calls Tryz.prog 28 #[v, .func (.func 40) #[] #[]] w fun e w' => e = .returned (.bool (!r.all fun b => b.all printB)) ∧ Below w.heap.size w w' := by
  have hf : AsksF 40 #[] RStr w (r.map bsOf) (fun s => s.data.toList.any fun c => !printB c) := by
    intro x u W hx hr _
    obtain ⟨rfl, _⟩ : u = .string x ∧ x.size ≤ maxLen := by
      obtain ⟨h1, h2⟩ := hr
      injection h1 with h1
      exact ⟨h1, h2⟩
    obtain ⟨b, hb, rfl⟩ := List.mem_map.1 hx
    exact cellBad_any (bsOf b) W (by rw [bs_size]; exact hl b hb)
  have hc := contFS 40 #[] enters_cellBad v (r.map bsOf) _ w h hf
  have e := rowBad_eq r
  rw [e] at hc
  exact hc
end Go.Proofs.YtoalecalahkblaaGreatDoor

set_option linter.all false
namespace Go.Proofs.YtoalecalahkblaaGreatDoor
open Go.RowKit
structure RowW (w : World) (B g : Nat) (l : List UInt8) : Prop where
  cell : RowBi w g l
  froz : ∀ k, k < l.length → w.frozen? ⟨g, k, none⟩ = false
  lt : g < w.heap.size
  ge : B ≤ g
theorem RowW.set_ {w : World} {B g : Nat} {l : List UInt8} (h : RowW w B g l) (k : Nat) (c : UInt8) : RowW (w.setCell ⟨g, k, none⟩ (.int .u8 (c.toNat : Int))) B g (l.set k c) := by
  refine ⟨fun j d hj => ?_, fun j hj => ?_, by simpa using h.lt, h.ge⟩
  · have hjl : j < l.length := by
      rcases Nat.lt_or_ge j (l.set k c).length with h' | h'
      · simpa using h'
      · rw [List.getElem?_eq_none h'] at hj; cases hj
    have hc := h.cell j l[j] (List.getElem?_eq_getElem hjl)
    by_cases e : k = j
    · subst e
      rw [List.getElem?_set_self hjl] at hj
      injection hj with hj; subst hj
      exact World.cell?_setCell_same (w := w) (a := ⟨g, k, none⟩) (v := .int .u8 (c.toNat : Int)) hc
    · rw [List.getElem?_set_ne e] at hj
      rw [World.cell?_setCell_other (w := w) (a := ⟨g, k, none⟩) (b := ⟨g, j, none⟩) (v := .int .u8 (c.toNat : Int)) (fun h' => e (by injection h'))]
      exact h.cell j d hj
  · rw [World.frozen?_setCell]
    exact h.froz j (by simpa using hj)
theorem RowW.now {w w' : World} {B g : Nat} {l : List UInt8} (h : RowW w B g l) (hb : Below w.heap.size w w') : RowW w' B g l := by
  have hg := hb.block g h.lt
  refine ⟨fun k c hk => ?_, fun k hk => ?_, Nat.lt_of_lt_of_le h.lt hb.size, h.ge⟩
  · rw [← h.cell k c hk]; simp only [World.cell?, hg]
  · rw [← h.froz k hk]; simp only [World.frozen?, hg]
theorem RowW.conv {w : World} {B g : Nat} {l : List UInt8} (h : RowW w B g l) (cap : Nat) : (convert 72 9 (.slice (some ⟨g, 0, none⟩) l.length cap)).run Tryz.prog w = .ok (.string (bsOf l)) w := by
  refine run_convert_bytes_back w _ _ _ ⟨g, 0, none⟩ cap l Tryz.underlying72 Tryz.underlying5 Tryz.underlying9 (fun j hj => ?_)
  have e : ((⟨g, 0, none⟩ : Addr).add j) = ⟨g, j, none⟩ := by unfold Addr.add; by_cases hj : j = 0 <;> simp [hj]
  rw [e]
  exact h.cell j _ (List.getElem?_eq_getElem hj)
def lowN (l : Bt) (j : Nat) : Bt := (l.take j).map lowB ++ l.drop j
def SmPost (s : ByteArray) (w : World) (e : Ending) (w' : World) : Prop := e = .returned (.string (bsOf (smallB s.data.toList))) ∧ Below w.heap.size w w'
end Go.Proofs.YtoalecalahkblaaGreatDoor

set_option linter.all false
namespace Go.Proofs.YtoalecalahkblaaGreatDoor
open Go.RowKit
def SmlP (s : ByteArray) (w : World) (e : Ending) (w' : World) : Prop := e = .returned (.string (bsOf (smallB s.data.toList))) ∧ Below w.heap.size w w'
end Go.Proofs.YtoalecalahkblaaGreatDoor

set_option linter.all false
namespace Go.Proofs.YtoalecalahkblaaGreatDoor
open Go.RowKit
theorem bsOf_inj {a b : Bt} (h : bsOf a = bsOf b) : a = b := by
  have := congrArg (fun x : ByteArray => x.data.toList) h
  simpa [bs_list] using this
end Go.Proofs.YtoalecalahkblaaGreatDoor

set_option linter.all false
namespace Go.Proofs.YtoalecalahkblaaGreatDoor
open Go.RowKit
def REq1 {α : Type} (f : α → Value) : ElemR α := fun _ _ y c => c = [f y]
structure GsR (B : Nat) (W0 w : World) (dv kv sv : Value) (data kinds : List Int) (seen : List Bt) : Prop where
  bel : Below W0.heap.size W0 w
  dat : OwnZ w B dv data
  kin : OwnZ w B kv kinds
  sn : OwnT w B sv seen
  ne : ∀ g, dv.ownBlock = some g → kv.ownBlock ≠ some g
  size : B ≤ w.heap.size
  base : W0.heap.size ≤ B
structure OffG (w : World) (dv kv sv : Value) (g t : Nat) (cs : Array Value) : Prop where
  blk : Blk w g t cs
  n1 : dv.ownBlock ≠ some g
  n2 : kv.ownBlock ≠ some g
  n3 : sv.ownBlock ≠ some g
section
variable {B g t : Nat} {W0 w w' : World} {dv kv sv : Value} {data kinds : List Int} {seen : List Bt} {cs : Array Value}
theorem OwnZ.now {base : Nat} {v : Value} {zs : List Int} (h : OwnZ w base v zs) (hb : Below w.heap.size w w') : OwnZ w' base v zs := own_now h hb
theorem GsR.now (h : GsR B W0 w dv kv sv data kinds seen) (hb : Below w.heap.size w w') : GsR B W0 w' dv kv sv data kinds seen :=
  ⟨h.bel.trans (hb.mono h.bel.size), own_now h.dat hb, own_now h.kin hb, own_now h.sn hb, h.ne, Nat.le_trans h.size hb.size, h.base⟩
theorem OffG.now (h : OffG w dv kv sv g t cs) (hb : Below w.heap.size w w') : OffG w' dv kv sv g t cs := ⟨h.blk.now hb, h.n1, h.n2, h.n3⟩
theorem OffG.new (h : GsR B W0 w dv kv sv data kinds seen) (t : Nat) (cs : Array Value) : OffG (w.alloc (.cells cs t)) dv kv sv w.heap.size t cs :=
  ⟨Blk.new w t cs, fun e => by have := own_lt h.dat _ e; unfold Lt at this; omega, fun e => by have := own_lt h.kin _ e; unfold Lt at this; omega, fun e => by have := own_lt h.sn _ e; unfold Lt at this; omega⟩
theorem OffG.low (h : GsR B W0 w dv kv sv data kinds seen) (hk : Blk w g t cs) (hg : g < B) : OffG w dv kv sv g t cs :=
  ⟨hk, fun e => by have := (World.ownsRow.lt h.dat g e).1; omega, fun e => by have := (World.ownsRow.lt h.kin g e).1; omega, fun e => by have := (World.ownsRow.lt h.sn g e).1; omega⟩
theorem GsR.chg (h : GsR B W0 w dv kv sv data kinds seen) {v : Value} (h3 : w.grownBy w' v.ownBlock) (hv : ∀ g, v.ownBlock = some g → B ≤ g) : Below W0.heap.size W0 w' :=
  h.bel.trans (below_of_grown h3 h.bel.size (fun g hg => Nat.le_trans h.base (hv g hg)))
theorem GsR.set_ (h : GsR B W0 w dv kv sv data kinds seen) {G k : Nat} {u : Value} (h1 : W0.heap.size ≤ G) (h2 : G < B) : GsR B W0 (w.setCell ⟨G, k, none⟩ u) dv kv sv data kinds seen := by
  have key : w.grownBy (w.setCell ⟨G, k, none⟩ u) (some G) := ⟨rfl, rfl, rfl, by simp, fun i _ hne => Below.heap_setCell w ⟨G, k, none⟩ u i (fun e => hne (by rw [e]))⟩
  have nx : ∀ {e size n : Nat} {v : Value} {c : List Value}, w.ownsRow B e size v n c → v.ownBlock = none ∨ v.ownBlock ≠ some G := fun hh => .inr fun e => by have := (World.ownsRow.lt hh G e).1; omega
  exact ⟨h.bel.trans (below_of_grown key h.bel.size (fun g hg => by injection hg with hg; omega)), World.ownsRow.kept h.dat key (nx h.dat), World.ownsRow.kept h.kin key (nx h.kin), World.ownsRow.kept h.sn key (nx h.sn), h.ne, by simpa using h.size, h.base⟩
end
end Go.Proofs.YtoalecalahkblaaGreatDoor

set_option linter.all false
namespace Go.Proofs.YtoalecalahkblaaGreatDoor
open Go.RowKit
theorem neg_any (k : Int) (w : World) : Calls Tryz.prog 122 #[.int .i64 k] w fun e w' => e = .returned (.bool (decide (k < 0))) ∧ w = w' := by
  go_enter Tryz.func122, Tryz.ntmps122
  go_wp2_with fail
  go_ret
  exact ⟨rfl, rfl⟩
theorem enters_neg : ∀ args w, (callFunc 122 args).run Tryz.prog w = .ok (.enter 122 args) w := enters_of Tryz.func122 (by kernel_rfl) rfl
theorem fields_filter (m : Mp) : ([m.cas, m.act, m.res, m.life, m.time].filter fun x => !decide (x < 0)) = fieldsB m := by
  unfold fieldsB
  congr 1
  funext k
  by_cases h : k < 0
  · rw [decide_eq_true h, decide_eq_false (by omega)]; rfl
  · rw [decide_eq_false h, decide_eq_true (by omega)]; rfl
theorem fieldsB_len (m : Mp) : (fieldsB m).length ≤ 5 := by
  unfold fieldsB
  exact Nat.le_trans (List.length_filter_le _ _) (Nat.le_refl _)
theorem delete_any (m : Mp) (hf : FitM m) (w : World) :
    Calls Tryz.prog 121 #[.slice (some ⟨w.heap.size, 0, none⟩) 5 5, .func (.func 122) #[] #[]] (w.alloc (.cells #[.int .i64 m.cas, .int .i64 m.act, .int .i64 m.res, .int .i64 m.life, .int .i64 m.time] 3))
      fun e w' => e = .returned (.slice (some ⟨w.heap.size, 0, none⟩) (fieldsB m).length 5) ∧ SlI (Lt w'.heap.size) w' (.slice (some ⟨w.heap.size, 0, none⟩) (fieldsB m).length 5) (fieldsB m) ∧ Below w.heap.size w w' := by
  have hB := Blk.new w 3 #[.int .i64 m.cas, .int .i64 m.act, .int .i64 m.res, .int .i64 m.life, .int .i64 m.time]
  have hb := bone w (.cells #[.int .i64 m.cas, .int .i64 m.act, .int .i64 m.res, .int .i64 m.life, .int .i64 m.time] 3)
  have hsz : w.heap.size < (w.alloc (.cells #[.int .i64 m.cas, .int .i64 m.act, .int .i64 m.res, .int .i64 m.life, .int .i64 m.time] 3)).heap.size := by simp
  obtain ⟨w1, hw1⟩ : ∃ w1, w.alloc (.cells #[.int .i64 m.cas, .int .i64 m.act, .int .i64 m.res, .int .i64 m.life, .int .i64 m.time] 3) = w1 := ⟨_, rfl⟩
  rw [hw1] at hB hb hsz ⊢
  clear hw1
  obtain ⟨g, hg⟩ : ∃ g, w.heap.size = g := ⟨_, rfl⟩
  have hgb : Below g w w1 := by rw [← hg]; exact hb
  rw [hg] at hB hsz ⊢
  have hpred : Go.Proofs.PredAt Tryz.prog 122 #[] (Value.int .i64) (fun k => decide (k < 0)) w1 := fun W x _ => (neg_any x W).mono fun e w' ⟨h1, h2⟩ => ⟨h1, 0, h2.symm⟩
  have hover : Go.Proofs.PredOver Tryz.prog 122 #[] (Value.int .i64) (fun k => decide (k < 0)) g 0 5 w1 := fun n os dk x _ => (neg_any x _).mono fun e w' ⟨h1, h2⟩ => ⟨h1, 0, h2.symm⟩
  have hH : Go.Sort.Holds (Value.int .i64) w1 g 0 #[m.cas, m.act, m.res, m.life, m.time] := by
    intro j hj
    refine ⟨?_, hB.frozen _⟩
    have hc := hB.cell (0 + j)
    rw [hc]
    match j, hj with
    | 0, _ => rfl
    | 1, _ => rfl
    | 2, _ => rfl
    | 3, _ => rfl
    | 4, _ => rfl
  have h := Tryz.slices_DeleteFunc (Value.int .i64) (fun _ => rfl) (fun k => decide (k < 0)) 122 #[] enters_neg 0 Tryz.zeroValue3 g 0 5 #[m.cas, m.act, m.res, m.life, m.time] w1 hpred hover hH (by simp) (by simp)
  have hfl : (#[m.cas, m.act, m.res, m.life, m.time].toList.filter fun x => !decide (x < 0)) = fieldsB m := fields_filter m
  rw [hfl] at h
  have hlen := fieldsB_len m
  have hfit : ∀ x ∈ fieldsB m, Fit x := fun x hx => by
    have hx := (List.mem_filter.1 hx).1
    simp only [List.mem_cons, List.not_mem_nil, or_false] at hx
    rcases hx with rfl | rfl | rfl | rfl | rfl
    · exact hf.cas
    · exact hf.act
    · exact hf.res
    · exact hf.life
    · exact hf.time
  refine Calls.mono h fun e w' ⟨he, q, hw⟩ => ?_
  generalize fieldsB m = fs at *
  obtain ⟨d, hd⟩ : ∃ d, (fs ++ List.replicate (#[m.cas, m.act, m.res, m.life, m.time].size - fs.length) 0).toArray = d := ⟨_, rfl⟩
  have hds : d.size = 5 := by
    rw [← hd]
    simp
    omega
  have hdg : ∀ i x, fs[i]? = some x → d[i]! = x := fun i x hx => by
    have hi := (List.getElem?_eq_some_iff.1 hx).1
    rw [getElem!_pos d i (by omega)]
    have : d[i]'(by omega) = (fs ++ List.replicate (#[m.cas, m.act, m.res, m.life, m.time].size - fs.length) 0)[i]'(by simp; omega) := by
      subst hd; simp
    rw [this, List.getElem_append_left hi]
    exact (List.getElem?_eq_some_iff.1 hx).2
  rw [hd] at hw
  have hsw : w'.heap.size = w1.heap.size := by rw [hw]; simp
  refine ⟨he, ⟨some ⟨g, 0, none⟩, 5, rfl, hlen, by unfold maxLen; omega, fun i x hx => ⟨g, 0, [.int .i64 x], rfl, by show g < _; omega, rfl, ⟨rfl, hfit x (List.mem_of_getElem? hx)⟩, fun j u hu => ?_⟩⟩, ?_⟩
  · match j, hu with
    | 0, hu =>
      injection hu with hu
      subst hu
      have hi := (List.getElem?_eq_some_iff.1 hx).1
      have hc := Go.Sort.cell?_putRow (Value.int .i64) (Go.Sort.ahead w1 q) g 0 #[m.cas, m.act, m.res, m.life, m.time] d hH (by rw [hds]; rfl) i (by omega)
      rw [hw, show 0 + i * 1 + 0 = 0 + i by omega, hc, hdg i x hx]
    | j + 1, hu => simp at hu
  · refine hgb.trans ?_
    rw [hw]
    refine ⟨rfl, rfl, rfl, by simp, fun j hj => ?_⟩
    have : g ≠ j := by omega
    simp [Go.Sort.putRow, Go.Sort.mapBlock, Go.Sort.ahead, Array.getElem?_modify, this]
set_option maxHeartbeats 2000000 in
theorem fields_any (u : Value) (m : Mp) (w : World) (h : IsMp (Lt w.heap.size) w u m) :
    Calls Tryz.prog 75 #[u] w fun e w' => ∃ v, e = .returned v ∧ SlI (Lt w'.heap.size) w' v (fieldsB m) ∧ Below w.heap.size w w' := by
  obtain ⟨dv, kv, rfl, hfm, hd, hk⟩ := h
  have HD := Lib.hid (delete_any m hfm)
  obtain ⟨Ad, cd, rfl, _, _, hd⟩ := hd.open_
  obtain ⟨Ak, ck, rfl, _, _, hk⟩ := hk.open_
  obtain ⟨z, hz⟩ : ∃ z, (m.sep.toNat : Int) = z := ⟨_, rfl⟩
  unfold mpV
  rw [hz]
  clear hfm hd hk hz
  have HB1 := Lib.hid (bone w (.cells #[.int .i64 m.cas, .int .i64 m.act, .int .i64 m.res, .int .i64 m.life, .int .i64 m.time, .slice Ad m.data.length cd, .slice Ak m.kinds.length ck, .int .u8 z] 33))
  have HM1 := Lib.hid (Blk.new w 33 #[.int .i64 m.cas, .int .i64 m.act, .int .i64 m.res, .int .i64 m.life, .int .i64 m.time, .slice Ad m.data.length cd, .slice Ak m.kinds.length ck, .int .u8 z])
  go_enter Tryz.func75, Tryz.ntmps75
  go_upto_region 1 with fail
  obtain ⟨w1, hw1⟩ : ∃ w1, w.alloc (.cells #[.int .i64 m.cas, .int .i64 m.act, .int .i64 m.res, .int .i64 m.life, .int .i64 m.time, .slice Ad m.data.length cd, .slice Ak m.kinds.length ck, .int .u8 z] 33) = w1 := ⟨_, rfl⟩
  rw [hw1] at HB1 HM1 ⊢
  clear hw1
  obtain ⟨c0, c1, c2, c3, c4, c5, c6, c7⟩ := HM1.out.c8m
  have HDW := Lib.hid (HD.out w1)
  clear HD
  go_wp2_with fail
  (with_reducible refine HDW.out.mono ?_)
  rintro _ w2 ⟨rfl, hs, hb⟩
  have HS := Lib.hid hs
  have HB2 := Lib.hid (bthen HB1.out hb)
  clear hs hb
  go_wp2_with fail
  go_ret
  exact ⟨_, rfl, HS.out, HB2.out⟩
end Go.Proofs.YtoalecalahkblaaGreatDoor

namespace Go.Proofs.YtoalecalahkblaaGreatDoor
def unlisted (listed : Array Bool) : Nat := (listed.toList.filter (fun b => !b)).length
theorem unlisted_list (l : List Bool) : ∀ i, l[i]? = some false → ((l.set i true).filter (fun b => !b)).length + 1 = (l.filter (fun b => !b)).length := by
  induction l with
  | nil => intro i h; simp at h
  | cons b l ih =>
    intro i h
    cases i with
    | zero => simp at h; subst h; simp
    | succ i =>
      have := ih i (by simpa using h)
      cases b
      · simp only [List.set_cons_succ, List.filter_cons, Bool.not_false, if_true, List.length_cons]; omega
      · simp only [List.set_cons_succ, List.filter_cons, Bool.not_true, Bool.false_eq_true, if_false]; omega
theorem unlisted_set {listed : Array Bool} {i : Nat} (h : listed.getD i true = false) : unlisted (listed.setIfInBounds i true) + 1 = unlisted listed := by
  have hi : i < listed.size := by
    rcases Nat.lt_or_ge i listed.size with h' | h'
    · exact h'
    · simp [Array.getElem?_eq_none h'] at h
  have hb : listed[i] = false := by simpa [hi] using h
  unfold unlisted
  rw [Array.toList_setIfInBounds]
  exact unlisted_list _ i (by simp [hi, hb])
theorem wpAny_inv {P : Program} {ops : Array Oper} {md : Region.Mode} {Q : Exit → Act → World → Prop} (J : Array Bool → Act → World → Prop)
    (hstep : ∀ listed a w i, J listed a w → i ∈ Region.ready md ops listed → wpOp P ops Q i (J (listed.setIfInBounds i true)) a w)
    (hend : ∀ listed a w, J listed a w → Region.ready md ops listed = [] → Q .normal a w) :
    ∀ (fuel : Nat) (listed : Array Bool) (a : Act) (w : World), unlisted listed ≤ fuel → J listed a w → wpAny P md ops Q fuel listed a w := by
  intro fuel
  induction fuel with
  | zero =>
    intro listed a w hf hJ
    have hr : Region.ready md ops listed = [] := by
      cases h : Region.ready md ops listed with
      | nil => rfl
      | cons i l =>
        have hi : i ∈ Region.ready md ops listed := by rw [h]; simp
        have := unlisted_set (mem_ready.1 hi).1
        omega
    exact ⟨hr, hend _ _ _ hJ hr⟩
  | succ fuel ih =>
    intro listed a w hf hJ
    refine ⟨fun hr => hend _ _ _ hJ hr, fun i hi => ?_⟩
    exact wpOp_mono (fun a' w' h' => ih _ a' w' (by have := unlisted_set (mem_ready.1 hi).1; omega) h') (hstep listed a w i hJ hi)
theorem wp_region_inv {P : Program} {ops : Array Oper} {id : Nat} {Q : Exit → Act → World → Prop} {a : Act} {w : World} (hm : P.follows .mixedOrders = true) (J : Array Bool → Act → World → Prop)
    (h0 : J (Array.replicate ops.size false) a w.drew)
    (hstep : ∀ listed a w i, J listed a w → i ∈ Region.ready .any ops listed → wpOp P ops Q i (J (listed.setIfInBounds i true)) a w)
    (hend : ∀ listed a w, J listed a w → Region.ready .any ops listed = [] → Q .normal a w) : (Code.region id ops true).wp P Q a w := by
  refine wp_region_any hm (wpAny_inv J hstep hend _ _ _ _ ?_ h0)
  unfold unlisted
  exact Nat.le_trans (List.length_filter_le _ _) (by simp)
def Act.slot (a : Act) (s : Nat) : Value := a.tmps.getD s undef
def upd (σ : Nat → Value) (d : Option Tmp) (v : Value) : Nat → Value := match d with | some d => fun s => if s = d then v else σ s | none => σ
theorem slot_put {a : Act} {d : Option Tmp} {v : Value} (h : ∀ k, d = some k → k < a.tmps.size) : Act.slot (a.put d v) = upd (Act.slot a) d v := by
  cases d with
  | none => rfl
  | some d =>
    funext s
    have hd := h d rfl
    simp only [Act.slot, Act.put, upd, Array.getD_eq_getD_getElem?, Array.getElem?_setIfInBounds]
    by_cases hs : s = d
    · subst hs; simp [hd]
    · rw [if_neg (fun e => hs e.symm), if_neg hs]
theorem size_put (a : Act) (d : Option Tmp) (v : Value) : (a.put d v).tmps.size = a.tmps.size := by cases d <;> simp [Act.put]
theorem defers_put (a : Act) (d : Option Tmp) (v : Value) : (a.put d v).defers = a.defers := by cases d <;> rfl
structure Kin (l : List Oper) (a0 a : Act) : Prop where
  size : a.tmps.size = a0.tmps.size
  defers : a.defers = a0.defers
  slots : ∀ s, (∀ o ∈ l, o.dst ≠ some s) → Act.slot a s = Act.slot a0 s
theorem Kin.refl (l : List Oper) (a : Act) : Kin l a a := ⟨rfl, rfl, fun _ _ => rfl⟩
theorem Kin.put {l : List Oper} {a0 a : Act} (h : Kin l a0 a) (hd : ∀ o ∈ l, ∀ k, o.dst = some k → k < a0.tmps.size) {o : Oper} (ho : o ∈ l) (v : Value) : Kin l a0 (a.put o.dst v) ∧ Act.slot (a.put o.dst v) = upd (Act.slot a) o.dst v := by
  have e := slot_put (a := a) (d := o.dst) (v := v) (fun k hk => by rw [h.size]; exact hd o ho k hk)
  refine ⟨⟨(size_put _ _ _).trans h.size, (defers_put _ _ _).trans h.defers, fun s hs => ?_⟩, e⟩
  rw [e, ← h.slots s hs]
  have := hs o ho
  cases hk : o.dst with
  | none => rfl
  | some d =>
    simp only [upd]
    rw [if_neg]
    intro e'
    subst e'
    exact this hk
def Up (listed : Array Bool) (j : Nat) : Prop := listed.getD j false = true
structure Shut (l : List Oper) (listed : Array Bool) : Prop where
  size : listed.size = l.length
  closed : ∀ j oj, l[j]? = some oj → Up listed j → ∀ e ∈ oj.after, Region.binds .any e = true → Up listed e.on
theorem Shut.start (l : List Oper) : Shut l (Array.replicate l.length false) :=
  ⟨by simp, fun j oj _ hl => by unfold Up at hl; rw [getD_replicate_false] at hl; cases hl⟩
theorem Shut.up {l : List Oper} {listed : Array Bool} {j i : Nat} (h : Shut l listed) (hj : Up listed j) (hw : Region.waitsFor .any l.toArray j i = true) : Up listed i := by
  obtain ⟨oj, hoj, e, he, hb, rfl⟩ := Region.waitsFor_spec hw
  exact h.closed j oj (by simpa using hoj) hj e he hb
theorem ready_up {l : List Oper} {listed : Array Bool} {i j : Nat} (hi : i ∈ Region.ready .any l.toArray listed) (hw : Region.waitsFor .any l.toArray i j = true) : Up listed j := by
  obtain ⟨_, o, ho, hall⟩ := mem_ready.1 hi
  obtain ⟨oj, hoj, e, he, hb, rfl⟩ := Region.waitsFor_spec hw
  have : oj = o := Option.some.inj (hoj.symm.trans ho)
  subst this
  exact hall e he hb
theorem ready_not {l : List Oper} {listed : Array Bool} {i : Nat} (hi : i ∈ Region.ready .any l.toArray listed) : ¬ Up listed i := by
  unfold Up
  rw [getD_both (mem_ready.1 hi).1]
  simp
theorem Shut.set {l : List Oper} {listed : Array Bool} {i : Nat} (h : Shut l listed) (hi : i ∈ Region.ready .any l.toArray listed) : Shut l (listed.setIfInBounds i true) := by
  obtain ⟨_, oi, hoi, hall⟩ := mem_ready.1 hi
  refine ⟨by simp [h.size], fun j oj hj hl e he hb => ?_⟩
  unfold Up at hl ⊢
  by_cases hij : i = j
  · subst hij
    have : oj = oi := Option.some.inj ((show l.toArray[i]? = some oj by simpa using hj).symm.trans hoi)
    subst this
    exact getD_set_true (hall e he hb)
  · rw [getD_set_ne false hij] at hl
    exact getD_set_true (h.closed j oj hj hl e he hb)
theorem up_set {listed : Array Bool} {i j : Nat} (h : Up (listed.setIfInBounds i true) j) (hij : i ≠ j) : Up listed j := by
  unfold Up at *
  rwa [getD_set_ne false hij] at h
def Steps (P : Program) (l : List Oper) (Q : Exit → Act → World → Prop) (a0 : Act) (K : Array Bool → (Nat → Value) → World → Prop) : Nat → List Oper → Prop
  | _, [] => True
  | i, o :: rest => (∀ listed (a : Act) w, Shut l listed → i ∈ Region.ready .any l.toArray listed → Kin l a0 a → K listed (Act.slot a) w →
      o.wp P a w (fun a' w' => ∃ v, a' = a.put o.dst v ∧ K (listed.setIfInBounds i true) (upd (Act.slot a) o.dst v) w') Q) ∧ Steps P l Q a0 K (i + 1) rest
theorem Steps.at_ {P : Program} {l : List Oper} {Q : Exit → Act → World → Prop} {a0 : Act} {K : Array Bool → (Nat → Value) → World → Prop} : ∀ (m : List Oper) (k i : Nat) (o : Oper), Steps P l Q a0 K k m → m[i]? = some o →
    ∀ listed (a : Act) w, Shut l listed → (k + i) ∈ Region.ready .any l.toArray listed → Kin l a0 a → K listed (Act.slot a) w →
      o.wp P a w (fun a' w' => ∃ v, a' = a.put o.dst v ∧ K (listed.setIfInBounds (k + i) true) (upd (Act.slot a) o.dst v) w') Q := by
  intro m
  induction m with
  | nil => intro k i o _ h; simp at h
  | cons x m ih =>
    intro k i o hs h
    cases i with
    | zero => injection h with h; subst h; exact hs.1
    | succ i =>
      have := ih (k + 1) i o hs.2 (by simpa using h)
      rwa [show k + 1 + i = k + (i + 1) from by omega] at this
def dstsB (l : List Oper) (n : Nat) : Bool := l.all fun o => o.guard.isNone && match o.dst with | some k => decide (k < n) | none => true
theorem wp_region_slots {P : Program} {l : List Oper} {id : Nat} {Q : Exit → Act → World → Prop} {a0 : Act} {w : World} (hm : P.follows .mixedOrders = true)
    (hB : dstsB l a0.tmps.size = true) (K : Array Bool → (Nat → Value) → World → Prop)
    (h0 : K (Array.replicate l.length false) (Act.slot a0) w.drew) (hstep : Steps P l Q a0 K 0 l)
    (hend : ∀ listed (a : Act) w, (∀ i, i < l.length → Up listed i) → Kin l a0 a → K listed (Act.slot a) w → Q .normal a w) (hall : ∀ listed, Shut l listed → Region.ready .any l.toArray listed = [] → ∀ i, i < l.length → Up listed i) : (Code.region id l.toArray true).wp P Q a0 w := by
  unfold dstsB at hB
  rw [List.all_eq_true] at hB
  refine wp_region_inv hm (fun listed a w => Shut l listed ∧ Kin l a0 a ∧ K listed (Act.slot a) w) ⟨by simpa using Shut.start l, Kin.refl _ _, by simpa using h0⟩ ?_ (fun listed a w h hr => hend listed a w (hall listed h.1 hr) h.2.1 h.2.2)
  rintro listed a w i ⟨hsh, hk, hK⟩ hi
  obtain ⟨_, o, ho, _⟩ := mem_ready.1 hi
  have ho' : l[i]? = some o := by simpa using ho
  have hmem : o ∈ l := List.mem_of_getElem? ho'
  have hb := hB o hmem
  rw [Bool.and_eq_true] at hb
  unfold wpOp
  rw [ho]
  have hw : Region.wanted o (yielded l.toArray a.tmps) = true := by simp [Region.wanted, Option.isNone_iff_eq_none.1 hb.1]
  simp only [hw, if_true]
  left
  refine Oper.wp_mono ?_ (by have := hstep.at_ l 0 i o ho' listed a w hsh (by rwa [Nat.zero_add]) hk hK; rwa [Nat.zero_add] at this)
  rintro a' w' ⟨v, rfl, h⟩
  obtain ⟨k1, k2⟩ := hk.put (fun o' ho' k hk' => by
    have := hB o' ho'
    rw [Bool.and_eq_true, hk'] at this
    simpa using this.2) hmem v
  exact ⟨hsh.set hi, k1, by rw [k2]; exact h⟩
end Go.Proofs.YtoalecalahkblaaGreatDoor

namespace Go.Proofs.YtoalecalahkblaaGreatDoor
def TailPost (P : Program) (l : List Oper) (n : Nat) (Q : Exit → Act → World → Prop) : Exit → Act → World → Prop
  | .normal, a, w => wpList P l.toArray Q (l.drop n) a w
  | e, a, w => Q e a w
def earlyB (l : List Oper) : Bool := (List.range l.length).all fun j => match l[j]? with
  | some o => o.guard.isNone && o.after.all fun e => !Region.binds .any e || decide (e.on < j)
  | none => true
theorem early_spec {l : List Oper} (h : earlyB l = true) {j : Nat} {o : Oper} (hj : l[j]? = some o) : o.guard = none ∧ ∀ e ∈ o.after, Region.binds .any e = true → e.on < j := by
  have hlt : j < l.length := by
    rcases Nat.lt_or_ge j l.length with h' | h'
    · exact h'
    · rw [List.getElem?_eq_none h'] at hj; cases hj
  have h1 := List.all_eq_true.1 h j (List.mem_range.2 hlt)
  rw [hj] at h1
  simp only [Bool.and_eq_true, Array.all_eq_true_iff_forall_mem, Bool.or_eq_true, Bool.not_eq_true', decide_eq_true_eq] at h1
  refine ⟨Option.isNone_iff_eq_none.1 h1.1, fun e he hb => (h1.2 e he).resolve_left (by rw [hb]; simp)⟩
def tailB (l : List Oper) (n : Nat) : Bool := earlyB l && decide (n < l.length) && Region.sinkB .any l.toArray n && Region.chainB .any l.toArray n && Region.seqB .any l.toArray (l.length - n) n (Array.replicate n true ++ Array.replicate (l.length - n) false)
section
variable {P : Program} {l : List Oper} {n : Nat} {Q : Exit → Act → World → Prop}
theorem first_ready (hE : earlyB l = true) {L : Array Bool} (hs : L.size = l.length) : ∀ (i : Nat), i < L.size → L.getD i true = false → ∃ j, j ≤ i ∧ j ∈ Region.ready .any l.toArray L := by
  intro i
  induction i using Nat.strongRecOn with
  | _ i ih =>
    intro hi hun
    have hi' : i < l.length := by omega
    by_cases hr : i ∈ Region.ready .any l.toArray L
    · exact ⟨i, Nat.le_refl _, hr⟩
    · have ho : l[i]? = some l[i] := List.getElem?_eq_getElem hi'
      have hsp := early_spec hE ho
      have : ∃ e ∈ l[i].after, Region.binds .any e = true ∧ L.getD e.on false = false := by
        apply Classical.byContradiction
        intro hno
        refine hr (mem_ready.2 ⟨hun, l[i], by simp, fun e he hb => ?_⟩)
        cases h : L.getD e.on false with
        | true => rfl
        | false => exact absurd ⟨e, he, hb, h⟩ hno
      obtain ⟨e, he, hb, hf⟩ := this
      have hlt := hsp.2 e he hb
      obtain ⟨j, hj, hr'⟩ := ih e.on hlt (by omega) (getD_in (by omega) hf)
      exact ⟨j, by omega, hr'⟩
end
end Go.Proofs.YtoalecalahkblaaGreatDoor
